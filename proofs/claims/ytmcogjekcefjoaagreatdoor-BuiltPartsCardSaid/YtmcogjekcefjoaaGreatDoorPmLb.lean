/- PmLb: regions whose order is open. -/
import Derived.Test.YtmcogjekcefjoaaGreatDoorPmLa
namespace Go.Pm
open Go
def dact (P : Prg) (imp : List FuncId) (o : SOp) (k : Env → Mem → Prop) (e : Env) (m : Mem) : Prop :=
  match o.act with
  | .plain kk => match runK kk m (o.args.map (·.eval e)) with
    | some (v, m') => k (e.put o.dst v) m'
    | none => False
  | .call f => if imp.contains f then ∃ v m', ACalls P f (o.args.map (·.eval e)) m (fun out m2 => out = .ret v ∧ m2 = m') ∧ k (e.put o.dst v) m'
    else ∃ ys v, tmpAs m (o.args.map (·.eval e)) = some ys ∧ PCalls P f ys (fun out => out = .ret v) ∧ k (e.put o.dst v) m
  | .callv => if imp.contains 2000000 then ∃ f caps xs v m', o.args.map (·.eval e) = .fn f caps :: xs ∧ ACalls P f (xs ++ caps) m (fun out m2 => out = .ret v ∧ m2 = m') ∧ k (e.put o.dst v) m'
    else ∃ f caps xs ys v, o.args.map (·.eval e) = .fn f caps :: xs ∧ tmpAs m (xs ++ caps) = some ys ∧ PCalls P f ys (fun out => out = .ret v) ∧ k (e.put o.dst v) m
  | .inv nm => ∃ t x f xs ys v, o.args.map (·.eval e) = .iface t x :: xs ∧ methOf P.toProgram t nm = some f ∧ tmpAs m (x :: xs) = some ys ∧ PCalls P f ys (fun out => out = .ret v) ∧ k (e.put o.dst v) m
  | .panic | .many _ => False
def aclass (imp : List FuncId) : SAct → Nat
  | .plain k => kclass k
  | .call f => if imp.contains f then 3 else 1
  | .callv => if imp.contains 2000000 then 3 else 1
  | .inv _ => 1
  | .panic | .many _ => 4
def SOp.reads (o : SOp) : List Nat := (o.args.filterMap fun | .tmp t => some t | .lit _ => none) ++ (match o.guard with | some (t, _) => [t] | none => [])
def clash (x y : SOp) : Bool := match x.dst with
  | some d => y.reads.contains d || y.dst == some d
  | none => false
def classOk (a b : Nat) : Bool := a == 0 || b == 0 || (a == 1 && b == 1) || (a == 1 && b == 2)
def indep (imp : List FuncId) (x y : SOp) : Bool := !clash x y && !clash y x && classOk (aclass imp x.act) (aclass imp y.act)
def ancs : List Oper → List (List Nat) → List (List Nat)
  | [], acc => acc
  | o :: l, acc => ancs l (acc ++ [((o.after.toList.filter fun e => Region.binds .any e).flatMap fun e => e.on :: acc.getD e.on []).eraseDups])
def freeA (imp : List FuncId) (os : Array Oper) (sl : List SOp) (anc : List (List Nat)) (listed : Array Bool) (k : Nat) : Bool := match sl[k]? with
  | none => false
  | some x => (List.range os.size).all fun j => j == k || listed.getD j true || (anc.getD j []).contains k || match sl[j]? with
    | some y => indep imp x y
    | none => false
inductive DT where
  | done
  | step (x : SOp) (t : DT)
  | or (a b : DT)
  | last (x : SOp) (t : DT)
def altsA (g : Nat → Option DT) : List Nat → Option DT
  | [] => some .done
  | [i] => g i
  | i :: l => match g i, altsA g l with
    | some a, some b => some (.or a b)
    | _, _ => none
def mayPanic (imp : List FuncId) : SAct → Bool
  | .call f => imp.contains (f + 1000000)
  | _ => false
def treeA (imp : List FuncId) (os : Array Oper) (sl : List SOp) (anc : List (List Nat)) : Nat → Array Bool → Option DT
  | 0, listed => if (Region.ready .any os listed).isEmpty then some .done else none
  | fuel + 1, listed =>
    let r := Region.ready .any os listed
    let go := fun k => match sl[k]?, treeA imp os sl anc fuel (listed.setIfInBounds k true) with
      | some x, some t => some (if mayPanic imp x.act && r == [k] && x.guard.isNone then DT.last x t else DT.step x t)
      | _, _ => none
    match (r.filter fun i => match sl[i]? with | some x => decide (aclass imp x.act ≤ 1) && !mayPanic imp x.act | none => false).find? (freeA imp os sl anc listed) with
    | some k => if r.contains k && freeA imp os sl anc listed k then go k else none
    | none => match r.find? (freeA imp os sl anc listed) with
      | some k => if r.contains k && freeA imp os sl anc listed k then go k else none
      | none => altsA go r
def dlast (P : Prg) (imp : List FuncId) (act : SAct) (xs : List AV) (m : Mem) (pv : AV) : Prop := ∃ f ys, act = .call f ∧ imp.contains f = false ∧ tmpAs m xs = some ys ∧ PCalls P f ys (fun out => out = .panic pv)
def dops (P : Prg) (imp : List FuncId) : DT → (Env → Mem → Prop) → (AV → Mem → Prop) → Env → Mem → Prop
  | .done, k, _, e, m => k e m
  | .step o l, k, q, e, m => match o.guard with
    | none => dact P imp o (dops P imp l k q) e m
    | some (t, want) => (e.get t = uv ∧ dops P imp l k q (e.put o.dst uv) m) ∨ ∃ b, e.get t = .bool b ∧ (b = want → dact P imp o (dops P imp l k q) e m) ∧ (b = !want → dops P imp l k q (e.put o.dst uv) m)
  | .or a b, k, q, e, m => dops P imp a k q e m ∧ dops P imp b k q e m
  | .last o l, k, q, e, m => o.guard = none ∧ (dact P imp o (dops P imp l k q) e m ∨ ∃ pv, dlast P imp o.act (o.args.map (·.eval e)) m pv ∧ q pv m)
abbrev FEnv := Nat → AV
def fput (g : FEnv) (d : Option Nat) (v : AV) : FEnv := match d with
  | none => g
  | some d => fun t => if t = d then v else g t
def Opnd.evalF (g : FEnv) : Opnd → AV
  | .tmp t => g t
  | .lit a => a
def TA (P : Prg) (imp : List FuncId) (act : SAct) (xs : List AV) (m : Mem) (v : AV) (m' : Mem) : Prop :=
  match act with
  | .plain k => runK k m xs = some (v, m')
  | .call f => if imp.contains f then ACalls P f xs m (fun out m2 => out = .ret v ∧ m2 = m')
    else m' = m ∧ ∃ ys, tmpAs m xs = some ys ∧ PCalls P f ys (fun out => out = .ret v)
  | .callv => if imp.contains 2000000 then ∃ f caps zs, xs = .fn f caps :: zs ∧ ACalls P f (zs ++ caps) m (fun out m2 => out = .ret v ∧ m2 = m')
    else m' = m ∧ ∃ f caps zs ys, xs = .fn f caps :: zs ∧ tmpAs m (zs ++ caps) = some ys ∧ PCalls P f ys (fun out => out = .ret v)
  | .inv nm => m' = m ∧ ∃ t x f zs ys, xs = .iface t x :: zs ∧ methOf P.toProgram t nm = some f ∧ tmpAs m (x :: zs) = some ys ∧ PCalls P f ys (fun out => out = .ret v)
  | .panic | .many _ => False
def T (P : Prg) (imp : List FuncId) (o : SOp) (g : FEnv) (m : Mem) (v : AV) (m' : Mem) : Prop :=
  match o.guard with
  | none => TA P imp o.act (o.args.map (·.evalF g)) m v m'
  | some (t, want) => (g t = .bool want ∧ TA P imp o.act (o.args.map (·.evalF g)) m v m') ∨ ((g t = .bool (!want) ∨ g t = uv) ∧ v = uv ∧ m' = m)
def TP (P : Prg) (imp : List FuncId) (o : SOp) (g : FEnv) (m : Mem) (pv : AV) : Prop := o.guard = none ∧ dlast P imp o.act (o.args.map (·.evalF g)) m pv
def Chain (P : Prg) (imp : List FuncId) : DT → (FEnv → Mem → Prop) → (AV → Mem → Prop) → FEnv → Mem → Prop
  | .done, k, _, g, m => k g m
  | .step o l, k, q, g, m => ∃ v m', T P imp o g m v m' ∧ Chain P imp l k q (fput g o.dst v) m'
  | .or a b, k, q, g, m => Chain P imp a k q g m ∧ Chain P imp b k q g m
  | .last o l, k, q, g, m => (∃ v m', T P imp o g m v m' ∧ Chain P imp l k q (fput g o.dst v) m') ∨ ∃ pv, TP P imp o g m pv ∧ q pv m
section
variable {P : Prg} {imp : List FuncId}
theorem get_put (e : Env) (d : Option Nat) (v : AV) : (e.put d v).get = fput e.get d v := by
  funext t
  cases d with
  | none => rfl
  | some d => simp only [Env.put, fput, Env.get_set]
theorem evalF_get (e : Env) (x : Opnd) : x.evalF e.get = x.eval e := by cases x <;> rfl
theorem map_evalF (e : Env) (l : List Opnd) : l.map (·.evalF e.get) = l.map (·.eval e) := by
  apply List.map_congr_left; intro x _; exact evalF_get e x
theorem dact_step (o : SOp) (l : DT) (k : Env → Mem → Prop) (q : AV → Mem → Prop) (e : Env) (m : Mem) (ih : ∀ e m, dops P imp l k q e m → Chain P imp l (fun g m => ∃ e, e.get = g ∧ k e m) q e.get m) (h : dact P imp o (dops P imp l k q) e m) :
    ∃ v m', TA P imp o.act (o.args.map (·.evalF e.get)) m v m' ∧ Chain P imp l (fun g m => ∃ e, e.get = g ∧ k e m) q (fput e.get o.dst v) m' := by
  rw [map_evalF]
  unfold dact at h
  split at h
  · rename_i kk hact
    split at h
    · rename_i v m' hr
      exact ⟨v, m', by rw [hact]; exact hr, by rw [← get_put]; exact ih _ _ h⟩
    · exact h.elim
  · rename_i f hact
    split at h
    · rename_i hi
      obtain ⟨v, m', h1, h3⟩ := h
      exact ⟨v, m', by rw [hact]; unfold TA; simp only []; rw [if_pos hi]; exact h1, by rw [← get_put]; exact ih _ _ h3⟩
    · rename_i hi
      obtain ⟨ys, v, h1, h2, h3⟩ := h
      exact ⟨v, m, by rw [hact]; unfold TA; simp only []; rw [if_neg hi]; exact ⟨trivial, ys, h1, h2⟩, by rw [← get_put]; exact ih _ _ h3⟩
  · rename_i hact
    split at h
    · rename_i hi
      obtain ⟨f, caps, xs, v, m', h0, h1, h3⟩ := h
      exact ⟨v, m', by rw [hact]; unfold TA; simp only []; rw [if_pos hi]; exact ⟨f, caps, xs, h0, h1⟩, by rw [← get_put]; exact ih _ _ h3⟩
    · rename_i hi
      obtain ⟨f, caps, xs, ys, v, h0, h1, h2, h3⟩ := h
      exact ⟨v, m, by rw [hact]; unfold TA; simp only []; rw [if_neg hi]; exact ⟨trivial, f, caps, xs, ys, h0, h1, h2⟩, by rw [← get_put]; exact ih _ _ h3⟩
  · rename_i nm hact
    obtain ⟨t, x, f, xs, ys, v, h0, hf, h1, h2, h3⟩ := h
    exact ⟨v, m, by rw [hact]; exact ⟨rfl, t, x, f, xs, ys, h0, hf, h1, h2⟩, by rw [← get_put]; exact ih _ _ h3⟩
  · exact h.elim
  · exact h.elim
theorem dops_chain : ∀ (l : DT) (k : Env → Mem → Prop) (q : AV → Mem → Prop) (e : Env) (m : Mem), dops P imp l k q e m → Chain P imp l (fun g m => ∃ e, e.get = g ∧ k e m) q e.get m
  | .done, k, q, e, m, h => ⟨e, rfl, h⟩
  | .or a b, k, q, e, m, h => ⟨dops_chain a k q e m h.1, dops_chain b k q e m h.2⟩
  | .last o l, k, q, e, m, h => by
    obtain ⟨hg, h | ⟨pv, h, hq⟩⟩ := h
    · obtain ⟨v, m', h1, h2⟩ := dact_step o l k q e m (fun e m => dops_chain l k q e m) h
      exact .inl ⟨v, m', by unfold T; rw [hg]; exact h1, h2⟩
    · exact .inr ⟨pv, ⟨hg, by rw [map_evalF]; exact h⟩, hq⟩
  | .step o l, k, q, e, m, h => by
    have step := dact_step o l k q e m (fun e m => dops_chain l k q e m)
    unfold dops at h
    unfold Chain T
    split at h
    · rename_i hg
      obtain ⟨v, m', h1, h2⟩ := step h
      exact ⟨v, m', h1, h2⟩
    · rename_i t want hg
      rcases h with ⟨hu, h⟩ | ⟨b, hb, hyes, hno⟩
      · exact ⟨uv, m, .inr ⟨.inr hu, rfl, rfl⟩, by rw [← get_put]; exact dops_chain l k q _ _ h⟩
      by_cases hbw : b = want
      · obtain ⟨v, m', h1, h2⟩ := step (hyes hbw)
        exact ⟨v, m', .inl ⟨by rw [hb, hbw], h1⟩, h2⟩
      · have hb' : b = !want := by cases b <;> cases want <;> simp_all
        exact ⟨uv, m, .inr ⟨.inl (by rw [hb, hb']), rfl, rfl⟩, by rw [← get_put]; exact dops_chain l k q _ _ (hno hb')⟩
theorem obj_new {m : Mem} {o o' : AObj} {p g : Nat} (h : m.obj p g = some o') : (m.new o).obj p g = some o' := by
  unfold Mem.obj Mem.new at *
  simp only
  rcases Nat.lt_or_ge p m.store.length with hp | hp
  · rw [List.getElem?_append_left hp]; exact h
  · rw [List.getElem?_eq_none hp] at h; cases h
theorem class0 {k : SK} {m m' : Mem} {xs : List AV} {v : AV} (hc : kclass k = 0) (h : runK k m xs = some (v, m')) : m' = m ∧ ∀ m2, runK k m2 xs = some (v, m2) := by
  obtain ⟨h1, rfl⟩ := run_local hc h
  exact ⟨rfl, fun m2 => by simp [runK, hc, h1]⟩
theorem cellsAt_new {m : Mem} {o : AObj} {x : AV} {n : Nat} {y : List AV} (h : cellsAt m x n = some y) : cellsAt (m.new o) x n = some y := by
  cases x <;> simp only [cellsAt] at h ⊢ <;> try exact h
  case ptr pos gen off =>
    split at h
    · rename_i ho; rw [obj_new ho]; exact h
    · cases h
  case rptr pos gen sz idx off =>
    split at h
    · rename_i ho; rw [obj_new ho]; exact h
    · cases h
theorem elsOf_new {m : Mem} {o : AObj} {x : AV} {sz : Nat} {y : List (List AV)} (h : elsOf m sz x = some y) : elsOf (m.new o) sz x = some y := by
  cases x <;> simp only [elsOf] at h ⊢ <;> try exact h
  case row pos gen sz' off n =>
    split at h
    · rename_i hs
      rw [if_pos hs]
      split at h
      · rename_i ho; rw [obj_new ho]; exact h
      · cases h
    · cases h
theorem lookA_new {m : Mem} {o : AObj} {x k : AV} {y : Option AV} (h : lookA m x k = some y) : lookA (m.new o) x k = some y := by
  unfold lookA at h ⊢
  split at h
  · exact h
  · split at h
    · rename_i ho; rw [obj_new ho]; exact h
    · cases h
  · exact h
  · cases h
theorem readK_new {k : SK} {m : Mem} {o : AObj} {xs : List AV} {v : AV} (h : readK k m xs = some v) : readK k (m.new o) xs = some v := by
  unfold readK at h ⊢
  split at h
  · rename_i agg sz a
    unfold loadA at h ⊢
    split at h
    · rename_i hagg
      rw [if_pos hagg]
      simp only [Option.map_eq_some_iff] at h ⊢
      obtain ⟨y, h1, h2⟩ := h
      exact ⟨y, cellsAt_new h1, h2⟩
    · rename_i hagg
      rw [if_neg hagg]
      split at h
      · rename_i hc; rw [cellsAt_new hc]; exact h
      · cases h
  · rename_i kk zero ok x k'
    split at h
    · rename_i hk
      rw [if_pos hk]
      simp only [Option.map_eq_some_iff] at h ⊢
      obtain ⟨y, h1, h2⟩ := h
      exact ⟨y, lookA_new h1, h2⟩
    · cases h
  · rename_i x
    unfold lenMapA at h ⊢
    split at h
    · exact h
    · split at h
      · rename_i ho; rw [obj_new ho]; exact h
      · cases h
    · cases h
  · rename_i x
    split at h
    · rename_i hels; rw [elsOf_new hels]; exact h
    · cases h
  · cases h
theorem tmpB_new {m : Mem} {o : AObj} {x y : AV} (h : tmpB m x = some y) : tmpB (m.new o) x = some y := by
  cases x <;> simp only [tmpB] at h ⊢ <;> try exact h
  case row pos gen sz off n =>
    split at h
    · rename_i hels; rw [elsOf_new hels]; exact h
    · cases h
  case ptr pos gen off =>
    split at h
    · rename_i ho; rw [obj_new ho]; exact h
    · cases h
theorem tmpBs_new {m : Mem} {o : AObj} : ∀ {xs ys : List AV}, tmpBs m xs = some ys → tmpBs (m.new o) xs = some ys
  | [], _, h => h
  | x :: xs, ys, h => by
    unfold tmpBs at h ⊢
    split at h
    · rename_i y ys' h1 h2
      rw [tmpB_new h1, tmpBs_new h2]; exact h
    · cases h
theorem tmpA_new {m : Mem} {o : AObj} {x y : AV} (h : tmpA m x = some y) : tmpA (m.new o) x = some y := by
  cases x
  case fn f caps =>
    simp only [tmpA, Option.map_eq_some_iff] at h ⊢
    obtain ⟨ys, h1, h2⟩ := h
    exact ⟨ys, tmpBs_new h1, h2⟩
  case agg vs =>
    simp only [tmpA] at h ⊢
    split
    · rename_i hn; rw [if_pos hn] at h; exact h
    · rename_i hn
      rw [if_neg hn] at h
      simp only [Option.map_eq_some_iff] at h ⊢
      obtain ⟨ys, h1, h2⟩ := h
      exact ⟨ys, tmpBs_new h1, h2⟩
  all_goals (simp only [tmpA] at h ⊢; exact tmpB_new h)
theorem tmpAs_new {m : Mem} {o : AObj} : ∀ {xs ys : List AV}, tmpAs m xs = some ys → tmpAs (m.new o) xs = some ys
  | [], _, h => h
  | x :: xs, ys, h => by
    unfold tmpAs at h ⊢
    split at h
    · rename_i y ys' h1 h2
      rw [tmpA_new h1, tmpAs_new h2]; exact h
    · cases h
theorem TA_class {act : SAct} {xs : List AV} {m m' : Mem} {v : AV} (h : TA P imp act xs m v m') :
    (aclass imp act = 0 → m' = m ∧ ∀ m2, TA P imp act xs m2 v m2) ∧ (aclass imp act = 1 → m' = m) ∧ (aclass imp act = 2 → ∃ o, m' = m.new o) := by
  cases act with
  | plain k =>
    refine ⟨fun hc => class0 hc h, fun hc => (run_read hc h).2, fun hc => ?_⟩
    obtain ⟨f, o, _, _, h2⟩ := run_alloc hc h
    exact ⟨o, h2⟩
  | call f =>
    unfold TA at h
    simp only [] at h
    by_cases hi : imp.contains f = true
    · simp only [aclass, hi, if_true]
      exact ⟨fun hc => by omega, fun hc => by omega, fun hc => by omega⟩
    · rw [if_neg hi] at h
      simp only [aclass, hi]
      exact ⟨fun hc => by simp at hc, fun _ => h.1, fun hc => by simp at hc⟩
  | callv =>
    unfold TA at h
    simp only [] at h
    by_cases hi : imp.contains 2000000 = true
    · simp only [aclass, hi, if_true]
      exact ⟨fun hc => by omega, fun hc => by omega, fun hc => by omega⟩
    · rw [if_neg hi] at h
      simp only [aclass, hi]
      exact ⟨fun hc => by simp at hc, fun _ => h.1, fun hc => by simp at hc⟩
  | inv nm => exact ⟨fun hc => by simp [aclass] at hc, fun _ => h.1, fun hc => by simp [aclass] at hc⟩
  | many k => exact h.elim
  | panic => exact h.elim
theorem TA_new {act : SAct} {xs : List AV} {m : Mem} {o : AObj} {v : AV} (hc : aclass imp act = 1) (h : TA P imp act xs m v m) : TA P imp act xs (m.new o) v (m.new o) := by
  cases act with
  | plain k =>
    have hc' : kclass k = 1 := hc
    have h' := (run_read hc' h).1
    simp [TA, runK, hc', readK_new h']
  | call f =>
    unfold TA at h ⊢
    simp only [] at h ⊢
    by_cases hi : imp.contains f = true
    · simp only [aclass, hi, if_true] at hc; omega
    · rw [if_neg hi] at h ⊢
      obtain ⟨_, ys, h1, h2⟩ := h
      exact ⟨trivial, ys, tmpAs_new h1, h2⟩
  | callv =>
    unfold TA at h ⊢
    simp only [] at h ⊢
    by_cases hi : imp.contains 2000000 = true
    · simp only [aclass, hi, if_true] at hc; omega
    · rw [if_neg hi] at h ⊢
      obtain ⟨_, f, caps, zs, ys, h0, h1, h2⟩ := h
      exact ⟨trivial, f, caps, zs, ys, h0, tmpAs_new h1, h2⟩
  | inv nm =>
    obtain ⟨_, t, x, f, zs, ys, h0, hf, h1, h2⟩ := h
    exact ⟨rfl, t, x, f, zs, ys, h0, hf, tmpAs_new h1, h2⟩
  | many k => exact h.elim
  | panic => exact h.elim
theorem TA_comm {a b : SAct} {xs ys : List AV} {m m1 m2 : Mem} {v1 v2 : AV} (hc : classOk (aclass imp a) (aclass imp b) = true) (h1 : TA P imp a xs m v1 m1) (h2 : TA P imp b ys m1 v2 m2) :
    ∃ m', TA P imp b ys m v2 m' ∧ TA P imp a xs m' v1 m2 := by
  obtain ⟨a0, a1, a2⟩ := TA_class h1
  obtain ⟨b0, b1, b2⟩ := TA_class h2
  simp only [classOk, Bool.or_eq_true, Bool.and_eq_true, beq_iff_eq] at hc
  rcases hc with ((hc | hc) | hc) | hc
  · obtain ⟨rfl, h⟩ := a0 hc
    exact ⟨m2, h2, h m2⟩
  · obtain ⟨rfl, h⟩ := b0 hc
    exact ⟨m, h m, h1⟩
  · obtain rfl := a1 hc.1
    obtain rfl := b1 hc.2
    exact ⟨_, h2, h1⟩
  · obtain rfl := a1 hc.1
    obtain ⟨o, rfl⟩ := b2 hc.2
    exact ⟨_, h2, TA_new hc.1 h1⟩
theorem fput_other {g : FEnv} {d : Option Nat} {v : AV} {t : Nat} (h : d ≠ some t) : fput g d v t = g t := by
  cases d with
  | none => rfl
  | some d => simp only [fput]; rw [if_neg (fun e => h (by rw [e]))]
theorem fput_comm {g : FEnv} {d1 d2 : Option Nat} {v1 v2 : AV} (h : d1 = none ∨ d1 ≠ d2) : fput (fput g d1 v1) d2 v2 = fput (fput g d2 v2) d1 v1 := by
  funext t
  cases d1 with
  | none => rfl
  | some d1 =>
    cases d2 with
    | none => rfl
    | some d2 =>
      have : d1 ≠ d2 := fun e => (h.resolve_left (by simp)) (by rw [e])
      simp only [fput]
      split <;> split <;> first | rfl | omega
theorem args_other {o : SOp} {g : FEnv} {d : Option Nat} {v : AV} (h : ∀ t, d = some t → t ∉ o.reads) : o.args.map (·.evalF (fput g d v)) = o.args.map (·.evalF g) := by
  apply List.map_congr_left
  intro x hx
  cases x with
  | lit a => rfl
  | tmp t =>
    refine fput_other (fun e => h t e ?_)
    unfold SOp.reads
    exact List.mem_append_left _ (List.mem_filterMap.2 ⟨.tmp t, hx, rfl⟩)
theorem T_other {o : SOp} {g : FEnv} {d : Option Nat} {v v' : AV} {m m' : Mem} (h : ∀ t, d = some t → t ∉ o.reads) : T P imp o (fput g d v) m v' m' ↔ T P imp o g m v' m' := by
  unfold T
  rw [args_other h]
  cases hg : o.guard with
  | none => exact Iff.rfl
  | some tw =>
    obtain ⟨t, want⟩ := tw
    have : fput g d v t = g t := fput_other (fun e => h t e (by unfold SOp.reads; rw [hg]; simp))
    simp only [this]
theorem clash_reads {x y : SOp} (h : clash x y = false) : (∀ t, x.dst = some t → t ∉ y.reads) ∧ (x.dst = none ∨ x.dst ≠ y.dst) := by
  unfold clash at h
  cases hd : x.dst with
  | none => exact ⟨fun t e => (by cases e), .inl rfl⟩
  | some d =>
    rw [hd] at h
    simp only [Bool.or_eq_false_iff, beq_eq_false_iff_ne] at h
    refine ⟨fun t e => ?_, .inr (fun e => h.2 e.symm)⟩
    injection e with e; subst e
    simpa using h.1
theorem T_comm {x y : SOp} {g : FEnv} {m m1 m2 : Mem} {v1 v2 : AV} (hi : indep imp x y = true) (h1 : T P imp x g m v1 m1) (h2 : T P imp y (fput g x.dst v1) m1 v2 m2) :
    ∃ m', T P imp y g m v2 m' ∧ T P imp x (fput g y.dst v2) m' v1 m2 ∧ ∀ v3, fput (fput g x.dst v1) y.dst v3 = fput (fput g y.dst v3) x.dst v1 := by
  simp only [indep, Bool.and_eq_true, Bool.not_eq_true'] at hi
  obtain ⟨⟨hc1, hc2⟩, hcl⟩ := hi
  obtain ⟨r1, r3⟩ := clash_reads hc1
  obtain ⟨r2, _⟩ := clash_reads hc2
  rw [T_other r1] at h2
  simp only [T_other r2]
  have both : TA P imp x.act (x.args.map (·.evalF g)) m v1 m1 → TA P imp y.act (y.args.map (·.evalF g)) m1 v2 m2 → ∃ m', TA P imp y.act (y.args.map (·.evalF g)) m v2 m' ∧ TA P imp x.act (x.args.map (·.evalF g)) m' v1 m2 := fun a b => TA_comm hcl a b
  have hcomm : ∀ v3, fput (fput g x.dst v1) y.dst v3 = fput (fput g y.dst v3) x.dst v1 := fun v3 => fput_comm r3
  unfold T at h1 h2 ⊢
  cases hgx : x.guard with
  | none =>
    rw [hgx] at h1
    cases hgy : y.guard with
    | none => rw [hgy] at h2; obtain ⟨m', a, b⟩ := both h1 h2; exact ⟨m', a, b, hcomm⟩
    | some tw =>
      obtain ⟨t, want⟩ := tw
      rw [hgy] at h2
      rcases h2 with ⟨ht, h2⟩ | ⟨ht, rfl, rfl⟩
      · obtain ⟨m', a, b⟩ := both h1 h2; exact ⟨m', .inl ⟨ht, a⟩, b, hcomm⟩
      · exact ⟨m, .inr ⟨ht, rfl, rfl⟩, h1, hcomm⟩
  | some tw =>
    obtain ⟨t, want⟩ := tw
    rw [hgx] at h1
    rcases h1 with ⟨ht, h1⟩ | ⟨ht, rfl, rfl⟩
    · cases hgy : y.guard with
      | none => rw [hgy] at h2; obtain ⟨m', a, b⟩ := both h1 h2; exact ⟨m', a, .inl ⟨ht, b⟩, hcomm⟩
      | some tw' =>
        obtain ⟨t', want'⟩ := tw'
        rw [hgy] at h2
        rcases h2 with ⟨ht', h2⟩ | ⟨ht', rfl, rfl⟩
        · obtain ⟨m', a, b⟩ := both h1 h2; exact ⟨m', .inl ⟨ht', a⟩, .inl ⟨ht, b⟩, hcomm⟩
        · exact ⟨m, .inr ⟨ht', rfl, rfl⟩, .inl ⟨ht, h1⟩, hcomm⟩
    · exact ⟨m2, h2, .inr ⟨ht, rfl, rfl⟩, hcomm⟩
theorem TP_back {x y : SOp} {g : FEnv} {m m1 : Mem} {v pv : AV} (hi : indep imp x y = true) (h1 : T P imp x g m v m1) (h2 : TP P imp y (fput g x.dst v) m1 pv) : TP P imp y g m pv ∧ m1 = m := by
  simp only [indep, Bool.and_eq_true, Bool.not_eq_true'] at hi
  obtain ⟨⟨hc1, _⟩, hcl⟩ := hi
  obtain ⟨r1, _⟩ := clash_reads hc1
  obtain ⟨hg, f, ys, hact, hf, hx, hP⟩ := h2
  have hy : aclass imp y.act = 1 := by rw [hact]; simp [aclass]; simpa using hf
  rw [hy] at hcl
  have hcx : aclass imp x.act = 0 ∨ aclass imp x.act = 1 := by
    simp only [classOk, Bool.or_eq_true, Bool.and_eq_true, beq_iff_eq] at hcl
    omega
  have hm : m1 = m := by
    have main : TA P imp x.act (x.args.map (·.evalF g)) m v m1 → m1 = m := fun h => by
      obtain ⟨a0, a1, _⟩ := TA_class h
      rcases hcx with h | h
      · exact (a0 h).1
      · exact a1 h
    unfold T at h1
    split at h1
    · exact main h1
    · rcases h1 with ⟨_, h1⟩ | ⟨_, _, h1⟩
      · exact main h1
      · exact h1
  subst hm
  rw [args_other r1] at hx
  exact ⟨⟨hg, f, ys, hact, hf, hx, hP⟩, rfl⟩
def anyA (P : Prg) (imp : List FuncId) (os : Array Oper) (sl : List SOp) (k : FEnv → Mem → Prop) (q : AV → Mem → Prop) : Nat → Array Bool → FEnv → Mem → Prop
  | 0, listed, g, m => Region.ready .any os listed = [] ∧ k g m
  | fuel + 1, listed, g, m => (Region.ready .any os listed = [] → k g m) ∧
    ∀ i ∈ Region.ready .any os listed, ∃ y, sl[i]? = some y ∧ ((∃ v m', T P imp y g m v m' ∧ anyA P imp os sl k q fuel (listed.setIfInBounds i true) (fput g y.dst v) m') ∨ ∃ pv, TP P imp y g m pv ∧ q pv m)
def Shut (os : Array Oper) (listed : Array Bool) : Prop := ∀ (j : Nat) (oj : Oper), os[j]? = some oj → listed.getD j false = true → ∀ e ∈ oj.after, Region.binds .any e = true → listed.getD e.on false = true
theorem Shut.set {os : Array Oper} {listed : Array Bool} {i : Nat} (h : Shut os listed) (hi : i ∈ Region.ready .any os listed) : Shut os (listed.setIfInBounds i true) := by
  intro j oj hj hl e he hb
  by_cases hij : i = j
  · subst hij
    obtain ⟨_, o, ho, hall⟩ := mem_ready.1 hi
    rw [hj] at ho; injection ho with ho; subst ho
    exact getD_set_true (hall e he hb)
  · rw [getD_set_ne false hij] at hl
    exact getD_set_true (h j oj hj hl e he hb)
def AncOk (os : Array Oper) (acc : List (List Nat)) : Prop := acc.length ≤ os.size ∧ ∀ (j : Nat) (A : List Nat) (oj : Oper), acc[j]? = some A → os[j]? = some oj → ∀ listed, Shut os listed → (∀ e ∈ oj.after, Region.binds .any e = true → listed.getD e.on false = true) →
  ∀ i ∈ A, listed.getD i false = true
theorem ancs_ok {os : Array Oper} : ∀ (l : List Oper) (acc : List (List Nat)), (∀ (j : Nat) (o : Oper), l[j]? = some o → os[acc.length + j]? = some o) → AncOk os acc → AncOk os (ancs l acc)
  | [], acc, _, h => h
  | o :: l, acc, hl, h => by
    unfold ancs
    have ho : os[acc.length]? = some o := hl 0 o rfl
    have hlt : acc.length < os.size := (Array.getElem?_eq_some_iff.1 ho).1
    refine ancs_ok l _ (fun j o' hj => ?_) ⟨by simp; omega, ?_⟩
    · have := hl (j + 1) o' hj
      simp only [List.length_append, List.length_cons, List.length_nil]
      rw [show acc.length + (0 + 1) + j = acc.length + (j + 1) by omega]; exact this
    · intro j A oj hA hoj listed hs hall i hi
      rcases get_append_one hA with hA | ⟨rfl, rfl⟩
      · exact h.2 j A oj hA hoj listed hs hall i hi
      · rw [ho] at hoj; injection hoj with hoj; subst hoj
        rw [List.mem_eraseDups, List.mem_flatMap] at hi
        obtain ⟨e, he, hi⟩ := hi
        obtain ⟨he, hb⟩ := List.mem_filter.1 he
        have hel := hall e (by simpa using he) hb
        rcases List.mem_cons.1 hi with rfl | hi
        · exact hel
        · cases hacc : acc[e.on]? with
          | none => simp [hacc] at hi
          | some A' =>
            have hi' : i ∈ A' := by simpa [hacc] using hi
            have hlt' : e.on < os.size := Nat.lt_of_lt_of_le (List.getElem?_eq_some_iff.1 hacc).1 h.1
            exact h.2 e.on A' os[e.on] hacc (by simp [hlt']) listed hs (fun e' he' hb' => hs e.on os[e.on] (by simp [hlt']) hel e' he' hb') i hi'
theorem not_anc {os : Array Oper} {anc : List (List Nat)} (hanc : AncOk os anc) {listed : Array Bool} (hs : Shut os listed) {i j : Nat} (hi : listed.getD i true = false) (hj : j ∈ Region.ready .any os listed) : (anc.getD j []).contains i = false := by
  cases hc : (anc.getD j []).contains i with
  | false => rfl
  | true =>
    exfalso
    obtain ⟨_, oj, hoj, hall⟩ := mem_ready.1 hj
    cases hA : anc[j]? with
    | none => simp [hA] at hc
    | some A =>
      have hm : i ∈ A := by simpa [hA] using hc
      have := hanc.2 j A oj hA hoj listed hs hall i hm
      rcases Nat.lt_or_ge i listed.size with h' | h'
      · simp [h'] at hi this; rw [hi] at this; cases this
      · simp [Array.getElem?_eq_none h'] at this
theorem anyA_first {os : Array Oper} {sl : List SOp} {anc : List (List Nat)} (hanc : AncOk os anc) {k : FEnv → Mem → Prop} {q : AV → Mem → Prop} {i : Nat} {x : SOp} {v : AV} (hx : sl[i]? = some x) :
    ∀ (fuel : Nat) (listed : Array Bool) (g : FEnv) (m m1 : Mem), Shut os listed →
      (∀ j, j < os.size → j ≠ i → listed.getD j true = false → (anc.getD j []).contains i = false → ∀ y, sl[j]? = some y → indep imp x y = true) →
      i ∈ Region.ready .any os listed → T P imp x g m v m1 →
      anyA P imp os sl k q fuel (listed.setIfInBounds i true) (fput g x.dst v) m1 → anyA P imp os sl k q (fuel + 1) listed g m := by
  intro fuel
  induction fuel with
  | zero =>
    intro listed g m m1 _ _ hr hT H
    refine ⟨fun h => (by rw [h] at hr; cases hr), fun j hj => ?_⟩
    by_cases hji : j = i
    · subst hji; exact ⟨x, hx, .inl ⟨v, m1, hT, H⟩⟩
    · have := ready_mono hj hji
      rw [H.1] at this
      cases this
  | succ fuel ih =>
    intro listed g m m1 hs hfree hr hT H
    refine ⟨fun h => (by rw [h] at hr; cases hr), fun j hj => ?_⟩
    by_cases hji : j = i
    · subst hji; exact ⟨x, hx, .inl ⟨v, m1, hT, H⟩⟩
    · obtain ⟨y, hy, hH⟩ := H.2 j (ready_mono hj hji)
      obtain ⟨hjun, oj, hoj, hall⟩ := mem_ready.1 hj
      have hind := hfree j (Array.getElem?_eq_some_iff.1 hoj).1 hji hjun (not_anc hanc hs (mem_ready.1 hr).1 hj) y hy
      rcases hH with ⟨v2, m2, hT2, H2⟩ | ⟨pv, hTP, hq⟩
      case inr =>
        obtain ⟨h1, h2⟩ := TP_back hind hT hTP
        exact ⟨y, hy, .inr ⟨pv, h1, h2 ▸ hq⟩⟩
      obtain ⟨m', h3, h4, h5⟩ := T_comm hind hT hT2
      refine ⟨y, hy, .inl ⟨v2, m', h3, ?_⟩⟩
      have hfree' : ∀ k, k < os.size → k ≠ i → (listed.setIfInBounds j true).getD k true = false → (anc.getD k []).contains i = false → ∀ y, sl[k]? = some y → indep imp x y = true := fun k hk hki hun hno y hy => by
        refine hfree k hk hki ?_ hno y hy
        by_cases hjk : j = k
        · subst hjk; exact hjun
        · rw [getD_set_ne true hjk] at hun; exact hun
      refine ih (listed.setIfInBounds j true) _ m' m2 (hs.set hj) hfree' (ready_mono hr (Ne.symm hji)) h4 ?_
      rw [Array.setIfInBounds_comm _ _ hji, ← h5 v2]
      exact H2
theorem freeA_spec {os : Array Oper} {sl : List SOp} {anc : List (List Nat)} {listed : Array Bool} {i : Nat} {x : SOp} (hx : sl[i]? = some x) (h : freeA imp os sl anc listed i = true) (j : Nat)
    (hj : j < os.size) (hne : j ≠ i) (hun : listed.getD j true = false) (hno : (anc.getD j []).contains i = false) (y : SOp) (hy : sl[j]? = some y) : indep imp x y = true := by
  simp only [freeA, hx, List.all_eq_true, List.mem_range] at h
  have h1 := h j hj
  simpa only [hy, Bool.or_eq_true, beq_iff_eq, hne, false_or, hun, Bool.false_eq_true, hno] using h1
theorem altsA_mem {f : Nat → Option DT} {k : FEnv → Mem → Prop} {q : AV → Mem → Prop} {g : FEnv} {m : Mem} : ∀ (l : List Nat) (t : DT), altsA f l = some t → Chain P imp t k q g m → ∀ i ∈ l, ∃ ti, f i = some ti ∧ Chain P imp ti k q g m
  | [], _, _, _, i, hi => by cases hi
  | [j], t, h, hc, i, hi => by
    have : i = j := by simpa using hi
    subst this; exact ⟨t, h, hc⟩
  | j :: j' :: l, t, h, hc, i, hi => by
    unfold altsA at h
    split at h
    · rename_i a b ha hb
      injection h with h; subst h
      rcases List.mem_cons.1 hi with rfl | hi
      · exact ⟨a, ha, hc.1⟩
      · exact altsA_mem (j' :: l) b hb hc.2 i hi
    · cases h
theorem anyA_tree {os : Array Oper} {sl : List SOp} {anc : List (List Nat)} (hanc : AncOk os anc) {k : FEnv → Mem → Prop} {q : AV → Mem → Prop} : ∀ (fuel : Nat) (t : DT) (listed : Array Bool) (g : FEnv) (m : Mem), Shut os listed → treeA imp os sl anc fuel listed = some t →
    Chain P imp t k q g m → anyA P imp os sl k q fuel listed g m
  | 0, t, listed, g, m, hs, ho, h => by
    unfold treeA at ho
    split at ho
    · rename_i he; injection ho with ho; subst ho; exact ⟨by simpa using he, h⟩
    · cases ho
  | fuel + 1, t, listed, g, m, hs, ho, h => by
    have one : ∀ kk t, (match sl[kk]?, treeA imp os sl anc fuel (listed.setIfInBounds kk true) with
        | some x, some t => some (if mayPanic imp x.act && Region.ready .any os listed == [kk] && x.guard.isNone then DT.last x t else DT.step x t)
        | _, _ => none) = some t → Chain P imp t k q g m → ∃ x t', sl[kk]? = some x ∧ treeA imp os sl anc fuel (listed.setIfInBounds kk true) = some t' ∧
          ((∃ v m', T P imp x g m v m' ∧ Chain P imp t' k q (fput g x.dst v) m') ∨ (Region.ready .any os listed = [kk] ∧ ∃ pv, TP P imp x g m pv ∧ q pv m)) := by
      intro kk t hg h
      split at hg
      · rename_i x t' hx ht
        injection hg with hg; subst hg
        refine ⟨x, t', hx, ht, ?_⟩
        split at h
        · rename_i hl
          simp only [Bool.and_eq_true, beq_iff_eq] at hl
          rcases h with h | h
          · exact .inl h
          · exact .inr ⟨hl.1.2, h⟩
        · exact .inl h
      · cases hg
    have first : ∀ kk t, ((Region.ready .any os listed).contains kk && freeA imp os sl anc listed kk) = true → (match sl[kk]?, treeA imp os sl anc fuel (listed.setIfInBounds kk true) with
        | some x, some t => some (if mayPanic imp x.act && Region.ready .any os listed == [kk] && x.guard.isNone then DT.last x t else DT.step x t)
        | _, _ => none) = some t → Chain P imp t k q g m → anyA P imp os sl k q (fuel + 1) listed g m := by
      intro kk t hk hg h
      simp only [Bool.and_eq_true] at hk
      obtain ⟨x, t', hx, ht, ⟨v, m', hT, h⟩ | ⟨hr, pv, hTP, hq⟩⟩ := one kk t hg h
      · have hr : kk ∈ Region.ready .any os listed := by simpa using hk.1
        exact anyA_first hanc hx fuel listed g m m' hs (fun j hj hne hun hno y hy => freeA_spec hx hk.2 j hj hne hun hno y hy) hr hT (anyA_tree hanc fuel t' _ _ _ (hs.set hr) ht h)
      · refine ⟨fun h => (by rw [hr] at h; cases h), fun i hi => ?_⟩
        rw [hr] at hi
        have : i = kk := by simpa using hi
        subst this
        exact ⟨x, hx, .inr ⟨pv, hTP, hq⟩⟩
    unfold treeA at ho
    simp only [] at ho
    split at ho
    · split at ho
      · rename_i hk; exact first _ _ hk ho h
      · cases ho
    · split at ho
      · split at ho
        · rename_i hk; exact first _ _ hk ho h
        · cases ho
      · refine ⟨fun hr => ?_, fun i hi => ?_⟩
        · rw [hr] at ho
          simp only [altsA, Option.some.injEq] at ho
          subst ho; exact h
        · obtain ⟨ti, hti, hc⟩ := altsA_mem _ _ ho h i hi
          obtain ⟨x, t', hx, ht, ⟨v, m', hT, hc⟩ | ⟨_, pv, hTP, hq⟩⟩ := one i ti hti hc
          · exact ⟨x, hx, .inl ⟨v, m', hT, anyA_tree hanc fuel t' _ _ _ (hs.set hi) ht hc⟩⟩
          · exact ⟨x, hx, .inr ⟨pv, hTP, hq⟩⟩
theorem shut_none {os : Array Oper} {n : Nat} : Shut os (Array.replicate n false) := by
  intro j oj hj hl
  rcases Nat.lt_or_ge j n with h | h
  · simp [h] at hl
  · simp [h] at hl
theorem anc_all (os : Array Oper) : AncOk os (ancs os.toList []) := ancs_ok os.toList [] (fun j o h => by simpa using h) ⟨by simp, fun j A oj h => by simp at h⟩
end
end Go.Pm
