/- PmM: code, resolved; what it does, as a predicate; calls. -/
import Derived.RangeFuncOwn
import Derived.Test.YtmcogjekcefjoaaGreatDoorPmW
namespace Go.Pm
open Go
inductive SC where
  | skip
  | ops (l : List SOp) (drop : List Nat)
  | draw (l : DT) (drop : List Nat)
  | seq (a b : SC)
  | cond (c : Opnd) (a b : SC)
  | block (id : Nat) (a : SC)
  | loop (a : SC)
  | exit (id : Nat)
  | ret
  | rangeF (g : Opnd) (ps : List Nat) (a b : SC)
  deriving Inhabited
def SC.flat : SC → Bool
  | .seq a b | .cond _ a b => a.flat && b.flat
  | .block _ a | .loop a => a.flat
  | .rangeF .. => false
  | _ => true
inductive AX where
  | norm
  | exit (id : Nat)
  | ret
  | panic (v : AV)
def guardOf (all : Array Oper) : Option (Nat × Bool) → Option (Option (Nat × Bool))
  | none => some none
  | some (j, want) => match (all[j]?).bind (·.dst) with
    | some t => some (some (t, want))
    | none => none
def methAt (all : Array Oper) (j : Nat) : Option String := (all.toList.find? fun o => o.dst == some j).bind fun o => match o.op with
  | .makeFunc (.method nm) _ _ => some nm
  | _ => none
def compActM (P : Program) (all : Array Oper) (o : Op) : Option SAct := match o with
  | .nilCheck (.tmp j) => match methAt all j with
    | some nm => some (.plain (.nilCheckM nm (oksOf P nm)))
    | none => compAct P o
  | o => compAct P o
def compSOp (P : Program) (all : Array Oper) (o : Oper) (g : Option (Nat × Bool)) : SOp := match compActM P all o.op, compArgs o.op with
  | some act, some args => ⟨o.dst, act, args, g⟩
  | _, _ => ⟨o.dst, .plain .stuck, [], g⟩
def compOne (P : Program) (N : Nat) (all : Array Oper) (o : Oper) : Option SOp :=
  match guardOf all o.guard with
  | some g => if (match o.dst with | some d => decide (d < N) | none => true) then some (compSOp P all o g) else none
  | none => none
def compOps (P : Program) (N : Nat) (all : Array Oper) : List Oper → Option (List SOp)
  | [] => some []
  | o :: l => match compOne P N all o, compOps P N all l with
    | some s, some r => some (s :: r)
    | _, _ => none
def compCode (P : Program) (imp : List FuncId) (N : Nat) : Code → Option SC
  | .skip => some .skip
  | .label _ => some .skip
  | .region _ os draw => if draw then (if P.follows .mixedOrders then match compOps P N os os.toList with
      | some sl => (treeA imp os sl (ancs os.toList []) os.size (Array.replicate os.size false)).map fun l => .draw l []
      | none => none
    else none) else (compOps P N os os.toList).map fun l => .ops l []
  | .seq a b => match compCode P imp N a, compCode P imp N b with
    | some x, some y => some (.seq x y)
    | _, _ => none
  | .cond c a b => match opnd c, compCode P imp N a, compCode P imp N b with
    | some c, some x, some y => some (.cond c x y)
    | _, _, _ => none
  | .block id a => (compCode P imp N a).map (.block id)
  | .loop a => (compCode P imp N a).map .loop
  | .exit id => some (.exit id)
  | .ret => some .ret
  | .scope a => compCode P imp N a
  | .rangeFunc g ps a b => match opnd g, compCode P imp N a, compCode P imp N b with
    | some g, some x, some y => if x.flat && y.flat && ps.toList.all (· < N) then some (.rangeF g ps.toList x y) else none
    | _, _, _ => none
  | _ => none
def SC.strip : SC → SC
  | .skip => .skip
  | .ops l _ => .ops l []
  | .draw l _ => .draw l []
  | .seq a b => .seq a.strip b.strip
  | .cond c a b => .cond c a.strip b.strip
  | .block id a => .block id a.strip
  | .loop a => .loop a.strip
  | .exit id => .exit id
  | .ret => .ret
  | .rangeF g ps a b => .rangeF g ps a.strip b.strip
theorem SC.flat_strip : ∀ a : SC, a.strip.flat = a.flat
  | .skip | .ops .. | .draw .. | .exit _ | .ret | .rangeF .. => rfl
  | .seq a b => by simp only [strip, flat, flat_strip a, flat_strip b]
  | .cond c a b => by simp only [strip, flat, flat_strip a, flat_strip b]
  | .block id a => by simp only [strip, flat, flat_strip a]
  | .loop a => by simp only [strip, flat, flat_strip a]
def loopOk (P : Program) (imp : List FuncId) (ps : List Nat) (a b : SC) : Loop → Prop := fun r =>
  r.params = ps.toArray ∧ compCode P imp r.tmps.size r.assign = some a.strip ∧ compCode P imp r.tmps.size r.body = some b.strip ∧ a.flat = true ∧ b.flat = true ∧ ps.all (· < r.tmps.size) = true ∧ ∃ fn, P.funcs[r.fn]? = some fn
abbrev Post := AX → Env → Mem → Prop
def callArgs : List AV → Option (FuncId × List AV)
  | .fn f caps :: xs => some (f, xs ++ caps)
  | _ => none
def wact (P : Prg) (o : SOp) (k : Env → Mem → Prop) (Q : Post) (e : Env) (m : Mem) : Prop :=
  match o.act with
  | .plain kk => match runK kk m (o.args.map (·.eval e)) with
    | some (v, m') => k (e.put o.dst v) m'
    | none => False
  | .many kk => ∃ W, runN kk m (o.args.map (·.eval e)) = some W ∧ W fun v m' => k (e.put o.dst v) m'
  | .call f => ∃ R, ACalls P f (o.args.map (·.eval e)) m R ∧ ∀ out m', R out m' → match out with
    | .ret v => k (e.put o.dst v) m'
    | .panic v => Q (.panic v) e m'
  | .inv nm => ∃ t x f xs, o.args.map (·.eval e) = .iface t x :: xs ∧ methOf P.toProgram t nm = some f ∧ ∃ R, ACalls P f (x :: xs) m R ∧ ∀ out m', R out m' → match out with
    | .ret v => k (e.put o.dst v) m'
    | .panic v => Q (.panic v) e m'
  | .callv => match callArgs (o.args.map (·.eval e)) with
    | some (f, xs) => ∃ R, ACalls P f xs m R ∧ ∀ out m', R out m' → match out with
      | .ret v => k (e.put o.dst v) m'
      | .panic v => Q (.panic v) e m'
    | none => ∃ pos gen xs, o.args.map (·.eval e) = .yield pos gen :: xs ∧ ∃ R, YCalls P pos gen xs m R ∧ ∀ out m', R out m' → match out with
      | .ret v => k (e.put o.dst v) m'
      | .panic v => Q (.panic v) e m'
  | .panic => ∃ t v, o.args.map (·.eval e) = [AV.iface t v] ∧ Q (.panic (.iface t v)) e m
def wops (P : Prg) : List SOp → (Env → Mem → Prop) → Post → Env → Mem → Prop
  | [], k, _, e, m => k e m
  | o :: l, k, Q, e, m => match o.guard with
    | none => wact P o (wops P l k Q) Q e m
    | some (t, want) => (e.get t = uv ∧ wops P l k Q (e.put o.dst uv) m) ∨ ∃ b, e.get t = .bool b ∧ (b = want → wact P o (wops P l k Q) Q e m) ∧ (b = !want → wops P l k Q (e.put o.dst uv) m)
def Env.le (e' e : Env) : Prop := ∀ t, e'.get t = .any ∨ e'.get t = e.get t
def Mem.le (m' m : Mem) : Prop := m'.next = m.next ∧ ∃ n, m'.store = m.store.take n
structure St (β : Base) (N : Nat) (e : Env) (m : Mem) (a : Act) (w : World) (σ : Sig) (K : Bool → Nat → Prop) : Prop where
  rel : Rel β K σ m w
  env : EnvR σ K w e a
  defers : a.defers = β.D
  size : a.tmps.size = N
def Sim (e' : Env) (m' : Mem) (e : Env) (m : Mem) : Prop := ∀ (β : Base) (N : Nat) (a : Act) (w : World) (σ : Sig) (K : Bool → Nat → Prop), St β N e m a w σ K → ∃ σ' K', σ <+: σ' ∧ (∀ p b, K p b → K' p b) ∧ St β N e' m' a w σ' K'
def wp (P : Prg) (imp : List FuncId) : SC → Post → Env → Mem → Prop
  | .skip, Q, e, m => Q .norm e m
  | .ops l drop, Q, e, m => wops P l (fun e m => Q .norm (e.drop drop) m) Q e m
  | .draw l drop, Q, e, m => dops P imp l (fun e m => Q .norm (e.drop drop) m) (fun v m => Q (.panic v) [] m) e m
  | .seq a b, Q, e, m => wp P imp a (fun x e m => match x with | .norm => wp P imp b Q e m | x => Q x e m) e m
  | .cond c a b, Q, e, m => ∃ t, c.eval e = .bool t ∧ (t = true → wp P imp a Q e m) ∧ (t = false → wp P imp b Q e m)
  | .block id a, Q, e, m => wp P imp a (fun x e m => match x with | .exit j => if j = id then Q .norm e m else Q (.exit j) e m | x => Q x e m) e m
  | .loop a, Q, e, m => ∃ I : Nat → Env → Mem → Prop, (∃ n e' m', Sim e' m' e m ∧ I n e' m') ∧
      ∀ n e m, I n e m → wp P imp a (fun x e m => match x with | .norm => ∃ n' e' m', n' < n ∧ Sim e' m' e m ∧ I n' e' m' | x => Q x e m) e m
  | .exit id, Q, e, m => Q (.exit id) e m
  | .ret, Q, e, m => Q .ret e m
  | .rangeF g ps a b, Q, e', m' => ∃ e m, Sim e m e' m' ∧ ∃ f caps R, g.eval e = .fn f caps ∧ ACalls P f (.yield m.store.length m.next :: caps) (m.new (.loop .ready e (loopOk P imp ps a b))) R ∧ ∀ out m', R out m' → match out with
    | .panic v => Q (.panic v) e m'
    | .ret _ => ∃ st e' ok, m'.obj m.store.length m.next = some (.loop st e' ok) ∧ (match st with
      | .ready => Q .norm e (m'.put m.store.length m.next .hole)
      | .ret => Q .ret e (m'.put m.store.length m.next .hole)
      | .exit id => Q (.exit id) e (m'.put m.store.length m.next .hole)
      | .busy => False)
section
variable {P : Prg} {β : Base} {σ : Sig} {K : Bool → Nat → Prop} {w w' : World} {m m' : Mem}
def exitR (σ : Sig) (K : Bool → Nat → Prop) (w : World) : AX → Exit → Prop
  | .norm, .normal => True
  | .exit id, .exit j => j = id
  | .ret, .ret => True
  | .panic v, .panic chain => ∃ u, chain = [{ v := u, recovered := false }] ∧ VR σ K w v u
  | _, _ => False
def mark (D : Nat) : Deferred := { target := .collected D, args := #[] }
def Base.also (β : Base) (Ds : List Nat) : Base := { β with D := Ds.map mark ++ β.D, frz := Ds ++ β.frz }
theorem Base.also_nil (β : Base) : β.also [] = β := rfl
theorem Base.also_also (β : Base) (l l' : List Nat) : (β.also l).also l' = β.also (l' ++ l) := by simp [Base.also]
def conc (z : Prop) (β : Base) (N : Nat) (σ0 : Sig) (K0 : Bool → Nat → Prop) (w0 : World) (Q : Post) (x : Exit) (a : Act) (w : World) : Prop :=
  ∃ Ds ax e m σ K, Q ax e m ∧ exitR σ K w ax x ∧ St (β.also Ds) N e m a w σ K ∧ (σ0 <+: σ ∧ (∀ p b, K0 p b → K p b) ∧ ∀ p b, K0 p b → w.heap[b]? = w0.heap[b]?) ∧ (z → Ds = [])
theorem Env.get_drop (e : Env) (l : List Nat) (t : Nat) : (e.drop l).get t = .any ∨ (e.drop l).get t = e.get t := by
  induction e with
  | nil => exact .inr rfl
  | cons p e ih =>
    obtain ⟨j, x⟩ := p
    unfold Env.drop at ih ⊢
    by_cases hj : (!l.contains j) = true
    · rw [List.filter_cons_of_pos (p := fun p : Nat × AV => !l.contains p.1) hj]
      simp only [Env.get]
      split
      · exact .inr rfl
      · exact ih
    · rw [List.filter_cons_of_neg (p := fun p : Nat × AV => !l.contains p.1) hj]
      by_cases ht : j = t
      · subst ht
        left
        have : ∀ (e : Env), Env.get (e.filter fun p => !l.contains p.1) j = .any := by
          intro e
          induction e with
          | nil => rfl
          | cons q e ih2 =>
            obtain ⟨i, y⟩ := q
            by_cases hi : (!l.contains i) = true
            · rw [List.filter_cons_of_pos (p := fun p : Nat × AV => !l.contains p.1) hi]
              simp only [Env.get]
              split
              · rename_i h; subst h; exact absurd hi hj
              · exact ih2
            · rw [List.filter_cons_of_neg (p := fun p : Nat × AV => !l.contains p.1) hi]; exact ih2
        exact this e
      · simp only [Env.get, if_neg ht]
        exact ih
theorem EnvR.le {e e' : Env} {a : Act} (h : EnvR σ K w e a) (hle : Env.le e' e) : EnvR σ K w e' a := by
  intro t
  rcases hle t with h1 | h1
  · rw [h1]; simp [VR]
  · rw [h1]; exact h t
theorem EnvR.mono {σ' : Sig} {K' : Bool → Nat → Prop} {e : Env} {a : Act} (h : EnvR σ K w e a) (hσ : σ <+: σ') (hK : ∀ p b, K p b → K' p b) (hw : ∀ p b, K p b → w'.heap[b]? = w.heap[b]?) : EnvR σ' K' w' e a :=
  fun t => VR.mono hσ hK hw _ _ (h t)
theorem EnvR.put {e : Env} {a : Act} {v : AV} {u : Value} {d : Option Nat} {N : Nat} (h : EnvR σ K w e a) (hv : VR σ K w v u) (hd : (match d with | some d => decide (d < N) | none => true) = true) (hs : a.tmps.size = N) : EnvR σ K w (e.put d v) (a.put d u) := by
  cases d with
  | none => exact h
  | some d =>
    simp only [decide_eq_true_eq] at hd
    intro t
    simp only [Env.put, Env.get_set, Act.put]
    by_cases ht : t = d
    · subst ht
      rw [if_pos rfl]
      simpa [Array.getD, hs, hd] using hv
    · rw [if_neg ht]
      have := h t
      have e : (a.tmps.setIfInBounds d u).getD t undef = a.tmps.getD t undef := by
        simp [Array.getD_eq_getD_getElem?, Ne.symm ht]
      rw [e]; exact this
theorem Act.put_size (a : Act) (d : Option Nat) (u : Value) : (a.put d u).tmps.size = a.tmps.size := by cases d <;> simp [Act.put]
theorem Act.put_defers (a : Act) (d : Option Nat) (u : Value) : (a.put d u).defers = a.defers := by cases d <;> rfl
theorem compAct_plain {o : Op} {kk : SK} (h : compAct P o = some (.plain kk)) : compK P o = some kk ∧ compArgs o = opnds (Op.args o) := by
  unfold compAct at h
  split at h
  · cases h
  · rename_i c
    split at h
    · cases h
    · cases h
    · cases h
    · rename_i hc1 hc2 hc3
      simp only [Option.map_eq_some_iff, SAct.plain.injEq, exists_eq_right] at h
      refine ⟨h, ?_⟩
      obtain ⟨callee, args, ts⟩ := c
      simp only at hc2 hc3
      cases callee with
      | value f =>
        cases f with
        | tmp t => exact absurd rfl (hc2 t)
        | _ => rfl
      | invoke r nm =>
        cases r with
        | tmp t => exact absurd rfl (hc3 t nm)
        | _ => rfl
      | _ => rfl
  · split at h
    · cases h
    simp only [Option.map_eq_some_iff, SAct.plain.injEq, exists_eq_right] at h
    refine ⟨h, ?_⟩
    rename_i hp hc _ _
    cases o <;> first | rfl | exact (hp _ rfl).elim | exact (hc _ rfl).elim
theorem compAct_call {o : Op} {f : FuncId} (h : compAct P o = some (.call f)) : ∃ c, o = .call c ∧ c.callee = .value (.func f) ∧ compArgs o = opnds c.args.toList := by
  unfold compAct at h
  split at h
  · cases h
  · rename_i c
    split at h
    · rename_i f' hf
      injection h with h; injection h with h; subst h
      exact ⟨c, rfl, hf, by unfold compArgs; simp only [hf]⟩
    · cases h
    · cases h
    · simp only [Option.map_eq_some_iff, reduceCtorEq, and_false, exists_false] at h
  · split at h
    · cases h
    simp only [Option.map_eq_some_iff, reduceCtorEq, and_false, exists_false] at h
theorem compAct_callv {o : Op} (h : compAct P o = some .callv) : ∃ c t, o = .call c ∧ c.callee = .value (.tmp t) ∧ compArgs o = opnds (.tmp t :: c.args.toList) := by
  unfold compAct at h
  split at h
  · cases h
  · rename_i c
    split at h
    · cases h
    · rename_i t ht
      exact ⟨c, t, rfl, ht, by unfold compArgs; simp only [ht]⟩
    · cases h
    · simp only [Option.map_eq_some_iff, reduceCtorEq, and_false, exists_false] at h
  · split at h
    · cases h
    simp only [Option.map_eq_some_iff, reduceCtorEq, and_false, exists_false] at h
theorem compAct_inv {o : Op} {nm : String} (h : compAct P o = some (.inv nm)) : ∃ c t, o = .call c ∧ c.callee = .invoke (.tmp t) nm ∧ compArgs o = opnds (.tmp t :: c.args.toList) := by
  unfold compAct at h
  split at h
  · cases h
  · rename_i c
    split at h
    · cases h
    · cases h
    · rename_i t nm' ht
      injection h with h; injection h with h; subst h
      exact ⟨c, t, rfl, ht, by unfold compArgs; simp only [ht]⟩
    · simp only [Option.map_eq_some_iff, reduceCtorEq, and_false, exists_false] at h
  · split at h
    · cases h
    simp only [Option.map_eq_some_iff, reduceCtorEq, and_false, exists_false] at h
theorem compAct_panic {o : Op} (h : compAct P o = some .panic) : ∃ x, o = .panic x ∧ compArgs o = opnds [x] := by
  unfold compAct at h
  split at h
  · rename_i x; exact ⟨x, rfl, rfl⟩
  · rename_i c
    split at h
    · cases h
    · cases h
    · cases h
    · simp only [Option.map_eq_some_iff, reduceCtorEq, and_false, exists_false] at h
  · split at h
    · cases h
    simp only [Option.map_eq_some_iff, reduceCtorEq, and_false, exists_false] at h
theorem compAct_many {o : Op} {k : NK} (h : compAct P o = some (.many k)) : compN P o = some k ∧ compArgs o = opnds (Op.args o) := by
  unfold compAct at h
  split at h
  · cases h
  · split at h
    · cases h
    · cases h
    · cases h
    · simp only [Option.map_eq_some_iff, reduceCtorEq, and_false, exists_false] at h
  · split at h
    · rename_i hp hc k' hk
      injection h with h; injection h with h; subst h
      refine ⟨hk, ?_⟩
      cases o <;> first | rfl | exact (hp _ rfl).elim | exact (hc _ rfl).elim
    · simp only [Option.map_eq_some_iff, reduceCtorEq, and_false, exists_false] at h
theorem compActM_cases {all : Array Oper} {o : Op} {act : SAct} (h : compActM P all o = some act) : compAct P o = some act ∨ ∃ y nm, o = .nilCheck y ∧ act = .plain (.nilCheckM nm (oksOf P nm)) ∧ compArgs o = opnds (Op.args o) := by
  unfold compActM at h
  split at h
  · split at h
    · injection h with h; subst h
      exact .inr ⟨_, _, rfl, rfl, rfl⟩
    · exact .inl h
  · exact .inl h
theorem compOne_cases {N : Nat} {all : Array Oper} {o : Oper} {so : SOp} (h : compOne P N all o = some so) : guardOf all o.guard = some so.guard ∧ so.dst = o.dst ∧ (match o.dst with | some d => decide (d < N) | none => true) = true ∧
    (so.act = .plain .stuck ∨ (compActM P all o.op = some so.act ∧ compArgs o.op = some so.args)) := by
  unfold compOne at h
  split at h
  case h_2 => cases h
  rename_i g hg
  simp only [Option.ite_none_right_eq_some, Option.some.injEq] at h
  obtain ⟨hd, rfl⟩ := h
  unfold compSOp
  split
  · rename_i h1 h2
    exact ⟨hg, rfl, hd, .inr ⟨h1, h2⟩⟩
  · exact ⟨hg, rfl, hd, .inl rfl⟩
theorem run_callFunc {f : FuncId} {fn : Func} (hf : P.funcs[f]? = some fn) (hb : fn.body.isSome = true) (hn : (fn.name == "runtime.NumGoroutine") = false) (args : Array Value) (w : World) : (callFunc f args).run P w = .ok (.enter f args) w := by
  obtain ⟨c, hc⟩ := Option.isSome_iff_exists.1 hb
  unfold callFunc
  simp only [Sem.run_bind, run_program, Result.andThen_ok, hf, hn, hc, Option.isNone_some, Bool.false_eq_true, if_false, Sem.run_pure]
theorem toArray_map {α γ : Type} (f : α → γ) (l : Array α) : (List.map f l.toList).toArray = l.map f := by apply Array.ext'; simp
theorem wact_sound (hβ : β.fits P) {r : Option Nat} {n : Nat} {N : Nat} {o : Oper} {so : SOp} {all : Array Oper} (hc : compOne P N all o = some so) {k : Env → Mem → Prop} {Q : Post} {e : Env} {m : Mem} {a : Act} {w : World} {σ : Sig} {K : Bool → Nat → Prop}
    (h : wact P so k Q e m) (hst : St β N e m a w σ K) {next : Act → World → Prop} {Qc : Exit → Act → World → Prop}
    (hk : ∀ e' m' a' w' σ' K', k e' m' → St β N e' m' a' w' σ' K' → σ <+: σ' → (∀ p b, K p b → K' p b) → (∀ p b, K p b → w'.heap[b]? = w.heap[b]?) → next a' w')
    (hq : ∀ v e' m' a' w' σ' K' u, Q (.panic v) e' m' → St β N e' m' a' w' σ' K' → σ <+: σ' → (∀ p b, K p b → K' p b) → (∀ p b, K p b → w'.heap[b]? = w.heap[b]?) → VR σ' K' w' v u → Qc (.panic [{ v := u, recovered := false }]) a' w') :
    o.wpIn (fenceR r) n P a w next Qc := by
  obtain ⟨hg, hsd, hd, hcc⟩ := compOne_cases hc
  clear hc
  obtain ⟨dst, act, args, g⟩ := so
  simp only at hg hsd hcc
  subst hsd
  rcases hcc with rfl | ⟨hact, hargs⟩
  · exact h.elim
  have hnd : ∀ c, o.op ≠ .defer c := by
    intro c hop
    rw [hop] at hact
    simp [compActM, compAct, compK, compN] at hact
  unfold wact at h
  have after : ∀ (u : Value) (v : AV) (m' : Mem) (w' : World) (σ' : Sig) (K' : Bool → Nat → Prop), k (e.put o.dst v) m' → σ <+: σ' → (∀ p b, K p b → K' p b) → (∀ p b, K p b → w'.heap[b]? = w.heap[b]?) → VR σ' K' w' v u → Rel β K' σ' m' w' →
      next (a.put o.dst u) w' := by
    intro u v m' w' σ' K' h1 h2 h3 h4 h5 h6
    exact hk _ _ _ _ σ' K' h1 ⟨h6, (hst.env.mono h2 h3 h4).put h5 hd hst.size, by rw [Act.put_defers]; exact hst.defers, by rw [Act.put_size]; exact hst.size⟩ h2 h3 h4
  have called : ∀ (f : FuncId) (xs : List AV) (vals : List Value) (R : AOut → Mem → Prop), ACalls P f xs m R → VRs σ K w xs vals → (∀ out m', R out m' → match out with | .ret v => k (e.put o.dst v) m' | .panic v => Q (.panic v) e m') →
      (execOp a.eval o).run P w = (callFunc f vals.toArray).run P w → o.wpIn (fenceR r) n P a w next Qc := by
    intro f xs vals R hR hv hkk hrun
    obtain ⟨⟨fn, hfn, hb, hn⟩, hcall⟩ := hR
    refine wpIn_of hnd ?_
    rw [hrun, run_callFunc hfn hb hn]
    refine ⟨fun h => by simp [fenceR, Fence.wide] at h, fenceR_calls ((hcall β K σ w vals hst.rel hv hβ).mono ?_)⟩
    rintro en w' ⟨K', σ', m', out, h1, h2, h3, h4, h5, h6⟩
    have h7 := hkk out m' h1
    cases out with
    | ret v =>
      obtain ⟨u, rfl, hV⟩ := h6
      exact after u v m' w' σ' K' h7 h3 h4 h5 hV h2
    | panic v =>
      obtain ⟨u, rfl, hV⟩ := h6
      exact hq v e m' a w' σ' K' u h7 ⟨h2, hst.env.mono h3 h4 h5, hst.defers, hst.size⟩ h3 h4 h5 hV
  have hact' := hact
  replace hact : compAct P o.op = some act ∨ ∃ kk, act = .plain kk := by
    rcases compActM_cases hact with h | ⟨_, _, _, h, _⟩
    · exact .inl h
    · exact .inr ⟨_, h⟩
  have hplain : ∀ kk, act = .plain kk → Says P.toProgram kk o ∧ compArgs o.op = opnds (Op.args o.op) := by
    rintro kk rfl
    rcases compActM_cases hact' with h | ⟨y, nm, hop, h, hca⟩
    · obtain ⟨hck, hca⟩ := compAct_plain h
      exact ⟨compK_says hck, hca⟩
    · injection h with h; subst h
      exact ⟨says_nilCheckM hop, hca⟩
  replace hact : (∃ kk, act = .plain kk) ∨ compAct P o.op = some act := hact.symm
  cases act with
  | plain kk =>
    obtain ⟨hsays, hca⟩ := hplain kk rfl
    rw [hca] at hargs
    simp only at h
    split at h
    · rename_i v m' hr
      obtain ⟨w', σ', u, nx, hrun, hnx, h1, h2, h3, h4⟩ := hsays hst.rel (opnds_sound hst.env hargs) hr
      refine wpIn_of hnd ?_
      rw [hrun]
      rcases hnx with rfl | ⟨rfl, rfl⟩
      · exact after u v m' w' σ' K h h1 (fun _ _ h => h) h4 h2 h3
      · exact after undef v m' w' σ' K h h1 (fun _ _ h => h) h4 h2 h3
    · exact h.elim
  | many kk =>
    replace hact := hact.resolve_left (by simp)
    obtain ⟨hck, hca⟩ := compAct_many hact
    rw [hca] at hargs
    simp only at h
    obtain ⟨l, hl, hkk⟩ := h
    obtain ⟨v, m', hmem, w', σ', u, nx, hrun, hnx, h1, h2, h3, h4⟩ := compN_says hck hst.rel (opnds_sound hst.env hargs) hl
    refine wpIn_of hnd ?_
    rw [hrun]
    rcases hnx with rfl | ⟨rfl, rfl⟩
    · exact after u v m' w' σ' K (hmem _ hkk) h1 (fun _ _ h => h) h4 h2 h3
    · exact after undef v m' w' σ' K (hmem _ hkk) h1 (fun _ _ h => h) h4 h2 h3
  | call f =>
    replace hact := hact.resolve_left (by simp)
    obtain ⟨c, hop, hcal, hca⟩ := compAct_call hact
    rw [hca] at hargs
    simp only at h
    obtain ⟨R, hR, hkk⟩ := h
    refine called f _ _ R hR (opnds_sound hst.env hargs) hkk ?_
    rw [toArray_map]
    simp [execOp, hop, resolve, hcal, Act.eval, Deferred.ofValue, invoke]
  | inv nm =>
    replace hact := hact.resolve_left (by simp)
    obtain ⟨c, t, hop, hcal, hca⟩ := compAct_inv hact
    rw [hca] at hargs
    simp only at h
    obtain ⟨ty, x, f, xs, heq, hf, R, hR, hkk⟩ := h
    have hV := opnds_sound hst.env hargs
    rw [heq, List.map_cons] at hV
    obtain ⟨u, us, hu, hVf, hVx⟩ := hV
    injection hu with hu1 hu2
    subst hu1; subst hu2
    rw [VR] at hVf
    obtain ⟨ux, hux, hVu⟩ := hVf
    refine called f (x :: xs) (ux :: List.map a.eval c.args.toList) R hR (by rw [VRs]; exact ⟨_, _, rfl, hVu, hVx⟩) hkk ?_
    have hm : (method (P.types.size + 100) ty ux nm).run P.toProgram w = .ok (f, ux) w := (run_method (P := P.toProgram) hf (P.types.size + 99) ux w).1
    have e0 : (#[Value.iface ty ux] ++ Array.map a.eval c.args)[0]? = some (.iface ty ux) := by rw [Array.getElem?_append_left (by simp)]; rfl
    have e2 : (Array.map a.eval c.args).extract 0 c.args.size = Array.map a.eval c.args := by
      apply Array.ext'; simp
      exact List.take_of_length_le (by simp)
    have e : (ux :: List.map a.eval c.args.toList).toArray = #[ux] ++ c.args.map a.eval := by apply Array.ext'; simp
    rw [e]
    simp [execOp, hop, resolve, hcal, hux, invoke, callMethod, Made.depth]
    rw [e0]
    simp [hm, e2]
  | callv =>
    replace hact := hact.resolve_left (by simp)
    obtain ⟨c, t, hop, hcal, hca⟩ := compAct_callv hact
    rw [hca] at hargs
    simp only at h
    split at h
    · rename_i f xs hcargs
      obtain ⟨R, hR, hkk⟩ := h
      have hV := opnds_sound hst.env hargs
      unfold callArgs at hcargs
      split at hcargs
      · rename_i f' caps xs' heq
        injection hcargs with hcargs
        injection hcargs with e1 e2
        subst e1; subst e2
        rw [heq, List.map_cons] at hV
        obtain ⟨u, us, hu, hVf, hVx⟩ := hV
        injection hu with hu1 hu2
        subst hu1; subst hu2
        rw [VR] at hVf
        obtain ⟨cs, hcs, hVc⟩ := hVf
        refine called f' _ _ R hR (VRs_append hVx hVc) hkk ?_
        have e : (List.map a.eval c.args.toList ++ cs.toList).toArray = c.args.map a.eval ++ cs := by apply Array.ext'; simp
        rw [e]
        simp [execOp, hop, resolve, hcal, hcs, Deferred.ofValue, invoke]
      · cases hcargs
    · obtain ⟨pos, gen, xs, heq, R, hY, hkk⟩ := h
      have hV := opnds_sound hst.env hargs
      rw [heq, List.map_cons] at hV
      obtain ⟨u, us, hu, hVf, hVx⟩ := hV
      injection hu with hu1 hu2
      subst hu1; subst hu2
      rw [VR] at hVf
      obtain ⟨b, cap, hg, hcs⟩ := hVf
      obtain ⟨f, tmps, as, bd, hrun, hround⟩ := hY β K σ w _ b cap hst.rel hVx hg hβ
      refine wpIn_of hnd ?_
      rw [toArray_map] at hrun
      have hrun' : (execOp a.eval o).run P w = .ok (.round b f tmps as bd) w := by
        rw [← hrun]
        simp [execOp, hop, resolve, hcal, hcs, Deferred.ofValue, invoke]
      rw [hrun']
      refine ⟨fun h => by simp [fenceR, Fence.wide] at h, (hround r (n - 1)).mono ?_⟩
      rintro en w' ⟨K', σ', m', out, h1, h2, h3, h4, h5, h6⟩
      have h7 := hkk out m' h1
      cases out with
      | ret v =>
        obtain ⟨u, rfl, hV⟩ := h6
        exact after u v m' w' σ' K' h7 h3 h4 h5 hV h2
      | panic v =>
        obtain ⟨u, rfl, hV⟩ := h6
        exact hq v e m' a w' σ' K' u h7 ⟨h2, hst.env.mono h3 h4 h5, hst.defers, hst.size⟩ h3 h4 h5 hV
  | panic =>
    replace hact := hact.resolve_left (by simp)
    obtain ⟨x, hop, hca⟩ := compAct_panic hact
    rw [hca] at hargs
    simp only at h
    obtain ⟨t, v, hx, hQ⟩ := h
    have hV := opnds_sound hst.env hargs
    rw [hx] at hV
    obtain ⟨u, hu, hVu⟩ := VRs1 hV
    injection hu with hu _
    have hVu' := hVu
    rw [VR] at hVu'
    obtain ⟨y, hy, _⟩ := hVu'
    have hrun : (execOp a.eval o).run P w = .halt (.panic (.iface t y)) w := by
      simp [execOp, hop, Instr.panic, hu, hy]
    refine wpIn_of hnd ?_
    rw [hrun]
    exact hq _ e m a w σ K _ hQ hst (List.prefix_refl _) (fun _ _ h => h) (fun _ _ _ => rfl) (hy ▸ hVu)
theorem uv_undef : VR σ K w uv undef := by rw [VR]; exact ⟨#[], rfl, rfl⟩
theorem yielded_uv {all : Array Oper} {e : Env} {a : Act} {j t : Nat} {N : Nat} (hst : St β N e m a w σ K) (hg : (all[j]?).bind (·.dst) = some t) (ht : e.get t = uv) : yielded all a.tmps j = none := by
  have hV := hst.env t
  rw [ht, VR] at hV
  obtain ⟨us, hu, hV⟩ := hV
  unfold yielded
  rw [hg]
  simp only [Option.bind_some]
  rw [Array.getD_eq_getD_getElem?] at hu
  cases h : a.tmps[t]? with
  | none => rfl
  | some x => rw [h] at hu; simp only [Option.getD_some] at hu; subst hu; rfl
theorem yielded_of {all : Array Oper} {e : Env} {a : Act} {j t : Nat} {b want : Bool} {N : Nat} (hst : St β N e m a w σ K) (hg : (all[j]?).bind (·.dst) = some t) (ht : e.get t = .bool b) : (yielded all a.tmps j == some want) = (b == want) := by
  have hV := hst.env t
  rw [ht, VR] at hV
  have hlt : a.tmps[t]? = some (.bool b) := by
    rw [Array.getD_eq_getD_getElem?] at hV
    cases h : a.tmps[t]? with
    | none => rw [h] at hV; simp [undef] at hV
    | some x => rw [h] at hV; simp at hV; rw [hV]
  unfold yielded
  rw [hg]
  simp only [Option.bind_some, hlt]
  cases b <;> cases want <;> rfl
theorem wops_sound (hβ : β.fits P) {r : Option Nat} {n : Nat} {N : Nat} {all : Array Oper} {Qc : Exit → Act → World → Prop} {k : Env → Mem → Prop} {Q : Post} {σ0 : Sig} {K0 : Bool → Nat → Prop} {w0 : World}
    (hk : ∀ e' m' a' w' σ' K', k e' m' → St β N e' m' a' w' σ' K' → σ0 <+: σ' → (∀ p b, K0 p b → K' p b) → (∀ p b, K0 p b → w'.heap[b]? = w0.heap[b]?) → Qc .normal a' w')
    (hq : ∀ v e' m' a' w' σ' K' u, Q (.panic v) e' m' → St β N e' m' a' w' σ' K' → σ0 <+: σ' → (∀ p b, K0 p b → K' p b) → (∀ p b, K0 p b → w'.heap[b]? = w0.heap[b]?) → VR σ' K' w' v u → Qc (.panic [{ v := u, recovered := false }]) a' w') :
    ∀ (l : List Oper) (sl : List SOp), compOps P N all l = some sl → ∀ (e : Env) (m : Mem) (a : Act) (w : World) (σ : Sig) (K : Bool → Nat → Prop), wops P sl k Q e m → St β N e m a w σ K →
      σ0 <+: σ → (∀ p b, K0 p b → K p b) → (∀ p b, K0 p b → w.heap[b]? = w0.heap[b]?) → wpListIn (fenceR r) n P all Qc l a w
  | [], sl, hc, e, m, a, w, σ, K, h, hst, h1, h2, h3 => by
    simp only [compOps, Option.some.injEq] at hc; subst hc
    exact hk e m a w σ K h hst h1 h2 h3
  | o :: l, sl, hc, e, m, a, w, σ, K, h, hst, h1, h2, h3 => by
    unfold compOps at hc
    split at hc
    case h_2 => cases hc
    rename_i so sl' hco hcl
    injection hc with hc; subst hc
    have hgd : ∃ g, guardOf all o.guard = some g ∧ so.guard = g ∧ so.dst = o.dst ∧ (match o.dst with | some d => decide (d < N) | none => true) = true := by
      obtain ⟨h1, h2, h3, _⟩ := compOne_cases hco
      exact ⟨_, h1, rfl, h2, h3⟩
    obtain ⟨g, hg, hsg, hsd, hd⟩ := hgd
    have step : wact P so (wops P sl' k Q) Q e m → o.wpIn (fenceR r) n P a w (wpListIn (fenceR r) n P all Qc l) Qc := by
      intro h
      refine wact_sound hβ hco h hst ?_ ?_
      · intro e' m' a' w' σ' K' hk' hst' h4 h5 h6
        exact wops_sound hβ hk hq l sl' hcl e' m' a' w' σ' K' hk' hst' (List.IsPrefix.trans h1 h4) (fun p b hb => h5 p b (h2 p b hb)) (fun p b hb => (h6 p b (h2 p b hb)).trans (h3 p b hb))
      · intro v e' m' a' w' σ' K' u hk' hst' h4 h5 h6 hV
        exact hq v e' m' a' w' σ' K' u hk' hst' (List.IsPrefix.trans h1 h4) (fun p b hb => h5 p b (h2 p b hb)) (fun p b hb => (h6 p b (h2 p b hb)).trans (h3 p b hb)) hV
    have skip : wops P sl' k Q (e.put so.dst uv) m → wpListIn (fenceR r) n P all Qc l (a.put o.dst undef) w := by
      intro h
      rw [hsd] at h
      exact wops_sound hβ hk hq l sl' hcl _ m _ w σ K h ⟨hst.rel, hst.env.put uv_undef hd hst.size, by rw [Act.put_defers]; exact hst.defers, by rw [Act.put_size]; exact hst.size⟩ h1 h2 h3
    unfold wops at h
    unfold wpListIn
    rw [hsg] at h
    cases hgo : o.guard with
    | none =>
      rw [hgo] at hg
      simp only [guardOf, Option.some.injEq] at hg
      subst hg
      rw [if_pos (by simp [Region.wanted, hgo])]
      exact step h
    | some jw =>
      obtain ⟨j, want⟩ := jw
      rw [hgo] at hg
      simp only [guardOf] at hg
      split at hg
      · rename_i t hjt
        injection hg with hg; subst hg
        rcases h with ⟨hu, h⟩ | ⟨b, hb, hyes, hno⟩
        · have hw := yielded_uv hst hjt hu
          rw [if_neg (by simp only [Region.wanted, hgo]; rw [hw]; simp)]
          exact ⟨fun _ _ => trivial, skip h⟩
        have hw := yielded_of (want := want) hst hjt hb
        by_cases hbw : b = want
        · rw [if_pos (by simp only [Region.wanted, hgo]; rw [hw]; simp [hbw])]
          exact step (hyes hbw)
        · rw [if_neg (by simp only [Region.wanted, hgo]; rw [hw]; simp [hbw])]
          exact ⟨fun _ _ => trivial, skip (hno (by cases b <;> cases want <;> simp_all))⟩
      · cases hg
theorem compOps_at {N : Nat} {all : Array Oper} : ∀ (l : List Oper) (sl : List SOp), compOps P N all l = some sl → ∀ (i : Nat), ∀ o, l[i]? = some o → ∃ y, sl[i]? = some y ∧ compOne P N all o = some y
  | [], sl, h, i => by simp only [compOps, Option.some.injEq] at h; subst h; intro o ho; cases ho
  | o :: l, sl, h, i => by
    unfold compOps at h
    split at h
    case h_2 => cases h
    rename_i so sl' h1 h2
    injection h with h; subst h
    cases i with
    | zero => intro o' ho; injection ho with ho; subst ho; exact ⟨so, rfl, h1⟩
    | succ i => exact compOps_at l sl' h2 i
theorem compOne_shape {N : Nat} {all : Array Oper} {o : Oper} {so : SOp} (h : compOne P N all o = some so) : guardOf all o.guard = some so.guard ∧ so.dst = o.dst ∧ (match o.dst with | some d => decide (d < N) | none => true) = true := by
  obtain ⟨h1, h2, h3, _⟩ := compOne_cases h
  exact ⟨h1, h2, h3⟩
theorem wact_of_TA {imp : List FuncId} {so : SOp} {e : Env} {m m' : Mem} {v : AV} {Q : Post} {k : Env → Mem → Prop} (h : TA P imp so.act (so.args.map (·.eval e)) m v m') (hk : k (e.put so.dst v) m') : wact P so k Q e m := by
  unfold TA at h
  unfold wact
  split at h
  · rename_i kk hact
    simp only [hact, h]
    exact hk
  · rename_i f hact
    simp only [hact]
    split at h
    · refine ⟨_, h, ?_⟩
      rintro out m2 ⟨rfl, rfl⟩
      exact hk
    · obtain ⟨rfl, ys, h1, h2⟩ := h
      refine ⟨_, h2.acalls h1, ?_⟩
      rintro out m2 ⟨rfl, rfl⟩
      exact hk
  · rename_i hact
    simp only [hact]
    split at h
    · obtain ⟨f, caps, zs, h0, h1⟩ := h
      rw [h0]
      refine ⟨_, h1, ?_⟩
      rintro out m2 ⟨rfl, rfl⟩
      exact hk
    · obtain ⟨rfl, f, caps, zs, ys, h0, h1, h2⟩ := h
      rw [h0]
      refine ⟨_, h2.acalls h1, ?_⟩
      rintro out m2 ⟨rfl, rfl⟩
      exact hk
  · rename_i nm hact
    obtain ⟨rfl, t, x, f, zs, ys, h0, hf, h1, h2⟩ := h
    simp only [hact]
    refine ⟨t, x, f, zs, h0, hf, _, h2.acalls h1, ?_⟩
    rintro out m2 ⟨rfl, rfl⟩
    exact hk
  · exact h.elim
  · exact h.elim
theorem anyA_sound (hβ : β.fits P) {r : Option Nat} {n : Nat} {N : Nat} {imp : List FuncId} {os : Array Oper} {sl : List SOp} (hc : compOps P N os os.toList = some sl) {Qc : Exit → Act → World → Prop} {k : FEnv → Mem → Prop} {q : AV → Mem → Prop} {σ0 : Sig} {K0 : Bool → Nat → Prop} {w0 : World}
    (hk : ∀ e' m' a' w' σ' K', k (Env.get e') m' → St β N e' m' a' w' σ' K' → σ0 <+: σ' → (∀ p b, K0 p b → K' p b) → (∀ p b, K0 p b → w'.heap[b]? = w0.heap[b]?) → Qc .normal a' w')
    (hq : ∀ v m' a' w' σ' K' u, q v m' → St β N [] m' a' w' σ' K' → σ0 <+: σ' → (∀ p b, K0 p b → K' p b) → (∀ p b, K0 p b → w'.heap[b]? = w0.heap[b]?) → VR σ' K' w' v u → Qc (.panic [{ v := u, recovered := false }]) a' w') :
    ∀ (fuel : Nat) (listed : Array Bool) (e : Env) (m : Mem) (a : Act) (w : World) (σ : Sig) (K : Bool → Nat → Prop), anyA P imp os sl k q fuel listed e.get m → St β N e m a w σ K →
      σ0 <+: σ → (∀ p b, K0 p b → K p b) → (∀ p b, K0 p b → w.heap[b]? = w0.heap[b]?) → wpAnyIn (fenceR r) n P .any os Qc fuel listed a w
  | 0, listed, e, m, a, w, σ, K, h, hst, h1, h2, h3 => ⟨h.1, hk e m a w σ K h.2 hst h1 h2 h3⟩
  | fuel + 1, listed, e, m, a, w, σ, K, h, hst, h1, h2, h3 => by
    refine ⟨fun hr => hk e m a w σ K (h.1 hr) hst h1 h2 h3, fun i hi => ?_⟩
    obtain ⟨y, hy, hH⟩ := h.2 i hi
    obtain ⟨_, o, ho, _⟩ := mem_ready.1 hi
    obtain ⟨y', hy', hco⟩ := compOps_at os.toList sl hc i o (by simpa using ho)
    rw [hy] at hy'; injection hy' with hy'; subst hy'
    obtain ⟨hg, hd, hN⟩ := compOne_shape hco
    unfold wpOpIn
    rw [ho]
    simp only
    rcases hH with ⟨v, m', hT, H⟩ | ⟨pv, ⟨hgn, f, ys, hact, _, hx, hP⟩, hqv⟩
    case inr =>
      rw [map_evalF] at hx
      have hgo : o.guard = none := by
        rw [hgn] at hg
        unfold guardOf at hg
        split at hg
        · assumption
        · split at hg <;> cases hg
      rw [if_pos (by simp [Region.wanted, hgo])]
      refine wact_sound hβ hco (k := fun _ _ => False) (Q := fun x e' m2 => x = .panic pv ∧ m2 = m) ?_ hst (fun _ _ _ _ _ _ h => h.elim) ?_
      · unfold wact
        simp only [hact]
        refine ⟨_, hP.acalls hx, ?_⟩
        rintro out m2 ⟨rfl, rfl⟩
        exact ⟨rfl, rfl⟩
      · rintro v e' m' a' w' σ' K' u ⟨hv, rfl⟩ hst' h4 h5 h6 hV
        injection hv with hv; subst hv
        exact hq _ _ a' w' σ' K' u hqv ⟨hst'.rel, fun t => (by rw [Env.get, VR]; trivial), hst'.defers, hst'.size⟩ (List.IsPrefix.trans h1 h4) (fun p b hb => h5 p b (h2 p b hb)) (fun p b hb => (h6 p b (h2 p b hb)).trans (h3 p b hb)) hV
    rw [← get_put] at H
    have run : TA P imp y.act (y.args.map (·.eval e)) m v m' → o.wpIn (fenceR r) n P a w (wpAnyIn (fenceR r) n P .any os Qc fuel (listed.setIfInBounds i true)) Qc := by
      intro hT
      refine wact_sound hβ hco (wact_of_TA (k := fun e' m2 => e' = e.put y.dst v ∧ m2 = m') (Q := fun _ _ _ => False) hT ⟨rfl, rfl⟩) hst ?_ ?_
      · rintro e' m2 a' w' σ' K' ⟨rfl, rfl⟩ hst' h4 h5 h6
        exact anyA_sound hβ hc hk hq fuel _ _ _ a' w' σ' K' H hst' (List.IsPrefix.trans h1 h4) (fun p b hb => h5 p b (h2 p b hb)) (fun p b hb => (h6 p b (h2 p b hb)).trans (h3 p b hb))
      · intro v e' m' a' w' σ' K' u h; exact h.elim
    unfold T at hT
    rw [map_evalF] at hT
    cases hgo : o.guard with
    | none =>
      rw [hgo] at hg
      simp only [guardOf, Option.some.injEq] at hg
      rw [← hg] at hT
      rw [if_pos (by simp [Region.wanted, hgo])]
      exact run hT
    | some jw =>
      obtain ⟨j, want⟩ := jw
      rw [hgo] at hg
      simp only [guardOf] at hg
      split at hg
      · rename_i t hjt
        injection hg with hg
        rw [← hg] at hT
        rcases hT with ⟨ht, hT⟩ | ⟨ht, rfl, rfl⟩
        · have hw := yielded_of (want := want) hst hjt ht
          rw [if_pos (by simp only [Region.wanted, hgo]; rw [hw]; simp)]
          exact run hT
        · have hw : ¬ (yielded os a.tmps j == some want) = true := by
            rcases ht with ht | ht
            · rw [yielded_of (want := want) hst hjt ht]; cases want <;> simp
            · rw [yielded_uv hst hjt ht]; simp
          rw [if_neg (by simpa only [Region.wanted, hgo] using hw)]
          refine ⟨fun _ _ => trivial, ?_⟩
          refine anyA_sound hβ hc hk hq fuel _ _ _ _ w σ K H ⟨hst.rel, ?_, by rw [Act.put_defers]; exact hst.defers, by rw [Act.put_size]; exact hst.size⟩ h1 h2 h3
          rw [hd]
          exact hst.env.put uv_undef hN hst.size
      · cases hg
end
end Go.Pm
