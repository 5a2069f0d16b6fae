/- PmN: code and calls are as the predicate says. -/
import Derived.Scope
import Derived.Test.YtolfkdphlgkekaaPmM
namespace Go.Pm
open Go

section
variable {P : Program} {imp : List FuncId} {β : Base} {N : Nat}

theorem wp_loop_n {c : Code} {Q : Exit → Act → World → Prop} (I : Nat → Act → World → Prop) (round : ∀ n a w, I n a w → c.wp P (Exit.then (fun a' w' => ∃ n', n' < n ∧ I n' a' w') Q) a w) (n : Nat) (a : Act) (w : World) (h : I n a w) :
    (Code.loop c).wp P Q a w := by
  intro b k cs
  have key : ∀ n a w, I n a w → ∃ e a' w', Q e a' w' ∧ Arrives P (lone (b.at a (.code c :: .inLoop c :: k)) cs w) b k cs e a' w' := by
    intro n
    induction n using Nat.strongRecOn with
    | _ n ih =>
      intro a w hI
      obtain ⟨e, a₁, w₁, hq, harr⟩ := round n a w hI b (.inLoop c :: k) cs
      cases e with
      | normal =>
        obtain ⟨n', hlt, hI₁⟩ := hq
        obtain ⟨e₂, a₂, w₂, hq₂, harr₂⟩ := ih n' hlt a₁ w₁ hI₁
        exact ⟨e₂, a₂, w₂, hq₂, .of_steps (Steps.trans harr (.one step_inLoop)) harr₂⟩
      | exit id => exact ⟨_, a₁, w₁, hq, .pass (x := .inLoop c) rfl (fun _ _ => .inl (by simp)) harr⟩
      | goto l => exact ⟨_, a₁, w₁, hq, .pass (x := .inLoop c) rfl (fun _ _ => .inl (by simp)) harr⟩
      | ret => exact ⟨_, a₁, w₁, hq, .pass (x := .inLoop c) rfl (fun _ _ => .inl (by simp)) harr⟩
      | panic ch => exact ⟨_, a₁, w₁, hq, .pass (x := .inLoop c) rfl (fun _ _ => .inl (by simp)) harr⟩
      | outgrown => exact ⟨_, a₁, w₁, hq, .pass (x := .inLoop c) rfl (fun _ _ => .inl (by simp)) harr⟩
  obtain ⟨e, a', w', hq, harr⟩ := key n a w h
  exact ⟨e, a', w', hq, .of_steps (.one step_loop) harr⟩

/-- What is kept between two places of a run. -/
structure Ext (σ0 : Sig) (K0 : Bool → Nat → Prop) (w0 : World) (σ : Sig) (K : Bool → Nat → Prop) (w : World) : Prop where
  sig : σ0 <+: σ
  kept : ∀ p b, K0 p b → K p b
  same : ∀ p b, K0 p b → w.heap[b]? = w0.heap[b]?

theorem Env.le_refl (e : Env) : Env.le e e := fun _ => .inr rfl

theorem St.le {e e' : Env} {m : Mem} {a : Act} {w : World} {σ : Sig} {K : Bool → Nat → Prop} (h : St β N e m a w σ K) (hle : Env.le e' e) : St β N e' m a w σ K := ⟨h.rel, h.env.le hle, h.defers, h.size⟩

theorem St.forget {e : Env} {m m' : Mem} {a : Act} {w : World} {σ : Sig} {K : Bool → Nat → Prop} (h : St β N e m a w σ K) (hle : Mem.le m' m) : St β N e m' a w σ K := by
  obtain ⟨h1, n, h2⟩ := hle
  have : m' = ⟨m.store.take n, m.next⟩ := by cases m'; simp only at h1 h2; rw [h1, h2]
  rw [this]
  exact ⟨h.rel.forget n, h.env, h.defers, h.size⟩

theorem conc_mk {σ0 : Sig} {K0 : Bool → Nat → Prop} {w0 : World} {Q : Post} {ax : AX} {x : Exit} {e : Env} {m : Mem} {a : Act} {w : World} {σ : Sig} {K : Bool → Nat → Prop} (hq : Q ax e m) (hx : exitR σ K w ax x) (hst : St β N e m a w σ K) (hext : Ext σ0 K0 w0 σ K w) :
    conc β N σ0 K0 w0 Q x a w := ⟨ax, e, m, σ, K, hq, hx, hst, hext.sig, hext.kept, hext.same⟩

/-- **Code does what is said of it.** -/
theorem wp_sound {σ0 : Sig} {K0 : Bool → Nat → Prop} {w0 : World} : ∀ (c : Code) (sc : SC), compCode P imp N c = some sc.strip → ∀ (Q : Post) (e : Env) (m : Mem) (a : Act) (w : World) (σ : Sig) (K : Bool → Nat → Prop),
    wp P imp sc Q e m → St β N e m a w σ K → Ext σ0 K0 w0 σ K w → c.wp P (conc β N σ0 K0 w0 Q) a w := by
  intro c
  induction c with
  | skip =>
    intro sc hc Q e m a w σ K h hst hext
    cases sc <;> simp only [compCode, SC.strip, Option.some.injEq, reduceCtorEq] at hc
    exact wp_skip (conc_mk (ax := .norm) h trivial hst hext)
  | label l =>
    intro sc hc Q e m a w σ K h hst hext
    cases sc <;> simp only [compCode, SC.strip, Option.some.injEq, reduceCtorEq] at hc
    exact wp_label (conc_mk (ax := .norm) h trivial hst hext)
  | region id os draw =>
    intro sc hc Q e m a w σ K h hst hext
    unfold compCode at hc
    split at hc
    · rename_i hd
      subst hd
      split at hc
      · rename_i hm
        split at hc
        · rename_i sl hsl
          simp only [Option.map_eq_some_iff] at hc
          obtain ⟨l, hl, hc⟩ := hc
          cases sc <;> simp only [SC.strip, reduceCtorEq, SC.draw.injEq, and_true] at hc
          rename_i l' drop
          subst hc
          refine wp_region_any hm (anyA_sound (β := β) (imp := imp) hsl (k := fun g m => ∃ e : Env, e.get = g ∧ Q .norm (e.drop drop) m) (σ0 := σ0) (K0 := K0) (w0 := w0) ?_ _ _ e m a _ σ K (anyA_tree (anc_all os) _ _ _ _ _ shut_none hl (dops_chain _ _ _ _ h)) ?_ hext.sig hext.kept hext.same)
          · intro e' m' a' w' σ' K' hk hst' h1 h2 h3
            obtain ⟨e2, hge, hq⟩ := hk
            refine conc_mk (ax := .norm) hq trivial (hst'.le fun t => ?_) ⟨h1, h2, h3⟩
            rcases Env.get_drop e2 drop t with h | h
            · exact .inl h
            · exact .inr (by rw [h, hge])
          · exact ⟨hst.rel.grow (K' := K) ⟨rfl, rfl, rfl, Nat.le_refl _, fun _ _ _ => rfl⟩ (fun _ _ h => h) (fun _ _ h => .inl h), hst.env.mono (List.prefix_refl _) (fun _ _ h => h) (fun _ _ _ => rfl), hst.defers, hst.size⟩
        · cases hc
      · cases hc
    · rename_i hd
      simp only [Bool.not_eq_true] at hd
      subst hd
      simp only [Option.map_eq_some_iff] at hc
      obtain ⟨l, hl, hc⟩ := hc
      cases sc <;> simp only [SC.strip, reduceCtorEq, SC.ops.injEq, and_true] at hc
      rename_i l' drop
      subst hc
      refine wp_region_list (wops_sound (σ0 := σ0) (K0 := K0) (w0 := w0) (k := fun e m => Q .norm (e.drop drop) m) (Q := Q) ?_ ?_ os.toList l hl e m a w σ K h hst hext.sig hext.kept hext.same)
      · intro e' m' a' w' σ' K' hk hst' h1 h2 h3
        exact conc_mk (ax := .norm) hk trivial (hst'.le (Env.get_drop e' drop)) ⟨h1, h2, h3⟩
      · intro v e' m' a' w' σ' K' u hk hst' h1 h2 h3 hV
        exact conc_mk (ax := .panic v) hk ⟨u, rfl, hV⟩ hst' ⟨h1, h2, h3⟩
  | seq x y ihx ihy =>
    intro sc hc Q e m a w σ K h hst hext
    unfold compCode at hc
    split at hc
    · rename_i sx sy hx hy
      cases sc <;> simp only [SC.strip, Option.some.injEq, reduceCtorEq, SC.seq.injEq] at hc
      rename_i sa sb
      obtain ⟨rfl, rfl⟩ := hc
      refine wp_seq (wp_mono (ihx sa hx _ e m a w σ K h hst hext) ?_)
      rintro ex a' w' ⟨ax, e', m', σ', K', hq, hxr, hst', h1, h2, h3⟩
      cases ex <;> cases ax <;> simp only [exitR] at hxr
      case normal.norm => exact ihy sb hy Q e' m' a' w' σ' K' hq hst' ⟨h1, h2, h3⟩
      case exit.exit => exact conc_mk hq hxr hst' ⟨h1, h2, h3⟩
      case ret.ret => exact conc_mk hq trivial hst' ⟨h1, h2, h3⟩
      case panic.panic => exact conc_mk hq hxr hst' ⟨h1, h2, h3⟩
    · cases hc
  | cond c x y ihx ihy =>
    intro sc hc Q e m a w σ K h hst hext
    unfold compCode at hc
    split at hc
    · rename_i c' sx sy hcc hx hy
      cases sc <;> simp only [SC.strip, Option.some.injEq, reduceCtorEq, SC.cond.injEq] at hc
      rename_i c2 sa sb
      obtain ⟨rfl, rfl, rfl⟩ := hc
      obtain ⟨t, ht, h1, h2⟩ := h
      have hV := opnd_sound hst.env hcc
      rw [ht, VR] at hV
      refine wp_cond hV ?_
      cases t
      · exact ihy sb hy Q e m a w σ K (h2 rfl) hst hext
      · exact ihx sa hx Q e m a w σ K (h1 rfl) hst hext
    · cases hc
  | block id x ih =>
    intro sc hc Q e m a w σ K h hst hext
    simp only [compCode, Option.map_eq_some_iff] at hc
    obtain ⟨sx, hx, hc⟩ := hc
    cases sc <;> simp only [SC.strip, reduceCtorEq, SC.block.injEq] at hc
    rename_i id' sa
    obtain ⟨rfl, rfl⟩ := hc
    refine wp_block (wp_mono (ih sa hx _ e m a w σ K h hst hext) ?_)
    rintro ex a' w' ⟨ax, e', m', σ', K', hq, hxr, hst', h1, h2, h3⟩
    cases ex <;> cases ax <;> simp only [exitR] at hxr
    case normal.norm => exact conc_mk hq trivial hst' ⟨h1, h2, h3⟩
    case exit.exit i j =>
      subst hxr
      simp only [Exit.inBlock]
      simp only at hq
      split
      · rename_i hj
        rw [if_pos hj] at hq
        exact conc_mk hq trivial hst' ⟨h1, h2, h3⟩
      · rename_i hj
        rw [if_neg hj] at hq
        exact conc_mk (ax := .exit _) hq rfl hst' ⟨h1, h2, h3⟩
    case ret.ret => exact conc_mk hq trivial hst' ⟨h1, h2, h3⟩
    case panic.panic => exact conc_mk hq hxr hst' ⟨h1, h2, h3⟩
  | loop x ih =>
    intro sc hc Q e m a w σ K h hst hext
    simp only [compCode, Option.map_eq_some_iff] at hc
    obtain ⟨sx, hx, hc⟩ := hc
    cases sc <;> simp only [SC.strip, reduceCtorEq, SC.loop.injEq] at hc
    rename_i sa
    subst hc
    obtain ⟨I, ⟨n, e0, m0, hsim, hI⟩, hround⟩ := h
    obtain ⟨σ1, hpre, hst1⟩ := hsim β N a w σ K hst
    refine wp_loop_n (fun n a w => ∃ e m σ K, I n e m ∧ St β N e m a w σ K ∧ Ext σ0 K0 w0 σ K w) ?_ n a w ⟨e0, m0, σ1, K, hI, hst1, ⟨hext.sig.trans hpre, hext.kept, hext.same⟩⟩
    rintro n a w ⟨e, m, σ, K, hI, hst, hext⟩
    refine wp_mono (ih sa hx _ e m a w σ K (hround n e m hI) hst hext) ?_
    rintro ex a' w' ⟨ax, e', m', σ', K', hq, hxr, hst', h1, h2, h3⟩
    cases ex <;> cases ax <;> simp only [exitR] at hxr
    case normal.norm =>
      obtain ⟨n', e2, m2, hlt, hsim, hI'⟩ := hq
      obtain ⟨σ2, hpre2, hst2⟩ := hsim β N a' w' σ' K' hst'
      exact ⟨n', hlt, e2, m2, σ2, K', hI', hst2, h1.trans hpre2, h2, h3⟩
    case exit.exit => exact conc_mk hq hxr hst' ⟨h1, h2, h3⟩
    case ret.ret => exact conc_mk hq trivial hst' ⟨h1, h2, h3⟩
    case panic.panic => exact conc_mk hq hxr hst' ⟨h1, h2, h3⟩
  | exit id =>
    intro sc hc Q e m a w σ K h hst hext
    cases sc <;> simp only [compCode, SC.strip, Option.some.injEq, reduceCtorEq, SC.exit.injEq] at hc
    subst hc
    exact wp_exit (conc_mk (ax := .exit id) h rfl hst hext)
  | ret =>
    intro sc hc Q e m a w σ K h hst hext
    cases sc <;> simp only [compCode, SC.strip, Option.some.injEq, reduceCtorEq] at hc
    exact wp_ret (conc_mk (ax := .ret) h trivial hst hext)
  | scope x ih =>
    intro sc hc Q e m a w σ K h hst hext
    unfold compCode at hc
    refine wp_scope_straight (wp_mono (ih sc hc Q e m a w σ K h hst hext) ?_)
    rintro ex a' w' ⟨ax, e', m', σ', K', hq, hxr, hst', h1, h2, h3⟩
    cases ex <;> cases ax <;> simp only [exitR] at hxr
    case normal.norm => exact conc_mk hq trivial hst' ⟨h1, h2, h3⟩
    case exit.exit => exact conc_mk hq hxr hst' ⟨h1, h2, h3⟩
    case ret.ret => exact conc_mk hq trivial hst' ⟨h1, h2, h3⟩
    case panic.panic => exact conc_mk hq hxr hst' ⟨h1, h2, h3⟩
  | rangeFunc | goto | refuse => intro sc hc; simp [compCode] at hc

/-! ### Functions -/

/-- Where a result lies: a temporary, or a variable (a struct or not, its size). -/
abbrev Res := Nat × Option (Bool × Nat)

def compRes (P : Program) : List ResultVar → Option (List Res)
  | [] => some []
  | .tmp t :: l => (compRes P l).map fun r => (t, none) :: r
  | .cell a t :: l => match P.info? t, compRes P l with
    | some i, some r => if (P.underlying t).isSome ∧ (isAggT P t ∨ i.size = 1) then some ((a, some (isAggT P t, i.size)) :: r) else none
    | _, _ => none

def resOne (e : Env) (m : Mem) : Res → Option AV
  | (t, none) => some (e.get t)
  | (a, some (agg, sz)) => loadA agg sz m (e.get a)

def resList (e : Env) (m : Mem) : List Res → Option (List AV)
  | [] => some []
  | r :: l => match resOne e m r, resList e m l with
    | some v, some vs => some (v :: vs)
    | _, _ => none

def resA (rs : List Res) (e : Env) (m : Mem) : Option AV :=
  match resList e m rs with
  | some [v] => some v
  | some vs => some (.tuple vs)
  | none => none

theorem run_loadVar_A {σ : Sig} {K : Bool → Nat → Prop} {w : World} {m : Mem} {t : TypeId} {i : TypeInfo} {x v : AV} {u : Value} (hrel : Rel β K σ m w) (hi : P.info? t = some i) (hu : (P.underlying t).isSome = true)
    (hx : VR σ K w x u) (h : loadA (isAggT P t) i.size m x = some v) : ∃ r, (do loadVar t (← asAddr u) : Sem Value).run P w = .ok r w ∧ VR σ K w v r := by
  unfold loadA at h
  cases hagg : isAggT P t with
  | true =>
    rw [hagg] at h
    simp only [if_true, Option.map_eq_some_iff] at h
    obtain ⟨cs, hcs, rfl⟩ := h
    obtain ⟨hl, b, of, hy, hc⟩ := cellsAt_sound hrel hx hcs
    obtain ⟨us, hV, _, hcell⟩ := CR_cells hc
    have hlen : us.length = i.size := by rw [VRs_length hV, hl]
    have hload := run_loadCells_list (P := P) w ⟨b, of, none⟩ us (fun j v hj => by rw [Addr.add_lit]; exact hcell j v hj)
    refine ⟨.agg us.toArray, ?_, by rw [VR]; exact ⟨_, rfl, by simpa using hV⟩⟩
    simp [hy, asAddr, loadVar, run_isAgg hu, hagg, run_sizeOf' hi, ← hlen, hload]
  | false =>
    rw [hagg] at h
    simp only [Bool.false_eq_true, if_false] at h
    split at h
    · rename_i v' hcs
      injection h with h; subst h
      obtain ⟨hl, b, of, hy, hc⟩ := cellsAt_sound hrel hx hcs
      rw [CR] at hc
      obtain ⟨⟨u', hcell, _, hV⟩, _⟩ := hc
      exact ⟨u', by simp [hy, asAddr, loadVar, run_isAgg hu, hagg, hcell], hV⟩
    · cases h

def rdRes (tmps : Array Value) : ResultVar → Sem Value
  | .tmp t => pure (tmps.getD t undef)
  | .cell ad t => do loadVar t (← asAddr (tmps.getD ad undef))

theorem results_eq (fn : Func) (tmps : Array Value) : results fn tmps = (do
    let vs ← fn.results.mapM (rdRes tmps)
    pure (if h : vs.size = 1 then vs[0] else .tuple vs)) := by
  unfold results
  congr 1

theorem resList_sound {σ : Sig} {K : Bool → Nat → Prop} {e : Env} {m : Mem} {a : Act} {w : World} (hst : St β N e m a w σ K) : ∀ {l : List ResultVar} {rs : List Res} {vs : List AV}, compRes P l = some rs → resList e m rs = some vs →
    ∃ us, (l.mapM (m := Sem) (rdRes a.tmps)).run P w = .ok us w ∧ VRs σ K w vs us
  | [], rs, vs, h, h' => by
    simp only [compRes, Option.some.injEq] at h; subst h
    simp only [resList, Option.some.injEq] at h'; subst h'
    exact ⟨[], by simp, rfl⟩
  | .tmp t :: l, rs, vs, h, h' => by
    simp only [compRes, Option.map_eq_some_iff] at h
    obtain ⟨rs, hr, rfl⟩ := h
    unfold resList at h'
    split at h'
    · rename_i v vs' h1 h2
      injection h' with h'; subst h'
      simp only [resOne, Option.some.injEq] at h1; subst h1
      obtain ⟨us, hrun, hV⟩ := resList_sound hst hr h2
      exact ⟨_ :: us, by simp only [List.mapM_cons, rdRes, Sem.run_bind, Sem.run_pure, Result.andThen_ok, hrun], _, us, rfl, hst.env t, hV⟩
    · cases h'
  | .cell ad t :: l, rs, vs, h, h' => by
    unfold compRes at h
    split at h
    · rename_i i rs' hi hr
      simp only [Option.ite_none_right_eq_some, Option.some.injEq] at h
      obtain ⟨⟨h1, _⟩, rfl⟩ := h
      unfold resList at h'
      split at h'
      · rename_i v vs' h3 h4
        injection h' with h'; subst h'
        obtain ⟨us, hrun, hV⟩ := resList_sound hst hr h4
        obtain ⟨r, hr1, hr2⟩ := run_loadVar_A hst.rel hi h1 (hst.env ad) h3
        refine ⟨r :: us, ?_, r, us, rfl, hr2, hV⟩
        simp only [List.mapM_cons, rdRes]
        rw [Sem.run_bind, hr1]
        simp only [Result.andThen_ok, Sem.run_bind, hrun, Sem.run_pure]
      · cases h'
    · cases h

theorem resA_sound {σ : Sig} {K : Bool → Nat → Prop} {e : Env} {m : Mem} {a : Act} {w : World} {fn : Func} {rs : List Res} {v : AV} (hst : St β N e m a w σ K) (hr : compRes P fn.results.toList = some rs) (h : resA rs e m = some v) :
    ∃ u, (results fn a.tmps).run P w = .ok u w ∧ VR σ K w v u := by
  have hm : ∀ (vs : List AV), resList e m rs = some vs → ∃ us : List Value, (results fn a.tmps).run P w = .ok (if h : us.length = 1 then us[0] else .tuple us.toArray) w ∧ VRs σ K w vs us := by
    intro vs hvs
    obtain ⟨us, hrun, hV⟩ := resList_sound (P := P) hst hr hvs
    refine ⟨us, ?_, hV⟩
    rw [results_eq, Array.mapM_eq_mapM_toList, Sem.run_bind, map_eq_pure_bind, Sem.run_bind, hrun]
    simp
  unfold resA at h
  split at h
  · rename_i v' hvs
    injection h with h; subst h
    obtain ⟨us, hrun, hV⟩ := hm _ hvs
    obtain ⟨u, rfl, hV'⟩ := VRs1 hV
    exact ⟨u, by simpa using hrun, hV'⟩
  · rename_i vs hne hvs
    injection h with h; subst h
    obtain ⟨us, hrun, hV⟩ := hm _ hvs
    have hl := VRs_length hV
    refine ⟨.tuple us.toArray, ?_, by rw [VR]; exact ⟨_, rfl, by simpa using hV⟩⟩
    rw [dif_neg] at hrun
    · exact hrun
    · intro h1
      rw [h1] at hl
      match vs, hl with
      | [v], _ => exact hne v rfl
  · cases h

def Env.ofArgs (i : Nat) : List AV → Env
  | [] => []
  | x :: l => (i, x) :: Env.ofArgs (i + 1) l

theorem Env.get_ofArgs : ∀ (l : List AV) (i t : Nat), (Env.ofArgs i l).get t = if i ≤ t then (l[t - i]?).getD .any else .any
  | [], i, t => by simp [Env.ofArgs, Env.get]
  | x :: l, i, t => by
    rw [Env.ofArgs, Env.get, Env.get_ofArgs l (i + 1) t]
    by_cases h : i = t
    · subst h; simp
    · rw [if_neg h]
      by_cases h1 : i ≤ t
      · rw [if_pos h1, if_pos (by omega), show t - i = (t - (i + 1)) + 1 by omega, List.getElem?_cons_succ]
      · rw [if_neg h1, if_neg (by omega)]

/-- How a function's body has to end. -/
def endPost (rs : List Res) (R : AOut → Mem → Prop) : Post := fun x e m => match x with
  | .norm | .ret => ∃ v, resA rs e m = some v ∧ R (.ret v) m
  | .panic v => R (.panic v) m
  | .exit _ => False

theorem Rel.withD {σ : Sig} {K : Bool → Nat → Prop} {m : Mem} {w : World} (h : Rel β K σ m w) (D : List Deferred) : Rel { β with D := D } K σ m w := ⟨h.next, h.objs, h.inj, h.own, h.kept, h.kept0, h.sig, h.size, h.frame, h.os, h.tape, h.output⟩
theorem Rel.offD {σ : Sig} {K : Bool → Nat → Prop} {m : Mem} {w : World} {D : List Deferred} (h : Rel { β with D := D } K σ m w) : Rel β K σ m w := ⟨h.next, h.objs, h.inj, h.own, h.kept, h.kept0, h.sig, h.size, h.frame, h.os, h.tape, h.output⟩

/-- **A function does what is said of its body.** -/
theorem acalls_of_wp {f : FuncId} {fn : Func} {c : Code} {sc : SC} {rs : List Res} {xs : List AV} {m : Mem} {R : AOut → Mem → Prop} (hf : P.funcs[f]? = some fn) (hb : fn.body = some c) (hn : (fn.name == "runtime.NumGoroutine") = false)
    (hc : compCode P imp fn.ntmps c = some sc.strip) (hr : compRes P fn.results.toList = some rs) (hlen : xs.length ≤ fn.ntmps) (h : wp P imp sc (endPost rs R) (Env.ofArgs 0 xs) m) : ACalls P f xs m R := by
  refine ⟨⟨fn, hf, by rw [hb]; rfl, hn⟩, fun β K σ w vals hrel hv => ?_⟩
  have hvl := VRs_length hv
  refine calls_of_wp hf hb (wp_mono (wp_sound (σ0 := σ) (K0 := K) (w0 := w) (β := { β with D := [] }) c sc hc _ _ m _ w σ K h ⟨hrel.withD [], ?_, rfl, ?_⟩ ⟨List.prefix_refl _, fun _ _ h => h, fun _ _ _ => rfl⟩) ?_)
  · intro t
    rw [Env.get_ofArgs]
    simp only [Nat.zero_le, if_true, Nat.sub_zero]
    cases hx : xs[t]? with
    | none => simp [VR]
    | some x =>
      obtain ⟨u, hu, hV⟩ := (VRs_iff.1 hv).2 t x hx
      have ht := (List.getElem?_eq_some_iff.1 hu).1
      have : (vals.toArray ++ Array.replicate (fn.ntmps - vals.toArray.size) undef).getD t undef = u := by
        rw [Array.getD_eq_getD_getElem?, Array.getElem?_append_left (by simpa using ht)]
        simp [hu]
      rw [this]
      exact hV
  · simp; omega
  · rintro ex a' w' ⟨ax, e', m', σ', K', hq, hxr, hst', h1, h2, h3⟩
    cases ex <;> cases ax <;> simp only [exitR] at hxr
    case normal.norm =>
      obtain ⟨v, hv, hR⟩ := hq
      obtain ⟨u, hu, hV⟩ := resA_sound hst' hr hv
      exact ⟨hst'.defers, u, hu, K', σ', m', .ret v, hR, hst'.rel.offD, h1, h2, h3, u, rfl, hV⟩
    case ret.ret =>
      obtain ⟨v, hv, hR⟩ := hq
      obtain ⟨u, hu, hV⟩ := resA_sound hst' hr hv
      exact ⟨hst'.defers, u, hu, K', σ', m', .ret v, hR, hst'.rel.offD, h1, h2, h3, u, rfl, hV⟩
    case exit.exit => exact hq.elim
    case panic.panic v chain =>
      obtain ⟨u, rfl, hV⟩ := hxr
      exact ⟨hst'.defers, K', σ', m', .panic _, hq, hst'.rel.offD, h1, h2, h3, u, rfl, hV⟩

end
end Go.Pm
