/- PmR: functions that defer one closure, which recovers. -/
import Derived.RecoverIn
import Derived.Test.YtmcogjekcefjoaaGreatDoorPmQ
namespace Go.Pm
open Go
section
variable {P : Prg} {imp : List FuncId} {β : Base} {N : Nat}
def splitD : Code → Option (Code × Code × Code)
  | .seq a b => match a with
    | .region id os draw => if os.toList.any (fun o => match o.op with | .defer _ => true | _ => false) then some (.skip, .region id os draw, b) else match splitD b with
      | some (x, r, y) => some (.seq a x, r, y)
      | none => none
    | _ => match splitD b with
      | some (x, r, y) => some (.seq a x, r, y)
      | none => none
  | _ => none
theorem wp_split (hβ : β.fits P) {σ0 : Sig} {K0 : Bool → Nat → Prop} {w0 : World} {Qc : Exit → Act → World → Prop} {r y : Code} : ∀ (c x : Code), splitD c = some (x, r, y) → ∀ (sx : SC), compCode P imp N x = some sx.strip → sx.flat = true →
    ∀ (Q : Post) (e : Env) (m : Mem) (a : Act) (w : World) (σ : Sig) (K : Bool → Nat → Prop), wp P imp sx Q e m → St β N e m a w σ K → Ext σ0 K0 w0 σ K w →
    (∀ a w, conc True β N σ0 K0 w0 Q .normal a w → wpR none (real P) P r (Exit.then (wpR none (real P) P y Qc) Qc) a w) → (∀ ex a w, ex ≠ .normal → conc True β N σ0 K0 w0 Q ex a w → Qc ex a w) → wpR none (real P) P c Qc a w := by
  intro c
  induction c with
  | seq a b iha ihb =>
    intro x hsp sx hc hfl Q e m ac w σ K h hst hext hnext hother
    have step : ∀ x', splitD b = some (x', r, y) → x = .seq a x' → wpR none (real P) P (Code.seq a b) Qc ac w := by
      intro x' hb hx
      subst hx
      unfold compCode at hc
      split at hc
      · rename_i sa sb ha hx'
        cases sx <;> simp only [SC.strip, Option.some.injEq, reduceCtorEq, SC.seq.injEq] at hc
        rename_i s1 s2
        obtain ⟨rfl, rfl⟩ := hc
        have hf : s1.flat = true ∧ s2.flat = true := by simpa only [SC.flat, Bool.and_eq_true] using hfl
        refine wpR_seq (wpR_mono (wp_sound (r := none) (z := True) a s1 ha (.inr hf.1) (fun _ => hf.1) β hβ _ e m ac w σ K h hst hext) ?_)
        rintro ex a' w' hcon
        cases ex with
        | normal =>
          obtain ⟨Ds, ax, e', m', σ', K', hq, hxr, hst', ⟨h1, h2, h3⟩, hD⟩ := hcon
          cases ax <;> simp only [exitR] at hxr
          have hD := hD trivial
          subst hD
          exact ihb x' hb s2 hx' hf.2 Q e' m' a' w' σ' K' hq hst' ⟨h1, h2, h3⟩ hnext hother
        | exit i =>
          obtain ⟨Ds, ax, e', m', σ', K', hq, hxr, hst', ⟨h1, h2, h3⟩, hD⟩ := hcon
          cases ax <;> simp only [exitR] at hxr
          exact hother _ _ _ (by simp) ⟨Ds, .exit _, e', m', σ', K', hq, hxr, hst', ⟨h1, h2, h3⟩, hD⟩
        | goto l =>
          obtain ⟨Ds, ax, e', m', σ', K', hq, hxr, _⟩ := hcon
          cases ax <;> simp only [exitR] at hxr
        | ret =>
          obtain ⟨Ds, ax, e', m', σ', K', hq, hxr, hst', ⟨h1, h2, h3⟩, hD⟩ := hcon
          cases ax <;> simp only [exitR] at hxr
          exact hother _ _ _ (by simp) ⟨Ds, .ret, e', m', σ', K', hq, trivial, hst', ⟨h1, h2, h3⟩, hD⟩
        | panic ch =>
          obtain ⟨Ds, ax, e', m', σ', K', hq, hxr, hst', ⟨h1, h2, h3⟩, hD⟩ := hcon
          cases ax <;> simp only [exitR] at hxr
          exact hother _ _ _ (by simp) ⟨Ds, .panic _, e', m', σ', K', hq, hxr, hst', ⟨h1, h2, h3⟩, hD⟩
        | outgrown =>
          obtain ⟨Ds, ax, e', m', σ', K', hq, hxr, _⟩ := hcon
          cases ax <;> simp only [exitR] at hxr
      · cases hc
    unfold splitD at hsp
    split at hsp
    · split at hsp
      · injection hsp with hsp; injection hsp with h1 h2; injection h2 with h2 h3
        subst h1; subst h2; subst h3
        cases sx <;> simp only [compCode, SC.strip, Option.some.injEq, reduceCtorEq] at hc
        exact wpR_seq (hnext _ _ ⟨[], .norm, e, m, σ, K, h, trivial, hst, ⟨hext.sig, hext.kept, hext.same⟩, fun _ => rfl⟩)
      · split at hsp
        · rename_i x' r' y' hb
          injection hsp with hsp; injection hsp with h1 h2; injection h2 with h2 h3
          subst h2; subst h3
          exact step x' hb h1.symm
        · cases hsp
    · split at hsp
      · rename_i x' r' y' hb
        injection hsp with hsp; injection hsp with h1 h2; injection h2 with h2 h3
        subst h2; subst h3
        exact step x' hb h1.symm
      · cases hsp
  | _ => intro x hsp; simp [splitD] at hsp
def modeR (σ : Sig) (K : Bool → Nat → Prop) (w : World) (pan : Option AV) (done : Bool) (u : FrameMode) : Prop := match pan with
  | none => u = .returning
  | some pv => ∃ v, VR σ K w pv v ∧ u = .panicking [{ v := v, recovered := done }]
def DCalls (P : Prg) (f : FuncId) (xs : List AV) (pan : Option AV) (m : Mem) (R : Mem → Prop) : Prop :=
  (∃ fn, P.funcs[f]? = some fn ∧ fn.body.isSome = true ∧ (fn.name == "runtime.NumGoroutine") = false) ∧
  ∀ (β : Base) (K : Bool → Nat → Prop) (σ : Sig) (w : World) (vals : List Value) (u : FrameMode), Rel β K σ m w → VRs σ K w xs vals → modeR σ K w pan false u → β.fits P →
    CallsDIn Fence.wide 0 P f vals.toArray u w fun e u' w' => (∃ v, e = .returned v) ∧ settle u' = .returning ∧ ∃ K' σ' m', R m' ∧ Rel β K' σ' m' w' ∧ σ <+: σ' ∧ (∀ p b, K p b → K' p b) ∧ (∀ p b, K p b → w'.heap[b]? = w.heap[b]?)
def isRecover : Code → Option (Nat × Code)
  | .seq (.region _ os draw) b => match draw, os.toList with
    | false, [o] => match o.op, o.dst, o.guard with
      | .call c, some t, none => match c.callee, c.args.size with
        | .builtin .recover, 0 => some (t, b)
        | _, _ => none
      | _, _, _ => none
    | _, _ => none
  | _ => none
theorem run_recover {ρ : Operand → Value} {w : World} {o : Oper} {c : Call} (ho : o.op = .call c) (hc : c.callee = .builtin .recover) (ha : c.args.size = 0) : (execOp ρ o).run P w = .ok .recover w := by
  have : c.args = #[] := Array.eq_empty_of_size_eq_zero ha
  simp [execOp, ho, resolve, hc, this, invoke, builtin]
def postR (R : Mem → Prop) : Post := fun x _ m => match x with
  | .norm | .ret => R m
  | _ => False
theorem dcalls_of_wp {f : FuncId} {fn : Func} {c rest : Code} {sc : SC} {t : Nat} {xs : List AV} {pan : Option AV} {m : Mem} {R : Mem → Prop} (hf : P.funcs[f]? = some fn) (hb : fn.body = some c) (hn : (fn.name == "runtime.NumGoroutine") = false)
    (hi : isRecover c = some (t, rest)) (hc : compCode P imp fn.ntmps rest = some sc.strip) (hfl : sc.flat = true) (hres : fn.results = #[]) (ht : t < fn.ntmps) (hlen : xs.length ≤ fn.ntmps)
    (h : wp P imp sc (postR R) ((Env.ofArgs 0 xs).set t (pan.getD (.const .nilIface))) m) : DCalls P f xs pan m R := by
  refine ⟨⟨fn, hf, by rw [hb]; rfl, hn⟩, fun β K σ w vals u hrel hv hu hβ => ?_⟩
  refine callsDIn_of_wpSIn hf hb trivial fun c₀ cs hm => ?_
  unfold isRecover at hi
  split at hi
  case h_2 => cases hi
  rename_i id os draw b
  split at hi
  case h_2 => cases hi
  rename_i o hos
  split at hi
  case h_2 => cases hi
  rename_i cl t' hop hdst hgd
  split at hi
  case h_2 => cases hi
  rename_i hcal hsz
  injection hi with hi; injection hi with h1 h2; subst h1; subst h2
  have hos' : os = #[o] := by apply Array.ext'; simpa using hos
  subst hos'
  have hw : ∀ g, Region.wanted o g = true := fun g => by simp [Region.wanted, hgd]
  have hrec : ∀ ρ : Operand → Value, (execOp ρ o).run P w = .ok .recover w := fun ρ => run_recover hop hcal hsz
  have hvl := VRs_length hv
  obtain ⟨a0, ha0⟩ : ∃ a : Act, a = { tmps := vals.toArray ++ Array.replicate (fn.ntmps - vals.toArray.size) undef, defers := [] } := ⟨_, rfl⟩
  have hsize : a0.tmps.size = fn.ntmps := by rw [ha0]; simp; omega
  have henv : EnvR σ K w (Env.ofArgs 0 xs) a0 := by
    intro t
    rw [Env.get_ofArgs]
    simp only [Nat.zero_le, if_true, Nat.sub_zero]
    cases hx : xs[t]? with
    | none => simp [VR]
    | some x =>
      obtain ⟨u, hu, hV⟩ := (VRs_iff.1 hv).2 t x hx
      have ht := (List.getElem?_eq_some_iff.1 hu).1
      have : a0.tmps.getD t undef = u := by
        rw [ha0, Array.getD_eq_getD_getElem?, Array.getElem?_append_left (by simpa using ht)]
        simp [hu]
      rw [this]
      exact hV
  rw [← ha0]
  obtain ⟨rv, u', hrv, hcs, hset⟩ : ∃ rv u', VR σ K w (pan.getD (.const .nilIface)) rv ∧ (match recoverD (c₀ :: cs) with | some (v, cs') => (v = rv ∧ cs' = { c₀ with mode := u' } :: cs) | none => (rv = .nilIface ∧ c₀ = { c₀ with mode := u' })) ∧ settle u' = .returning := by
    cases pan with
    | none =>
      have hu' : u = .returning := hu
      refine ⟨.nilIface, .returning, by simp [VR], ?_, rfl⟩
      have : recoverD (c₀ :: cs) = none := by simp [recoverD, hm, hu']
      rw [this]
      refine ⟨rfl, ?_⟩
      have e : c₀.mode = .returning := hm.trans hu'
      cases c₀; simp only at e; subst e; rfl
    | some pv =>
      obtain ⟨v, hV, hu'⟩ := hu
      refine ⟨v, .panicking [{ v := v, recovered := true }], hV, ?_, rfl⟩
      have : recoverD (c₀ :: cs) = some (v, { c₀ with mode := .panicking [{ v := v, recovered := true }] } :: cs) := by simp [recoverD, hm, hu']
      rw [this]
      exact ⟨rfl, rfl⟩
  have hst : St { β with D := [] } fn.ntmps ((Env.ofArgs 0 xs).set t' (pan.getD (.const .nilIface))) m (a0.put (some t') rv) w σ K :=
    ⟨hrel.withD [], henv.put (d := some t') hrv (by simpa using ht) hsize, by rw [Act.put_defers, ha0], by rw [Act.put_size]; exact hsize⟩
  have hrest : b.wpSIn Fence.wide 0 P (bodyPostS P fn c₀ cs fun e u'' w' => (∃ v, e = .returned v) ∧ settle u'' = .returning ∧ ∃ K' σ' m', R m' ∧ Rel β K' σ' m' w' ∧ σ <+: σ' ∧ (∀ p b, K p b → K' p b) ∧ (∀ p b, K p b → w'.heap[b]? = w.heap[b]?)) (a0.put (some t') rv) ({ c₀ with mode := u' } :: cs) w := by
    refine wpSIn_of_wpIn rfl (wpIn_wide.2 (wpR_wp (wpR_mono (wp_sound (r := none) (z := True) (G := fun _ => True) (σ0 := σ) (K0 := K) (w0 := w) b sc hc (.inr hfl) (fun _ => hfl) { β with D := [] } hβ _ _ m _ w σ K h hst ⟨List.prefix_refl _, fun _ _ h => h, fun _ _ _ => rfl⟩) ?_)))
    rintro ex a' w' ⟨Ds, ax, e', m', σ', K', hq, hxr, hst', ⟨h1, h2, h3⟩, hD⟩
    have hD := hD trivial
    subst hD
    rw [Base.also_nil] at hst'
    have hres' : (results fn a'.tmps).run P w' = .ok (.tuple #[]) w' := by simp [results, hres]
    cases ex <;> cases ax <;> simp only [exitR] at hxr
    case normal.norm => exact ⟨hst'.defers, u', rfl, _, hres', ⟨_, rfl⟩, hset, K', σ', m', hq, hst'.rel.offD, h1, h2, h3⟩
    case ret.ret => exact ⟨hst'.defers, u', rfl, _, hres', ⟨_, rfl⟩, hset, K', σ', m', hq, hst'.rel.offD, h1, h2, h3⟩
    case exit.exit => exact hq.elim
    case panic.panic => exact hq.elim
  refine wpSIn_seq (wpSIn_region ?_)
  have hyl : List.range #[o].size = [0] := rfl
  rw [hyl]
  simp only [wpOpsSIn, List.getElem?_toArray, List.getElem?_cons_zero, hw, if_true, hrec, hdst]
  refine ⟨fun _ _ => trivial, ?_⟩
  split
  · rename_i v cs' hr
    rw [hr] at hcs
    obtain ⟨rfl, rfl⟩ := hcs
    exact hrest
  · rename_i hr
    rw [hr] at hcs
    obtain ⟨hcs, he⟩ := hcs
    rw [← hcs]
    show b.wpSIn _ _ _ _ _ (c₀ :: cs) w
    rw [show c₀ :: cs = { c₀ with mode := u' } :: cs by rw [← he]]
    exact hrest
def deferOf : Code → Option (Nat × FuncId × List Opnd)
  | .region _ os draw => match draw, os.toList with
    | false, [o, o'] => match o.op, o.dst, o.guard, o'.op, o'.dst, o'.guard with
      | .makeFunc (.func g) first caps, some t, none, .defer c, none, none => match c.callee, opnds caps.toList with
        | .value (.tmp t'), some l => if first.size = 0 ∧ c.args.size = 0 ∧ t' = t then some (t, g, l) else none
        | _, _ => none
      | _, _, _, _, _, _ => none
    | _, _ => none
  | _ => none
def postF (P : Prg) (rs : List Res) (R : AOut → Mem → Prop) (g : FuncId) (xs : List AV) : Post := fun x e m => match x with
  | .norm | .ret => ∃ R1, DCalls P g xs none m R1 ∧ ∀ m', R1 m' → ∃ v, resA rs e m' = some v ∧ R (.ret v) m'
  | .panic pv => ∃ R1, DCalls P g xs (some pv) m R1 ∧ ∀ m', R1 m' → ∃ v, resA rs e m' = some v ∧ R (.ret v) m'
  | .exit _ => False
def postE (P : Prg) (imp : List FuncId) (rs : List Res) (R : AOut → Mem → Prop) (g : FuncId) (caps : List Opnd) (t : Nat) (sy : SC) : Post := fun x e m => match x with
  | .norm => wp P imp sy (postF P rs R g (caps.map (·.eval e))) (e.set t .any) m
  | .ret => ∃ v, resA rs e m = some v ∧ R (.ret v) m
  | _ => False
theorem acalls_of_defers {f g : FuncId} {fn : Func} {c x r y : Code} {sx sy : SC} {rs : List Res} {t : Nat} {caps : List Opnd} {xs : List AV} {m : Mem} {R : AOut → Mem → Prop} (hf : P.funcs[f]? = some fn) (hb : fn.body = some c) (hn : (fn.name == "runtime.NumGoroutine") = false)
    (hsp : splitD c = some (x, r, y)) (hx : compCode P imp fn.ntmps x = some sx.strip) (hfl : sx.flat = true) (hd : deferOf r = some (t, g, caps)) (hy : compCode P imp fn.ntmps y = some sy.strip) (hr : compRes P fn.results.toList = some rs) (ht : t < fn.ntmps) (hlen : xs.length ≤ fn.ntmps)
    (h : wp P imp sx (postE P imp rs R g caps t sy) (Env.ofArgs 0 xs) m) : ACalls P f xs m R := by
  refine ⟨⟨fn, hf, by rw [hb]; rfl, hn⟩, fun β K σ w vals hrel hv hβ => ?_⟩
  have hvl := VRs_length hv
  refine calls_of_wpR hf hb (wp_split (imp := imp) (β := { β with D := [] }) (N := fn.ntmps) hβ (σ0 := σ) (K0 := K) (w0 := w) c x hsp sx hx hfl _ _ m _ w σ K h ⟨hrel.withD [], ?_, rfl, ?_⟩ ⟨List.prefix_refl _, fun _ _ h => h, fun _ _ _ => rfl⟩ ?_ ?_)
  · intro t
    rw [Env.get_ofArgs]
    simp only [Nat.zero_le, if_true, Nat.sub_zero]
    cases hx : xs[t]? with
    | none => simp [VR]
    | some x =>
      obtain ⟨u, hu, hV⟩ := (VRs_iff.1 hv).2 t x hx
      have ht := (List.getElem?_eq_some_iff.1 hu).1
      have : (vals.toArray ++ Array.replicate (fn.ntmps - vals.toArray.size) undef).getD t undef = u := by
        rw [Array.getD_eq_getD_getElem?, Array.getElem?_append_left (by simpa using ht)]
        simp [hu]
      rw [this]
      exact hV
  · simp; omega
  · rintro a1 w1 ⟨Ds0, ax, e1, m1, σ1, K1, hq, hxr, hst1, ⟨g1, g2, g3⟩, hD0⟩
    have hD0 := hD0 trivial
    subst hD0
    rw [Base.also_nil] at hst1
    cases ax <;> simp only [exitR] at hxr
    have hq' : wp P imp sy (postF P rs R g (caps.map (·.eval e1))) (e1.set t .any) m1 := hq
    unfold deferOf at hd
    split at hd
    case h_2 => cases hd
    rename_i id os draw
    split at hd
    case h_2 => cases hd
    rename_i o o' hos
    split at hd
    case h_2 => cases hd
    rename_i g' first cps t' cl hop hdst hgd hop' hdst' hgd'
    split at hd
    case h_2 => cases hd
    rename_i t2 l hcal hcp
    simp only [Option.ite_none_right_eq_some, Option.some.injEq, Prod.mk.injEq] at hd
    obtain ⟨⟨hfirst, hargs, rfl⟩, rfl, rfl, rfl⟩ := hd
    have hos' : os = #[o, o'] := by apply Array.ext'; simpa using hos
    subst hos'
    have hfirst' : first = #[] := Array.eq_empty_of_size_eq_zero hfirst
    have hargs' : cl.args = #[] := Array.eq_empty_of_size_eq_zero hargs
    have hw : ∀ g, Region.wanted o g = true := fun g => by simp [Region.wanted, hgd]
    have hw' : ∀ g, Region.wanted o' g = true := fun g => by simp [Region.wanted, hgd']
    have hVc := opnds_sound hst1.env hcp
    obtain ⟨cv, hcv⟩ : ∃ cv : Array Value, cv = cps.map a1.eval := ⟨_, rfl⟩
    have hrun : (execOp a1.eval o).run P w1 = .ok (.value (.func (.func g') #[] cv)) w1 := by
      subst hfirst'
      simp [execOp, hop, Instr.makeFunc, hcv]
    obtain ⟨a2, ha2⟩ : ∃ a2 : Act, a2 = a1.put (some t2) (.func (.func g') #[] cv) := ⟨_, rfl⟩
    have hsz1 := hst1.size
    have hget : a2.tmps.getD t2 undef = .func (.func g') #[] cv := by
      rw [ha2]; simp [Act.put, Array.getD, hsz1, ht]
    have hrun' : (execOp a2.eval o').run P w1 = .ok (.defer ⟨.fn (.func g') cv, #[]⟩) w1 := by
      have he : a2.eval (.tmp t2) = .func (.func g') #[] cv := hget
      simp [execOp, hop', resolve, hcal, hargs', he, Deferred.ofValue]
    refine wpR_of (n := 0) (wpIn_region_list ?_)
    have : (#[o, o'] : Array Oper).toList = [o, o'] := rfl
    rw [this]
    simp only [wpListIn, hw, hw', if_true]
    refine wpIn_of (fun c => by rw [hop]; simp) ?_
    rw [hrun, Oper.uponIn_value, hdst, ← ha2]
    refine ⟨fun _ _ => trivial, ?_⟩
    show o'.uponIn _ _ _ _ _ _ ((execOp a2.eval o').run P w1)
    rw [hrun', Oper.uponIn_defer, hdst']
    show Exit.then _ _ Exit.normal _ _
    have hV1 : VRs σ1 K1 w1 (l.map (·.eval e1)) cv.toList := by rw [hcv, Array.toList_map]; exact hVc
    have hst2 : St { β with D := [⟨.fn (.func g') cv, #[]⟩] } fn.ntmps (e1.set t2 .any) m1 ({ a2 with defers := ⟨.fn (.func g') cv, #[]⟩ :: a2.defers }.put none undef) w1 σ1 K1 := by
      refine ⟨hst1.rel.offD.withD _, ?_, ?_, ?_⟩
      · have := hst1.env.put (d := some t2) (v := .any) (u := .func (.func g') #[] cv) (by rw [VR]; trivial) (by simpa using ht) hsz1
        rw [ha2]
        exact this
      · show _ :: a2.defers = _
        rw [ha2, Act.put_defers, hst1.defers]
      · show a2.tmps.size = _
        rw [ha2, Act.put_size]; exact hsz1
    refine wpR_mono (wp_sound (r := none) (z := False) (σ0 := σ1) (K0 := K1) (w0 := w1) y sy hy (.inl ⟨rfl, fun _ h => h⟩) (fun h => h.elim) { β with D := [⟨.fn (.func g') cv, #[]⟩] } hβ _ _ m1 _ w1 σ1 K1 hq' hst2 ⟨List.prefix_refl _, fun _ _ h => h, fun _ _ _ => rfl⟩) ?_
    have fin : ∀ (Ds : List Nat) (pan : Option AV) (u : FrameMode) (e' : Env) (m' : Mem) (a' : Act) (w' : World) (σ' : Sig) (K' : Bool → Nat → Prop), u ≠ .run → modeR σ' K' w' pan false u →
        (∃ R1, DCalls P g' (l.map (·.eval e1)) pan m' R1 ∧ ∀ m'', R1 m'' → ∃ v, resA rs e' m'' = some v ∧ R (.ret v) m'') → St (({ β with D := [⟨.fn (.func g') cv, #[]⟩] } : Base).also Ds) fn.ntmps e' m' a' w' σ' K' → σ1 <+: σ' → (∀ p b, K1 p b → K' p b) → (∀ p b, K1 p b → w'.heap[b]? = w1.heap[b]?) →
        LeavesInM Fence.wide 0 P fn a'.tmps (fun e w'' => ∃ K' σ' m' out, R out m' ∧ Rel β K' σ' m' w'' ∧ σ <+: σ' ∧ (∀ p b, K p b → K' p b) ∧ (∀ p b, K p b → w''.heap[b]? = w.heap[b]?) ∧ OutR σ' K' w'' out e) a'.defers u w' := by
      rintro Ds pan u e' m' a' w' σ' K' hu hmode ⟨R1, hD, hR1⟩ hst' j1 j2 j3
      obtain ⟨hrelT, hKT, hnd, hfr⟩ := hst'.rel.thaw
      obtain ⟨hstT, hdef⟩ := hst'.thaw
      have j3' : ∀ p b, K1 p b → (Pm.thaw w' Ds).heap[b]? = w1.heap[b]? := fun p b hb => (hKT p b (j2 p b hb)).trans (j3 p b hb)
      have hmode' : modeR σ' K' (Pm.thaw w' Ds) pan false u := by
        cases pan with
        | none => exact hmode
        | some pv =>
          obtain ⟨v, hV, hu'⟩ := hmode
          exact ⟨v, VR.mono (List.prefix_refl _) (fun _ _ h => h) hKT _ _ hV, hu'⟩
      rw [hdef]
      refine leaves_marks hu Ds w' hnd hfr ?_
      generalize Pm.thaw w' Ds = wt at hrelT hKT hstT j3' hmode'
      obtain ⟨⟨fn', hfn', hb', hn'⟩, hD⟩ := hD
      have hcv' : cv.toList.toArray = cv := by simp
      have hcall := hD { β with D := [] } K' σ' wt cv.toList u (hrelT.offD.withD []) (VRs.mono j1 j2 j3' _ _ hV1) hmode' hβ
      rw [hcv'] at hcall
      refine ⟨hu, .inr ⟨fun h => by simp [Fence.wide] at h, .func g', cv, g', cv, rfl, by simp only [invoke, Array.empty_append]; exact run_callFunc hfn' hb' hn' cv wt, fun _ _ => trivial, hcall.1, fun c cs hm hroom => ?_⟩⟩
      obtain ⟨e, u', w'', fr, ⟨⟨v, rfl⟩, hset, K2, σ2, m2, hR2, hrel2, i1, i2, i3⟩, hs⟩ := hcall.2 c cs hm hroom
      refine ⟨.returned v, u', w'', fr, ?_, hs⟩
      show LeavesInM _ _ _ _ _ _ [] (settle u') w''
      rw [hset]
      obtain ⟨v', hv', hRv⟩ := hR1 m2 hR2
      have hst3 : St { β with D := [⟨.fn (.func g') cv, #[]⟩] } fn.ntmps e' m2 { a' with defers := [⟨.fn (.func g') cv, #[]⟩] } w'' σ2 K2 := ⟨hrel2.offD.withD _, hstT.env.mono i1 i2 i3, rfl, hst'.size⟩
      obtain ⟨u2, hu2, hV2⟩ := resA_sound hst3 hr hv'
      exact ⟨u2, hu2, K2, σ2, m2, .ret v', hRv, hrel2.offD, g1.trans (j1.trans i1), fun p b hb => i2 p b (j2 p b (g2 p b hb)), fun p b hb => (i3 p b (j2 p b (g2 p b hb))).trans ((j3' p b (g2 p b hb)).trans (g3 p b hb)), u2, rfl, hV2⟩
    rintro ex a' w' ⟨Ds, ax, e', m', σ', K', hq, hxr, hst', ⟨h1, h2, h3⟩, _⟩
    cases ex <;> cases ax <;> simp only [exitR] at hxr
    case normal.norm => exact fin Ds none .returning e' m' a' w' σ' K' (by simp) rfl hq hst' h1 h2 h3
    case ret.ret => exact fin Ds none .returning e' m' a' w' σ' K' (by simp) rfl hq hst' h1 h2 h3
    case exit.exit => exact hq.elim
    case panic.panic chain v =>
      obtain ⟨u, rfl, hV⟩ := hxr
      exact fin Ds (some _) _ e' m' a' w' σ' K' (by simp) ⟨u, hV, rfl⟩ hq hst' h1 h2 h3
  · rintro ex a' w' hne ⟨Ds, ax, e', m', σ', K', hq, hxr, hst', ⟨h1, h2, h3⟩, hD⟩
    have hD := hD trivial
    subst hD
    rw [Base.also_nil] at hst'
    cases ex <;> cases ax <;> simp only [exitR] at hxr
    case normal.norm => exact absurd rfl hne
    case exit.exit => exact hq.elim
    case panic.panic => exact hq.elim
    case ret.ret =>
      obtain ⟨v, hv, hR⟩ := hq
      obtain ⟨u, hu, hV⟩ := resA_sound hst' hr hv
      show LeavesInM _ _ _ _ _ _ a'.defers _ _
      rw [hst'.defers]
      exact ⟨u, hu, K', σ', m', .ret v, hR, hst'.rel.offD, h1, h2, h3, u, rfl, hV⟩
theorem pcalls_of_acalls {f : FuncId} {xs : List AV} {R : AOut → Prop} (d : Nat) (hac : ACalls P f xs Mem.empty fun out m => ∃ out', permOD d m out = some out' ∧ R out') : PCalls P f xs R := by
  refine ⟨hac.1, fun K w vals hK hv hl => ?_⟩
  have hrel : Rel ⟨w, fun _ => False, K, [], [], [], P.ok, P.blocks, P.stable⟩ K [] Mem.empty w := by
    refine ⟨rfl, ?_, ?_, ?_, fun p b hb => ⟨.inl hb, hK p b hb⟩, fun _ _ h => h, List.prefix_refl _, Nat.le_refl _, fun _ _ _ => rfl, rfl, rfl, rfl, List.nodup_nil, (fun _ h => by cases h), hl.1, fun b hb => ⟨hl.2 b hb, ?_⟩⟩
    · intro pos g o h; simp [Mem.empty] at h
    · intro pos pos' g g' o o' b c c' h; simp [Mem.empty] at h
    · rintro b ⟨pos, g, o, c, h, _⟩; simp [Mem.empty] at h
    · rintro ⟨pos, g, o, c, h, _⟩; simp [Mem.empty] at h
  refine (hac.2 _ K [] w vals hrel hv ⟨rfl, rfl⟩).mono ?_
  rintro e w' ⟨K', σ', m', out, ⟨out', hp, hR⟩, hrel', h1, h2, h3, hout⟩
  have hg := grownBy_of (β := ⟨w, fun _ => False, K, [], [], [], P.ok, P.blocks, P.stable⟩) rfl (fun _ h => h) hrel'
  have hbound : ∀ p b, (K' p b ∨ Owned σ' m' b) → K p b ∨ w.heap.size ≤ b ∧ b < w'.heap.size := by
    rintro p b (hb | hb)
    · obtain ⟨h4, h5⟩ := hrel'.kept p b hb
      rcases h4 with h4 | h4 | h4
      · exact .inl h4
      · exact h4.elim
      · exact .inr ⟨h4, h5⟩
    · obtain ⟨h4, h5, _⟩ := hrel'.own b hb
      rcases h4 with h4 | h4
      · exact h4.elim
      · exact .inr ⟨h4, h5⟩
  cases out with
  | ret v =>
    simp only [permOD, Option.map_eq_some_iff] at hp
    obtain ⟨v', hp, rfl⟩ := hp
    obtain ⟨u, he, hV⟩ := hout
    obtain ⟨a1, a2⟩ := permD_sound hrel' d _ _ _ hp hV
    exact ⟨fun p b => K' p b ∨ Owned σ' m' b, .ret v', hR, a1, hg, fun p b hb => .inl (h2 p b hb), hbound, u, he, a2⟩
  | panic v =>
    simp only [permOD, Option.map_eq_some_iff] at hp
    obtain ⟨v', hp, rfl⟩ := hp
    obtain ⟨u, he, hV⟩ := hout
    obtain ⟨a1, a2⟩ := permD_sound hrel' d _ _ _ hp hV
    exact ⟨fun p b => K' p b ∨ Owned σ' m' b, .panic v', hR, a1, hg, fun p b hb => .inl (h2 p b hb), hbound, u, he, a2⟩
def FOkE (P : Program) (imp : List FuncId) (f : FuncId) (sx : SC) (t : Nat) (g : FuncId) (caps : List Opnd) (sy : SC) (rs : List Res) (n : Nat) : Prop :=
  ∃ fn c x r y, P.funcs[f]? = some fn ∧ fn.body = some c ∧ (fn.name == "runtime.NumGoroutine") = false ∧ splitD c = some (x, r, y) ∧ compCode P imp fn.ntmps x = some sx.strip ∧ deferOf r = some (t, g, caps) ∧ compCode P imp fn.ntmps y = some sy.strip ∧ compRes P fn.results.toList = some rs ∧ fn.ntmps = n ∧ t < n ∧ sx.flat = true
def FOkR (P : Program) (imp : List FuncId) (f : FuncId) (t : Nat) (sc : SC) (n : Nat) : Prop :=
  ∃ fn c rest, P.funcs[f]? = some fn ∧ fn.body = some c ∧ (fn.name == "runtime.NumGoroutine") = false ∧ isRecover c = some (t, rest) ∧ compCode P imp fn.ntmps rest = some sc.strip ∧ fn.results = #[] ∧ fn.ntmps = n ∧ t < n ∧ sc.flat = true
theorem FOkE.acalls {f g : FuncId} {sx sy : SC} {t n : Nat} {caps : List Opnd} {rs : List Res} (h : FOkE P imp f sx t g caps sy rs n) {xs : List AV} {m : Mem} {R : AOut → Mem → Prop} (hlen : xs.length ≤ n) (hw : wpS P imp sx [] (postE P imp rs R g caps t sy) (Env.ofArgs 0 xs) m) : ACalls P f xs m R := by
  obtain ⟨fn, c, x, r, y, h1, h2, h3, h4, h5, h6, h7, h8, rfl, h9, h10⟩ := h
  exact acalls_of_defers h1 h2 h3 h4 h5 h10 h6 h7 h8 h9 hlen hw.out
theorem FOkR.dcalls {f : FuncId} {sc : SC} {t n : Nat} (h : FOkR P imp f t sc n) {xs : List AV} {pan : Option AV} {m : Mem} {R : Mem → Prop} (hlen : xs.length ≤ n) (hw : wpS P imp sc [] (postR R) ((Env.ofArgs 0 xs).set t (pan.getD (.const .nilIface))) m) : DCalls P f xs pan m R := by
  obtain ⟨fn, c, rest, h1, h2, h3, h4, h5, h6, rfl, h8, h9⟩ := h
  exact dcalls_of_wp h1 h2 h3 h4 h5 h9 h6 h8 hlen hw.out
section
variable {rs : List Res} {R : AOut → Mem → Prop} {g : FuncId} {caps : List Opnd} {t : Nat} {sy : SC} {e : Env} {m : Mem} {xs : List AV}
theorem postE_norm : postE P imp rs R g caps t sy .norm e m = wpS P imp sy [] (postF P rs R g (caps.map (·.eval e))) (e.set t .any) m := by
  simp only [wpS, Hide_eq]; rfl
theorem postE_ret : postE P imp rs R g caps t sy .ret e m = ∃ v, resA rs e m = some v ∧ R (.ret v) m := rfl
theorem postF_ret : postF P rs R g xs .ret e m = ∃ R1, DCalls P g xs none m R1 ∧ ∀ m', R1 m' → ∃ v, resA rs e m' = some v ∧ R (.ret v) m' := rfl
theorem postF_panic {pv : AV} : postF P rs R g xs (.panic pv) e m = ∃ R1, DCalls P g xs (some pv) m R1 ∧ ∀ m', R1 m' → ∃ v, resA rs e m' = some v ∧ R (.ret v) m' := rfl
theorem postR_norm {R : Mem → Prop} : postR R .norm e m = R m := rfl
theorem postR_ret {R : Mem → Prop} : postR R .ret e m = R m := rfl
end
attribute [simp] postE_norm postE_ret postR_norm postR_ret nilOf isNilC assertA growA
end
end Go.Pm
