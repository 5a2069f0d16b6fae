/- PmT: deferred functions that recover into a variable. -/
import Derived.Test.YtmcogjekcefjoaaGreatDoorPmS
namespace Go.Pm
open Go
section
variable {P : Prg} {imp : List FuncId}
def isRecover2 : Code → Option (Nat × Nat × Code)
  | .seq (.region _ os draw) b => match draw, os.toList with
    | false, [o, o2] => match o.op, o.dst, o.guard, o2.op, o2.dst, o2.guard with
      | .call c, some t, none, .assign x, some t2, none => match c.callee, c.args.size with
        | .builtin .recover, 0 => match x with
          | .tmp t' => if t' = t then some (t, t2, b) else none
          | _ => none
        | _, _ => none
      | _, _, _, _, _, _ => none
    | _, _ => none
  | _ => none
theorem dcalls_of_wp2 {f : FuncId} {fn : Func} {c rest : Code} {sc : SC} {t t2 : Nat} {xs : List AV} {pan : Option AV} {m : Mem} {R : Mem → Prop} (hf : P.funcs[f]? = some fn) (hb : fn.body = some c) (hn : (fn.name == "runtime.NumGoroutine") = false)
    (hi : isRecover2 c = some (t, t2, rest)) (hc : compCode P imp fn.ntmps rest = some sc.strip) (hfl : sc.flat = true) (hres : fn.results = #[]) (ht : t < fn.ntmps) (ht2 : t2 < fn.ntmps) (hlen : xs.length ≤ fn.ntmps)
    (h : wp P imp sc (postR R) (((Env.ofArgs 0 xs).set t (pan.getD (.const .nilIface))).set t2 (pan.getD (.const .nilIface))) m) : DCalls P f xs pan m R := by
  refine ⟨⟨fn, hf, by rw [hb]; rfl, hn⟩, fun β K σ w vals u hrel hv hu hβ => ?_⟩
  refine callsDIn_of_wpSIn hf hb trivial fun c₀ cs hm => ?_
  unfold isRecover2 at hi
  split at hi
  case h_2 => cases hi
  rename_i id os draw b
  split at hi
  case h_2 => cases hi
  rename_i o o2 hos
  split at hi
  case h_2 => cases hi
  rename_i cl t' x2 t2' hop hdst hgd hop2 hdst2 hgd2
  split at hi
  case h_2 => cases hi
  rename_i hcal hsz
  split at hi
  case h_2 => cases hi
  split at hi
  case isFalse => cases hi
  rename_i tt hx2
  subst hx2
  injection hi with hi; injection hi with h1 h2; injection h2 with h2 h3; subst h1; subst h2; subst h3
  have hos' : os = #[o, o2] := by apply Array.ext'; simpa using hos
  subst hos'
  have hw : ∀ g, Region.wanted o g = true := fun g => by simp [Region.wanted, hgd]
  have hw2 : ∀ g, Region.wanted o2 g = true := fun g => by simp [Region.wanted, hgd2]
  have hrec : ∀ ρ : Operand → Value, (execOp ρ o).run P w = .ok .recover w := fun ρ => run_recover hop hcal hsz
  have hmv : ∀ ρ : Operand → Value, (execOp ρ o2).run P w = .ok (.value (ρ (.tmp tt))) w := fun ρ => by simp [execOp, hop2]
  have hvl := VRs_length hv
  obtain ⟨a0, ha0⟩ : ∃ a : Act, a = { tmps := vals.toArray ++ Array.replicate (fn.ntmps - vals.toArray.size) undef, defers := [] } := ⟨_, rfl⟩
  have hsize : a0.tmps.size = fn.ntmps := by rw [ha0]; simp; omega
  have henv : EnvR σ K w (Env.ofArgs 0 xs) a0 := by
    intro t
    rw [Env.get_ofArgs]
    simp only [Nat.zero_le, if_true, Nat.sub_zero]
    cases hx : xs[t]? with
    | none => simp [VR]
    | some x =>
      obtain ⟨u, hu, hV⟩ := (VRs_iff.1 hv).2 t x hx
      have ht := (List.getElem?_eq_some_iff.1 hu).1
      have : a0.tmps.getD t undef = u := by
        rw [ha0, Array.getD_eq_getD_getElem?, Array.getElem?_append_left (by simpa using ht)]
        simp [hu]
      rw [this]
      exact hV
  rw [← ha0]
  obtain ⟨rv, u', hrv, hcs, hset⟩ : ∃ rv u', VR σ K w (pan.getD (.const .nilIface)) rv ∧ (match recoverD (c₀ :: cs) with | some (v, cs') => (v = rv ∧ cs' = { c₀ with mode := u' } :: cs) | none => (rv = .nilIface ∧ c₀ = { c₀ with mode := u' })) ∧ settle u' = .returning := by
    cases pan with
    | none =>
      have hu' : u = .returning := hu
      refine ⟨.nilIface, .returning, by simp [VR], ?_, rfl⟩
      have : recoverD (c₀ :: cs) = none := by simp [recoverD, hm, hu']
      rw [this]
      refine ⟨rfl, ?_⟩
      have e : c₀.mode = .returning := hm.trans hu'
      cases c₀; simp only at e; subst e; rfl
    | some pv =>
      obtain ⟨v, hV, hu'⟩ := hu
      refine ⟨v, .panicking [{ v := v, recovered := true }], hV, ?_, rfl⟩
      have : recoverD (c₀ :: cs) = some (v, { c₀ with mode := .panicking [{ v := v, recovered := true }] } :: cs) := by simp [recoverD, hm, hu']
      rw [this]
      exact ⟨rfl, rfl⟩
  have hst : St { β with D := [] } fn.ntmps (((Env.ofArgs 0 xs).set tt (pan.getD (.const .nilIface))).set t2' (pan.getD (.const .nilIface))) m ((a0.put (some tt) rv).put (some t2') rv) w σ K :=
    ⟨hrel.withD [], (henv.put (d := some tt) hrv (by simpa using ht) hsize).put (d := some t2') hrv (by simpa using ht2) (by rw [Act.put_size]; exact hsize), by rw [Act.put_defers, Act.put_defers, ha0], by rw [Act.put_size, Act.put_size]; exact hsize⟩
  have hrest : b.wpSIn Fence.wide 0 P (bodyPostS P fn c₀ cs fun e u'' w' => (∃ v, e = .returned v) ∧ settle u'' = .returning ∧ ∃ K' σ' m', R m' ∧ Rel β K' σ' m' w' ∧ σ <+: σ' ∧ (∀ p b, K p b → K' p b) ∧ (∀ p b, K p b → w'.heap[b]? = w.heap[b]?)) ((a0.put (some tt) rv).put (some t2') rv) ({ c₀ with mode := u' } :: cs) w := by
    refine wpSIn_of_wpIn rfl (wpIn_wide.2 (wpR_wp (wpR_mono (wp_sound (r := none) (z := True) (G := fun _ => True) (σ0 := σ) (K0 := K) (w0 := w) b sc hc (.inr hfl) (fun _ => hfl) { β with D := [] } hβ _ _ m _ w σ K h hst ⟨List.prefix_refl _, fun _ _ h => h, fun _ _ _ => rfl⟩) ?_)))
    rintro ex a' w' ⟨Ds, ax, e', m', σ', K', hq, hxr, hst', ⟨h1, h2, h3⟩, hD⟩
    have hD := hD trivial
    subst hD
    rw [Base.also_nil] at hst'
    have hres' : (results fn a'.tmps).run P w' = .ok (.tuple #[]) w' := by simp [results, hres]
    cases ex <;> cases ax <;> simp only [exitR] at hxr
    case normal.norm => exact ⟨hst'.defers, u', rfl, _, hres', ⟨_, rfl⟩, hset, K', σ', m', hq, hst'.rel.offD, h1, h2, h3⟩
    case ret.ret => exact ⟨hst'.defers, u', rfl, _, hres', ⟨_, rfl⟩, hset, K', σ', m', hq, hst'.rel.offD, h1, h2, h3⟩
    case exit.exit => exact hq.elim
    case panic.panic => exact hq.elim
  refine wpSIn_seq (wpSIn_region ?_)
  have hev : (a0.put (some tt) rv).eval (.tmp tt) = rv := by
    simp [Act.eval, Act.put, hsize, ht]
  have hyl : List.range #[o, o2].size = [0, 1] := rfl
  rw [hyl]
  have e0 : #[o, o2][0]? = some o := rfl
  have e1 : #[o, o2][1]? = some o2 := rfl
  simp only [wpOpsSIn, e0, e1, hw, hw2, if_true, hrec, hmv, hdst, hdst2]
  refine ⟨fun _ _ => trivial, ?_⟩
  split
  · rename_i v cs' hr
    rw [hr] at hcs
    obtain ⟨rfl, rfl⟩ := hcs
    refine ⟨fun _ _ => trivial, ?_⟩
    rw [hev]
    exact hrest
  · rename_i hr
    rw [hr] at hcs
    obtain ⟨hcs, he⟩ := hcs
    subst hcs
    refine ⟨fun _ _ => trivial, ?_⟩
    rw [hev]
    rw [show c₀ :: cs = { c₀ with mode := u' } :: cs by rw [← he]]
    exact hrest
def FOkR2 (P : Program) (imp : List FuncId) (f : FuncId) (t t2 : Nat) (sc : SC) (n : Nat) : Prop :=
  ∃ fn c rest, P.funcs[f]? = some fn ∧ fn.body = some c ∧ (fn.name == "runtime.NumGoroutine") = false ∧ isRecover2 c = some (t, t2, rest) ∧ compCode P imp fn.ntmps rest = some sc.strip ∧ fn.results = #[] ∧ fn.ntmps = n ∧ t < n ∧ t2 < n ∧ sc.flat = true
theorem FOkR2.dcalls {f : FuncId} {sc : SC} {t t2 n : Nat} (h : FOkR2 P imp f t t2 sc n) {xs : List AV} {pan : Option AV} {m : Mem} {R : Mem → Prop} (hlen : xs.length ≤ n) (hw : wpS P imp sc [] (postR R) (((Env.ofArgs 0 xs).set t (pan.getD (.const .nilIface))).set t2 (pan.getD (.const .nilIface))) m) : DCalls P f xs pan m R := by
  obtain ⟨fn, c, rest, h1, h2, h3, h4, h5, h6, rfl, h8, h9, h10⟩ := h
  exact dcalls_of_wp2 h1 h2 h3 h4 h5 h10 h6 h8 h9 hlen hw.out
end
end Go.Pm
