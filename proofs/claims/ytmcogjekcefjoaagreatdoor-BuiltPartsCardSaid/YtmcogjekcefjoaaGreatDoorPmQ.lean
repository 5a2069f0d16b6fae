/- PmQ: how a function is walked. -/
import Derived.Test.YtmcogjekcefjoaaGreatDoorPmOd
set_option linter.unusedSimpArgs false
namespace Go.Pm
open Go
def FOk (P : Program) (imp : List FuncId) (f : FuncId) (sc : SC) (rs : List Res) (n : Nat) : Prop :=
  ∃ fn c, P.funcs[f]? = some fn ∧ fn.body = some c ∧ (fn.name == "runtime.NumGoroutine") = false ∧ compCode P imp fn.ntmps c = some sc.strip ∧ compRes P fn.results.toList = some rs ∧ fn.ntmps = n
section
variable {P : Prg} {imp : List FuncId} {f : FuncId} {sc : SC} {rs : List Res} {n : Nat}
def postP (rs : List Res) (R : AOut → Prop) : Post := endPost rs fun out m => ∃ out', permO m out = some out' ∧ R out'
def postD (d : Nat) (rs : List Res) (R : AOut → Prop) : Post := endPost rs fun out m => ∃ out', permOD d m out = some out' ∧ R out'
theorem postD_ret {d : Nat} {R : AOut → Prop} {e : Env} {m : Mem} : postD d rs R .ret e m = ∃ v, resA rs e m = some v ∧ ∃ v', permD d m v = some v' ∧ R (.ret v') := by
  apply propext
  simp only [postD, endPost, permOD]
  constructor
  · rintro ⟨v, h1, out', h2, h3⟩
    simp only [Option.map_eq_some_iff] at h2
    obtain ⟨v', h2, rfl⟩ := h2
    exact ⟨v, h1, v', h2, h3⟩
  · rintro ⟨v, h1, v', h2, h3⟩; exact ⟨v, h1, .ret v', by simp [h2], h3⟩
def postA (rs : List Res) (R : AOut → Mem → Prop) : Post := endPost rs R
theorem postP_ret {R : AOut → Prop} {e : Env} {m : Mem} : postP rs R .ret e m = ∃ v, resA rs e m = some v ∧ ∃ v', permR m v = some v' ∧ R (.ret v') := by
  apply propext
  simp only [postP, endPost, permO]
  constructor
  · rintro ⟨v, h1, out', h2, h3⟩
    simp only [Option.map_eq_some_iff] at h2
    obtain ⟨v', h2, rfl⟩ := h2
    exact ⟨v, h1, v', h2, h3⟩
  · rintro ⟨v, h1, v', h2, h3⟩; exact ⟨v, h1, .ret v', by simp [h2], h3⟩
theorem postP_panic {R : AOut → Prop} {e : Env} {m : Mem} {v : AV} : postP rs R (.panic v) e m = ∃ v', permR m v = some v' ∧ R (.panic v') := by
  apply propext
  simp only [postP, endPost, permO]
  constructor
  · rintro ⟨out', h2, h3⟩
    simp only [Option.map_eq_some_iff] at h2
    obtain ⟨v', h2, rfl⟩ := h2
    exact ⟨v', h2, h3⟩
  · rintro ⟨v', h2, h3⟩; exact ⟨.panic v', by simp [h2], h3⟩
theorem postA_ret {R : AOut → Mem → Prop} {e : Env} {m : Mem} : postA rs R .ret e m = ∃ v, resA rs e m = some v ∧ R (.ret v) m := rfl
theorem postA_panic {R : AOut → Mem → Prop} {e : Env} {m : Mem} {v : AV} : postA rs R (.panic v) e m = R (.panic v) m := rfl
theorem Env.get_of_mem : ∀ {e : Env} {t : Nat}, e.get t ≠ .any → (t, e.get t) ∈ e
  | [], t, h => by simp [Env.get] at h
  | (j, x) :: e, t, h => by
    simp only [Env.get] at h ⊢
    split
    · rename_i hj; subst hj; simp
    · rename_i hj
      rw [if_neg hj] at h
      exact List.mem_cons_of_mem _ (Env.get_of_mem h)
theorem Env.le_of {e' e : Env} (h : ∀ p ∈ e', e.get p.1 = p.2) : Env.le e' e := by
  intro t
  by_cases ht : e'.get t = .any
  · exact .inl ht
  · exact .inr (h _ (Env.get_of_mem ht)).symm
theorem Mem.le_of {m' m : Mem} (h1 : m'.next = m.next) (h2 : m'.store = m.store.take m'.store.length) : Mem.le m' m := ⟨h1, _, h2⟩
theorem Sim.of_le {e' e : Env} {m' m : Mem} (h : Env.le e' e) (hm : Mem.le m' m) : Sim e' m' e m := fun _ _ _ _ σ K hst => ⟨σ, K, List.prefix_refl _, fun _ _ h => h, (hst.le h).forget hm⟩
theorem Mem.le_refl (m : Mem) : Mem.le m m := ⟨rfl, m.store.length, by simp⟩
theorem Sim.refl (e : Env) (m : Mem) : Sim e m e m := .of_le (Env.le_refl e) (Mem.le_refl m)
theorem Sim.trans {e'' e' e : Env} {m'' m' m : Mem} (h2 : Sim e'' m'' e' m') (h1 : Sim e' m' e m) : Sim e'' m'' e m := fun β N a w σ K hst =>
  let ⟨σ1, K1, p1, k1, hst1⟩ := h1 β N a w σ K hst
  let ⟨σ2, K2, p2, k2, hst2⟩ := h2 β N a w σ1 K1 hst1
  ⟨σ2, K2, p1.trans p2, fun p b hb => k2 p b (k1 p b hb), hst2⟩
theorem wp_loopS {ι : Type} {a : SC} {Q : Post} {e : Env} {m : Mem} (env : ι → Env) (mem : ι → Mem) (μ : ι → Nat) (ok : ι → Prop) (s0 : ι) (h0 : ok s0) (he : Sim (env s0) (mem s0) e m)
    (hs : ∀ s, ok s → wp P imp a (fun x e m => match x with | .norm => ∃ s', ok s' ∧ μ s' < μ s ∧ Sim (env s') (mem s') e m | x => Q x e m) (env s) (mem s)) : wp P imp (.loop a) Q e m := by
  refine ⟨fun n e m => ∃ s, ok s ∧ μ s = n ∧ env s = e ∧ mem s = m, ⟨μ s0, env s0, mem s0, he, s0, h0, rfl, rfl, rfl⟩, ?_⟩
  rintro n e m ⟨s, h1, rfl, rfl, rfl⟩
  have hpost : (fun (x : AX) (e : Env) (m : Mem) => match x with | .norm => ∃ s', ok s' ∧ μ s' < μ s ∧ Sim (env s') (mem s') e m | x => Q x e m) =
      (fun (x : AX) (e : Env) (m : Mem) => match x with | .norm => ∃ n' e' m', n' < μ s ∧ Sim e' m' e m ∧ ∃ s', ok s' ∧ μ s' = n' ∧ env s' = e' ∧ mem s' = m' | x => Q x e m) := by
    funext x e m
    cases x with
    | norm =>
      apply propext
      constructor
      · rintro ⟨s', h1, h2, h3⟩; exact ⟨_, _, _, h2, h3, s', h1, rfl, rfl, rfl⟩
      · rintro ⟨_, _, _, h2, h3, s', h1, rfl, rfl, rfl⟩; exact ⟨s', h1, h2, h3⟩
    | _ => rfl
  have h := hs s h1
  rw [hpost] at h
  exact h
theorem wact_mono {o : SOp} {k k' : Env → Mem → Prop} {Q Q' : Post} (hk : ∀ e m, k e m → k' e m) (hQ : ∀ x e m, Q x e m → Q' x e m) {e : Env} {m : Mem} (h : wact P o k Q e m) : wact P o k' Q' e m := by
  unfold wact at h ⊢
  split
  · rename_i kk ha
    rw [ha] at h; simp only at h
    split
    · rename_i v m' hr; rw [hr] at h; exact hk _ _ h
    · rename_i hr; rw [hr] at h; exact h
  · rename_i kk ha
    rw [ha] at h; simp only at h
    obtain ⟨l, h1, h2⟩ := h
    exact ⟨l, h1, runN_mono h1 (fun v m' hm => hk _ _ hm) h2⟩
  · rename_i g ha
    rw [ha] at h; simp only at h
    obtain ⟨R, h1, h2⟩ := h
    refine ⟨R, h1, fun out m' hR => ?_⟩
    have := h2 out m' hR
    cases out with
    | ret v => exact hk _ _ this
    | panic v => exact hQ _ _ _ this
  · rename_i nm ha
    rw [ha] at h; simp only at h
    obtain ⟨t, x, f, xs, h0, hf, R, h1, h2⟩ := h
    refine ⟨t, x, f, xs, h0, hf, R, h1, fun out m' hR => ?_⟩
    have := h2 out m' hR
    cases out with
    | ret v => exact hk _ _ this
    | panic v => exact hQ _ _ _ this
  · rename_i ha
    rw [ha] at h; simp only at h
    split
    · rename_i g xs hc
      rw [hc] at h; simp only at h
      obtain ⟨R, h1, h2⟩ := h
      refine ⟨R, h1, fun out m' hR => ?_⟩
      have := h2 out m' hR
      cases out with
      | ret v => exact hk _ _ this
      | panic v => exact hQ _ _ _ this
    · rename_i hc; rw [hc] at h; simp only at h
      obtain ⟨pos, gen, xs, h0, R, h1, h2⟩ := h
      refine ⟨pos, gen, xs, h0, R, h1, fun out m' hR => ?_⟩
      have := h2 out m' hR
      cases out with
      | ret v => exact hk _ _ this
      | panic v => exact hQ _ _ _ this
  · rename_i ha
    rw [ha] at h; simp only at h
    obtain ⟨t, v, h1, h2⟩ := h
    exact ⟨t, v, h1, hQ _ _ _ h2⟩
theorem wops_mono {k k' : Env → Mem → Prop} {Q Q' : Post} (hk : ∀ e m, k e m → k' e m) (hQ : ∀ x e m, Q x e m → Q' x e m) : ∀ {l : List SOp} {e : Env} {m : Mem}, wops P l k Q e m → wops P l k' Q' e m
  | [], _, _, h => hk _ _ h
  | o :: l, e, m, h => by
    unfold wops at h ⊢
    split
    · rename_i hg; rw [hg] at h; exact wact_mono (fun _ _ => wops_mono hk hQ) hQ h
    · rename_i t want hg
      rw [hg] at h; simp only at h
      rcases h with ⟨h1, h2⟩ | ⟨b, h1, h2, h3⟩
      · exact .inl ⟨h1, wops_mono hk hQ h2⟩
      · exact .inr ⟨b, h1, fun hb => wact_mono (fun _ _ => wops_mono hk hQ) hQ (h2 hb), fun hb => wops_mono hk hQ (h3 hb)⟩
theorem dact_mono {o : SOp} {k k' : Env → Mem → Prop} (hk : ∀ e m, k e m → k' e m) {e : Env} {m : Mem} (h : dact P imp o k e m) : dact P imp o k' e m := by
  unfold dact at h ⊢
  split
  · rename_i kk ha
    rw [ha] at h; simp only at h
    split
    · rename_i v m' hr; rw [hr] at h; exact hk _ _ h
    · rename_i hr; rw [hr] at h; exact h
  · rename_i g ha
    rw [ha] at h; simp only at h
    split
    · rename_i hc
      rw [if_pos hc] at h
      obtain ⟨v, m', h1, h2⟩ := h
      exact ⟨v, m', h1, hk _ _ h2⟩
    · rename_i hc
      rw [if_neg hc] at h
      obtain ⟨ys, v, h1, h2, h3⟩ := h
      exact ⟨ys, v, h1, h2, hk _ _ h3⟩
  · rename_i ha
    rw [ha] at h; simp only at h
    split
    · rename_i hc
      rw [if_pos hc] at h
      obtain ⟨g, caps, xs, v, m', h1, h2, h4⟩ := h
      exact ⟨g, caps, xs, v, m', h1, h2, hk _ _ h4⟩
    · rename_i hc
      rw [if_neg hc] at h
      obtain ⟨g, caps, xs, ys, v, h1, h2, h3, h4⟩ := h
      exact ⟨g, caps, xs, ys, v, h1, h2, h3, hk _ _ h4⟩
  · rename_i nm ha
    rw [ha] at h; simp only at h
    obtain ⟨t, x, f, xs, ys, v, h0, hf, h1, h2, h3⟩ := h
    exact ⟨t, x, f, xs, ys, v, h0, hf, h1, h2, hk _ _ h3⟩
  · rename_i ha
    rw [ha] at h; exact h
  · rename_i ha
    rw [ha] at h; exact h
theorem dops_mono {k k' : Env → Mem → Prop} {q q' : AV → Mem → Prop} (hk : ∀ e m, k e m → k' e m) (hq : ∀ v m, q v m → q' v m) : ∀ {t : DT} {e : Env} {m : Mem}, dops P imp t k q e m → dops P imp t k' q' e m
  | .done, _, _, h => hk _ _ h
  | .or a b, _, _, h => ⟨dops_mono hk hq h.1, dops_mono hk hq h.2⟩
  | .last o l, e, m, h => ⟨h.1, h.2.imp (dact_mono (fun _ _ => dops_mono hk hq)) (fun ⟨pv, h1, h2⟩ => ⟨pv, h1, hq _ _ h2⟩)⟩
  | .step o l, e, m, h => by
    unfold dops at h ⊢
    split
    · rename_i hg; rw [hg] at h; exact dact_mono (fun _ _ => dops_mono hk hq) h
    · rename_i t want hg
      rw [hg] at h; simp only at h
      rcases h with ⟨h1, h2⟩ | ⟨b, h1, h2, h3⟩
      · exact .inl ⟨h1, dops_mono hk hq h2⟩
      · exact .inr ⟨b, h1, fun hb => dact_mono (fun _ _ => dops_mono hk hq) (h2 hb), fun hb => dops_mono hk hq (h3 hb)⟩
theorem wp_mono_post {a : SC} : ∀ {Q Q' : Post}, (∀ x e m, Q x e m → Q' x e m) → ∀ {e : Env} {m : Mem}, wp P imp a Q e m → wp P imp a Q' e m := by
  induction a with
  | skip => intro Q Q' hQ e m h; exact hQ _ _ _ h
  | ops l d => intro Q Q' hQ e m h; exact wops_mono (fun _ _ => hQ _ _ _) hQ h
  | draw l d => intro Q Q' hQ e m h; exact dops_mono (fun _ _ => hQ _ _ _) (fun _ _ => hQ _ _ _) h
  | seq a b iha ihb =>
    intro Q Q' hQ e m h
    refine iha (fun x e m hx => ?_) h
    cases x with
    | norm => exact ihb hQ hx
    | _ => exact hQ _ _ _ hx
  | cond c a b iha ihb => intro Q Q' hQ e m h; obtain ⟨t, h1, h2, h3⟩ := h; exact ⟨t, h1, fun ht => iha hQ (h2 ht), fun ht => ihb hQ (h3 ht)⟩
  | block id a iha =>
    intro Q Q' hQ e m h
    refine iha (fun x e m hx => ?_) h
    cases x with
    | exit j =>
      simp only at hx ⊢
      split
      · rename_i hj; rw [if_pos hj] at hx; exact hQ _ _ _ hx
      · rename_i hj; rw [if_neg hj] at hx; exact hQ _ _ _ hx
    | _ => exact hQ _ _ _ hx
  | loop a iha =>
    intro Q Q' hQ e m h
    obtain ⟨I, h1, h2⟩ := h
    refine ⟨I, h1, fun n e m hI => iha (fun x e m hx => ?_) (h2 n e m hI)⟩
    cases x with
    | norm => exact hx
    | _ => exact hQ _ _ _ hx
  | exit id => intro Q Q' hQ e m h; exact hQ _ _ _ h
  | ret => intro Q Q' hQ e m h; exact hQ _ _ _ h
  | rangeF g ps a b iha ihb =>
    intro Q Q' hQ e m h
    obtain ⟨e0, m0, h0, f, caps, R, h1, h2, h3⟩ := h
    refine ⟨e0, m0, h0, f, caps, R, h1, h2, fun out m' hR => ?_⟩
    have := h3 out m' hR
    cases out with
    | panic v => exact hQ _ _ _ this
    | ret v =>
      obtain ⟨st, e', ok, h4, h5⟩ := this
      refine ⟨st, e', ok, h4, ?_⟩
      cases st with
      | busy => exact h5
      | _ => exact hQ _ _ _ h5
theorem Rel.nil_row {β : Base} {K : Bool → Nat → Prop} {σ : Sig} {m : Mem} {w : World} (h : Rel β K σ m w) (et : Nat) {sz : Nat} (hsz : 0 < sz) : Rel β K (σ ++ [(none, 0)]) (m.new (.row et sz [])) w ∧ (σ ++ [(none, 0)])[m.next]? = some (none, 0) :=
  ⟨h.new ⟨rfl, rfl, rfl, Nat.le_refl _, fun _ _ _ => rfl⟩ (fun b c e => by cases e) ⟨rfl, rfl, hsz⟩, by rw [← h.next]; simp⟩
theorem nil_as_row {K : Bool → Nat → Prop} {σ : Sig} {w : World} {pos gen sz : Nat} {u : Value} (hg : σ[gen]? = some (none, 0)) (h : VR σ K w .nilS u) : VR σ K w (.row pos gen sz 0 0) u := by
  rw [VR] at h
  rw [VR]
  exact .inr (.inl ⟨hg, rfl, rfl, h⟩)
theorem Sim.nil_env {e : Env} {m : Mem} (t et : Nat) {sz : Nat} (hsz : 0 < sz) (ht : e.get t = .nilS) : Sim (e.set t (.row m.store.length m.next sz 0 0)) (m.new (.row et sz [])) e m := by
  intro β N a w σ K hst
  obtain ⟨h1, h2⟩ := hst.rel.nil_row et hsz
  have hpre : σ <+: σ ++ [(none, 0)] := List.prefix_append _ _
  refine ⟨_, K, hpre, fun _ _ h => h, h1, fun j => ?_, hst.defers, hst.size⟩
  rw [Env.get_set]
  split
  · rename_i hj; subst hj
    have := hst.env j
    rw [ht] at this
    exact nil_as_row h2 (VR.mono hpre (fun _ _ h => h) (fun _ _ _ => rfl) _ _ this)
  · exact VR.mono hpre (fun _ _ h => h) (fun _ _ _ => rfl) _ _ (hst.env j)
theorem Rel.nil_cell {β : Base} {K : Bool → Nat → Prop} {σ : Sig} {m : Mem} {w : World} (h : Rel β K σ m w) {pos g : Nat} {vs : List AV} (i et : Nat) {sz : Nat} (hsz : 0 < sz) (hp : m.store[pos]? = some (g, .cells vs)) (hi : vs[i]? = some .nilS) :
    Rel β K (σ ++ [(none, 0)]) ((m.new (.row et sz [])).put pos g (.cells (vs.set i (.row m.store.length m.next sz 0 0)))) w := by
  obtain ⟨h1, h2⟩ := h.nil_row et hsz
  have hlt := (List.getElem?_eq_some_iff.1 hp).1
  have hp' : (m.new (.row et sz [])).store[pos]? = some (g, .cells vs) := by
    simp only [Mem.new]
    rw [List.getElem?_append_left hlt]
    exact hp
  obtain ⟨s, hs, ho⟩ := h1.objs pos g _ hp'
  refine h1.put hp' hs ⟨rfl, rfl, rfl, Nat.le_refl _, fun _ _ _ => rfl⟩ ?_
  obtain ⟨b, c⟩ := s
  cases b with
  | none => exact ho
  | some b =>
    obtain ⟨cur, e, hb, hl, hcr⟩ := ho
    refine ⟨cur, e, hb, by rw [List.length_set]; exact hl, CR_iff.2 fun j x hj => ?_⟩
    rw [List.getElem?_set] at hj
    split at hj
    · rename_i hij
      subst hij
      split at hj
      · injection hj with hj; subst hj
        obtain ⟨u, hu1, hu2, hu3⟩ := CR_iff.1 hcr i _ hi
        exact ⟨u, hu1, hu2, nil_as_row h2 hu3⟩
      · cases hj
    · exact CR_iff.1 hcr j x hj
theorem Sim.nil_cell {e : Env} {m : Mem} {pos g : Nat} {vs : List AV} (i et : Nat) {sz : Nat} (hsz : 0 < sz) (hp : m.store[pos]? = some (g, .cells vs)) (hi : vs[i]? = some .nilS) :
    Sim e ((m.new (.row et sz [])).put pos g (.cells (vs.set i (.row m.store.length m.next sz 0 0)))) e m := by
  intro β N a w σ K hst
  have hpre : σ <+: σ ++ [(none, 0)] := List.prefix_append _ _
  exact ⟨_, K, hpre, fun _ _ h => h, hst.rel.nil_cell i et hsz hp hi, hst.env.mono hpre (fun _ _ h => h) (fun _ _ _ => rfl), hst.defers, hst.size⟩
def SimO (out' : AOut) (m' : Mem) (out : AOut) (m : Mem) : Prop := ∀ (β : Base) (σ : Sig) (K : Bool → Nat → Prop) (w : World) (e : Ending), Rel β K σ m w → OutR σ K w out e → ∃ σ', σ <+: σ' ∧ Rel β K σ' m' w ∧ OutR σ' K w out' e
theorem SimO.refl (out : AOut) (m : Mem) : SimO out m out m := fun _ σ _ _ _ h1 h2 => ⟨σ, List.prefix_refl _, h1, h2⟩
theorem SimO.trans {o'' o' o : AOut} {m'' m' m : Mem} (h2 : SimO o'' m'' o' m') (h1 : SimO o' m' o m) : SimO o'' m'' o m := fun β σ K w e hr ho =>
  let ⟨σ1, p1, hr1, ho1⟩ := h1 β σ K w e hr ho
  let ⟨σ2, p2, hr2, ho2⟩ := h2 β σ1 K w e hr1 ho1
  ⟨σ2, p1.trans p2, hr2, ho2⟩
theorem OutR.mono {σ σ' : Sig} {K : Bool → Nat → Prop} {w : World} {out : AOut} {e : Ending} (hp : σ <+: σ') (h : OutR σ K w out e) : OutR σ' K w out e := by
  cases out with
  | ret v => obtain ⟨u, h1, h2⟩ := h; exact ⟨u, h1, VR.mono hp (fun _ _ h => h) (fun _ _ _ => rfl) _ _ h2⟩
  | panic v => obtain ⟨u, h1, h2⟩ := h; exact ⟨u, h1, VR.mono hp (fun _ _ h => h) (fun _ _ _ => rfl) _ _ h2⟩
theorem SimO.nil_cell {out : AOut} {m : Mem} {pos g : Nat} {vs : List AV} (i et : Nat) {sz : Nat} (hsz : 0 < sz) (hp : m.store[pos]? = some (g, .cells vs)) (hi : vs[i]? = some .nilS) :
    SimO out ((m.new (.row et sz [])).put pos g (.cells (vs.set i (.row m.store.length m.next sz 0 0)))) out m := fun _ _ _ _ _ hr ho =>
  ⟨_, List.prefix_append _ _, hr.nil_cell i et hsz hp hi, ho.mono (List.prefix_append _ _)⟩
theorem SimO.forget {out : AOut} {m' m : Mem} (h : Mem.le m' m) : SimO out m' out m := by
  intro β σ K w e hr ho
  obtain ⟨h1, n, h2⟩ := h
  have : m' = ⟨m.store.take n, m.next⟩ := by cases m'; simp only at h1 h2; rw [h1, h2]
  rw [this]
  exact ⟨σ, List.prefix_refl _, hr.forget n, ho⟩
theorem ACalls.sim {xs : List AV} {m : Mem} {R R' : AOut → Mem → Prop} (h : ACalls P f xs m R) (hs : ∀ out m', R out m' → ∃ out' m'', R' out' m'' ∧ SimO out' m'' out m') : ACalls P f xs m R' := by
  refine ⟨h.1, fun β K σ w vals hrel hv hβ => (h.2 β K σ w vals hrel hv hβ).mono ?_⟩
  rintro e w' ⟨K', σ', m', out, hR, hrel', h1, h2, h3, hout⟩
  obtain ⟨out', m'', hR', hsim⟩ := hs out m' hR
  obtain ⟨σ'', hp, hrel'', hout'⟩ := hsim β σ' K' w' e hrel' hout
  exact ⟨K', σ'', m'', out', hR', hrel'', h1.trans hp, h2, h3, hout'⟩
structure Hide (p : Prop) : Prop where
  out : p
theorem Hide_eq {p : Prop} : Hide p = p := propext ⟨fun h => h.out, fun h => ⟨h⟩⟩
inductive Fr where
  | seq (b : SC)
  | block (id : Nat)
  | loop (k : Env → Mem → Prop)
def post (P : Prg) (imp : List FuncId) : List Fr → Post → Post
  | [], Q => Q
  | .seq b :: fs, Q => fun x e m => match x with | .norm => wp P imp b (post P imp fs Q) e m | x => post P imp fs Q x e m
  | .block id :: fs, Q => fun x e m => match x with | .exit j => if j = id then post P imp fs Q .norm e m else post P imp fs Q (.exit j) e m | x => post P imp fs Q x e m
  | .loop k :: fs, Q => fun x e m => match x with | .norm => k e m | x => post P imp fs Q x e m
def lv (P : Prg) (imp : List FuncId) (x : AX) (fs : List Fr) (Q : Post) (e : Env) (m : Mem) : Prop := Hide (post P imp fs Q x e m)
def wpS (P : Prg) (imp : List FuncId) (s : SC) (fs : List Fr) (Q : Post) (e : Env) (m : Mem) : Prop := Hide (wp P imp s (post P imp fs Q) e m)
def xcall (P : Prg) (imp : List FuncId) (f : FuncId) (xs : List AV) (dst : Option Nat) (l : List SOp) (d : List Nat) (fs : List Fr) (Q : Post) (e : Env) (m : Mem) : Prop :=
  Hide (∃ R, ACalls P f xs m R ∧ ∀ out m', R out m' → match out with
    | .ret v => wops P l (fun e m => post P imp fs Q .norm (e.drop d) m) (post P imp fs Q) (e.put dst v) m'
    | .panic v => post P imp fs Q (.panic v) e m')
def ycall (P : Prg) (imp : List FuncId) (pos gen : Nat) (xs : List AV) (dst : Option Nat) (l : List SOp) (d : List Nat) (fs : List Fr) (Q : Post) (e : Env) (m : Mem) : Prop :=
  Hide (∃ R, YCalls P pos gen xs m R ∧ ∀ out m', R out m' → match out with
    | .ret v => wops P l (fun e m => post P imp fs Q .norm (e.drop d) m) (post P imp fs Q) (e.put dst v) m'
    | .panic v => post P imp fs Q (.panic v) e m')
def xops (P : Prg) (imp : List FuncId) (l : List SOp) (d : List Nat) (fs : List Fr) (Q : Post) (e : Env) (m : Mem) : Prop := Hide (wops P l (fun e m => post P imp fs Q .norm (e.drop d) m) (post P imp fs Q) e m)
def onK (P : Prg) (imp : List FuncId) (r : Option (AV × Mem)) (dst : Option Nat) (l : List SOp) (d : List Nat) (fs : List Fr) (Q : Post) (e : Env) : Prop := match r with
  | some (v, m') => xops P imp l d fs Q (e.put dst v) m'
  | none => False
def onN (P : Prg) (imp : List FuncId) (r : Option ((AV → Mem → Prop) → Prop)) (dst : Option Nat) (l : List SOp) (d : List Nat) (fs : List Fr) (Q : Post) (e : Env) : Prop := match r with
  | some r => r fun v m' => xops P imp l d fs Q (e.put dst v) m'
  | none => False
def xact (P : Prg) (imp : List FuncId) (act : SAct) (xs : List AV) (dst : Option Nat) (l : List SOp) (d : List Nat) (fs : List Fr) (Q : Post) (e : Env) (m : Mem) : Prop := match act with
  | .plain k => onK P imp (runK k m xs) dst l d fs Q e
  | .many k => onN P imp (runN k m xs) dst l d fs Q e
  | .call f => xcall P imp f xs dst l d fs Q e m
  | .callv => match callArgs xs with
    | some (f, xs) => xcall P imp f xs dst l d fs Q e m
    | none => False
  | .inv _ => False
  | .panic => match xs with
    | [.iface t v] => lv P imp (.panic (.iface t v)) fs Q e m
    | _ => False
def xdops (P : Prg) (imp : List FuncId) (t : DT) (d : List Nat) (fs : List Fr) (Q : Post) (e : Env) (m : Mem) : Prop := Hide (dops P imp t (fun e m => post P imp fs Q .norm (e.drop d) m) (fun v m => post P imp fs Q (.panic v) [] m) e m)
def onD (P : Prg) (imp : List FuncId) (r : Option (AV × Mem)) (dst : Option Nat) (l : DT) (d : List Nat) (fs : List Fr) (Q : Post) (e : Env) : Prop := match r with
  | some (v, m') => xdops P imp l d fs Q (e.put dst v) m'
  | none => False
def xdcall (P : Prg) (imp : List FuncId) (f : FuncId) (xs : List AV) (dst : Option Nat) (l : DT) (d : List Nat) (fs : List Fr) (Q : Post) (e : Env) (m : Mem) : Prop :=
  Hide (dact P imp ⟨dst, .call f, xs.map .lit, none⟩ (dops P imp l (fun e m => post P imp fs Q .norm (e.drop d) m) (fun v m => post P imp fs Q (.panic v) [] m)) e m)
def xdlast (P : Prg) (imp : List FuncId) (f : FuncId) (xs : List AV) (dst : Option Nat) (l : DT) (d : List Nat) (fs : List Fr) (Q : Post) (e : Env) (m : Mem) : Prop :=
  xdcall P imp f xs dst l d fs Q e m ∨ ∃ pv, dlast P imp (.call f) xs m pv ∧ lv P imp (.panic pv) fs Q [] m
def xdcallv (P : Prg) (imp : List FuncId) (f : FuncId) (xs : List AV) (dst : Option Nat) (l : DT) (d : List Nat) (fs : List Fr) (Q : Post) (e : Env) (m : Mem) : Prop :=
  ∃ ys v, tmpAs m xs = some ys ∧ PCalls P f ys (fun out => out = .ret v) ∧ xdops P imp l d fs Q (e.put dst v) m
theorem FOk.pcalls (h : FOk P imp f sc rs n) {xs : List AV} {R : AOut → Prop} (hlen : xs.length ≤ n) (hw : wpS P imp sc [] (postP rs R) (Env.ofArgs 0 xs) Mem.empty) : PCalls P f xs R := by
  obtain ⟨fn, c, h1, h2, h3, h4, h5, rfl⟩ := h
  exact pcalls_of_wp h1 h2 h3 h4 h5 hlen hw.out
theorem FOk.acalls (h : FOk P imp f sc rs n) {xs : List AV} {m : Mem} {R : AOut → Mem → Prop} (hlen : xs.length ≤ n) (hw : wpS P imp sc [] (postA rs R) (Env.ofArgs 0 xs) m) : ACalls P f xs m R := by
  obtain ⟨fn, c, h1, h2, h3, h4, h5, rfl⟩ := h
  exact acalls_of_wp h1 h2 h3 h4 h5 hlen hw.out
section
variable {Q : Post} {e : Env} {m : Mem} {a b : SC} {fs : List Fr} {l : List SOp} {d : List Nat} {t : DT} {dst : Option Nat}
theorem wpS_skip : wpS P imp .skip fs Q e m = lv P imp .norm fs Q e m := by
  simp only [wpS, xops, xdops, lv, xcall, xdcall, onK, onD, Hide_eq]; rfl
theorem wpS_ret : wpS P imp .ret fs Q e m = lv P imp .ret fs Q e m := by
  simp only [wpS, xops, xdops, lv, xcall, xdcall, onK, onD, Hide_eq]; rfl
theorem wpS_exit {id : Nat} : wpS P imp (.exit id) fs Q e m = lv P imp (.exit id) fs Q e m := by
  simp only [wpS, xops, xdops, lv, xcall, xdcall, onK, onD, Hide_eq]; rfl
theorem wpS_seq : wpS P imp (.seq a b) fs Q e m = wpS P imp a (.seq b :: fs) Q e m := by
  simp only [wpS, xops, xdops, lv, xcall, xdcall, onK, onD, Hide_eq]; rfl
theorem wpS_block {id : Nat} : wpS P imp (.block id a) fs Q e m = wpS P imp a (.block id :: fs) Q e m := by
  simp only [wpS, xops, xdops, lv, xcall, xdcall, onK, onD, Hide_eq]; rfl
theorem wpS_ops : wpS P imp (.ops l d) fs Q e m = xops P imp l d fs Q e m := by
  simp only [wpS, xops, xdops, lv, xcall, xdcall, onK, onD, Hide_eq]; rfl
theorem wpS_draw : wpS P imp (.draw t d) fs Q e m = xdops P imp t d fs Q e m := by
  simp only [wpS, xops, xdops, lv, xcall, xdcall, onK, onD, Hide_eq]; rfl
theorem wpS_cond {c : Opnd} : wpS P imp (.cond c a b) fs Q e m = ∃ t, c.eval e = .bool t ∧ (t = true → wpS P imp a fs Q e m) ∧ (t = false → wpS P imp b fs Q e m) := by
  simp only [wpS, xops, xdops, lv, xcall, xdcall, onK, onD, Hide_eq]; rfl
theorem lv_nil {x : AX} : lv P imp x [] Q e m = Q x e m := by
  simp only [wpS, xops, xdops, lv, xcall, xdcall, onK, onD, Hide_eq]; rfl
theorem lv_seq : lv P imp .norm (.seq b :: fs) Q e m = wpS P imp b fs Q e m := by
  simp only [wpS, xops, xdops, lv, xcall, xdcall, onK, onD, Hide_eq]; rfl
theorem lv_block {id : Nat} : lv P imp .norm (.block id :: fs) Q e m = lv P imp .norm fs Q e m := by
  simp only [wpS, xops, xdops, lv, xcall, xdcall, onK, onD, Hide_eq]; rfl
theorem lv_loop {k : Env → Mem → Prop} : lv P imp .norm (.loop k :: fs) Q e m = k e m := by
  simp only [wpS, xops, xdops, lv, xcall, xdcall, onK, onD, Hide_eq]; rfl
theorem lv_ret_seq : lv P imp .ret (.seq b :: fs) Q e m = lv P imp .ret fs Q e m := by
  simp only [wpS, xops, xdops, lv, xcall, xdcall, onK, onD, Hide_eq]; rfl
theorem lv_ret_block {id : Nat} : lv P imp .ret (.block id :: fs) Q e m = lv P imp .ret fs Q e m := by
  simp only [wpS, xops, xdops, lv, xcall, xdcall, onK, onD, Hide_eq]; rfl
theorem lv_ret_loop {k : Env → Mem → Prop} : lv P imp .ret (.loop k :: fs) Q e m = lv P imp .ret fs Q e m := by
  simp only [wpS, xops, xdops, lv, xcall, xdcall, onK, onD, Hide_eq]; rfl
theorem lv_panic_seq {v : AV} : lv P imp (.panic v) (.seq b :: fs) Q e m = lv P imp (.panic v) fs Q e m := by
  simp only [wpS, xops, xdops, lv, xcall, xdcall, onK, onD, Hide_eq]; rfl
theorem lv_panic_block {id : Nat} {v : AV} : lv P imp (.panic v) (.block id :: fs) Q e m = lv P imp (.panic v) fs Q e m := by
  simp only [wpS, xops, xdops, lv, xcall, xdcall, onK, onD, Hide_eq]; rfl
theorem lv_panic_loop {k : Env → Mem → Prop} {v : AV} : lv P imp (.panic v) (.loop k :: fs) Q e m = lv P imp (.panic v) fs Q e m := by
  simp only [wpS, xops, xdops, lv, xcall, xdcall, onK, onD, Hide_eq]; rfl
theorem lv_exit_seq {j : Nat} : lv P imp (.exit j) (.seq b :: fs) Q e m = lv P imp (.exit j) fs Q e m := by
  simp only [wpS, xops, xdops, lv, xcall, xdcall, onK, onD, Hide_eq]; rfl
theorem lv_exit_loop {j : Nat} {k : Env → Mem → Prop} : lv P imp (.exit j) (.loop k :: fs) Q e m = lv P imp (.exit j) fs Q e m := by
  simp only [wpS, xops, xdops, lv, xcall, xdcall, onK, onD, Hide_eq]; rfl
theorem lv_exit_block {j id : Nat} : lv P imp (.exit j) (.block id :: fs) Q e m = if j = id then lv P imp .norm fs Q e m else lv P imp (.exit j) fs Q e m := by
  simp only [wpS, xops, xdops, lv, xcall, xdcall, onK, onD, Hide_eq]; rfl
theorem xops_nil : xops P imp [] d fs Q e m = lv P imp .norm fs Q (e.drop d) m := by
  simp only [wpS, xops, xdops, lv, xcall, xdcall, onK, onD, Hide_eq]; rfl
theorem onK_some {v : AV} : onK P imp (some (v, m)) dst l d fs Q e = xops P imp l d fs Q (e.put dst v) m := rfl
theorem onK_none : onK P imp none dst l d fs Q e = False := rfl
theorem onD_some {v : AV} : onD P imp (some (v, m)) dst t d fs Q e = xdops P imp t d fs Q (e.put dst v) m := rfl
theorem onD_none : onD P imp none dst t d fs Q e = False := rfl
theorem xdops_done : xdops P imp .done d fs Q e m = lv P imp .norm fs Q (e.drop d) m := by
  simp only [wpS, xops, xdops, lv, xcall, xdcall, onK, onD, Hide_eq]; rfl
theorem xdops_or {t' : DT} : xdops P imp (.or t t') d fs Q e m = (xdops P imp t d fs Q e m ∧ xdops P imp t' d fs Q e m) := by
  simp only [wpS, xops, xdops, lv, xcall, xdcall, onK, onD, Hide_eq]; rfl
theorem xops_plain {k : SK} {args : List Opnd} : xops P imp (⟨dst, .plain k, args, none⟩ :: l) d fs Q e m = onK P imp (runK k m (args.map (·.eval e))) dst l d fs Q e := by
  simp only [wpS, xops, xdops, lv, xcall, xdcall, onK, onD, Hide_eq]; rfl
theorem xops_many {k : NK} {args : List Opnd} : xops P imp (⟨dst, .many k, args, none⟩ :: l) d fs Q e m = onN P imp (runN k m (args.map (·.eval e))) dst l d fs Q e := by
  unfold onN
  cases hr : runN k m (args.map (·.eval e)) with
  | none =>
    refine propext ⟨fun h => ?_, fun h => h.elim⟩
    have h := h.out
    unfold wops wact at h
    simp only [hr] at h
    obtain ⟨l, h, _⟩ := h
    cases h
  | some r =>
    refine propext ⟨fun h => ?_, fun h => ⟨?_⟩⟩
    · have h := h.out
      unfold wops wact at h
      simp only [hr] at h
      obtain ⟨l, h, h2⟩ := h
      injection h with h; subst h
      exact runN_mono hr (fun v m' h => ⟨h⟩) h2
    · unfold wops wact
      exact ⟨r, hr, runN_mono hr (fun v m' h => h.out) h⟩
theorem onN_some {r : (AV → Mem → Prop) → Prop} : onN P imp (some r) dst l d fs Q e = r fun v m' => xops P imp l d fs Q (e.put dst v) m' := rfl
theorem onN_none : onN P imp none dst l d fs Q e = False := rfl
theorem AllN_nil {k : AV → Mem → Prop} : AllN [] k = True := rfl
theorem AllN_cons {k : AV → Mem → Prop} {v : AV} {m : Mem} {l : List (AV × Mem)} : AllN ((v, m) :: l) k = (k v m ∧ AllN l k) := rfl
theorem xops_call {f : FuncId} {args : List Opnd} : xops P imp (⟨dst, .call f, args, none⟩ :: l) d fs Q e m = xcall P imp f (args.map (·.eval e)) dst l d fs Q e m := by
  simp only [wpS, xops, xdops, lv, xcall, xdcall, onK, onD, Hide_eq]; rfl
theorem xops_callv {args : List Opnd} : xops P imp (⟨dst, .callv, args, none⟩ :: l) d fs Q e m = match callArgs (args.map (·.eval e)) with
    | some (f, xs) => xcall P imp f xs dst l d fs Q e m
    | none => ∃ pos gen xs, args.map (·.eval e) = .yield pos gen :: xs ∧ ycall P imp pos gen xs dst l d fs Q e m := by
  simp only [wpS, xops, xdops, lv, xcall, xdcall, ycall, onK, onD, Hide_eq]; rfl
theorem xdops_inv {nm : String} {args : List Opnd} {t' : TypeId} {x : AV} {f : FuncId} {xs ys : List AV} {v : AV} (h : args.map (·.eval e) = .iface t' x :: xs) (hf : methOf P.toProgram t' nm = some f) (hx : tmpAs m (x :: xs) = some ys) (hc : PCalls P f ys fun out => out = .ret v)
    (hk : xdops P imp t d fs Q (e.put dst v) m) : xdops P imp (.step ⟨dst, .inv nm, args, none⟩ t) d fs Q e m := by
  unfold xdops
  refine ⟨?_⟩
  unfold dops dact
  exact ⟨t', x, f, xs, ys, v, h, hf, hx, hc, hk.out⟩
theorem xops_panic {args : List Opnd} : xops P imp (⟨dst, .panic, args, none⟩ :: l) d fs Q e m = ∃ t v, args.map (·.eval e) = [AV.iface t v] ∧ lv P imp (.panic (.iface t v)) fs Q e m := by
  simp only [wpS, xops, xdops, lv, xcall, xdcall, onK, onD, Hide_eq]; rfl
theorem xops_guard {act : SAct} {args : List Opnd} {g : Nat} {want : Bool} : xops P imp (⟨dst, act, args, some (g, want)⟩ :: l) d fs Q e m =
    ((e.get g = uv ∧ xops P imp l d fs Q (e.put dst uv) m) ∨ ∃ b, e.get g = .bool b ∧ (b = want → xops P imp (⟨dst, act, args, none⟩ :: l) d fs Q e m) ∧ (b = !want → xops P imp l d fs Q (e.put dst uv) m)) := by
  simp only [wpS, xops, xdops, lv, xcall, xdcall, onK, onD, Hide_eq]; rfl
theorem xdops_plain {k : SK} {args : List Opnd} : xdops P imp (.step ⟨dst, .plain k, args, none⟩ t) d fs Q e m = onD P imp (runK k m (args.map (·.eval e))) dst t d fs Q e := by
  simp only [wpS, xops, xdops, lv, xcall, xdcall, onK, onD, Hide_eq]; rfl
theorem xdops_call {f : FuncId} {args : List Opnd} : xdops P imp (.step ⟨dst, .call f, args, none⟩ t) d fs Q e m = xdcall P imp f (args.map (·.eval e)) dst t d fs Q e m := by
  simp only [xdops, dops, xdcall, dact, List.map_map, Function.comp_def, Opnd.eval]
theorem xdops_callw {args : List Opnd} {f : FuncId} {caps xs : List AV} {v : AV} {m' : Mem} (hi : imp.contains 2000000 = true) (h : args.map (·.eval e) = .fn f caps :: xs) (hc : ACalls P f (xs ++ caps) m fun out m2 => out = .ret v ∧ m2 = m')
    (hk : xdops P imp t d fs Q (e.put dst v) m') : xdops P imp (.step ⟨dst, .callv, args, none⟩ t) d fs Q e m := by
  unfold xdops
  refine ⟨?_⟩
  unfold dops dact
  simp only [h, hi, if_true]
  exact ⟨f, caps, xs, v, m', rfl, hc, hk.out⟩
theorem xdops_callv {args : List Opnd} {f : FuncId} {caps xs : List AV} (hi : imp.contains 2000000 = false) (h : args.map (·.eval e) = .fn f caps :: xs) : xdops P imp (.step ⟨dst, .callv, args, none⟩ t) d fs Q e m = xdcallv P imp f (xs ++ caps) dst t d fs Q e m := by
  simp only [xdops, dops, dact, h, xdcallv, Hide_eq, hi]
  apply propext
  constructor
  · rintro ⟨f', caps', xs', ys, v, h1, h2, h3, h4⟩
    injection h1 with h1 h5
    injection h1 with h1 h6
    subst h1; subst h5; subst h6
    exact ⟨ys, v, h2, h3, h4⟩
  · rintro ⟨ys, v, h2, h3, h4⟩; exact ⟨f, caps, xs, ys, v, rfl, h2, h3, h4⟩
theorem xdops_last {f : FuncId} {args : List Opnd} : xdops P imp (.last ⟨dst, .call f, args, none⟩ t) d fs Q e m = xdlast P imp f (args.map (·.eval e)) dst t d fs Q e m := by
  simp only [xdops, dops, xdlast, xdcall, lv, Hide_eq, dact, List.map_map, Function.comp_def, Opnd.eval, true_and]
theorem xdops_guard {act : SAct} {args : List Opnd} {g : Nat} {want : Bool} : xdops P imp (.step ⟨dst, act, args, some (g, want)⟩ t) d fs Q e m =
    ((e.get g = uv ∧ xdops P imp t d fs Q (e.put dst uv) m) ∨ ∃ b, e.get g = .bool b ∧ (b = want → xdops P imp (.step ⟨dst, act, args, none⟩ t) d fs Q e m) ∧ (b = !want → xdops P imp t d fs Q (e.put dst uv) m)) := by
  simp only [wpS, xops, xdops, lv, xcall, xdcall, onK, onD, Hide_eq]; rfl
theorem wpS_cond_t {c : Opnd} (h : c.eval e = .bool true) : wpS P imp (.cond c a b) fs Q e m = wpS P imp a fs Q e m := by
  rw [wpS_cond]; apply propext
  constructor
  · rintro ⟨t, ht, h1, _⟩; rw [h] at ht; injection ht with ht; exact h1 ht.symm
  · intro h1; exact ⟨true, h, fun _ => h1, fun h => by cases h⟩
theorem wpS_cond_f {c : Opnd} (h : c.eval e = .bool false) : wpS P imp (.cond c a b) fs Q e m = wpS P imp b fs Q e m := by
  rw [wpS_cond]; apply propext
  constructor
  · rintro ⟨t, ht, _, h1⟩; rw [h] at ht; injection ht with ht; exact h1 ht.symm
  · intro h1; exact ⟨false, h, fun h => (by cases h), fun _ => h1⟩
theorem xops_guard_t {act : SAct} {args : List Opnd} {g : Nat} {want : Bool} (h : e.get g = .bool want) : xops P imp (⟨dst, act, args, some (g, want)⟩ :: l) d fs Q e m = xops P imp (⟨dst, act, args, none⟩ :: l) d fs Q e m := by
  rw [xops_guard]; apply propext
  constructor
  · rintro (⟨ht, _⟩ | ⟨t, ht, h1, _⟩)
    · rw [h] at ht; cases ht
    · rw [h] at ht; injection ht with ht; exact h1 ht.symm
  · intro h1; exact .inr ⟨want, h, fun _ => h1, fun h => by cases want <;> cases h⟩
theorem xops_guard_f {act : SAct} {args : List Opnd} {g : Nat} {want : Bool} (h : e.get g = .bool (!want)) : xops P imp (⟨dst, act, args, some (g, want)⟩ :: l) d fs Q e m = xops P imp l d fs Q (e.put dst uv) m := by
  rw [xops_guard]; apply propext
  constructor
  · rintro (⟨ht, _⟩ | ⟨t, ht, _, h1⟩)
    · rw [h] at ht; cases ht
    · rw [h] at ht; injection ht with ht; exact h1 ht.symm
  · intro h1; exact .inr ⟨!want, h, fun h => (by cases want <;> cases h), fun _ => h1⟩
theorem xdops_guard_t {act : SAct} {args : List Opnd} {g : Nat} {want : Bool} (h : e.get g = .bool want) : xdops P imp (.step ⟨dst, act, args, some (g, want)⟩ t) d fs Q e m = xdops P imp (.step ⟨dst, act, args, none⟩ t) d fs Q e m := by
  rw [xdops_guard]; apply propext
  constructor
  · rintro (⟨ht, _⟩ | ⟨t, ht, h1, _⟩)
    · rw [h] at ht; cases ht
    · rw [h] at ht; injection ht with ht; exact h1 ht.symm
  · intro h1; exact .inr ⟨want, h, fun _ => h1, fun h => by cases want <;> cases h⟩
theorem xdops_guard_f {act : SAct} {args : List Opnd} {g : Nat} {want : Bool} (h : e.get g = .bool (!want)) : xdops P imp (.step ⟨dst, act, args, some (g, want)⟩ t) d fs Q e m = xdops P imp t d fs Q (e.put dst uv) m := by
  rw [xdops_guard]; apply propext
  constructor
  · rintro (⟨ht, _⟩ | ⟨t, ht, _, h1⟩)
    · rw [h] at ht; cases ht
    · rw [h] at ht; injection ht with ht; exact h1 ht.symm
  · intro h1; exact .inr ⟨!want, h, fun h => (by cases want <;> cases h), fun _ => h1⟩
theorem xops_guard_u {act : SAct} {args : List Opnd} {g : Nat} {want : Bool} (h : e.get g = .tuple []) : xops P imp (⟨dst, act, args, some (g, want)⟩ :: l) d fs Q e m = xops P imp l d fs Q (e.put dst uv) m := by
  rw [xops_guard]; apply propext
  constructor
  · rintro (⟨_, h1⟩ | ⟨t, ht, _, _⟩)
    · exact h1
    · rw [h] at ht; cases ht
  · intro h1; exact .inl ⟨h, h1⟩
theorem xdops_guard_u {act : SAct} {args : List Opnd} {g : Nat} {want : Bool} (h : e.get g = .tuple []) : xdops P imp (.step ⟨dst, act, args, some (g, want)⟩ t) d fs Q e m = xdops P imp t d fs Q (e.put dst uv) m := by
  rw [xdops_guard]; apply propext
  constructor
  · rintro (⟨_, h1⟩ | ⟨t, ht, _, _⟩)
    · exact h1
    · rw [h] at ht; cases ht
  · intro h1; exact .inl ⟨h, h1⟩
theorem ycall_r {pos gen : Nat} {xs : List AV} {R : AOut → Mem → Prop} (h : YCalls P pos gen xs m R) (hk : ∀ v m', R (.ret v) m' → xops P imp l d fs Q (e.put dst v) m') (hp : ∀ v m', R (.panic v) m' → lv P imp (.panic v) fs Q e m') : ycall P imp pos gen xs dst l d fs Q e m :=
  ⟨R, h, fun out m' hR => by
    cases out with
    | ret v => exact (hk v m' hR).out
    | panic v => exact (hp v m' hR).out⟩
theorem xcall_r {f : FuncId} {xs : List AV} {R : AOut → Mem → Prop} (h : ACalls P f xs m R) (hk : ∀ v m', R (.ret v) m' → xops P imp l d fs Q (e.put dst v) m') (hp : ∀ v m', R (.panic v) m' → lv P imp (.panic v) fs Q e m') : xcall P imp f xs dst l d fs Q e m :=
  ⟨R, h, fun out m' hR => by
    cases out with
    | ret v => exact (hk v m' hR).out
    | panic v => exact (hp v m' hR).out⟩
theorem wpS_rangeS {g : Opnd} {ps : List Nat} {f : FuncId} {caps : List AV} {R : AOut → Mem → Prop} (e0 : Env) (m0 : Mem) (hs : Sim e0 m0 e m) (hg : g.eval e0 = .fn f caps) (h : ACalls P f (.yield m0.store.length m0.next :: caps) (m0.new (.loop .ready e0 (loopOk P imp ps a b))) R)
    (hr : ∀ v m', R (.ret v) m' → ∃ st e' ok, m'.obj m0.store.length m0.next = some (.loop st e' ok) ∧ (match st with
      | .ready => lv P imp .norm fs Q e0 (m'.put m0.store.length m0.next .hole)
      | .ret => lv P imp .ret fs Q e0 (m'.put m0.store.length m0.next .hole)
      | .exit id => lv P imp (.exit id) fs Q e0 (m'.put m0.store.length m0.next .hole)
      | .busy => False))
    (hp : ∀ v m', R (.panic v) m' → lv P imp (.panic v) fs Q e0 m') : wpS P imp (.rangeF g ps a b) fs Q e m :=
  ⟨e0, m0, hs, f, caps, R, hg, h, fun out m' hR => by
    cases out with
    | panic v => exact (hp v m' hR).out
    | ret v =>
      obtain ⟨st, e', ok, h1, h2⟩ := hr v m' hR
      refine ⟨st, e', ok, h1, ?_⟩
      cases st with
      | busy => exact h2
      | _ => exact h2.out⟩
theorem ycalls_S {pos gen : Nat} {ps : List Nat} {e : Env} {xs : List AV} {R : AOut → Mem → Prop} (ho : m.obj pos gen = some (.loop .ready e (loopOk P imp ps a b))) (hl : xs.length = ps.length)
    (h : wpS P imp a [] (fun x e1 m1 => x = .norm ∧ m1.obj pos gen = some (.loop .ready e (loopOk P imp ps a b)) ∧ wpS P imp b [] (roundPost' pos gen e (loopOk P imp ps a b) R) e1 (m1.put pos gen (.loop .busy e (loopOk P imp ps a b)))) (e.sets ps xs) m) : YCalls P pos gen xs m R :=
  ycalls_of_wp ho hl (wp_mono_post (fun _ _ _ h => ⟨h.1, h.2.1, h.2.2.out⟩) h.out)
theorem br_cond {c : Opnd} {t : Bool} (h : c.eval e = .bool t) (h1 : t = true → wpS P imp a fs Q e m) (h2 : t = false → wpS P imp b fs Q e m) : wpS P imp (.cond c a b) fs Q e m := by rw [wpS_cond]; exact ⟨t, h, h1, h2⟩
theorem br_guard_t {act : SAct} {args : List Opnd} {g : Nat} {b : Bool} (h : e.get g = .bool b) (h1 : b = true → xops P imp (⟨dst, act, args, none⟩ :: l) d fs Q e m) (h2 : b = false → xops P imp l d fs Q (e.put dst uv) m) :
    xops P imp (⟨dst, act, args, some (g, true)⟩ :: l) d fs Q e m := by first | (rw [xops_guard]; exact .inr ⟨b, h, h1, h2⟩) | (rw [xdops_guard]; exact .inr ⟨b, h, h1, h2⟩)
theorem br_guard_f {act : SAct} {args : List Opnd} {g : Nat} {b : Bool} (h : e.get g = .bool b) (h2 : b = true → xops P imp l d fs Q (e.put dst uv) m) (h1 : b = false → xops P imp (⟨dst, act, args, none⟩ :: l) d fs Q e m) :
    xops P imp (⟨dst, act, args, some (g, false)⟩ :: l) d fs Q e m := by first | (rw [xops_guard]; exact .inr ⟨b, h, h1, h2⟩) | (rw [xdops_guard]; exact .inr ⟨b, h, h1, h2⟩)
theorem br_dguard_t {act : SAct} {args : List Opnd} {g : Nat} {b : Bool} (h : e.get g = .bool b) (h1 : b = true → xdops P imp (.step ⟨dst, act, args, none⟩ t) d fs Q e m) (h2 : b = false → xdops P imp t d fs Q (e.put dst uv) m) :
    xdops P imp (.step ⟨dst, act, args, some (g, true)⟩ t) d fs Q e m := by first | (rw [xops_guard]; exact .inr ⟨b, h, h1, h2⟩) | (rw [xdops_guard]; exact .inr ⟨b, h, h1, h2⟩)
theorem xcall_p {f : FuncId} {xs ys : List AV} {v : AV} (h : PCalls P f ys fun out => out = .ret v) (hx : tmpAs m xs = some ys) (hk : xops P imp l d fs Q (e.put dst v) m) : xcall P imp f xs dst l d fs Q e m := by
  refine ⟨_, h.acalls hx, ?_⟩
  rintro out m' ⟨rfl, rfl⟩
  exact hk.out
theorem xcall_a {f : FuncId} {xs : List AV} {v : AV} {m' : Mem} (h : ACalls P f xs m fun out m2 => out = .ret v ∧ m2 = m') (hk : xops P imp l d fs Q (e.put dst v) m') : xcall P imp f xs dst l d fs Q e m := by
  refine ⟨_, h, ?_⟩
  rintro out m' ⟨rfl, rfl⟩
  exact hk.out
theorem xdcall_p {f : FuncId} {xs ys : List AV} {v : AV} (hi : imp.contains f = false) (h : PCalls P f ys fun out => out = .ret v) (hx : tmpAs m xs = some ys) (hk : xdops P imp t d fs Q (e.put dst v) m) : xdcall P imp f xs dst t d fs Q e m := by
  unfold xdcall dact
  simp only [List.map_map, Function.comp_def, Opnd.eval, hi]
  exact ⟨ys, v, by simpa using hx, h, hk.out⟩
theorem wpS_loopS {ι : Type} (env : ι → Env) (mem : ι → Mem) (μ : ι → Nat) (ok : ι → Prop) (s0 : ι) (h0 : ok s0) (he : Sim (env s0) (mem s0) e m)
    (hs : ∀ s, ok s → wpS P imp a (.loop (fun e m => ∃ s', ok s' ∧ μ s' < μ s ∧ Sim (env s') (mem s') e m) :: fs) Q (env s) (mem s)) : wpS P imp (.loop a) fs Q e m :=
  ⟨wp_loopS env mem μ ok s0 h0 he fun s h => (hs s h).out⟩
theorem wpS_loop {ι : Type} (env : ι → Env) (mem : ι → Mem) (μ : ι → Nat) (ok : ι → Prop) (s0 : ι) (h0 : ok s0) (he : Env.le (env s0) e) (hm : mem s0 = m)
    (hs : ∀ s, ok s → wpS P imp a (.loop (fun e m => ∃ s', ok s' ∧ μ s' < μ s ∧ Env.le (env s') e ∧ Mem.le (mem s') m) :: fs) Q (env s) (mem s)) : wpS P imp (.loop a) fs Q e m := by
  refine wpS_loopS env mem μ ok s0 h0 (.of_le he (by rw [hm]; exact Mem.le_refl m)) fun s h => ⟨?_⟩
  refine wp_mono_post (fun x e m hx => ?_) (hs s h).out
  cases x with
  | norm => obtain ⟨s', h1, h2, h3, h4⟩ := hx; exact ⟨s', h1, h2, .of_le h3 h4⟩
  | _ => exact hx
end
def ltI (a b : Int) : Bool := decide (a < b)
def leI (a b : Int) : Bool := decide (a ≤ b)
def eqI (a b : Int) : Bool := a == b
def eqS (a b : ByteArray) : Bool := a.toList == b.toList
def ltS (a b : ByteArray) : Bool := Op.bytesLess a.toList b.toList
theorem ltI_t {a b : Int} : ltI a b = true ↔ a < b := by simp [ltI]
theorem ltI_f {a b : Int} : ltI a b = false ↔ b ≤ a := by simp [ltI]
theorem leI_t {a b : Int} : leI a b = true ↔ a ≤ b := by simp [leI]
theorem leI_f {a b : Int} : leI a b = false ↔ b < a := by simp [leI]
theorem eqI_t {a b : Int} : eqI a b = true ↔ a = b := by simp [eqI]
theorem eqI_f {a b : Int} : eqI a b = false ↔ a ≠ b := by simp [eqI]
section
variable {k : IntKind} {a b : Int} {x y : ByteArray}
theorem binA_add : binA .add (.int k a) (.int k b) = some (.int k (k.wrap (a + b))) := by simp [binA, binInt]
theorem binA_sub : binA .sub (.int k a) (.int k b) = some (.int k (k.wrap (a - b))) := by simp [binA, binInt]
theorem binA_mul : binA .mul (.int k a) (.int k b) = some (.int k (k.wrap (a * b))) := by simp [binA, binInt]
theorem binA_quo : binA .quo (.int k a) (.int k b) = if b = 0 then none else some (.int k (k.wrap (a.tdiv b))) := by simp [binA, binInt]
theorem binA_rem : binA .rem (.int k a) (.int k b) = if b = 0 then none else some (.int k (a.tmod b)) := by simp [binA, binInt]
theorem binA_lss : binA .lss (.int k a) (.int k b) = some (.bool (ltI a b)) := by simp [binA, binInt, ltI]
theorem binA_leq : binA .leq (.int k a) (.int k b) = some (.bool (leI a b)) := by simp [binA, binInt, leI]
theorem binA_gtr : binA .gtr (.int k a) (.int k b) = some (.bool (ltI b a)) := by simp [binA, binInt, ltI]
theorem binA_geq : binA .geq (.int k a) (.int k b) = some (.bool (leI b a)) := by simp [binA, binInt, leI]
theorem binA_eql : binA .eql (.int k a) (.int k b) = some (.bool (eqI a b)) := by simp [binA, binInt, eqI]
theorem binA_neq : binA .neq (.int k a) (.int k b) = some (.bool (!eqI a b)) := by simp [binA, binInt, eqI]; rfl
theorem binA_shl {k' : IntKind} : binA .shl (.int k a) (.int k' b) = if b < 0 then none else some (.int k (k.wrap (a * 2 ^ (min b.toNat k.bits)))) := by simp [binA, shInt]
theorem binA_shr {k' : IntKind} : binA .shr (.int k a) (.int k' b) = if b < 0 then none else some (.int k (a.fdiv (2 ^ (min b.toNat k.bits)))) := by simp [binA, shInt]
theorem binA_or : binA .or (.int k a) (.int k b) = some (.int k (k.wrap (BitVec.ofInt k.bits a ||| BitVec.ofInt k.bits b).toNat)) := by simp [binA, binInt]
theorem binA_sadd : binA .add (.str x) (.str y) = if x.size + y.size ≤ 9223372036854775807 then some (.str (x ++ y)) else none := rfl
theorem binA_seql : binA .eql (.str x) (.str y) = some (.bool (eqS x y)) := rfl
theorem binA_sneq : binA .neq (.str x) (.str y) = some (.bool (!eqS x y)) := rfl
theorem binA_slss : binA .lss (.str x) (.str y) = some (.bool (ltS x y)) := rfl
theorem binA_sgeq : binA .geq (.str x) (.str y) = some (.bool (!ltS x y)) := rfl
end
def byteAt (s : ByteArray) (i : Nat) : UInt8 := s.data.toList.getD i 0
theorem idxS {s : ByteArray} {i : Nat} (h : ltI ↑i ↑s.size = true) : s[i]? = some (byteAt s i) := by
  have h1 : i < s.size := by have := ltI_t.1 h; omega
  have h2 : i < s.data.size := h1
  unfold byteAt
  rw [getElem?_pos s i h1, List.getD_eq_getElem?_getD, Array.getElem?_toList, Array.getElem?_eq_getElem h2]
  rfl
theorem wrap64 {n : Int} (h1 : -9223372036854775808 ≤ n) (h2 : n ≤ 9223372036854775807) : IntKind.i64.wrap n = n := by
  rw [IntKind.wrap_i64]; omega
end
@[simp] theorem indexA_list {sz p sz' els} {i : Int} : indexAddrA sz (.list p sz' els) i = if 0 ≤ i then (if sz = sz' then match els[i.toNat]? with | some cs => some (.iptr p cs) | none => none else none) else none := rfl
@[simp] theorem indexA_row {sz pos gen sz' off n : Nat} {i : Int} : indexAddrA sz (.row pos gen sz' off n) i = if 0 ≤ i then (if sz = sz' ∧ ltI i n = true then some (.rptr pos gen sz (off + i.toNat) 0) else none) else none := by
  simp only [indexAddrA, ltI_t]
attribute [simp] wpS_skip wpS_ret wpS_exit wpS_seq wpS_block wpS_ops wpS_draw wpS_cond_t wpS_cond_f lv_nil lv_seq lv_block lv_loop lv_ret_seq lv_ret_block lv_ret_loop lv_panic_seq lv_panic_block lv_panic_loop lv_exit_seq lv_exit_loop lv_exit_block
attribute [simp] xops_many onN_some onN_none AllN_nil AllN_cons runN nilPoss xops_nil onK_some onK_none onD_some onD_none xdops_done xdops_or xops_plain xops_call xops_callv xops_panic xops_guard_t xops_guard_f xops_guard_u xdops_plain xdops_call xdops_last xdops_guard_t xdops_guard_f xdops_guard_u
attribute [simp] binA_add binA_sub binA_mul binA_quo binA_rem binA_lss binA_leq binA_gtr binA_geq binA_eql binA_neq binA_shl binA_shr binA_or binA_sadd binA_seql binA_sneq binA_slss binA_sgeq
attribute [simp] runK kclass localK readK allocK writeK Env.ofArgs Env.get Env.set Env.put Env.drop Opnd.eval postP_ret postP_panic postD_ret postA_ret postA_panic resA resList resOne permO permR permA permAs AV.perm permL permLL AV.noref norefL norefLL loadA storeA cellsAt lenA lenMapA fieldAddrA
attribute [simp] appendN Mem.obj Mem.new Mem.put Mem.turn Mem.empty AV.cells AV.one over fillA tmpB tmpBs tmpA tmpAs callArgs unA elsOf
end Go.Pm
