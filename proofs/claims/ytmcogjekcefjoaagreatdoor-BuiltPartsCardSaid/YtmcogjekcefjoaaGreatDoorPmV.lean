/- PmV: cells that nobody writes any more are known by their pointer alone; a map's rows said with such a pointer. -/
import Derived.Test.YtmcogjekcefjoaaGreatDoorPmU
namespace Go.Pm
open Go
theorem Rel.letGo {β : Base} {K : Bool → Nat → Prop} {σ : Sig} {m : Mem} {w : World} (h : Rel β K σ m w) {pos g : Nat} {o : AObj} (hp : m.store[pos]? = some (g, o)) :
    ∀ K' : Bool → Nat → Prop, (∀ p b, K p b → K' p b) → (∀ p x, K' p x → K p x ∨ (∃ c, σ[g]? = some (some x, c))) → Rel β K' (σ ++ [(none, 0)]) (m.turn pos .hole) w := by
  have hpre : σ <+: σ ++ [(none, 0)] := List.prefix_append _ _
  have hlt := (List.getElem?_eq_some_iff.1 hp).1
  obtain ⟨s, hs, ho⟩ := h.objs pos g _ hp
  have hnext : (σ ++ [(none, 0)])[m.next]? = some (none, 0) := by rw [← h.next]; simp
  have back : ∀ (pos' g' : Nat) (o' : AObj), (m.turn pos .hole).store[pos']? = some (g', o') → (pos' = pos ∧ g' = m.next ∧ o' = .hole) ∨ (pos' ≠ pos ∧ m.store[pos']? = some (g', o')) := by
    intro pos' g' o' h'
    simp only [Mem.turn] at h'
    by_cases e1 : pos = pos'
    · subst e1
      rw [List.getElem?_set_self hlt] at h'
      injection h' with h'; injection h' with e2 e3
      exact .inl ⟨rfl, e2.symm, e3.symm⟩
    · rw [List.getElem?_set_ne e1] at h'
      exact .inr ⟨fun e2 => e1 e2.symm, h'⟩
  have gold : ∀ (pos' g' : Nat) (o' : AObj), m.store[pos']? = some (g', o') → (σ ++ [(none, 0)])[g']? = σ[g']? := by
    intro pos' g' o' h'
    obtain ⟨s', hs', _⟩ := h.objs pos' g' o' h'
    rw [hs', pre_get hpre hs']
  intro K' hK hK'
  have hown : ∀ b, Owned (σ ++ [(none, 0)]) (m.turn pos .hole) b → Owned σ m b ∧ ∀ c, σ[g]? ≠ some (some b, c) := by
    rintro b ⟨pos', g', o', c', h1, h2⟩
    rcases back _ _ _ h1 with ⟨rfl, rfl, rfl⟩ | ⟨hne, h1⟩
    · rw [hnext] at h2; cases h2
    · rw [gold _ _ _ h1] at h2
      exact ⟨⟨pos', g', o', c', h1, h2⟩, fun c hc => hne (h.inj _ _ _ _ _ _ _ _ _ h1 hp h2 hc)⟩
  refine ⟨by simp [Mem.turn, h.next], ?_, ?_, ?_, ?_, fun p b hb => hK p b (h.kept0 p b hb), h.sig.trans hpre, h.size, h.frame, h.os, h.tape, h.output, h.nd, ?_, ?_⟩
  · intro pos' g' o' h1
    rcases back _ _ _ h1 with ⟨rfl, rfl, rfl⟩ | ⟨_, h1⟩
    · exact ⟨_, hnext, trivial⟩
    · obtain ⟨s', hs', ho'⟩ := h.objs _ _ _ h1
      exact ⟨s', pre_get hpre hs', ho'.mono hpre hK (fun _ _ _ => rfl) fun _ _ _ => rfl⟩
  · intro pos' pos'' g' g'' o' o'' b c c' h1 h2 h3 h4
    rcases back _ _ _ h1 with ⟨rfl, rfl, rfl⟩ | ⟨_, h1⟩
    · rw [hnext] at h3; cases h3
    · rcases back _ _ _ h2 with ⟨rfl, rfl, rfl⟩ | ⟨_, h2⟩
      · rw [hnext] at h4; cases h4
      · rw [gold _ _ _ h1] at h3
        rw [gold _ _ _ h2] at h4
        exact h.inj _ _ _ _ _ _ _ _ _ h1 h2 h3 h4
  · intro b hb
    obtain ⟨h1, h2⟩ := hown b hb
    obtain ⟨i1, i2, i3⟩ := h.own b h1
    exact ⟨i1, i2, fun p hk => (hK' p b hk).elim (i3 p) fun ⟨c, hc⟩ => h2 c hc⟩
  · intro p b hb
    rcases hK' p b hb with hb | ⟨c, hc⟩
    · exact h.kept p b hb
    · obtain ⟨i1, i2, _⟩ := h.own b ⟨pos, g, _, c, hp, hc⟩
      exact ⟨.inr i1, i2⟩
  · intro D hD
    obtain ⟨i1, i2, i3, i4, i5⟩ := h.frz D hD
    refine ⟨i1, i2, fun ho' => i3 (hown D ho').1, fun p hk => ?_, i5⟩
    rcases hK' p D hk with hk | ⟨c, hc⟩
    · exact i4 p hk
    · exact i3 ⟨pos, g, _, c, hp, hc⟩
  · exact ⟨h.gl.1, fun b hb => ⟨(h.gl.2 b hb).1, fun ho' => (h.gl.2 b hb).2 (hown b ho').1⟩⟩
theorem Rel.keepCells {β : Base} {K : Bool → Nat → Prop} {σ : Sig} {m : Mem} {w : World} (h : Rel β K σ m w) {pos g : Nat} {vs : List AV} (hp : m.store[pos]? = some (g, .cells vs)) :
    ∃ K', (∀ p b, K p b → K' p b) ∧ Rel β K' (σ ++ [(none, 0)]) (m.turn pos .hole) w ∧ ∀ u pos', VR σ K w (.ptr pos' g 0) u → VR (σ ++ [(none, 0)]) K' w (.iptr true vs) u := by
  have hpre : σ <+: σ ++ [(none, 0)] := List.prefix_append _ _
  obtain ⟨s, hs, ho⟩ := h.objs pos g _ hp
  obtain ⟨ob, c⟩ := s
  cases ob with
  | none => exact ho.elim
  | some b =>
    obtain ⟨cur, e, hb, hl, hcr⟩ := ho
    have hK : ∀ p x, K p x → (K p x ∨ x = b) := fun _ _ h => .inl h
    refine ⟨fun p x => K p x ∨ x = b, hK, h.letGo hp _ hK ?_, fun u pos' hu => ?_⟩
    · rintro p x (hx | rfl)
      · exact .inl hx
      · exact .inr ⟨c, hs⟩
    · rw [VR] at hu
      obtain ⟨b', c', hg', rfl⟩ := hu
      rw [hs] at hg'
      injection hg' with hg'; injection hg' with e1 e2; injection e1 with e1; subst e1
      rw [VR]
      exact ⟨b, 0, rfl, .inr (.inr rfl), CR.mono hpre hK (fun _ _ _ => rfl) b rfl vs 0 hcr⟩
theorem VR.row_ptr {σ σ' : Sig} {K K' : Bool → Nat → Prop} {w : World} {a b c x y : AV} {f : FuncId} (hp : σ <+: σ') (hK : ∀ p b, K p b → K' p b) (h : ∀ u, VR σ K w x u → VR σ' K' w y u) (u : Value) (hu : VR σ K w (.agg [a, b, c, .fn f [x]]) u) : VR σ' K' w (.agg [a, b, c, .fn f [y]]) u := by
  have mo : ∀ z v, VR σ K w z v → VR σ' K' w z v := fun z v hz => VR.mono hp hK (fun _ _ _ => rfl) z v hz
  simp only [VR, VRs] at hu ⊢
  obtain ⟨us, rfl, u1, us1, h1, v1, u2, us2, h2, v2, u3, us3, h3, v3, u4, us4, h4, ⟨cs, rfl, w1, ws1, h5, v5, h6⟩, h7⟩ := hu
  exact ⟨us, rfl, u1, us1, h1, mo _ _ v1, u2, us2, h2, mo _ _ v2, u3, us3, h3, mo _ _ v3, _, us4, h4, ⟨cs, rfl, w1, ws1, h5, h _ v5, h6⟩, h7⟩
theorem MR.upd {σ σ' : Sig} {K K' : Bool → Nat → Prop} {w : World} {k v1 v2 : AV} (hp : σ <+: σ') (hK : ∀ p b, K p b → K' p b) (h : ∀ u, VR σ K w v1 u → VR σ' K' w v2 u) :
    ∀ {L L1 L2 : List (AV × AV)} {es : List MapEntry}, updA k v1 L = some L1 → updA k v2 L = some L2 → MR σ K w L1 es → MR σ' K' w L2 es
  | [], L1, L2, es, h1, h2, hm => by
    simp only [updA, Option.some.injEq] at h1 h2
    subst h1; subst h2
    simp only [MR] at hm ⊢
    obtain ⟨e, es', rfl, a, b, c⟩ := hm
    exact ⟨e, es', rfl, VR.mono hp hK (fun _ _ _ => rfl) _ _ a, h _ b, c⟩
  | (k', v') :: L, L1, L2, es, h1, h2, hm => by
    rw [updA] at h1 h2
    cases hk : keyEq k k' with
    | none => rw [hk] at h1; cases h1
    | some t =>
      rw [hk] at h1 h2
      cases t with
      | true =>
        simp only [Option.some.injEq] at h1 h2
        subst h1; subst h2
        simp only [MR] at hm ⊢
        obtain ⟨e, es', rfl, a, b, c⟩ := hm
        exact ⟨e, es', rfl, VR.mono hp hK (fun _ _ _ => rfl) _ _ a, h _ b, MR.mono hp hK (fun _ _ _ => rfl) _ _ c⟩
      | false =>
        simp only [Option.map_eq_some_iff] at h1 h2
        obtain ⟨L3, h3, rfl⟩ := h1
        obtain ⟨L4, h4, rfl⟩ := h2
        simp only [MR] at hm ⊢
        obtain ⟨e, es', rfl, a, b, c⟩ := hm
        exact ⟨e, es', rfl, VR.mono hp hK (fun _ _ _ => rfl) _ _ a, VR.mono hp hK (fun _ _ _ => rfl) _ _ b, MR.upd hp hK h h3 h4 c⟩
theorem Sim.keepRow {e : Env} {m : Mem} {pos g pm gm pos' : Nat} {vs : List AV} {k a b c : AV} {f : FuncId} {L L1 L2 : List (AV × AV)} (hp : m.store[pos]? = some (g, .cells vs)) (hm : m.store[pm]? = some (gm, .map L1)) (hne : pos ≠ pm)
    (h1 : updA k (.agg [a, b, c, .fn f [.ptr pos' g 0]]) L = some L1) (h2 : updA k (.agg [a, b, c, .fn f [.iptr true vs]]) L = some L2) : Sim e ((m.turn pos .hole).put pm gm (.map L2)) e m := by
  intro β N act w σ K hst
  obtain ⟨K', hK, hrel, hv⟩ := hst.rel.keepCells hp
  have hpre : σ <+: σ ++ [(none, 0)] := List.prefix_append _ _
  obtain ⟨s, hs, ho⟩ := hst.rel.objs pm gm _ hm
  have hm' : (m.turn pos .hole).store[pm]? = some (gm, .map L1) := by
    simp only [Mem.turn]
    rw [List.getElem?_set_ne hne]
    exact hm
  refine ⟨_, K', hpre, hK, hrel.put hm' (pre_get hpre hs) ⟨rfl, rfl, rfl, Nat.le_refl _, fun _ _ _ => rfl⟩ ?_, hst.env.mono hpre hK (fun _ _ _ => rfl), hst.defers, hst.size⟩
  obtain ⟨ob, c'⟩ := s
  cases ob with
  | none => exact ho.elim
  | some b' =>
    obtain ⟨es, clock, hb, hmr, hbo⟩ := ho
    exact ⟨es, clock, hb, MR.upd hpre hK (VR.row_ptr hpre hK fun u hu => hv u pos' hu) h1 h2 hmr, hbo⟩
end Go.Pm
