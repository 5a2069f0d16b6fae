/- PmS: a row that nobody writes any more is a list. -/
import Derived.Test.YtmcogjekcefjoaaGreatDoorPmR
namespace Go.Pm
open Go
theorem VR.row_list {σ : Sig} {K : Bool → Nat → Prop} {w : World} {pos g sz n b : Nat} {c : Nat} {els : List (List AV)} {u : Value} (hg : σ[g]? = some (some b, c)) (hlr : LR σ K w b 0 sz els) (hn : n ≤ els.length) (hK : K true b) (h : VR σ K w (.row pos g sz 0 n) u) : VR σ K w (.list true sz (els.take n)) u := by
  have hlen : (els.take n).length = n := by rw [List.length_take]; omega
  rw [VR] at h
  rw [VR]
  rcases h with ⟨b', c', hg', hoc, rfl⟩ | ⟨hg', rfl, _, rfl⟩ | ⟨_, h0, _⟩
  · rw [hg] at hg'
    injection hg' with hg'; injection hg' with e1 e2; injection e1 with e1; subst e1; subst e2
    refine ⟨_, _, b, 0, by rw [hlen], by rw [hlen]; omega, .inr ⟨by rw [Nat.zero_mul], hK⟩, LR_iff.2 fun i x hi => ?_⟩
    rw [List.getElem?_take] at hi
    split at hi
    · exact LR_iff.1 hlr i x hi
    · cases hi
  · rw [hg] at hg'; cases hg'
  · omega
theorem Rel.keep {β : Base} {K : Bool → Nat → Prop} {σ : Sig} {m : Mem} {w : World} (h : Rel β K σ m w) {pos g e sz : Nat} {els : List (List AV)} (hp : m.store[pos]? = some (g, .row e sz els)) :
    ∃ K', (∀ p b, K p b → K' p b) ∧ Rel β K' (σ ++ [(none, 0)]) (m.turn pos .hole) w ∧ ∀ n, n ≤ els.length → ∀ u, VR σ K w (.row pos g sz 0 n) u → VR (σ ++ [(none, 0)]) K' w (.list true sz (els.take n)) u := by
  have hpre : σ <+: σ ++ [(none, 0)] := List.prefix_append _ _
  have hlt := (List.getElem?_eq_some_iff.1 hp).1
  obtain ⟨s, hs, ho⟩ := h.objs pos g _ hp
  have hnext : (σ ++ [(none, 0)])[m.next]? = some (none, 0) := by rw [← h.next]; simp
  have back : ∀ (pos' g' : Nat) (o' : AObj), (m.turn pos .hole).store[pos']? = some (g', o') → (pos' = pos ∧ g' = m.next ∧ o' = .hole) ∨ (pos' ≠ pos ∧ m.store[pos']? = some (g', o')) := by
    intro pos' g' o' h'
    simp only [Mem.turn] at h'
    by_cases e1 : pos = pos'
    · subst e1
      rw [List.getElem?_set_self hlt] at h'
      injection h' with h'; injection h' with e2 e3
      exact .inl ⟨rfl, e2.symm, e3.symm⟩
    · rw [List.getElem?_set_ne e1] at h'
      exact .inr ⟨fun e2 => e1 e2.symm, h'⟩
  have gold : ∀ (pos' g' : Nat) (o' : AObj), m.store[pos']? = some (g', o') → (σ ++ [(none, 0)])[g']? = σ[g']? := by
    intro pos' g' o' h'
    obtain ⟨s', hs', _⟩ := h.objs pos' g' o' h'
    rw [hs', pre_get hpre hs']
  have main : ∀ K' : Bool → Nat → Prop, (∀ p b, K p b → K' p b) → (∀ p x, K' p x → K p x ∨ (∃ c, σ[g]? = some (some x, c))) → Rel β K' (σ ++ [(none, 0)]) (m.turn pos .hole) w := by
    intro K' hK hK'
    have hown : ∀ b, Owned (σ ++ [(none, 0)]) (m.turn pos .hole) b → Owned σ m b ∧ ∀ c, σ[g]? ≠ some (some b, c) := by
      rintro b ⟨pos', g', o', c', h1, h2⟩
      rcases back _ _ _ h1 with ⟨rfl, rfl, rfl⟩ | ⟨hne, h1⟩
      · rw [hnext] at h2; cases h2
      · rw [gold _ _ _ h1] at h2
        exact ⟨⟨pos', g', o', c', h1, h2⟩, fun c hc => hne (h.inj _ _ _ _ _ _ _ _ _ h1 hp h2 hc)⟩
    refine ⟨by simp [Mem.turn, h.next], ?_, ?_, ?_, ?_, fun p b hb => hK p b (h.kept0 p b hb), h.sig.trans hpre, h.size, h.frame, h.os, h.tape, h.output, h.nd, ?_, ?_⟩
    · intro pos' g' o' h1
      rcases back _ _ _ h1 with ⟨rfl, rfl, rfl⟩ | ⟨_, h1⟩
      · exact ⟨_, hnext, trivial⟩
      · obtain ⟨s', hs', ho'⟩ := h.objs _ _ _ h1
        exact ⟨s', pre_get hpre hs', ho'.mono hpre hK (fun _ _ _ => rfl) fun _ _ _ => rfl⟩
    · intro pos' pos'' g' g'' o' o'' b c c' h1 h2 h3 h4
      rcases back _ _ _ h1 with ⟨rfl, rfl, rfl⟩ | ⟨_, h1⟩
      · rw [hnext] at h3; cases h3
      · rcases back _ _ _ h2 with ⟨rfl, rfl, rfl⟩ | ⟨_, h2⟩
        · rw [hnext] at h4; cases h4
        · rw [gold _ _ _ h1] at h3
          rw [gold _ _ _ h2] at h4
          exact h.inj _ _ _ _ _ _ _ _ _ h1 h2 h3 h4
    · intro b hb
      obtain ⟨h1, h2⟩ := hown b hb
      obtain ⟨i1, i2, i3⟩ := h.own b h1
      exact ⟨i1, i2, fun p hk => (hK' p b hk).elim (i3 p) fun ⟨c, hc⟩ => h2 c hc⟩
    · intro p b hb
      rcases hK' p b hb with hb | ⟨c, hc⟩
      · exact h.kept p b hb
      · obtain ⟨i1, i2, _⟩ := h.own b ⟨pos, g, _, c, hp, hc⟩
        exact ⟨.inr i1, i2⟩
    · intro D hD
      obtain ⟨i1, i2, i3, i4, i5⟩ := h.frz D hD
      refine ⟨i1, i2, fun ho' => i3 (hown D ho').1, fun p hk => ?_, i5⟩
      rcases hK' p D hk with hk | ⟨c, hc⟩
      · exact i4 p hk
      · exact i3 ⟨pos, g, _, c, hp, hc⟩
    · exact ⟨h.gl.1, fun b hb => ⟨(h.gl.2 b hb).1, fun ho' => (h.gl.2 b hb).2 (hown b ho').1⟩⟩
  obtain ⟨ob, c⟩ := s
  cases ob with
  | none =>
    obtain ⟨he, _, _⟩ := ho
    subst he
    refine ⟨K, fun _ _ h => h, main K (fun _ _ h => h) (fun _ _ h => .inl h), fun n hn u hu => ?_⟩
    have h0 : n = 0 := by simpa using hn
    subst h0
    rw [VR] at hu
    rw [List.take_nil, VR]
    rcases hu with ⟨b, c, hg, _⟩ | ⟨_, _, _, rfl⟩ | ⟨_, h0, _⟩
    · rw [hs] at hg; cases hg
    · exact ⟨_, _, 0, 0, rfl, Nat.le_refl _, .inl rfl, by simp [LR]⟩
    · omega
  | some b =>
    obtain ⟨cur, hb, hl, hcap, hmax, h0, hlr⟩ := ho
    have hK : ∀ p x, K p x → (K p x ∨ x = b) := fun _ _ h => .inl h
    refine ⟨fun p x => K p x ∨ x = b, hK, main _ hK ?_, fun n hn u hu => ?_⟩
    · rintro p x (hx | rfl)
      · exact .inl hx
      · exact .inr ⟨c, hs⟩
    · exact VR.row_list (pre_get hpre hs) (LR.mono hpre hK (fun _ _ _ => rfl) b rfl els 0 sz hlr) hn (.inr rfl) (VR.mono hpre hK (fun _ _ _ => rfl) _ _ hu)
end Go.Pm
