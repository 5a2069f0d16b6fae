/- PmU: a map that nobody writes any more. -/
import Derived.Test.YtmcogjekcefjoaaGreatDoorPmT
namespace Go.Pm
open Go
theorem VR.map_kmap {σ : Sig} {K : Bool → Nat → Prop} {w : World} {pos g b c : Nat} {kv : List (AV × AV)} {s : ByteArray} {v : AV} {u : Value} (hg : σ[g]? = some (some b, c)) (ho : ObjR σ K w (.map kv) (some b, c)) (hf : findA (.str s) kv = some (some v)) (hK : K true b) (h : VR σ K w (.map pos g) u) : VR σ K w (.kmap s v) u := by
  rw [VR] at h
  obtain ⟨b', c', hg', rfl⟩ := h
  rw [hg] at hg'
  injection hg' with hg'; injection hg' with e1 e2; injection e1 with e1; subst e1; subst e2
  obtain ⟨es, clock, hb, hm, _⟩ := ho
  obtain ⟨r', h1, h2⟩ := find_sound (kk := .str) (d := .string) (x := .str s) (u := .string s) (σ := σ) (K := K) (w := w) rfl rfl (by rw [VR]) kv es.toList 0 _ hm hf
  rw [VR]
  cases r' with
  | none => exact h2.elim
  | some p =>
    obtain ⟨j, y⟩ := p
    exact ⟨_, rfl, hK, es, clock, hb, j, y, h1, h2⟩
theorem Rel.keepMap {β : Base} {K : Bool → Nat → Prop} {σ : Sig} {m : Mem} {w : World} (h : Rel β K σ m w) {pos g : Nat} {kv : List (AV × AV)} (hp : m.store[pos]? = some (g, .map kv)) :
    ∃ K', (∀ p b, K p b → K' p b) ∧ Rel β K' (σ ++ [(none, 0)]) (m.turn pos .hole) w ∧ ∀ s v, findA (.str s) kv = some (some v) → ∀ u, VR σ K w (.map pos g) u → VR (σ ++ [(none, 0)]) K' w (.kmap s v) u := by
  have hpre : σ <+: σ ++ [(none, 0)] := List.prefix_append _ _
  have hlt := (List.getElem?_eq_some_iff.1 hp).1
  obtain ⟨s, hs, ho⟩ := h.objs pos g _ hp
  have hnext : (σ ++ [(none, 0)])[m.next]? = some (none, 0) := by rw [← h.next]; simp
  have back : ∀ (pos' g' : Nat) (o' : AObj), (m.turn pos .hole).store[pos']? = some (g', o') → (pos' = pos ∧ g' = m.next ∧ o' = .hole) ∨ (pos' ≠ pos ∧ m.store[pos']? = some (g', o')) := by
    intro pos' g' o' h'
    simp only [Mem.turn] at h'
    by_cases e1 : pos = pos'
    · subst e1
      rw [List.getElem?_set_self hlt] at h'
      injection h' with h'; injection h' with e2 e3
      exact .inl ⟨rfl, e2.symm, e3.symm⟩
    · rw [List.getElem?_set_ne e1] at h'
      exact .inr ⟨fun e2 => e1 e2.symm, h'⟩
  have gold : ∀ (pos' g' : Nat) (o' : AObj), m.store[pos']? = some (g', o') → (σ ++ [(none, 0)])[g']? = σ[g']? := by
    intro pos' g' o' h'
    obtain ⟨s', hs', _⟩ := h.objs pos' g' o' h'
    rw [hs', pre_get hpre hs']
  have main : ∀ K' : Bool → Nat → Prop, (∀ p b, K p b → K' p b) → (∀ p x, K' p x → K p x ∨ (∃ c, σ[g]? = some (some x, c))) → Rel β K' (σ ++ [(none, 0)]) (m.turn pos .hole) w := by
    intro K' hK hK'
    have hown : ∀ b, Owned (σ ++ [(none, 0)]) (m.turn pos .hole) b → Owned σ m b ∧ ∀ c, σ[g]? ≠ some (some b, c) := by
      rintro b ⟨pos', g', o', c', h1, h2⟩
      rcases back _ _ _ h1 with ⟨rfl, rfl, rfl⟩ | ⟨hne, h1⟩
      · rw [hnext] at h2; cases h2
      · rw [gold _ _ _ h1] at h2
        exact ⟨⟨pos', g', o', c', h1, h2⟩, fun c hc => hne (h.inj _ _ _ _ _ _ _ _ _ h1 hp h2 hc)⟩
    refine ⟨by simp [Mem.turn, h.next], ?_, ?_, ?_, ?_, fun p b hb => hK p b (h.kept0 p b hb), h.sig.trans hpre, h.size, h.frame, h.os, h.tape, h.output, h.nd, ?_, ?_⟩
    · intro pos' g' o' h1
      rcases back _ _ _ h1 with ⟨rfl, rfl, rfl⟩ | ⟨_, h1⟩
      · exact ⟨_, hnext, trivial⟩
      · obtain ⟨s', hs', ho'⟩ := h.objs _ _ _ h1
        exact ⟨s', pre_get hpre hs', ho'.mono hpre hK (fun _ _ _ => rfl) fun _ _ _ => rfl⟩
    · intro pos' pos'' g' g'' o' o'' b c c' h1 h2 h3 h4
      rcases back _ _ _ h1 with ⟨rfl, rfl, rfl⟩ | ⟨_, h1⟩
      · rw [hnext] at h3; cases h3
      · rcases back _ _ _ h2 with ⟨rfl, rfl, rfl⟩ | ⟨_, h2⟩
        · rw [hnext] at h4; cases h4
        · rw [gold _ _ _ h1] at h3
          rw [gold _ _ _ h2] at h4
          exact h.inj _ _ _ _ _ _ _ _ _ h1 h2 h3 h4
    · intro b hb
      obtain ⟨h1, h2⟩ := hown b hb
      obtain ⟨i1, i2, i3⟩ := h.own b h1
      exact ⟨i1, i2, fun p hk => (hK' p b hk).elim (i3 p) fun ⟨c, hc⟩ => h2 c hc⟩
    · intro p b hb
      rcases hK' p b hb with hb | ⟨c, hc⟩
      · exact h.kept p b hb
      · obtain ⟨i1, i2, _⟩ := h.own b ⟨pos, g, _, c, hp, hc⟩
        exact ⟨.inr i1, i2⟩
    · intro D hD
      obtain ⟨i1, i2, i3, i4, i5⟩ := h.frz D hD
      refine ⟨i1, i2, fun ho' => i3 (hown D ho').1, fun p hk => ?_, i5⟩
      rcases hK' p D hk with hk | ⟨c, hc⟩
      · exact i4 p hk
      · exact i3 ⟨pos, g, _, c, hp, hc⟩
    · exact ⟨h.gl.1, fun b hb => ⟨(h.gl.2 b hb).1, fun ho' => (h.gl.2 b hb).2 (hown b ho').1⟩⟩
  obtain ⟨ob, c⟩ := s
  cases ob with
  | none => exact ho.elim
  | some b =>
    have hK : ∀ p x, K p x → (K p x ∨ x = b) := fun _ _ h => .inl h
    have ho' := ho
    obtain ⟨es, clock, hb, hm, hbo⟩ := ho
    refine ⟨fun p x => K p x ∨ x = b, hK, main _ hK ?_, fun s v hf u hu => ?_⟩
    · rintro p x (hx | rfl)
      · exact .inl hx
      · exact .inr ⟨c, hs⟩
    · exact VR.map_kmap (pre_get hpre hs) ⟨es, clock, hb, MR.mono hpre hK (fun _ _ _ => rfl) _ _ hm, hbo⟩ hf (.inr rfl) (VR.mono hpre hK (fun _ _ _ => rfl) _ _ hu)
theorem ACalls.keepMap {P : Prg} {f : FuncId} {xs : List AV} {m : Mem} {s : ByteArray} {v : AV} {R : AOut → Mem → Prop} (h : ACalls P f xs m fun out m' => ∃ pos g kv, out = .ret (.map pos g) ∧ m'.store[pos]? = some (g, .map kv) ∧ findA (.str s) kv = some (some v) ∧ R (.ret (.kmap s v)) (m'.turn pos .hole)) : ACalls P f xs m R := by
  refine ⟨h.1, fun β K σ w vals hrel hv hβ => (h.2 β K σ w vals hrel hv hβ).mono ?_⟩
  rintro e w' ⟨K', σ', m', out, ⟨pos, g, kv, rfl, h1, h2, h3⟩, hr, hp, hK, hs, ho⟩
  obtain ⟨K2, k1, k2, k3⟩ := hr.keepMap h1
  obtain ⟨u, hu, hV⟩ := ho
  exact ⟨K2, _, _, _, h3, k2, hp.trans (List.prefix_append _ _), fun p b hb => k1 p b (hK p b hb), hs, u, hu, k3 s v h2 u hV⟩
end Go.Pm
