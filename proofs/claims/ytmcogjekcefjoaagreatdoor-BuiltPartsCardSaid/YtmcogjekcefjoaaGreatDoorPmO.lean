/- PmO: functions that leave memory alone. -/
import Derived.Test.YtmcogjekcefjoaaGreatDoorPmN
namespace Go.Pm
open Go
section
variable {P : Prg} {imp : List FuncId} {σ σ' : Sig} {K K' : Bool → Nat → Prop} {w : World}
theorem permA_sound {β : Base} {m : Mem} (hrel : Rel β K σ m w) {x y : AV} {u : Value} (h : permA m x = some y) (hx : VR σ K w x u) : y.perm = true ∧ VR [] (fun p b => K p b ∨ Owned σ m b) w y u := by
  have hK : ∀ b, K true b → (K true b ∨ Owned σ m b) := fun b hb => .inl hb
  cases x <;> simp only [permA, Option.ite_none_right_eq_some, Option.some.injEq] at h
  case row pos gen sz off len =>
    split at h
    · rename_i els hels
      simp only [Option.ite_none_right_eq_some, Option.some.injEq] at h
      obtain ⟨hn, rfl⟩ := h
      refine ⟨by rw [AV.perm, hn]; rfl, ?_⟩
      have hx0 := hx
      obtain ⟨h1, ad, cap, he, hc⟩ := elsOf_sound hrel hx hels
      have hcap : ∃ cap', u = .slice ad els.length cap' ∧ els.length ≤ cap' ∧ ∀ b o, ad = some ⟨b, o, none⟩ → els ≠ [] → Owned σ m b := by
        simp only [elsOf, if_true] at hels
        split at hels
        · rename_i e sz'' els' hobj
          simp only [Option.ite_none_right_eq_some, Option.some.injEq] at hels
          obtain ⟨⟨_, hle⟩, rfl⟩ := hels
          have hlen : ((els'.drop off).take len).length = len := by simp; omega
          rw [VR] at hx0
          rcases hx0 with ⟨b, c, hg, hoc, hu⟩ | ⟨_, hl, _, hu⟩ | ⟨hl, _, _, a, c, hu⟩
          · refine ⟨cap, he, ?_, ?_⟩
            · rw [hu] at he; injection he with _ _ e3; rw [hlen]; omega
            · intro b' o' hb' _
              rw [hu] at he; injection he with e1
              rw [← e1] at hb'; injection hb' with hb'; injection hb' with hb'
              subst hb'
              exact ⟨pos, gen, _, c, Mem.obj_some hobj, hg⟩
          · subst hl; exact ⟨cap, he, by simp, fun b o _ hne => absurd (by simp) hne⟩
          · subst hl; exact ⟨cap, he, by simp, fun b o _ hne => absurd (by simp) hne⟩
        · cases hels
      obtain ⟨cap', he', hle, hlt⟩ := hcap
      rw [VR]
      rcases hc with rfl | ⟨b, o, ha, hcr⟩
      · exact ⟨ad, cap', 0, 0, he', hle, .inl rfl, by simp [LR]⟩
      · refine ⟨ad, cap', b, o, he', hle, ?_, LR.of_perm hK b els o sz hn (LR_flat.2 ⟨h1, hcr⟩)⟩
        by_cases hne : els = []
        · exact .inl hne
        · exact .inr ⟨ha, .inr (hlt b o ha hne)⟩
    · cases h
  all_goals (obtain ⟨hn, rfl⟩ := h; exact ⟨hn, VR.of_perm hK _ _ hn hx⟩)
theorem permAs_sound {β : Base} {m : Mem} (hrel : Rel β K σ m w) : ∀ {xs ys : List AV} {us : List Value}, permAs m xs = some ys → VRs σ K w xs us → permL ys = true ∧ VRs [] (fun p b => K p b ∨ Owned σ m b) w ys us
  | [], ys, us, h, hx => by simp only [permAs, Option.some.injEq] at h; subst h; rw [VRs] at hx ⊢; exact ⟨rfl, hx⟩
  | x :: xs, ys, us, h, hx => by
    unfold permAs at h
    split at h
    · rename_i y ys' h1 h2
      injection h with h; subst h
      obtain ⟨u, us', rfl, hV, hx⟩ := hx
      obtain ⟨a1, a2⟩ := permA_sound hrel h1 hV
      obtain ⟨b1, b2⟩ := permAs_sound hrel h2 hx
      exact ⟨by rw [permL, a1, b1]; rfl, u, us', rfl, a2, b2⟩
    · cases h
theorem permR_sound {β : Base} {m : Mem} (hrel : Rel β K σ m w) {x y : AV} {u : Value} (h : permR m x = some y) (hx : VR σ K w x u) : y.perm = true ∧ VR [] (fun p b => K p b ∨ Owned σ m b) w y u := by
  unfold permR at h
  split at h
  · simp only [Option.map_eq_some_iff] at h
    obtain ⟨ys, h1, rfl⟩ := h
    rw [VR] at hx
    obtain ⟨us, hu, hV⟩ := hx
    obtain ⟨a1, a2⟩ := permAs_sound hrel h1 hV
    exact ⟨by rw [AV.perm]; exact a1, by rw [VR]; exact ⟨us, hu, a2⟩⟩
  · simp only [Option.map_eq_some_iff] at h
    obtain ⟨ys, h1, rfl⟩ := h
    rw [VR] at hx
    obtain ⟨us, hu, hV⟩ := hx
    obtain ⟨a1, a2⟩ := permAs_sound hrel h1 hV
    exact ⟨by rw [AV.perm]; exact a1, by rw [VR]; exact ⟨us, hu, a2⟩⟩
  · exact permA_sound hrel h hx
theorem pcalls_of_wp {f : FuncId} {fn : Func} {c : Code} {sc : SC} {rs : List Res} {xs : List AV} {R : AOut → Prop} (hf : P.funcs[f]? = some fn) (hb : fn.body = some c) (hn : (fn.name == "runtime.NumGoroutine") = false)
    (hc : compCode P imp fn.ntmps c = some sc.strip) (hr : compRes P fn.results.toList = some rs) (hlen : xs.length ≤ fn.ntmps)
    (h : wp P imp sc (endPost rs fun out m => ∃ out', permO m out = some out' ∧ R out') (Env.ofArgs 0 xs) Mem.empty) : PCalls P f xs R := by
  have hac := acalls_of_wp hf hb hn hc hr hlen h
  refine ⟨hac.1, fun K w vals hK hv hl => ?_⟩
  have hrel : Rel ⟨w, fun _ => False, K, [], [], [], P.ok, P.blocks, P.stable⟩ K [] Mem.empty w := by
    refine ⟨rfl, ?_, ?_, ?_, fun p b hb => ⟨.inl hb, hK p b hb⟩, fun _ _ h => h, List.prefix_refl _, Nat.le_refl _, fun _ _ _ => rfl, rfl, rfl, rfl, List.nodup_nil, (fun _ h => by cases h), hl.1, fun b hb => ⟨hl.2 b hb, ?_⟩⟩
    · intro pos g o h; simp [Mem.empty] at h
    · intro pos pos' g g' o o' b c c' h; simp [Mem.empty] at h
    · rintro b ⟨pos, g, o, c, h, _⟩; simp [Mem.empty] at h
    · rintro ⟨pos, g, o, c, h, _⟩; simp [Mem.empty] at h
  refine (hac.2 _ K [] w vals hrel hv ⟨rfl, rfl⟩).mono ?_
  rintro e w' ⟨K', σ', m', out, ⟨out', hp, hR⟩, hrel', h1, h2, h3, hout⟩
  have hg := grownBy_of (β := ⟨w, fun _ => False, K, [], [], [], P.ok, P.blocks, P.stable⟩) rfl (fun _ h => h) hrel'
  have hbound : ∀ p b, (K' p b ∨ Owned σ' m' b) → K p b ∨ w.heap.size ≤ b ∧ b < w'.heap.size := by
    rintro p b (hb | hb)
    · obtain ⟨h4, h5⟩ := hrel'.kept p b hb
      rcases h4 with h4 | h4 | h4
      · exact .inl h4
      · exact h4.elim
      · exact .inr ⟨h4, h5⟩
    · obtain ⟨h4, h5, _⟩ := hrel'.own b hb
      rcases h4 with h4 | h4
      · exact h4.elim
      · exact .inr ⟨h4, h5⟩
  cases out with
  | ret v =>
    simp only [permO, Option.map_eq_some_iff] at hp
    obtain ⟨v', hp, rfl⟩ := hp
    obtain ⟨u, he, hV⟩ := hout
    obtain ⟨a1, a2⟩ := permR_sound hrel' hp hV
    exact ⟨fun p b => K' p b ∨ Owned σ' m' b, .ret v', hR, a1, hg, fun p b hb => .inl (h2 p b hb), hbound, u, he, a2⟩
  | panic v =>
    simp only [permO, Option.map_eq_some_iff] at hp
    obtain ⟨v', hp, rfl⟩ := hp
    obtain ⟨u, he, hV⟩ := hout
    obtain ⟨a1, a2⟩ := permR_sound hrel' hp hV
    exact ⟨fun p b => K' p b ∨ Owned σ' m' b, .panic v', hR, a1, hg, fun p b hb => .inl (h2 p b hb), hbound, u, he, a2⟩
end
end Go.Pm
