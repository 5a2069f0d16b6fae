/- PmOd: results whose lists hold lists. -/
import Derived.Test.YtmcogjekcefjoaaGreatDoorPmO
namespace Go.Pm
open Go
def mapO (f : AV → Option AV) : List AV → Option (List AV)
  | [] => some []
  | x :: l => match f x, mapO f l with
    | some y, some ys => some (y :: ys)
    | _, _ => none
def mapOO (f : AV → Option AV) : List (List AV) → Option (List (List AV))
  | [] => some []
  | x :: l => match mapO f x, mapOO f l with
    | some y, some ys => some (y :: ys)
    | _, _ => none
def permD : Nat → Mem → AV → Option AV
  | 0, m, x => permR m x
  | d + 1, m, .row pos gen sz off len => match elsOf m sz (.row pos gen sz off len) with
    | some els => (mapOO (permD d m) els).map (.list true sz)
    | none => none
  | d + 1, m, .tuple vs => (mapO (permD d m) vs).map .tuple
  | d + 1, m, .agg vs => (mapO (permD d m) vs).map .agg
  | _ + 1, m, x => permR m x
section
variable {P : Prg} {imp : List FuncId} {σ : Sig} {K K' : Bool → Nat → Prop} {w : World}
theorem mapO_VRs {f : AV → Option AV} (hf : ∀ x y u, f x = some y → VR σ K w x u → y.perm = true ∧ VR [] K' w y u) : ∀ {xs ys : List AV} {us : List Value}, mapO f xs = some ys → VRs σ K w xs us → permL ys = true ∧ VRs [] K' w ys us
  | [], ys, us, h, hx => by simp only [mapO, Option.some.injEq] at h; subst h; rw [VRs] at hx ⊢; exact ⟨rfl, hx⟩
  | x :: xs, ys, us, h, hx => by
    unfold mapO at h
    split at h
    · rename_i y ys' h1 h2
      injection h with h; subst h
      obtain ⟨u, us', rfl, hV, hx⟩ := hx
      obtain ⟨a1, a2⟩ := hf x y u h1 hV
      obtain ⟨b1, b2⟩ := mapO_VRs hf h2 hx
      exact ⟨by rw [permL, a1, b1]; rfl, u, us', rfl, a2, b2⟩
    · cases h
theorem mapO_CR {f : AV → Option AV} {b : Nat} (hf : ∀ x y u, f x = some y → VR σ K w x u → y.perm = true ∧ VR [] K' w y u) : ∀ {xs ys : List AV} {o : Nat}, mapO f xs = some ys → CR σ K w b o xs → permL ys = true ∧ ys.length = xs.length ∧ CR [] K' w b o ys
  | [], ys, o, h, hx => by simp only [mapO, Option.some.injEq] at h; subst h; exact ⟨rfl, rfl, by simp [CR]⟩
  | x :: xs, ys, o, h, hx => by
    unfold mapO at h
    split at h
    · rename_i y ys' h1 h2
      injection h with h; subst h
      rw [CR] at hx
      obtain ⟨⟨u, hc, h0, hV⟩, hx⟩ := hx
      obtain ⟨a1, a2⟩ := hf x y u h1 hV
      obtain ⟨b1, b2, b3⟩ := mapO_CR hf h2 hx
      refine ⟨by rw [permL, a1, b1]; rfl, by simp [b2], ?_⟩
      rw [CR]
      exact ⟨⟨u, hc, h0, a2⟩, b3⟩
    · cases h
theorem mapOO_LR {f : AV → Option AV} {b : Nat} (hf : ∀ x y u, f x = some y → VR σ K w x u → y.perm = true ∧ VR [] K' w y u) : ∀ {xs ys : List (List AV)} {o sz : Nat}, mapOO f xs = some ys → LR σ K w b o sz xs → permLL ys = true ∧ ys.length = xs.length ∧ LR [] K' w b o sz ys
  | [], ys, o, sz, h, hx => by simp only [mapOO, Option.some.injEq] at h; subst h; exact ⟨rfl, rfl, by simp [LR]⟩
  | x :: xs, ys, o, sz, h, hx => by
    unfold mapOO at h
    split at h
    · rename_i y ys' h1 h2
      injection h with h; subst h
      rw [LR] at hx
      obtain ⟨hl, hc, hx⟩ := hx
      obtain ⟨a1, a2, a3⟩ := mapO_CR hf h1 hc
      obtain ⟨b1, b2, b3⟩ := mapOO_LR hf h2 hx
      refine ⟨by rw [permLL, a1, b1]; rfl, by simp [b2], ?_⟩
      rw [LR]
      exact ⟨a2.trans hl, a3, b3⟩
    · cases h
theorem mapOO_nil {f : AV → Option AV} {ys : List (List AV)} (h : mapOO f [] = some ys) : ys = [] := by simp only [mapOO, Option.some.injEq] at h; exact h.symm
theorem permD_sound {β : Base} {m : Mem} (hrel : Rel β K σ m w) : ∀ (d : Nat) (x y : AV) (u : Value), permD d m x = some y → VR σ K w x u → y.perm = true ∧ VR [] (fun p b => K p b ∨ Owned σ m b) w y u
  | 0, x, y, u, h, hx => permR_sound hrel h hx
  | d + 1, x, y, u, h, hx => by
    have ih := permD_sound hrel d
    cases x
    case row pos gen sz off len =>
      simp only [permD] at h
      split at h
      · rename_i els hels
        simp only [Option.map_eq_some_iff] at h
        obtain ⟨ys, hys, rfl⟩ := h
        have hx0 := hx
        obtain ⟨h1, ad, cap, he, hc⟩ := elsOf_sound hrel hx hels
        have hcap : ∃ cap', u = .slice ad els.length cap' ∧ els.length ≤ cap' ∧ ∀ b o, ad = some ⟨b, o, none⟩ → els ≠ [] → Owned σ m b := by
          simp only [elsOf, if_true] at hels
          split at hels
          · rename_i e sz'' els' hobj
            simp only [Option.ite_none_right_eq_some, Option.some.injEq] at hels
            obtain ⟨⟨_, hle⟩, rfl⟩ := hels
            have hlen : ((els'.drop off).take len).length = len := by simp; omega
            rw [VR] at hx0
            rcases hx0 with ⟨b, c, hg, hoc, hu⟩ | ⟨_, hl, _, hu⟩ | ⟨hl, _, _, a, c, hu⟩
            · refine ⟨cap, he, ?_, ?_⟩
              · rw [hu] at he; injection he with _ _ e3; rw [hlen]; omega
              · intro b' o' hb' _
                rw [hu] at he; injection he with e1
                rw [← e1] at hb'; injection hb' with hb'; injection hb' with hb'
                subst hb'
                exact ⟨pos, gen, _, c, Mem.obj_some hobj, hg⟩
            · subst hl; exact ⟨cap, he, by simp, fun b o _ hne => absurd (by simp) hne⟩
            · subst hl; exact ⟨cap, he, by simp, fun b o _ hne => absurd (by simp) hne⟩
          · cases hels
        obtain ⟨cap', he', hle, hlt⟩ := hcap
        rcases hc with rfl | ⟨b, o, ha, hcr⟩
        · obtain rfl := mapOO_nil hys
          refine ⟨rfl, ?_⟩
          rw [VR]
          exact ⟨ad, cap', 0, 0, he', hle, .inl rfl, by simp [LR]⟩
        · obtain ⟨a1, a2, a3⟩ := mapOO_LR (fun x y u h1 h2 => ih x y u h1 h2) hys (LR_flat.2 ⟨h1, hcr⟩)
          refine ⟨by rw [AV.perm, a1]; rfl, ?_⟩
          rw [VR]
          refine ⟨ad, cap', b, o, by rw [a2]; exact he', by rw [a2]; exact hle, ?_, a3⟩
          by_cases hne : ys = []
          · exact .inl hne
          · exact .inr ⟨ha, .inr (hlt b o ha fun hnil => hne (List.eq_nil_of_length_eq_zero (by rw [a2, hnil]; rfl)))⟩
      · cases h
    case tuple vs =>
      simp only [permD, Option.map_eq_some_iff] at h
      obtain ⟨ys, hys, rfl⟩ := h
      rw [VR] at hx
      obtain ⟨us, hu, hV⟩ := hx
      obtain ⟨a1, a2⟩ := mapO_VRs (fun x y u h1 h2 => ih x y u h1 h2) hys hV
      exact ⟨by rw [AV.perm]; exact a1, by rw [VR]; exact ⟨us, hu, a2⟩⟩
    case agg vs =>
      simp only [permD, Option.map_eq_some_iff] at h
      obtain ⟨ys, hys, rfl⟩ := h
      rw [VR] at hx
      obtain ⟨us, hu, hV⟩ := hx
      obtain ⟨a1, a2⟩ := mapO_VRs (fun x y u h1 h2 => ih x y u h1 h2) hys hV
      exact ⟨by rw [AV.perm]; exact a1, by rw [VR]; exact ⟨us, hu, a2⟩⟩
    all_goals exact permR_sound hrel h hx
def permOD (d : Nat) (m : Mem) : AOut → Option AOut
  | .ret v => (permD d m v).map .ret
  | .panic v => (permD d m v).map .panic
end
end Go.Pm
