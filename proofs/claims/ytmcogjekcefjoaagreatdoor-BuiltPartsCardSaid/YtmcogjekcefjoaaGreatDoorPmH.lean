/- PmH: plain operations, continued: slices, maps, struct literals. -/
import Derived.Test.YtmcogjekcefjoaaGreatDoorPmG
namespace Go.Pm
open Go
section
variable {P : Program} {β : Base} {σ : Sig} {K : Bool → Nat → Prop} {w w' : World} {m m' : Mem} {v : AV} {ρ : Operand → Value}
theorem run_bounds {isS : Bool} {lo hi : Option Operand} {n cap : Nat} {rest : List AV} {l h : Int} (hr : VRs σ K w rest ((lo.toList ++ hi.toList).map ρ)) (hb : boundsA lo.isSome hi.isSome n rest = some (l, h))
    (h0 : 0 ≤ l) (h1 : l ≤ h) (h2 : h ≤ n) (hc : n ≤ cap) : (Instr.sliceBounds isS n cap (lo.map ρ) (hi.map ρ) none).run P w = .ok (l.toNat, h.toNat, cap) w := by
  cases lo with
  | none =>
    cases hi with
    | none =>
      simp only [Option.toList, List.append_nil, List.map_nil] at hr
      have hnil : rest = [] := List.eq_nil_of_length_eq_zero (by simpa using (VRs_length hr).symm)
      subst hnil
      simp [boundsA] at hb
      obtain ⟨rfl, rfl⟩ := hb
      simp [Instr.sliceBounds]
    | some y =>
      simp only [Option.toList, List.nil_append, List.map_cons, List.map_nil] at hr
      match rest, hr with
      | [x], hr =>
        obtain ⟨u, he, hV⟩ := VRs1 hr
        injection he with he _
        cases x <;> simp [boundsA] at hb
        rename_i k n1
        obtain ⟨rfl, rfl⟩ := hb
        rw [VR] at hV
        have e1 : ρ y = .int k n1 := he.trans hV
        have e2 : n1 ≤ (cap : Int) := by omega
        simp [Instr.sliceBounds, Instr.sliceBound, e1, asIntOf, h1, e2]
      | [], hr => exact absurd (VRs_length hr) (by simp)
      | _ :: _ :: _, hr => exact absurd (VRs_length hr) (by simp)
  | some z =>
    cases hi with
    | none =>
      simp only [Option.toList, List.append_nil, List.map_cons, List.map_nil] at hr
      match rest, hr with
      | [x], hr =>
        obtain ⟨u, he, hV⟩ := VRs1 hr
        injection he with he _
        cases x <;> simp [boundsA] at hb
        obtain ⟨rfl, rfl⟩ := hb
        rw [VR] at hV
        have : ρ z = .int _ _ := he.trans hV
        simp [Instr.sliceBounds, Instr.sliceBound, this, asIntOf, h0, h1]
      | [], hr => exact absurd (VRs_length hr) (by simp)
      | _ :: _ :: _, hr => exact absurd (VRs_length hr) (by simp)
    | some y =>
      simp only [Option.toList, List.singleton_append, List.map_cons, List.map_nil] at hr
      match rest, hr with
      | [x, x'], hr =>
        obtain ⟨u, u', he, hV, hV'⟩ := VRs2 hr
        injection he with he he'
        injection he' with he' _
        cases x <;> cases x' <;> simp [boundsA] at hb
        obtain ⟨rfl, rfl⟩ := hb
        rw [VR] at hV hV'
        have e1 : ρ z = .int _ _ := he.trans hV
        have e2 : ρ y = .int _ _ := he'.trans hV'
        have e4 := Int.le_trans h0 h1
        simp only [Instr.sliceBounds, Instr.sliceBound, e1, e2, asIntOf, Option.map_some, Sem.run_bind, Sem.run_pure, Result.andThen_ok]
        rw [if_pos ⟨e4, by omega⟩]
        simp only [Sem.run_pure, Result.andThen_ok, Option.isSome_none, Bool.false_eq_true, if_false]
        rw [if_pos ⟨h0, by omega⟩]
        rfl
      | [], hr => exact absurd (VRs_length hr) (by simp)
      | [_], hr => exact absurd (VRs_length hr) (by simp)
      | _ :: _ :: _ :: _, hr => exact absurd (VRs_length hr) (by simp)
theorem sliceStr_sound (hrel : Rel β K σ m w) {t : TypeId} {a : Operand} {lo hi : Option Operand} {xs : List AV} {o : Oper} (ho : o.op = .slice t a lo hi none) (hu : P.underlying t = some .string)
    (hx : VRs σ K w xs ((a :: (lo.toList ++ hi.toList)).map ρ)) (h : sliceA lo.isSome hi.isSome 0 xs = some v) : Done β K σ w m v ((execOp ρ o).run P w) := by
  cases xs with
  | nil => exact absurd (VRs_length hx) (by simp)
  | cons x rest =>
    obtain ⟨u, us, he, hV, hr⟩ := hx
    simp only [List.map_cons, List.cons.injEq] at he
    obtain ⟨he, rfl⟩ := he
    subst he
    cases x <;> simp [sliceA] at h
    rename_i s
    split at h
    · rename_i l h' hb
      simp only [Option.ite_none_right_eq_some, Option.some.injEq] at h
      obtain ⟨⟨h0, h1, h2⟩, rfl⟩ := h
      rw [VR] at hV
      have hrb := run_bounds (P := P) (isS := false) hr hb h0 h1 h2 (Nat.le_refl _)
      have : (execOp ρ o).run P w = .ok (.value (.string (s.extract l.toNat h'.toNat))) w := by
        simp [execOp, ho, Instr.sliceAt, run_underlying hu, Instr.slice, hV, hrb]
      rw [this]; exact .pure hrel (by rw [VR])
    · cases h
theorem LR_part {b o sz : Nat} {els : List (List AV)} (h : LR σ K w b o sz els) (d n : Nat) : LR σ K w b (o + d * sz) sz ((els.drop d).take n) := by
  refine LR_iff.2 fun i c hi => ?_
  rw [List.getElem?_take] at hi
  split at hi
  · rw [List.getElem?_drop] at hi
    have := LR_iff.1 h (d + i) c hi
    rwa [Nat.add_mul, ← Nat.add_assoc] at this
  · cases hi
theorem slice_sound (hrel : Rel β K σ m w) {t e : TypeId} {i : TypeInfo} {a : Operand} {lo hi : Option Operand} {xs : List AV} {o : Oper} (ho : o.op = .slice t a lo hi none) (hu : P.underlying t = some (.slice e)) (hi' : P.info? e = some i) (hpos : 0 < i.size)
    (hx : VRs σ K w xs ((a :: (lo.toList ++ hi.toList)).map ρ)) (h : sliceA lo.isSome hi.isSome i.size xs = some v) : Done β K σ w m v ((execOp ρ o).run P w) := by
  cases xs with
  | nil => exact absurd (VRs_length hx) (by simp)
  | cons x rest =>
    obtain ⟨u, us, he, hV, hr⟩ := hx
    simp only [List.map_cons, List.cons.injEq] at he
    obtain ⟨he, rfl⟩ := he
    subst he
    have hne : i.size ≠ 0 := by omega
    have key : ∀ (ad : Option Addr) (n cap : Nat) (l h : Int), ρ a = .slice ad n cap → boundsA lo.isSome hi.isSome n rest = some (l, h) → 0 ≤ l → l ≤ h → h ≤ n → n ≤ cap →
        (execOp ρ o).run P w = .ok (.value (.slice (if cap = l.toNat then ad else ad.map (·.add (l.toNat * i.size))) (h.toNat - l.toNat) (cap - l.toNat))) w := by
      intro ad n cap l h he hb h0 h1 h2 hc
      have hrb := run_bounds (P := P) (isS := true) hr hb h0 h1 h2 hc
      simp [execOp, ho, Instr.sliceAt, run_underlying hu, Instr.slice, he, hrb, run_sizeOf' hi']
    cases x <;> simp only [sliceA, hne, if_false, false_or, reduceCtorEq, ite_not] at h
    case nilS =>
      split at h
      · rename_i l h' hb
        simp only [Option.ite_none_right_eq_some, Option.some.injEq] at h
        obtain ⟨⟨h0, h1, h2⟩, rfl⟩ := h
        rw [VR] at hV
        rw [key none 0 0 l h' hV hb h0 h1 h2 (Nat.le_refl _)]
        refine .pure hrel ?_
        rw [VR]
        have e1 : l.toNat = 0 := by omega
        have e2 : h'.toNat = 0 := by omega
        simp [e1, e2]
      · cases h
    case list p sz' els =>
      split at h
      case isFalse => cases h
      rename_i hsz; subst hsz
      split at h
      · rename_i l h' hb
        simp only [Option.ite_none_right_eq_some, Option.some.injEq] at h
        obtain ⟨⟨h0, h1, h2⟩, rfl⟩ := h
        rw [VR] at hV
        obtain ⟨ad, cap, b, of, he, hc, hk, hl⟩ := hV
        rw [key ad els.length cap l h' he hb h0 h1 h2 hc]
        refine .pure hrel ?_
        rw [VR]
        have hlen : ((els.drop l.toNat).take (h'.toNat - l.toNat)).length = h'.toNat - l.toNat := by simp; omega
        refine ⟨_, _, b, of + l.toNat * i.size, by rw [hlen], by omega, ?_, LR_part hl _ _⟩
        by_cases hem : (els.drop l.toNat).take (h'.toNat - l.toNat) = []
        · exact .inl hem
        · right
          have hpos' : 0 < h'.toNat - l.toNat := by
            rw [← hlen]; exact List.length_pos_iff.2 hem
          rcases hk with rfl | ⟨rfl, hk⟩
          · exact absurd (by simp) hem
          · rw [if_neg (by omega)]
            exact ⟨by rw [Option.map_some, Addr.add_lit], hk⟩
      · cases h
    case row pos gen sz' off n =>
      split at h
      case isFalse => cases h
      rename_i hsz; subst hsz
      split at h
      · rename_i l h' hb
        simp only [Option.ite_none_right_eq_some, Option.some.injEq] at h
        obtain ⟨⟨h0, h1, h2⟩, rfl⟩ := h
        rw [VR] at hV
        rcases hV with ⟨b, c, hg, hle, he⟩ | ⟨hg, hn, hoff, he⟩ | ⟨hn, hoff, hgs, ad, c, he⟩
        · rw [key _ n (c - off) l h' he hb h0 h1 h2 (by omega)]
          refine .pure hrel ?_
          rw [VR]
          by_cases hl0 : l.toNat = 0
          · left
            refine ⟨b, c, hg, by omega, ?_⟩
            rw [hl0, Nat.zero_mul, Nat.add_zero, Nat.sub_zero, Nat.sub_zero]
            split <;> simp [Addr.add_zero']
          · by_cases hcl : c - off = l.toNat
            · right; right
              rw [if_pos hcl]
              exact ⟨by omega, by omega, ⟨_, hg⟩, _, _, by rw [show h'.toNat - l.toNat = 0 by omega]⟩
            · left
              rw [if_neg hcl, Option.map_some, Addr.add_lit]
              exact ⟨b, c, hg, by omega, by rw [Nat.add_mul, Nat.sub_sub]⟩
        · subst hn; subst hoff
          have e1 : l.toNat = 0 := by omega
          have e2 : h'.toNat = 0 := by omega
          rw [key _ 0 0 l h' he hb h0 h1 h2 (Nat.le_refl _)]
          refine .pure hrel ?_
          rw [VR, e1, e2]
          right; left
          exact ⟨hg, rfl, rfl, by simp⟩
        · subst hn
          have e1 : l.toNat = 0 := by omega
          have e2 : h'.toNat = 0 := by omega
          rw [key _ 0 c l h' he hb h0 h1 h2 (Nat.zero_le _)]
          refine .pure hrel ?_
          rw [VR, e1, e2]
          right; right
          exact ⟨rfl, by omega, hgs, _, _, rfl⟩
      · cases h
theorem run_places {P : Program} (w : World) : ∀ (fs : List Field), (∀ f ∈ fs, (P.info? f.type).isSome = true) →
    (fs.mapM (m := Sem) fun f => do pure (f.offset, ← sizeOf f.type)).run P w = .ok (fs.map fun f => (f.offset, P.cellsOf f.type)) w
  | [], _ => by simp
  | f :: fs, h => by
    obtain ⟨i, hi⟩ := Option.isSome_iff_exists.1 (h f (by simp))
    have ih := run_places w fs (fun g hg => h g (by simp [hg]))
    simp only [List.mapM_cons, Sem.run_bind, run_sizeOf' hi, Result.andThen_ok, Sem.run_pure, ih, List.map_cons, cellsOf_eq hi]
theorem fill_sound {place : Nat → Option (Nat × Nat)} : ∀ (parts : List (Nat × Value)) (offs : List (Nat × Nat)) (xs cs cs' : List AV) (us : Array Value), parts.map (fun p => place p.1) = offs.map some →
    VRs σ K w xs (parts.map (·.2)) → VRs σ K w cs us.toList → fillA cs offs xs = some cs' → ∃ us', Instr.fill place us parts = some us' ∧ VRs σ K w cs' us'.toList
  | [], offs, xs, cs, cs', us, h1, h2, h3, h => by
    cases offs with
    | nil =>
      have hnil : xs = [] := List.eq_nil_of_length_eq_zero (by simpa using (VRs_length h2).symm)
      subst hnil
      simp only [fillA, Option.some.injEq] at h; subst h
      exact ⟨us, rfl, h3⟩
    | cons => simp at h1
  | (i, u) :: parts, offs, xs, cs, cs', us, h1, h2, h3, h => by
    cases offs with
    | nil => simp at h1
    | cons p offs =>
      obtain ⟨off, sz⟩ := p
      simp only [List.map_cons, List.cons.injEq] at h1
      cases xs with
      | nil => exact absurd (VRs_length h2) (by simp)
      | cons x xs =>
        obtain ⟨u', us2, he, hV, h2⟩ := h2
        simp only [List.map_cons, List.cons.injEq] at he
        obtain ⟨rfl, rfl⟩ := he
        simp only [fillA] at h
        split at h
        · rename_i hc
          have hVc := hV.cells hc.2.2
          have hl := VRs_length hVc
          have hl3 := VRs_length h3
          simp only [Array.length_toList] at hl hl3
          simp only [Instr.fill, h1.1]
          rw [if_neg (by simp; omega)]
          refine fill_sound parts offs xs _ cs' _ h1.2 h2 ?_ h
          have hset : ∀ (l : List Value) (j : Nat) (acc : Array Value), off + j + l.length ≤ acc.size →
              ((l.zipIdx j).foldl (fun cs (c : Value × Nat) => cs.setIfInBounds (off + c.2) c.1) acc).toList = acc.toList.take (off + j) ++ l ++ acc.toList.drop (off + j + l.length) := by
            intro l
            induction l with
            | nil => intro j acc _; simp
            | cons c l ih =>
              intro j acc hle
              simp only [List.length_cons] at hle
              simp only [List.zipIdx_cons, List.foldl_cons]
              rw [ih (j + 1) _ (by simp; omega)]
              simp only [Array.toList_setIfInBounds, List.length_cons]
              apply List.ext_getElem?
              intro k
              rw [show off + (j + 1) = off + j + 1 by omega, show off + j + (l.length + 1) = off + j + 1 + l.length by omega]
              rw [over_get _ _ _ _ (by simp; omega)]
              have := over_get acc.toList (c :: l) (off + j) k (by simp; omega)
              simp only [List.length_cons, show off + j + (l.length + 1) = off + j + 1 + l.length by omega] at this
              rw [this, List.getElem?_set]
              by_cases hk : k = off + j
              · subst hk
                rw [if_neg (by omega), if_pos rfl, if_pos (by simp; omega), if_pos ⟨Nat.le_refl _, by omega⟩]
                simp
              · rw [if_neg (show ¬ off + j = k by omega)]
                by_cases hk2 : off + j + 1 ≤ k ∧ k < off + j + 1 + l.length
                · rw [if_pos hk2, if_pos ⟨by omega, by omega⟩, show k - (off + j) = (k - (off + j + 1)) + 1 by omega, List.getElem?_cons_succ]
                · rw [if_neg hk2, if_neg (by omega)]
          have hz : (Array.foldl (fun cs (x : Value × Nat) => cs.setIfInBounds (off + x.2) x.1) us u.cells.zipIdx).toList = us.toList.take off ++ u.cells.toList ++ us.toList.drop (off + u.cells.toList.length) := by
            rw [← Array.foldl_toList, Array.toList_zipIdx]
            simpa using hset u.cells.toList 0 us (by simp; omega)
          have goal : VRs σ K w (cs.take off ++ x.cells ++ cs.drop (off + sz)) (us.toList.take off ++ u.cells.toList ++ us.toList.drop (off + u.cells.toList.length)) := by
            have e : off + u.cells.toList.length = off + sz := by simp; omega
            rw [e]
            refine VRs_append (VRs_append ?_ hVc) ?_
            · simpa using VRs_part h3 0 off
            · have := VRs_part h3 (off + sz) (cs.length - (off + sz))
              rwa [List.take_of_length_le (by simp), List.take_of_length_le (by simp; omega)] at this
          rw [← hz] at goal
          exact goal
        · cases h
end
end Go.Pm
