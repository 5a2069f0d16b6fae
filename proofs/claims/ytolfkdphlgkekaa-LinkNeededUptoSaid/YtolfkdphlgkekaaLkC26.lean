/- LkC26: contracts: copies of what is given. -/
import Derived.Test.YtolfkdphlgkekaaLkS9
import Derived.Test.YtolfkdphlgkekaaMb
namespace Go.Pm
open Go Go.Proofs
attribute [-simp] List.getElem?_map

theorem call13 (x : Img) (hx : x.Small) : PCalls Try.prog 13 [.agg x.av] fun out => out = .ret (.agg x.av) := by
  refine ok13.pcallsD 1 (by simp) ?_
  have h1 := hx.defs
  have h2 := hx.lines
  have h3 := hx.names
  have b1 : x.defs.length * 24 ≤ 140737488355328 ∧ x.defs.length ≤ 9223372036854775807 := ⟨by omega, by omega⟩
  have b2 : x.lines.length * 16 ≤ 140737488355328 ∧ x.lines.length ≤ 9223372036854775807 := ⟨by omega, by omega⟩
  have b3 : x.names.length * 24 ≤ 140737488355328 ∧ x.names.length ≤ 9223372036854775807 := ⟨by omega, by omega⟩
  simp [c13, Img.av, appendA, b1, b2, b3, cr13, permD, mapO]

def rowsOf : Nat → List Deck → List (Nat × AObj)
  | _, [] => []
  | g, o :: l => (g, .row 40 2 (o.defs.map DDef.av)) :: (g + 1, .row 107 3 (o.refs.map DRef.av)) :: (g + 2, .row 102 2 (o.lines.map DLine.av)) :: rowsOf (g + 3) l
def givenC (g : Nat) (o : Deck) : List AV := [.str o.name, .str o.code, .row g g 2 0 o.defs.length, .row (g + 1) (g + 1) 3 0 o.refs.length, .row (g + 2) (g + 2) 2 0 o.lines.length]
def givenCells : Nat → List Deck → List (List AV)
  | _, [] => []
  | g, o :: l => givenC g o :: givenCells (g + 3) l
theorem rowsOf_len : ∀ (l : List Deck) (g : Nat), (rowsOf g l).length = 3 * l.length
  | [], _ => rfl
  | o :: l, g => by simp [rowsOf, rowsOf_len l]; omega
theorem rowsOf_snoc : ∀ (l : List Deck) (g : Nat) (o : Deck), rowsOf g (l ++ [o]) = rowsOf g l ++ [(g + 3 * l.length, .row 40 2 (o.defs.map DDef.av)), (g + 3 * l.length + 1, .row 107 3 (o.refs.map DRef.av)), (g + 3 * l.length + 2, .row 102 2 (o.lines.map DLine.av))]
  | [], g, o => by simp [rowsOf]
  | x :: l, g, o => by
    have ih := rowsOf_snoc l (g + 3) o
    simp only [List.cons_append, rowsOf, ih, List.length_cons]
    rw [show g + 3 + 3 * l.length = g + 3 * (l.length + 1) by omega]
theorem givenCells_snoc : ∀ (l : List Deck) (g : Nat) (o : Deck), givenCells g (l ++ [o]) = givenCells g l ++ [givenC (g + 3 * l.length) o]
  | [], g, o => by simp [givenCells]
  | x :: l, g, o => by
    simp only [List.cons_append, givenCells, givenCells_snoc l (g + 3) o, List.length_cons]
    rw [show g + 3 + 3 * l.length = g + 3 * (l.length + 1) by omega]
theorem givenCells_len : ∀ (l : List Deck) (g : Nat), (givenCells g l).length = l.length
  | [], _ => rfl
  | o :: l, g => by simp [givenCells, givenCells_len l]

/-- The rows are found where they lie. -/
theorem given_perm {S : List (Nat × AObj)} {nx : Nat} : ∀ (l : List Deck) (g : Nat), (∀ j x, (rowsOf g l)[j]? = some x → S[g + j]? = some x) → mapOO (permD 0 ⟨S, nx⟩) (givenCells g l) = some (l.map Deck.av)
  | [], _, _ => rfl
  | o :: l, g, h => by
    have ih := given_perm (S := S) (nx := nx) l (g + 3) fun j x hj => by
      have := h (j + 3) x (by simpa [rowsOf] using hj)
      rwa [show g + 3 + j = g + (j + 3) by omega]
    have e0 := h 0 _ rfl
    have e1 := h 1 _ rfl
    have e2 := h 2 _ rfl
    rw [Nat.add_zero] at e0
    simp only [givenCells, mapOO, ih, givenC]
    simp [mapO, permD, e0, e1, e2, Deck.av]

/-- The objects' row when some are copied. -/
def elsAt (l : List Deck) (i : Nat) : List (List AV) := givenCells 1 (l.take i) ++ (l.drop i).map Deck.av
theorem elsAt_zero (l : List Deck) : elsAt l 0 = l.map Deck.av := by simp [elsAt, givenCells]
theorem elsAt_full (l : List Deck) : elsAt l l.length = givenCells 1 l := by simp [elsAt]
theorem elsAt_len {l : List Deck} {i : Nat} (h : i ≤ l.length) : (elsAt l i).length = l.length := by
  unfold elsAt; rw [List.length_append, givenCells_len, List.length_take, List.length_map, List.length_drop]; omega
theorem elsAt_get {l : List Deck} {i : Nat} (h : i < l.length) : (elsAt l i)[i]? = some (ix l i).av := by
  have htl : (l.take i).length = i := by rw [List.length_take]; omega
  unfold elsAt
  rw [List.getElem?_append_right (by rw [givenCells_len, htl]; exact Nat.le_refl _), givenCells_len, htl, Nat.sub_self, drop_ix h]; rfl
theorem elsAt_set {l : List Deck} {i : Nat} (h : i < l.length) : (elsAt l i).set i (givenC (3 * i + 1) (ix l i)) = elsAt l (i + 1) := by
  have htl : (l.take i).length = i := by rw [List.length_take]; omega
  unfold elsAt
  rw [List.set_append_right _ _ (by rw [givenCells_len, htl]; exact Nat.le_refl _), givenCells_len, htl, Nat.sub_self, drop_ix h, List.take_add_one, idx (ltN h)]
  show givenCells 1 (l.take i) ++ givenC (3 * i + 1) (ix l i) :: (l.drop (i + 1)).map Deck.av = givenCells 1 (l.take i ++ [ix l i]) ++ _
  rw [givenCells_snoc, htl, show 1 + 3 * i = 3 * i + 1 by omega]
  simp

set_option maxHeartbeats 4000000 in
theorem call10 (p : Bool) (l : List Deck) (hl : SmallL l) : PCalls Try.prog 10 [.list p 5 (l.map Deck.av)] fun out => out = .ret (decksAV l) := by
  refine ok10.pcallsD 1 (by simp) ?_
  have dl := hl.len
  have hc : l.length * 104 ≤ 140737488355328 ∧ l.length ≤ 9223372036854775807 := ⟨by omega, by omega⟩
  simp [c10, appendA, hc]
  refine wpS_loop (ι := Nat) (fun i => [(0, .row 0 0 5 0 l.length), (3, .int .i64 i)]) (fun i => ⟨(0, .row 51 5 (elsAt l i)) :: rowsOf 1 (l.take i), 3 * i + 1⟩) (fun i => l.length - i) (fun i => i ≤ l.length) 0 (Nat.zero_le _)
    (Env.le_of (by simp)) (by simp [elsAt_zero, rowsOf]) ?_
  intro i hi
  have hw : IntKind.i64.wrap (i + 1) = i + 1 := wrap64 (by omega) (by omega)
  have htl : (l.take i).length = i := by rw [List.length_take, Nat.min_eq_left hi]
  have hrl : (rowsOf 1 (l.take i)).length = 3 * i := by rw [rowsOf_len, htl]
  simp
  refine br_cond rfl (fun h => ?_) (fun h => ?_)
  · have hlt : i < l.length := by have := ltI_t.1 h; omega
    have hos := hl.each _ (ix_mem hlt)
    have htk : l.take (i + 1) = l.take i ++ [ix l i] := by rw [List.take_add_one, idx h]; rfl
    have hge := elsAt_get hlt
    have hel := elsAt_len hi
    have hset := elsAt_set hlt
    have hsn := rowsOf_snoc (l.take i) 1 (ix l i)
    rw [htl] at hsn
    generalize hE : elsAt l i = E at *
    generalize hoi : ix l i = o at *
    generalize hR : rowsOf 1 (l.take i) = R at *
    have d1 := hos.defs
    have d2 := hos.refs
    have d3 := hos.lines
    have b1 : o.defs.length * 24 ≤ 140737488355328 ∧ o.defs.length ≤ 9223372036854775807 := ⟨by omega, by omega⟩
    have b2 : o.refs.length * 32 ≤ 140737488355328 ∧ o.refs.length ≤ 9223372036854775807 := ⟨by omega, by omega⟩
    have b3 : o.lines.length * 16 ≤ 140737488355328 ∧ o.lines.length ≤ 9223372036854775807 := ⟨by omega, by omega⟩
    have hiE : i < E.length := by omega
    have hs1 : ∀ x, (E.set i x)[i]? = some x := fun x => List.getElem?_set_self hiE
    simp [h, hge, hs1, hrl, hw, Deck.av, appendA, b1, b2, b3]
    refine ⟨i + 1, by omega, by omega, Env.le_of (by simp), Mem.le_of (by simp; omega) ?_⟩
    have e : 3 * i + 1 + 1 + 1 = 3 * i + 3 := by omega
    rw [htk, hsn]
    simp only [givenC] at hset
    rw [← hset]
    rw [show 1 + 3 * i = 3 * i + 1 by omega]
    simp
    rw [List.take_of_length_le (by simp)]
  · have hil : i = l.length := by have := ltI_f.1 h; omega
    subst hil
    rw [elsAt_full, List.take_length]
    have hgp := given_perm (S := (0, .row 51 5 (givenCells 1 l)) :: rowsOf 1 l) (nx := 3 * l.length + 1) l 1 (fun j x hj => by rw [Nat.add_comm]; exact hj)
    have hels : elsOf ⟨(0, .row 51 5 (givenCells 1 l)) :: rowsOf 1 l, 3 * l.length + 1⟩ 5 (.row 0 0 5 0 l.length) = some (givenCells 1 l) := by simp [givenCells_len, List.take_of_length_le]
    simp only [h, br_cond, wpS_cond_f, Opnd.eval, Env.get]
    simp [cr10]
    show (match elsOf _ 5 (.row 0 0 5 0 l.length) with | some els => (mapOO (permD 0 _) els).map (AV.list true 5) | none => none) = _
    rw [hels]
    simp only [hgp]
    rfl

set_option maxHeartbeats 4000000 in
theorem call11 (q : Bool) (libs : List (List Deck)) (hb : SmallLL libs) : PCalls Try.prog 11 [.list q 1 (libs.map libAV)] fun out => out = .ret (.list true 1 (libs.map libAV)) := by
  refine ok11.pcallsD 1 (by simp) ?_
  have dl := hb.len
  have hc : libs.length * 24 ≤ 140737488355328 ∧ libs.length ≤ 9223372036854775807 := ⟨by omega, by omega⟩
  simp [c11, appendA, hc]
  refine wpS_loop (ι := Nat) (fun i => [(0, .row 0 0 1 0 libs.length), (3, .int .i64 i)]) (fun i => ⟨[(0, .row 22 1 (libs.map libAV))], 1⟩) (fun i => libs.length - i) (fun i => i ≤ libs.length) 0 (Nat.zero_le _)
    (Env.le_of (by simp)) (by simp) ?_
  intro i hi
  have hw : IntKind.i64.wrap (i + 1) = i + 1 := wrap64 (by omega) (by omega)
  simp
  refine br_cond rfl (fun h => ?_) (fun h => ?_)
  · have hlt : i < libs.length := by have := ltI_t.1 h; omega
    have hsl := hb.each _ (ix_mem hlt)
    have hset : (libs.map libAV).set i (libAV (ix libs i)) = libs.map libAV := by
      apply List.ext_getElem?
      intro j
      rw [List.getElem?_set]
      split
      · rename_i hj; subst hj
        rw [if_pos (by simpa using hlt), idxM h]
      · rfl
    have hset2 : (libs.map libAV).set i [.list true 5 ((ix libs i).map Deck.av)] = libs.map libAV := hset
    simp [h, idxM, libAV, decksAV]
    refine xcall_p (call10 true (ix libs i) hsl) (by simp) ?_
    simp [h, idxM, libAV, decksAV, hw]
    exact ⟨i + 1, by omega, by omega, Env.le_of (by simp), Mem.le_of rfl (by simp [hset2])⟩
  · have hil : i = libs.length := by have := ltI_f.1 h; omega
    subst hil
    have hm : ∀ m : Mem, mapOO (permD 0 m) (libs.map libAV) = some (libs.map libAV) := fun m => mapOO_map (g := libAV) (g' := libAV) (fun x => by simp [mapO, permD, libAV, decksAV]) libs
    simp only [h, br_cond, wpS_cond_f, Opnd.eval, Env.get]
    simp [cr11]
    show (match elsOf _ 1 (.row 0 0 1 0 libs.length) with | some els => (mapOO (permD 0 _) els).map (AV.list true 1) | none => none) = _
    have hels : elsOf ⟨[(0, .row 22 1 (libs.map libAV))], 1⟩ 1 (.row 0 0 1 0 libs.length) = some (libs.map libAV) := by simp
    rw [hels]
    simp only [hm]
    rfl
end Go.Pm
