/- LkC7: contracts: an object of a library; a number's bytes. -/
import Derived.Test.YtolfkdphlgkekaaMb
import Derived.Test.YtolfkdphlgkekaaLkS4
namespace Go.Pm
open Go Go.Proofs
attribute [-simp] List.getElem?_map

def takes (l : List Deck) (name : ByteArray) (o : Deck) : Bool := !(l.any fun x => eqS x.name o.name) && definesF o name
def foundF (l : List Deck) (libs : List (List Deck)) (name : ByteArray) : Option Deck := libs.flatten.find? (takes l name)

/-- Whether one of the first is there. -/
def thereF (l : List Deck) (o : Deck) (j : Nat) : Bool := (l.take j).any fun x => eqS x.name o.name
theorem there_succ {l : List Deck} {o : Deck} {j : Nat} (h : j < l.length) : thereF l o (j + 1) = (thereF l o j || eqS (ix l j).name o.name) := by
  unfold thereF
  rw [List.take_add_one, List.any_append, idx (ltN h)]
  simp
theorem there_all {l : List Deck} {o : Deck} : thereF l o l.length = l.any fun x => eqS x.name o.name := by
  unfold thereF; rw [List.take_length]

/-- A struct that holds an object; the empty one. -/
def deckOr : Option Deck → List AV
  | some o => o.av
  | none => [.str ⟨#[]⟩, .str ⟨#[]⟩, .nilS, .nilS, .nilS]

set_option maxHeartbeats 4000000 in
theorem call67 (p q : Bool) (l : List Deck) (libs : List (List Deck)) (name : ByteArray) (hl : SmallL l) (hb : SmallLL libs) : PCalls Try.prog 67 [.list p 5 (l.map Deck.av), .list q 1 (libs.map libAV), .str name]
    fun out => out = .ret (.tuple [.agg (deckOr (foundF l libs name)), .bool (foundF l libs name).isSome]) := by
  refine ok67.pcalls (by simp) ?_
  have dl := hl.len
  have bl := hb.len
  simp [c67]
  refine wpS_loop (ι := Nat × Nat) (fun s => [(0, .list p 5 (l.map Deck.av)), (1, .list q 1 (libs.map libAV)), (2, .str name), (6, .ptr 0 0 0), (8, .int .i64 s.1)]) (fun s => ⟨[(0, .cells (deckOr none))], s.2⟩) (fun s => libs.length - s.1)
    (fun s => s.1 ≤ libs.length ∧ foundF l libs name = (libs.drop s.1).flatten.find? (takes l name)) (0, 1) (by simp [foundF]) (Env.le_of (by simp)) (by simp [deckOr]) ?_
  intro ⟨i, nx⟩ ⟨hi, hall⟩
  simp only at hi hall
  have hw : IntKind.i64.wrap (i + 1) = i + 1 := wrap64 (by omega) (by omega)
  simp
  refine br_cond rfl (fun h => ?_) (fun h => ?_)
  · have hlt : i < libs.length := by have := ltI_t.1 h; omega
    rw [drop_ix hlt, List.flatten_cons] at hall
    have hs := hb.each _ (ix_mem hlt)
    have sl := hs.len
    simp [h]
    refine wpS_loop (ι := Nat × Nat) (fun s => [(0, .list p 5 (l.map Deck.av)), (1, .list q 1 (libs.map libAV)), (2, .str name), (6, .ptr 0 0 0), (8, .int .i64 i), (9, .int .i64 s.1)]) (fun s => ⟨[(0, .cells (deckOr none))], s.2⟩) (fun s => (ix libs i).length - s.1)
      (fun s => s.1 ≤ (ix libs i).length ∧ foundF l libs name = (((ix libs i).drop s.1) ++ (libs.drop (i + 1)).flatten).find? (takes l name)) (0, nx) (by simpa using hall) (Env.le_of (by simp)) (by simp) ?_
    intro ⟨k, nx⟩ ⟨hk, hka⟩
    simp only at hk hka
    have hwk : IntKind.i64.wrap (k + 1) = k + 1 := wrap64 (by omega) (by omega)
    simp [h, idxM, libAV, decksAV]
    refine br_cond rfl (fun h2 => ?_) (fun h2 => ?_)
    · have hlk : k < (ix libs i).length := by have := ltI_t.1 h2; omega
      rw [drop_ix hlk, List.cons_append, List.find?_cons] at hka
      generalize hox : ix (ix libs i) k = o at hka
      have hos : o.Small := by rw [← hox]; exact hs.each _ (ix_mem hlk)
      simp [h, h2, idxM, libAV, decksAV, deck_take, hox]
      refine wpS_loop (ι := Nat) (fun j => [(0, .list p 5 (l.map Deck.av)), (1, .list q 1 (libs.map libAV)), (2, .str name), (6, .ptr 0 0 0), (8, .int .i64 i), (9, .int .i64 k), (10, .ptr 1 nx 0), (11, .bool (thereF l o j)), (12, .int .i64 j)])
        (fun _ => ⟨[(0, .cells (deckOr none)), (nx, .cells o.av)], nx + 1⟩) (fun j => l.length - j) (fun j => j ≤ l.length) 0 (by simp) (Env.le_of (by simp [thereF])) (by simp [deckOr]) ?_
      intro j hj
      have hwj : IntKind.i64.wrap (j + 1) = j + 1 := wrap64 (by omega) (by omega)
      simp
      refine br_cond rfl (fun h3 => ?_) (fun h3 => ?_)
      · have hlj : j < l.length := by have := ltI_t.1 h3; omega
        simp [h3]
        refine br_dguard_f rfl (fun h4 => ?_) (fun h4 => ?_)
        · simp [h4, hwj]
          exact ⟨j + 1, by omega, by omega, Env.le_of (by simp [there_succ hlj, h4]), Mem.le_of rfl (by simp)⟩
        · simp [h3, h4, hwj, idxM, Deck.av]
          exact ⟨j + 1, by omega, by omega, Env.le_of (by simp [there_succ hlj, h4]), Mem.le_of rfl (by simp)⟩
      · have hjl : j = l.length := by have := ltI_f.1 h3; omega
        subst hjl
        have ht : takes l name o = (!(thereF l o l.length) && definesF o name) := by rw [there_all]; rfl
        simp [h3]
        refine br_guard_t rfl (fun h4 => ?_) (fun h4 => ?_) <;> simp at h4
        · simp [h4, deck_take]
          refine xcall_p (call83 o hos name) (by simp) ?_
          simp
          refine br_cond rfl (fun h5 => ?_) (fun h5 => ?_)
          · have hf : foundF l libs name = some o := by rw [hka, ht, h4, h5]; rfl
            simp [h5, cr67, hf, deckOr, deck_take]
          · have hf : takes l name o = false := by rw [ht, h4, h5]; rfl
            rw [hf] at hka
            simp [hwk]
            exact ⟨k + 1, ⟨by omega, by rw [hka]; simp⟩, by omega, Env.le_of (by simp), nx + 1, Mem.le_of rfl (by simp)⟩
        · have hf : takes l name o = false := by rw [ht, h4]; rfl
          rw [hf] at hka
          simp [h4, hwk]
          exact ⟨k + 1, ⟨by omega, by rw [hka]; simp⟩, by omega, Env.le_of (by simp), nx + 1, Mem.le_of rfl (by simp)⟩
    · have hkl : k = (ix libs i).length := by have := ltI_f.1 h2; omega
      subst hkl
      simp [h2, hw]
      exact ⟨i + 1, ⟨by omega, by rw [hka]; simp⟩, by omega, Env.le_of (by simp), nx, Mem.le_of rfl (by simp)⟩
  · have hid : i = libs.length := by have := ltI_f.1 h; omega
    subst hid
    have hn : foundF l libs name = none := by rw [hall]; simp
    simp [h, cr67, hn, deckOr]
end Go.Pm

/- LkC8: contracts: a number's bytes; what is defined twice. -/
namespace Go.Pm
open Go Go.Proofs
attribute [-simp] List.getElem?_map

def byteF (n : Int) (k : Nat) : UInt8 := UInt8.ofNat (IntKind.u8.wrap (n.fdiv (2 ^ k))).toNat
def fourF (n : Int) : ByteArray := ⟨#[byteF n 24, byteF n 16, byteF n 8, byteF n 0]⟩

theorem addS_upd (s : ByteArray) : ∀ l : List ByteArray, updA (.str s) (.bool true) (setS l) = some (setS (if hasS l s then l else l ++ [s]))
  | [] => rfl
  | x :: l => by
    have ih := addS_upd s l
    unfold setS at ih ⊢
    rw [List.map_cons, updA]
    unfold hasS at ih ⊢
    simp only [keyEq, beq_eqS, List.any_cons]
    rcases Bool.eq_false_or_eq_true (eqS x s) with h | h
    · have := eqS_t.1 h
      subst this
      simp [h]
    · simp only [h, ih, Bool.false_or, Option.map_some]
      split <;> rfl

def addS (l : List ByteArray) (s : ByteArray) : List ByteArray := if hasS l s then l else l ++ [s]
theorem updAdd (s : ByteArray) (l : List ByteArray) : updA (.str s) (.bool true) (setS l) = some (setS (addS l s)) := addS_upd s l

/-- The names that were met, with those of one more object. -/
def meets (met : List ByteArray) (o : Deck) : List ByteArray := (defsF o).foldl (fun l d => addS l d.name) met
def doubleF : List ByteArray → List Deck → ByteArray
  | _, [] => ⟨#[]⟩
  | met, o :: l => if hasS met o.name then o.name else match o.defs.find? fun d => hasS met d.name with
    | some d => d.name
    | none => doubleF (meets met o) l

attribute [simp] updAdd

set_option maxHeartbeats 4000000 in
theorem call36 (p : Bool) (l : List Deck) (hl : SmallL l) : PCalls Try.prog 36 [.list p 5 (l.map Deck.av)] fun out => out = .ret (.str (doubleF [] l)) := by
  refine ok36.pcalls (by simp) ?_
  have dl := hl.len
  simp [c36]
  refine wpS_loop (ι := Nat × List ByteArray) (fun s => [(0, .list p 5 (l.map Deck.av)), (3, .map 0 0), (4, .int .i64 s.1)]) (fun s => ⟨[(0, .map (setS s.2))], 1⟩) (fun s => l.length - s.1)
    (fun s => s.1 ≤ l.length ∧ doubleF [] l = doubleF s.2 (l.drop s.1)) (0, []) (by simp) (Env.le_of (by simp)) (by simp [setS]) ?_
  intro ⟨i, met⟩ ⟨hi, hall⟩
  simp only at hi hall
  have hw : IntKind.i64.wrap (i + 1) = i + 1 := wrap64 (by omega) (by omega)
  simp
  refine br_cond rfl (fun h => ?_) (fun h => ?_)
  · have hlt : i < l.length := by have := ltI_t.1 h; omega
    have hs := hl.each _ (ix_mem hlt)
    have sd := hs.defs
    rw [drop_ix hlt, doubleF] at hall
    simp [h, idxM, Deck.av]
    refine br_cond rfl (fun h1 => ?_) (fun h1 => ?_)
    · rw [if_pos h1] at hall
      simp [h, idxM, Deck.av, cr36, hall]
    rw [if_neg (by rw [h1]; simp)] at hall
    simp
    generalize hoi : ix l i = o at *
    refine wpS_loop (ι := Nat) (fun k => [(0, .list p 5 (l.map Deck.av)), (3, .map 0 0), (4, .int .i64 i), (5, .int .i64 k)]) (fun _ => ⟨[(0, .map (setS met))], 1⟩) (fun k => o.defs.length - k)
      (fun k => k ≤ o.defs.length ∧ (o.defs.find? fun d => hasS met d.name) = (o.defs.drop k).find? fun d => hasS met d.name) 0 (by simp) (Env.le_of (by simp)) (by simp) ?_
    intro k ⟨hk, hka⟩
    have hwk : IntKind.i64.wrap (k + 1) = k + 1 := wrap64 (by omega) (by omega)
    simp [h, idxM, Deck.av, hoi]
    refine br_cond rfl (fun h2 => ?_) (fun h2 => ?_)
    · have hlk : k < o.defs.length := by have := ltI_t.1 h2; omega
      rw [drop_ix hlk] at hka
      simp [h, h2, idxM, Deck.av, DDef.av, hoi]
      refine br_cond rfl (fun h3 => ?_) (fun h3 => ?_)
      · have hf : (o.defs.find? fun d => hasS met d.name) = some (ix o.defs k) := by rw [hka]; simp [h3]
        rw [hf] at hall
        simp [h, h2, idxM, Deck.av, DDef.av, hoi, cr36, hall]
      · simp [hwk]
        exact ⟨k + 1, ⟨by omega, by rw [hka]; simp [h3]⟩, by omega, Env.le_of (by simp), Mem.le_of rfl (by simp)⟩
    have hkd : k = o.defs.length := by have := ltI_f.1 h2; omega
    have hf : (o.defs.find? fun d => hasS met d.name) = none := by rw [hka, hkd]; simp
    rw [hf] at hall
    simp [h, h2, idxM, deck_take, hoi]
    refine xcall_p (call64 o hs) (by simp) ?_
    simp
    have dl2 := defsF_len o
    refine wpS_loop (ι := Nat) (fun k => [(0, .list p 5 (l.map Deck.av)), (3, .map 0 0), (4, .int .i64 i), (6, .list true 2 ((defsF o).map DDef.av)), (7, .int .i64 k)]) (fun k => ⟨[(0, .map (setS (((defsF o).take k).foldl (fun l d => addS l d.name) met)))], 1⟩)
      (fun k => (defsF o).length - k) (fun k => k ≤ (defsF o).length) 0 (by simp) (Env.le_of (by simp)) (by simp) ?_
    intro j hj
    have hwj : IntKind.i64.wrap (j + 1) = j + 1 := wrap64 (by omega) (by omega)
    simp
    refine br_cond rfl (fun h4 => ?_) (fun h4 => ?_)
    · have hlj : j < (defsF o).length := by have := ltI_t.1 h4; omega
      simp [h4, idxM, DDef.av, hwj]
      exact ⟨j + 1, by omega, by omega, Env.le_of (by simp), Mem.le_of rfl (by simp [List.take_add_one, idx (ltN hlj)])⟩
    · have hjd : j = (defsF o).length := by have := ltI_f.1 h4; omega
      subst hjd
      simp [h4, hw]
      exact ⟨i + 1, meets met o, ⟨by omega, by rw [hall]⟩, by omega, Env.le_of (by simp), Mem.le_of rfl (by simp [meets])⟩
  · have hid : i = l.length := by have := ltI_f.1 h; omega
    subst hid
    simp [h, cr36, hall, doubleF]
end Go.Pm

/- LkC9: contracts: a number's bytes; names ascending. -/
namespace Go.Pm
open Go Go.Proofs
attribute [-simp] List.getElem?_map

theorem shr_c (n : Int) (k : Nat) (hk : k < 64) : binA .shr (.int .i64 n) (.int .u64 k) = some (.int .i64 (n.fdiv (2 ^ k))) := by
  rw [binA_shr, if_neg (by omega), Int.toNat_natCast, Nat.min_eq_left (by show k ≤ 64; omega)]

theorem call69 (n : Int) : PCalls Try.prog 69 [.int .i64 n] fun out => out = .ret (.str (fourF n)) := by
  refine ok69.pcalls (by simp) ?_
  have h1 := shr_c n 24 (by omega)
  have h2 := shr_c n 16 (by omega)
  have h3 := shr_c n 8 (by omega)
  have h4 : byteF n 0 = UInt8.ofNat (IntKind.u8.wrap n).toNat := by simp [byteF]
  rw [show ((24 : Nat) : Int) = 24 from rfl] at h1
  rw [show ((16 : Nat) : Int) = 16 from rfl] at h2
  rw [show ((8 : Nat) : Int) = 8 from rfl] at h3
  unfold fourF
  rw [h4]
  unfold byteF
  generalize n.fdiv (2 ^ 24) = a at *
  generalize n.fdiv (2 ^ 16) = b at *
  generalize n.fdiv (2 ^ 8) = c at *
  simp [c69, -binA_shr, h1, h2, h3, cr69, byteOf, List.range_succ]

end Go.Pm

/- LkC10: contracts: names ascending. -/
namespace Go.Pm
open Go Go.Proofs
attribute [-simp] List.getElem?_map

/-- Whatever is the one is the other, too. -/
def Sub (xs ys : List AV) : Prop := ∀ (K : Bool → Nat → Prop) (w : World) (us : List Value), VRs [] K w xs us → VRs [] K w ys us
theorem Sub.refl (xs : List AV) : Sub xs xs := fun _ _ _ h => h
theorem Sub.cons {x : AV} {xs ys : List AV} (h : Sub xs ys) : Sub (x :: xs) (x :: ys) := by
  intro K w us hv
  obtain ⟨u, us', rfl, h1, h2⟩ := hv
  exact ⟨u, us', rfl, h1, h K w us' h2⟩
theorem Sub.nil {p : Bool} {sz : Nat} {xs ys : List AV} (h : Sub xs ys) : Sub (.nilS :: xs) (.list p sz [] :: ys) := by
  intro K w us hv
  obtain ⟨u, us', rfl, h1, h2⟩ := hv
  refine ⟨u, us', rfl, ?_, h K w us' h2⟩
  simp only [VR] at h1 ⊢
  exact ⟨none, 0, 0, 0, h1, Nat.le_refl _, .inl trivial, by simp [LR]⟩
theorem PCalls.sub {P : Program} {f : FuncId} {xs ys : List AV} {R : AOut → Prop} (h : PCalls P f ys R) (hs : Sub xs ys) : PCalls P f xs R :=
  ⟨h.1, fun K w vals hK hv => h.2 K w vals hK (hs K w vals hv)⟩

def insPos (l : List DDef) (n : ByteArray) : Nat := (l.takeWhile fun x => ltS x.name n).length
def definedF (l : List DDef) (d : DDef) : List DDef := if (insPos l d.name < l.length ∧ eqS (ix l (insPos l d.name)).name d.name = true) then l else l.take (insPos l d.name) ++ d :: l.drop (insPos l d.name)

theorem insPos_eq {n : ByteArray} : ∀ {l : List DDef} {k : Nat}, k ≤ l.length → (∀ j, j < k → ltS (ix l j).name n = true) → (k < l.length → ltS (ix l k).name n = false) → insPos l n = k
  | [], k, h, _, _ => by simp at h; subst h; rfl
  | x :: l, 0, _, _, h2 => by
    have := h2 (by simp)
    simp only [insPos, List.takeWhile_cons, show ltS x.name n = false from this]; rfl
  | x :: l, k + 1, h, h1, h2 => by
    have h0 : ltS x.name n = true := h1 0 (by omega)
    have ih := insPos_eq (n := n) (l := l) (k := k) (by simpa using h) (fun j hj => h1 (j + 1) (by omega)) (fun hk => h2 (by simpa using hk))
    simp only [insPos] at ih ⊢
    rw [List.takeWhile_cons, if_pos h0, List.length_cons, ih]

set_option maxHeartbeats 4000000 in
theorem call68 (l : List DDef) (d : DDef) (hl : l.length ≤ 4000000000000) : PCalls Try.prog 68 [.list true 2 (l.map DDef.av), .agg d.av] fun out => out = .ret (.list true 2 ((definedF l d).map DDef.av)) := by
  refine ok68.pcalls (by simp) ?_
  simp [c68, DDef.av]
  refine wpS_loop (ι := Nat) (fun k => [(0, .list true 2 (l.map DDef.av)), (3, .ptr 0 0 0), (5, .int .i64 k)]) (fun _ => ⟨[(0, .cells d.av)], 1⟩) (fun k => l.length - k)
    (fun k => k ≤ l.length ∧ ∀ j, j < k → ltS (ix l j).name d.name = true) 0 (by simp) (Env.le_of (by simp)) (by simp [DDef.av]) ?_
  intro k ⟨hk, hall⟩
  have hw : IntKind.i64.wrap (k + 1) = k + 1 := wrap64 (by omega) (by omega)
  have fin : (k < l.length → ltS (ix l k).name d.name = false) → insPos l d.name = k := insPos_eq hk hall
  simp [DDef.av]
  refine br_dguard_t rfl (fun h => ?_) (fun h => ?_)
  · have hlt : k < l.length := by have := ltI_t.1 h; omega
    simp [h, idxM, DDef.av]
    refine br_cond rfl (fun h1 => ?_) (fun h1 => ?_)
    · simp [hw]
      exact ⟨k + 1, ⟨by omega, upto hall h1⟩, by omega, Env.le_of (by simp), Mem.le_of rfl (by simp)⟩
    have hp := fin fun _ => h1
    simp [h, idxM, DDef.av]
    refine br_cond rfl (fun h2 => ?_) (fun h2 => ?_)
    · have hd : definedF l d = l := by unfold definedF; rw [hp, if_pos ⟨hlt, h2⟩]
      simp [cr68, hd]
    have hd : definedF l d = l.take k ++ d :: l.drop k := by unfold definedF; rw [hp, if_neg (by rw [h2]; simp)]
    have hm : min k l.length = k := Nat.min_eq_left hk
    have hf1 : k * 24 ≤ 140737488355328 ∧ k ≤ 9223372036854775807 := ⟨by omega, by omega⟩
    have hf2 : (k + 1) * 24 ≤ 140737488355328 ∧ k + 1 ≤ 9223372036854775807 := ⟨by omega, by omega⟩
    have hf3 : (k + 1 + (l.length - k)) * 24 ≤ 140737488355328 ∧ k + 1 + (l.length - k) ≤ 9223372036854775807 := ⟨by omega, by omega⟩
    have hs1 : sliceA false true 2 [.list true 2 (l.map DDef.av), .int .i64 k] = some (.list true 2 ((l.take k).map DDef.av)) := by simp [sliceA, boundsA, hk, List.map_take]
    have hs2 : sliceA true false 2 [.list true 2 (l.map DDef.av), .int .i64 k] = some (.list true 2 ((l.drop k).map DDef.av)) := by
      simp [sliceA, boundsA, hk, List.map_drop]
      rw [List.take_of_length_le (by simp)]
    have e : (l.take k).map DDef.av ++ ([AV.str d.name, AV.int IntKind.i64 d.at_] :: (l.drop k).map DDef.av) = (l.take k ++ d :: l.drop k).map DDef.av := by simp [DDef.av]
    have e1 : k + 1 + (l.length - k) = (l.take k ++ d :: l.drop k).length := by simp [hm]; omega
    simp [hs1, hs2, appendA, hm, hf1, hf2, hf3, cr68, hd, DDef.av, List.range_succ]
    rw [if_pos (by omega), ← List.map_take, ← List.map_drop, e, e1, take_map]
    simp only [perm_defs, if_true]
  · have hid : k = l.length := by have := ltI_f.1 h; omega
    have hp := fin (fun hh => by omega)
    have hd : definedF l d = l.take k ++ d :: l.drop k := by unfold definedF; rw [hp, if_neg (fun hh => by omega)]
    simp [h]
    have hm : min k l.length = k := Nat.min_eq_left hk
    have hf1 : k * 24 ≤ 140737488355328 ∧ k ≤ 9223372036854775807 := ⟨by omega, by omega⟩
    have hf2 : (k + 1) * 24 ≤ 140737488355328 ∧ k + 1 ≤ 9223372036854775807 := ⟨by omega, by omega⟩
    have hf3 : (k + 1 + (l.length - k)) * 24 ≤ 140737488355328 ∧ k + 1 + (l.length - k) ≤ 9223372036854775807 := ⟨by omega, by omega⟩
    have hs1 : sliceA false true 2 [.list true 2 (l.map DDef.av), .int .i64 k] = some (.list true 2 ((l.take k).map DDef.av)) := by simp [sliceA, boundsA, hk, List.map_take]
    have hs2 : sliceA true false 2 [.list true 2 (l.map DDef.av), .int .i64 k] = some (.list true 2 ((l.drop k).map DDef.av)) := by
      simp [sliceA, boundsA, hk, List.map_drop]
      rw [List.take_of_length_le (by simp)]
    have e : (l.take k).map DDef.av ++ ([AV.str d.name, AV.int IntKind.i64 d.at_] :: (l.drop k).map DDef.av) = (l.take k ++ d :: l.drop k).map DDef.av := by simp [DDef.av]
    have e1 : k + 1 + (l.length - k) = (l.take k ++ d :: l.drop k).length := by simp [hm]; omega
    simp [hs1, hs2, appendA, hm, hf1, hf2, hf3, cr68, hd, DDef.av, List.range_succ]
    rw [if_pos (by omega), ← List.map_take, ← List.map_drop, e, e1, take_map]
    simp only [perm_defs, if_true]
end Go.Pm
