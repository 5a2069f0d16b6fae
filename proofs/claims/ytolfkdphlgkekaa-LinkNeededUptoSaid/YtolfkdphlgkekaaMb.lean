/- LkC3: contracts: the document's Valid. -/
import Derived.Test.YtolfkdphlgkekaaMa
import Derived.Test.YtolfkdphlgkekaaLkS2
import Derived.Test.YtolfkdphlgkekaaLkS3
namespace Go.Pm
open Go Go.Proofs
attribute [-simp] List.getElem?_map

set_option maxHeartbeats 4000000 in
theorem call63 (o : Deck) (hs : o.Small) : PCalls Try.prog 63 [.agg o.av] fun out => out = .ret (.bool (deckOk o)) := by
  refine ok63.pcalls (by simp) ?_
  simp [c63, Deck.av]
  refine xcall_p (call61 o.name hs.name) rfl ?_
  simp
  refine br_guard_f rfl (fun h1 => ?_) (fun h1 => ?_) <;> simp at h1
  · simp [h1, cr63, deckOk]
  simp [h1]
  refine br_guard_f rfl (fun h2 => ?_) (fun h2 => ?_)
  · simp [h2, cr63, deckOk]
  simp [h2]
  refine br_cond rfl (fun h3 => ?_) (fun h3 => ?_) <;> simp at h3
  · simp [h3, cr63, deckOk]
  simp
  have dl := hs.defs
  have rl := hs.refs
  have ll := hs.lines
  have cl := hs.code
  -- the names
  refine wpS_loop (ι := Nat) (fun i => [(1, .ptr 0 0 0), (2, .bool false), (3, .int .i64 o.code.size), (4, .int .i64 i)]) (fun _ => ⟨[(0, .cells o.av)], 1⟩) (fun i => o.defs.length - i) (fun i => i ≤ o.defs.length ∧ ∀ j, j < i → defOk o.code.size o.defs j = true) 0 (by simp) (Env.le_of (by simp)) (by simp [Deck.av]) ?_
  intro i ⟨hi, hall⟩
  have hw : IntKind.i64.wrap (i + 1) = i + 1 := wrap64 (by omega) (by omega)
  simp [Deck.av]
  refine br_cond rfl (fun h4 => ?_) (fun h4 => ?_)
  · have hlt : i < o.defs.length := by have := ltI_t.1 h4; omega
    have bad : defOk o.code.size o.defs i = false → deckOk o = false := fun h => by simp [deckOk, all_f hlt h]
    simp [h4, idxM, DDef.av]
    refine xcall_p (call61 (ix o.defs i).name (hs.dname _ (ix_mem hlt))) rfl ?_
    simp
    refine br_guard_f rfl (fun h5 => ?_) (fun h5 => ?_) <;> simp at h5
    · simp [h5, cr63, bad (by simp [defOk, h5])]
    simp [h5, h4, idxM, DDef.av]
    refine xcall_p (call62 (ix o.defs i).at_ 0 o.code.size) rfl ?_
    simp
    refine br_guard_f rfl (fun h6 => ?_) (fun h6 => ?_) <;> simp at h6
    · simp [h6, cr63, bad (by simp [defOk, h6])]
    simp [h6, h4, idxM, DDef.av]
    refine br_cond rfl (fun h7 => ?_) (fun h7 => ?_) <;> simp at h7
    · simp [cr63, bad (by simp [defOk, h7])]
    simp
    refine wpS_loop (ι := Nat) (fun k => [(1, .ptr 0 0 0), (2, .bool false), (3, .int .i64 o.code.size), (4, .int .i64 i), (5, .int .i64 k)]) (fun _ => ⟨[(0, .cells o.av)], 1⟩) (fun k => i - k) (fun k => k ≤ i ∧ ∀ j, j < k → eqS (ix o.defs j).name (ix o.defs i).name = false) 0 (by simp) (Env.le_of (by simp)) (by simp [Deck.av]) ?_
    intro k ⟨hk, hkall⟩
    have hwk : IntKind.i64.wrap (k + 1) = k + 1 := wrap64 (by omega) (by omega)
    simp [Deck.av]
    refine br_cond rfl (fun h8 => ?_) (fun h8 => ?_)
    · have hki : k < i := by have := ltI_t.1 h8; omega
      have h9 : ltI ↑k ↑o.defs.length = true := ltN (by omega)
      simp [h9, h8, h4, idxM, DDef.av]
      refine br_cond rfl (fun h10 => ?_) (fun h10 => ?_)
      · simp [cr63, bad (by simp only [defOk, all_f (p := fun k => !eqS (ix o.defs k).name (ix o.defs i).name) hki (by simp [h10]), Bool.and_false])]
      · simp [hwk]
        exact ⟨k + 1, ⟨by omega, upto hkall h10⟩, by omega, Env.le_of (by simp), Mem.le_of rfl (by simp)⟩
    · simp [h8, hw]
      have hki : k = i := by have := ltI_f.1 h8; omega
      have hka : ∀ j, j < i → _ := fun j hj => hkall j (hki ▸ hj)
      refine ⟨i + 1, ⟨by omega, upto hall ?_⟩, by omega, Env.le_of (by simp), Mem.le_of rfl (by simp)⟩
      simp only [defOk, h5, h6, h7, all_t (n := i) (p := fun k => !eqS (ix o.defs k).name (ix o.defs i).name) (fun j hj => by simp [hka j hj]), Bool.and_self]
  clear hw
  have hid : i = o.defs.length := by have := ltI_f.1 h4; omega
  have hD : (List.range o.defs.length).all (defOk o.code.size o.defs) = true := all_t (by rw [← hid]; exact hall)
  clear hall hi
  simp [h4]
  clear h4 hid
  -- the places
  refine wpS_loop (ι := Nat × Nat) (fun s => [(1, .ptr 0 0 0), (2, .bool false), (3, .int .i64 o.code.size), (6, .int .i64 s.1)]) (fun s => ⟨[(0, .cells o.av)], s.2⟩) (fun s => o.refs.length - s.1) (fun s => s.1 ≤ o.refs.length ∧ ∀ j, j < s.1 → refOk o.code.size o.refs j = true) (0, 1) (by simp) (Env.le_of (by simp)) (by simp [Deck.av]) ?_
  intro ⟨i, nx⟩ ⟨hi, hall⟩
  simp only at hi hall
  have hw : IntKind.i64.wrap (i + 1) = i + 1 := wrap64 (by omega) (by omega)
  have hw4 : IntKind.i64.wrap ((o.code.size : Int) - 4) = (o.code.size : Int) - 4 := wrap64 (by omega) (by omega)
  simp [Deck.av]
  refine br_cond rfl (fun h4 => ?_) (fun h4 => ?_)
  · have hlt : i < o.refs.length := by have := ltI_t.1 h4; omega
    have bad : refOk o.code.size o.refs i = false → deckOk o = false := fun h => by simp [deckOk, all_f hlt h]
    simp [h4, idxM, DRef.av]
    refine xcall_p (call61 (ix o.refs i).name (hs.rname _ (ix_mem hlt))) rfl ?_
    simp
    refine br_guard_f rfl (fun h5 => ?_) (fun h5 => ?_) <;> simp at h5
    · simp [h5, cr63, bad (by simp [refOk, h5])]
    simp [h5, hw4]
    refine xcall_p (call62 (ix o.refs i).at_ 0 (o.code.size - 4)) rfl ?_
    simp
    refine br_guard_f rfl (fun h6 => ?_) (fun h6 => ?_) <;> simp at h6
    · simp [h6, cr63, bad (by simp [refOk, h6])]
    simp [h6]
    refine br_guard_f rfl (fun h7 => ?_) (fun h7 => ?_) <;> simp at h7
    · simp [h7, cr63, bad (by simp [refOk, h7])]
    simp [h7]
    refine xcall_p (call62 (ix o.refs i).plus (-1000000000) 1000000000) rfl ?_
    simp
    refine br_cond rfl (fun h11 => ?_) (fun h11 => ?_) <;> simp at h11
    · simp [cr63, bad (by simp [refOk, h11])]
    simp
    refine wpS_loop (ι := Nat) (fun k => [(1, .ptr 0 0 0), (2, .bool false), (3, .int .i64 o.code.size), (6, .int .i64 i), (7, .ptr 1 nx 0), (8, .int .i64 k)]) (fun _ => ⟨[(0, .cells o.av), (nx, .cells (ix o.refs i).av)], nx + 1⟩) (fun k => i - k) (fun k => k ≤ i ∧ ∀ j, j < k → eqI (ix o.refs j).at_ (ix o.refs i).at_ = false) 0 (by simp) (Env.le_of (by simp)) (by simp [Deck.av, DRef.av]) ?_
    intro k ⟨hk, hkall⟩
    have hwk : IntKind.i64.wrap (k + 1) = k + 1 := wrap64 (by omega) (by omega)
    simp [Deck.av, DRef.av]
    refine br_cond rfl (fun h8 => ?_) (fun h8 => ?_)
    · have hki : k < i := by have := ltI_t.1 h8; omega
      have h9 : ltI ↑k ↑o.refs.length = true := ltN (by omega)
      simp [h9, h8, idxM, DRef.av]
      refine br_cond rfl (fun h10 => ?_) (fun h10 => ?_)
      · simp [cr63, bad (by simp only [refOk, all_f (p := fun k => !eqI (ix o.refs k).at_ (ix o.refs i).at_) hki (by simp [h10]), Bool.and_false])]
      · simp [hwk]
        exact ⟨k + 1, ⟨by omega, upto hkall h10⟩, by omega, Env.le_of (by simp), Mem.le_of rfl (by simp)⟩
    · simp [h8, hw]
      have hki : k = i := by have := ltI_f.1 h8; omega
      have hka : ∀ j, j < i → _ := fun j hj => hkall j (hki ▸ hj)
      refine ⟨i + 1, ⟨by omega, upto hall ?_⟩, by omega, Env.le_of (by simp), nx + 1, Mem.le_of rfl (by simp)⟩
      simp only [refOk, h5, h6, h7, h11, all_t (n := i) (p := fun k => !eqI (ix o.refs k).at_ (ix o.refs i).at_) (fun j hj => by simp [hka j hj]), Bool.and_self]
  clear hw
  have hid : i = o.refs.length := by have := ltI_f.1 h4; omega
  have hR : (List.range o.refs.length).all (refOk o.code.size o.refs) = true := all_t (by rw [← hid]; exact hall)
  clear hall hi
  simp [h4]
  clear h4 hid
  -- the lines
  refine wpS_loop (ι := Nat × Nat) (fun s => [(1, .ptr 0 0 0), (2, .bool false), (3, .int .i64 o.code.size), (9, .int .i64 s.1)]) (fun s => ⟨[(0, .cells o.av)], s.2⟩) (fun s => o.lines.length - s.1) (fun s => s.1 ≤ o.lines.length ∧ ∀ j, j < s.1 → lineOk o.code.size o.lines j = true) (0, nx) (by simp) (Env.le_of (by simp)) (by simp [Deck.av]) ?_
  intro ⟨i, nx⟩ ⟨hi, hall⟩
  simp only at hi hall
  have hw : IntKind.i64.wrap (i + 1) = i + 1 := wrap64 (by omega) (by omega)
  have hw1 : IntKind.i64.wrap ((o.code.size : Int) - 1) = (o.code.size : Int) - 1 := wrap64 (by omega) (by omega)
  simp [Deck.av]
  refine br_cond rfl (fun h4 => ?_) (fun h4 => ?_)
  · have hlt : i < o.lines.length := by have := ltI_t.1 h4; omega
    have bad : lineOk o.code.size o.lines i = false → deckOk o = false := fun h => by simp [deckOk, all_f hlt h]
    have good : lineOk o.code.size o.lines i = true → ∀ j, j < i + 1 → lineOk o.code.size o.lines j = true := upto hall
    simp [h4, idxM, DLine.av, hw1]
    refine xdcall_p rfl (call62 (ix o.lines i).at_ 0 (o.code.size - 1)) rfl ?_
    simp
    refine br_dguard_f rfl (fun h5 => ?_) (fun h5 => ?_) <;> simp at h5
    · simp [h5, cr63, bad (by simp [lineOk, h5])]
    simp [h5]
    refine br_dguard_f rfl (fun h6 => ?_) (fun h6 => ?_) <;> simp at h6
    · simp [h6, cr63, bad (by simp [lineOk, h6])]
    simp [h6]
    refine xdcall_p rfl (call62 (ix o.lines i).stmt 0 1000000000) rfl ?_
    simp
    refine br_dguard_f rfl (fun h7 => ?_) (fun h7 => ?_) <;> simp at h7
    · simp [h7, cr63, bad (by simp [lineOk, h7])]
    simp [h7]
    refine br_dguard_t rfl (fun h8 => ?_) (fun h8 => ?_)
    · have h0 := ltI_t.1 h8
      have hwm : IntKind.i64.wrap (i - 1) = ((i - 1 : Nat) : Int) := by rw [wrap64 (by omega) (by omega)]; omega
      have h9 : ltI ↑(i - 1) ↑o.lines.length = true := ltN (by omega)
      simp [h8, hwm, h9, idxM, DLine.av]
      refine br_cond rfl (fun h10 => ?_) (fun h10 => ?_)
      · simp [cr63, bad (by simp [lineOk, h8, h10])]
      · simp [hw]
        exact ⟨i + 1, ⟨by omega, good (by simp [lineOk, h5, h6, h7, h10])⟩, by omega, Env.le_of (by simp), nx + 1, Mem.le_of rfl (by simp)⟩
    · simp [h8, hw]
      exact ⟨i + 1, ⟨by omega, good (by simp [lineOk, h5, h6, h7, h8])⟩, by omega, Env.le_of (by simp), nx + 1, Mem.le_of rfl (by simp)⟩
  have hid : i = o.lines.length := by have := ltI_f.1 h4; omega
  have hL : (List.range o.lines.length).all (lineOk o.code.size o.lines) = true := all_t (by rw [← hid]; exact hall)
  simp [h4, cr63, deckOk, h1, h2, h3, hD, hR, hL]
end Go.Pm

/- LkC4: contracts: the linker's Valid. -/
namespace Go.Pm
open Go Go.Proofs
attribute [-simp] List.getElem?_map

theorem beq_eqS (a b : ByteArray) : (a == b) = eqS b a := by
  unfold eqS
  rw [← beq_toListBytes]
  cases h : (a == b) with
  | true => rw [beq_bytes] at h; subst h; exact ((beq_bytes a a).2 rfl).symm
  | false =>
    cases h2 : (b == a) with
    | false => rfl
    | true => rw [beq_bytes] at h2; subst h2; rw [(beq_bytes b b).2 rfl] at h; cases h

theorem eqI_comm (a b : Int) : eqI a b = eqI b a := by simp only [eqI, Bool.beq_comm]

/-- A set of texts, or of numbers, as a map. -/
def setS (l : List ByteArray) : List (AV × AV) := l.map fun s => (.str s, .bool true)
def setI (l : List Int) : List (AV × AV) := l.map fun s => (.int .i64 s, .bool true)

def hasS (l : List ByteArray) (s : ByteArray) : Bool := l.any fun x => eqS x s
def hasI (l : List Int) (s : Int) : Bool := l.any fun x => eqI x s
def optB (c : Bool) : Option AV := if c = true then some (.bool true) else none

theorem findS (s : ByteArray) : ∀ l : List ByteArray, findA (.str s) (setS l) = some (optB (hasS l s))
  | [] => rfl
  | x :: l => by
    have ih := findS s l
    unfold setS at ih ⊢
    rw [List.map_cons, findA]
    unfold hasS optB at ih ⊢
    simp only [keyEq, beq_eqS, List.any_cons]
    rcases Bool.eq_false_or_eq_true (eqS x s) with h | h
    · simp [h]
    · simpa [h] using ih
theorem updS (s : ByteArray) : ∀ l : List ByteArray, hasS l s = false → updA (.str s) (.bool true) (setS l) = some (setS (l ++ [s]))
  | [], _ => rfl
  | x :: l, h => by
    simp only [hasS, List.any_cons, Bool.or_eq_false_iff] at h
    have ih := updS s l h.2
    unfold setS at ih ⊢
    rw [List.map_cons, updA]
    simp only [keyEq, beq_eqS, h.1]
    rw [ih]; rfl
theorem findI (s : Int) : ∀ l : List Int, findA (.int .i64 s) (setI l) = some (optB (hasI l s))
  | [] => rfl
  | x :: l => by
    have ih := findI s l
    unfold setI at ih ⊢
    rw [List.map_cons, findA]
    unfold hasI optB at ih ⊢
    simp only [keyEq, if_true, List.any_cons]
    rw [show (s == x) = eqI x s from eqI_comm s x]
    rcases Bool.eq_false_or_eq_true (eqI x s) with h | h
    · simp [h]
    · simpa [h] using ih
theorem updI (s : Int) : ∀ l : List Int, hasI l s = false → updA (.int .i64 s) (.bool true) (setI l) = some (setI (l ++ [s]))
  | [], _ => rfl
  | x :: l, h => by
    simp only [hasI, List.any_cons, Bool.or_eq_false_iff] at h
    have ih := updI s l h.2
    unfold setI at ih ⊢
    rw [List.map_cons, updA]
    simp only [keyEq, if_true]
    rw [show (s == x) = eqI x s from eqI_comm s x, h.1]
    simp only []
    rw [ih]; rfl
theorem getD_b (c : Bool) : (optB c).getD (AV.bool false) = AV.bool c := by cases c <;> rfl
theorem any_all {n : Nat} {p : Nat → Bool} : ((List.range n).any p) = !((List.range n).all fun k => !p k) := by
  rw [List.not_all_eq_any_not]; simp

theorem hasS_range {n : Nat} {g : Nat → ByteArray} {s : ByteArray} : hasS ((List.range n).map g) s = !((List.range n).all fun k => !eqS (g k) s) := by
  unfold hasS; rw [List.any_map, Function.comp_def, any_all]
theorem hasI_range {n : Nat} {g : Nat → Int} {s : Int} : hasI ((List.range n).map g) s = !((List.range n).all fun k => !eqI (g k) s) := by
  unfold hasI; rw [List.any_map, Function.comp_def, any_all]

attribute [simp] lookA isKey findS findI getD_b

/-- A line behind the last one. -/
def lastAt (ds : List DLine) (i : Nat) : Int := if i = 0 then -1 else (ix ds (i - 1)).at_

theorem lineOk_next {n : Int} {ds : List DLine} {i : Nat} (hall : ∀ j, j < i → lineOk n ds j = true) :
    lineOk n ds i = (!leI (ix ds i).at_ (lastAt ds i) && !leI n (ix ds i).at_ && eqI ((ix ds i).at_.tmod 2) 0 && !ltI (ix ds i).stmt 0 && !ltI 1000000000 (ix ds i).stmt) := by
  have hz : i ≠ 0 → 0 ≤ (ix ds (i - 1)).at_ := fun h => by
    have h1 := hall (i - 1) (by omega)
    simp only [lineOk, withinF, Bool.and_eq_true] at h1
    exact leI_t.1 h1.1.1.1.1
  rw [Bool.eq_iff_iff]
  simp only [lineOk, withinF, Bool.and_eq_true, Bool.not_eq_true', Bool.and_eq_false_iff, leI_t, leI_f, ltI_f, lastAt]
  rcases Nat.eq_zero_or_pos i with h0 | h0
  · subst h0
    simp only [if_true]
    constructor
    · rintro ⟨⟨⟨⟨a, b⟩, c⟩, d, e⟩, f⟩; exact ⟨⟨⟨⟨by omega, by omega⟩, c⟩, d⟩, e⟩
    · rintro ⟨⟨⟨⟨a, b⟩, c⟩, d⟩, e⟩; exact ⟨⟨⟨⟨by omega, by omega⟩, c⟩, d, e⟩, .inl (by omega)⟩
  · have := hz (by omega)
    rw [if_neg (by omega)]
    constructor
    · rintro ⟨⟨⟨⟨a, b⟩, c⟩, d, e⟩, f⟩; exact ⟨⟨⟨⟨by rcases f with f | f <;> omega, by omega⟩, c⟩, d⟩, e⟩
    · rintro ⟨⟨⟨⟨a, b⟩, c⟩, d⟩, e⟩; exact ⟨⟨⟨⟨by omega, by omega⟩, c⟩, d, e⟩, .inr (by omega)⟩

set_option maxHeartbeats 4000000 in
theorem call52 (o : Deck) (hs : o.Small) : PCalls Try.prog 52 [.agg o.av] fun out => out = .ret (.bool (deckOk o)) := by
  refine ok52.pcalls (by simp) ?_
  simp [c52, Deck.av]
  refine xcall_p (call71 o.name hs.name) rfl ?_
  simp
  refine br_guard_f rfl (fun h1 => ?_) (fun h1 => ?_) <;> simp at h1
  · simp [h1, cr52, deckOk]
  simp [h1]
  refine br_guard_f rfl (fun h2 => ?_) (fun h2 => ?_)
  · simp [h2, cr52, deckOk]
  simp [h2]
  refine br_cond rfl (fun h3 => ?_) (fun h3 => ?_) <;> simp at h3
  · simp [h3, cr52, deckOk]
  simp
  have dl := hs.defs
  have rl := hs.refs
  have ll := hs.lines
  have cl := hs.code
  -- the names
  refine wpS_loop (ι := Nat × Nat) (fun s => [(1, .ptr 0 0 0), (2, .bool false), (3, .int .i64 o.code.size), (4, .map 1 1), (5, .map 2 2), (32, .list true 2 (o.defs.map DDef.av)), (33, .int .i64 o.defs.length), (34, .int .i64 s.1)])
    (fun s => ⟨[(0, .cells o.av), (1, .map (setS ((List.range s.1).map fun j => (ix o.defs j).name))), (2, .map [])], s.2⟩) (fun s => o.defs.length - s.1) (fun s => s.1 ≤ o.defs.length ∧ ∀ j, j < s.1 → defOk o.code.size o.defs j = true) (0, 3) (by simp) (Env.le_of (by simp)) (by simp [Deck.av, setS]) ?_
  intro ⟨i, nx⟩ ⟨hi, hall⟩
  simp only at hi hall
  have hw : IntKind.i64.wrap (i + 1) = i + 1 := wrap64 (by omega) (by omega)
  simp [Deck.av]
  refine br_cond rfl (fun h4 => ?_) (fun h4 => ?_)
  · have hlt : i < o.defs.length := by have := ltI_t.1 h4; omega
    have bad : defOk o.code.size o.defs i = false → deckOk o = false := fun h => by simp [deckOk, all_f hlt h]
    simp [h4, idxM, DDef.av]
    refine xcall_p (call71 (ix o.defs i).name (hs.dname _ (ix_mem hlt))) rfl ?_
    simp
    refine br_guard_f rfl (fun h5 => ?_) (fun h5 => ?_) <;> simp at h5
    · simp [h5, cr52, bad (by simp [defOk, h5])]
    have goodn : (((List.range i).all fun k => !eqS (ix o.defs k).name (ix o.defs i).name) = true) → leI 0 (ix o.defs i).at_ = true → leI (ix o.defs i).at_ o.code.size = true → eqI ((ix o.defs i).at_.tmod 2) 0 = true → ∀ j, j < i + 1 → defOk o.code.size o.defs j = true :=
      fun a b c d => upto hall (by simp only [defOk, h5, a, withinF, b, c, d, Bool.and_self])
    simp [h5]
    refine br_guard_f rfl (fun h6 => ?_) (fun h6 => ?_) <;> have h6' := h6 <;> rw [hasS_range] at h6' <;> simp only [Bool.not_eq_true', Bool.not_eq_false'] at h6'
    · simp [h6, cr52, bad (by simp only [defOk, h6', Bool.and_false])]
    simp [h6]
    refine br_guard_f rfl (fun h7 => ?_) (fun h7 => ?_)
    · simp [h7, cr52, bad (by simp [defOk, withinF, leI_f.2 (ltI_t.1 h7)])]
    have h7' := leI_t.2 (ltI_f.1 h7)
    simp [h7]
    refine br_guard_f rfl (fun h8 => ?_) (fun h8 => ?_)
    · simp [h8, cr52, bad (by simp [defOk, withinF, leI_f.2 (ltI_t.1 h8)])]
    have h8' := leI_t.2 (ltI_f.1 h8)
    simp [h8]
    refine br_cond rfl (fun h9 => ?_) (fun h9 => ?_) <;> simp at h9
    · simp [cr52, bad (by simp [defOk, h9])]
    have hu : updA (.str (ix o.defs i).name) (.bool true) (setS ((List.range i).map fun j => (ix o.defs j).name)) = some (setS ((List.range (i + 1)).map fun j => (ix o.defs j).name)) := by
      rw [updS _ _ h6, List.range_succ, List.map_append]; rfl
    simp [hu, hw]
    exact ⟨i + 1, ⟨by omega, goodn h6' h7' h8' h9⟩, by omega, Env.le_of (by simp), nx + 1, Mem.le_of rfl (by simp)⟩
  clear hw
  have hid : i = o.defs.length := by have := ltI_f.1 h4; omega
  have hD : (List.range o.defs.length).all (defOk o.code.size o.defs) = true := all_t (by rw [← hid]; exact hall)
  clear hall hi
  simp [h4]
  clear h4 hid
  -- the places
  refine wpS_loop (ι := Nat × Nat) (fun s => [(1, .ptr 0 0 0), (2, .bool false), (3, .int .i64 o.code.size), (5, .map 2 2), (70, .list true 3 (o.refs.map DRef.av)), (71, .int .i64 o.refs.length), (72, .int .i64 s.1)])
    (fun s => ⟨[(0, .cells o.av), (1, .map (setS ((List.range i).map fun j => (ix o.defs j).name))), (2, .map (setI ((List.range s.1).map fun j => (ix o.refs j).at_)))], s.2⟩) (fun s => o.refs.length - s.1) (fun s => s.1 ≤ o.refs.length ∧ ∀ j, j < s.1 → refOk o.code.size o.refs j = true) (0, nx) (by simp) (Env.le_of (by simp)) (by simp [Deck.av, setI]) ?_
  intro ⟨i', nx⟩ ⟨hi, hall⟩
  simp only at hi hall
  have hw : IntKind.i64.wrap (i' + 1) = i' + 1 := wrap64 (by omega) (by omega)
  have hw4 : IntKind.i64.wrap ((o.code.size : Int) - 4) = (o.code.size : Int) - 4 := wrap64 (by omega) (by omega)
  simp [Deck.av]
  refine br_cond rfl (fun h4 => ?_) (fun h4 => ?_)
  · have hlt : i' < o.refs.length := by have := ltI_t.1 h4; omega
    have bad : refOk o.code.size o.refs i' = false → deckOk o = false := fun h => by simp [deckOk, all_f hlt h]
    simp [h4, idxM, DRef.av]
    refine xcall_p (call71 (ix o.refs i').name (hs.rname _ (ix_mem hlt))) rfl ?_
    simp
    refine br_guard_f rfl (fun h5 => ?_) (fun h5 => ?_) <;> simp at h5
    · simp [h5, cr52, bad (by simp [refOk, h5])]
    simp [h5]
    refine br_guard_f rfl (fun h6 => ?_) (fun h6 => ?_) <;> have h6' := h6 <;> rw [hasI_range] at h6' <;> simp only [Bool.not_eq_true', Bool.not_eq_false'] at h6'
    · simp [h6, cr52, bad (by simp only [refOk, h6', Bool.and_false])]
    simp [h6]
    refine br_guard_f rfl (fun h7 => ?_) (fun h7 => ?_)
    · simp [h7, cr52, bad (by simp [refOk, withinF, leI_f.2 (ltI_t.1 h7)])]
    have h7' := leI_t.2 (ltI_f.1 h7)
    simp [h7, hw4]
    refine br_guard_f rfl (fun h8 => ?_) (fun h8 => ?_)
    · simp [h8, cr52, bad (by simp [refOk, withinF, leI_f.2 (ltI_t.1 h8)])]
    have h8' := leI_t.2 (ltI_f.1 h8)
    simp [h8]
    refine br_guard_f rfl (fun h9 => ?_) (fun h9 => ?_) <;> simp at h9
    · simp [h9, cr52, bad (by simp [refOk, h9])]
    simp [h9]
    refine br_guard_f rfl (fun h10 => ?_) (fun h10 => ?_)
    · simp [h10, cr52, bad (by simp [refOk, withinF, leI_f.2 (ltI_t.1 h10)])]
    have h10' := leI_t.2 (ltI_f.1 h10)
    simp [h10]
    refine br_cond rfl (fun h11 => ?_) (fun h11 => ?_)
    · simp [cr52, bad (by simp [refOk, withinF, leI_f.2 (ltI_t.1 h11)])]
    have h11' := leI_t.2 (ltI_f.1 h11)
    have hu : updA (.int .i64 (ix o.refs i').at_) (.bool true) (setI ((List.range i').map fun j => (ix o.refs j).at_)) = some (setI ((List.range (i' + 1)).map fun j => (ix o.refs j).at_)) := by
      rw [updI _ _ h6, List.range_succ, List.map_append]; rfl
    have good : ∀ j, j < i' + 1 → refOk o.code.size o.refs j = true := upto hall (by simp only [refOk, h5, withinF, h6', h7', h8', h9, h10', h11', Bool.and_self])
    simp [hu, hw]
    exact ⟨i' + 1, ⟨by omega, good⟩, by omega, Env.le_of (by simp), nx + 1, Mem.le_of rfl (by simp)⟩
  clear hw
  have hid : i' = o.refs.length := by have := ltI_f.1 h4; omega
  have hR : (List.range o.refs.length).all (refOk o.code.size o.refs) = true := all_t (by rw [← hid]; exact hall)
  clear hall hi
  simp [h4]
  clear h4 hid
  -- the lines
  refine wpS_loop (ι := Nat × Nat) (fun s => [(1, .ptr 0 0 0), (2, .bool false), (3, .int .i64 o.code.size), (10, .int .i64 (lastAt o.lines s.1)), (119, .list true 2 (o.lines.map DLine.av)), (120, .int .i64 o.lines.length), (121, .int .i64 s.1)])
    (fun s => ⟨[(0, .cells o.av), (1, .map (setS ((List.range i).map fun j => (ix o.defs j).name))), (2, .map (setI ((List.range i').map fun j => (ix o.refs j).at_)))], s.2⟩) (fun s => o.lines.length - s.1) (fun s => s.1 ≤ o.lines.length ∧ ∀ j, j < s.1 → lineOk o.code.size o.lines j = true) (0, nx) (by simp) (Env.le_of (by simp [lastAt])) (by simp [Deck.av]) ?_
  intro ⟨k, nx⟩ ⟨hi, hall⟩
  simp only at hi hall
  have hw : IntKind.i64.wrap (k + 1) = k + 1 := wrap64 (by omega) (by omega)
  simp [Deck.av]
  refine br_cond rfl (fun h4 => ?_) (fun h4 => ?_)
  · have hlt : k < o.lines.length := by have := ltI_t.1 h4; omega
    have bad : lineOk o.code.size o.lines k = false → deckOk o = false := fun h => by simp [deckOk, all_f hlt h]
    have hn := lineOk_next hall
    simp [h4, idxM, DLine.av]
    refine br_guard_f rfl (fun h5 => ?_) (fun h5 => ?_)
    · simp [h5, cr52, bad (by rw [hn]; simp [h5])]
    simp [h5]
    refine br_guard_f rfl (fun h6 => ?_) (fun h6 => ?_)
    · simp [h6, cr52, bad (by rw [hn]; simp [h6])]
    simp [h6]
    refine br_guard_f rfl (fun h7 => ?_) (fun h7 => ?_) <;> simp at h7
    · simp [h7, cr52, bad (by rw [hn]; simp [h7])]
    simp [h7]
    refine br_guard_f rfl (fun h8 => ?_) (fun h8 => ?_)
    · simp [h8, cr52, bad (by rw [hn]; simp [h8])]
    simp [h8]
    refine br_cond rfl (fun h9 => ?_) (fun h9 => ?_)
    · simp [cr52, bad (by rw [hn]; simp [h9])]
    simp [hw]
    exact ⟨k + 1, ⟨by omega, upto hall (by rw [hn]; simp [h5, h6, h7, h8, h9])⟩, by omega, Env.le_of (by simp [lastAt]), nx + 1, Mem.le_of rfl (by simp)⟩
  have hid : k = o.lines.length := by have := ltI_f.1 h4; omega
  have hL : (List.range o.lines.length).all (lineOk o.code.size o.lines) = true := all_t (by rw [← hid]; exact hall)
  simp [h4, cr52, deckOk, h1, h2, h3, hD, hR, hL]
end Go.Pm

/- LkC5: contracts: the names that an object defines. -/
namespace Go.Pm
open Go Go.Proofs
attribute [-simp] List.getElem?_map

theorem drop_ix {α : Type} [Inhabited α] {l : List α} {i : Nat} (h : i < l.length) : l.drop i = ix l i :: l.drop (i + 1) := by
  rw [List.drop_eq_getElem_cons h]
  simp [ix, List.getD, h]

@[simp] theorem take_map {α β : Type} {l : List α} {f : α → β} : (l.map f).take l.length = l.map f := by
  rw [List.take_of_length_le (by simp)]

def outerF (ds : List DDef) (name : ByteArray) : Option Int := (ds.find? fun d => eqS d.name name).map (·.at_)

theorem call65 (p : Bool) (ds : List DDef) (name : ByteArray) (hl : ds.length ≤ 4000000000000) : PCalls Try.prog 65 [.list p 2 (ds.map DDef.av), .str name] fun out => out = .ret (.tuple [.int .i64 ((outerF ds name).getD 0), .bool (outerF ds name).isSome]) := by
  refine ok65.pcalls (by simp) ?_
  simp [c65]
  refine wpS_loop (ι := Nat) (fun i => [(0, .list p 2 (ds.map DDef.av)), (1, .str name), (6, .int .i64 i)]) (fun _ => ⟨[], 0⟩) (fun i => ds.length - i) (fun i => i ≤ ds.length ∧ outerF (ds.drop i) name = outerF ds name) 0 (by simp) (Env.le_of (by simp)) rfl ?_
  intro i ⟨hi, hall⟩
  have hw : IntKind.i64.wrap (i + 1) = i + 1 := wrap64 (by omega) (by omega)
  simp
  refine br_cond rfl (fun h => ?_) (fun h => ?_)
  · have hlt : i < ds.length := by have := ltI_t.1 h; omega
    rw [drop_ix hlt] at hall
    simp [h, idxM, DDef.av]
    refine br_cond rfl (fun h1 => ?_) (fun h1 => ?_)
    · have : outerF ds name = some (ix ds i).at_ := by rw [← hall]; simp [outerF, h1]
      simp [h, idxM, DDef.av, cr65, this]
    · simp [hw]
      exact ⟨i + 1, ⟨by omega, by rw [← hall]; simp [outerF, h1]⟩, by omega, Env.le_of (by simp), Mem.le_of rfl (by simp)⟩
  · have hid : i = ds.length := by have := ltI_f.1 h; omega
    have : outerF ds name = none := by rw [← hall, hid]; simp [outerF]
    simp [h, cr65, this]

def defsF (o : Deck) : List DDef := if o.defs.any (fun d => eqS d.name o.name) then o.defs else o.defs ++ [⟨o.name, 0⟩]

theorem call64 (o : Deck) (hs : o.Small) : PCalls Try.prog 64 [.agg o.av] fun out => out = .ret (.list true 2 ((defsF o).map DDef.av)) := by
  refine ok64.pcalls (by simp) ?_
  simp [c64, Deck.av, appendA]
  have dl := hs.defs
  have hc : o.defs.length * 24 ≤ 140737488355328 ∧ o.defs.length ≤ 9223372036854775807 := ⟨by omega, by omega⟩
  simp [hc]
  refine wpS_loop (ι := Nat) (fun i => [(1, .ptr 0 0 0), (3, .row 1 1 2 0 o.defs.length), (4, .int .i64 i)]) (fun _ => ⟨[(0, .cells o.av), (1, .row 40 2 (o.defs.map DDef.av))], 2⟩) (fun i => o.defs.length - i)
    (fun i => i ≤ o.defs.length ∧ o.defs.any (fun d => eqS d.name o.name) = (o.defs.drop i).any fun d => eqS d.name o.name) 0 (by simp) (Env.le_of (by simp)) (by simp [Deck.av]) ?_
  intro i ⟨hi, hall⟩
  have hw : IntKind.i64.wrap (i + 1) = i + 1 := wrap64 (by omega) (by omega)
  simp [Deck.av]
  refine br_cond rfl (fun h => ?_) (fun h => ?_)
  · have hlt : i < o.defs.length := by have := ltI_t.1 h; omega
    rw [drop_ix hlt] at hall
    simp [h, idxM, DDef.av]
    refine br_cond rfl (fun h1 => ?_) (fun h1 => ?_)
    · have hd : defsF o = o.defs := by unfold defsF; rw [hall]; simp [h1]
      simp [cr64, hd]
    · simp [hw]
      exact ⟨i + 1, ⟨by omega, by rw [hall]; simp [h1]⟩, by omega, Env.le_of (by simp), Mem.le_of rfl (by simp)⟩
  · have hid : i = o.defs.length := by have := ltI_f.1 h; omega
    have hd : defsF o = o.defs ++ [⟨o.name, 0⟩] := by unfold defsF; rw [hall, hid]; simp
    have hc2 : (o.defs.length + 1) * 24 ≤ 140737488355328 ∧ o.defs.length + 1 ≤ 9223372036854775807 := ⟨by omega, by omega⟩
    simp [h, cr64, hd, appendA, hc2]
    have e : o.defs.map DDef.av ++ [[AV.str o.name, AV.int IntKind.i64 0]] = (o.defs ++ [(⟨o.name, 0⟩ : DDef)]).map DDef.av := by simp [DDef.av]
    have e1 : o.defs.length + 1 = (o.defs ++ [(⟨o.name, 0⟩ : DDef)]).length := by simp
    have e2 : o.defs.map DDef.av ++ [DDef.av ⟨o.name, 0⟩] = (o.defs ++ [(⟨o.name, 0⟩ : DDef)]).map DDef.av := by simp
    rw [e, e1, take_map, perm_defs, e2]
    exact ⟨rfl, rfl⟩

def definesF (o : Deck) (name : ByteArray) : Bool := (defsF o).any fun d => eqS d.name name

theorem defsF_len (o : Deck) : (defsF o).length ≤ o.defs.length + 1 := by
  unfold defsF; split <;> simp

theorem call83 (o : Deck) (hs : o.Small) (name : ByteArray) : PCalls Try.prog 83 [.agg o.av, .str name] fun out => out = .ret (.bool (definesF o name)) := by
  refine ok83.pcalls (by simp) ?_
  have hal : o.av.all AV.one = true := by simp [Deck.av]
  have hol : o.av.length = 5 := by simp [Deck.av]
  simp [c83, hal, hol]
  rw [List.take_of_length_le (by omega)]
  refine xcall_p (call64 o hs) (by simp) ?_
  simp
  have dl := hs.defs
  have dl2 := defsF_len o
  generalize hds : defsF o = ds at *
  have hdf : definesF o name = ds.any fun d => eqS d.name name := by rw [← hds]; rfl
  refine wpS_loop (ι := Nat) (fun i => [(1, .str name), (5, .list true 2 (ds.map DDef.av)), (6, .int .i64 i)]) (fun _ => ⟨[(0, .cells o.av)], 1⟩) (fun i => ds.length - i)
    (fun i => i ≤ ds.length ∧ definesF o name = (ds.drop i).any fun d => eqS d.name name) 0 (by simp [hdf]) (Env.le_of (by simp)) (by simp) ?_
  intro i ⟨hi, hall⟩
  have hw : IntKind.i64.wrap (i + 1) = i + 1 := wrap64 (by omega) (by omega)
  simp
  refine br_cond rfl (fun h => ?_) (fun h => ?_)
  · have hlt : i < ds.length := by have := ltI_t.1 h; omega
    rw [drop_ix hlt] at hall
    simp [h, idxM, DDef.av]
    refine br_cond rfl (fun h1 => ?_) (fun h1 => ?_)
    · simp [cr83, hall, h1]
    · simp [hw]
      exact ⟨i + 1, ⟨by omega, by rw [hall]; simp [h1]⟩, by omega, Env.le_of (by simp), Mem.le_of rfl (by simp)⟩
  · have hid : i = ds.length := by have := ltI_f.1 h; omega
    subst hid
    simp [h, cr83, hall]

structure SmallL (l : List Deck) : Prop where
  len : l.length ≤ 2000000
  each : ∀ o ∈ l, o.Small

def knownF (l : List Deck) (name : ByteArray) : Bool := l.any fun o => definesF o name

theorem deck_take (o : Deck) : o.av.take 5 = o.av := List.take_of_length_le (by simp [Deck.av])
@[simp] theorem deck_len (o : Deck) : o.av.length = 5 := by simp [Deck.av]
@[simp] theorem deck_one (o : Deck) : o.av.all AV.one = true := by simp [Deck.av]

theorem call66 (p : Bool) (l : List Deck) (hl : SmallL l) (name : ByteArray) : PCalls Try.prog 66 [.list p 5 (l.map Deck.av), .str name] fun out => out = .ret (.bool (knownF l name)) := by
  refine ok66.pcalls (by simp) ?_
  have dl := hl.len
  simp [c66]
  refine wpS_loop (ι := Nat) (fun i => [(0, .list p 5 (l.map Deck.av)), (1, .str name), (5, .int .i64 i)]) (fun _ => ⟨[], 0⟩) (fun i => l.length - i)
    (fun i => i ≤ l.length ∧ knownF l name = (l.drop i).any fun o => definesF o name) 0 (by simp [knownF]) (Env.le_of (by simp)) (by simp) ?_
  intro i ⟨hi, hall⟩
  have hw : IntKind.i64.wrap (i + 1) = i + 1 := wrap64 (by omega) (by omega)
  simp
  refine br_cond rfl (fun h => ?_) (fun h => ?_)
  · have hlt : i < l.length := by have := ltI_t.1 h; omega
    rw [drop_ix hlt] at hall
    simp [h, idxM, deck_take]
    refine xcall_p (call83 (ix l i) (hl.each _ (ix_mem hlt)) name) (by simp) ?_
    simp
    refine br_cond rfl (fun h1 => ?_) (fun h1 => ?_)
    · simp [cr66, hall, h1]
    · simp [hw]
      exact ⟨i + 1, ⟨by omega, by rw [hall]; simp [h1]⟩, by omega, Env.le_of (by simp), Mem.le_of rfl (by simp)⟩
  · have hid : i = l.length := by have := ltI_f.1 h; omega
    subst hid
    simp [h, cr66, hall]
end Go.Pm

/- LkC6: contracts: all valid; lists that are the same; an object of a library. -/
namespace Go.Pm
open Go Go.Proofs
attribute [-simp] List.getElem?_map

structure SmallLL (l : List (List Deck)) : Prop where
  len : l.length ≤ 2000000
  each : ∀ o ∈ l, SmallL o

def libAV (l : List Deck) : List AV := [decksAV l]

def allF (l : List Deck) (libs : List (List Deck)) : Bool := l.all deckOk && libs.all fun x => x.all deckOk

theorem call32 (p q : Bool) (l : List Deck) (libs : List (List Deck)) (hl : SmallL l) (hb : SmallLL libs) : PCalls Try.prog 32 [.list p 5 (l.map Deck.av), .list q 1 (libs.map libAV)] fun out => out = .ret (.bool (allF l libs)) := by
  refine ok32.pcalls (by simp) ?_
  have dl := hl.len
  have bl := hb.len
  simp [c32]
  refine wpS_loop (ι := Nat) (fun i => [(0, .list p 5 (l.map Deck.av)), (1, .list q 1 (libs.map libAV)), (5, .int .i64 i)]) (fun _ => ⟨[], 0⟩) (fun i => l.length - i)
    (fun i => i ≤ l.length ∧ l.all deckOk = (l.drop i).all deckOk) 0 (by simp) (Env.le_of (by simp)) (by simp) ?_
  intro i ⟨hi, hall⟩
  have hw : IntKind.i64.wrap (i + 1) = i + 1 := wrap64 (by omega) (by omega)
  simp
  refine br_cond rfl (fun h => ?_) (fun h => ?_)
  · have hlt : i < l.length := by have := ltI_t.1 h; omega
    rw [drop_ix hlt] at hall
    simp [h, idxM, deck_take]
    refine xcall_p (call63 (ix l i) (hl.each _ (ix_mem hlt))) (by simp) ?_
    simp
    refine br_cond rfl (fun h1 => ?_) (fun h1 => ?_) <;> simp at h1
    · simp [cr32, allF, hall, h1]
    · simp [hw]
      exact ⟨i + 1, ⟨by omega, by rw [hall]; simp [h1]⟩, by omega, Env.le_of (by simp), Mem.le_of rfl (by simp)⟩
  have hid : i = l.length := by have := ltI_f.1 h; omega
  subst hid
  have hA : l.all deckOk = true := by rw [hall]; simp
  clear hall hw
  simp [h]
  clear h
  refine wpS_loop (ι := Nat) (fun i => [(0, .list p 5 (l.map Deck.av)), (1, .list q 1 (libs.map libAV)), (6, .int .i64 i)]) (fun _ => ⟨[], 0⟩) (fun i => libs.length - i)
    (fun i => i ≤ libs.length ∧ (libs.all fun x => x.all deckOk) = (libs.drop i).all fun x => x.all deckOk) 0 (by simp) (Env.le_of (by simp)) (by simp) ?_
  intro i ⟨hi, hall⟩
  have hw : IntKind.i64.wrap (i + 1) = i + 1 := wrap64 (by omega) (by omega)
  simp
  refine br_cond rfl (fun h => ?_) (fun h => ?_)
  · have hlt : i < libs.length := by have := ltI_t.1 h; omega
    rw [drop_ix hlt] at hall
    have hs := hb.each _ (ix_mem hlt)
    have sl := hs.len
    simp [h]
    refine wpS_loop (ι := Nat) (fun k => [(0, .list p 5 (l.map Deck.av)), (1, .list q 1 (libs.map libAV)), (6, .int .i64 i), (7, .int .i64 k)]) (fun _ => ⟨[], 0⟩) (fun k => (ix libs i).length - k)
      (fun k => k ≤ (ix libs i).length ∧ (ix libs i).all deckOk = ((ix libs i).drop k).all deckOk) 0 (by simp) (Env.le_of (by simp)) (by simp) ?_
    intro k ⟨hk, hka⟩
    have hwk : IntKind.i64.wrap (k + 1) = k + 1 := wrap64 (by omega) (by omega)
    simp [h, idxM, libAV, decksAV]
    refine br_cond rfl (fun h2 => ?_) (fun h2 => ?_)
    · have hlk : k < (ix libs i).length := by have := ltI_t.1 h2; omega
      rw [drop_ix hlk] at hka
      simp [h, h2, idxM, libAV, decksAV, deck_take]
      refine xcall_p (call63 (ix (ix libs i) k) (hs.each _ (ix_mem hlk))) (by simp) ?_
      simp
      refine br_cond rfl (fun h1 => ?_) (fun h1 => ?_) <;> simp at h1
      · simp only [List.all_cons, h1, Bool.false_and] at hka
        simp [cr32, allF, hall, hka]
      · simp [hwk]
        exact ⟨k + 1, ⟨by omega, by rw [hka]; simp [h1]⟩, by omega, Env.le_of (by simp), Mem.le_of rfl (by simp)⟩
    · have hkd : k = (ix libs i).length := by have := ltI_f.1 h2; omega
      have hk1 : (ix libs i).all deckOk = true := by rw [hka, hkd]; simp
      simp [h2, hw]
      exact ⟨i + 1, ⟨by omega, by rw [hall]; simp [hk1]⟩, by omega, Env.le_of (by simp), Mem.le_of rfl (by simp)⟩
  · have hid : i = libs.length := by have := ltI_f.1 h; omega
    subst hid
    simp [h, cr32, allF, hA, hall]

/-- Two names at places are the same. -/
def eqD (a b : DDef) : Bool := eqS a.name b.name && eqI a.at_ b.at_
def eqL (a b : DLine) : Bool := eqI a.at_ b.at_ && eqI a.stmt b.stmt
def defsEq (a b : List DDef) : Bool := eqI a.length b.length && (List.range a.length).all fun i => eqD (ix a i) (ix b i)
def linesEq (a b : List DLine) : Bool := eqI a.length b.length && (List.range a.length).all fun i => eqL (ix a i) (ix b i)

theorem sEq_D (a b : DDef) : scalarsEq [.str, .int] a.av b.av = some (eqD a b) := by
  simp only [DDef.av, scalarsEq, scalarEq, if_true]
  rw [beq_eqS, show (a.at_ == b.at_) = eqI a.at_ b.at_ from rfl]
  have : eqS b.name a.name = eqS a.name b.name := by rw [← beq_eqS, ← beq_eqS]; cases h : (a.name == b.name) with
    | true => rw [beq_bytes] at h; rw [h]; exact ((beq_bytes _ _).2 rfl).symm
    | false => cases h2 : (b.name == a.name) with
      | false => rfl
      | true => rw [beq_bytes] at h2; rw [h2] at h; rw [(beq_bytes _ _).2 rfl] at h; cases h
  rw [this]
  unfold eqD
  rcases Bool.eq_false_or_eq_true (eqS a.name b.name) with h | h <;> rcases Bool.eq_false_or_eq_true (eqI a.at_ b.at_) with h' | h' <;> simp [h, h']
theorem sEq_L (a b : DLine) : scalarsEq [.int, .int] a.av b.av = some (eqL a b) := by
  simp only [DLine.av, scalarsEq, scalarEq, if_true]
  rw [show (a.at_ == b.at_) = eqI a.at_ b.at_ from rfl, show (a.stmt == b.stmt) = eqI a.stmt b.stmt from rfl]
  unfold eqL
  rcases Bool.eq_false_or_eq_true (eqI a.at_ b.at_) with h | h <;> rcases Bool.eq_false_or_eq_true (eqI a.stmt b.stmt) with h' | h' <;> simp [h, h']
theorem def_take (o : DDef) : o.av.take 2 = o.av := rfl
theorem line_take (o : DLine) : o.av.take 2 = o.av := rfl
@[simp] theorem def_len (o : DDef) : o.av.length = 2 := rfl
@[simp] theorem line_len (o : DLine) : o.av.length = 2 := rfl

theorem call33 (p q : Bool) (a b : List DDef) (ha : a.length ≤ 4000000000000) (_hb : b.length ≤ 4000000000000) : PCalls Try.prog 33 [.list p 2 (a.map DDef.av), .list q 2 (b.map DDef.av)] fun out => out = .ret (.bool (defsEq a b)) := by
  refine ok33.pcalls (by simp) ?_
  simp [c33]
  refine br_cond rfl (fun h => ?_) (fun h => ?_) <;> simp at h
  · simp [cr33, defsEq, h]
  simp
  have hlen := eqI_t.1 h
  refine wpS_loop (ι := Nat) (fun i => [(0, .list p 2 (a.map DDef.av)), (1, .list q 2 (b.map DDef.av)), (5, .int .i64 i)]) (fun _ => ⟨[], 0⟩) (fun i => a.length - i)
    (fun i => i ≤ a.length ∧ ∀ j, j < i → eqD (ix a j) (ix b j) = true) 0 (by simp) (Env.le_of (by simp)) (by simp) ?_
  intro i ⟨hi, hall⟩
  have hw : IntKind.i64.wrap (i + 1) = i + 1 := wrap64 (by omega) (by omega)
  simp
  refine br_cond rfl (fun h1 => ?_) (fun h1 => ?_)
  · have hlt : i < a.length := by have := ltI_t.1 h1; omega
    have h2 : ltI ↑i ↑b.length = true := ltN (by omega)
    simp [h1, h2, idxM, def_take, sEq_D]
    refine br_cond rfl (fun h3 => ?_) (fun h3 => ?_) <;> simp at h3
    · have hA : ((List.range a.length).all fun i => eqD (ix a i) (ix b i)) = false := all_f (p := fun i => eqD (ix a i) (ix b i)) hlt h3
      have hE : defsEq a b = false := by unfold defsEq; rw [hA, Bool.and_false]
      simp [cr33, hE]
    · simp [hw]
      exact ⟨i + 1, ⟨by omega, upto hall h3⟩, by omega, Env.le_of (by simp), Mem.le_of rfl (by simp)⟩
  · have hid : i = a.length := by have := ltI_f.1 h1; omega
    have hA : ((List.range a.length).all fun i => eqD (ix a i) (ix b i)) = true := all_t (by rw [← hid]; exact hall)
    have hE : defsEq a b = true := by unfold defsEq; rw [hA, h]; rfl
    simp [h1, cr33, hE]

theorem call34 (p q : Bool) (a b : List DLine) (ha : a.length ≤ 4000000000000) (_hb : b.length ≤ 4000000000000) : PCalls Try.prog 34 [.list p 2 (a.map DLine.av), .list q 2 (b.map DLine.av)] fun out => out = .ret (.bool (linesEq a b)) := by
  refine ok34.pcalls (by simp) ?_
  simp [c34]
  refine br_cond rfl (fun h => ?_) (fun h => ?_) <;> simp at h
  · simp [cr34, linesEq, h]
  simp
  have hlen := eqI_t.1 h
  refine wpS_loop (ι := Nat) (fun i => [(0, .list p 2 (a.map DLine.av)), (1, .list q 2 (b.map DLine.av)), (5, .int .i64 i)]) (fun _ => ⟨[], 0⟩) (fun i => a.length - i)
    (fun i => i ≤ a.length ∧ ∀ j, j < i → eqL (ix a j) (ix b j) = true) 0 (by simp) (Env.le_of (by simp)) (by simp) ?_
  intro i ⟨hi, hall⟩
  have hw : IntKind.i64.wrap (i + 1) = i + 1 := wrap64 (by omega) (by omega)
  simp
  refine br_cond rfl (fun h1 => ?_) (fun h1 => ?_)
  · have hlt : i < a.length := by have := ltI_t.1 h1; omega
    have h2 : ltI ↑i ↑b.length = true := ltN (by omega)
    simp [h1, h2, idxM, line_take, sEq_L]
    refine br_cond rfl (fun h3 => ?_) (fun h3 => ?_) <;> simp at h3
    · have hA : ((List.range a.length).all fun i => eqL (ix a i) (ix b i)) = false := all_f (p := fun i => eqL (ix a i) (ix b i)) hlt h3
      have hE : linesEq a b = false := by unfold linesEq; rw [hA, Bool.and_false]
      simp [cr34, hE]
    · simp [hw]
      exact ⟨i + 1, ⟨by omega, upto hall h3⟩, by omega, Env.le_of (by simp), Mem.le_of rfl (by simp)⟩
  · have hid : i = a.length := by have := ltI_f.1 h1; omega
    have hA : ((List.range a.length).all fun i => eqL (ix a i) (ix b i)) = true := all_t (by rw [← hid]; exact hall)
    have hE : linesEq a b = true := by unfold linesEq; rw [hA, h]; rfl
    simp [h1, cr34, hE]

structure Img.Small (x : Img) : Prop where
  code : x.code.size ≤ 4000000000000
  defs : x.defs.length ≤ 4000000000000
  lines : x.lines.length ≤ 4000000000000
  names : x.names.length ≤ 4000000000000
  dname : ∀ d ∈ x.defs, d.name.size ≤ 1048576
  nname : ∀ d ∈ x.names, d.name.size ≤ 1048576

def sameF (a b : Img) : Bool := eqI a.base b.base && eqS a.code b.code && defsEq a.defs b.defs && defsEq a.names b.names && linesEq a.lines b.lines

theorem call15 (a b : Img) (ha : a.Small) (hb : b.Small) : PCalls Try.prog 15 [.agg a.av, .agg b.av] fun out => out = .ret (.bool (sameF a b)) := by
  refine ok15.pcalls (by simp) ?_
  simp [c15, Img.av]
  refine br_guard_t rfl (fun h1 => ?_) (fun h1 => ?_)
  · simp [h1]
    refine br_guard_t rfl (fun h2 => ?_) (fun h2 => ?_)
    · simp [h2]
      refine xcall_p (call33 true true a.defs b.defs ha.defs hb.defs) (by simp) ?_
      simp
      refine br_guard_t rfl (fun h3 => ?_) (fun h3 => ?_)
      · simp [h3]
        refine xcall_p (call33 true true a.names b.names ha.names hb.names) (by simp) ?_
        simp
        refine br_guard_t rfl (fun h4 => ?_) (fun h4 => ?_)
        · simp [h4]
          refine xcall_p (call34 true true a.lines b.lines ha.lines hb.lines) (by simp) ?_
          simp [cr15, sameF, h1, h2, h3, h4]
        · simp [h4, cr15, sameF]
      · simp [h3, cr15, sameF]
    · simp [h2, cr15, sameF]
  · simp [h1, cr15, sameF]
end Go.Pm
