/- ZkC4: contracts: the linker's Valid. -/
import Derived.Test.YtolfkdphlgkekaaGreatDoorGa
import Derived.KernelRfl
import Derived.Lib.Strings
namespace Go.Pm
open Go Go.Proofs
attribute [-simp] List.getElem?_map

theorem beq_eqS (a b : ByteArray) : (a == b) = eqS b a := by
  unfold eqS
  rw [← beq_toListBytes]
  cases h : (a == b) with
  | true => rw [beq_bytes] at h; subst h; exact ((beq_bytes a a).2 rfl).symm
  | false =>
    cases h2 : (b == a) with
    | false => rfl
    | true => rw [beq_bytes] at h2; subst h2; rw [(beq_bytes b b).2 rfl] at h; cases h

theorem eqI_comm (a b : Int) : eqI a b = eqI b a := by simp only [eqI, Bool.beq_comm]

/-- A set of texts, or of numbers, as a map. -/
def setS (l : List ByteArray) : List (AV × AV) := l.map fun s => (.str s, .bool true)
def setI (l : List Int) : List (AV × AV) := l.map fun s => (.int .i64 s, .bool true)

def hasS (l : List ByteArray) (s : ByteArray) : Bool := l.any fun x => eqS x s
def hasI (l : List Int) (s : Int) : Bool := l.any fun x => eqI x s
def optB (c : Bool) : Option AV := if c = true then some (.bool true) else none

theorem findS (s : ByteArray) : ∀ l : List ByteArray, findA (.str s) (setS l) = some (optB (hasS l s))
  | [] => rfl
  | x :: l => by
    have ih := findS s l
    unfold setS at ih ⊢
    rw [List.map_cons, findA]
    unfold hasS optB at ih ⊢
    simp only [keyEq, beq_eqS, List.any_cons]
    rcases Bool.eq_false_or_eq_true (eqS x s) with h | h
    · simp [h]
    · simpa [h] using ih
theorem updS (s : ByteArray) : ∀ l : List ByteArray, hasS l s = false → updA (.str s) (.bool true) (setS l) = some (setS (l ++ [s]))
  | [], _ => rfl
  | x :: l, h => by
    simp only [hasS, List.any_cons, Bool.or_eq_false_iff] at h
    have ih := updS s l h.2
    unfold setS at ih ⊢
    rw [List.map_cons, updA]
    simp only [keyEq, beq_eqS, h.1]
    rw [ih]; rfl
theorem findI (s : Int) : ∀ l : List Int, findA (.int .i64 s) (setI l) = some (optB (hasI l s))
  | [] => rfl
  | x :: l => by
    have ih := findI s l
    unfold setI at ih ⊢
    rw [List.map_cons, findA]
    unfold hasI optB at ih ⊢
    simp only [keyEq, if_true, List.any_cons]
    rw [show (s == x) = eqI x s from eqI_comm s x]
    rcases Bool.eq_false_or_eq_true (eqI x s) with h | h
    · simp [h]
    · simpa [h] using ih
theorem updI (s : Int) : ∀ l : List Int, hasI l s = false → updA (.int .i64 s) (.bool true) (setI l) = some (setI (l ++ [s]))
  | [], _ => rfl
  | x :: l, h => by
    simp only [hasI, List.any_cons, Bool.or_eq_false_iff] at h
    have ih := updI s l h.2
    unfold setI at ih ⊢
    rw [List.map_cons, updA]
    simp only [keyEq, if_true]
    rw [show (s == x) = eqI x s from eqI_comm s x, h.1]
    simp only []
    rw [ih]; rfl
theorem getD_b (c : Bool) : (optB c).getD (AV.bool false) = AV.bool c := by cases c <;> rfl
theorem any_all {n : Nat} {p : Nat → Bool} : ((List.range n).any p) = !((List.range n).all fun k => !p k) := by
  rw [List.not_all_eq_any_not]; simp

theorem hasS_range {n : Nat} {g : Nat → ByteArray} {s : ByteArray} : hasS ((List.range n).map g) s = !((List.range n).all fun k => !eqS (g k) s) := by
  unfold hasS; rw [List.any_map, Function.comp_def, any_all]
theorem hasI_range {n : Nat} {g : Nat → Int} {s : Int} : hasI ((List.range n).map g) s = !((List.range n).all fun k => !eqI (g k) s) := by
  unfold hasI; rw [List.any_map, Function.comp_def, any_all]

attribute [simp] lookA isKey findS findI getD_b

/-- A line behind the last one. -/
def lastAt (ds : List DLine) (i : Nat) : Int := if i = 0 then -1 else (ix ds (i - 1)).at_

theorem lineOk_next {n : Int} {ds : List DLine} {i : Nat} (hall : ∀ j, j < i → lineOk n ds j = true) :
    lineOk n ds i = (!leI (ix ds i).at_ (lastAt ds i) && !leI n (ix ds i).at_ && eqI ((ix ds i).at_.tmod 2) 0 && !ltI (ix ds i).stmt 0 && !ltI 1000000000 (ix ds i).stmt) := by
  have hz : i ≠ 0 → 0 ≤ (ix ds (i - 1)).at_ := fun h => by
    have h1 := hall (i - 1) (by omega)
    simp only [lineOk, withinF, Bool.and_eq_true] at h1
    exact leI_t.1 h1.1.1.1.1
  rw [Bool.eq_iff_iff]
  simp only [lineOk, withinF, Bool.and_eq_true, Bool.not_eq_true', Bool.and_eq_false_iff, leI_t, leI_f, ltI_f, lastAt]
  rcases Nat.eq_zero_or_pos i with h0 | h0
  · subst h0
    simp only [if_true]
    constructor
    · rintro ⟨⟨⟨⟨a, b⟩, c⟩, d, e⟩, f⟩; exact ⟨⟨⟨⟨by omega, by omega⟩, c⟩, d⟩, e⟩
    · rintro ⟨⟨⟨⟨a, b⟩, c⟩, d⟩, e⟩; exact ⟨⟨⟨⟨by omega, by omega⟩, c⟩, d, e⟩, .inl (by omega)⟩
  · have := hz (by omega)
    rw [if_neg (by omega)]
    constructor
    · rintro ⟨⟨⟨⟨a, b⟩, c⟩, d, e⟩, f⟩; exact ⟨⟨⟨⟨by rcases f with f | f <;> omega, by omega⟩, c⟩, d⟩, e⟩
    · rintro ⟨⟨⟨⟨a, b⟩, c⟩, d⟩, e⟩; exact ⟨⟨⟨⟨by omega, by omega⟩, c⟩, d, e⟩, .inr (by omega)⟩

set_option maxHeartbeats 4000000 in
theorem call27 (o : Deck) (hs : o.Small) : PCalls Zk.pg 27 [.agg o.av] fun out => out = .ret (.bool (deckOk o)) := by
  refine ok27.pcalls (by simp) ?_
  simp [c27, Deck.av]
  refine xcall_p (call80 o.name hs.name) rfl ?_
  simp
  refine br_guard_f rfl (fun h1 => ?_) (fun h1 => ?_) <;> simp at h1
  · simp [h1, cr27, deckOk]
  simp [h1]
  refine br_guard_f rfl (fun h2 => ?_) (fun h2 => ?_)
  · simp [h2, cr27, deckOk]
  simp [h2]
  refine br_cond rfl (fun h3 => ?_) (fun h3 => ?_) <;> simp at h3
  · simp [h3, cr27, deckOk]
  simp
  have dl := hs.defs
  have rl := hs.refs
  have ll := hs.lines
  have cl := hs.code
  -- the names
  refine wpS_loop (ι := Nat × Nat) (fun s => [(1, .ptr 0 0 0), (2, .bool false), (3, .int .i64 o.code.size), (4, .map 1 1), (5, .map 2 2), (32, .list true 2 (o.defs.map DDef.av)), (33, .int .i64 o.defs.length), (34, .int .i64 s.1)])
    (fun s => ⟨[(0, .cells o.av), (1, .map (setS ((List.range s.1).map fun j => (ix o.defs j).name))), (2, .map [])], s.2⟩) (fun s => o.defs.length - s.1) (fun s => s.1 ≤ o.defs.length ∧ ∀ j, j < s.1 → defOk o.code.size o.defs j = true) (0, 3) (by simp) (Env.le_of (by simp)) (by simp [Deck.av, setS]) ?_
  intro ⟨i, nx⟩ ⟨hi, hall⟩
  simp only at hi hall
  have hw : IntKind.i64.wrap (i + 1) = i + 1 := wrap64 (by omega) (by omega)
  simp [Deck.av]
  refine br_cond rfl (fun h4 => ?_) (fun h4 => ?_)
  · have hlt : i < o.defs.length := by have := ltI_t.1 h4; omega
    have bad : defOk o.code.size o.defs i = false → deckOk o = false := fun h => by simp [deckOk, all_f hlt h]
    simp [h4, idxM, DDef.av]
    refine xcall_p (call80 (ix o.defs i).name (hs.dname _ (ix_mem hlt))) rfl ?_
    simp
    refine br_guard_f rfl (fun h5 => ?_) (fun h5 => ?_) <;> simp at h5
    · simp [h5, cr27, bad (by simp [defOk, h5])]
    have goodn : (((List.range i).all fun k => !eqS (ix o.defs k).name (ix o.defs i).name) = true) → leI 0 (ix o.defs i).at_ = true → leI (ix o.defs i).at_ o.code.size = true → eqI ((ix o.defs i).at_.tmod 2) 0 = true → ∀ j, j < i + 1 → defOk o.code.size o.defs j = true :=
      fun a b c d => upto hall (by simp only [defOk, h5, a, withinF, b, c, d, Bool.and_self])
    simp [h5]
    refine br_guard_f rfl (fun h6 => ?_) (fun h6 => ?_) <;> have h6' := h6 <;> rw [hasS_range] at h6' <;> simp only [Bool.not_eq_true', Bool.not_eq_false'] at h6'
    · simp [h6, cr27, bad (by simp only [defOk, h6', Bool.and_false])]
    simp [h6]
    refine br_guard_f rfl (fun h7 => ?_) (fun h7 => ?_)
    · simp [h7, cr27, bad (by simp [defOk, withinF, leI_f.2 (ltI_t.1 h7)])]
    have h7' := leI_t.2 (ltI_f.1 h7)
    simp [h7]
    refine br_guard_f rfl (fun h8 => ?_) (fun h8 => ?_)
    · simp [h8, cr27, bad (by simp [defOk, withinF, leI_f.2 (ltI_t.1 h8)])]
    have h8' := leI_t.2 (ltI_f.1 h8)
    simp [h8]
    refine br_cond rfl (fun h9 => ?_) (fun h9 => ?_) <;> simp at h9
    · simp [cr27, bad (by simp [defOk, h9])]
    have hu : updA (.str (ix o.defs i).name) (.bool true) (setS ((List.range i).map fun j => (ix o.defs j).name)) = some (setS ((List.range (i + 1)).map fun j => (ix o.defs j).name)) := by
      rw [updS _ _ h6, List.range_succ, List.map_append]; rfl
    simp [hu, hw]
    exact ⟨i + 1, ⟨by omega, goodn h6' h7' h8' h9⟩, by omega, Env.le_of (by simp), nx + 1, Mem.le_of rfl (by simp)⟩
  clear hw
  have hid : i = o.defs.length := by have := ltI_f.1 h4; omega
  have hD : (List.range o.defs.length).all (defOk o.code.size o.defs) = true := all_t (by rw [← hid]; exact hall)
  clear hall hi
  simp [h4]
  clear h4 hid
  -- the places
  refine wpS_loop (ι := Nat × Nat) (fun s => [(1, .ptr 0 0 0), (2, .bool false), (3, .int .i64 o.code.size), (5, .map 2 2), (70, .list true 3 (o.refs.map DRef.av)), (71, .int .i64 o.refs.length), (72, .int .i64 s.1)])
    (fun s => ⟨[(0, .cells o.av), (1, .map (setS ((List.range i).map fun j => (ix o.defs j).name))), (2, .map (setI ((List.range s.1).map fun j => (ix o.refs j).at_)))], s.2⟩) (fun s => o.refs.length - s.1) (fun s => s.1 ≤ o.refs.length ∧ ∀ j, j < s.1 → refOk o.code.size o.refs j = true) (0, nx) (by simp) (Env.le_of (by simp)) (by simp [Deck.av, setI]) ?_
  intro ⟨i', nx⟩ ⟨hi, hall⟩
  simp only at hi hall
  have hw : IntKind.i64.wrap (i' + 1) = i' + 1 := wrap64 (by omega) (by omega)
  have hw4 : IntKind.i64.wrap ((o.code.size : Int) - 4) = (o.code.size : Int) - 4 := wrap64 (by omega) (by omega)
  simp [Deck.av]
  refine br_cond rfl (fun h4 => ?_) (fun h4 => ?_)
  · have hlt : i' < o.refs.length := by have := ltI_t.1 h4; omega
    have bad : refOk o.code.size o.refs i' = false → deckOk o = false := fun h => by simp [deckOk, all_f hlt h]
    simp [h4, idxM, DRef.av]
    refine xcall_p (call80 (ix o.refs i').name (hs.rname _ (ix_mem hlt))) rfl ?_
    simp
    refine br_guard_f rfl (fun h5 => ?_) (fun h5 => ?_) <;> simp at h5
    · simp [h5, cr27, bad (by simp [refOk, h5])]
    simp [h5]
    refine br_guard_f rfl (fun h6 => ?_) (fun h6 => ?_) <;> have h6' := h6 <;> rw [hasI_range] at h6' <;> simp only [Bool.not_eq_true', Bool.not_eq_false'] at h6'
    · simp [h6, cr27, bad (by simp only [refOk, h6', Bool.and_false])]
    simp [h6]
    refine br_guard_f rfl (fun h7 => ?_) (fun h7 => ?_)
    · simp [h7, cr27, bad (by simp [refOk, withinF, leI_f.2 (ltI_t.1 h7)])]
    have h7' := leI_t.2 (ltI_f.1 h7)
    simp [h7, hw4]
    refine br_guard_f rfl (fun h8 => ?_) (fun h8 => ?_)
    · simp [h8, cr27, bad (by simp [refOk, withinF, leI_f.2 (ltI_t.1 h8)])]
    have h8' := leI_t.2 (ltI_f.1 h8)
    simp [h8]
    refine br_guard_f rfl (fun h9 => ?_) (fun h9 => ?_) <;> simp at h9
    · simp [h9, cr27, bad (by simp [refOk, h9])]
    simp [h9]
    refine br_guard_f rfl (fun h10 => ?_) (fun h10 => ?_)
    · simp [h10, cr27, bad (by simp [refOk, withinF, leI_f.2 (ltI_t.1 h10)])]
    have h10' := leI_t.2 (ltI_f.1 h10)
    simp [h10]
    refine br_cond rfl (fun h11 => ?_) (fun h11 => ?_)
    · simp [cr27, bad (by simp [refOk, withinF, leI_f.2 (ltI_t.1 h11)])]
    have h11' := leI_t.2 (ltI_f.1 h11)
    have hu : updA (.int .i64 (ix o.refs i').at_) (.bool true) (setI ((List.range i').map fun j => (ix o.refs j).at_)) = some (setI ((List.range (i' + 1)).map fun j => (ix o.refs j).at_)) := by
      rw [updI _ _ h6, List.range_succ, List.map_append]; rfl
    have good : ∀ j, j < i' + 1 → refOk o.code.size o.refs j = true := upto hall (by simp only [refOk, h5, withinF, h6', h7', h8', h9, h10', h11', Bool.and_self])
    simp [hu, hw]
    exact ⟨i' + 1, ⟨by omega, good⟩, by omega, Env.le_of (by simp), nx + 1, Mem.le_of rfl (by simp)⟩
  clear hw
  have hid : i' = o.refs.length := by have := ltI_f.1 h4; omega
  have hR : (List.range o.refs.length).all (refOk o.code.size o.refs) = true := all_t (by rw [← hid]; exact hall)
  clear hall hi
  simp [h4]
  clear h4 hid
  -- the lines
  refine wpS_loop (ι := Nat × Nat) (fun s => [(1, .ptr 0 0 0), (2, .bool false), (3, .int .i64 o.code.size), (10, .int .i64 (lastAt o.lines s.1)), (119, .list true 2 (o.lines.map DLine.av)), (120, .int .i64 o.lines.length), (121, .int .i64 s.1)])
    (fun s => ⟨[(0, .cells o.av), (1, .map (setS ((List.range i).map fun j => (ix o.defs j).name))), (2, .map (setI ((List.range i').map fun j => (ix o.refs j).at_)))], s.2⟩) (fun s => o.lines.length - s.1) (fun s => s.1 ≤ o.lines.length ∧ ∀ j, j < s.1 → lineOk o.code.size o.lines j = true) (0, nx) (by simp) (Env.le_of (by simp [lastAt])) (by simp [Deck.av]) ?_
  intro ⟨k, nx⟩ ⟨hi, hall⟩
  simp only at hi hall
  have hw : IntKind.i64.wrap (k + 1) = k + 1 := wrap64 (by omega) (by omega)
  simp [Deck.av]
  refine br_cond rfl (fun h4 => ?_) (fun h4 => ?_)
  · have hlt : k < o.lines.length := by have := ltI_t.1 h4; omega
    have bad : lineOk o.code.size o.lines k = false → deckOk o = false := fun h => by simp [deckOk, all_f hlt h]
    have hn := lineOk_next hall
    simp [h4, idxM, DLine.av]
    refine br_guard_f rfl (fun h5 => ?_) (fun h5 => ?_)
    · simp [h5, cr27, bad (by rw [hn]; simp [h5])]
    simp [h5]
    refine br_guard_f rfl (fun h6 => ?_) (fun h6 => ?_)
    · simp [h6, cr27, bad (by rw [hn]; simp [h6])]
    simp [h6]
    refine br_guard_f rfl (fun h7 => ?_) (fun h7 => ?_) <;> simp at h7
    · simp [h7, cr27, bad (by rw [hn]; simp [h7])]
    simp [h7]
    refine br_guard_f rfl (fun h8 => ?_) (fun h8 => ?_)
    · simp [h8, cr27, bad (by rw [hn]; simp [h8])]
    simp [h8]
    refine br_cond rfl (fun h9 => ?_) (fun h9 => ?_)
    · simp [cr27, bad (by rw [hn]; simp [h9])]
    simp [hw]
    exact ⟨k + 1, ⟨by omega, upto hall (by rw [hn]; simp [h5, h6, h7, h8, h9])⟩, by omega, Env.le_of (by simp [lastAt]), nx + 1, Mem.le_of rfl (by simp)⟩
  have hid : k = o.lines.length := by have := ltI_f.1 h4; omega
  have hL : (List.range o.lines.length).all (lineOk o.code.size o.lines) = true := all_t (by rw [← hid]; exact hall)
  simp [h4, cr27, deckOk, h1, h2, h3, hD, hR, hL]
end Go.Pm

/- ZkR5: what a line of a text says; a round of the linker's Read. -/
namespace Go.Pm
open Go Go.Proofs
attribute [-simp] List.getElem?_map

/-- What lines begin with: OBJECT, CODE, DEF, REF, LINE, END; how many parts they have. -/
def wordsL : List ByteArray := [⟨#[79, 66, 74, 69, 67, 84]⟩, ⟨#[67, 79, 68, 69]⟩, ⟨#[68, 69, 70]⟩, ⟨#[82, 69, 70]⟩, ⟨#[76, 73, 78, 69]⟩, ⟨#[69, 78, 68]⟩]
def partsL : List Int := [2, 2, 3, 4, 3, 1]
def kOf (x : ByteArray) : Nat := wordsL.findIdx fun w => eqS w x

theorem kOf_is {x : ByteArray} {k : Nat} (h : k ≤ 6) (h1 : ∀ j, j < k → eqS (ix wordsL j) x = false) (h2 : k < 6 → eqS (ix wordsL k) x = true) : kOf x = k := by
  unfold kOf
  have hlen : wordsL.length = 6 := rfl
  rcases Nat.lt_or_ge k 6 with hk | hk
  · rw [List.findIdx_eq (by omega)]
    have e : ∀ (j : Nat) (hj : j < wordsL.length), wordsL[j] = ix wordsL j := fun j hj => by simp [ix, List.getD, hj]
    exact ⟨by rw [e]; exact h2 hk, fun j hj => by rw [e, h1 j hj]⟩
  · have : k = wordsL.length := by omega
    rw [this]
    refine List.findIdx_eq_length.2 fun x hx => ?_
    obtain ⟨j, hj, rfl⟩ := List.getElem_of_mem hx
    have e : wordsL[j] = ix wordsL j := by simp [ix, List.getD, hj]
    rw [e]
    exact h1 j (by omega)

/-- What is read so far: the object, the place in the order of lines, the number of lines. -/
structure RdSt where
  o : Deck
  stage : Nat
  n : Nat

def bodyR (o : Deck) (k : Nat) (l : List ByteArray) : Option Deck := match k with
  | 0 => some { o with name := ix l 1 }
  | 1 => if leI (ix l 1).size 64 && eqI ((o.code.size : Int).tmod 32) 0 then (bytesT (ix l 1)).map fun b => { o with code := o.code ++ b } else none
  | 2 => (numT (ix l 2)).map fun n => { o with defs := o.defs ++ [⟨ix l 1, n⟩] }
  | 3 => (numT (ix l 1)).bind fun a => (numT (ix l 3)).map fun b => { o with refs := o.refs ++ [⟨a, ix l 2, b⟩] }
  | 4 => (numT (ix l 1)).bind fun a => (numT (ix l 2)).map fun b => { o with lines := o.lines ++ [⟨a, b⟩] }
  | _ => some o
def stepOk (stage k : Nat) (l : List ByteArray) : Bool := ltI k 6 && (leI stage k && (ltI stage 6 && ((ltI 0 k == ltI 0 stage) && eqI l.length (ix partsL k))))
def stepR (S : RdSt) (l : List ByteArray) : Option RdSt :=
  if stepOk S.stage (kOf (ix l 0)) l then (bodyR S.o (kOf (ix l 0)) l).map fun o => ⟨o, if kOf (ix l 0) = 5 then 6 else max (kOf (ix l 0)) 1, S.n + 1⟩ else none

/-- The memory while a text is read. -/
def memR (t : ByteArray) (S : RdSt) (G : Nat × Nat × Nat) (nx : Nat) (lo : AObj) : Mem :=
  ⟨[(0, .cells [.str S.o.name, .str S.o.code, .row 9 G.1 2 0 S.o.defs.length, .row 10 G.2.1 3 0 S.o.refs.length, .row 11 G.2.2 2 0 S.o.lines.length]), (1, .cells [.int .i64 S.n]), (2, .cells [.int .i64 0]), (3, .cells [.int .i64 S.stage]),
    (4, .row 9 1 (wordsL.map fun x => [.str x])), (5, .cells [.row 4 4 1 0 6]), (6, .row 3 1 (partsL.map fun x => [.int .i64 x])), (7, .cells [.row 6 6 1 0 6]), (8, .cells [.str t]),
    (G.1, .row 65 2 (S.o.defs.map DDef.av)), (G.2.1, .row 77 3 (S.o.refs.map DRef.av)), (G.2.2, .row 79 2 (S.o.lines.map DLine.av)), (12, lo)], nx⟩
def e7 : Env := [(2, .ptr 0 0 0), (3, .ptr 1 1 0), (4, .ptr 2 2 0), (5, .ptr 3 3 0), (6, .ptr 5 5 0), (7, .ptr 7 7 0), (20, .fn 74 [.ptr 8 8 0])]
def okR : Loop → Prop := loopOk Zk.pg.toProgram Zk.imp [21] a7 b7

/-- A bad line: what the function's variables hold. -/
def BadM (n : Nat) (m : Mem) : Prop := ∃ vs v, m.obj 0 0 = some (.cells vs) ∧ vs.length = 5 ∧ m.obj 2 2 = some (.cells [v]) ∧ m.obj 1 1 = some (.cells [.int .i64 n])
/-- What comes of a round. -/
def R7 (t : ByteArray) (S : RdSt) (l : List ByteArray) (out : AOut) (m' : Mem) : Prop := match stepR S l with
  | some S' => out = .ret (.bool true) ∧ ∃ G' nx', m' = memR t S' G' nx' (.loop .ready e7 okR)
  | none => out = .panic badV ∧ BadM S.n m'

theorem rp_norm {pos gen : Nat} {e e1 : Env} {ok : Loop → Prop} {R : AOut → Mem → Prop} {m : Mem} : roundPost' pos gen e ok R .norm e1 m = (m.obj pos gen = some (.loop .busy e ok) ∧ ∃ m', Mem.le m' (m.put pos gen (.loop .ready e ok)) ∧ R (.ret (.bool true)) m') := rfl
theorem rp_panic {pos gen : Nat} {e e1 : Env} {ok : Loop → Prop} {R : AOut → Mem → Prop} {m : Mem} {v : AV} : roundPost' pos gen e ok R (.panic v) e1 m = R (.panic v) m := rfl

structure RdSt.Fit (S : RdSt) : Prop where
  n : S.n ≤ 300000
  stage : S.stage ≤ 6
  code : S.o.code.size ≤ 32 * S.n
  defs : S.o.defs.length ≤ S.n
  refs : S.o.refs.length ≤ S.n
  lines : S.o.lines.length ≤ S.n

theorem R7_bad {t : ByteArray} {S : RdSt} {G : Nat × Nat × Nat} {nx : Nat} {lo : AObj} {l : List ByteArray} (h : stepR S l = none) : R7 t S l (.panic badV) (memR t S G nx lo) := by
  unfold R7
  rw [h]
  exact ⟨rfl, _, _, rfl, rfl, rfl, rfl⟩
theorem R7_ok {t : ByteArray} {S S' : RdSt} {G : Nat × Nat × Nat} {nx : Nat} {l : List ByteArray} (h : stepR S l = some S') : R7 t S l (.ret (.bool true)) (memR t S' G nx (.loop .ready e7 okR)) := by
  unfold R7
  rw [h]
  exact ⟨rfl, _, _, rfl⟩

theorem eqq : (eqI 0 0 = true ∧ eqI 0 5 = false) ∧ (eqI 1 0 = false ∧ eqI 1 1 = true ∧ eqI 1 5 = false) ∧ (eqI 2 0 = false ∧ eqI 2 1 = false ∧ eqI 2 2 = true ∧ eqI 2 5 = false) ∧ (eqI 3 0 = false ∧ eqI 3 1 = false ∧ eqI 3 2 = false ∧ eqI 3 3 = true ∧ eqI 3 5 = false) ∧
    (eqI 4 0 = false ∧ eqI 4 1 = false ∧ eqI 4 2 = false ∧ eqI 4 3 = false ∧ eqI 4 4 = true ∧ eqI 4 5 = false) ∧ (eqI 5 0 = false ∧ eqI 5 1 = false ∧ eqI 5 2 = false ∧ eqI 5 3 = false ∧ eqI 5 4 = false ∧ eqI 5 5 = true) ∧ IntKind.i64.wrap 5 = 5 := by decide

theorem len2 {α : Type} {l : List α} (h : l.length = 2) : ∃ a b, l = [a, b] := by
  match l, h with
  | [a, b], _ => exact ⟨a, b, rfl⟩
theorem len3 {α : Type} {l : List α} (h : l.length = 3) : ∃ a b c, l = [a, b, c] := by
  match l, h with
  | [a, b, c], _ => exact ⟨a, b, c, rfl⟩

theorem bytes_size {s b : ByteArray} (h : bytesT s = some b) : b.size = s.size / 2 := by
  unfold bytesT at h
  split at h
  · injection h with h
    rw [← h]
    show (List.map _ _).toArray.size = _
    rw [List.size_toArray, List.length_map, List.length_range]
  · cases h

set_option maxHeartbeats 4000000 in
theorem round7 {t : ByteArray} {S : RdSt} {G : Nat × Nat × Nat} {nx : Nat} {l : List ByteArray} (hl : l ≠ []) (hS : S.Fit) (hx : ∀ x ∈ l, x.size ≤ 200000) : YCalls Zk.pg 12 12 [lAV l] (memR t S G nx (.loop .ready e7 okR)) (R7 t S l) := by
  obtain ⟨w0, ls, rfl⟩ : ∃ w0 ls, l = w0 :: ls := by cases l with
    | nil => exact absurd rfl hl
    | cons a b => exact ⟨a, b, rfl⟩
  refine ycalls_S (ps := [21]) (a := a7) (b := b7) (e := e7) rfl rfl ?_
  rw [show loopOk Zk.pg.toProgram Zk.imp [21] a7 b7 = okR from rfl]
  obtain ⟨⟨nm, code, defs, refs, lines⟩, stage, n⟩ := S
  obtain ⟨gd, gr, gl⟩ := G
  simp [a7, Env.sets, e7, memR]
  have hwl : wordsL.length = 6 := rfl
  have hpl : partsL.length = 6 := rfl
  have hn := hS.n
  have hstage := hS.stage
  have hcode := hS.code
  simp only at hn hstage hcode
  have hwn : IntKind.i64.wrap ((n : Int) + 1) = n + 1 := wrap64 (by omega) (by omega)
  simp [b7]
  refine wpS_loopS (ι := Nat) (fun k => [(2, .ptr 0 0 0), (3, .ptr 1 1 0), (4, .ptr 2 2 0), (5, .ptr 3 3 0), (6, .ptr 5 5 0), (7, .ptr 7 7 0), (8, lAV (w0 :: ls)), (9, .int .i64 k)])
    (fun _ => memR t ⟨⟨nm, code, defs, refs, lines⟩, stage, n⟩ (gd, gr, gl) nx (.loop .busy e7 okR)) (fun k => 6 - k) (fun k => k ≤ 6 ∧ ∀ j, j < k → eqS (ix wordsL j) w0 = false) 0 ⟨by omega, fun _ h => by omega⟩
    (Sim.of_le (Env.le_of (by simp)) (Mem.le_of rfl (by simp [memR, e7]))) ?_
  rintro k ⟨hk, hall⟩
  have hwk : IntKind.i64.wrap ((k : Int) + 1) = k + 1 := wrap64 (by omega) (by omega)
  simp [memR]
  have hix0 : ix (w0 :: ls) 0 = w0 := rfl
  have bad : stepR ⟨⟨nm, code, defs, refs, lines⟩, stage, n⟩ (w0 :: ls) = none → R7 t ⟨⟨nm, code, defs, refs, lines⟩, stage, n⟩ (w0 :: ls) (.panic badV) (memR t ⟨⟨nm, code, defs, refs, lines⟩, stage, n⟩ (gd, gr, gl) nx (.loop .busy e7 okR)) := R7_bad
  have good : ∀ (o' : Deck) (st : Nat) G' nx', stepR ⟨⟨nm, code, defs, refs, lines⟩, stage, n⟩ (w0 :: ls) = some ⟨o', st, n + 1⟩ → R7 t ⟨⟨nm, code, defs, refs, lines⟩, stage, n⟩ (w0 :: ls) (.ret (.bool true)) (memR t ⟨o', st, n + 1⟩ G' nx' (.loop .ready e7 okR)) := fun _ _ _ _ h => R7_ok h
  refine br_dguard_t rfl (fun h1 => ?_) (fun h1 => ?_)
  case refine_2 =>
    have hk6 : kOf w0 = 6 := by
      have : k = 6 := by have := ltI_f.1 h1; omega
      rw [← this]
      exact kOf_is hk hall (fun h => by omega)
    simp [h1]
    refine xcall_must (fun h => by cases h) (fun _ => ?_)
    simp [rp_panic]
    exact bad (by simp [stepR, stepOk, hix0, hk6, ltI])
  have hk6 : ltI k wordsL.length = true := h1
  have hk6' : ltI k partsL.length = true := h1
  have hlt6 := ltI_t.1 h1
  simp [h1, idxM hk6, lAV]
  refine br_cond rfl (fun h2 => ?_) (fun h2 => ?_)
  · simp [hwk]
    exact ⟨k + 1, ⟨by omega, upto hall (by simpa using h2)⟩, by omega, Sim.of_le (Env.le_of (by simp [lAV])) (Mem.le_of rfl (by simp))⟩
  have hkO : kOf w0 = k := kOf_is hk hall (fun _ => by simpa using h2)
  have badk : stepOk stage k (w0 :: ls) = false → R7 t ⟨⟨nm, code, defs, refs, lines⟩, stage, n⟩ (w0 :: ls) (.panic badV) (memR t ⟨⟨nm, code, defs, refs, lines⟩, stage, n⟩ (gd, gr, gl) nx (.loop .busy e7 okR)) := fun h => bad (by simp [stepR, hix0, hkO, h])
  simp [h1]
  refine br_guard_t rfl (fun h3 => ?_) (fun h3 => ?_)
  case refine_2 =>
    simp [h3]
    refine xcall_must (fun h => by cases h) (fun _ => ?_)
    simp [rp_panic]
    exact badk (by simp [stepOk, h3])
  simp [h3]
  refine br_guard_t rfl (fun h4 => ?_) (fun h4 => ?_)
  case refine_2 =>
    simp [h4]
    refine xcall_must (fun h => by cases h) (fun _ => ?_)
    simp [rp_panic]
    exact badk (by simp [stepOk, h4])
  simp [h4]
  refine br_guard_t rfl (fun h5 => ?_) (fun h5 => ?_)
  case refine_2 =>
    simp [h5]
    refine xcall_must (fun h => by cases h) (fun _ => ?_)
    simp [rp_panic]
    exact badk (by simp [stepOk, h5])
  simp [h5, h1, idxM hk6']
  refine xcall_must (fun h6 => ?_) (fun h6 => ?_)
  case refine_2 =>
    simp [rp_panic]
    exact badk (by simp [stepOk, h6])
  have hstep : stepOk stage k (w0 :: ls) = true := by simp [stepOk, h1, h3, h4, h5, h6]
  have e6 := eqI_t.1 h6
  have hk' : k = 0 ∨ k = 1 ∨ k = 2 ∨ k = 3 ∨ k = 4 ∨ k = 5 := by omega
  have hx' : ∀ x ∈ ls, x.size ≤ 200000 := fun x h => hx x (List.mem_cons_of_mem _ h)
  clear h1 h3 h4 h5 h6 hk6 hk6' h2 hall hwk hk
  rcases hk' with rfl | rfl | rfl | rfl | rfl | rfl
  · obtain ⟨w1, rfl⟩ : ∃ w1, ls = [w1] := List.length_eq_one_iff.1 (by have : ix partsL 0 = 2 := rfl; omega)
    simp [eqq, hwn, rp_norm]
    exact ⟨rfl, memR t ⟨⟨w1, code, defs, refs, lines⟩, 1, n + 1⟩ (gd, gr, gl) nx (.loop .ready e7 okR), Mem.le_of rfl (by simp [memR, e7]), good _ _ _ _ (by simp [stepR, hix0, hkO, hstep, bodyR, ix])⟩
  · obtain ⟨w1, rfl⟩ : ∃ w1, ls = [w1] := List.length_eq_one_iff.1 (by have : ix partsL 1 = 2 := rfl; omega)
    have hw1 : w1.size ≤ 200000 := hx' _ (by simp)
    have hi1 : ix [w0, w1] 1 = w1 := rfl
    simp [eqq]
    refine br_guard_t rfl (fun h7 => ?_) (fun h7 => ?_)
    case refine_2 =>
      simp [h7]
      refine xcall_must (fun h => by cases h) (fun _ => ?_)
      simp [rp_panic]
      exact bad (by simp [stepR, hix0, hkO, hstep, bodyR, hi1, h7])
    simp [h7]
    refine xcall_must (fun h8 => ?_) (fun h8 => ?_)
    case refine_2 =>
      simp [rp_panic]
      exact bad (by simp [stepR, hix0, hkO, hstep, bodyR, hi1, h8])
    simp
    have h25 := call25 (s := w1) (by omega)
    have h64 := leI_t.1 h7
    cases hb : bytesT w1 with
    | none =>
      rw [hb] at h25
      refine xdlast_f rfl h25 rfl ?_
      simp [rp_panic]
      exact bad (by simp [stepR, hix0, hkO, hstep, bodyR, hi1, h7, h8, hb])
    | some b =>
      rw [hb] at h25
      have hbs := bytes_size hb
      have hcs : code.size + b.size ≤ 9223372036854775807 := by omega
      refine xdlast_p rfl h25 rfl ?_
      simp [hcs, eqq, hwn, rp_norm]
      exact ⟨rfl, memR t ⟨⟨nm, code ++ b, defs, refs, lines⟩, 1, n + 1⟩ (gd, gr, gl) nx (.loop .ready e7 okR), Mem.le_of rfl (by simp [memR, e7]), good _ _ _ _ (by simp [stepR, hix0, hkO, hstep, bodyR, hi1, h7, h8, hb])⟩
  · obtain ⟨w1, w2, rfl⟩ := len2 (l := ls) (by have : ix partsL 2 = 3 := rfl; omega)
    have hw2 : w2.size ≤ 200000 := hx' _ (by simp)
    have hi1 : ix [w0, w1, w2] 1 = w1 := rfl
    have hi2 : ix [w0, w1, w2] 2 = w2 := rfl
    have hdl := hS.defs
    simp only at hdl
    have hd1 : (defs.length + 1) * 24 ≤ 140737488355328 := by omega
    have hd2 : defs.length + 1 ≤ 9223372036854775807 := by omega
    simp [eqq]
    have h26 := call26 (s := w2) (by omega)
    cases hb : numT w2 with
    | none =>
      rw [hb] at h26
      refine xdlast_f rfl h26 rfl ?_
      simp [rp_panic]
      exact bad (by simp [stepR, hix0, hkO, hstep, bodyR, hi2, hb])
    | some b =>
      rw [hb] at h26
      refine xdlast_p rfl h26 rfl ?_
      simp [appendA, hd1, hd2, eqq, hwn, rp_norm]
      exact ⟨rfl, memR t ⟨⟨nm, code, defs ++ [⟨w1, b⟩], refs, lines⟩, 2, n + 1⟩ (nx + 1, gr, gl) (nx + 2) (.loop .ready e7 okR), Mem.le_of rfl (by simp [memR, e7, DDef.av, DRef.av, DLine.av]), good _ _ _ _ (by simp [stepR, hix0, hkO, hstep, bodyR, hi1, hi2, hb])⟩
  · obtain ⟨w1, w2, w3, rfl⟩ := len3 (l := ls) (by have : ix partsL 3 = 4 := rfl; omega)
    have hw1 : w1.size ≤ 200000 := hx' _ (by simp)
    have hw3 : w3.size ≤ 200000 := hx' _ (by simp)
    have hi1 : ix [w0, w1, w2, w3] 1 = w1 := rfl
    have hi2 : ix [w0, w1, w2, w3] 2 = w2 := rfl
    have hi3 : ix [w0, w1, w2, w3] 3 = w3 := rfl
    have hdl := hS.refs
    simp only at hdl
    have hd1 : (refs.length + 1) * 32 ≤ 140737488355328 := by omega
    have hd2 : refs.length + 1 ≤ 9223372036854775807 := by omega
    simp [eqq]
    have h26 := call26 (s := w1) (by omega)
    have h27 := call26 (s := w3) (by omega)
    cases ha : numT w1 with
    | none =>
      rw [ha] at h26
      refine xcall_r (h26.acalls rfl) (by rintro v m' ⟨h, _⟩; cases h) ?_
      rintro v m' ⟨h, rfl⟩
      injection h with h; subst h
      simp [rp_panic]
      exact bad (by simp [stepR, hix0, hkO, hstep, bodyR, hi1, ha])
    | some a =>
      rw [ha] at h26
      refine xcall_p h26 rfl ?_
      simp
      cases hb : numT w3 with
      | none =>
        rw [hb] at h27
        refine xdlast_f rfl h27 rfl ?_
        simp [rp_panic]
        exact bad (by simp [stepR, hix0, hkO, hstep, bodyR, hi1, hi3, ha, hb])
      | some b =>
        rw [hb] at h27
        refine xdlast_p rfl h27 rfl ?_
        simp [appendA, hd1, hd2, eqq, hwn, rp_norm]
        exact ⟨rfl, memR t ⟨⟨nm, code, defs, refs ++ [⟨a, w2, b⟩], lines⟩, 3, n + 1⟩ (gd, nx + 1, gl) (nx + 2) (.loop .ready e7 okR), Mem.le_of rfl (by simp [memR, e7, DDef.av, DRef.av, DLine.av]), good _ _ _ _ (by simp [stepR, hix0, hkO, hstep, bodyR, hi1, hi2, hi3, ha, hb])⟩
  · obtain ⟨w1, w2, rfl⟩ := len2 (l := ls) (by have : ix partsL 4 = 3 := rfl; omega)
    have hw1 : w1.size ≤ 200000 := hx' _ (by simp)
    have hw2 : w2.size ≤ 200000 := hx' _ (by simp)
    have hi1 : ix [w0, w1, w2] 1 = w1 := rfl
    have hi2 : ix [w0, w1, w2] 2 = w2 := rfl
    have hdl := hS.lines
    simp only at hdl
    have hd1 : (lines.length + 1) * 16 ≤ 140737488355328 := by omega
    have hd2 : lines.length + 1 ≤ 9223372036854775807 := by omega
    simp [eqq]
    have h26 := call26 (s := w1) (by omega)
    have h27 := call26 (s := w2) (by omega)
    cases ha : numT w1 with
    | none =>
      rw [ha] at h26
      refine xcall_r (h26.acalls rfl) (by rintro v m' ⟨h, _⟩; cases h) ?_
      rintro v m' ⟨h, rfl⟩
      injection h with h; subst h
      simp [rp_panic]
      exact bad (by simp [stepR, hix0, hkO, hstep, bodyR, hi1, ha])
    | some a =>
      rw [ha] at h26
      refine xcall_p h26 rfl ?_
      simp
      cases hb : numT w2 with
      | none =>
        rw [hb] at h27
        refine xdlast_f rfl h27 rfl ?_
        simp [rp_panic]
        exact bad (by simp [stepR, hix0, hkO, hstep, bodyR, hi1, hi2, ha, hb])
      | some b =>
        rw [hb] at h27
        refine xdlast_p rfl h27 rfl ?_
        simp [appendA, hd1, hd2, eqq, hwn, rp_norm]
        exact ⟨rfl, memR t ⟨⟨nm, code, defs, refs, lines ++ [⟨a, b⟩]⟩, 4, n + 1⟩ (gd, gr, nx + 1) (nx + 2) (.loop .ready e7 okR), Mem.le_of rfl (by simp [memR, e7, DDef.av, DRef.av, DLine.av]), good _ _ _ _ (by simp [stepR, hix0, hkO, hstep, bodyR, hi1, hi2, ha, hb])⟩
  · obtain rfl : ls = [] := List.eq_nil_of_length_eq_zero (by have : ix partsL 5 = 1 := rfl; omega)
    simp [eqq, hwn, rp_norm]
    exact ⟨rfl, memR t ⟨⟨nm, code, defs, refs, lines⟩, 6, n + 1⟩ (gd, gr, gl) nx (.loop .ready e7 okR), Mem.le_of rfl (by simp [memR, e7]), good _ _ _ _ (by simp [stepR, hix0, hkO, hstep, bodyR])⟩
end Go.Pm

/- ZkV0: plain: how the reference reads numbers, words, lines, figures. -/
namespace Go.Pm
open Go Go.Proofs

def isDig (c : UInt8) : Bool := decide (48 ≤ c.toNat) && decide (c.toNat ≤ 57)
def valFrom (a : Nat) (l : List UInt8) : Nat := l.foldl (fun a c => a * 10 + (c.toNat - 48)) a
/-- The reference's reading of a number. -/
def tailN (s : List UInt8) : List UInt8 := if s.head? = some 45 then s.tail else s
def numRL (s : List UInt8) : Option Int :=
  if (tailN s).length < 1 ∨ 10 < (tailN s).length ∨ ((tailN s).head? = some 48 ∧ (1 < (tailN s).length ∨ 1 < s.length)) then none
  else if (tailN s).all isDig then some (if (tailN s).length < s.length then -(valFrom 0 (tailN s) : Int) else valFrom 0 (tailN s)) else none

theorem val_lt : ∀ (l : List UInt8) (a : Nat), l.all isDig = true → valFrom a l < (a + 1) * 10 ^ l.length
  | [], a, _ => by simp [valFrom]
  | c :: l, a, hd => by
    rw [List.all_cons, Bool.and_eq_true] at hd
    have hc : 48 ≤ c.toNat ∧ c.toNat ≤ 57 := by simpa [isDig] using hd.1
    have := val_lt l (a * 10 + (c.toNat - 48)) hd.2
    refine Nat.lt_of_lt_of_le this ?_
    rw [List.length_cons, Nat.pow_succ, Nat.mul_comm (10 ^ l.length) 10, ← Nat.mul_assoc]
    exact Nat.mul_le_mul_right _ (by omega)

def mkB (l : List UInt8) : ByteArray := ⟨l.toArray⟩
@[simp] theorem mkB_data (s : ByteArray) : mkB s.data.toList = s := rfl
@[simp] theorem data_mkB (l : List UInt8) : (mkB l).data.toList = l := rfl

/-- A line's words: what is between blanks; acc: what the first one has so far. -/
def splW : List UInt8 → List UInt8 → List (List UInt8)
  | acc, [] => [acc]
  | acc, b :: t => if b = 32 then acc :: splW [] t else splW (acc ++ [b]) t
def consHead (a : List UInt8) : List (List UInt8) → List (List UInt8)
  | [] => []
  | x :: xs => (a ++ x) :: xs
theorem splW_acc (a : List UInt8) : ∀ (l acc : List UInt8), splW (a ++ acc) l = consHead a (splW acc l)
  | [], _ => rfl
  | b :: t, acc => by
    unfold splW
    split
    · rfl
    · rw [List.append_assoc]; exact splW_acc a t (acc ++ [b])

/-- The next line, and what is behind it. -/
def cutN : List UInt8 → Option (List UInt8 × List UInt8)
  | [] => none
  | b :: t => if b = 10 then some ([], t) else (cutN t).map fun p => (b :: p.1, p.2)

/-- The reference's hexadecimal figure. -/
def digitF (c : UInt8) : Int := if 48 ≤ c.toNat ∧ c.toNat ≤ 57 then (c.toNat : Int) - 48 else if 65 ≤ c.toNat ∧ c.toNat ≤ 70 then (c.toNat : Int) - 65 + 10 else -1
end Go.Pm

/- ZkV1: plain: two ways to read a number are one. -/
namespace Go.Pm
open Go Go.Proofs

theorem u8_eq {a b : UInt8} (h : a.toNat = b.toNat) : a = b := UInt8.toNat.inj h
theorem dig_toNat {u : Nat} (h : u < 10) : (UInt8.ofNat (48 + u)).toNat = 48 + u := by
  simp; omega
theorem decDigits_step {u : Nat} (h : ¬ u < 10) : Lib.decDigits u = Lib.decDigits (u / 10) ++ [UInt8.ofNat (48 + u % 10)] := by rw [Lib.decDigits, dif_neg h]

theorem dec_facts : ∀ u : Nat, (Lib.decDigits u).all isDig = true ∧ valFrom 0 (Lib.decDigits u) = u ∧ Lib.decDigits u ≠ [] ∧ (u ≠ 0 → (Lib.decDigits u).head? ≠ some 48) := by
  intro u
  induction u using Nat.strongRecOn with
  | _ u ih =>
    by_cases h : u < 10
    · rw [Lib.decDigits_one h]
      have e := dig_toNat h
      refine ⟨?_, ?_, by simp, ?_⟩
      · simp only [List.all_cons, List.all_nil, isDig, e]; simp; omega
      · simp only [valFrom, List.foldl_cons, List.foldl_nil, e]; omega
      · intro hu hh
        simp only [List.head?_cons, Option.some.injEq] at hh
        have : (UInt8.ofNat (48 + u)).toNat = 48 := by rw [hh]; rfl
        omega
    · obtain ⟨h1, h2, h3, h4⟩ := ih (u / 10) (by omega)
      have e := dig_toNat (u := u % 10) (by omega)
      rw [decDigits_step h]
      refine ⟨?_, ?_, by simp, ?_⟩
      · rw [List.all_append, h1]
        simp only [List.all_cons, List.all_nil, isDig, e]; simp; omega
      · unfold valFrom at h2 ⊢
        rw [List.foldl_append, h2]
        simp only [List.foldl_cons, List.foldl_nil, e]; omega
      · intro _
        cases hd : Lib.decDigits (u / 10) with
        | nil => exact absurd hd h3
        | cons a l =>
          have := h4 (by omega)
          rw [hd] at this
          simpa using this

theorem valFrom_pos : ∀ (l : List UInt8) (a : Nat), 0 < a → 0 < valFrom a l
  | [], a, h => h
  | c :: l, a, h => valFrom_pos l (a * 10 + (c.toNat - 48)) (by omega)

theorem snoc_cases {α : Type} (l : List α) : l = [] ∨ ∃ l' c, l = l' ++ [c] := by
  rcases List.eq_nil_or_concat l with h | ⟨l', c, h⟩
  · exact .inl h
  · exact .inr ⟨l', c, by simpa using h⟩

theorem dec_of_val : ∀ (n : Nat) (l : List UInt8), l.length = n → l.all isDig = true → l ≠ [] → (l = [48] ∨ l.head? ≠ some 48) → Lib.decDigits (valFrom 0 l) = l := by
  intro n
  induction n with
  | zero => intro l hn _ hne; exact absurd (List.eq_nil_of_length_eq_zero hn) hne
  | succ n ih =>
    intro l hn hd hne hh
    obtain ⟨l', c, rfl⟩ := (snoc_cases l).resolve_left hne
    rw [List.all_append, Bool.and_eq_true] at hd
    obtain ⟨hd1, hd2⟩ := hd
    have hc : 48 ≤ c.toNat ∧ c.toNat ≤ 57 := by simpa [isDig] using hd2
    have hv : valFrom 0 (l' ++ [c]) = valFrom 0 l' * 10 + (c.toNat - 48) := by unfold valFrom; rw [List.foldl_append]; rfl
    rw [hv]
    have hcc : UInt8.ofNat (48 + (c.toNat - 48)) = c := by
      apply u8_eq
      rw [dig_toNat (by omega)]; omega
    cases l' with
    | nil =>
      have : valFrom 0 ([] : List UInt8) = 0 := rfl
      rw [this, Nat.zero_mul, Nat.zero_add, Lib.decDigits_one (by omega), hcc]; rfl
    | cons a m =>
      have hh' : (a :: m).head? ≠ some 48 := by
        rcases hh with hh | hh
        · simp at hh
        · simpa using hh
      have ha : 48 ≤ a.toNat ∧ a.toNat ≤ 57 := by
        rw [List.all_cons, Bool.and_eq_true] at hd1
        simpa [isDig] using hd1.1
      have ha' : a.toNat ≠ 48 := fun h => hh' (by rw [List.head?_cons]; exact congrArg some (u8_eq h))
      have hpos : 0 < valFrom 0 (a :: m) := by
        show 0 < valFrom (0 * 10 + (a.toNat - 48)) m
        exact valFrom_pos _ _ (by omega)
      rw [decDigits_step (by omega)]
      have e1 : (valFrom 0 (a :: m) * 10 + (c.toNat - 48)) / 10 = valFrom 0 (a :: m) := by omega
      have e2 : (valFrom 0 (a :: m) * 10 + (c.toNat - 48)) % 10 = c.toNat - 48 := by omega
      rw [e1, e2, hcc, ih (a :: m) (by simpa using hn) hd1 (by simp) (.inr hh')]

theorem parse_digits : ∀ (l : List UInt8) (a : Nat), l.all isDig = true → (a + 1) * 10 ^ l.length ≤ 10 ^ 19 → Lib.parseUint10 a l = .ok (valFrom a l)
  | [], a, _, _ => rfl
  | c :: l, a, hd, hb => by
    rw [List.all_cons, Bool.and_eq_true] at hd
    have hc : 48 ≤ c.toNat ∧ c.toNat ≤ 57 := by simpa [isDig] using hd.1
    have hb' : (a + 1) * 10 * 10 ^ l.length ≤ 10 ^ 19 := by
      rw [List.length_cons, Nat.pow_succ] at hb
      rw [Nat.mul_assoc, Nat.mul_comm 10]; exact hb
    have h1 : (a + 1) * 10 ≤ 10 ^ 19 := Nat.le_trans (Nat.le_mul_of_pos_right _ (Nat.pow_pos (by decide))) hb'
    unfold Lib.parseUint10
    rw [if_pos hc, if_neg (by omega), if_neg (by omega)]
    refine parse_digits l _ hd.2 (Nat.le_trans (Nat.mul_le_mul_right _ ?_) hb')
    omega

/-- Of a list of digits: what Atoi makes of it. -/
theorem parseMag_digits {t : List UInt8} (hne : t ≠ []) (hlen : t.length ≤ 10) (hd : t.all isDig = true) : Lib.parseMag t = .ok (valFrom 0 t) ∧ valFrom 0 t < 10000000000 := by
  have hp : 10 ^ t.length ≤ 10 ^ 10 := Nat.pow_le_pow_right (by decide) hlen
  refine ⟨?_, ?_⟩
  · unfold Lib.parseMag
    rw [if_neg hne]
    refine parse_digits t 0 hd ?_
    omega
  · have := val_lt t 0 hd
    omega

theorem numRL_some {s : List UInt8} {n : Int} (h : numRL s = some n) : Lib.atoiAll s = .ok n ∧ (tailN s).length ≤ 10 ∧ Lib.itoa n = s := by
  unfold numRL at h
  split at h
  · cases h
  rename_i h1
  split at h
  case isFalse => cases h
  rename_i hd
  injection h with h
  have hne : tailN s ≠ [] := fun e => h1 (.inl (by rw [e]; decide))
  have hlen : (tailN s).length ≤ 10 := by
    rcases Nat.lt_or_ge 10 (tailN s).length with h' | h'
    · exact absurd (.inr (.inl h')) h1
    · exact h'
  obtain ⟨hp, hlt⟩ := parseMag_digits hne hlen hd
  have hcan : tailN s = [48] ∨ (tailN s).head? ≠ some 48 := by
    by_cases hh : (tailN s).head? = some 48
    · left
      have : ¬ 1 < (tailN s).length := fun h' => h1 (.inr (.inr ⟨hh, .inl h'⟩))
      cases ht : tailN s with
      | nil => exact absurd ht hne
      | cons a m =>
        rw [ht] at hh this
        simp only [List.head?_cons, Option.some.injEq] at hh
        cases m with
        | nil => rw [hh]
        | cons b m => simp at this
    · exact .inr hh
  have hdec := dec_of_val _ (tailN s) rfl hd hne hcan
  by_cases hs : s.head? = some 45
  · obtain ⟨m, rfl⟩ : ∃ m, s = 45 :: m := by
      cases s with
      | nil => cases hs
      | cons a m => simp only [List.head?_cons, Option.some.injEq] at hs; exact ⟨m, by rw [hs]⟩
    have ht : tailN (45 :: m) = m := by simp [tailN]
    rw [ht] at hne hlen hd hp hlt hcan hdec h h1 ⊢
    have hpos : valFrom 0 m ≠ 0 := by
      intro hz
      rw [hz] at hdec
      have : m = [48] := by rw [← hdec]; exact Lib.decDigits_one (by decide)
      exact h1 (.inr (.inr ⟨by rw [this]; rfl, .inr (by rw [this]; decide)⟩))
    have hn : n = -(valFrom 0 m : Int) := by rw [← h, if_pos (by simp)]
    refine ⟨?_, hlen, ?_⟩
    · unfold Lib.atoiAll
      have : (45 : UInt8).toNat = 45 := rfl
      simp only [this, or_true, if_true, hp, not_true, false_and, if_false, true_and]
      rw [if_neg (by omega), hn]
    · unfold Lib.itoa
      rw [if_pos (by omega), hn, Int.natAbs_neg, Int.natAbs_natCast, hdec]
  · have ht : tailN s = s := by simp [tailN, hs]
    rw [ht] at hne hlen hd hp hlt hcan hdec h h1 ⊢
    have hn : n = (valFrom 0 s : Int) := by rw [← h, if_neg (by simp)]
    refine ⟨?_, hlen, ?_⟩
    · cases s with
      | nil => exact absurd rfl hne
      | cons a m =>
        have ha : 48 ≤ a.toNat ∧ a.toNat ≤ 57 := by
          rw [List.all_cons, Bool.and_eq_true] at hd
          simpa [isDig] using hd.1
        unfold Lib.atoiAll
        have h43 : ¬ a.toNat = 43 := by omega
        have h45 : ¬ a.toNat = 45 := by omega
        simp only [h43, h45, or_false, if_false, hp, not_false_eq_true, true_and, false_and]
        rw [if_neg (by omega), hn]
    · unfold Lib.itoa
      rw [if_neg (by omega), hn, Int.toNat_natCast, hdec]

theorem numRL_of {s : List UInt8} {n : Int} (hlen : (tailN s).length ≤ 10) (h : Lib.itoa n = s) : numRL s = some n := by
  unfold Lib.itoa at h
  by_cases hn : n < 0
  · rw [if_pos hn] at h
    obtain ⟨f1, f2, f3, f4⟩ := dec_facts n.natAbs
    have f4 := f4 (by omega)
    have ht : tailN s = Lib.decDigits n.natAbs := by rw [← h]; simp [tailN]
    have hl : 0 < (Lib.decDigits n.natAbs).length := List.length_pos_iff.2 f3
    unfold numRL
    rw [ht] at hlen ⊢
    rw [if_neg (by rintro (h' | h' | ⟨h', _⟩) <;> first | omega | exact f4 h'), if_pos f1, f2, if_pos (by rw [← h]; simp)]
    congr 1; omega
  · rw [if_neg hn] at h
    obtain ⟨f1, f2, f3, f4⟩ := dec_facts n.toNat
    have hl : 0 < (Lib.decDigits n.toNat).length := List.length_pos_iff.2 f3
    have h45 : s.head? ≠ some 45 := by
      rw [← h]
      cases hd : Lib.decDigits n.toNat with
      | nil => exact absurd hd f3
      | cons a m =>
        rw [hd, List.all_cons, Bool.and_eq_true] at f1
        have ha : 48 ≤ a.toNat ∧ a.toNat ≤ 57 := by simpa [isDig] using f1.1
        intro e
        simp only [List.head?_cons, Option.some.injEq] at e
        rw [e] at ha
        exact absurd ha.1 (by decide)
    have ht : tailN s = s := by simp [tailN, h45]
    unfold numRL
    rw [ht] at hlen ⊢
    rw [if_neg ?_, if_pos (by rw [← h]; exact f1), ← h, f2, if_neg (by simp)]
    · congr 1; omega
    · rintro (h' | h' | ⟨h', h''⟩)
      · rw [← h] at h'; omega
      · omega
      · by_cases h0 : n.toNat = 0
        · rw [← h, h0, Lib.decDigits_one (by decide)] at h''
          exact absurd h'' (by decide)
        · rw [← h] at h'
          exact f4 h0 h'

theorem trim_tail (s : ByteArray) : trimF s = ⟨(tailN s.data.toList).toArray⟩ := by
  unfold trimF Lib.trimPrefix Lib.hasPrefix tailN
  cases h : s.data.toList with
  | nil => rfl
  | cons a m =>
    by_cases ha : a = 45
    · subst ha; rfl
    · have : ([45] : List UInt8).isPrefixOf (a :: m) = false := by simp [List.isPrefixOf]; exact fun e => ha e.symm
      rw [this]
      simp [ha]

/-- The two readings of a number are one. -/
theorem numT_eq (s : ByteArray) : numT s = numRL s.data.toList := by
  have key : ∀ n, numT s = some n ↔ numRL s.data.toList = some n := by
    intro n
    have hts : (trimF s).size = (tailN s.data.toList).length := by rw [trim_tail]; simp [ByteArray.size]
    constructor
    · intro h
      unfold numT at h
      split at h
      case isFalse => cases h
      rename_i hc
      simp only [Bool.and_eq_true] at hc
      injection h with h
      obtain ⟨_, hc2, hc3⟩ := hc
      refine numRL_of ?_ ?_
      · have := leI_t.1 hc2; omega
      · have := eqS_t.1 hc3
        rw [h] at this
        rw [← this]; simp [itoaF]
    · intro h
      obtain ⟨h1, h2, h3⟩ := numRL_some h
      have ha : atoiN s = (n, true) := by unfold atoiN; rw [h1]
      unfold numT
      rw [ha, if_pos]
      simp only [Bool.and_eq_true]
      refine ⟨trivial, leI_t.2 (by omega), eqS_t.2 ?_⟩
      simp [itoaF, h3]
  cases h1 : numT s with
  | some n => exact ((key n).1 h1).symm
  | none =>
    cases h2 : numRL s.data.toList with
    | none => rfl
    | some n => rw [(key n).2 h2] at h1; cases h1
end Go.Pm

/- ZkV2: plain: a line's parts; a text's next line; figures. -/
namespace Go.Pm
open Go Go.Proofs

theorem index_eq (l : List UInt8) : Lib.index (32 :: l) [32] = 0 := by rw [Lib.index]; simp [List.isPrefixOf]
theorem index_ne {b : UInt8} (c : UInt8) (l : List UInt8) (h : b ≠ c) : Lib.index (b :: l) [c] = if Lib.index l [c] == -1 then -1 else Lib.index l [c] + 1 := by
  have hp : ([c] : List UInt8).isPrefixOf (b :: l) = false := by simp [List.isPrefixOf, Ne.symm h]
  rw [Lib.index, hp]; simp

theorem splitK_ne {b : UInt8} (h : b ≠ 32) : ∀ (k : Nat) (l : List UInt8), Lib.splitK [32] 0 k (b :: l) = consHead [b] (Lib.splitK [32] 0 k l)
  | 0, l => rfl
  | k + 1, l => by
    unfold Lib.splitK
    rw [index_ne 32 l h]
    have hge := Lib.index_ge l [32]
    by_cases hm : Lib.index l [32] = -1
    · simp [hm, consHead]
    · have h1 : (Lib.index l [32] == -1) = false := by simpa using hm
      obtain ⟨j, hj⟩ : ∃ j : Nat, Lib.index l [32] = j := ⟨(Lib.index l [32]).toNat, by omega⟩
      rw [h1]
      simp only [Bool.false_eq_true, if_false]
      rw [hj]
      have h2 : ((j : Int) + 1 == -1) = false := by rw [beq_eq_false_iff_ne]; omega
      have e : ((j : Int) + 1).toNat = j + 1 := by omega
      rw [h2, e]
      simp [consHead]

theorem splitK_spl : ∀ l : List UInt8, Lib.splitK [32] 0 (Lib.count l [32]) l = splW [] l
  | [] => by rw [Lib.count_miss (by simp [Lib.index])]; rfl
  | b :: l => by
    by_cases hb : b = 32
    · subst hb
      rw [Lib.count_cons_eq, Nat.add_comm, Lib.splitK, index_eq]
      simp only [splW]
      rw [← splitK_spl l]
      simp
    · rw [Lib.count_cons_ne b 32 l hb, splitK_ne hb, splitK_spl l]
      have e : splW [] (b :: l) = splW ([b] ++ []) l := by simp [splW, hb]
      rw [e]
      exact (splW_acc [b] l []).symm

theorem parts_eq (s : ByteArray) : partsOf s = (splW [] s.data.toList).map mkB := by
  have h := Lib.splitB_data sp 0 (Lib.countB s sp) s
  have h2 : Lib.splitK sp.data.toList 0 (Lib.countB s sp) s.data.toList = splW [] s.data.toList := splitK_spl s.data.toList
  rw [h2] at h
  rw [← h, List.map_map]
  unfold partsOf
  exact (List.map_id _).symm

theorem splW_ne (l acc : List UInt8) : splW acc l ≠ [] := by
  induction l generalizing acc with
  | nil => simp [splW]
  | cons b t ih => unfold splW; split
                   · simp
                   · exact ih _

theorem cut_spec : ∀ l : List UInt8, (Lib.index l [10] = -1 ∧ cutN l = none) ∨ ∃ i : Nat, Lib.index l [10] = i ∧ cutN l = some (l.take i, l.drop (i + 1))
  | [] => .inl ⟨by simp [Lib.index], rfl⟩
  | b :: l => by
    by_cases hb : b = 10
    · subst hb
      refine .inr ⟨0, ?_, ?_⟩
      · rw [Lib.index]; simp [List.isPrefixOf]
      · simp [cutN]
    · have hi := index_ne 10 l hb
      rcases cut_spec l with ⟨h1, h2⟩ | ⟨i, h1, h2⟩
      · exact .inl ⟨by rw [hi, h1]; rfl, by simp [cutN, hb, h2]⟩
      · refine .inr ⟨i + 1, ?_, by simp [cutN, hb, h2]⟩
        rw [hi, h1]
        have : ((i : Int) == -1) = false := by rw [beq_eq_false_iff_ne]; omega
        rw [this]; simp

theorem nextLine_eq (t : ByteArray) : nextLine t = match cutN t.data.toList with
    | none => none
    | some (x, y) => if ((splW [] x).map mkB).all okPart then some ((splW [] x).map mkB, mkB y) else none := by
  unfold nextLine cutB cutL cutR
  have hn : nl.data.toList = [10] := rfl
  rw [hn]
  rcases cut_spec t.data.toList with ⟨h1, h2⟩ | ⟨i, h1, h2⟩
  · unfold Lib.cut
    rw [h1, h2]; simp
  · unfold Lib.cut
    rw [h1, h2]
    simp only [Int.natCast_nonneg, if_true, Int.toNat_natCast, List.length_cons, List.length_nil, parts_eq]
    rfl

theorem cutN_size {l x y : List UInt8} (h : cutN l = some (x, y)) : l.length = x.length + 1 + y.length := by
  induction l generalizing x y with
  | nil => cases h
  | cons b t ih =>
    unfold cutN at h
    split at h
    · injection h with h; injection h with h1 h2; subst h1; subst h2; simp; omega
    · cases ht : cutN t with
      | none => rw [ht] at h; cases h
      | some p =>
        rw [ht] at h
        injection h with h; injection h with h1 h2; subst h1; subst h2
        have := ih (x := p.1) (y := p.2) ht
        simp; omega

theorem figs_all : ((List.range 256).all fun n => Lib.indexByte figs.data.toList (UInt8.ofNat n) == (if 48 ≤ n ∧ n ≤ 57 then (n : Int) - 48 else if 65 ≤ n ∧ n ≤ 70 then (n : Int) - 65 + 10 else -1)) = true := by kernel_rfl
theorem figI_eq (c : UInt8) : figI c = digitF c := by
  have h := List.all_eq_true.1 figs_all c.toNat (List.mem_range.2 c.toNat_lt)
  simp only [UInt8.ofNat_toNat, beq_iff_eq] at h
  exact h
theorem digitF_range (c : UInt8) : digitF c = -1 ∨ (0 ≤ digitF c ∧ digitF c < 16) := by
  unfold digitF
  split
  · right; omega
  · split
    · right; omega
    · exact .inl rfl
theorem pair_all : ((List.range 16).all fun a => (List.range 16).all fun b => UInt8.ofNat (pairV a b).toNat == UInt8.ofNat (16 * a + b)) = true := by kernel_rfl
theorem pair_eq {a b : Int} (ha : 0 ≤ a ∧ a < 16) (hb : 0 ≤ b ∧ b < 16) : UInt8.ofNat (pairV a b).toNat = UInt8.ofNat (16 * a + b).toNat := by
  have h := List.all_eq_true.1 (List.all_eq_true.1 pair_all a.toNat (List.mem_range.2 (by omega))) b.toNat (List.mem_range.2 (by omega))
  have e1 : ((a.toNat : Nat) : Int) = a := by omega
  have e2 : ((b.toNat : Nat) : Int) = b := by omega
  simp only [e1, e2, beq_iff_eq] at h
  rw [h]
  congr 1; omega
end Go.Pm

/- ZkF: contracts whose result is a Bool: temporary lists in the place of kept ones. -/
namespace Go.Pm
open Go Go.Proofs

def K2 (K : Bool → Nat → Prop) : Bool → Nat → Prop := fun _ b => K true b ∨ K false b
theorem K2_of {K : Bool → Nat → Prop} (p : Bool) (b : Nat) (h : K p b) (q : Bool) : K2 K q b := by
  cases p
  · exact .inr h
  · exact .inl h
/-- Whatever is the one is the other, too, all blocks taken as kept. -/
def SubL (xs ys : List AV) : Prop := ∀ (K : Bool → Nat → Prop) (w : World) (us : List Value), VRs [] K w xs us → VRs [] (K2 K) w ys us
theorem SubL.refl (xs : List AV) : SubL xs xs := fun K w us h => VRs.mono (List.prefix_refl _) (fun p b hb => K2_of p b hb p) (fun _ _ _ => rfl) xs us h
theorem SubL.cons {x : AV} {xs ys : List AV} (h : SubL xs ys) : SubL (x :: xs) (x :: ys) := by
  intro K w us hv
  obtain ⟨u, us', rfl, h1, h2⟩ := hv
  exact ⟨u, us', rfl, VR.mono (List.prefix_refl _) (fun p b hb => K2_of p b hb p) (fun _ _ _ => rfl) x u h1, h K w us' h2⟩
theorem SubL.list {p : Bool} {sz : Nat} {els : List (List AV)} {xs ys : List AV} (h : SubL xs ys) : SubL (.list p sz els :: xs) (.list true sz els :: ys) := by
  intro K w us hv
  obtain ⟨u, us', rfl, h1, h2⟩ := hv
  refine ⟨u, us', rfl, ?_, h K w us' h2⟩
  have h1' := VR.mono (K' := K2 K) (List.prefix_refl _) (fun p b hb => K2_of p b hb p) (fun _ _ _ => rfl) _ _ h1
  rw [VR] at h1 h1' ⊢
  obtain ⟨a, cap, b, o, k1, k2, k3, k4⟩ := h1'
  exact ⟨a, cap, b, o, k1, k2, k3.imp id fun ⟨e, hk⟩ => ⟨e, hk⟩, k4⟩
theorem SubL.nil {sz : Nat} {xs ys : List AV} (h : SubL xs ys) : SubL (.nilS :: xs) (.list true sz [] :: ys) := by
  intro K w us hv
  obtain ⟨u, us', rfl, h1, h2⟩ := hv
  refine ⟨u, us', rfl, ?_, h K w us' h2⟩
  simp only [VR] at h1 ⊢
  exact ⟨none, 0, 0, 0, h1, Nat.le_refl _, .inl trivial, by simp [LR]⟩
theorem SubL.agg {cs ds xs ys : List AV} (hc : SubL cs ds) (h : SubL xs ys) : SubL (.agg cs :: xs) (.agg ds :: ys) := by
  intro K w us hv
  obtain ⟨u, us', rfl, h1, h2⟩ := hv
  refine ⟨u, us', rfl, ?_, h K w us' h2⟩
  rw [VR] at h1 ⊢
  obtain ⟨vs, k1, k2⟩ := h1
  exact ⟨vs, k1, hc K w _ k2⟩

theorem PCalls.flip {P : Prg} {f : FuncId} {xs ys : List AV} {b : Bool} (h : PCalls P f ys fun out => out = .ret (.bool b)) (hs : SubL xs ys) : PCalls P f xs fun out => out = .ret (.bool b) := by
  refine ⟨h.1, fun K w vals hK hv hl => ?_⟩
  refine (h.2 (K2 K) w vals (fun p b hb => hb.elim (hK true b) (hK false b)) (hs K w vals hv) hl).mono ?_
  rintro e w' ⟨K', out, rfl, hp, hg, _, _, hout⟩
  refine ⟨fun p b => K p b ∨ w.heap.size ≤ b ∧ b < w'.heap.size, .ret (.bool b), rfl, rfl, hg, fun _ _ h => .inl h, fun _ _ h => h, ?_⟩
  obtain ⟨u, h1, h2⟩ := hout
  refine ⟨u, h1, ?_⟩
  rw [VR] at h2 ⊢
  exact h2
end Go.Pm

/- ZkR7: contracts: the linker's Read. -/
namespace Go.Pm
open Go Go.Proofs
attribute [-simp] List.getElem?_map

theorem YCalls.mono {P : Prg} {pos gen : Nat} {xs : List AV} {m : Mem} {R R' : AOut → Mem → Prop} (h : YCalls P pos gen xs m R) (hR : ∀ out m', R out m' → R' out m') : YCalls P pos gen xs m R' := by
  intro β K σ w vals b c hrel hv hg hβ
  obtain ⟨f, tmps, asg, bd, h1, h2⟩ := h β K σ w vals b c hrel hv hg hβ
  refine ⟨f, tmps, asg, bd, h1, fun r n => (h2 r n).mono ?_⟩
  rintro e w' ⟨K', σ', m', out, h3, h4⟩
  exact ⟨K', σ', m', out, hR _ _ h3, h4⟩

/-- What is read of a text line by line: all of it, or none; the number of lines till then. -/
def readL : Nat → RdSt → ByteArray → Option RdSt × Nat
  | 0, S, _ => (none, S.n)
  | f + 1, S, t => if eqS t ⟨#[]⟩ then (some S, S.n) else match nextLine t with
    | none => (none, S.n)
    | some (l, rest) => match stepR S l with
      | none => (none, S.n)
      | some S' => readL f S' rest
def startR : RdSt := ⟨⟨⟨#[]⟩, ⟨#[]⟩, [], [], []⟩, 0, 0⟩
/-- What the linker's Read tells of a text. -/
def readRes (t : ByteArray) : List AV × Nat × Int :=
  if ltI 200000 t.size then (noDeck, 0, 3) else match readL (t.size + 1) startR t with
  | (none, n) => (noDeck, n, 2)
  | (some S, n) => if eqI S.stage 6 then (if deckOk S.o then (S.o.av, 0, 0) else (noDeck, n, 1)) else (noDeck, n, 2)
def resAV (x : List AV × Nat × Int) : AV := .tuple [.agg x.1, .int .i64 x.2.1, .int .i64 x.2.2]

structure RdSt.Names (S : RdSt) : Prop where
  name : S.o.name.size ≤ 200000
  defs : ∀ d ∈ S.o.defs, d.name.size ≤ 200000
  refs : ∀ d ∈ S.o.refs, d.name.size ≤ 200000

theorem ix_size {l : List ByteArray} (h : ∀ x ∈ l, x.size ≤ 200000) (i : Nat) : (ix l i).size ≤ 200000 := by
  rcases Nat.lt_or_ge i l.length with hi | hi
  · exact h _ (ix_mem hi)
  · have : ix l i = default := by simp [ix, List.getD, hi]
    rw [this]
    exact Nat.zero_le _

theorem body_fit {o o' : Deck} {k : Nat} {l : List ByteArray} (h : bodyR o k l = some o') (hl : ∀ x ∈ l, x.size ≤ 200000) :
    o'.code.size ≤ o.code.size + 32 ∧ o'.defs.length ≤ o.defs.length + 1 ∧ o'.refs.length ≤ o.refs.length + 1 ∧ o'.lines.length ≤ o.lines.length + 1 ∧
    (o.name.size ≤ 200000 → o'.name.size ≤ 200000) ∧ ((∀ d ∈ o.defs, d.name.size ≤ 200000) → ∀ d ∈ o'.defs, d.name.size ≤ 200000) ∧ ((∀ d ∈ o.refs, d.name.size ≤ 200000) → ∀ d ∈ o'.refs, d.name.size ≤ 200000) := by
  unfold bodyR at h
  split at h
  · injection h with h; subst h
    exact ⟨by simp, by simp, by simp, by simp, fun _ => ix_size hl 1, fun h => h, fun h => h⟩
  · split at h
    · rename_i hc
      rw [Bool.and_eq_true] at hc
      have h64 := leI_t.1 hc.1
      rw [Option.map_eq_some_iff] at h
      obtain ⟨b, hb, rfl⟩ := h
      have hbs := bytes_size hb
      exact ⟨by simp only [ByteArray.size_append]; omega, by simp, by simp, by simp, fun h => h, fun h => h, fun h => h⟩
    · cases h
  · rw [Option.map_eq_some_iff] at h
    obtain ⟨b, hb, rfl⟩ := h
    refine ⟨by simp, by simp, by simp, by simp, fun h => h, fun h d hd => ?_, fun h => h⟩
    rcases List.mem_append.1 hd with hd | hd
    · exact h d hd
    · rw [List.mem_singleton.1 hd]; exact ix_size hl 1
  · rw [Option.bind_eq_some_iff] at h
    obtain ⟨a, ha, h⟩ := h
    rw [Option.map_eq_some_iff] at h
    obtain ⟨b, hb, rfl⟩ := h
    refine ⟨by simp, by simp, by simp, by simp, fun h => h, fun h => h, fun h d hd => ?_⟩
    rcases List.mem_append.1 hd with hd | hd
    · exact h d hd
    · rw [List.mem_singleton.1 hd]; exact ix_size hl 2
  · rw [Option.bind_eq_some_iff] at h
    obtain ⟨a, ha, h⟩ := h
    rw [Option.map_eq_some_iff] at h
    obtain ⟨b, hb, rfl⟩ := h
    exact ⟨by simp, by simp, by simp, by simp, fun h => h, fun h => h, fun h => h⟩
  · injection h with h; subst h
    exact ⟨by simp, by simp, by simp, by simp, fun h => h, fun h => h, fun h => h⟩

theorem body_code {o o' : Deck} {k B : Nat} {l : List ByteArray} (h : bodyR o k l = some o') (hl : (ix l 1).size ≤ B) : o'.code.size ≤ o.code.size + B := by
  unfold bodyR at h
  split at h
  · injection h with h; subst h; simp
  · split at h
    · rw [Option.map_eq_some_iff] at h
      obtain ⟨b, hb, rfl⟩ := h
      have hbs := bytes_size hb
      simp only [ByteArray.size_append]; omega
    · cases h
  · rw [Option.map_eq_some_iff] at h
    obtain ⟨b, hb, rfl⟩ := h
    simp
  · rw [Option.bind_eq_some_iff] at h
    obtain ⟨a, ha, h⟩ := h
    rw [Option.map_eq_some_iff] at h
    obtain ⟨b, hb, rfl⟩ := h
    simp
  · rw [Option.bind_eq_some_iff] at h
    obtain ⟨a, ha, h⟩ := h
    rw [Option.map_eq_some_iff] at h
    obtain ⟨b, hb, rfl⟩ := h
    simp
  · injection h with h; subst h; simp
theorem step_code {S S' : RdSt} {l : List ByteArray} {B : Nat} (h : stepR S l = some S') (hl : (ix l 1).size ≤ B) : S'.o.code.size ≤ S.o.code.size + B := by
  unfold stepR at h
  split at h
  case isFalse => cases h
  rw [Option.map_eq_some_iff] at h
  obtain ⟨o', hb, rfl⟩ := h
  exact body_code hb hl

theorem step_fit {S S' : RdSt} {l : List ByteArray} (h : stepR S l = some S') (hS : S.Fit) (hN : S.Names) (hn : S.n ≤ 200000) (hl : ∀ x ∈ l, x.size ≤ 200000) : S'.Fit ∧ S'.Names ∧ S'.n = S.n + 1 := by
  unfold stepR at h
  split at h
  case isFalse => cases h
  rename_i hok
  rw [Option.map_eq_some_iff] at h
  obtain ⟨o', hb, rfl⟩ := h
  obtain ⟨b1, b2, b3, b4, b5, b6, b7⟩ := body_fit hb hl
  have hk : kOf (ix l 0) < 6 := by
    unfold stepOk at hok
    rw [Bool.and_eq_true] at hok
    have := ltI_t.1 hok.1; omega
  refine ⟨⟨by simp only; omega, ?_, ?_, ?_, ?_, ?_⟩, ⟨b5 hN.name, b6 hN.defs, b7 hN.refs⟩, rfl⟩
  · simp only; split <;> omega
  · have := hS.code; simp only; omega
  · have := hS.defs; simp only; omega
  · have := hS.refs; simp only; omega
  · have := hS.lines; simp only; omega

theorem cut_sum (t : ByteArray) (h : cutB t = true) : (cutL t).size + (cutR t).size < t.size := by
  rcases Lib.indexB_cases t nl with h1 | ⟨i, h1, hroom⟩
  · have := (Lib.cutB_miss t nl h1).2.2
    unfold cutB at h
    rw [this] at h; cases h
  · obtain ⟨e1, e2, _⟩ := Lib.cutB_hit t nl i h1
    have hn : nl.size = 1 := rfl
    rw [hn] at e2 hroom
    unfold cutL cutR
    rw [e1, e2, ByteArray.size_extract, ByteArray.size_extract]
    omega
theorem nextLine_facts {t : ByteArray} {l : List ByteArray} {rest : ByteArray} (h : nextLine t = some (l, rest)) : l ≠ [] ∧ rest.size < t.size ∧ ∀ x ∈ l, x.size + rest.size < t.size := by
  unfold nextLine at h
  split at h
  case isFalse => cases h
  rename_i hc
  obtain ⟨c1, c2⟩ := cut_less t hc
  have c3 := cut_sum t hc
  split at h
  case isFalse => cases h
  injection h with h; injection h with h1 h2
  subst h1; subst h2
  refine ⟨?_, c2, fun x hx => ?_⟩
  · rw [parts_eq]
    intro e
    exact splW_ne _ _ (List.map_eq_nil_iff.1 e)
  · have := part_le hx; omega

/-- What is known while lines are read. -/
def InvR (t0 t : ByteArray) (m : Mem) : Prop := ∃ S G nx f, m = memR t S G nx (.loop .ready e7 okR) ∧ S.Fit ∧ S.Names ∧ S.n + t.size ≤ 200000 ∧ S.o.code.size + t.size ≤ 200000 ∧ t.size < f ∧ readL f S t = readL (t0.size + 1) startR t0
def YR (t0 : ByteArray) (v : AV) (m : Mem) : Prop := v = badV ∧ ∃ n, readL (t0.size + 1) startR t0 = (none, n) ∧ BadM n m

theorem readL_none {f : Nat} {S : RdSt} {t : ByteArray} (h1 : eqS t ⟨#[]⟩ = false) (h2 : nextLine t = none) (hf : t.size < f) : readL f S t = (none, S.n) := by
  cases f with
  | zero => omega
  | succ f => simp [readL, h1, h2]

theorem round_inv {t0 t : ByteArray} {m : Mem} {l : List ByteArray} {rest : ByteArray} (h : InvR t0 t m) (hn : nextLine t = some (l, rest)) :
    YCalls Zk.pg 12 12 [lAV l] m fun out m' => (out = .ret (.bool true) ∧ m'.obj 8 8 = some (.cells [.str t]) ∧ InvR t0 rest (m'.put 8 8 (.cells [.str rest]))) ∨ (out = .ret (.bool false) ∧ False) ∨ ∃ v, out = .panic v ∧ YR t0 v m' := by
  obtain ⟨S, G, nx, f, rfl, hF, hN, hsz, hcz, hf, hrd⟩ := h
  obtain ⟨n1, n2, n3⟩ := nextLine_facts hn
  have hl : ∀ x ∈ l, x.size ≤ 200000 := fun x hx => by have := n3 x hx; omega
  obtain ⟨f, rfl⟩ : ∃ g, f = g + 1 := ⟨f - 1, by omega⟩
  have hne : eqS t ⟨#[]⟩ = false := by
    cases he : eqS t ⟨#[]⟩ with
    | false => rfl
    | true => have := size_zero.2 (eqS_t.1 he); omega
  refine (round7 n1 hF hl).mono ?_
  intro out m' hR
  unfold R7 at hR
  cases hs : stepR S l with
  | none =>
    rw [hs] at hR
    obtain ⟨rfl, hB⟩ := hR
    refine .inr (.inr ⟨badV, rfl, rfl, S.n, ?_, hB⟩)
    rw [← hrd]
    simp [readL, hne, hn, hs]
  | some S' =>
    rw [hs] at hR
    obtain ⟨rfl, G', nx', rfl⟩ := hR
    obtain ⟨g1, g2, g3⟩ := step_fit hs hF hN (by omega) hl
    have hB : (ix l 1).size ≤ t.size - rest.size - 1 := by
      rcases Nat.lt_or_ge 1 l.length with hi | hi
      · have := n3 _ (ix_mem hi); omega
      · have : ix l 1 = default := by simp [ix, List.getD, hi]
        rw [this]
        exact Nat.zero_le _
    have hc := step_code hs hB
    refine .inl ⟨rfl, rfl, S', G', nx', f, rfl, g1, g2, by omega, by omega, by omega, ?_⟩
    rw [← hrd]
    simp [readL, hne, hn, hs]

theorem pan7 {e : Env} {m : Mem} {n : Nat} {x : AV} (hx : x = resAV (noDeck, n, 2)) (hb : BadM n m) (h2 : e.get 2 = .ptr 0 0 0) (h3 : e.get 3 = .ptr 1 1 0) (h4 : e.get 4 = .ptr 2 2 0) :
    postF Zk.pg cr7 (fun out m => permOD 1 m out = some (.ret x)) 22 [.ptr 0 0 0, .ptr 2 2 0] (.panic badV) e m := by
  obtain ⟨vs, v, k1, k2, k3, k4⟩ := hb
  rw [postF_panic]
  refine ⟨_, call22b k1 k2 k3 k4 (by decide) (by decide) (by decide), ?_⟩
  rintro m' ⟨j1, j2, j3⟩
  subst hx
  have d0 : m'.obj 0 0 = some (.cells noDeck) := j1
  simp only [Mem.obj] at d0 j2 j3
  simp [cr7, h2, h3, h4, d0, j2, j3, permOD, permD, mapO, resAV, noDeck]

def mem0 (t : ByteArray) : Mem :=
  ⟨[(0, .cells [.str ⟨#[]⟩, .str ⟨#[]⟩, .row 9 9 2 0 0, .row 10 10 3 0 0, .row 11 11 2 0 0]), (1, .cells [.int .i64 0]), (2, .cells [.int .i64 0]), (3, .cells [.int .i64 0]),
    (4, .row 9 1 (wordsL.map fun x => [.str x])), (5, .cells [.row 4 4 1 0 6]), (6, .row 3 1 (partsL.map fun x => [.int .i64 x])), (7, .cells [.row 6 6 1 0 6]), (8, .cells [.str t]),
    (9, .row 65 2 []), (10, .row 77 3 []), (11, .row 79 2 [])], 12⟩

def readAV (t : ByteArray) : AV := resAV (readRes t)

set_option maxHeartbeats 4000000 in
theorem call7 (t : ByteArray) (hs : t.size ≤ 1048576) : PCalls Zk.pg 7 [.str t] fun out => out = .ret (readAV t) := by
  refine pcalls_of_acalls 1 (ok7.acalls (by simp) ?_)
  generalize hX : readAV t = X
  simp [cx7]
  refine br_cond rfl (fun h0 => ?_) (fun h0 => ?_)
  · simp [cr7, permOD, permD, mapO]
    rw [← hX]
    simp [readAV, readRes, h0, resAV, noDeck]
  simp [cy7]
  refine xcall_a (call23 (t := t)) ?_
  simp
  have h200 : t.size ≤ 200000 := by have := ltI_f.1 h0; omega
  have sim1 : ∀ (e : Env), e.get 2 = .ptr 0 0 0 → Sim e (mem0 t) e ⟨(mem0 t).store.take 9 |>.set 0 (0, .cells [.str ⟨#[]⟩, .str ⟨#[]⟩, .nilS, .nilS, .nilS]), 9⟩ := fun e _ => by
    refine Sim.trans ?_ (Sim.nil_cell (pos := 0) (g := 0) (vs := [.str ⟨#[]⟩, .str ⟨#[]⟩, .nilS, .nilS, .nilS]) 2 65 (sz := 2) (by decide) rfl rfl)
    refine Sim.trans ?_ (Sim.nil_cell (pos := 0) (g := 0) (vs := [.str ⟨#[]⟩, .str ⟨#[]⟩, .row 9 9 2 0 0, .nilS, .nilS]) 3 77 (sz := 3) (by decide) rfl rfl)
    refine Sim.trans ?_ (Sim.nil_cell (pos := 0) (g := 0) (vs := [.str ⟨#[]⟩, .str ⟨#[]⟩, .row 9 9 2 0 0, .row 10 10 3 0 0, .nilS]) 4 79 (sz := 2) (by decide) rfl rfl)
    exact Sim.of_le (Env.le_refl e) (Mem.le_of rfl rfl)
  refine wpS_rangeS e7 (mem0 t) (Sim.trans (Sim.of_le (Env.le_of (by simp [e7])) (Mem.le_refl _)) (Sim.trans (sim1 _ rfl) (Sim.of_le (Env.le_refl _) (Mem.le_of rfl rfl)))) rfl
    (call74 (pos := 12) (gen := 12) (p := 8) (g := 8) (Inv := InvR t) (X := fun _ => False) (Y := YR t) (t0 := t) (fun t' m l rest h hn => round_inv h hn) ?hc ?h0) ?hr ?hp
  case hc =>
    rintro t' m ⟨S, G, nx, f, rfl, hF, hN, hsz, _⟩
    exact ⟨rfl, by omega⟩
  case h0 => exact ⟨startR, (9, 10, 11), 13, t.size + 1, rfl, ⟨by decide, by decide, by decide, by decide, by decide, by decide⟩, ⟨by decide, fun d h => (by cases h), fun d h => (by cases h)⟩, by show 0 + t.size ≤ 200000; omega, by show 0 + t.size ≤ 200000; omega, by omega, rfl⟩
  case hp =>
    rintro v m' (⟨h, _⟩ | ⟨v', h, hY⟩)
    · cases h
    injection h with h; subst h
    obtain ⟨n, hv, hn, hB⟩ : ∃ n, v = badV ∧ readL (t.size + 1) startR t = (none, n) ∧ BadM n m' := by
      rcases hY with ⟨hv, n, hn, hB⟩ | ⟨hv, t', he, hnl, S, G, nx, f, rfl, hF, hN, hsz, hcz, hf, hrd⟩
      · exact ⟨n, hv, hn, hB⟩
      · refine ⟨S.n, hv, ?_, _, _, rfl, rfl, rfl, rfl⟩
        rw [← hrd]
        exact readL_none he hnl hf
    subst hv
    simp
    exact pan7 (n := n) (by rw [← hX]; simp [readAV, readRes, h0, hn]) hB rfl rfl rfl
  case hr =>
    rintro v m' (⟨h, ⟨t', he, S, G, nx, f, rfl, hF, hN, hsz, hcz, hf, hrd⟩ | h'⟩ | ⟨v', h, _⟩)
    rotate_left
    · exact h'.elim
    · cases h
    have hrd' : readL (t.size + 1) startR t = (some S, S.n) := by
      rw [← hrd]
      cases f with
      | zero => omega
      | succ f => simp [readL, he]
    refine ⟨.ready, e7, okR, rfl, ?_⟩
    obtain ⟨⟨nm, code, defs, refs, lines⟩, stage, n⟩ := S
    obtain ⟨gd, gr, gl⟩ := G
    have l12 : (mem0 t).store.length = 12 := rfl
    have x12 : (mem0 t).next = 12 := rfl
    simp [e7, memR, l12, x12]
    refine xcall_must (b := eqI stage 6) (fun h1 => ?_) (fun h1 => ?_)
    case refine_2 =>
      simp
      exact pan7 (n := n) (by rw [← hX]; simp [readAV, readRes, h0, hrd', h1]) ⟨_, _, rfl, rfl, rfl, rfl⟩ rfl rfl rfl
    simp
    have hcode := hF.code
    have hdl := hF.defs
    have hrl := hF.refs
    have hll := hF.lines
    have hnm := hN.name
    simp only at hcode hdl hrl hll hnm hsz hcz
    have small : Deck.Small ⟨nm, code, defs, refs, lines⟩ := ⟨by simp only; omega, by simp only; omega, by simp only; omega, by simp only; omega, by simp only; omega, fun d h => by have := hN.defs d h; omega, fun d h => by have := hN.refs d h; omega⟩
    have t1 : (defs.map DDef.av).take defs.length = defs.map DDef.av := List.take_of_length_le (by simp)
    have t2 : (refs.map DRef.av).take refs.length = refs.map DRef.av := List.take_of_length_le (by simp)
    have t3 : (lines.map DLine.av).take lines.length = lines.map DLine.av := List.take_of_length_le (by simp)
    refine xcall_p ((call27 ⟨nm, code, defs, refs, lines⟩ small).flip (.agg (.cons (.cons (.list (p := false) (.list (p := false) (.list (p := false) (.refl [])))))) (.refl []))) (by simp [t1, t2, t3]) ?_
    simp
    refine br_cond rfl (fun h2 => ?_) (fun h2 => ?_)
    · simp at h2
      have hX' : X = resAV (noDeck, n, 1) := by rw [← hX]; simp [readAV, readRes, h0, hrd', h1, h2]
      simp [postF_ret]
      refine ⟨_, call22n, ?_⟩
      rintro m' rfl
      simp [cr7, permOD, permD, mapO, hX', resAV, noDeck]
    · simp at h2
      have hX' : X = resAV (Deck.av ⟨nm, code, defs, refs, lines⟩, 0, 0) := by rw [← hX]; simp [readAV, readRes, h0, hrd', h1, h2]
      simp [postF_ret]
      refine ⟨_, call22n, ?_⟩
      rintro m' rfl
      simp [cr7, permOD, permD, mapO, hX', resAV, Deck.av, t1, t2, t3]
end Go.Pm

/- ZkS12: code, resolved. Written by gen.py out of what ShowSC.lean printed. -/
namespace Go.Pm
open Go Go.Proofs

/-- ironbark/ironbarkref34.words -/
def c81 : SC :=
  (.seq (.ops [⟨(some 2), .plain .mv, [.lit .nilS], none⟩] [])
  (.seq (.ops [⟨(some 3), .plain .mv, [.lit .nilS], none⟩] [])
  (.seq (.ops [⟨(some 4), .plain .mv, [.lit (.str ⟨#[]⟩)], none⟩] [])
  (.seq (.seq (.ops [⟨(some 5), .plain .mv, [.lit (.int .i64 0)], none⟩] [])
  (.block 0
   (.loop
    (.seq (.seq (.ops [⟨(some 6), .plain .mv, [.tmp 5], none⟩,
      ⟨(some 7), .plain .mv, [.tmp 0], none⟩,
      ⟨(some 8), .plain (.len 0), [.tmp 7], none⟩,
      ⟨(some 9), .plain (.bin .leq), [.tmp 6, .tmp 8], none⟩] [6, 7, 8])
    (.cond (.tmp 9)
     .skip
     (.exit 0)))
    (.seq (.block 1
     (.seq (.seq (.ops [⟨(some 12), .plain .mv, [.tmp 5], none⟩,
       ⟨(some 13), .plain .mv, [.tmp 0], none⟩,
       ⟨(some 14), .plain (.len 0), [.tmp 13], none⟩,
       ⟨(some 15), .plain (.bin .lss), [.tmp 12, .tmp 14], none⟩,
       ⟨(some 16), .plain .mv, [.tmp 15], none⟩,
       ⟨(some 17), .plain .mv, [.tmp 0], (some (16, true))⟩,
       ⟨(some 18), .plain .mv, [.tmp 5], (some (16, true))⟩,
       ⟨(some 19), .plain .index, [.tmp 17, .tmp 18], (some (16, true))⟩,
       ⟨(some 20), .plain (.bin .neq), [.tmp 19, .lit (.int .u8 32)], (some (16, true))⟩,
       ⟨(some 21), .plain .pick, [.tmp 16, .tmp 20, .lit (.bool false)], none⟩] [12, 13, 14, 15, 16, 17, 18, 19, 20])
     (.cond (.tmp 21)
      (.seq (.ops [⟨(some 22), .plain .mv, [.tmp 4], none⟩,
        ⟨(some 23), .plain .mv, [.tmp 0], none⟩,
        ⟨(some 24), .plain .mv, [.tmp 5], none⟩,
        ⟨(some 25), .plain .mv, [.tmp 5], none⟩,
        ⟨(some 26), .plain (.bin .add), [.tmp 25, .lit (.int .i64 1)], none⟩,
        ⟨(some 27), .plain (.slice true true 0), [.tmp 23, .tmp 24, .tmp 26], none⟩,
        ⟨(some 28), .plain (.bin .add), [.tmp 22, .tmp 27], none⟩,
        ⟨(some 4), .plain .mv, [.tmp 28], none⟩] [22, 23, 24, 25, 26, 27, 28])
      (.exit 1))
      .skip))
     (.seq (.seq (.ops [⟨(some 29), .plain .mv, [.tmp 4], none⟩,
       ⟨(some 30), .plain (.bin .eql), [.tmp 29, .lit (.str ⟨#[]⟩)], none⟩] [29])
     (.cond (.tmp 30)
      (.seq (.ops [⟨(some 2), .plain .mv, [.lit .nilS], none⟩] [])
      .ret)
      .skip))
     (.ops [⟨(some 31), .plain .mv, [.tmp 3], none⟩,
       ⟨(some 32), .plain .mv, [.tmp 4], none⟩,
       ⟨(some 33), .plain (.buildRow 9 1 1 [(.str ⟨#[]⟩)] [0]), [.tmp 32], none⟩,
       ⟨(some 34), .plain (.append 9 1 16), [.tmp 31, .tmp 33], none⟩,
       ⟨(some 3), .plain .mv, [.tmp 34], none⟩,
       ⟨(some 4), .plain .mv, [.lit (.str ⟨#[]⟩)], none⟩] [31, 32, 33, 34]))))
    (.ops [⟨(some 10), .plain .mv, [.tmp 5], none⟩,
      ⟨(some 11), .plain (.bin .add), [.tmp 10, .lit (.int .i64 1)], none⟩,
      ⟨(some 5), .plain .mv, [.tmp 11], none⟩] [10, 11]))))))
  (.seq (.ops [⟨(some 35), .plain .mv, [.tmp 3], none⟩,
    ⟨(some 2), .plain .mv, [.tmp 35], none⟩] [35])
  .ret)))))
def cr81 : List Res := [(2, none)]
theorem ok81 : FOk Zk.pg.toProgram Zk.imp 81 c81 cr81 Tryz.f81.ntmps := ⟨Tryz.f81, _, Tryz.func81, rfl, by kernel_rfl, by kernel_rfl, by kernel_rfl, rfl⟩

/-- The figures, one by one. -/
def q84 : SC :=
  (.seq (.ops [⟨(some 5), .plain .mv, [.lit (.int .i64 0)], none⟩] [])
  (.seq (.seq (.ops [⟨(some 6), .plain .mv, [.lit (.int .i64 0)], none⟩] [])
  (.block 0
   (.loop
    (.seq (.seq (.ops [⟨(some 41), .plain .mv, [.tmp 6], none⟩,
      ⟨(some 42), .plain .mv, [.tmp 4], none⟩,
      ⟨(some 43), .plain (.len 0), [.tmp 42], none⟩,
      ⟨(some 44), .plain (.bin .lss), [.tmp 41, .tmp 43], none⟩] [41, 42, 43])
    (.cond (.tmp 44)
     .skip
     (.exit 0)))
    (.seq (.block 1
     (.seq (.seq (.ops [⟨(some 47), .plain .mv, [.tmp 4], none⟩,
       ⟨(some 48), .plain .mv, [.tmp 6], none⟩,
       ⟨(some 49), .plain .index, [.tmp 47, .tmp 48], none⟩,
       ⟨(some 50), .plain (.bin .lss), [.tmp 49, .lit (.int .u8 48)], none⟩,
       ⟨(some 51), .plain .mv, [.tmp 50], none⟩,
       ⟨(some 52), .plain .mv, [.tmp 4], (some (51, false))⟩,
       ⟨(some 53), .plain .mv, [.tmp 6], (some (51, false))⟩,
       ⟨(some 54), .plain .index, [.tmp 52, .tmp 53], (some (51, false))⟩,
       ⟨(some 55), .plain (.bin .gtr), [.tmp 54, .lit (.int .u8 57)], (some (51, false))⟩,
       ⟨(some 56), .plain .pick, [.tmp 51, .lit (.bool true), .tmp 55], none⟩] [47, 48, 49, 50, 51, 52, 53, 54, 55])
     (.cond (.tmp 56)
      (.seq (.ops [⟨(some 2), .plain .mv, [.lit (.int .i64 0)], none⟩,
        ⟨(some 3), .plain .mv, [.lit (.bool false)], none⟩] [])
      .ret)
      .skip))
     (.ops [⟨(some 57), .plain .mv, [.tmp 5], none⟩,
       ⟨(some 58), .plain (.bin .mul), [.tmp 57, .lit (.int .i64 10)], none⟩,
       ⟨(some 59), .plain .mv, [.tmp 4], none⟩,
       ⟨(some 60), .plain .mv, [.tmp 6], none⟩,
       ⟨(some 61), .plain .index, [.tmp 59, .tmp 60], none⟩,
       ⟨(some 62), .plain (.bin .sub), [.tmp 61, .lit (.int .u8 48)], none⟩,
       ⟨(some 63), .plain (.convInt .i64), [.tmp 62], none⟩,
       ⟨(some 64), .plain (.bin .add), [.tmp 58, .tmp 63], none⟩,
       ⟨(some 5), .plain .mv, [.tmp 64], none⟩] [57, 58, 59, 60, 61, 62, 63, 64])))
    (.ops [⟨(some 45), .plain .mv, [.tmp 6], none⟩,
      ⟨(some 46), .plain (.bin .add), [.tmp 45, .lit (.int .i64 1)], none⟩,
      ⟨(some 6), .plain .mv, [.tmp 46], none⟩] [45, 46]))))))
  (.seq (.seq (.ops [⟨(some 65), .plain .mv, [.tmp 0], none⟩,
    ⟨(some 66), .plain (.len 0), [.tmp 65], none⟩,
    ⟨(some 67), .plain .mv, [.tmp 4], none⟩,
    ⟨(some 68), .plain (.len 0), [.tmp 67], none⟩,
    ⟨(some 69), .plain (.bin .gtr), [.tmp 66, .tmp 68], none⟩] [65, 66, 67, 68])
  (.cond (.tmp 69)
   (.ops [⟨(some 70), .plain .mv, [.tmp 5], none⟩,
     ⟨(some 71), .plain (.un .neg), [.tmp 70], none⟩,
     ⟨(some 5), .plain .mv, [.tmp 71], none⟩] [70, 71])
   .skip))
  (.seq (.ops [⟨(some 72), .plain .mv, [.tmp 5], none⟩,
    ⟨(some 2), .plain .mv, [.tmp 72], none⟩,
    ⟨(some 3), .plain .mv, [.lit (.bool true)], none⟩] [72])
  .ret))))
/-- Behind the sign. -/
def r84 : SC :=
  (.seq (.seq (.ops [⟨(some 18), .plain .mv, [.tmp 4], none⟩,
    ⟨(some 19), .plain (.len 0), [.tmp 18], none⟩,
    ⟨(some 20), .plain (.bin .lss), [.tmp 19, .lit (.int .i64 1)], none⟩,
    ⟨(some 21), .plain .mv, [.tmp 20], none⟩,
    ⟨(some 22), .plain .mv, [.tmp 4], (some (21, false))⟩,
    ⟨(some 23), .plain (.len 0), [.tmp 22], (some (21, false))⟩,
    ⟨(some 24), .plain (.bin .gtr), [.tmp 23, .lit (.int .i64 10)], (some (21, false))⟩,
    ⟨(some 25), .plain .pick, [.tmp 21, .lit (.bool true), .tmp 24], none⟩,
    ⟨(some 26), .plain .mv, [.tmp 25], none⟩,
    ⟨(some 27), .plain .mv, [.tmp 4], (some (26, false))⟩,
    ⟨(some 28), .plain .index, [.tmp 27, .lit (.int .i64 0)], (some (26, false))⟩,
    ⟨(some 29), .plain (.bin .eql), [.tmp 28, .lit (.int .u8 48)], (some (26, false))⟩,
    ⟨(some 30), .plain .mv, [.tmp 29], (some (26, false))⟩,
    ⟨(some 31), .plain .mv, [.tmp 4], (some (30, true))⟩,
    ⟨(some 32), .plain (.len 0), [.tmp 31], (some (30, true))⟩,
    ⟨(some 33), .plain (.bin .gtr), [.tmp 32, .lit (.int .i64 1)], (some (30, true))⟩,
    ⟨(some 34), .plain .mv, [.tmp 33], (some (30, true))⟩,
    ⟨(some 35), .plain .mv, [.tmp 0], (some (34, false))⟩,
    ⟨(some 36), .plain (.len 0), [.tmp 35], (some (34, false))⟩,
    ⟨(some 37), .plain (.bin .gtr), [.tmp 36, .lit (.int .i64 1)], (some (34, false))⟩,
    ⟨(some 38), .plain .pick, [.tmp 34, .lit (.bool true), .tmp 37], (some (30, true))⟩,
    ⟨(some 39), .plain .pick, [.tmp 30, .tmp 38, .lit (.bool false)], (some (26, false))⟩,
    ⟨(some 40), .plain .pick, [.tmp 26, .lit (.bool true), .tmp 39], none⟩] [18, 19, 20, 21, 22, 23, 24, 25, 26, 27, 28, 29, 30, 31, 32, 33, 34, 35, 36, 37, 38, 39])
  (.cond (.tmp 40)
   (.seq (.ops [⟨(some 2), .plain .mv, [.lit (.int .i64 0)], none⟩,
     ⟨(some 3), .plain .mv, [.lit (.bool false)], none⟩] [])
   .ret)
   .skip))
  q84)
/-- ironbark/ironbarkref34.number -/
def c84 : SC :=
  (.seq (.ops [⟨(some 2), .plain .mv, [.lit (.int .i64 0)], none⟩,
    ⟨(some 3), .plain .mv, [.lit (.bool false)], none⟩] [])
  (.seq (.ops [⟨(some 7), .plain .mv, [.tmp 0], none⟩,
    ⟨(some 4), .plain .mv, [.tmp 7], none⟩] [7])
  (.seq (.seq (.ops [⟨(some 8), .plain .mv, [.tmp 4], none⟩,
    ⟨(some 9), .plain (.len 0), [.tmp 8], none⟩,
    ⟨(some 10), .plain (.bin .gtr), [.tmp 9, .lit (.int .i64 0)], none⟩,
    ⟨(some 11), .plain .mv, [.tmp 10], none⟩,
    ⟨(some 12), .plain .mv, [.tmp 4], (some (11, true))⟩,
    ⟨(some 13), .plain .index, [.tmp 12, .lit (.int .i64 0)], (some (11, true))⟩,
    ⟨(some 14), .plain (.bin .eql), [.tmp 13, .lit (.int .u8 45)], (some (11, true))⟩,
    ⟨(some 15), .plain .pick, [.tmp 11, .tmp 14, .lit (.bool false)], none⟩] [8, 9, 10, 11, 12, 13, 14])
  (.cond (.tmp 15)
   (.ops [⟨(some 16), .plain .mv, [.tmp 4], none⟩,
     ⟨(some 17), .plain (.slice true false 0), [.tmp 16, .lit (.int .i64 1)], none⟩,
     ⟨(some 4), .plain .mv, [.tmp 17], none⟩] [16, 17])
   .skip))
  r84)))
def cr84 : List Res := [(2, none), (3, none)]
theorem ok84 : FOk Zk.pg.toProgram Zk.imp 84 c84 cr84 Tryz.f84.ntmps := ⟨Tryz.f84, _, Tryz.func84, rfl, by kernel_rfl, by kernel_rfl, by kernel_rfl, rfl⟩

/-- (*ironbark/ironbarkref34.reading).line -/
def c28 : SC :=
  (.seq (.ops [⟨(some 4), .plain .mv, [.lit (.bool false)], none⟩] [])
  (.seq (.ops [⟨(some 20), .plain .mv, [.tmp 1], none⟩,
    ⟨(some 21), .call 81, [.tmp 20], none⟩,
    ⟨(some 5), .plain .mv, [.tmp 21], none⟩] [20, 21])
  (.seq (.seq (.ops [⟨(some 22), .plain .mv, [.tmp 5], none⟩,
    ⟨(some 23), .plain (.len 1), [.tmp 22], none⟩,
    ⟨(some 24), .plain (.bin .eql), [.tmp 23, .lit (.int .i64 0)], none⟩,
    ⟨(some 25), .plain .mv, [.tmp 24], none⟩,
    ⟨(some 26), .plain .mv, [.tmp 0], (some (25, false))⟩,
    ⟨(some 27), .plain .nilCheck, [.tmp 26], (some (25, false))⟩,
    ⟨(some 28), .plain (.fieldAddr 5), [.tmp 27], (some (25, false))⟩,
    ⟨(some 29), .plain (.load false 1), [.tmp 28], (some (25, false))⟩,
    ⟨(some 30), .plain (.bin .eql), [.tmp 29, .lit (.int .i64 6)], (some (25, false))⟩,
    ⟨(some 31), .plain .pick, [.tmp 25, .lit (.bool true), .tmp 30], none⟩] [22, 23, 24, 25, 26, 27, 28, 29, 30])
  (.cond (.tmp 31)
   (.seq (.ops [⟨(some 4), .plain .mv, [.lit (.bool false)], none⟩] [])
   .ret)
   .skip))
  (.seq (.block 0
   (.seq (.ops [⟨(some 33), .plain .mv, [.tmp 5], none⟩,
     ⟨(some 34), .plain (.indexAddr 1), [.tmp 33, .lit (.int .i64 0)], none⟩,
     ⟨(some 35), .plain (.load false 1), [.tmp 34], none⟩,
     ⟨(some 36), .plain (.bin .eql), [.tmp 35, .lit (.str ⟨#[79, 66, 74, 69, 67, 84]⟩)], none⟩,
     ⟨(some 37), .plain .mv, [.tmp 36], none⟩,
     ⟨(some 38), .plain .mv, [.tmp 5], (some (37, true))⟩,
     ⟨(some 39), .plain (.len 1), [.tmp 38], (some (37, true))⟩,
     ⟨(some 40), .plain (.bin .eql), [.tmp 39, .lit (.int .i64 2)], (some (37, true))⟩,
     ⟨(some 41), .plain .pick, [.tmp 37, .tmp 40, .lit (.bool false)], none⟩,
     ⟨(some 42), .plain .mv, [.tmp 41], none⟩,
     ⟨(some 43), .plain .mv, [.tmp 0], (some (42, true))⟩,
     ⟨(some 44), .plain .nilCheck, [.tmp 43], (some (42, true))⟩,
     ⟨(some 45), .plain (.fieldAddr 5), [.tmp 44], (some (42, true))⟩,
     ⟨(some 46), .plain (.load false 1), [.tmp 45], (some (42, true))⟩,
     ⟨(some 47), .plain (.bin .eql), [.tmp 46, .lit (.int .i64 0)], (some (42, true))⟩,
     ⟨(some 48), .plain .pick, [.tmp 42, .tmp 47, .lit (.bool false)], none⟩,
     ⟨(some 49), .plain .mv, [.tmp 48], none⟩,
     ⟨(some 50), .plain .mv, [.tmp 5], (some (49, true))⟩,
     ⟨(some 51), .plain (.indexAddr 1), [.tmp 50, .lit (.int .i64 1)], (some (49, true))⟩,
     ⟨(some 52), .plain (.load false 1), [.tmp 51], (some (49, true))⟩,
     ⟨(some 53), .call 82, [.tmp 52], (some (49, true))⟩,
     ⟨(some 54), .plain .pick, [.tmp 49, .tmp 53, .lit (.bool false)], none⟩,
     ⟨(some 32), .plain .mv, [.tmp 54], none⟩] [33, 34, 35, 36, 37, 38, 39, 40, 41, 42, 43, 44, 45, 46, 47, 48, 49, 50, 51, 52, 53, 54])
   (.cond (.tmp 32)
    (.seq (.ops [⟨(some 55), .plain .mv, [.tmp 0], none⟩,
      ⟨(some 56), .plain .mv, [.tmp 0], none⟩,
      ⟨(some 57), .plain .mv, [.tmp 0], none⟩,
      ⟨(some 58), .plain .mv, [.tmp 5], none⟩,
      ⟨(some 59), .plain (.indexAddr 1), [.tmp 58, .lit (.int .i64 1)], none⟩,
      ⟨(some 60), .plain (.load false 1), [.tmp 59], none⟩,
      ⟨(some 61), .plain .nilCheck, [.tmp 55], none⟩,
      ⟨(some 62), .plain (.fieldAddr 0), [.tmp 61], none⟩,
      ⟨(some 63), .plain (.fieldAddr 0), [.tmp 62], none⟩,
      ⟨none, .plain (.store 1), [.tmp 63, .tmp 60], none⟩,
      ⟨(some 64), .plain .nilCheck, [.tmp 56], none⟩,
      ⟨(some 65), .plain (.fieldAddr 5), [.tmp 64], none⟩,
      ⟨none, .plain (.store 1), [.tmp 65, .lit (.int .i64 1)], none⟩,
      ⟨(some 66), .plain .nilCheck, [.tmp 57], none⟩,
      ⟨(some 67), .plain (.fieldAddr 6), [.tmp 66], none⟩,
      ⟨none, .plain (.store 1), [.tmp 67, .lit (.bool true)], none⟩] [55, 56, 57, 58, 59, 60, 61, 62, 63, 64, 65, 66, 67])
    (.seq (.ops [⟨(some 4), .plain .mv, [.lit (.bool true)], none⟩] [])
    .ret))
    (.seq (.ops [⟨(some 69), .plain .mv, [.tmp 0], none⟩,
      ⟨(some 70), .plain .nilCheck, [.tmp 69], none⟩,
      ⟨(some 71), .plain (.fieldAddr 5), [.tmp 70], none⟩,
      ⟨(some 72), .plain (.load false 1), [.tmp 71], none⟩,
      ⟨(some 73), .plain (.bin .eql), [.tmp 72, .lit (.int .i64 0)], none⟩,
      ⟨(some 68), .plain .mv, [.tmp 73], none⟩] [69, 70, 71, 72, 73])
    (.cond (.tmp 68)
     (.seq (.ops [⟨(some 4), .plain .mv, [.lit (.bool false)], none⟩] [])
     .ret)
     (.seq (.ops [⟨(some 75), .plain .mv, [.tmp 5], none⟩,
       ⟨(some 76), .plain (.indexAddr 1), [.tmp 75, .lit (.int .i64 0)], none⟩,
       ⟨(some 77), .plain (.load false 1), [.tmp 76], none⟩,
       ⟨(some 78), .plain (.bin .eql), [.tmp 77, .lit (.str ⟨#[67, 79, 68, 69]⟩)], none⟩,
       ⟨(some 79), .plain .mv, [.tmp 78], none⟩,
       ⟨(some 80), .plain .mv, [.tmp 5], (some (79, true))⟩,
       ⟨(some 81), .plain (.len 1), [.tmp 80], (some (79, true))⟩,
       ⟨(some 82), .plain (.bin .eql), [.tmp 81, .lit (.int .i64 2)], (some (79, true))⟩,
       ⟨(some 83), .plain .pick, [.tmp 79, .tmp 82, .lit (.bool false)], none⟩,
       ⟨(some 84), .plain .mv, [.tmp 83], none⟩,
       ⟨(some 85), .plain .mv, [.tmp 0], (some (84, true))⟩,
       ⟨(some 86), .plain .nilCheck, [.tmp 85], (some (84, true))⟩,
       ⟨(some 87), .plain (.fieldAddr 5), [.tmp 86], (some (84, true))⟩,
       ⟨(some 88), .plain (.load false 1), [.tmp 87], (some (84, true))⟩,
       ⟨(some 89), .plain (.bin .leq), [.tmp 88, .lit (.int .i64 2)], (some (84, true))⟩,
       ⟨(some 90), .plain .pick, [.tmp 84, .tmp 89, .lit (.bool false)], none⟩,
       ⟨(some 91), .plain .mv, [.tmp 90], none⟩,
       ⟨(some 92), .plain .mv, [.tmp 0], (some (91, true))⟩,
       ⟨(some 93), .plain .nilCheck, [.tmp 92], (some (91, true))⟩,
       ⟨(some 94), .plain (.fieldAddr 6), [.tmp 93], (some (91, true))⟩,
       ⟨(some 95), .plain (.load false 1), [.tmp 94], (some (91, true))⟩,
       ⟨(some 96), .plain .pick, [.tmp 91, .tmp 95, .lit (.bool false)], none⟩,
       ⟨(some 74), .plain .mv, [.tmp 96], none⟩] [75, 76, 77, 78, 79, 80, 81, 82, 83, 84, 85, 86, 87, 88, 89, 90, 91, 92, 93, 94, 95, 96])
     (.cond (.tmp 74)
      (.seq (.ops [⟨(some 97), .plain .mv, [.tmp 5], none⟩,
        ⟨(some 98), .plain (.indexAddr 1), [.tmp 97, .lit (.int .i64 1)], none⟩,
        ⟨(some 99), .plain (.load false 1), [.tmp 98], none⟩,
        ⟨(some 6), .plain .mv, [.tmp 99], none⟩] [97, 98, 99])
      (.seq (.seq (.ops [⟨(some 100), .plain .mv, [.tmp 6], none⟩,
        ⟨(some 101), .plain (.len 0), [.tmp 100], none⟩,
        ⟨(some 102), .plain (.bin .rem), [.tmp 101, .lit (.int .i64 2)], none⟩,
        ⟨(some 103), .plain (.bin .neq), [.tmp 102, .lit (.int .i64 0)], none⟩,
        ⟨(some 104), .plain .mv, [.tmp 103], none⟩,
        ⟨(some 105), .plain .mv, [.tmp 6], (some (104, false))⟩,
        ⟨(some 106), .plain (.len 0), [.tmp 105], (some (104, false))⟩,
        ⟨(some 107), .plain (.bin .gtr), [.tmp 106, .lit (.int .i64 64)], (some (104, false))⟩,
        ⟨(some 108), .plain .pick, [.tmp 104, .lit (.bool true), .tmp 107], none⟩] [100, 101, 102, 103, 104, 105, 106, 107])
      (.cond (.tmp 108)
       (.seq (.ops [⟨(some 4), .plain .mv, [.lit (.bool false)], none⟩] [])
       .ret)
       .skip))
      (.seq (.seq (.ops [⟨(some 7), .plain .mv, [.lit (.int .i64 0)], none⟩] [])
      (.block 1
       (.loop
        (.seq (.seq (.ops [⟨(some 109), .plain .mv, [.tmp 7], none⟩,
          ⟨(some 110), .plain .mv, [.tmp 6], none⟩,
          ⟨(some 111), .plain (.len 0), [.tmp 110], none⟩,
          ⟨(some 112), .plain (.bin .lss), [.tmp 109, .tmp 111], none⟩] [109, 110, 111])
        (.cond (.tmp 112)
         .skip
         (.exit 1)))
        (.seq (.block 2
         (.seq (.draw (.step ⟨(some 115), .plain .mv, [.tmp 6], none⟩
           (.step ⟨(some 116), .plain .mv, [.tmp 7], none⟩
           (.step ⟨(some 117), .plain .index, [.tmp 115, .tmp 116], none⟩
           (.step ⟨(some 118), .call 83, [.tmp 117], none⟩
           (.step ⟨(some 119), .plain .mv, [.tmp 6], none⟩
           (.step ⟨(some 120), .plain .mv, [.tmp 7], none⟩
           (.step ⟨(some 121), .plain (.bin .add), [.tmp 120, .lit (.int .i64 1)], none⟩
           (.step ⟨(some 122), .plain .index, [.tmp 119, .tmp 121], none⟩
           (.step ⟨(some 123), .call 83, [.tmp 122], none⟩
           (.step ⟨(some 8), .plain .mv, [.tmp 118], none⟩
           (.step ⟨(some 9), .plain .mv, [.tmp 123], none⟩
           .done))))))))))) [115, 116, 117, 118, 119, 120, 121, 122, 123])
         (.seq (.seq (.ops [⟨(some 124), .plain .mv, [.tmp 8], none⟩,
           ⟨(some 125), .plain (.bin .lss), [.tmp 124, .lit (.int .i64 0)], none⟩,
           ⟨(some 126), .plain .mv, [.tmp 125], none⟩,
           ⟨(some 127), .plain .mv, [.tmp 9], (some (126, false))⟩,
           ⟨(some 128), .plain (.bin .lss), [.tmp 127, .lit (.int .i64 0)], (some (126, false))⟩,
           ⟨(some 129), .plain .pick, [.tmp 126, .lit (.bool true), .tmp 128], none⟩] [124, 125, 126, 127, 128])
         (.cond (.tmp 129)
          (.seq (.ops [⟨(some 4), .plain .mv, [.lit (.bool false)], none⟩] [])
          .ret)
          .skip))
         (.draw (.step ⟨(some 130), .plain .mv, [.tmp 0], none⟩
           (.step ⟨(some 131), .plain .nilCheck, [.tmp 130], none⟩
           (.step ⟨(some 132), .plain (.fieldAddr 0), [.tmp 131], none⟩
           (.step ⟨(some 133), .plain (.fieldAddr 1), [.tmp 132], none⟩
           (.step ⟨(some 134), .plain (.load false 1), [.tmp 133], none⟩
           (.step ⟨(some 135), .plain .mv, [.tmp 8], none⟩
           (.step ⟨(some 136), .plain (.bin .mul), [.lit (.int .i64 16), .tmp 135], none⟩
           (.step ⟨(some 137), .plain .mv, [.tmp 9], none⟩
           (.step ⟨(some 138), .plain (.bin .add), [.tmp 136, .tmp 137], none⟩
           (.step ⟨(some 139), .plain (.convInt .u8), [.tmp 138], none⟩
           (.step ⟨(some 140), .plain (.buildRow 5 1 1 [(.int .u8 0)] [0]), [.tmp 139], none⟩
           (.step ⟨(some 141), .plain .bytesToStr, [.tmp 140], none⟩
           (.step ⟨(some 142), .plain (.bin .add), [.tmp 134, .tmp 141], none⟩
           (.step ⟨(some 143), .plain .nilCheck, [.tmp 130], none⟩
           (.step ⟨(some 144), .plain (.fieldAddr 0), [.tmp 143], none⟩
           (.step ⟨(some 145), .plain (.fieldAddr 1), [.tmp 144], none⟩
           (.step ⟨none, .plain (.store 1), [.tmp 145, .tmp 142], none⟩
           .done))))))))))))))))) [130, 131, 132, 133, 134, 135, 136, 137, 138, 139, 140, 141, 142, 143, 144, 145]))))
        (.ops [⟨(some 113), .plain .mv, [.tmp 7], none⟩,
          ⟨(some 114), .plain (.bin .add), [.tmp 113, .lit (.int .i64 2)], none⟩,
          ⟨(some 7), .plain .mv, [.tmp 114], none⟩] [113, 114]))))))
      (.seq (.ops [⟨(some 146), .plain .mv, [.tmp 0], none⟩,
        ⟨(some 147), .plain .mv, [.tmp 0], none⟩,
        ⟨(some 148), .plain .mv, [.tmp 6], none⟩,
        ⟨(some 149), .plain (.len 0), [.tmp 148], none⟩,
        ⟨(some 150), .plain (.bin .eql), [.tmp 149, .lit (.int .i64 64)], none⟩,
        ⟨(some 151), .plain .nilCheck, [.tmp 146], none⟩,
        ⟨(some 152), .plain (.fieldAddr 5), [.tmp 151], none⟩,
        ⟨none, .plain (.store 1), [.tmp 152, .lit (.int .i64 2)], none⟩,
        ⟨(some 153), .plain .nilCheck, [.tmp 147], none⟩,
        ⟨(some 154), .plain (.fieldAddr 6), [.tmp 153], none⟩,
        ⟨none, .plain (.store 1), [.tmp 154, .tmp 150], none⟩] [146, 147, 148, 149, 150, 151, 152, 153, 154])
      (.seq (.ops [⟨(some 4), .plain .mv, [.lit (.bool true)], none⟩] [])
      .ret)))))
      (.seq (.ops [⟨(some 156), .plain .mv, [.tmp 5], none⟩,
        ⟨(some 157), .plain (.indexAddr 1), [.tmp 156, .lit (.int .i64 0)], none⟩,
        ⟨(some 158), .plain (.load false 1), [.tmp 157], none⟩,
        ⟨(some 159), .plain (.bin .eql), [.tmp 158, .lit (.str ⟨#[68, 69, 70]⟩)], none⟩,
        ⟨(some 160), .plain .mv, [.tmp 159], none⟩,
        ⟨(some 161), .plain .mv, [.tmp 5], (some (160, true))⟩,
        ⟨(some 162), .plain (.len 1), [.tmp 161], (some (160, true))⟩,
        ⟨(some 163), .plain (.bin .eql), [.tmp 162, .lit (.int .i64 3)], (some (160, true))⟩,
        ⟨(some 164), .plain .pick, [.tmp 160, .tmp 163, .lit (.bool false)], none⟩,
        ⟨(some 165), .plain .mv, [.tmp 164], none⟩,
        ⟨(some 166), .plain .mv, [.tmp 0], (some (165, true))⟩,
        ⟨(some 167), .plain .nilCheck, [.tmp 166], (some (165, true))⟩,
        ⟨(some 168), .plain (.fieldAddr 5), [.tmp 167], (some (165, true))⟩,
        ⟨(some 169), .plain (.load false 1), [.tmp 168], (some (165, true))⟩,
        ⟨(some 170), .plain (.bin .leq), [.tmp 169, .lit (.int .i64 3)], (some (165, true))⟩,
        ⟨(some 171), .plain .pick, [.tmp 165, .tmp 170, .lit (.bool false)], none⟩,
        ⟨(some 172), .plain .mv, [.tmp 171], none⟩,
        ⟨(some 173), .plain .mv, [.tmp 5], (some (172, true))⟩,
        ⟨(some 174), .plain (.indexAddr 1), [.tmp 173, .lit (.int .i64 1)], (some (172, true))⟩,
        ⟨(some 175), .plain (.load false 1), [.tmp 174], (some (172, true))⟩,
        ⟨(some 176), .call 82, [.tmp 175], (some (172, true))⟩,
        ⟨(some 177), .plain .pick, [.tmp 172, .tmp 176, .lit (.bool false)], none⟩,
        ⟨(some 155), .plain .mv, [.tmp 177], none⟩] [156, 157, 158, 159, 160, 161, 162, 163, 164, 165, 166, 167, 168, 169, 170, 171, 172, 173, 174, 175, 176, 177])
      (.cond (.tmp 155)
       (.seq (.ops [⟨(some 179), .plain .mv, [.tmp 5], none⟩,
         ⟨(some 180), .plain (.indexAddr 1), [.tmp 179, .lit (.int .i64 2)], none⟩,
         ⟨(some 181), .plain (.load false 1), [.tmp 180], none⟩,
         ⟨(some 182), .call 84, [.tmp 181], none⟩,
         ⟨(some 178), .plain .mv, [.tmp 182], none⟩,
         ⟨(some 183), .plain (.extract 0), [.tmp 178], none⟩,
         ⟨(some 184), .plain (.extract 1), [.tmp 178], none⟩,
         ⟨(some 10), .plain .mv, [.tmp 183], none⟩,
         ⟨(some 11), .plain .mv, [.tmp 184], none⟩] [179, 180, 181, 182, 178, 183, 184])
       (.seq (.draw (.step ⟨(some 185), .plain .mv, [.tmp 0], none⟩
         (.step ⟨(some 186), .plain .mv, [.tmp 0], none⟩
         (.step ⟨(some 187), .plain .mv, [.tmp 0], none⟩
         (.step ⟨(some 188), .plain .nilCheck, [.tmp 187], none⟩
         (.step ⟨(some 189), .plain (.fieldAddr 0), [.tmp 188], none⟩
         (.step ⟨(some 190), .plain (.fieldAddr 2), [.tmp 189], none⟩
         (.step ⟨(some 191), .plain (.load false 1), [.tmp 190], none⟩
         (.step ⟨(some 192), .plain .mv, [.tmp 5], none⟩
         (.step ⟨(some 193), .plain (.indexAddr 1), [.tmp 192, .lit (.int .i64 1)], none⟩
         (.step ⟨(some 194), .plain (.load false 1), [.tmp 193], none⟩
         (.step ⟨(some 195), .plain .mv, [.tmp 10], none⟩
         (.step ⟨(some 196), .plain (.build [(.str ⟨#[]⟩), (.int .i64 0)] [(0, 1), (1, 1)]), [.tmp 194, .tmp 195], none⟩
         (.step ⟨(some 197), .plain (.buildRow 65 2 1 [(.str ⟨#[]⟩), (.int .i64 0)] [0]), [.tmp 196], none⟩
         (.step ⟨(some 198), .plain (.append 65 2 24), [.tmp 191, .tmp 197], none⟩
         (.step ⟨(some 199), .plain .nilCheck, [.tmp 185], none⟩
         (.step ⟨(some 200), .plain (.fieldAddr 0), [.tmp 199], none⟩
         (.step ⟨(some 201), .plain (.fieldAddr 2), [.tmp 200], none⟩
         (.step ⟨none, .plain (.store 1), [.tmp 201, .tmp 198], none⟩
         (.step ⟨(some 202), .plain .nilCheck, [.tmp 186], none⟩
         (.step ⟨(some 203), .plain (.fieldAddr 5), [.tmp 202], none⟩
         (.step ⟨none, .plain (.store 1), [.tmp 203, .lit (.int .i64 3)], none⟩
         .done))))))))))))))))))))) [185, 186, 187, 188, 189, 190, 191, 192, 193, 194, 195, 196, 197, 198, 199, 200, 201, 202, 203])
       (.seq (.ops [⟨(some 204), .plain .mv, [.tmp 11], none⟩,
         ⟨(some 4), .plain .mv, [.tmp 204], none⟩] [204])
       .ret)))
       (.seq (.ops [⟨(some 206), .plain .mv, [.tmp 5], none⟩,
         ⟨(some 207), .plain (.indexAddr 1), [.tmp 206, .lit (.int .i64 0)], none⟩,
         ⟨(some 208), .plain (.load false 1), [.tmp 207], none⟩,
         ⟨(some 209), .plain (.bin .eql), [.tmp 208, .lit (.str ⟨#[82, 69, 70]⟩)], none⟩,
         ⟨(some 210), .plain .mv, [.tmp 209], none⟩,
         ⟨(some 211), .plain .mv, [.tmp 5], (some (210, true))⟩,
         ⟨(some 212), .plain (.len 1), [.tmp 211], (some (210, true))⟩,
         ⟨(some 213), .plain (.bin .eql), [.tmp 212, .lit (.int .i64 4)], (some (210, true))⟩,
         ⟨(some 214), .plain .pick, [.tmp 210, .tmp 213, .lit (.bool false)], none⟩,
         ⟨(some 215), .plain .mv, [.tmp 214], none⟩,
         ⟨(some 216), .plain .mv, [.tmp 0], (some (215, true))⟩,
         ⟨(some 217), .plain .nilCheck, [.tmp 216], (some (215, true))⟩,
         ⟨(some 218), .plain (.fieldAddr 5), [.tmp 217], (some (215, true))⟩,
         ⟨(some 219), .plain (.load false 1), [.tmp 218], (some (215, true))⟩,
         ⟨(some 220), .plain (.bin .leq), [.tmp 219, .lit (.int .i64 4)], (some (215, true))⟩,
         ⟨(some 221), .plain .pick, [.tmp 215, .tmp 220, .lit (.bool false)], none⟩,
         ⟨(some 222), .plain .mv, [.tmp 221], none⟩,
         ⟨(some 223), .plain .mv, [.tmp 5], (some (222, true))⟩,
         ⟨(some 224), .plain (.indexAddr 1), [.tmp 223, .lit (.int .i64 2)], (some (222, true))⟩,
         ⟨(some 225), .plain (.load false 1), [.tmp 224], (some (222, true))⟩,
         ⟨(some 226), .call 82, [.tmp 225], (some (222, true))⟩,
         ⟨(some 227), .plain .pick, [.tmp 222, .tmp 226, .lit (.bool false)], none⟩,
         ⟨(some 205), .plain .mv, [.tmp 227], none⟩] [206, 207, 208, 209, 210, 211, 212, 213, 214, 215, 216, 217, 218, 219, 220, 221, 222, 223, 224, 225, 226, 227])
       (.cond (.tmp 205)
        (.seq (.ops [⟨(some 229), .plain .mv, [.tmp 5], none⟩,
          ⟨(some 230), .plain (.indexAddr 1), [.tmp 229, .lit (.int .i64 1)], none⟩,
          ⟨(some 231), .plain (.load false 1), [.tmp 230], none⟩,
          ⟨(some 232), .call 84, [.tmp 231], none⟩,
          ⟨(some 228), .plain .mv, [.tmp 232], none⟩,
          ⟨(some 233), .plain (.extract 0), [.tmp 228], none⟩,
          ⟨(some 234), .plain (.extract 1), [.tmp 228], none⟩,
          ⟨(some 12), .plain .mv, [.tmp 233], none⟩,
          ⟨(some 13), .plain .mv, [.tmp 234], none⟩] [229, 230, 231, 232, 228, 233, 234])
        (.seq (.ops [⟨(some 236), .plain .mv, [.tmp 5], none⟩,
          ⟨(some 237), .plain (.indexAddr 1), [.tmp 236, .lit (.int .i64 3)], none⟩,
          ⟨(some 238), .plain (.load false 1), [.tmp 237], none⟩,
          ⟨(some 239), .call 84, [.tmp 238], none⟩,
          ⟨(some 235), .plain .mv, [.tmp 239], none⟩,
          ⟨(some 240), .plain (.extract 0), [.tmp 235], none⟩,
          ⟨(some 241), .plain (.extract 1), [.tmp 235], none⟩,
          ⟨(some 14), .plain .mv, [.tmp 240], none⟩,
          ⟨(some 15), .plain .mv, [.tmp 241], none⟩] [236, 237, 238, 239, 235, 240, 241])
        (.seq (.draw (.step ⟨(some 242), .plain .mv, [.tmp 0], none⟩
          (.step ⟨(some 243), .plain .mv, [.tmp 0], none⟩
          (.step ⟨(some 244), .plain .mv, [.tmp 0], none⟩
          (.step ⟨(some 245), .plain .nilCheck, [.tmp 244], none⟩
          (.step ⟨(some 246), .plain (.fieldAddr 0), [.tmp 245], none⟩
          (.step ⟨(some 247), .plain (.fieldAddr 3), [.tmp 246], none⟩
          (.step ⟨(some 248), .plain (.load false 1), [.tmp 247], none⟩
          (.step ⟨(some 249), .plain .mv, [.tmp 12], none⟩
          (.step ⟨(some 250), .plain .mv, [.tmp 5], none⟩
          (.step ⟨(some 251), .plain (.indexAddr 1), [.tmp 250, .lit (.int .i64 2)], none⟩
          (.step ⟨(some 252), .plain (.load false 1), [.tmp 251], none⟩
          (.step ⟨(some 253), .plain .mv, [.tmp 14], none⟩
          (.step ⟨(some 254), .plain (.build [(.int .i64 0), (.str ⟨#[]⟩), (.int .i64 0)] [(0, 1), (1, 1), (2, 1)]), [.tmp 249, .tmp 252, .tmp 253], none⟩
          (.step ⟨(some 255), .plain (.buildRow 77 3 1 [(.int .i64 0), (.str ⟨#[]⟩), (.int .i64 0)] [0]), [.tmp 254], none⟩
          (.step ⟨(some 256), .plain (.append 77 3 32), [.tmp 248, .tmp 255], none⟩
          (.step ⟨(some 257), .plain .nilCheck, [.tmp 242], none⟩
          (.step ⟨(some 258), .plain (.fieldAddr 0), [.tmp 257], none⟩
          (.step ⟨(some 259), .plain (.fieldAddr 3), [.tmp 258], none⟩
          (.step ⟨none, .plain (.store 1), [.tmp 259, .tmp 256], none⟩
          (.step ⟨(some 260), .plain .nilCheck, [.tmp 243], none⟩
          (.step ⟨(some 261), .plain (.fieldAddr 5), [.tmp 260], none⟩
          (.step ⟨none, .plain (.store 1), [.tmp 261, .lit (.int .i64 4)], none⟩
          .done)))))))))))))))))))))) [242, 243, 244, 245, 246, 247, 248, 249, 250, 251, 252, 253, 254, 255, 256, 257, 258, 259, 260, 261])
        (.seq (.ops [⟨(some 262), .plain .mv, [.tmp 13], none⟩,
          ⟨(some 263), .plain .mv, [.tmp 262], none⟩,
          ⟨(some 264), .plain .mv, [.tmp 15], (some (263, true))⟩,
          ⟨(some 265), .plain .pick, [.tmp 263, .tmp 264, .lit (.bool false)], none⟩,
          ⟨(some 4), .plain .mv, [.tmp 265], none⟩] [262, 263, 264, 265])
        .ret))))
        (.seq (.ops [⟨(some 267), .plain .mv, [.tmp 5], none⟩,
          ⟨(some 268), .plain (.indexAddr 1), [.tmp 267, .lit (.int .i64 0)], none⟩,
          ⟨(some 269), .plain (.load false 1), [.tmp 268], none⟩,
          ⟨(some 270), .plain (.bin .eql), [.tmp 269, .lit (.str ⟨#[76, 73, 78, 69]⟩)], none⟩,
          ⟨(some 271), .plain .mv, [.tmp 270], none⟩,
          ⟨(some 272), .plain .mv, [.tmp 5], (some (271, true))⟩,
          ⟨(some 273), .plain (.len 1), [.tmp 272], (some (271, true))⟩,
          ⟨(some 274), .plain (.bin .eql), [.tmp 273, .lit (.int .i64 3)], (some (271, true))⟩,
          ⟨(some 275), .plain .pick, [.tmp 271, .tmp 274, .lit (.bool false)], none⟩,
          ⟨(some 276), .plain .mv, [.tmp 275], none⟩,
          ⟨(some 277), .plain .mv, [.tmp 0], (some (276, true))⟩,
          ⟨(some 278), .plain .nilCheck, [.tmp 277], (some (276, true))⟩,
          ⟨(some 279), .plain (.fieldAddr 5), [.tmp 278], (some (276, true))⟩,
          ⟨(some 280), .plain (.load false 1), [.tmp 279], (some (276, true))⟩,
          ⟨(some 281), .plain (.bin .leq), [.tmp 280, .lit (.int .i64 5)], (some (276, true))⟩,
          ⟨(some 282), .plain .pick, [.tmp 276, .tmp 281, .lit (.bool false)], none⟩,
          ⟨(some 266), .plain .mv, [.tmp 282], none⟩] [267, 268, 269, 270, 271, 272, 273, 274, 275, 276, 277, 278, 279, 280, 281, 282])
        (.cond (.tmp 266)
         (.seq (.ops [⟨(some 284), .plain .mv, [.tmp 5], none⟩,
           ⟨(some 285), .plain (.indexAddr 1), [.tmp 284, .lit (.int .i64 1)], none⟩,
           ⟨(some 286), .plain (.load false 1), [.tmp 285], none⟩,
           ⟨(some 287), .call 84, [.tmp 286], none⟩,
           ⟨(some 283), .plain .mv, [.tmp 287], none⟩,
           ⟨(some 288), .plain (.extract 0), [.tmp 283], none⟩,
           ⟨(some 289), .plain (.extract 1), [.tmp 283], none⟩,
           ⟨(some 16), .plain .mv, [.tmp 288], none⟩,
           ⟨(some 17), .plain .mv, [.tmp 289], none⟩] [284, 285, 286, 287, 283, 288, 289])
         (.seq (.ops [⟨(some 291), .plain .mv, [.tmp 5], none⟩,
           ⟨(some 292), .plain (.indexAddr 1), [.tmp 291, .lit (.int .i64 2)], none⟩,
           ⟨(some 293), .plain (.load false 1), [.tmp 292], none⟩,
           ⟨(some 294), .call 84, [.tmp 293], none⟩,
           ⟨(some 290), .plain .mv, [.tmp 294], none⟩,
           ⟨(some 295), .plain (.extract 0), [.tmp 290], none⟩,
           ⟨(some 296), .plain (.extract 1), [.tmp 290], none⟩,
           ⟨(some 18), .plain .mv, [.tmp 295], none⟩,
           ⟨(some 19), .plain .mv, [.tmp 296], none⟩] [291, 292, 293, 294, 290, 295, 296])
         (.seq (.ops [⟨(some 297), .plain .mv, [.tmp 0], none⟩,
           ⟨(some 298), .plain .mv, [.tmp 0], none⟩,
           ⟨(some 299), .plain .mv, [.tmp 0], none⟩,
           ⟨(some 300), .plain .nilCheck, [.tmp 299], none⟩,
           ⟨(some 301), .plain (.fieldAddr 0), [.tmp 300], none⟩,
           ⟨(some 302), .plain (.fieldAddr 4), [.tmp 301], none⟩,
           ⟨(some 303), .plain (.load false 1), [.tmp 302], none⟩,
           ⟨(some 304), .plain .mv, [.tmp 16], none⟩,
           ⟨(some 305), .plain .mv, [.tmp 18], none⟩,
           ⟨(some 306), .plain (.build [(.int .i64 0), (.int .i64 0)] [(0, 1), (1, 1)]), [.tmp 304, .tmp 305], none⟩,
           ⟨(some 307), .plain (.buildRow 79 2 1 [(.int .i64 0), (.int .i64 0)] [0]), [.tmp 306], none⟩,
           ⟨(some 308), .plain (.append 79 2 16), [.tmp 303, .tmp 307], none⟩,
           ⟨(some 309), .plain .nilCheck, [.tmp 297], none⟩,
           ⟨(some 310), .plain (.fieldAddr 0), [.tmp 309], none⟩,
           ⟨(some 311), .plain (.fieldAddr 4), [.tmp 310], none⟩,
           ⟨none, .plain (.store 1), [.tmp 311, .tmp 308], none⟩,
           ⟨(some 312), .plain .nilCheck, [.tmp 298], none⟩,
           ⟨(some 313), .plain (.fieldAddr 5), [.tmp 312], none⟩,
           ⟨none, .plain (.store 1), [.tmp 313, .lit (.int .i64 5)], none⟩] [297, 298, 299, 300, 301, 302, 303, 304, 305, 306, 307, 308, 309, 310, 311, 312, 313])
         (.seq (.ops [⟨(some 314), .plain .mv, [.tmp 17], none⟩,
           ⟨(some 315), .plain .mv, [.tmp 314], none⟩,
           ⟨(some 316), .plain .mv, [.tmp 19], (some (315, true))⟩,
           ⟨(some 317), .plain .pick, [.tmp 315, .tmp 316, .lit (.bool false)], none⟩,
           ⟨(some 4), .plain .mv, [.tmp 317], none⟩] [314, 315, 316, 317])
         .ret))))
         (.seq (.ops [⟨(some 319), .plain .mv, [.tmp 5], none⟩,
           ⟨(some 320), .plain (.indexAddr 1), [.tmp 319, .lit (.int .i64 0)], none⟩,
           ⟨(some 321), .plain (.load false 1), [.tmp 320], none⟩,
           ⟨(some 322), .plain (.bin .eql), [.tmp 321, .lit (.str ⟨#[69, 78, 68]⟩)], none⟩,
           ⟨(some 323), .plain .mv, [.tmp 322], none⟩,
           ⟨(some 324), .plain .mv, [.tmp 5], (some (323, true))⟩,
           ⟨(some 325), .plain (.len 1), [.tmp 324], (some (323, true))⟩,
           ⟨(some 326), .plain (.bin .eql), [.tmp 325, .lit (.int .i64 1)], (some (323, true))⟩,
           ⟨(some 327), .plain .pick, [.tmp 323, .tmp 326, .lit (.bool false)], none⟩,
           ⟨(some 318), .plain .mv, [.tmp 327], none⟩] [319, 320, 321, 322, 323, 324, 325, 326, 327])
         (.cond (.tmp 318)
          (.seq (.ops [⟨(some 328), .plain .mv, [.tmp 0], none⟩,
            ⟨(some 329), .plain .nilCheck, [.tmp 328], none⟩,
            ⟨(some 330), .plain (.fieldAddr 5), [.tmp 329], none⟩,
            ⟨none, .plain (.store 1), [.tmp 330, .lit (.int .i64 6)], none⟩] [328, 329, 330])
          (.seq (.ops [⟨(some 4), .plain .mv, [.lit (.bool true)], none⟩] [])
          .ret))
          .skip)))))))))))))))
  (.seq (.ops [⟨(some 4), .plain .mv, [.lit (.bool false)], none⟩] [])
  .ret)))))
def cr28 : List Res := [(4, none)]
theorem ok28 : FOk Zk.pg.toProgram Zk.imp 28 c28 cr28 Tryz.f28.ntmps := ⟨Tryz.f28, _, Tryz.func28, rfl, by kernel_rfl, by kernel_rfl, by kernel_rfl, rfl⟩

/-- ironbark/ironbarkref34.Read -/
def c8 : SC :=
  (.seq (.ops [⟨(some 2), .plain (.alloc [(.str ⟨#[]⟩), (.str ⟨#[]⟩), .nilS, .nilS, .nilS]), [], none⟩,
    ⟨(some 3), .plain .mv, [.lit (.int .i64 0)], none⟩,
    ⟨(some 4), .plain .mv, [.lit (.int .i64 0)], none⟩] [])
  (.seq (.seq (.ops [⟨(some 9), .plain .mv, [.tmp 0], none⟩,
    ⟨(some 10), .plain (.len 0), [.tmp 9], none⟩,
    ⟨(some 11), .plain (.bin .gtr), [.tmp 10, .lit (.int .i64 200000)], none⟩] [9, 10])
  (.cond (.tmp 11)
   (.seq (.ops [⟨(some 12), .plain (.build [(.str ⟨#[]⟩), (.str ⟨#[]⟩), .nilS, .nilS, .nilS] []), [], none⟩,
     ⟨none, .plain (.store 5), [.tmp 2, .tmp 12], none⟩,
     ⟨(some 3), .plain .mv, [.lit (.int .i64 0)], none⟩,
     ⟨(some 4), .plain .mv, [.lit (.int .i64 3)], none⟩] [12])
   .ret)
   .skip))
  (.seq (.ops [⟨(some 13), .plain (.build [(.str ⟨#[]⟩), (.str ⟨#[]⟩), .nilS, .nilS, .nilS, (.int .i64 0), (.bool false)] []), [], none⟩,
    ⟨(some 14), .plain (.box 7), [.tmp 13], none⟩,
    ⟨(some 5), .plain .mv, [.tmp 14], none⟩] [13, 14])
  (.seq (.ops [⟨(some 6), .plain .mv, [.lit (.int .i64 0)], none⟩,
    ⟨(some 7), .plain .mv, [.lit (.int .i64 0)], none⟩] [])
  (.seq (.seq (.ops [⟨(some 8), .plain .mv, [.lit (.int .i64 0)], none⟩] [])
  (.block 0
   (.loop
    (.seq (.seq (.ops [⟨(some 15), .plain .mv, [.tmp 8], none⟩,
      ⟨(some 16), .plain .mv, [.tmp 0], none⟩,
      ⟨(some 17), .plain (.len 0), [.tmp 16], none⟩,
      ⟨(some 18), .plain (.bin .lss), [.tmp 15, .tmp 17], none⟩] [15, 16, 17])
    (.cond (.tmp 18)
     .skip
     (.exit 0)))
    (.seq (.block 1
     (.seq (.seq (.ops [⟨(some 21), .plain .mv, [.tmp 0], none⟩,
       ⟨(some 22), .plain .mv, [.tmp 8], none⟩,
       ⟨(some 23), .plain .index, [.tmp 21, .tmp 22], none⟩,
       ⟨(some 24), .plain (.bin .neq), [.tmp 23, .lit (.int .u8 10)], none⟩] [21, 22, 23])
     (.cond (.tmp 24)
      (.exit 1)
      .skip))
     (.seq (.seq (.ops [⟨(some 25), .plain .mv, [.tmp 5], none⟩,
       ⟨(some 26), .plain .mv, [.tmp 0], none⟩,
       ⟨(some 27), .plain .mv, [.tmp 7], none⟩,
       ⟨(some 28), .plain .mv, [.tmp 8], none⟩,
       ⟨(some 29), .plain (.slice true true 0), [.tmp 26, .tmp 27, .tmp 28], none⟩,
       ⟨(some 30), .call 28, [.tmp 25, .tmp 29], none⟩,
       ⟨(some 31), .plain (.un .not), [.tmp 30], none⟩] [25, 26, 27, 28, 29, 30])
     (.cond (.tmp 31)
      (.seq (.ops [⟨(some 32), .plain (.build [(.str ⟨#[]⟩), (.str ⟨#[]⟩), .nilS, .nilS, .nilS] []), [], none⟩,
        ⟨(some 33), .plain .mv, [.tmp 6], none⟩,
        ⟨none, .plain (.store 5), [.tmp 2, .tmp 32], none⟩,
        ⟨(some 3), .plain .mv, [.tmp 33], none⟩,
        ⟨(some 4), .plain .mv, [.lit (.int .i64 2)], none⟩] [32, 33])
      .ret)
      .skip))
     (.ops [⟨(some 34), .plain .mv, [.tmp 6], none⟩,
       ⟨(some 35), .plain (.bin .add), [.tmp 34, .lit (.int .i64 1)], none⟩,
       ⟨(some 36), .plain .mv, [.tmp 8], none⟩,
       ⟨(some 37), .plain (.bin .add), [.tmp 36, .lit (.int .i64 1)], none⟩,
       ⟨(some 6), .plain .mv, [.tmp 35], none⟩,
       ⟨(some 7), .plain .mv, [.tmp 37], none⟩] [34, 35, 36, 37]))))
    (.ops [⟨(some 19), .plain .mv, [.tmp 8], none⟩,
      ⟨(some 20), .plain (.bin .add), [.tmp 19, .lit (.int .i64 1)], none⟩,
      ⟨(some 8), .plain .mv, [.tmp 20], none⟩] [19, 20]))))))
  (.seq (.seq (.ops [⟨(some 38), .plain .mv, [.tmp 7], none⟩,
    ⟨(some 39), .plain .mv, [.tmp 0], none⟩,
    ⟨(some 40), .plain (.len 0), [.tmp 39], none⟩,
    ⟨(some 41), .plain (.bin .lss), [.tmp 38, .tmp 40], none⟩,
    ⟨(some 42), .plain .mv, [.tmp 41], none⟩,
    ⟨(some 43), .plain .mv, [.tmp 5], (some (42, false))⟩,
    ⟨(some 44), .plain .nilCheck, [.tmp 43], (some (42, false))⟩,
    ⟨(some 45), .plain (.fieldAddr 5), [.tmp 44], (some (42, false))⟩,
    ⟨(some 46), .plain (.load false 1), [.tmp 45], (some (42, false))⟩,
    ⟨(some 47), .plain (.bin .neq), [.tmp 46, .lit (.int .i64 6)], (some (42, false))⟩,
    ⟨(some 48), .plain .pick, [.tmp 42, .lit (.bool true), .tmp 47], none⟩] [38, 39, 40, 41, 42, 43, 44, 45, 46, 47])
  (.cond (.tmp 48)
   (.seq (.ops [⟨(some 49), .plain (.build [(.str ⟨#[]⟩), (.str ⟨#[]⟩), .nilS, .nilS, .nilS] []), [], none⟩,
     ⟨(some 50), .plain .mv, [.tmp 6], none⟩,
     ⟨none, .plain (.store 5), [.tmp 2, .tmp 49], none⟩,
     ⟨(some 3), .plain .mv, [.tmp 50], none⟩,
     ⟨(some 4), .plain .mv, [.lit (.int .i64 2)], none⟩] [49, 50])
   .ret)
   .skip))
  (.seq (.seq (.ops [⟨(some 51), .plain .mv, [.tmp 5], none⟩,
    ⟨(some 52), .plain .nilCheck, [.tmp 51], none⟩,
    ⟨(some 53), .plain (.fieldAddr 0), [.tmp 52], none⟩,
    ⟨(some 54), .plain (.load true 5), [.tmp 53], none⟩,
    ⟨(some 55), .call 29, [.tmp 54], none⟩,
    ⟨(some 56), .plain (.un .not), [.tmp 55], none⟩] [51, 52, 53, 54, 55])
  (.cond (.tmp 56)
   (.seq (.ops [⟨(some 57), .plain (.build [(.str ⟨#[]⟩), (.str ⟨#[]⟩), .nilS, .nilS, .nilS] []), [], none⟩,
     ⟨(some 58), .plain .mv, [.tmp 6], none⟩,
     ⟨none, .plain (.store 5), [.tmp 2, .tmp 57], none⟩,
     ⟨(some 3), .plain .mv, [.tmp 58], none⟩,
     ⟨(some 4), .plain .mv, [.lit (.int .i64 1)], none⟩] [57, 58])
   .ret)
   .skip))
  (.seq (.ops [⟨(some 59), .plain .mv, [.tmp 5], none⟩,
    ⟨(some 60), .plain .nilCheck, [.tmp 59], none⟩,
    ⟨(some 61), .plain (.fieldAddr 0), [.tmp 60], none⟩,
    ⟨(some 62), .plain (.load true 5), [.tmp 61], none⟩,
    ⟨none, .plain (.store 5), [.tmp 2, .tmp 62], none⟩,
    ⟨(some 3), .plain .mv, [.lit (.int .i64 0)], none⟩,
    ⟨(some 4), .plain .mv, [.lit (.int .i64 0)], none⟩] [59, 60, 61, 62])
  .ret))))))))
def cr8 : List Res := [(2, some (true, 5)), (3, none), (4, none)]
theorem ok8 : FOk Zk.pg.toProgram Zk.imp 8 c8 cr8 Tryz.f8.ntmps := ⟨Tryz.f8, _, Tryz.func8, rfl, by kernel_rfl, by kernel_rfl, by kernel_rfl, rfl⟩

/-- ironbark/ironbarkref34.SameDeck -/
def c9 : SC :=
  (.seq (.ops [⟨(some 2), .plain (.box 5), [.tmp 0], none⟩,
    ⟨(some 3), .plain (.box 5), [.tmp 1], none⟩,
    ⟨(some 4), .plain .mv, [.lit (.bool false)], none⟩] [])
  (.seq (.seq (.ops [⟨(some 6), .plain (.fieldAddr 3), [.tmp 2], none⟩,
    ⟨(some 7), .plain (.load false 1), [.tmp 6], none⟩,
    ⟨(some 8), .plain (.len 1), [.tmp 7], none⟩,
    ⟨(some 9), .plain (.fieldAddr 3), [.tmp 3], none⟩,
    ⟨(some 10), .plain (.load false 1), [.tmp 9], none⟩,
    ⟨(some 11), .plain (.len 1), [.tmp 10], none⟩,
    ⟨(some 12), .plain (.bin .neq), [.tmp 8, .tmp 11], none⟩] [6, 7, 8, 9, 10, 11])
  (.cond (.tmp 12)
   (.seq (.ops [⟨(some 4), .plain .mv, [.lit (.bool false)], none⟩] [])
   .ret)
   .skip))
  (.seq (.seq (.ops [⟨(some 5), .plain .mv, [.lit (.int .i64 0)], none⟩] [])
  (.block 0
   (.loop
    (.seq (.seq (.ops [⟨(some 13), .plain .mv, [.tmp 5], none⟩,
      ⟨(some 14), .plain (.fieldAddr 3), [.tmp 2], none⟩,
      ⟨(some 15), .plain (.load false 1), [.tmp 14], none⟩,
      ⟨(some 16), .plain (.len 1), [.tmp 15], none⟩,
      ⟨(some 17), .plain (.bin .lss), [.tmp 13, .tmp 16], none⟩] [13, 14, 15, 16])
    (.cond (.tmp 17)
     .skip
     (.exit 0)))
    (.seq (.block 1
     (.seq (.draw (.step ⟨(some 20), .plain (.fieldAddr 3), [.tmp 2], none⟩
       (.step ⟨(some 21), .plain (.load false 1), [.tmp 20], none⟩
       (.step ⟨(some 22), .plain .mv, [.tmp 5], none⟩
       (.step ⟨(some 23), .plain (.indexAddr 3), [.tmp 21, .tmp 22], none⟩
       (.step ⟨(some 24), .plain (.load true 3), [.tmp 23], none⟩
       (.step ⟨(some 25), .plain (.fieldAddr 3), [.tmp 3], none⟩
       (.step ⟨(some 26), .plain (.load false 1), [.tmp 25], none⟩
       (.step ⟨(some 27), .plain .mv, [.tmp 5], none⟩
       (.step ⟨(some 28), .plain (.indexAddr 3), [.tmp 26, .tmp 27], none⟩
       (.step ⟨(some 29), .plain (.load true 3), [.tmp 28], none⟩
       (.step ⟨(some 30), .plain (.eqAgg true [.int, .str, .int]), [.tmp 24, .tmp 29], none⟩
       .done))))))))))) [20, 21, 22, 23, 24, 25, 26, 27, 28, 29])
     (.cond (.tmp 30)
      (.seq (.ops [⟨(some 4), .plain .mv, [.lit (.bool false)], none⟩] [])
      .ret)
      .skip)))
    (.ops [⟨(some 18), .plain .mv, [.tmp 5], none⟩,
      ⟨(some 19), .plain (.bin .add), [.tmp 18, .lit (.int .i64 1)], none⟩,
      ⟨(some 5), .plain .mv, [.tmp 19], none⟩] [18, 19]))))))
  (.seq (.ops [⟨(some 31), .plain (.fieldAddr 0), [.tmp 2], none⟩,
    ⟨(some 32), .plain (.load false 1), [.tmp 31], none⟩,
    ⟨(some 33), .plain (.fieldAddr 0), [.tmp 3], none⟩,
    ⟨(some 34), .plain (.load false 1), [.tmp 33], none⟩,
    ⟨(some 35), .plain (.bin .eql), [.tmp 32, .tmp 34], none⟩,
    ⟨(some 36), .plain .mv, [.tmp 35], none⟩,
    ⟨(some 37), .plain (.fieldAddr 1), [.tmp 2], (some (36, true))⟩,
    ⟨(some 38), .plain (.load false 1), [.tmp 37], (some (36, true))⟩,
    ⟨(some 39), .plain (.fieldAddr 1), [.tmp 3], (some (36, true))⟩,
    ⟨(some 40), .plain (.load false 1), [.tmp 39], (some (36, true))⟩,
    ⟨(some 41), .plain (.bin .eql), [.tmp 38, .tmp 40], (some (36, true))⟩,
    ⟨(some 42), .plain .pick, [.tmp 36, .tmp 41, .lit (.bool false)], none⟩,
    ⟨(some 43), .plain .mv, [.tmp 42], none⟩,
    ⟨(some 44), .plain (.fieldAddr 2), [.tmp 2], (some (43, true))⟩,
    ⟨(some 45), .plain (.load false 1), [.tmp 44], (some (43, true))⟩,
    ⟨(some 46), .plain (.fieldAddr 2), [.tmp 3], (some (43, true))⟩,
    ⟨(some 47), .plain (.load false 1), [.tmp 46], (some (43, true))⟩,
    ⟨(some 48), .call 30, [.tmp 45, .tmp 47], (some (43, true))⟩,
    ⟨(some 49), .plain .pick, [.tmp 43, .tmp 48, .lit (.bool false)], none⟩,
    ⟨(some 50), .plain .mv, [.tmp 49], none⟩,
    ⟨(some 51), .plain (.fieldAddr 4), [.tmp 2], (some (50, true))⟩,
    ⟨(some 52), .plain (.load false 1), [.tmp 51], (some (50, true))⟩,
    ⟨(some 53), .plain (.fieldAddr 4), [.tmp 3], (some (50, true))⟩,
    ⟨(some 54), .plain (.load false 1), [.tmp 53], (some (50, true))⟩,
    ⟨(some 55), .call 31, [.tmp 52, .tmp 54], (some (50, true))⟩,
    ⟨(some 56), .plain .pick, [.tmp 50, .tmp 55, .lit (.bool false)], none⟩,
    ⟨(some 4), .plain .mv, [.tmp 56], none⟩] [31, 32, 33, 34, 35, 36, 37, 38, 39, 40, 41, 42, 43, 44, 45, 46, 47, 48, 49, 50, 51, 52, 53, 54, 55, 56])
  .ret))))
def cr9 : List Res := [(4, none)]
theorem ok9 : FOk Zk.pg.toProgram Zk.imp 9 c9 cr9 Tryz.f9.ntmps := ⟨Tryz.f9, _, Tryz.func9, rfl, by kernel_rfl, by kernel_rfl, by kernel_rfl, rfl⟩

/-- ironbark/ironbarklaw34.LinkReads -/
def c3 : SC :=
  (.seq (.ops [⟨(some 2), .plain .mv, [.lit (.bool false)], none⟩] [])
  (.seq (.seq (.ops [⟨(some 9), .call 6, [], none⟩,
    ⟨(some 10), .plain (.un .not), [.tmp 9], none⟩] [9])
  (.cond (.tmp 10)
   (.seq (.ops [⟨(some 2), .plain .mv, [.lit (.bool false)], none⟩] [])
   .ret)
   .skip))
  (.seq (.seq (.ops [⟨(some 11), .plain .mv, [.tmp 0], none⟩,
    ⟨(some 12), .plain (.len 0), [.tmp 11], none⟩,
    ⟨(some 13), .plain (.bin .gtr), [.tmp 12, .lit (.int .i64 4000)], none⟩,
    ⟨(some 14), .plain .mv, [.tmp 13], none⟩,
    ⟨(some 15), .plain .mv, [.tmp 0], (some (14, true))⟩,
    ⟨(some 16), .plain (.len 0), [.tmp 15], (some (14, true))⟩,
    ⟨(some 17), .plain (.bin .leq), [.tmp 16, .lit (.int .i64 200000)], (some (14, true))⟩,
    ⟨(some 18), .plain .pick, [.tmp 14, .tmp 17, .lit (.bool false)], none⟩,
    ⟨(some 19), .plain .mv, [.tmp 18], none⟩,
    ⟨(some 20), .plain .mv, [.tmp 0], (some (19, false))⟩,
    ⟨(some 21), .plain (.len 0), [.tmp 20], (some (19, false))⟩,
    ⟨(some 22), .plain (.bin .gtr), [.tmp 21, .lit (.int .i64 200005)], (some (19, false))⟩,
    ⟨(some 23), .plain .pick, [.tmp 19, .lit (.bool true), .tmp 22], none⟩] [11, 12, 13, 14, 15, 16, 17, 18, 19, 20, 21, 22])
  (.cond (.tmp 23)
   (.seq (.ops [⟨(some 2), .plain .mv, [.lit (.bool true)], none⟩] [])
   .ret)
   .skip))
  (.seq (.ops [⟨(some 25), .plain .mv, [.tmp 0], none⟩,
    ⟨(some 26), .call 7, [.tmp 25], none⟩,
    ⟨(some 24), .plain .mv, [.tmp 26], none⟩,
    ⟨(some 27), .plain (.extract 0), [.tmp 24], none⟩,
    ⟨(some 28), .plain (.extract 1), [.tmp 24], none⟩,
    ⟨(some 29), .plain (.extract 2), [.tmp 24], none⟩,
    ⟨(some 3), .plain (.alloc [(.str ⟨#[]⟩), (.str ⟨#[]⟩), .nilS, .nilS, .nilS]), [], none⟩,
    ⟨none, .plain (.store 5), [.tmp 3, .tmp 27], none⟩,
    ⟨(some 4), .plain .mv, [.tmp 28], none⟩,
    ⟨(some 5), .plain .mv, [.tmp 29], none⟩] [25, 26, 24, 27, 28, 29])
  (.seq (.ops [⟨(some 31), .plain .mv, [.tmp 0], none⟩,
    ⟨(some 32), .call 8, [.tmp 31], none⟩,
    ⟨(some 30), .plain .mv, [.tmp 32], none⟩,
    ⟨(some 33), .plain (.extract 0), [.tmp 30], none⟩,
    ⟨(some 34), .plain (.extract 1), [.tmp 30], none⟩,
    ⟨(some 35), .plain (.extract 2), [.tmp 30], none⟩,
    ⟨(some 6), .plain (.alloc [(.str ⟨#[]⟩), (.str ⟨#[]⟩), .nilS, .nilS, .nilS]), [], none⟩,
    ⟨none, .plain (.store 5), [.tmp 6, .tmp 33], none⟩,
    ⟨(some 7), .plain .mv, [.tmp 34], none⟩,
    ⟨(some 8), .plain .mv, [.tmp 35], none⟩] [31, 32, 30, 33, 34, 35])
  (.seq (.ops [⟨(some 36), .plain (.load true 5), [.tmp 3], none⟩,
    ⟨(some 37), .plain (.load true 5), [.tmp 6], none⟩,
    ⟨(some 38), .call 9, [.tmp 36, .tmp 37], none⟩,
    ⟨(some 39), .plain .mv, [.tmp 38], none⟩,
    ⟨(some 40), .plain .mv, [.tmp 4], (some (39, true))⟩,
    ⟨(some 41), .plain .mv, [.tmp 7], (some (39, true))⟩,
    ⟨(some 42), .plain (.bin .eql), [.tmp 40, .tmp 41], (some (39, true))⟩,
    ⟨(some 43), .plain .pick, [.tmp 39, .tmp 42, .lit (.bool false)], none⟩,
    ⟨(some 44), .plain .mv, [.tmp 43], none⟩,
    ⟨(some 45), .plain .mv, [.tmp 5], (some (44, true))⟩,
    ⟨(some 46), .plain .mv, [.tmp 8], (some (44, true))⟩,
    ⟨(some 47), .plain (.bin .eql), [.tmp 45, .tmp 46], (some (44, true))⟩,
    ⟨(some 48), .plain .pick, [.tmp 44, .tmp 47, .lit (.bool false)], none⟩,
    ⟨(some 2), .plain .mv, [.tmp 48], none⟩] [36, 37, 38, 39, 40, 41, 42, 43, 44, 45, 46, 47, 48])
  .ret))))))
def cr3 : List Res := [(2, none)]
theorem ok3 : FOk Zk.pg.toProgram Zk.imp 3 c3 cr3 Tryz.f3.ntmps := ⟨Tryz.f3, _, Tryz.func3, rfl, by kernel_rfl, by kernel_rfl, by kernel_rfl, rfl⟩

end Go.Pm

/- ZkS13: code, resolved. Written by gen.py out of what ShowSC.lean printed. -/
namespace Go.Pm
open Go Go.Proofs

/-- ironbark/ironbarkref34.named -/
def c82 : SC :=
  (.seq (.ops [⟨(some 2), .plain .mv, [.lit (.bool false)], none⟩] [])
  (.seq (.seq (.ops [⟨(some 3), .plain .mv, [.lit (.int .i64 0)], none⟩] [])
  (.block 0
   (.loop
    (.seq (.seq (.ops [⟨(some 4), .plain .mv, [.tmp 3], none⟩,
      ⟨(some 5), .plain .mv, [.tmp 0], none⟩,
      ⟨(some 6), .plain (.len 0), [.tmp 5], none⟩,
      ⟨(some 7), .plain (.bin .lss), [.tmp 4, .tmp 6], none⟩] [4, 5, 6])
    (.cond (.tmp 7)
     .skip
     (.exit 0)))
    (.seq (.block 1
     (.seq (.ops [⟨(some 10), .plain .mv, [.tmp 0], none⟩,
       ⟨(some 11), .plain .mv, [.tmp 3], none⟩,
       ⟨(some 12), .plain .index, [.tmp 10, .tmp 11], none⟩,
       ⟨(some 13), .plain (.bin .lss), [.tmp 12, .lit (.int .u8 33)], none⟩,
       ⟨(some 14), .plain .mv, [.tmp 13], none⟩,
       ⟨(some 15), .plain .mv, [.tmp 0], (some (14, false))⟩,
       ⟨(some 16), .plain .mv, [.tmp 3], (some (14, false))⟩,
       ⟨(some 17), .plain .index, [.tmp 15, .tmp 16], (some (14, false))⟩,
       ⟨(some 18), .plain (.bin .gtr), [.tmp 17, .lit (.int .u8 126)], (some (14, false))⟩,
       ⟨(some 19), .plain .pick, [.tmp 14, .lit (.bool true), .tmp 18], none⟩] [10, 11, 12, 13, 14, 15, 16, 17, 18])
     (.cond (.tmp 19)
      (.seq (.ops [⟨(some 2), .plain .mv, [.lit (.bool false)], none⟩] [])
      .ret)
      .skip)))
    (.ops [⟨(some 8), .plain .mv, [.tmp 3], none⟩,
      ⟨(some 9), .plain (.bin .add), [.tmp 8, .lit (.int .i64 1)], none⟩,
      ⟨(some 3), .plain .mv, [.tmp 9], none⟩] [8, 9]))))))
  (.seq (.ops [⟨(some 20), .plain .mv, [.tmp 0], none⟩,
    ⟨(some 21), .plain (.bin .neq), [.tmp 20, .lit (.str ⟨#[]⟩)], none⟩,
    ⟨(some 2), .plain .mv, [.tmp 21], none⟩] [20, 21])
  .ret)))
def cr82 : List Res := [(2, none)]
theorem ok82 : FOk Zk.pg.toProgram Zk.imp 82 c82 cr82 Tryz.f82.ntmps := ⟨Tryz.f82, _, Tryz.func82, rfl, by kernel_rfl, by kernel_rfl, by kernel_rfl, rfl⟩

/-- ironbark/ironbarkref34.digit -/
def c83 : SC :=
  (.seq (.ops [⟨(some 2), .plain .mv, [.lit (.int .i64 0)], none⟩] [])
  (.seq (.block 0
   (.seq (.ops [⟨(some 4), .plain .mv, [.tmp 0], none⟩,
     ⟨(some 5), .plain (.bin .geq), [.tmp 4, .lit (.int .u8 48)], none⟩,
     ⟨(some 6), .plain .mv, [.tmp 5], none⟩,
     ⟨(some 7), .plain .mv, [.tmp 0], (some (6, true))⟩,
     ⟨(some 8), .plain (.bin .leq), [.tmp 7, .lit (.int .u8 57)], (some (6, true))⟩,
     ⟨(some 9), .plain .pick, [.tmp 6, .tmp 8, .lit (.bool false)], none⟩,
     ⟨(some 3), .plain .mv, [.tmp 9], none⟩] [4, 5, 6, 7, 8, 9])
   (.cond (.tmp 3)
    (.seq (.ops [⟨(some 10), .plain .mv, [.tmp 0], none⟩,
      ⟨(some 11), .plain (.bin .sub), [.tmp 10, .lit (.int .u8 48)], none⟩,
      ⟨(some 12), .plain (.convInt .i64), [.tmp 11], none⟩,
      ⟨(some 2), .plain .mv, [.tmp 12], none⟩] [10, 11, 12])
    .ret)
    (.seq (.ops [⟨(some 14), .plain .mv, [.tmp 0], none⟩,
      ⟨(some 15), .plain (.bin .geq), [.tmp 14, .lit (.int .u8 65)], none⟩,
      ⟨(some 16), .plain .mv, [.tmp 15], none⟩,
      ⟨(some 17), .plain .mv, [.tmp 0], (some (16, true))⟩,
      ⟨(some 18), .plain (.bin .leq), [.tmp 17, .lit (.int .u8 70)], (some (16, true))⟩,
      ⟨(some 19), .plain .pick, [.tmp 16, .tmp 18, .lit (.bool false)], none⟩,
      ⟨(some 13), .plain .mv, [.tmp 19], none⟩] [14, 15, 16, 17, 18, 19])
    (.cond (.tmp 13)
     (.seq (.ops [⟨(some 20), .plain .mv, [.tmp 0], none⟩,
       ⟨(some 21), .plain (.bin .sub), [.tmp 20, .lit (.int .u8 65)], none⟩,
       ⟨(some 22), .plain (.convInt .i64), [.tmp 21], none⟩,
       ⟨(some 23), .plain (.bin .add), [.tmp 22, .lit (.int .i64 10)], none⟩,
       ⟨(some 2), .plain .mv, [.tmp 23], none⟩] [20, 21, 22, 23])
     .ret)
     .skip)))))
  (.seq (.ops [⟨(some 2), .plain .mv, [.lit (.int .i64 (-1))], none⟩] [])
  .ret)))
def cr83 : List Res := [(2, none)]
theorem ok83 : FOk Zk.pg.toProgram Zk.imp 83 c83 cr83 Tryz.f83.ntmps := ⟨Tryz.f83, _, Tryz.func83, rfl, by kernel_rfl, by kernel_rfl, by kernel_rfl, rfl⟩

end Go.Pm

/- ZkR6: contracts: the reference's words, figures, numbers, names. -/
namespace Go.Pm
open Go Go.Proofs
attribute [-simp] List.getElem?_map

/-- A name's word. -/
def namedF (s : ByteArray) : Bool := !(eqS s ⟨#[]⟩) && s.data.toList.all chOk

theorem call82 (s : ByteArray) (hs : s.size ≤ 1048576) : PCalls Zk.pg 82 [.str s] fun out => out = .ret (.bool (namedF s)) := by
  refine ok82.pcalls (by simp) ?_
  simp [c82]
  refine wpS_loop (ι := Nat) (fun i => [(0, .str s), (3, .int .i64 i)]) (fun _ => Mem.empty) (fun i => s.size - i) (fun i => i ≤ s.size ∧ ∀ j, j < i → chOk (byteAt s j) = true) 0 (by simp) (Env.le_of (by simp)) rfl ?_
  intro i ⟨hi, hall⟩
  have hw : IntKind.i64.wrap (i + 1) = i + 1 := wrap64 (by omega) (by omega)
  have bad : ltI ↑i ↑s.size = true → chOk (byteAt s i) = false → namedF s = false := fun h1 h2 => by
    cases hn : namedF s with
    | false => rfl
    | true =>
      simp only [namedF, Bool.and_eq_true] at hn
      have := (all_bytes s).1 hn.2 i (by have := ltI_t.1 h1; omega)
      rw [h2] at this; cases this
  simp
  refine br_cond rfl (fun h => ?_) (fun h => ?_)
  · have hlt : i < s.size := by have := ltI_t.1 h; omega
    have next : chOk (byteAt s i) = true → ∀ j, j < i + 1 → chOk (byteAt s j) = true := upto hall
    simp [h, idxS]
    refine br_guard_f rfl (fun h1 => ?_) (fun h1 => ?_)
    · simp [h1, cr82, postP_ret, bad h (by simp [chOk, h1])]
    · simp [h1, h, idxS]
      refine br_cond rfl (fun h2 => ?_) (fun h2 => ?_)
      · simp [cr82, postP_ret, bad h (by simp [chOk, h2])]
      · simp [h2, hw]
        exact ⟨i + 1, ⟨by omega, next (by simp [chOk, h1, h2])⟩, by omega, Env.le_of (by simp), Mem.le_of rfl (by simp)⟩
  · have hA : s.data.toList.all chOk = true := (all_bytes s).2 fun j hj => hall j (by have := ltI_f.1 h; omega)
    simp [h, cr82, postP_ret, namedF, hA]

theorem u8w {n : Int} (h0 : 0 ≤ n) (h1 : n < 256) : IntKind.u8.wrap n = n := by
  rw [IntKind.wrap_u8]; omega

theorem call83 (c : UInt8) : PCalls Zk.pg 83 [.int .u8 c.toNat] fun out => out = .ret (.int .i64 (digitF c)) := by
  refine ok83.pcalls (by simp) ?_
  have hc := c.toNat_lt
  simp [c83]
  have w1 : 48 ≤ c.toNat → IntKind.i64.wrap (IntKind.u8.wrap ((c.toNat : Int) - 48)) = (c.toNat : Int) - 48 := fun h => by rw [u8w (by omega) (by omega), wrap64 (by omega) (by omega)]
  have w2 : 65 ≤ c.toNat → IntKind.i64.wrap (IntKind.i64.wrap (IntKind.u8.wrap ((c.toNat : Int) - 65)) + 10) = (c.toNat : Int) - 65 + 10 := fun h => by rw [u8w (by omega) (by omega), wrap64 (n := (c.toNat : Int) - 65) (by omega) (by omega), wrap64 (by omega) (by omega)]
  refine br_guard_t rfl (fun h1 => ?_) (fun h1 => ?_)
  · have g1 := leI_t.1 h1
    simp [h1]
    refine br_cond rfl (fun h2 => ?_) (fun h2 => ?_)
    · have g2 := leI_t.1 h2
      simp [cr83, postP_ret, w1 (by omega), digitF]
      omega
    · have g2 := leI_f.1 h2
      simp
      refine br_guard_t rfl (fun h3 => ?_) (fun h3 => ?_)
      · have g3 := leI_t.1 h3
        simp [h3]
        refine br_cond rfl (fun h4 => ?_) (fun h4 => ?_)
        · have g4 := leI_t.1 h4
          simp [cr83, postP_ret, w2 (by omega), digitF]
          omega
        · have g4 := leI_f.1 h4
          simp [cr83, postP_ret, digitF]
          omega
      · have g3 := leI_f.1 h3
        simp [h3, cr83, postP_ret, digitF]
        omega
  · have g1 := leI_f.1 h1
    simp [h1]
    refine br_guard_t rfl (fun h3 => ?_) (fun h3 => ?_)
    · have g3 := leI_t.1 h3; omega
    · simp [h3, cr83, postP_ret, digitF]
      omega
end Go.Pm

/- ZkR8: contracts: the reference's words of a line, numbers. -/
namespace Go.Pm
open Go Go.Proofs
attribute [-simp] List.getElem?_map

/-- The words of a line; none, if one is empty. -/
def wordsF (s : ByteArray) : Option (List ByteArray) := if (splW [] s.data.toList).all (fun x => decide (x ≠ [])) then some ((splW [] s.data.toList).map mkB) else none
def wordsAV (s : ByteArray) : AV := match wordsF s with
  | some l => .list true 1 (l.map fun x => [.str x])
  | none => .nilS

theorem mkB_append (a b : List UInt8) : mkB a ++ mkB b = mkB (a ++ b) := by
  apply ByteArray.ext
  rw [ByteArray.data_append]
  apply Array.ext'
  simp [mkB]
theorem byteAt_eq {s : ByteArray} {i : Nat} (h : i < s.data.toList.length) : s.data.toList[i] = byteAt s i := by
  unfold byteAt
  rw [List.getD, List.getElem?_eq_getElem h]; rfl
theorem drop_byte {s : ByteArray} {i : Nat} (h : i < s.size) : s.data.toList.drop i = byteAt s i :: s.data.toList.drop (i + 1) := by
  have h1 : i < s.data.toList.length := by simpa using h
  rw [List.drop_eq_getElem_cons h1, byteAt_eq h1]
theorem extract_one {s : ByteArray} {i : Nat} (h : i < s.size) : s.extract i (i + 1) = mkB [byteAt s i] := by
  rw [← mkB_data (s.extract i (i + 1)), Lib.extract_data, drop_byte h, show i + 1 - i = 1 by omega]
  rfl
theorem eqI_u8 {a : UInt8} {n : Nat} (h : n < 256) : eqI a.toNat n = decide (a = UInt8.ofNat n) := by
  by_cases e : a = UInt8.ofNat n
  · subst e
    have : (UInt8.ofNat n).toNat = n := by simp; omega
    rw [this]; simp [eqI]
  · have : a.toNat ≠ n := fun h' => e (by rw [← h']; simp)
    simp [eqI, e]; omega

theorem u8_eq' {a b : UInt8} (h : a.toNat = b.toNat) : a = b := UInt8.toNat.inj h
theorem nil_of_eqS {a : List UInt8} (h : eqS (mkB a) ⟨#[]⟩ = true) : a = [] := by
  have := congrArg (fun x : ByteArray => x.data.toList) (eqS_t.1 h)
  simpa using this
theorem all_snoc {l : List (List UInt8)} {a : List UInt8} (h : ∀ x ∈ l, x ≠ []) (ha : a ≠ []) : ∀ x ∈ l ++ [a], x ≠ [] := fun x hx => by
  rcases List.mem_append.1 hx with hx | hx
  · exact h x hx
  · rw [List.mem_singleton.1 hx]; exact ha
theorem permMk : ∀ l : List (List UInt8), permLL (l.map fun x => [AV.str (mkB x)]) = true
  | [] => rfl
  | x :: l => by simp [permLL, permL, AV.perm, permMk l]
theorem no_words {s : ByteArray} (h : [] ∈ splW [] s.data.toList) : wordsAV s = .nilS := by
  unfold wordsAV wordsF
  rw [if_neg]
  intro e
  have := List.all_eq_true.1 e _ h
  simp at this

set_option maxHeartbeats 1000000 in
theorem call81 (s : ByteArray) (hs : s.size ≤ 1048576) : PCalls Zk.pg 81 [.str s] fun out => out = .ret (wordsAV s) := by
  refine ok81.pcalls (by simp) ?_
  obtain ⟨L, hL⟩ : ∃ L, L = s.data.toList := ⟨_, rfl⟩
  have hlen : L.length = s.size := by rw [hL]; simp
  simp [c81]
  refine wpS_loopS (ι := (Nat × List (List UInt8) × List UInt8) × Nat × Nat) (fun g => [(0, .str s), (3, .row 0 g.2.1 1 0 g.1.2.1.length), (4, .str (mkB g.1.2.2)), (5, .int .i64 g.1.1)])
    (fun g => ⟨[(g.2.1, .row 9 1 (g.1.2.1.map fun x => [.str (mkB x)]))], g.2.2⟩) (fun g => s.size + 1 - g.1.1)
    (fun g => ((g.1.1 ≤ s.size ∧ splW [] L = g.1.2.1 ++ splW g.1.2.2 (L.drop g.1.1)) ∨ (g.1.1 = s.size + 1 ∧ splW [] L = g.1.2.1)) ∧ (∀ x ∈ g.1.2.1, x ≠ []) ∧ g.1.2.1.length ≤ g.1.1 ∧ g.1.2.2.length ≤ g.1.1)
    ((0, [], []), 0, 1) ⟨.inl ⟨Nat.zero_le _, by simp⟩, by simp, by simp, by simp⟩ (Sim.trans (Sim.of_le (Env.le_of (by simp [mkB])) (Mem.le_of rfl (by simp))) (Sim.nil_env 3 9 (sz := 1) (by decide) (by simp))) ?_
  rintro ⟨⟨i, out, acc⟩, g, nx⟩ ⟨hsp, hall, hol, hal⟩
  simp only at hsp hall hol hal
  have hi : i ≤ s.size + 1 := by rcases hsp with h | h <;> omega
  have hw : IntKind.i64.wrap ((i : Int) + 1) = i + 1 := wrap64 (by omega) (by omega)
  simp
  refine br_cond rfl (fun h1 => ?_) (fun h1 => ?_)
  · have hle : i ≤ s.size := by have := leI_t.1 h1; omega
    have hsp := (hsp.resolve_right (fun h => by omega)).2
    simp
    refine br_guard_t rfl (fun h2 => ?_) (fun h2 => ?_)
    · have hlt : i < s.size := by have := ltI_t.1 h2; omega
      simp [h2, idxS]
      have hcut : L.drop i = byteAt s i :: L.drop (i + 1) := by rw [hL]; exact drop_byte hlt
      rw [hcut] at hsp
      refine br_cond rfl (fun h3 => ?_) (fun h3 => ?_)
      · have hne : byteAt s i ≠ 32 := fun e => by rw [e] at h3; simp [eqI] at h3
        have hsz : (mkB acc).size + (mkB [byteAt s i]).size ≤ 9223372036854775807 := by simp [mkB, ByteArray.size]; omega
        have hb1 : (i : Int) ≤ i + 1 := by omega
        have hb2 : (i : Int) + 1 ≤ s.size := by omega
        have hb3 : ((i : Int) + 1).toNat = i + 1 := by omega
        simp only [splW, hne, if_false] at hsp
        simp [hw, sliceA, boundsA, hb1, hb2, hb3, extract_one hlt, hsz, mkB_append]
        exact ⟨i + 1, out, acc ++ [byteAt s i], ⟨.inl ⟨by omega, hsp⟩, hall, by omega, by simp; omega⟩, by omega, g, nx, Sim.of_le (Env.le_of (by simp)) (Mem.le_of rfl (by simp))⟩
      · have he : byteAt s i = 32 := by
          have := eqI_t.1 (show eqI (byteAt s i).toNat 32 = true by simpa using h3)
          exact u8_eq' (by show (byteAt s i).toNat = 32; omega)
        simp only [splW, he, if_true] at hsp
        simp
        refine br_cond rfl (fun h4 => ?_) (fun h4 => ?_)
        · have hacc := nil_of_eqS h4
          have hno : wordsAV s = .nilS := no_words (by rw [← hL, hsp, hacc]; simp)
          simp [cr81, postP_ret, hno]
        · have hacc : acc ≠ [] := fun e => by rw [e, eqS_t.2 (show mkB [] = ⟨#[]⟩ from rfl)] at h4; cases h4
          have hd1 : (out.length + 1) * 16 ≤ 140737488355328 := by omega
          have hd2 : out.length + 1 ≤ 9223372036854775807 := by omega
          simp [appendA, hd1, hd2, hw]
          exact ⟨i + 1, out ++ [acc], [], ⟨.inl ⟨by omega, by rw [hsp]; simp⟩, all_snoc hall hacc, by simp; omega, by simp⟩, by omega, nx + 1, nx + 2, Sim.of_le (Env.le_of (by simp [mkB])) (Mem.le_of rfl (by simp))⟩
    · have hie : i = s.size := by have := ltI_f.1 h2; omega
      have hcut : L.drop i = [] := List.drop_of_length_le (by omega)
      rw [hcut] at hsp
      simp only [splW] at hsp
      simp [h2]
      refine br_cond rfl (fun h4 => ?_) (fun h4 => ?_)
      · have hacc := nil_of_eqS h4
        have hno : wordsAV s = .nilS := no_words (by rw [← hL, hsp, hacc]; simp)
        simp [cr81, postP_ret, hno]
      · have hacc : acc ≠ [] := fun e => by rw [e, eqS_t.2 (show mkB [] = ⟨#[]⟩ from rfl)] at h4; cases h4
        have hd1 : (out.length + 1) * 16 ≤ 140737488355328 := by omega
        have hd2 : out.length + 1 ≤ 9223372036854775807 := by omega
        simp [appendA, hd1, hd2, hw]
        exact ⟨i + 1, out ++ [acc], [], ⟨.inr ⟨by omega, hsp⟩, all_snoc hall hacc, by simp; omega, by simp⟩, by omega, nx + 1, nx + 2, Sim.of_le (Env.le_of (by simp [mkB])) (Mem.le_of rfl (by simp))⟩
  · have hfin : splW [] L = out := by
      rcases hsp with h | h
      · have := leI_f.1 h1; omega
      · exact h.2
    have hyes : wordsAV s = .list true 1 (out.map fun x => [.str (mkB x)]) := by
      unfold wordsAV wordsF
      rw [← hL, hfin, if_pos (List.all_eq_true.2 fun x hx => by simpa using hall x hx)]
      simp
    have ht : (out.map fun x => [AV.str (mkB x)]).take out.length = out.map fun x => [AV.str (mkB x)] := List.take_of_length_le (by simp)
    simp [cr81, postP_ret, hyes, ht, permMk]
end Go.Pm

/- ZkR9: contracts: the reference's numbers. -/
namespace Go.Pm
open Go Go.Proofs
attribute [-simp] List.getElem?_map

theorem len_data (s : ByteArray) : s.data.toList.length = s.size := by simp
theorem mkB_size (l : List UInt8) : (mkB l).size = l.length := rfl
def numRAV (s : ByteArray) : AV := match numRL s.data.toList with
  | some n => .tuple [.int .i64 n, .bool true]
  | none => .tuple [.int .i64 0, .bool false]

theorem take_byte {s : ByteArray} {i : Nat} (h : i < s.size) : s.data.toList.take (i + 1) = s.data.toList.take i ++ [byteAt s i] := by
  have h1 : i < s.data.toList.length := by simpa using h
  rw [List.take_add_one, List.getElem?_eq_getElem h1, byteAt_eq h1]
  rfl
theorem valFrom_snoc (l : List UInt8) (c : UInt8) : valFrom 0 (l ++ [c]) = valFrom 0 l * 10 + (c.toNat - 48) := by unfold valFrom; rw [List.foldl_append]; rfl
theorem extract_tail (s : ByteArray) : s.extract 1 s.size = mkB s.data.toList.tail := by
  rw [← mkB_data (s.extract 1 s.size), Lib.extract_data]
  congr 1
  rw [List.drop_one]
  exact List.take_of_length_le (by simp)
theorem head_byte {s : ByteArray} (h : 0 < s.size) : s.data.toList.head? = some (byteAt s 0) := by
  have h1 : 0 < s.data.toList.length := by simpa using h
  rw [List.head?_eq_getElem?, List.getElem?_eq_getElem h1, byteAt_eq h1]

/-- The part behind the sign, walked. -/
structure NumT (s t : ByteArray) : Prop where
  data : t.data.toList = tailN s.data.toList
theorem NumT.none_of {s t : ByteArray} (h : NumT s t) (hc : t.size < 1 ∨ 10 < t.size ∨ ((0 < t.size ∧ (byteAt t 0) = 48) ∧ (1 < t.size ∨ 1 < s.size))) : numRAV s = .tuple [.int .i64 0, .bool false] := by
  have hsz : t.size = (tailN s.data.toList).length := by rw [← h.data]; simp
  have hss : s.size = s.data.toList.length := by simp
  unfold numRAV numRL
  rw [if_pos]
  rcases hc with hc | hc | ⟨⟨h0, hb⟩, hc⟩
  · exact .inl (by omega)
  · exact .inr (.inl (by omega))
  · refine .inr (.inr ⟨?_, by omega⟩)
    rw [← h.data, head_byte h0, hb]
theorem NumT.bad_digit {s t : ByteArray} (h : NumT s t) {i : Nat} (hi : i < t.size) (hd : isDig (byteAt t i) = false) : numRAV s = .tuple [.int .i64 0, .bool false] := by
  unfold numRAV
  have : numRL s.data.toList = none := by
    unfold numRL
    split
    · rfl
    · rw [if_neg]
      intro ha
      rw [← h.data] at ha
      have hm : byteAt t i ∈ t.data.toList := by
        have h1 : i < t.data.toList.length := by simpa using hi
        rw [← byteAt_eq h1]; exact List.getElem_mem h1
      have := List.all_eq_true.1 ha _ hm
      rw [hd] at this; cases this
  rw [this]
theorem NumT.ok {s t : ByteArray} (h : NumT s t) (hc : ¬ (t.size < 1 ∨ 10 < t.size ∨ ((0 < t.size ∧ (byteAt t 0) = 48) ∧ (1 < t.size ∨ 1 < s.size)))) (hd : t.data.toList.all isDig = true) :
    numRAV s = .tuple [.int .i64 (if t.size < s.size then -(valFrom 0 t.data.toList : Int) else valFrom 0 t.data.toList), .bool true] := by
  have hsz : t.size = (tailN s.data.toList).length := by rw [← h.data]; simp
  have hss : s.size = s.data.toList.length := by simp
  have : numRL s.data.toList = some (if t.size < s.size then -(valFrom 0 t.data.toList : Int) else valFrom 0 t.data.toList) := by
    unfold numRL
    rw [if_neg, ← h.data, if_pos hd]
    · have e : t.data.toList.length = t.size := by simp
      rw [e, ← hss]
    · rintro (h1 | h1 | ⟨h1, h2⟩)
      · exact hc (.inl (by omega))
      · exact hc (.inr (.inl (by omega)))
      · by_cases h0 : 0 < t.size
        · refine hc (.inr (.inr ⟨⟨h0, ?_⟩, by omega⟩))
          rw [← h.data, head_byte h0] at h1
          injection h1
        · exact hc (.inl (by omega))
  unfold numRAV
  rw [this]

theorem dig_iff (c : UInt8) : isDig c = (!ltI c.toNat 48 && !ltI 57 c.toNat) := by
  unfold isDig ltI
  by_cases h1 : 48 ≤ c.toNat <;> by_cases h2 : c.toNat ≤ 57 <;> simp [h1, h2] <;> omega

set_option maxHeartbeats 2000000 in
theorem loop84 {s t : ByteArray} {c c2 : Bool} (hT : NumT s t) (hts : t.size ≤ s.size) (ht10 : t.size ≤ 10)
    (hc : ¬ (t.size < 1 ∨ 10 < t.size ∨ ((0 < t.size ∧ (byteAt t 0) = 48) ∧ (1 < t.size ∨ 1 < s.size)))) :
    wpS Zk.pg Zk.imp q84 [] (postP cr84 fun out => out = .ret (numRAV s)) [(0, .str s), (2, .int .i64 0), (3, .bool false), (4, .str t), (15, .bool c), (40, .bool c2)] Mem.empty := by
  simp [q84]
  refine wpS_loop (ι := Nat) (fun i => [(0, .str s), (4, .str t), (5, .int .i64 (valFrom 0 (t.data.toList.take i))), (6, .int .i64 i)]) (fun _ => Mem.empty) (fun i => t.size - i)
    (fun i => i ≤ t.size ∧ (t.data.toList.take i).all isDig = true) 0 ⟨Nat.zero_le _, by simp⟩ (Env.le_of (by simp [valFrom])) rfl ?_
  rintro i ⟨hi, hall⟩
  have hw : IntKind.i64.wrap ((i : Int) + 1) = i + 1 := wrap64 (by omega) (by omega)
  have hv : valFrom 0 (t.data.toList.take i) < 10000000000 := by
    have h := val_lt _ 0 hall
    have hl : (t.data.toList.take i).length ≤ 10 := by simp; omega
    have hp : 10 ^ (t.data.toList.take i).length ≤ 10 ^ 10 := Nat.pow_le_pow_right (by decide) hl
    omega
  obtain ⟨v, hve⟩ : ∃ v, v = valFrom 0 (t.data.toList.take i) := ⟨_, rfl⟩
  rw [← hve] at hv
  simp only [← hve]
  simp
  refine br_cond rfl (fun h1 => ?_) (fun h1 => ?_)
  · have hlt : i < t.size := by have := ltI_t.1 h1; omega
    simp [h1, idxS]
    refine br_guard_f rfl (fun h2 => ?_) (fun h2 => ?_)
    · simp [h2, cr84, postP_ret, hT.bad_digit hlt (by simp [dig_iff, h2]), AV.perm, permL]
    · simp [h1, h2, idxS]
      refine br_cond rfl (fun h3 => ?_) (fun h3 => ?_)
      · simp [cr84, postP_ret, hT.bad_digit hlt (by simp [dig_iff, h3]), AV.perm, permL]
      · have hd : isDig (byteAt t i) = true := by simp [dig_iff, h2, h3]
        have g2 := ltI_f.1 h2
        have g3 := ltI_f.1 h3
        have w1 : IntKind.i64.wrap (v * 10) = v * 10 := wrap64 (by omega) (by omega)
        have w2 : IntKind.u8.wrap ((byteAt t i).toNat - 48) = (byteAt t i).toNat - 48 := u8w (by omega) (by omega)
        have w3 : IntKind.i64.wrap (((byteAt t i).toNat : Int) - 48) = (byteAt t i).toNat - 48 := wrap64 (by omega) (by omega)
        have w4 : IntKind.i64.wrap ((v : Int) * 10 + ((byteAt t i).toNat - 48)) = v * 10 + ((byteAt t i).toNat - 48) := wrap64 (by omega) (by omega)
        have hnext : valFrom 0 (t.data.toList.take (i + 1)) = v * 10 + ((byteAt t i).toNat - 48) := by rw [take_byte hlt, valFrom_snoc, ← hve]
        have hcast : ((valFrom 0 (t.data.toList.take (i + 1)) : Nat) : Int) = v * 10 + ((byteAt t i).toNat - 48) := by rw [hnext]; omega
        simp [h1, idxS, w1, w2, w3, w4, hw]
        refine ⟨i + 1, ⟨by omega, ?_⟩, by omega, Env.le_of (by simp [hcast]), Mem.le_of rfl (by simp)⟩
        intro y hy
        rw [take_byte hlt] at hy
        rcases List.mem_append.1 hy with hy | hy
        · exact List.all_eq_true.1 hall y hy
        · rw [List.mem_singleton.1 hy]; exact hd
  · have hie : i = t.size := by have := ltI_f.1 h1; omega
    have htake : t.data.toList.take i = t.data.toList := List.take_of_length_le (by simp; omega)
    rw [htake] at hall hve
    have hok := hT.ok hc hall
    rw [← hve] at hok
    simp
    refine br_cond rfl (fun h2 => ?_) (fun h2 => ?_)
    · have g := ltI_t.1 h2
      have wn : IntKind.i64.wrap (-(v : Int)) = -v := wrap64 (by omega) (by omega)
      rw [if_pos (by omega)] at hok
      simp [wn, cr84, postP_ret, hok, AV.perm, permL]
    · have g := ltI_f.1 h2
      rw [if_neg (by omega)] at hok
      simp [cr84, postP_ret, hok, AV.perm, permL]

set_option maxHeartbeats 2000000 in
theorem tail84 {s t : ByteArray} {c : Bool} (hT : NumT s t) (hts : t.size ≤ s.size) :
    wpS Zk.pg Zk.imp r84 [] (postP cr84 fun out => out = .ret (numRAV s)) [(0, .str s), (2, .int .i64 0), (3, .bool false), (4, .str t), (15, .bool c)] Mem.empty := by
  simp [r84]
  refine br_guard_f rfl (fun g1 => ?_) (fun g1 => ?_)
  · have := ltI_t.1 g1
    simp [g1, cr84, postP_ret, hT.none_of (.inl (by omega)), AV.perm, permL]
  have k1 := ltI_f.1 g1
  simp [g1]
  refine br_guard_f rfl (fun g2 => ?_) (fun g2 => ?_)
  · have := ltI_t.1 g2
    simp [g2, cr84, postP_ret, hT.none_of (.inr (.inl (by omega))), AV.perm, permL]
  have k2 := ltI_f.1 g2
  have ht0 : t[0]? = some (byteAt t 0) := idxS (i := 0) (ltI_t.2 (by omega))
  simp [g2, ht0]
  refine br_guard_t rfl (fun g3 => ?_) (fun g3 => ?_)
  · have hb : byteAt t 0 = 48 := u8_eq' (by have := eqI_t.1 g3; show (byteAt t 0).toNat = 48; omega)
    simp [g3]
    refine br_guard_f rfl (fun g4 => ?_) (fun g4 => ?_)
    · have := ltI_t.1 g4
      simp [g4, cr84, postP_ret, hT.none_of (.inr (.inr ⟨⟨by omega, hb⟩, .inl (by omega)⟩)), AV.perm, permL]
    · have k4 := ltI_f.1 g4
      simp [g4]
      refine br_cond rfl (fun g5 => ?_) (fun g5 => ?_)
      · have := ltI_t.1 g5
        simp [g5, cr84, postP_ret, hT.none_of (.inr (.inr ⟨⟨by omega, hb⟩, .inr (by omega)⟩)), AV.perm, permL]
      · have k5 := ltI_f.1 g5
        simp
        exact loop84 hT hts (by omega) (by omega)
  · have hb : byteAt t 0 ≠ 48 := fun e => by rw [e] at g3; simp [eqI] at g3
    simp [g3]
    refine loop84 hT hts (by omega) ?_
    rintro (h | h | ⟨⟨_, h⟩, _⟩)
    · omega
    · omega
    · exact hb h
set_option maxHeartbeats 2000000 in
theorem call84 (s : ByteArray) (hs : s.size ≤ 1048576) : PCalls Zk.pg 84 [.str s] fun out => out = .ret (numRAV s) := by
  refine ok84.pcalls (by simp) ?_
  simp [c84]
  have same : tailN s.data.toList = s.data.toList → ∀ c, wpS Zk.pg Zk.imp r84 [] (postP cr84 fun out => out = .ret (numRAV s)) [(0, .str s), (2, .int .i64 0), (3, .bool false), (4, .str s), (15, .bool c)] Mem.empty := fun h c => tail84 ⟨h.symm⟩ (Nat.le_refl _)
  refine br_guard_t rfl (fun h1 => ?_) (fun h1 => ?_)
  · have h0 : 0 < s.size := by have := ltI_t.1 h1; omega
    have hi0 : s[0]? = some (byteAt s 0) := idxS (i := 0) h1
    simp [h1, hi0]
    refine br_cond rfl (fun h2 => ?_) (fun h2 => ?_)
    · have hb : byteAt s 0 = 45 := u8_eq' (by have := eqI_t.1 h2; show (byteAt s 0).toNat = 45; omega)
      have ht : tailN s.data.toList = s.data.toList.tail := by unfold tailN; rw [head_byte h0, hb, if_pos rfl]
      have h1s : (1 : Int) ≤ s.size := by omega
      simp [sliceA, boundsA, h1s, extract_tail]
      exact tail84 ⟨by rw [ht]; simp⟩ (by rw [mkB_size, List.length_tail, len_data]; omega)
    · simp
      refine same ?_ _
      unfold tailN
      rw [head_byte h0, if_neg]
      intro e
      injection e with e
      rw [e] at h2
      simp [eqI] at h2
  · simp [h1]
    refine same ?_ _
    have h0 : s.data.toList = [] := List.eq_nil_of_length_eq_zero (by rw [len_data]; have := ltI_f.1 h1; omega)
    rw [h0]; rfl
end Go.Pm
