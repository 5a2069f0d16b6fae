/- LkC1: contracts: names. -/
import Derived.Test.YtolfkdphlgkekaaLkS1
namespace Go.Pm
open Go Go.Proofs

def chOk (b : UInt8) : Bool := !ltI b.toNat 33 && !ltI 126 b.toNat
def nameOk (s : ByteArray) : Bool := s.data.toList.all chOk && leI 1 s.size && leI s.size 31

theorem all_bytes (s : ByteArray) : s.data.toList.all chOk = true ↔ ∀ j, j < s.size → chOk (byteAt s j) = true := by
  rw [List.all_eq_true]
  constructor
  · intro h j hj
    have hj' : j < s.data.toList.length := hj
    apply h
    unfold byteAt
    rw [List.getD_eq_getElem?_getD, List.getElem?_eq_getElem hj', Option.getD_some]
    exact List.getElem_mem hj'
  · intro h b hb
    obtain ⟨j, hj, rfl⟩ := List.mem_iff_getElem.1 hb
    have := h j hj
    unfold byteAt at this
    rwa [List.getD_eq_getElem?_getD, List.getElem?_eq_getElem hj, Option.getD_some] at this

theorem call61 (s : ByteArray) (hs : s.size ≤ 1048576) : PCalls Try.prog 61 [.str s] fun out => out = .ret (.bool (nameOk s)) := by
  refine ok61.pcalls (by simp) ?_
  simp [c61]
  refine wpS_loop (ι := Nat) (fun i => [(0, .str s), (2, .bool false), (3, .int .i64 i)]) (fun _ => Mem.empty) (fun i => s.size - i) (fun i => i ≤ s.size ∧ ∀ j, j < i → chOk (byteAt s j) = true) 0 (by simp) (Env.le_of (by simp)) rfl ?_
  intro i ⟨hi, hall⟩
  have hw : IntKind.i64.wrap (i + 1) = i + 1 := wrap64 (by omega) (by omega)
  have bad : ltI ↑i ↑s.size = true → chOk (byteAt s i) = false → nameOk s = false := fun h1 h2 => by
    cases hn : nameOk s with
    | false => rfl
    | true =>
      simp only [nameOk, Bool.and_eq_true] at hn
      have := (all_bytes s).1 hn.1.1 i (by have := ltI_t.1 h1; omega)
      rw [h2] at this; cases this
  simp
  refine br_cond rfl (fun h => ?_) (fun h => ?_)
  · simp [h, idxS]
    have next : chOk (byteAt s i) = true → ∃ s', (s' ≤ s.size ∧ ∀ (j : Nat), j < s' → chOk (byteAt s j) = true) ∧ s.size - s' < s.size - i ∧ Env.le [(0, AV.str s), (2, AV.bool false), (3, AV.int IntKind.i64 ↑s')] [(0, AV.str s), (2, AV.bool false), (3, AV.int IntKind.i64 (↑i + 1)), (7, AV.bool true), (19, AV.bool false)] ∧ Mem.le { store := [], next := 0 } { store := [], next := 0 } := fun hc => by
      have := ltI_t.1 h
      refine ⟨i + 1, ⟨by omega, fun j hj => ?_⟩, by omega, Env.le_of (by simp), Mem.le_of rfl (by simp)⟩
      rcases Nat.lt_or_ge j i with hj' | hj'
      · exact hall j hj'
      · rw [show j = i by omega]; exact hc
    refine br_guard_f rfl (fun h1 => ?_) (fun h1 => ?_)
    · simp [h1, cr61, bad h (by simp [chOk, h1])]
    · simp [h1, h, idxS]
      refine br_cond rfl (fun h2 => ?_) (fun h2 => ?_)
      · simp [cr61, bad h (by simp [chOk, h2])]
      · simp [h2, hw]
        exact next (by simp [chOk, h1, h2])
  · simp [h]
    have hi' : i = s.size := by have := ltI_f.1 h; omega
    have hA : s.data.toList.all chOk = true := (all_bytes s).2 fun j hj => hall j (by omega)
    refine br_guard_t rfl (fun h1 => ?_) (fun h1 => ?_)
    · simp [h1, cr61, nameOk, hA]
    · simp [h1, cr61, nameOk, hA]
end Go.Pm

/- LkC2: contracts: numbers. -/
namespace Go.Pm
open Go Go.Proofs

def withinF (n a b : Int) : Bool := leI a n && leI n b

theorem call62 (n a b : Int) : PCalls Try.prog 62 [.int .i64 n, .int .i64 a, .int .i64 b] fun out => out = .ret (.bool (withinF n a b)) := by
  refine ok62.pcalls (by simp) ?_
  simp [c62]
  refine br_guard_t rfl (fun h1 => ?_) (fun h1 => ?_)
  · simp [h1, cr62, withinF]
  · simp [h1, cr62, withinF]

theorem call53 (n : Int) (h0 : 0 ≤ n) (h1 : n ≤ 1000000000000) : PCalls Try.prog 53 [.int .i64 n] fun out => out = .ret (.int .i64 ((n + 7) / 8 * 8)) := by
  refine ok53.pcalls (by simp) ?_
  have hd : (n + 7).tdiv 8 = (n + 7) / 8 := Int.tdiv_eq_ediv_of_nonneg (by omega)
  simp [c53, cr53]
  rw [wrap64 (n := n + 8) (by omega) (by omega), wrap64 (n := n + 8 - 1) (by omega) (by omega), show n + 8 - 1 = n + 7 by omega, hd, wrap64 (n := (n + 7) / 8) (by omega) (by omega), wrap64 (by omega) (by omega)]

def baseF (n : Int) : Bool := withinF n 0 65528 && eqI (n.tmod 8) 0

theorem call35 (n : Int) : PCalls Try.prog 35 [.int .i64 n] fun out => out = .ret (.bool (baseF n)) := by
  refine ok35.pcalls (by simp) ?_
  simp [c35]
  refine xcall_p (call62 n 0 65528) rfl ?_
  simp
  refine br_guard_t rfl (fun h1 => ?_) (fun h1 => ?_)
  · simp [h1, cr35, baseF]
  · simp [h1, cr35, baseF]

theorem call24 (n : Int) : PCalls Try.prog 24 [.int .i64 n] fun out => out = .ret (.bool (baseF n)) := by
  have e : baseF n = (leI 0 n && ltI n 65536 && eqI (n.tmod 8) 0) := by
    simp only [baseF, withinF]
    cases h : leI 0 n with
    | false => rfl
    | true =>
      cases h8 : eqI (n.tmod 8) 0 with
      | false => simp
      | true =>
        have h0 := leI_t.1 h
        have h8' := eqI_t.1 h8
        rw [Int.tmod_eq_emod_of_nonneg h0] at h8'
        have : leI n 65528 = ltI n 65536 := by
          simp only [leI, ltI, decide_eq_decide]; omega
        rw [this]
  refine ok24.pcalls (by simp) ?_
  simp [c24]
  refine br_guard_t rfl (fun h1 => ?_) (fun h1 => ?_)
  · simp [h1]
    refine br_guard_t rfl (fun h2 => ?_) (fun h2 => ?_)
    · simp [h1, h2, cr24, e]
    · simp [h1, h2, cr24, e]
  · simp [h1, cr24, e]

theorem eqS_t {a b : ByteArray} : eqS a b = true ↔ a = b := by
  unfold eqS
  rw [← beq_toListBytes, beq_bytes]

theorem size_zero {s : ByteArray} : s.size = 0 ↔ s = ⟨#[]⟩ := by
  obtain ⟨⟨l⟩⟩ := s
  simp [ByteArray.size]

theorem call71 (s : ByteArray) (hs : s.size ≤ 1048576) : PCalls Try.prog 71 [.str s] fun out => out = .ret (.bool (nameOk s)) := by
  refine ok71.pcalls (by simp) ?_
  simp [c71]
  refine wpS_loop (ι := Nat) (fun i => [(0, .str s), (2, .bool false), (5, .int .i64 s.size), (6, .int .i64 i)]) (fun _ => Mem.empty) (fun i => s.size - i) (fun i => i ≤ s.size ∧ ∀ j, j < i → chOk (byteAt s j) = true) 0 (by simp) (Env.le_of (by simp)) rfl ?_
  intro i ⟨hi, hall⟩
  have hw : IntKind.i64.wrap (i + 1) = i + 1 := wrap64 (by omega) (by omega)
  have bad : ltI ↑i ↑s.size = true → chOk (byteAt s i) = false → nameOk s = false := fun h1 h2 => by
    cases hn : nameOk s with
    | false => rfl
    | true =>
      simp only [nameOk, Bool.and_eq_true] at hn
      have := (all_bytes s).1 hn.1.1 i (by have := ltI_t.1 h1; omega)
      rw [h2] at this; cases this
  simp
  refine br_cond rfl (fun h => ?_) (fun h => ?_)
  · simp [h, idxS]
    have next : ∀ a b c : AV, chOk (byteAt s i) = true → ∃ s', (s' ≤ s.size ∧ ∀ (j : Nat), j < s' → chOk (byteAt s j) = true) ∧ s.size - s' < s.size - i ∧ Env.le [(0, AV.str s), (2, AV.bool false), (5, .int .i64 s.size), (6, AV.int IntKind.i64 ↑s')]
        [(0, AV.str s), (2, AV.bool false), (3, a), (5, .int .i64 s.size), (6, AV.int IntKind.i64 (↑i + 1)), (7, b), (18, c)] ∧ Mem.le { store := [], next := 0 } { store := [], next := 0 } := fun a b c hc => by
      have := ltI_t.1 h
      refine ⟨i + 1, ⟨by omega, fun j hj => ?_⟩, by omega, Env.le_of (by simp), Mem.le_of rfl (by simp)⟩
      rcases Nat.lt_or_ge j i with hj' | hj'
      · exact hall j hj'
      · rw [show j = i by omega]; exact hc
    refine br_guard_f rfl (fun h1 => ?_) (fun h1 => ?_)
    · simp [h1, cr71, bad h (by simp [chOk, h1])]
    · simp [h1, h, idxS]
      refine br_cond rfl (fun h2 => ?_) (fun h2 => ?_)
      · simp [cr71, bad h (by simp [chOk, h2])]
      · simp [h2, hw]
        exact next _ _ _ (by simp [chOk, h1, h2])
  · simp [h]
    have hi' : i = s.size := by have := ltI_f.1 h; omega
    have hA : s.data.toList.all chOk = true := (all_bytes s).2 fun j hj => hall j (by omega)
    have he : (!eqS s ⟨#[]⟩) = leI 1 s.size := by
      cases hq : eqS s ⟨#[]⟩ with
      | true =>
        have := size_zero.2 (eqS_t.1 hq)
        rw [this]; rfl
      | false =>
        have : s.size ≠ 0 := fun hz => by rw [eqS_t.2 (size_zero.1 hz)] at hq; cases hq
        rw [leI_t.2 (by omega)]; rfl
    refine br_guard_t rfl (fun h1 => ?_) (fun h1 => ?_)
    · have h1' := h1
      rw [he] at h1'
      simp at h1
      simp [h1, h1', cr71, nameOk, hA]
    · have h1' := h1
      rw [he] at h1'
      simp at h1
      simp [h1, h1', cr71, nameOk, hA]

end Go.Pm

/- LkD: objects and images, as values. -/
namespace Go.Pm
open Go Go.Proofs

def ix {α : Type} [Inhabited α] (l : List α) (i : Nat) : α := l.getD i default
theorem idx {α : Type} [Inhabited α] {l : List α} {i : Nat} (h : ltI ↑i ↑l.length = true) : l[i]? = some (ix l i) := by
  have h1 : i < l.length := by have := ltI_t.1 h; omega
  simp [ix, List.getD, h1]
theorem idxM {α β : Type} [Inhabited α] {f : α → β} {l : List α} {i : Nat} (h : ltI ↑i ↑l.length = true) : (l.map f)[i]? = some (f (ix l i)) := by
  rw [List.getElem?_map, idx h]; rfl
theorem ix_mem {α : Type} [Inhabited α] {l : List α} {i : Nat} (h : i < l.length) : ix l i ∈ l := by
  simp [ix, List.getD, h]
theorem ltN {i n : Nat} (h : i < n) : ltI ↑i ↑n = true := ltI_t.2 (by omega)

structure DDef where
  name : ByteArray
  at_ : Int
  deriving DecidableEq
structure DRef where
  at_ : Int
  name : ByteArray
  plus : Int
  deriving DecidableEq
structure DLine where
  at_ : Int
  stmt : Int
  deriving DecidableEq
structure Deck where
  name : ByteArray
  code : ByteArray
  defs : List DDef
  refs : List DRef
  lines : List DLine
  deriving DecidableEq
structure Img where
  base : Int
  code : ByteArray
  defs : List DDef
  lines : List DLine
  names : List DDef
  deriving DecidableEq
instance : Inhabited ByteArray := ⟨⟨#[]⟩⟩
instance : Inhabited DDef := ⟨⟨⟨#[]⟩, 0⟩⟩
instance : Inhabited DRef := ⟨⟨0, ⟨#[]⟩, 0⟩⟩
instance : Inhabited DLine := ⟨⟨0, 0⟩⟩
instance : Inhabited Deck := ⟨⟨⟨#[]⟩, ⟨#[]⟩, [], [], []⟩⟩

def DDef.av (d : DDef) : List AV := [.str d.name, .int .i64 d.at_]
def DRef.av (d : DRef) : List AV := [.int .i64 d.at_, .str d.name, .int .i64 d.plus]
def DLine.av (d : DLine) : List AV := [.int .i64 d.at_, .int .i64 d.stmt]
def Deck.av (o : Deck) : List AV := [.str o.name, .str o.code, .list true 2 (o.defs.map DDef.av), .list true 3 (o.refs.map DRef.av), .list true 2 (o.lines.map DLine.av)]
def Img.av (o : Img) : List AV := [.int .i64 o.base, .str o.code, .list true 2 (o.defs.map DDef.av), .list true 2 (o.lines.map DLine.av), .list true 2 (o.names.map DDef.av)]
def decksAV (l : List Deck) : AV := .list true 5 (l.map Deck.av)

@[simp] theorem perm_defs : ∀ l : List DDef, permLL (l.map DDef.av) = true
  | [] => rfl
  | d :: l => by simp only [List.map_cons, permLL, perm_defs l, DDef.av, permL, AV.perm, Bool.and_self]
@[simp] theorem perm_refs : ∀ l : List DRef, permLL (l.map DRef.av) = true
  | [] => rfl
  | d :: l => by simp only [List.map_cons, permLL, perm_refs l, DRef.av, permL, AV.perm, Bool.and_self]
@[simp] theorem perm_lines : ∀ l : List DLine, permLL (l.map DLine.av) = true
  | [] => rfl
  | d :: l => by simp only [List.map_cons, permLL, perm_lines l, DLine.av, permL, AV.perm, Bool.and_self]
@[simp] theorem perm_decks : ∀ l : List Deck, permLL (l.map Deck.av) = true
  | [] => rfl
  | d :: l => by simp only [List.map_cons, permLL, perm_decks l, Deck.av, permL, AV.perm, perm_defs, perm_refs, perm_lines, Bool.and_self]
@[simp] theorem noref_defs : ∀ l : List DDef, norefLL (l.map DDef.av) = true
  | [] => rfl
  | d :: l => by simp only [List.map_cons, norefLL, noref_defs l, DDef.av, norefL, AV.noref, Bool.and_self]
@[simp] theorem noref_refs : ∀ l : List DRef, norefLL (l.map DRef.av) = true
  | [] => rfl
  | d :: l => by simp only [List.map_cons, norefLL, noref_refs l, DRef.av, norefL, AV.noref, Bool.and_self]
@[simp] theorem noref_lines : ∀ l : List DLine, norefLL (l.map DLine.av) = true
  | [] => rfl
  | d :: l => by simp only [List.map_cons, norefLL, noref_lines l, DLine.av, norefL, AV.noref, Bool.and_self]
@[simp] theorem noref_decks : ∀ l : List Deck, norefLL (l.map Deck.av) = true
  | [] => rfl
  | d :: l => by simp only [List.map_cons, norefLL, noref_decks l, Deck.av, norefL, AV.noref, noref_defs, noref_refs, noref_lines, Bool.and_self]
@[simp] theorem norefL_deck (o : Deck) : norefL o.av = true := by simp only [Deck.av, norefL, AV.noref, noref_defs, noref_refs, noref_lines, Bool.and_self]
@[simp] theorem permL_deck (o : Deck) : permL o.av = true := by simp only [Deck.av, permL, AV.perm, perm_defs, perm_refs, perm_lines, Bool.and_self]

structure Deck.Small (o : Deck) : Prop where
  name : o.name.size ≤ 1048576
  code : o.code.size ≤ 1048576
  defs : o.defs.length ≤ 1048576
  refs : o.refs.length ≤ 1048576
  lines : o.lines.length ≤ 1048576
  dname : ∀ d ∈ o.defs, d.name.size ≤ 1048576
  rname : ∀ d ∈ o.refs, d.name.size ≤ 1048576

theorem all_f {n i : Nat} {p : Nat → Bool} (h : i < n) (hp : p i = false) : (List.range n).all p = false := by
  cases ha : (List.range n).all p with
  | false => rfl
  | true => rw [List.all_eq_true] at ha; rw [ha i (List.mem_range.2 h)] at hp; cases hp
theorem all_t {n : Nat} {p : Nat → Bool} (h : ∀ i, i < n → p i = true) : (List.range n).all p = true := by
  rw [List.all_eq_true]; intro i hi; exact h i (List.mem_range.1 hi)
theorem upto {p : Nat → Prop} {i : Nat} (h : ∀ j, j < i → p j) (hi : p i) : ∀ j, j < i + 1 → p j := fun j hj => by
  rcases Nat.lt_or_ge j i with h1 | h1
  · exact h j h1
  · rw [show j = i by omega]; exact hi

def defOk (n : Int) (ds : List DDef) (i : Nat) : Bool := nameOk (ix ds i).name && withinF (ix ds i).at_ 0 n && eqI ((ix ds i).at_.tmod 2) 0 && (List.range i).all fun k => !eqS (ix ds k).name (ix ds i).name
def refOk (n : Int) (ds : List DRef) (i : Nat) : Bool := nameOk (ix ds i).name && withinF (ix ds i).at_ 0 (n - 4) && eqI ((ix ds i).at_.tmod 4) 0 && withinF (ix ds i).plus (-1000000000) 1000000000 && (List.range i).all fun k => !eqI (ix ds k).at_ (ix ds i).at_
def lineOk (n : Int) (ds : List DLine) (i : Nat) : Bool := withinF (ix ds i).at_ 0 (n - 1) && eqI ((ix ds i).at_.tmod 2) 0 && withinF (ix ds i).stmt 0 1000000000 && !(ltI 0 i && leI (ix ds i).at_ (ix ds (i - 1)).at_)
def deckOk (o : Deck) : Bool := nameOk o.name && !ltI 20000 o.code.size && eqI ((o.code.size : Int).tmod 2) 0 && (List.range o.defs.length).all (defOk o.code.size o.defs) && (List.range o.refs.length).all (refOk o.code.size o.refs) && (List.range o.lines.length).all (lineOk o.code.size o.lines)

end Go.Pm
