/- LkC11: contracts: what is taken of libraries, as the document says it. -/
import Derived.Test.YtolfkdphlgkekaaMc
namespace Go.Pm
open Go Go.Proofs
attribute [-simp] List.getElem?_map List.length_flatten

def refNames (l : List Deck) : List ByteArray := l.flatMap fun o => o.refs.map (·.name)
def scanF (root : List DDef) (l : List Deck) (libs : List (List Deck)) : List ByteArray → List ByteArray → List ByteArray × Option Deck
  | [], ms => (ms, none)
  | n :: ns, ms => if ((outerF root n).isSome || knownF l n) = true then scanF root l libs ns ms else match foundF l libs n with
    | some o => (ms, some o)
    | none => scanF root l libs ns (ms ++ [n])
def gathF (root : List DDef) (libs : List (List Deck)) : Nat → List Deck → List Deck × List ByteArray
  | 0, l => (l, [])
  | n + 1, l => match scanF root l libs (refNames l) [] with
    | (ms, none) => (l, ms)
    | (_, some o) => gathF root libs n (l ++ [o])

/-- How many objects of libraries are not there. -/
def away (libs : List (List Deck)) (l : List Deck) : Nat := (libs.flatten.filter fun o => !(l.any fun x => eqS x.name o.name)).length

theorem filter_le {α : Type} {p q : α → Bool} (h : ∀ x, q x = true → p x = true) : ∀ l : List α, (l.filter q).length ≤ (l.filter p).length
  | [] => Nat.le_refl _
  | x :: l => by
    have ih := filter_le h l
    simp only [List.filter_cons]
    by_cases hq : q x = true
    · rw [if_pos hq, if_pos (h x hq)]; simp only [List.length_cons]; omega
    · rw [if_neg hq]
      split
      · simp only [List.length_cons]; omega
      · exact ih
theorem filter_lt {α : Type} {p q : α → Bool} {o : α} (h : ∀ x, q x = true → p x = true) (hp : p o = true) (hq : q o = false) : ∀ {l : List α}, o ∈ l → (l.filter q).length < (l.filter p).length
  | [], hm => by cases hm
  | x :: l, hm => by
    simp only [List.filter_cons]
    rcases List.mem_cons.1 hm with rfl | hm
    · have := filter_le h l
      rw [hq, hp]
      simp only [Bool.false_eq_true, if_false, if_true, List.length_cons]; omega
    · have ih := filter_lt h hp hq hm
      by_cases hqx : q x = true
      · rw [if_pos hqx, if_pos (h x hqx)]; simp only [List.length_cons]; omega
      · rw [if_neg hqx]
        split
        · simp only [List.length_cons]; omega
        · exact ih

theorem away_less {libs : List (List Deck)} {l : List Deck} {n : ByteArray} {o : Deck} (h : foundF l libs n = some o) : away libs (l ++ [o]) < away libs l ∧ o ∈ libs.flatten := by
  have hm := List.mem_of_find?_eq_some h
  have ht := List.find?_some h
  simp only [takes, Bool.and_eq_true] at ht
  refine ⟨filter_lt (o := o) (fun x hx => ?_) ht.1 ?_ hm, hm⟩
  · simp only [List.any_append, Bool.not_or, Bool.and_eq_true] at hx
    exact hx.1
  · simp [eqS_t.2 rfl]

theorem scan_found {root : List DDef} {l : List Deck} {libs : List (List Deck)} {o : Deck} : ∀ {ns ms ms' : List ByteArray}, scanF root l libs ns ms = (ms', some o) → ∃ n, foundF l libs n = some o
  | [], ms, ms', h => by simp [scanF] at h
  | n :: ns, ms, ms', h => by
    unfold scanF at h
    split at h
    · exact scan_found h
    · split at h
      · rename_i o' ho
        injection h with _ h; injection h with h; subst h
        exact ⟨n, ho⟩
      · exact scan_found h

@[simp] theorem perm_texts : ∀ ms : List ByteArray, permLL (ms.map fun s => [AV.str s]) = true
  | [] => rfl
  | m :: ms => by simp only [List.map_cons, permLL, perm_texts ms, permL, AV.perm, Bool.and_self]
@[simp] theorem noref_texts : ∀ ms : List ByteArray, norefLL (ms.map fun s => [AV.str s]) = true
  | [] => rfl
  | m :: ms => by simp only [List.map_cons, norefLL, noref_texts ms, norefL, AV.noref, Bool.and_self]

@[simp] theorem noref_libs : ∀ l : List (List Deck), norefLL (l.map libAV) = true
  | [] => rfl
  | d :: l => by simp only [List.map_cons, norefLL, noref_libs l, libAV, decksAV, norefL, AV.noref, noref_decks, Bool.and_self]

/-- A list of texts as it is handed back: nothing where there is none. -/
def textsAV (ms : List ByteArray) : AV := match ms with
  | [] => .nilS
  | _ => .list true 1 (ms.map fun s => [.str s])

/-- What was missing so far, as it stands in memory. -/
def missAV (g : Nat) : List ByteArray → AV
  | [] => .nilS
  | _ :: ms => .row 3 g 1 0 (ms.length + 1)
def missMem (gj g : Nat) : List ByteArray → List (Nat × AObj)
  | [] => []
  | m :: ms => [(gj, .row 9 1 [[.str m]]), (g, .row 9 1 ([.str m] :: ms.map fun s => [.str s]))]

/-- Where a search for what is missing stands. -/
structure GState where
  i : Nat
  ms : List ByteArray
  tk : Option Deck
  gj : Nat
  g : Nat
  nx : Nat

/-- What is left to scan tells what the whole tells. -/
def GOk (root : List DDef) (l : List Deck) (libs : List (List Deck)) (S : List ByteArray × Option Deck) (rest : List ByteArray) (ms : List ByteArray) : Option Deck → Prop
  | none => S = scanF root l libs rest ms
  | some o => S = (ms, some o)

theorem refs_le : ∀ {l : List Deck}, (∀ o ∈ l, o.Small) → (refNames l).length ≤ l.length * 1048576
  | [], _ => by simp [refNames]
  | o :: l, h => by
    have ih := refs_le (l := l) fun x hx => h x (List.mem_cons_of_mem _ hx)
    have h0 := (h o List.mem_cons_self).refs
    simp only [refNames, List.flatMap_cons, List.length_append, List.length_map, List.length_cons] at ih ⊢
    omega
theorem refs_max {l : List Deck} (h : SmallL l) : (refNames l).length ≤ 3000000000000 := by
  have h1 := refs_le h.each
  have h2 := h.len
  omega

set_option maxHeartbeats 8000000 in
theorem call37 (p q r : Bool) (l0 : List Deck) (libs : List (List Deck)) (root : List DDef) (hl : SmallL l0) (hb : SmallLL libs) (hr : root.length ≤ 2000000) (hsum : l0.length + libs.flatten.length ≤ 2000000) :
    PCalls Try.prog 37 [.list p 5 (l0.map Deck.av), .list q 1 (libs.map libAV), .list r 2 (root.map DDef.av)]
      fun out => out = .ret (.tuple [decksAV (gathF root libs (libs.flatten.length + 1) l0).1, textsAV (gathF root libs (libs.flatten.length + 1) l0).2]) := by
  refine ok37.pcalls (by simp) ?_
  have hc1 : l0.length * 104 ≤ 140737488355328 ∧ l0.length ≤ 9223372036854775807 := ⟨by omega, by omega⟩
  simp [c37, appendA, hc1]
  have haw : ∀ l, away libs l ≤ libs.flatten.length := fun l => List.length_filter_le _ _
  refine wpS_loop (ι := (Nat × List Deck) × (Nat × Nat)) (fun s => [(0, .row 0 s.2.1 5 0 s.1.2.length), (1, .list q 1 (libs.map libAV)), (2, .list r 2 (root.map DDef.av))])
    (fun s => ⟨[(s.2.1, .row 51 5 (s.1.2.map Deck.av))], s.2.2⟩) (fun s => s.1.1)
    (fun s => gathF root libs (libs.flatten.length + 1) l0 = gathF root libs s.1.1 s.1.2 ∧ away libs s.1.2 < s.1.1 ∧ SmallL s.1.2 ∧ s.1.2.length + away libs s.1.2 ≤ l0.length + libs.flatten.length)
    ((libs.flatten.length + 1, l0), (0, 1)) ⟨rfl, by have := haw l0; simp only; omega, hl, by have := haw l0; simp only; omega⟩ (Env.le_of (by simp)) (by simp) ?_
  intro ⟨⟨n, l⟩, ⟨g, nx⟩⟩ ⟨hg, haw1, hsl, hlen⟩
  simp only at hg haw1 hsl hlen
  have sl := hsl.len
  generalize gathF root libs (libs.flatten.length + 1) l0 = G at *
  obtain ⟨n, rfl⟩ : ∃ n', n = n' + 1 := ⟨n - 1, by omega⟩
  rw [gathF] at hg
  have hS : scanF root l libs (refNames l) [] = scanF root l libs (refNames l) [] := rfl
  generalize hSd : scanF root l libs (refNames l) [] = S at *
  have hkl : elsOf (⟨[(g, .row 51 5 (l.map Deck.av))], nx⟩ : Mem) 5 (.row 0 g 5 0 l.length) = some (l.map Deck.av) := by simp
  simp
  refine wpS_loop (ι := GState) (fun s => [(0, .row 0 g 5 0 l.length), (1, .list q 1 (libs.map libAV)), (2, .list r 2 (root.map DDef.av)), (8, missAV s.g s.ms), (9, .ptr 1 nx 0), (10, .bool s.tk.isSome), (11, .int .i64 s.i)])
    (fun s => ⟨(g, .row 51 5 (l.map Deck.av)) :: (nx, .cells (deckOr s.tk)) :: missMem s.gj s.g s.ms, s.nx⟩) (fun s => l.length - s.i)
    (fun s => s.i ≤ l.length ∧ GOk root l libs S (refNames (l.drop s.i)) s.ms s.tk ∧ s.ms.length + (refNames (l.drop s.i)).length ≤ (refNames l).length) ⟨0, [], none, 0, 0, nx + 1⟩ ⟨Nat.zero_le _, hSd.symm, by simp⟩ (Env.le_of (by simp [missAV])) (by simp [deckOr, missMem]) ?_
  intro ⟨i, ms, tk, gj, gm, ny⟩ ⟨hi, hall, hml⟩
  simp only at hi hall hml
  have hw : IntKind.i64.wrap (i + 1) = i + 1 := wrap64 (by omega) (by omega)
  simp
  refine br_guard_t rfl (fun h => ?_) (fun h => ?_)
  · cases tk with
    | none =>
      have hlt : i < l.length := by have := ltI_t.1 h; omega
      have hos := hsl.each _ (ix_mem hlt)
      have hrl := hos.refs
      have hrn : refNames (l.drop i) = (ix l i).refs.map (·.name) ++ refNames (l.drop (i + 1)) := by rw [drop_ix hlt]; rfl
      rw [hrn] at hall
      generalize hoi : ix l i = o at *
      rw [hrn, List.length_append, List.length_map] at hml
      simp [h]
      refine wpS_loop (ι := GState) (fun s => [(0, .row 0 g 5 0 l.length), (1, .list q 1 (libs.map libAV)), (2, .list r 2 (root.map DDef.av)), (8, missAV s.g s.ms), (9, .ptr 1 nx 0), (10, .bool s.tk.isSome), (11, .int .i64 i), (12, .int .i64 s.i)])
        (fun s => ⟨(g, .row 51 5 (l.map Deck.av)) :: (nx, .cells (deckOr s.tk)) :: missMem s.gj s.g s.ms, s.nx⟩) (fun s => o.refs.length - s.i)
        (fun s => s.i ≤ o.refs.length ∧ GOk root l libs S ((o.refs.drop s.i).map (·.name) ++ refNames (l.drop (i + 1))) s.ms s.tk ∧ s.ms.length + ((o.refs.length - s.i) + (refNames (l.drop (i + 1))).length) ≤ (refNames l).length) ⟨0, ms, none, gj, gm, ny⟩ ⟨Nat.zero_le _, hall, by simp only [Nat.sub_zero]; exact hml⟩ (Env.le_of (by simp)) (by simp) ?_
      clear hml
      have hmx := refs_max hsl
      intro ⟨k, ms, tk, gj, gm, ny⟩ ⟨hk, hka, hml⟩
      simp only at hk hka hml
      have hwk : IntKind.i64.wrap (k + 1) = k + 1 := wrap64 (by omega) (by omega)
      simp [h, idxM, Deck.av, hoi]
      refine br_guard_t rfl (fun h2 => ?_) (fun h2 => ?_)
      · cases tk with
        | none =>
          have hlk : k < o.refs.length := by have := ltI_t.1 h2; omega
          rw [drop_ix hlk, List.map_cons, List.cons_append] at hka
          have hka' : S = scanF root l libs ((ix o.refs k).name :: ((o.refs.drop (k + 1)).map (·.name) ++ refNames (l.drop (i + 1)))) ms := hka
          rw [scanF] at hka'
          generalize hnm : (ix o.refs k).name = nm at *
          simp [h, h2, idxM, Deck.av, DRef.av, hoi, hnm]
          refine xcall_p (call65 r root nm (by omega)) (by simp) ?_
          simp
          refine br_guard_f rfl (fun h3 => ?_) (fun h3 => ?_)
          · rw [if_pos (by rw [h3]; rfl)] at hka'
            simp [h3, hwk]
            exact ⟨⟨k + 1, ms, none, gj, gm, ny⟩, ⟨by simp only; omega, by show S = _; rw [← List.map_drop]; exact hka', by simp; omega⟩, by simp only; omega, Env.le_of (by simp), Mem.le_of rfl (by simp)⟩
          simp [h3]
          refine xcall_p (call66 false l hsl nm) (by simp) ?_
          simp
          refine br_cond rfl (fun h4 => ?_) (fun h4 => ?_)
          · rw [if_pos (by rw [h4]; simp)] at hka'
            simp [hwk]
            exact ⟨⟨k + 1, ms, none, gj, gm, ny⟩, ⟨by simp only; omega, by show S = _; rw [← List.map_drop]; exact hka', by simp; omega⟩, by simp only; omega, Env.le_of (by simp), Mem.le_of rfl (by simp)⟩
          rw [if_neg (by rw [h3, h4]; simp)] at hka'
          simp
          refine xcall_p (call67 false q l libs nm hsl hb) (by simp) ?_
          cases hf : foundF l libs nm with
          | some o' =>
            rw [hf] at hka'
            simp only at hka'
            simp [deckOr, hwk, List.take_of_length_le]
            exact ⟨⟨k + 1, ms, some o', gj, gm, ny⟩, ⟨by simp only; omega, hka', by simp only; omega⟩, by simp only; omega, Env.le_of (by simp), Mem.le_of rfl (by simp)⟩
          | none =>
            rw [hf] at hka'
            simp only at hka'
            cases ms with
            | nil =>
              simp [deckOr, hwk, appendA, List.range_succ, missAV, missMem]
              exact ⟨⟨k + 1, [nm], none, ny, ny + 1, ny + 1 + 1⟩, ⟨by simp only; omega, by show S = _; rw [← List.map_drop]; exact hka', by simp; omega⟩, by simp only; omega, Env.le_of (by simp [missAV]), Mem.le_of rfl (by simp [missMem])⟩
            | cons m ms =>
              have hmb : (ms.length + 1 + 1) * 16 ≤ 140737488355328 ∧ ms.length ≤ 9223372036854775805 := by simp only [List.length_cons] at hml; omega
              simp [deckOr, hwk, appendA, List.range_succ, missAV, missMem, hmb]
              exact ⟨⟨k + 1, m :: ms ++ [nm], none, gj, ny + 1, ny + 1 + 1⟩, ⟨by simp only; omega, by show S = _; rw [← List.map_drop]; exact hka', by simp at hml ⊢; omega⟩, by simp only; omega, Env.le_of (by simp [missAV]), Mem.le_of rfl (by simp [missMem])⟩
        | some o' =>
          have hka' : S = (ms, some o') := hka
          simp [h2, hw]
          exact ⟨⟨i + 1, ms, some o', gj, gm, ny⟩, ⟨by simp only; omega, hka', by simp only; omega⟩, by simp only; omega, Env.le_of (by simp), Mem.le_of rfl (by simp)⟩
      · have hkd : k = o.refs.length := by have := ltI_f.1 h2; omega
        simp [h2, hw]
        cases tk with
        | none =>
          have hka' : S = scanF root l libs ((o.refs.drop k).map (·.name) ++ refNames (l.drop (i + 1))) ms := hka
          rw [hkd, List.drop_length] at hka'
          exact ⟨⟨i + 1, ms, none, gj, gm, ny⟩, ⟨by simp only; omega, hka', by simp only; omega⟩, by simp only; omega, Env.le_of (by simp), Mem.le_of rfl (by simp)⟩
        | some o' =>
          have hka' : S = (ms, some o') := hka
          exact ⟨⟨i + 1, ms, some o', gj, gm, ny⟩, ⟨by simp only; omega, hka', by simp only; omega⟩, by simp only; omega, Env.le_of (by simp), Mem.le_of rfl (by simp)⟩
    | some o =>
      simp [h]
      have hSo : S = (ms, some o) := hall
      rw [hSo] at hg
      simp only at hg
      obtain ⟨nm, hfo⟩ := scan_found (hSd.trans hSo)
      have hal := away_less hfo
      have hc2 : (l.length + 1) * 104 ≤ 140737488355328 ∧ l.length + 1 ≤ 9223372036854775807 := ⟨by omega, by omega⟩
      have hos : o.Small := by
        obtain ⟨x, hx, ho⟩ := List.mem_flatten.1 hal.2
        exact (hb.each x hx).each o ho
      have hsl2 : SmallL (l ++ [o]) := ⟨by have := hal.1; simp; omega, fun y hy => by
        rcases List.mem_append.1 hy with hy | hy
        · exact hsl.each y hy
        · rw [List.mem_singleton.1 hy]; exact hos⟩
      have hl2 : (l ++ [o]).length + away libs (l ++ [o]) ≤ l0.length + libs.flatten.length := by have := hal.1; simp; omega
      simp [deckOr, deck_take, appendA, hc2, List.range_succ, List.take_of_length_le]
      exact ⟨n, l ++ [o], ⟨hg, by have := hal.1; omega, hsl2, hl2⟩, by omega, ny + 1, Env.le_of (by simp), ny + 1 + 1, Mem.le_of rfl (by simp)⟩
  · have hil : i = l.length := by have := ltI_f.1 h; omega
    cases tk with
    | none =>
      have hSn : S = (ms, none) := by
        have : S = scanF root l libs (refNames (l.drop i)) ms := hall
        rw [this, hil]; simp [refNames, scanF]
      rw [hSn] at hg
      simp only at hg
      subst hg
      cases ms with
      | nil => simp [h, cr37, missAV, missMem, textsAV, decksAV]
      | cons m ms =>
        simp [h, cr37, missAV, missMem, textsAV, decksAV]
    | some o =>
      simp [h]
      have hSo : S = (ms, some o) := hall
      rw [hSo] at hg
      simp only at hg
      obtain ⟨nm, hfo⟩ := scan_found (hSd.trans hSo)
      have hal := away_less hfo
      have hc2 : (l.length + 1) * 104 ≤ 140737488355328 ∧ l.length + 1 ≤ 9223372036854775807 := ⟨by omega, by omega⟩
      have hos : o.Small := by
        obtain ⟨x, hx, ho⟩ := List.mem_flatten.1 hal.2
        exact (hb.each x hx).each o ho
      have hsl2 : SmallL (l ++ [o]) := ⟨by have := hal.1; simp; omega, fun y hy => by
        rcases List.mem_append.1 hy with hy | hy
        · exact hsl.each y hy
        · rw [List.mem_singleton.1 hy]; exact hos⟩
      have hl2 : (l ++ [o]).length + away libs (l ++ [o]) ≤ l0.length + libs.flatten.length := by have := hal.1; simp; omega
      simp [deckOr, deck_take, appendA, hc2, List.range_succ, List.take_of_length_le]
      exact ⟨n, l ++ [o], ⟨hg, by have := hal.1; omega, hsl2, hl2⟩, by omega, ny + 1, Env.le_of (by simp), ny + 1 + 1, Mem.le_of rfl (by simp)⟩
end Go.Pm

/- LkC12: contracts: a number of four bytes. -/
namespace Go.Pm
open Go Go.Proofs
attribute [-simp] List.getElem?_map

/-- A number of four bytes, the highest first, as the law reads it. -/
def orF (a b : Int) : Int := IntKind.i64.wrap (BitVec.ofInt 64 a ||| BitVec.ofInt 64 b).toNat
def shF (s : ByteArray) (i k : Nat) : Int := IntKind.i64.wrap (((byteAt s i).toNat : Int) * 2 ^ k)
def numF (s : ByteArray) : Int := orF (orF (orF (shF s 0 24) (shF s 1 16)) (shF s 2 8)) (byteAt s 3).toNat

theorem shl_c (n : Int) (k : Nat) (hk : k < 64) : binA .shl (.int .i64 n) (.int .u64 k) = some (.int .i64 (IntKind.i64.wrap (n * 2 ^ k))) := by
  rw [binA_shl, if_neg (by omega), Int.toNat_natCast, Nat.min_eq_left (by show k ≤ 64; omega)]
theorem or_c (a b : Int) : binA .or (.int .i64 a) (.int .i64 b) = some (.int .i64 (orF a b)) := by rw [binA_or]; rfl
theorem wrap_byte (b : UInt8) : IntKind.i64.wrap (b.toNat : Int) = b.toNat := by
  have := b.toNat_lt
  exact wrap64 (by omega) (by omega)

theorem call16 (s : ByteArray) (hs : 4 ≤ s.size) : PCalls Try.prog 16 [.str s] fun out => out = .ret (.int .i64 (numF s)) := by
  refine ok16.pcalls (by simp) ?_
  have h0 : s[0]? = some (byteAt s 0) := idxS (ltN (by omega))
  have h1 : s[1]? = some (byteAt s 1) := idxS (ltN (by omega))
  have h2 : s[2]? = some (byteAt s 2) := idxS (ltN (by omega))
  have h3 : s[3]? = some (byteAt s 3) := idxS (ltN (by omega))
  have e1 := fun n : Int => shl_c n 24 (by omega)
  have e2 := fun n : Int => shl_c n 16 (by omega)
  have e3 := fun n : Int => shl_c n 8 (by omega)
  rw [show ((24 : Nat) : Int) = 24 from rfl] at e1
  rw [show ((16 : Nat) : Int) = 16 from rfl] at e2
  rw [show ((8 : Nat) : Int) = 8 from rfl] at e3
  have f1 : IntKind.i64.wrap (((byteAt s 0).toNat : Int) * 2 ^ 24) = shF s 0 24 := rfl
  have f2 : IntKind.i64.wrap (((byteAt s 1).toNat : Int) * 2 ^ 16) = shF s 1 16 := rfl
  have f3 : IntKind.i64.wrap (((byteAt s 2).toNat : Int) * 2 ^ 8) = shF s 2 8 := rfl
  unfold numF
  rw [← f1, ← f2, ← f3]
  generalize (2 : Int) ^ 24 = a at *
  generalize (2 : Int) ^ 16 = b at *
  generalize (2 : Int) ^ 8 = c at *
  simp [c16, cr16, -binA_shl, -binA_or, h0, h1, h2, h3, e1, e2, e3, or_c, wrap_byte]
end Go.Pm
