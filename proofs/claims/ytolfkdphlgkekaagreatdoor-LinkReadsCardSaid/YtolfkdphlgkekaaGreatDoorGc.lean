/- ZkR10: contracts: a line, read by the reference. -/
import Derived.Test.YtolfkdphlgkekaaGreatDoorGb
import Derived.Test.YtolfkdphlgkekaaGreatDoorGa
import Derived.Test.YtolfkdphlgkekaaGreatDoorPmR
namespace Go.Pm
open Go Go.Proofs
attribute [-simp] List.getElem?_map

theorem eqS_dec (a b : ByteArray) : eqS a b = decide (a = b) := by
  by_cases h : a = b
  · simp [h, eqS_t.2]
  · have : eqS a b ≠ true := fun e => h (eqS_t.1 e)
    simp [h, this]
theorem eqW : eqS ⟨#[79, 66, 74, 69, 67, 84]⟩ ⟨#[79, 66, 74, 69, 67, 84]⟩ = true ∧ eqS ⟨#[79, 66, 74, 69, 67, 84]⟩ ⟨#[67, 79, 68, 69]⟩ = false ∧ eqS ⟨#[79, 66, 74, 69, 67, 84]⟩ ⟨#[68, 69, 70]⟩ = false ∧ eqS ⟨#[79, 66, 74, 69, 67, 84]⟩ ⟨#[82, 69, 70]⟩ = false ∧ eqS ⟨#[79, 66, 74, 69, 67, 84]⟩ ⟨#[76, 73, 78, 69]⟩ = false ∧ eqS ⟨#[79, 66, 74, 69, 67, 84]⟩ ⟨#[69, 78, 68]⟩ = false ∧ eqS ⟨#[67, 79, 68, 69]⟩ ⟨#[79, 66, 74, 69, 67, 84]⟩ = false ∧ eqS ⟨#[67, 79, 68, 69]⟩ ⟨#[67, 79, 68, 69]⟩ = true ∧ eqS ⟨#[67, 79, 68, 69]⟩ ⟨#[68, 69, 70]⟩ = false ∧ eqS ⟨#[67, 79, 68, 69]⟩ ⟨#[82, 69, 70]⟩ = false ∧ eqS ⟨#[67, 79, 68, 69]⟩ ⟨#[76, 73, 78, 69]⟩ = false ∧ eqS ⟨#[67, 79, 68, 69]⟩ ⟨#[69, 78, 68]⟩ = false ∧ eqS ⟨#[68, 69, 70]⟩ ⟨#[79, 66, 74, 69, 67, 84]⟩ = false ∧ eqS ⟨#[68, 69, 70]⟩ ⟨#[67, 79, 68, 69]⟩ = false ∧ eqS ⟨#[68, 69, 70]⟩ ⟨#[68, 69, 70]⟩ = true ∧ eqS ⟨#[68, 69, 70]⟩ ⟨#[82, 69, 70]⟩ = false ∧ eqS ⟨#[68, 69, 70]⟩ ⟨#[76, 73, 78, 69]⟩ = false ∧ eqS ⟨#[68, 69, 70]⟩ ⟨#[69, 78, 68]⟩ = false ∧ eqS ⟨#[82, 69, 70]⟩ ⟨#[79, 66, 74, 69, 67, 84]⟩ = false ∧ eqS ⟨#[82, 69, 70]⟩ ⟨#[67, 79, 68, 69]⟩ = false ∧ eqS ⟨#[82, 69, 70]⟩ ⟨#[68, 69, 70]⟩ = false ∧ eqS ⟨#[82, 69, 70]⟩ ⟨#[82, 69, 70]⟩ = true ∧ eqS ⟨#[82, 69, 70]⟩ ⟨#[76, 73, 78, 69]⟩ = false ∧ eqS ⟨#[82, 69, 70]⟩ ⟨#[69, 78, 68]⟩ = false ∧ eqS ⟨#[76, 73, 78, 69]⟩ ⟨#[79, 66, 74, 69, 67, 84]⟩ = false ∧ eqS ⟨#[76, 73, 78, 69]⟩ ⟨#[67, 79, 68, 69]⟩ = false ∧ eqS ⟨#[76, 73, 78, 69]⟩ ⟨#[68, 69, 70]⟩ = false ∧ eqS ⟨#[76, 73, 78, 69]⟩ ⟨#[82, 69, 70]⟩ = false ∧ eqS ⟨#[76, 73, 78, 69]⟩ ⟨#[76, 73, 78, 69]⟩ = true ∧ eqS ⟨#[76, 73, 78, 69]⟩ ⟨#[69, 78, 68]⟩ = false ∧ eqS ⟨#[69, 78, 68]⟩ ⟨#[79, 66, 74, 69, 67, 84]⟩ = false ∧ eqS ⟨#[69, 78, 68]⟩ ⟨#[67, 79, 68, 69]⟩ = false ∧ eqS ⟨#[69, 78, 68]⟩ ⟨#[68, 69, 70]⟩ = false ∧ eqS ⟨#[69, 78, 68]⟩ ⟨#[82, 69, 70]⟩ = false ∧ eqS ⟨#[69, 78, 68]⟩ ⟨#[76, 73, 78, 69]⟩ = false ∧ eqS ⟨#[69, 78, 68]⟩ ⟨#[69, 78, 68]⟩ = true := by
  simp only [eqS_dec]; decide
theorem kOfW : kOf ⟨#[79, 66, 74, 69, 67, 84]⟩ = 0 ∧ kOf ⟨#[67, 79, 68, 69]⟩ = 1 ∧ kOf ⟨#[68, 69, 70]⟩ = 2 ∧ kOf ⟨#[82, 69, 70]⟩ = 3 ∧ kOf ⟨#[76, 73, 78, 69]⟩ = 4 ∧ kOf ⟨#[69, 78, 68]⟩ = 5 := by
  unfold kOf wordsL; simp only [eqS_dec]; decide

/-- The reference's state: the object, the part, whether the last CODE line was full. -/
structure QSt where
  o : Deck
  part : Nat
  full : Bool

def okPairF (s : ByteArray) (k : Nat) : Bool := !ltI (digitF (byteAt s (2 * k))) 0 && !ltI (digitF (byteAt s (2 * k + 1))) 0
def hexByte (s : ByteArray) (k : Nat) : UInt8 := UInt8.ofNat (16 * digitF (byteAt s (2 * k)) + digitF (byteAt s (2 * k + 1))).toNat
def hexT (s : ByteArray) : Option ByteArray := if (List.range (s.size / 2)).all (okPairF s) then some (mkB ((List.range (s.size / 2)).map (hexByte s))) else none

def lineK (S : QSt) (k : Nat) (w : List ByteArray) : Option QSt := match k with
  | 0 => if eqI w.length 2 && (eqI S.part 0 && namedF (ix w 1)) then some ⟨{ S.o with name := ix w 1 }, 1, true⟩ else none
  | 1 => if eqI S.part 0 then none else if eqI w.length 2 && (leI S.part 2 && S.full) then
      (if eqI (((ix w 1).size : Int).tmod 2) 0 && leI (ix w 1).size 64 then (hexT (ix w 1)).map fun b => ⟨{ S.o with code := S.o.code ++ b }, 2, eqI (ix w 1).size 64⟩ else none) else none
  | 2 => if eqI S.part 0 then none else if eqI w.length 3 && (leI S.part 3 && namedF (ix w 1)) then (numRL (ix w 2).data.toList).map fun n => ⟨{ S.o with defs := S.o.defs ++ [⟨ix w 1, n⟩] }, 3, S.full⟩ else none
  | 3 => if eqI S.part 0 then none else if eqI w.length 4 && (leI S.part 4 && namedF (ix w 2)) then (numRL (ix w 1).data.toList).bind fun a => (numRL (ix w 3).data.toList).map fun b => ⟨{ S.o with refs := S.o.refs ++ [⟨a, ix w 2, b⟩] }, 4, S.full⟩ else none
  | 4 => if eqI S.part 0 then none else if eqI w.length 3 && leI S.part 5 then (numRL (ix w 1).data.toList).bind fun a => (numRL (ix w 2).data.toList).map fun b => ⟨{ S.o with lines := S.o.lines ++ [⟨a, b⟩] }, 5, S.full⟩ else none
  | 5 => if eqI S.part 0 then none else if eqI w.length 1 then some ⟨S.o, 6, S.full⟩ else none
  | _ => none
def lineQ (S : QSt) (s : ByteArray) : Option QSt := match wordsF s with
  | none => none
  | some w => if eqI S.part 6 then none else lineK S (kOf (ix w 0)) w

/-- The memory while the reference reads. -/
def memQ (S : QSt) (G : Nat × Nat × Nat) (nx : Nat) : Mem :=
  ⟨[(0, .cells [.str ⟨#[]⟩, .str ⟨#[]⟩, .nilS, .nilS, .nilS]),
    (1, .cells [.str S.o.name, .str S.o.code, .row 2 G.1 2 0 S.o.defs.length, .row 3 G.2.1 3 0 S.o.refs.length, .row 4 G.2.2 2 0 S.o.lines.length, .int .i64 S.part, .bool S.full]),
    (G.1, .row 65 2 (S.o.defs.map DDef.av)), (G.2.1, .row 77 3 (S.o.refs.map DRef.av)), (G.2.2, .row 79 2 (S.o.lines.map DLine.av))], nx⟩
def R28 (S : QSt) (s : ByteArray) (out : AOut) (m' : Mem) : Prop := ∃ S' G' nx', Mem.le (memQ S' G' nx') m' ∧ ((out = .ret (.bool true) ∧ lineQ S s = some S') ∨ (out = .ret (.bool false) ∧ lineQ S s = none))

theorem splW_size : ∀ (l acc x : List UInt8), x ∈ splW acc l → x.length ≤ acc.length + l.length
  | [], acc, x, h => by simp [splW] at h; subst h; simp
  | b :: t, acc, x, h => by
    unfold splW at h
    split at h
    · rcases List.mem_cons.1 h with rfl | h
      · simp
      · have := splW_size t [] x h
        simp at this ⊢; omega
    · have := splW_size t _ x h
      simp at this ⊢; omega
theorem words_size {s : ByteArray} {w : List ByteArray} (h : wordsF s = some w) : (∀ x ∈ w, x.size ≤ s.size) ∧ w ≠ [] ∧ ∀ x ∈ w, x ≠ ⟨#[]⟩ := by
  unfold wordsF at h
  split at h
  · rename_i hall
    injection h with h; subst h
    refine ⟨fun x hx => ?_, fun e => ?_, fun x hx => ?_⟩
    · obtain ⟨y, hy, rfl⟩ := List.mem_map.1 hx
      have := splW_size _ _ _ hy
      rw [mkB_size]
      rw [← len_data s]; simpa using this
    · cases hs : splW [] s.data.toList with
      | nil =>
        have : ∀ (l acc : List UInt8), splW acc l ≠ [] := by
          intro l
          induction l with
          | nil => intro acc; simp [splW]
          | cons b t ih => intro acc; unfold splW; split
                           · simp
                           · exact ih _
        exact this _ _ hs
      | cons a l => rw [hs] at e; cases e
    · obtain ⟨y, hy, rfl⟩ := List.mem_map.1 hx
      have := List.all_eq_true.1 hall y hy
      intro e
      have e2 := congrArg (fun z : ByteArray => z.data.toList) e
      simp at e2 this
      exact this e2
  · cases h

structure QSt.Fit (S : QSt) : Prop where
  part : S.part ≤ 6
  code : S.o.code.size ≤ 400000
  defs : S.o.defs.length ≤ 400000
  refs : S.o.refs.length ≤ 400000
  lines : S.o.lines.length ≤ 400000

/-- A line of CODE, DEF, REF or LINE, as long as it must be. -/
def Kind (s : ByteArray) : Prop := (∃ w1, wordsF s = some [⟨#[67, 79, 68, 69]⟩, w1]) ∨ (∃ w1 w2, wordsF s = some [⟨#[68, 69, 70]⟩, w1, w2]) ∨ (∃ w1 w2 w3, wordsF s = some [⟨#[82, 69, 70]⟩, w1, w2, w3]) ∨ ∃ w1 w2, wordsF s = some [⟨#[76, 73, 78, 69]⟩, w1, w2]
end Go.Pm

/- ZkR11: contracts: a line, read by the reference: those of none or of two kinds. -/
namespace Go.Pm
open Go Go.Proofs
attribute [-simp] List.getElem?_map

set_option maxHeartbeats 8000000 in
theorem call28_no {S : QSt} {G : Nat × Nat × Nat} {nx : Nat} {s : ByteArray} (hs : s.size ≤ 200000) (hS : S.Fit) (hno : eqI S.part 6 = false → eqI S.part 0 = false → ¬ Kind s) : ACalls Zk.pg 28 [.ptr 1 1 0, .str s] (memQ S G nx) (R28 S s) := by
  refine ok28.acalls (by simp) ?_
  obtain ⟨⟨nm, code, defs, refs, lines⟩, part, full⟩ := S
  obtain ⟨gd, gr, gl⟩ := G
  have no : lineQ ⟨⟨nm, code, defs, refs, lines⟩, part, full⟩ s = none → ∀ S' G' nx' m', Mem.le (memQ S' G' nx') m' → R28 ⟨⟨nm, code, defs, refs, lines⟩, part, full⟩ s (.ret (.bool false)) m' := fun h S' G' nx' m' hm => ⟨S', G', nx', hm, .inr ⟨rfl, h⟩⟩
  have yes : ∀ S', lineQ ⟨⟨nm, code, defs, refs, lines⟩, part, full⟩ s = some S' → ∀ G' nx' m', Mem.le (memQ S' G' nx') m' → R28 ⟨⟨nm, code, defs, refs, lines⟩, part, full⟩ s (.ret (.bool true)) m' := fun S' h G' nx' m' hm => ⟨S', G', nx', hm, .inl ⟨rfl, h⟩⟩
  simp [c28, memQ]
  refine xcall_p (call81 s (by omega)) (by simp) ?_
  cases hw : wordsF s with
  | none =>
    have hv : wordsAV s = .nilS := by unfold wordsAV; rw [hw]
    have q0 : eqI 0 0 = true := rfl
    rw [hv]
    simp [q0, postA_ret, cr28]
    exact no (by unfold lineQ; rw [hw]) ⟨⟨nm, code, defs, refs, lines⟩, part, full⟩ (gd, gr, gl) nx _ (Mem.le_of rfl (by simp [memQ]))
  | some w =>
    obtain ⟨hsz, hne, hem⟩ := words_size hw
    have hv : wordsAV s = .list true 1 (w.map fun x => [.str x]) := by unfold wordsAV; rw [hw]
    have hlq : ∀ S, lineQ S s = if eqI S.part 6 then none else lineK S (kOf (ix w 0)) w := fun S => by unfold lineQ; rw [hw]
    obtain ⟨w0, ws, rfl⟩ : ∃ w0 ws, w = w0 :: ws := by cases w with
      | nil => exact absurd rfl hne
      | cons a b => exact ⟨a, b, rfl⟩
    have hix : ix (w0 :: ws) 0 = w0 := rfl
    rw [hix] at hlq
    have q0 : eqI ((ws.length : Int) + 1) 0 = false := by simp [eqI]; omega
    rw [hv]
    cases h6 : eqI (part : Int) 6 with
    | true =>
      simp [q0, nilCheckA, h6, postA_ret, cr28]
      exact no (by rw [hlq]; simp [h6]) ⟨⟨nm, code, defs, refs, lines⟩, part, full⟩ (gd, gr, gl) nx _ (Mem.le_of rfl (by simp [memQ]))
    | false =>
    have nol : lineK ⟨⟨nm, code, defs, refs, lines⟩, part, full⟩ (kOf w0) (w0 :: ws) = none → ∀ m', Mem.le (memQ ⟨⟨nm, code, defs, refs, lines⟩, part, full⟩ (gd, gr, gl) nx) m' → R28 ⟨⟨nm, code, defs, refs, lines⟩, part, full⟩ s (.ret (.bool false)) m' := fun h m' hm => no (by rw [hlq]; simp [h6, h]) _ _ _ _ hm
    have yesl : ∀ S', lineK ⟨⟨nm, code, defs, refs, lines⟩, part, full⟩ (kOf w0) (w0 :: ws) = some S' → ∀ G' nx' m', Mem.le (memQ S' G' nx') m' → R28 ⟨⟨nm, code, defs, refs, lines⟩, part, full⟩ s (.ret (.bool true)) m' := fun S' h => yes S' (by rw [hlq]; simp [h6, h])
    clear hlq hv no yes
    have hsz' : ∀ x ∈ ws, x.size ≤ 200000 := fun x hx => by have := hsz x (List.mem_cons_of_mem _ hx); omega
    simp [q0]
    by_cases e0 : w0 = ⟨#[79, 66, 74, 69, 67, 84]⟩
    · subst e0
      cases h0 : eqI (part : Int) 0 with
      | false =>
        cases hl : eqI ((ws.length : Int) + 1) 2 with
        | false =>
          simp [nilCheckA, h6, eqW, h0, hl, postA_ret, cr28]
          exact nol (by simp [lineK, kOfW, h0, hl]) _ (Mem.le_of rfl (by simp [memQ]))
        | true =>
          simp [nilCheckA, h6, eqW, h0, hl, postA_ret, cr28]
          exact nol (by simp [lineK, kOfW, h0, hl]) _ (Mem.le_of rfl (by simp [memQ]))
      | true =>
        cases hl : eqI ((ws.length : Int) + 1) 2 with
        | false =>
          simp [nilCheckA, h6, eqW, h0, hl, postA_ret, cr28]
          exact nol (by simp [lineK, kOfW, h0, hl]) _ (Mem.le_of rfl (by simp [memQ]))
        | true =>
          obtain ⟨w1, rfl⟩ : ∃ w1, ws = [w1] := List.length_eq_one_iff.1 (by have := eqI_t.1 hl; omega)
          have hw1 := hsz' w1 (by simp)
          have q2 : eqI 2 2 = true := rfl
          simp [nilCheckA, h6, eqW, h0, q2]
          refine xcall_p (call82 w1 (by omega)) rfl ?_
          cases hn : namedF w1 with
          | false =>
            simp [nilCheckA, h6, eqW, h0, hn, q2, postA_ret, cr28]
            exact nol (by simp [lineK, kOfW, h0, hn, q2, ix]) _ (Mem.le_of rfl (by simp [memQ]))
          | true =>
            simp [nilCheckA, postA_ret, cr28]
            exact yesl ⟨⟨w1, code, defs, refs, lines⟩, 1, true⟩ (by simp [lineK, kOfW, h0, hn, q2, ix]) (gd, gr, gl) nx _ (Mem.le_of rfl (by simp [memQ]))
    by_cases e1 : w0 = ⟨#[67, 79, 68, 69]⟩
    · subst e1
      cases h0 : eqI (part : Int) 0 with
      | true =>
        simp [nilCheckA, h6, eqW, h0, postA_ret, cr28]
        exact nol (by simp [lineK, kOfW, h0]) _ (Mem.le_of rfl (by simp [memQ]))
      | false =>
        cases hl : eqI ((ws.length : Int) + 1) 2 with
        | false =>
          simp [nilCheckA, h6, eqW, h0, hl, postA_ret, cr28]
          exact nol (by simp [lineK, kOfW, h0, hl]) _ (Mem.le_of rfl (by simp [memQ]))
        | true =>
          obtain ⟨w1, rfl⟩ : ∃ w1, ws = [w1] := List.length_eq_one_iff.1 (by have := eqI_t.1 hl; omega)
          exact (hno h6 h0 (.inl ⟨w1, hw⟩)).elim
    by_cases e2 : w0 = ⟨#[68, 69, 70]⟩
    · subst e2
      cases h0 : eqI (part : Int) 0 with
      | true =>
        simp [nilCheckA, h6, eqW, h0, postA_ret, cr28]
        exact nol (by simp [lineK, kOfW, h0]) _ (Mem.le_of rfl (by simp [memQ]))
      | false =>
        cases hl : eqI ((ws.length : Int) + 1) 3 with
        | false =>
          simp [nilCheckA, h6, eqW, h0, hl, postA_ret, cr28]
          exact nol (by simp [lineK, kOfW, h0, hl]) _ (Mem.le_of rfl (by simp [memQ]))
        | true =>
          obtain ⟨w1, w2, rfl⟩ : ∃ w1 w2, ws = [w1, w2] := len2 (by have := eqI_t.1 hl; omega)
          exact (hno h6 h0 (.inr (.inl ⟨w1, w2, hw⟩))).elim
    by_cases e3 : w0 = ⟨#[82, 69, 70]⟩
    · subst e3
      cases h0 : eqI (part : Int) 0 with
      | true =>
        simp [nilCheckA, h6, eqW, h0, postA_ret, cr28]
        exact nol (by simp [lineK, kOfW, h0]) _ (Mem.le_of rfl (by simp [memQ]))
      | false =>
        cases hl : eqI ((ws.length : Int) + 1) 4 with
        | false =>
          simp [nilCheckA, h6, eqW, h0, hl, postA_ret, cr28]
          exact nol (by simp [lineK, kOfW, h0, hl]) _ (Mem.le_of rfl (by simp [memQ]))
        | true =>
          obtain ⟨w1, w2, w3, rfl⟩ : ∃ w1 w2 w3, ws = [w1, w2, w3] := len3 (by have := eqI_t.1 hl; omega)
          exact (hno h6 h0 (.inr (.inr (.inl ⟨w1, w2, w3, hw⟩)))).elim
    by_cases e4 : w0 = ⟨#[76, 73, 78, 69]⟩
    · subst e4
      cases h0 : eqI (part : Int) 0 with
      | true =>
        simp [nilCheckA, h6, eqW, h0, postA_ret, cr28]
        exact nol (by simp [lineK, kOfW, h0]) _ (Mem.le_of rfl (by simp [memQ]))
      | false =>
        cases hl : eqI ((ws.length : Int) + 1) 3 with
        | false =>
          simp [nilCheckA, h6, eqW, h0, hl, postA_ret, cr28]
          exact nol (by simp [lineK, kOfW, h0, hl]) _ (Mem.le_of rfl (by simp [memQ]))
        | true =>
          obtain ⟨w1, w2, rfl⟩ : ∃ w1 w2, ws = [w1, w2] := len2 (by have := eqI_t.1 hl; omega)
          exact (hno h6 h0 (.inr (.inr (.inr ⟨w1, w2, hw⟩)))).elim
    by_cases e5 : w0 = ⟨#[69, 78, 68]⟩
    · subst e5
      cases h0 : eqI (part : Int) 0 with
      | true =>
        simp [nilCheckA, h6, eqW, h0, postA_ret, cr28]
        exact nol (by simp [lineK, kOfW, h0]) _ (Mem.le_of rfl (by simp [memQ]))
      | false =>
        cases hl : eqI ((ws.length : Int) + 1) 1 with
        | false =>
          simp [nilCheckA, h6, eqW, h0, hl, postA_ret, cr28]
          exact nol (by simp [lineK, kOfW, h0, hl]) _ (Mem.le_of rfl (by simp [memQ]))
        | true =>
          obtain rfl : ws = [] := List.eq_nil_of_length_eq_zero (by have := eqI_t.1 hl; omega)
          have q1 : eqI 1 1 = true := rfl
          simp [nilCheckA, h6, eqW, h0, q1, postA_ret, cr28]
          exact yesl ⟨⟨nm, code, defs, refs, lines⟩, 6, full⟩ (by simp [lineK, kOfW, h0, q1]) (gd, gr, gl) nx _ (Mem.le_of rfl (by simp [memQ]))
    have k6 : kOf w0 = 6 := by
      unfold kOf wordsL
      have f : ∀ x, w0 ≠ x → eqS x w0 = false := fun x h => by rw [eqS_dec]; simp [Ne.symm h]
      simp [List.findIdx_cons, f _ e0, f _ e1, f _ e2, f _ e3, f _ e4, f _ e5]
    have f : ∀ x, w0 ≠ x → eqS w0 x = false := fun x h => by rw [eqS_dec]; simp [h]
    have g0 := f _ e0; have g1 := f _ e1; have g2 := f _ e2; have g3 := f _ e3; have g4 := f _ e4; have g5 := f _ e5
    cases h0 : eqI (part : Int) 0 with
    | true =>
      simp [nilCheckA, h6, g0, g1, g2, g3, g4, g5, h0, postA_ret, cr28]
      exact nol (by simp [lineK, k6]) _ (Mem.le_of rfl (by simp [memQ]))
    | false =>
      simp [nilCheckA, h6, g0, g1, g2, g3, g4, g5, h0, postA_ret, cr28]
      exact nol (by simp [lineK, k6]) _ (Mem.le_of rfl (by simp [memQ]))
end Go.Pm

/- ZkR12: contracts: a line, read by the reference: DEF, REF, LINE. -/
namespace Go.Pm
open Go Go.Proofs
attribute [-simp] List.getElem?_map

theorem qq : eqI 2 2 = true ∧ eqI 3 3 = true ∧ eqI 4 4 = true ∧ eqI 3 0 = false ∧ eqI 4 0 = false ∧ eqI 2 0 = false ∧ eqI 3 2 = false ∧ eqI 4 2 = false ∧ eqI 4 3 = false ∧ eqI 2 3 = false := by decide

set_option maxHeartbeats 4000000 in
theorem call28_def {S : QSt} {G : Nat × Nat × Nat} {nx : Nat} {s w1 w2 : ByteArray} (hs : s.size ≤ 200000) (hS : S.Fit) (h6 : eqI S.part 6 = false) (h0 : eqI S.part 0 = false) (hw : wordsF s = some [⟨#[68, 69, 70]⟩, w1, w2]) : ACalls Zk.pg 28 [.ptr 1 1 0, .str s] (memQ S G nx) (R28 S s) := by
  refine ok28.acalls (by simp) ?_
  obtain ⟨hsz, _, _⟩ := words_size hw
  have hw1 : w1.size ≤ 200000 := by have := hsz w1 (by simp); omega
  have hw2 : w2.size ≤ 200000 := by have := hsz w2 (by simp); omega
  have hv : wordsAV s = .list true 1 ([⟨#[68, 69, 70]⟩, w1, w2].map fun x => [.str x]) := by unfold wordsAV; rw [hw]
  obtain ⟨⟨nm, code, defs, refs, lines⟩, part, full⟩ := S
  obtain ⟨gd, gr, gl⟩ := G
  simp only at h6 h0
  have hlq : lineQ ⟨⟨nm, code, defs, refs, lines⟩, part, full⟩ s = if leI part 3 && namedF w1 then (numRL w2.data.toList).map fun n => ⟨⟨nm, code, defs ++ [⟨w1, n⟩], refs, lines⟩, 3, full⟩ else none := by
    unfold lineQ
    rw [hw]
    simp [h6, ix, lineK, kOfW, h0, qq]
  have no : lineQ ⟨⟨nm, code, defs, refs, lines⟩, part, full⟩ s = none → ∀ S' G' nx' m', Mem.le (memQ S' G' nx') m' → R28 ⟨⟨nm, code, defs, refs, lines⟩, part, full⟩ s (.ret (.bool false)) m' := fun h S' G' nx' m' hm => ⟨S', G', nx', hm, .inr ⟨rfl, h⟩⟩
  have yes : ∀ S', lineQ ⟨⟨nm, code, defs, refs, lines⟩, part, full⟩ s = some S' → ∀ G' nx' m', Mem.le (memQ S' G' nx') m' → R28 ⟨⟨nm, code, defs, refs, lines⟩, part, full⟩ s (.ret (.bool true)) m' := fun S' h G' nx' m' hm => ⟨S', G', nx', hm, .inl ⟨rfl, h⟩⟩
  have hdl := hS.defs
  simp only at hdl
  have hd1 : (defs.length + 1) * 24 ≤ 140737488355328 := by omega
  have hd2 : defs.length + 1 ≤ 9223372036854775807 := by omega
  simp [c28, memQ]
  refine xcall_p (call81 s (by omega)) (by simp) ?_
  rw [hv]
  simp [nilCheckA, h6, eqW, h0, qq]
  refine br_guard_t rfl (fun h3 => ?_) (fun h3 => ?_)
  case refine_2 =>
    simp [nilCheckA, h3, eqW, qq, postA_ret, cr28]
    exact no (by rw [hlq]; simp [h3]) ⟨⟨nm, code, defs, refs, lines⟩, part, full⟩ (gd, gr, gl) nx _ (Mem.le_of rfl (by simp [memQ]))
  simp [h3]
  refine xcall_p (call82 w1 (by omega)) rfl ?_
  simp
  refine br_cond rfl (fun h4 => ?_) (fun h4 => ?_)
  case refine_2 =>
    simp [nilCheckA, h3, eqW, qq, postA_ret, cr28]
    exact no (by rw [hlq]; simp [h4]) ⟨⟨nm, code, defs, refs, lines⟩, part, full⟩ (gd, gr, gl) nx _ (Mem.le_of rfl (by simp [memQ]))
  simp
  refine xcall_p (call84 w2 (by omega)) rfl ?_
  cases hn : numRL w2.data.toList with
  | none =>
    have hv2 : numRAV w2 = .tuple [.int .i64 0, .bool false] := by unfold numRAV; rw [hn]
    simp [hv2, nilCheckA, appendA, hd1, hd2, postA_ret, cr28]
    exact no (by rw [hlq]; simp [h3, h4, hn]) ⟨⟨nm, code, defs ++ [⟨w1, 0⟩], refs, lines⟩, 3, full⟩ (nx + 1, gr, gl) (nx + 2) _ (Mem.le_of rfl (by simp [memQ, DDef.av]))
  | some b =>
    have hv2 : numRAV w2 = .tuple [.int .i64 b, .bool true] := by unfold numRAV; rw [hn]
    simp [hv2, nilCheckA, appendA, hd1, hd2, postA_ret, cr28]
    exact yes ⟨⟨nm, code, defs ++ [⟨w1, b⟩], refs, lines⟩, 3, full⟩ (by rw [hlq]; simp [h3, h4, hn]) (nx + 1, gr, gl) (nx + 2) _ (Mem.le_of rfl (by simp [memQ, DDef.av]))
end Go.Pm

/- ZkR13: contracts: a line, read by the reference: REF. -/
namespace Go.Pm
open Go Go.Proofs
attribute [-simp] List.getElem?_map

set_option maxHeartbeats 4000000 in
theorem call28_ref {S : QSt} {G : Nat × Nat × Nat} {nx : Nat} {s w1 w2 w3 : ByteArray} (hs : s.size ≤ 200000) (hS : S.Fit) (h6 : eqI S.part 6 = false) (h0 : eqI S.part 0 = false) (hw : wordsF s = some [⟨#[82, 69, 70]⟩, w1, w2, w3]) : ACalls Zk.pg 28 [.ptr 1 1 0, .str s] (memQ S G nx) (R28 S s) := by
  refine ok28.acalls (by simp) ?_
  obtain ⟨hsz, _, _⟩ := words_size hw
  have hw1 : w1.size ≤ 200000 := by have := hsz w1 (by simp); omega
  have hw2 : w2.size ≤ 200000 := by have := hsz w2 (by simp); omega
  have hw3 : w3.size ≤ 200000 := by have := hsz w3 (by simp); omega
  have hv : wordsAV s = .list true 1 ([⟨#[82, 69, 70]⟩, w1, w2, w3].map fun x => [.str x]) := by unfold wordsAV; rw [hw]
  obtain ⟨⟨nm, code, defs, refs, lines⟩, part, full⟩ := S
  obtain ⟨gd, gr, gl⟩ := G
  simp only at h6 h0
  have hlq : lineQ ⟨⟨nm, code, defs, refs, lines⟩, part, full⟩ s = if leI part 4 && namedF w2 then (numRL w1.data.toList).bind fun a => (numRL w3.data.toList).map fun b => ⟨⟨nm, code, defs, refs ++ [⟨a, w2, b⟩], lines⟩, 4, full⟩ else none := by
    unfold lineQ
    rw [hw]
    simp [h6, ix, lineK, kOfW, h0, qq]
  have no : lineQ ⟨⟨nm, code, defs, refs, lines⟩, part, full⟩ s = none → ∀ S' G' nx' m', Mem.le (memQ S' G' nx') m' → R28 ⟨⟨nm, code, defs, refs, lines⟩, part, full⟩ s (.ret (.bool false)) m' := fun h S' G' nx' m' hm => ⟨S', G', nx', hm, .inr ⟨rfl, h⟩⟩
  have yes : ∀ S', lineQ ⟨⟨nm, code, defs, refs, lines⟩, part, full⟩ s = some S' → ∀ G' nx' m', Mem.le (memQ S' G' nx') m' → R28 ⟨⟨nm, code, defs, refs, lines⟩, part, full⟩ s (.ret (.bool true)) m' := fun S' h G' nx' m' hm => ⟨S', G', nx', hm, .inl ⟨rfl, h⟩⟩
  have hdl := hS.refs
  simp only at hdl
  have hd1 : (refs.length + 1) * 32 ≤ 140737488355328 := by omega
  have hd2 : refs.length + 1 ≤ 9223372036854775807 := by omega
  simp [c28, memQ]
  refine xcall_p (call81 s (by omega)) (by simp) ?_
  rw [hv]
  simp [nilCheckA, h6, eqW, h0, qq]
  refine br_guard_t rfl (fun h3 => ?_) (fun h3 => ?_)
  case refine_2 =>
    simp [nilCheckA, h3, eqW, qq, postA_ret, cr28]
    exact no (by rw [hlq]; simp [h3]) ⟨⟨nm, code, defs, refs, lines⟩, part, full⟩ (gd, gr, gl) nx _ (Mem.le_of rfl (by simp [memQ]))
  simp [h3]
  refine xcall_p (call82 w2 (by omega)) rfl ?_
  simp
  refine br_cond rfl (fun h4 => ?_) (fun h4 => ?_)
  case refine_2 =>
    simp [nilCheckA, h3, eqW, qq, postA_ret, cr28]
    exact no (by rw [hlq]; simp [h4]) ⟨⟨nm, code, defs, refs, lines⟩, part, full⟩ (gd, gr, gl) nx _ (Mem.le_of rfl (by simp [memQ]))
  simp
  refine xcall_p (call84 w1 (by omega)) rfl ?_
  cases ha : numRL w1.data.toList with
  | none =>
    have hva : numRAV w1 = .tuple [.int .i64 0, .bool false] := by unfold numRAV; rw [ha]
    simp [hva]
    refine xcall_p (call84 w3 (by omega)) rfl ?_
    cases hb : numRL w3.data.toList with
    | none =>
      have hvb : numRAV w3 = .tuple [.int .i64 0, .bool false] := by unfold numRAV; rw [hb]
      simp [hvb, nilCheckA, appendA, hd1, hd2, postA_ret, cr28]
      exact no (by rw [hlq]; simp [h3, h4, ha, hb]) ⟨⟨nm, code, defs, refs ++ [⟨0, w2, 0⟩], lines⟩, 4, full⟩ (gd, nx + 1, gl) (nx + 2) _ (Mem.le_of rfl (by simp [memQ, DRef.av]))
    | some b =>
      have hvb : numRAV w3 = .tuple [.int .i64 b, .bool true] := by unfold numRAV; rw [hb]
      simp [hvb, nilCheckA, appendA, hd1, hd2, postA_ret, cr28]
      exact no (by rw [hlq]; simp [h3, h4, ha, hb]) ⟨⟨nm, code, defs, refs ++ [⟨0, w2, b⟩], lines⟩, 4, full⟩ (gd, nx + 1, gl) (nx + 2) _ (Mem.le_of rfl (by simp [memQ, DRef.av]))
  | some a =>
    have hva : numRAV w1 = .tuple [.int .i64 a, .bool true] := by unfold numRAV; rw [ha]
    simp [hva]
    refine xcall_p (call84 w3 (by omega)) rfl ?_
    cases hb : numRL w3.data.toList with
    | none =>
      have hvb : numRAV w3 = .tuple [.int .i64 0, .bool false] := by unfold numRAV; rw [hb]
      simp [hvb, nilCheckA, appendA, hd1, hd2, postA_ret, cr28]
      exact no (by rw [hlq]; simp [h3, h4, ha, hb]) ⟨⟨nm, code, defs, refs ++ [⟨a, w2, 0⟩], lines⟩, 4, full⟩ (gd, nx + 1, gl) (nx + 2) _ (Mem.le_of rfl (by simp [memQ, DRef.av]))
    | some b =>
      have hvb : numRAV w3 = .tuple [.int .i64 b, .bool true] := by unfold numRAV; rw [hb]
      simp [hvb, nilCheckA, appendA, hd1, hd2, postA_ret, cr28]
      exact yes ⟨⟨nm, code, defs, refs ++ [⟨a, w2, b⟩], lines⟩, 4, full⟩ (by rw [hlq]; simp [h3, h4, ha, hb]) (gd, nx + 1, gl) (nx + 2) _ (Mem.le_of rfl (by simp [memQ, DRef.av]))
end Go.Pm

/- ZkR14: contracts: a line, read by the reference: LINE. -/
namespace Go.Pm
open Go Go.Proofs
attribute [-simp] List.getElem?_map

set_option maxHeartbeats 4000000 in
theorem call28_line {S : QSt} {G : Nat × Nat × Nat} {nx : Nat} {s w1 w2 : ByteArray} (hs : s.size ≤ 200000) (hS : S.Fit) (h6 : eqI S.part 6 = false) (h0 : eqI S.part 0 = false) (hw : wordsF s = some [⟨#[76, 73, 78, 69]⟩, w1, w2]) : ACalls Zk.pg 28 [.ptr 1 1 0, .str s] (memQ S G nx) (R28 S s) := by
  refine ok28.acalls (by simp) ?_
  obtain ⟨hsz, _, _⟩ := words_size hw
  have hw1 : w1.size ≤ 200000 := by have := hsz w1 (by simp); omega
  have hw2 : w2.size ≤ 200000 := by have := hsz w2 (by simp); omega
  have hv : wordsAV s = .list true 1 ([⟨#[76, 73, 78, 69]⟩, w1, w2].map fun x => [.str x]) := by unfold wordsAV; rw [hw]
  obtain ⟨⟨nm, code, defs, refs, lines⟩, part, full⟩ := S
  obtain ⟨gd, gr, gl⟩ := G
  simp only at h6 h0
  have hlq : lineQ ⟨⟨nm, code, defs, refs, lines⟩, part, full⟩ s = if leI part 5 then (numRL w1.data.toList).bind fun a => (numRL w2.data.toList).map fun b => ⟨⟨nm, code, defs, refs, lines ++ [⟨a, b⟩]⟩, 5, full⟩ else none := by
    unfold lineQ
    rw [hw]
    simp [h6, ix, lineK, kOfW, h0, qq]
  have no : lineQ ⟨⟨nm, code, defs, refs, lines⟩, part, full⟩ s = none → ∀ S' G' nx' m', Mem.le (memQ S' G' nx') m' → R28 ⟨⟨nm, code, defs, refs, lines⟩, part, full⟩ s (.ret (.bool false)) m' := fun h S' G' nx' m' hm => ⟨S', G', nx', hm, .inr ⟨rfl, h⟩⟩
  have yes : ∀ S', lineQ ⟨⟨nm, code, defs, refs, lines⟩, part, full⟩ s = some S' → ∀ G' nx' m', Mem.le (memQ S' G' nx') m' → R28 ⟨⟨nm, code, defs, refs, lines⟩, part, full⟩ s (.ret (.bool true)) m' := fun S' h G' nx' m' hm => ⟨S', G', nx', hm, .inl ⟨rfl, h⟩⟩
  have hdl := hS.lines
  simp only at hdl
  have hd1 : (lines.length + 1) * 16 ≤ 140737488355328 := by omega
  have hd2 : lines.length + 1 ≤ 9223372036854775807 := by omega
  simp [c28, memQ]
  refine xcall_p (call81 s (by omega)) (by simp) ?_
  rw [hv]
  simp [nilCheckA, h6, eqW, h0, qq]
  refine br_cond rfl (fun h3 => ?_) (fun h3 => ?_)
  case refine_2 =>
    simp [nilCheckA, h3, eqW, qq, postA_ret, cr28]
    exact no (by rw [hlq]; simp [h3]) ⟨⟨nm, code, defs, refs, lines⟩, part, full⟩ (gd, gr, gl) nx _ (Mem.le_of rfl (by simp [memQ]))
  simp
  refine xcall_p (call84 w1 (by omega)) rfl ?_
  cases ha : numRL w1.data.toList with
  | none =>
    have hva : numRAV w1 = .tuple [.int .i64 0, .bool false] := by unfold numRAV; rw [ha]
    simp [hva]
    refine xcall_p (call84 w2 (by omega)) rfl ?_
    cases hb : numRL w2.data.toList with
    | none =>
      have hvb : numRAV w2 = .tuple [.int .i64 0, .bool false] := by unfold numRAV; rw [hb]
      simp [hvb, nilCheckA, appendA, hd1, hd2, postA_ret, cr28]
      exact no (by rw [hlq]; simp [h3, ha, hb]) ⟨⟨nm, code, defs, refs, lines ++ [⟨0, 0⟩]⟩, 5, full⟩ (gd, gr, nx + 1) (nx + 2) _ (Mem.le_of rfl (by simp [memQ, DLine.av]))
    | some b =>
      have hvb : numRAV w2 = .tuple [.int .i64 b, .bool true] := by unfold numRAV; rw [hb]
      simp [hvb, nilCheckA, appendA, hd1, hd2, postA_ret, cr28]
      exact no (by rw [hlq]; simp [h3, ha, hb]) ⟨⟨nm, code, defs, refs, lines ++ [⟨0, b⟩]⟩, 5, full⟩ (gd, gr, nx + 1) (nx + 2) _ (Mem.le_of rfl (by simp [memQ, DLine.av]))
  | some a =>
    have hva : numRAV w1 = .tuple [.int .i64 a, .bool true] := by unfold numRAV; rw [ha]
    simp [hva]
    refine xcall_p (call84 w2 (by omega)) rfl ?_
    cases hb : numRL w2.data.toList with
    | none =>
      have hvb : numRAV w2 = .tuple [.int .i64 0, .bool false] := by unfold numRAV; rw [hb]
      simp [hvb, nilCheckA, appendA, hd1, hd2, postA_ret, cr28]
      exact no (by rw [hlq]; simp [h3, ha, hb]) ⟨⟨nm, code, defs, refs, lines ++ [⟨a, 0⟩]⟩, 5, full⟩ (gd, gr, nx + 1) (nx + 2) _ (Mem.le_of rfl (by simp [memQ, DLine.av]))
    | some b =>
      have hvb : numRAV w2 = .tuple [.int .i64 b, .bool true] := by unfold numRAV; rw [hb]
      simp [hvb, nilCheckA, appendA, hd1, hd2, postA_ret, cr28]
      exact yes ⟨⟨nm, code, defs, refs, lines ++ [⟨a, b⟩]⟩, 5, full⟩ (by rw [hlq]; simp [h3, ha, hb]) (gd, gr, nx + 1) (nx + 2) _ (Mem.le_of rfl (by simp [memQ, DLine.av]))
end Go.Pm

/- ZkR15: contracts: a line, read by the reference: CODE. -/
namespace Go.Pm
open Go Go.Proofs
attribute [-simp] List.getElem?_map

theorem app_nil (c : ByteArray) : c ++ mkB [] = c := by
  rw [← mkB_data c, mkB_append, List.append_nil]
theorem app_snoc (c : ByteArray) (l : List UInt8) (b : UInt8) : c ++ mkB l ++ mkB [b] = c ++ mkB (l ++ [b]) := by
  rw [← mkB_data c, mkB_append, mkB_append, mkB_append, List.append_assoc]
theorem digitF_bound {c : UInt8} (h : ltI (digitF c) 0 = false) : 0 ≤ digitF c ∧ digitF c < 16 := by
  have h0 := ltI_f.1 h
  unfold digitF at *
  split at h0 <;> rename_i h1
  · rw [if_pos h1]; omega
  · rw [if_neg h1]
    split at h0 <;> rename_i h2
    · rw [if_pos h2]; omega
    · omega

set_option maxHeartbeats 4000000 in
theorem call28_code {S : QSt} {G : Nat × Nat × Nat} {nx : Nat} {s w1 : ByteArray} (hs : s.size ≤ 200000) (hS : S.Fit) (h6 : eqI S.part 6 = false) (h0 : eqI S.part 0 = false) (hw : wordsF s = some [⟨#[67, 79, 68, 69]⟩, w1]) : ACalls Zk.pg 28 [.ptr 1 1 0, .str s] (memQ S G nx) (R28 S s) := by
  refine ok28.acalls (by simp) ?_
  obtain ⟨hsz, _, _⟩ := words_size hw
  have hw1 : w1.size ≤ 200000 := by have := hsz w1 (by simp); omega
  have hv : wordsAV s = .list true 1 ([⟨#[67, 79, 68, 69]⟩, w1].map fun x => [.str x]) := by unfold wordsAV; rw [hw]
  obtain ⟨⟨nm, code, defs, refs, lines⟩, part, full⟩ := S
  obtain ⟨gd, gr, gl⟩ := G
  simp only at h6 h0
  have hlq : lineQ ⟨⟨nm, code, defs, refs, lines⟩, part, full⟩ s = if leI part 2 && full then
      (if eqI ((w1.size : Int).tmod 2) 0 && leI w1.size 64 then (hexT w1).map fun b => ⟨⟨nm, code ++ b, defs, refs, lines⟩, 2, eqI w1.size 64⟩ else none) else none := by
    unfold lineQ
    rw [hw]
    simp [h6, ix, lineK, kOfW, h0, qq]
  have no : lineQ ⟨⟨nm, code, defs, refs, lines⟩, part, full⟩ s = none → ∀ S' G' nx' m', Mem.le (memQ S' G' nx') m' → R28 ⟨⟨nm, code, defs, refs, lines⟩, part, full⟩ s (.ret (.bool false)) m' := fun h S' G' nx' m' hm => ⟨S', G', nx', hm, .inr ⟨rfl, h⟩⟩
  have yes : ∀ S', lineQ ⟨⟨nm, code, defs, refs, lines⟩, part, full⟩ s = some S' → ∀ G' nx' m', Mem.le (memQ S' G' nx') m' → R28 ⟨⟨nm, code, defs, refs, lines⟩, part, full⟩ s (.ret (.bool true)) m' := fun S' h G' nx' m' hm => ⟨S', G', nx', hm, .inl ⟨rfl, h⟩⟩
  have hcode := hS.code
  simp only at hcode
  simp [c28, memQ]
  refine xcall_p (call81 s (by omega)) (by simp) ?_
  rw [hv]
  simp [nilCheckA, h6, eqW, h0, qq]
  refine br_guard_t rfl (fun h3 => ?_) (fun h3 => ?_)
  case refine_2 =>
    simp [nilCheckA, h3, eqW, qq, postA_ret, cr28]
    exact no (by rw [hlq]; simp [h3]) ⟨⟨nm, code, defs, refs, lines⟩, part, full⟩ (gd, gr, gl) nx _ (Mem.le_of rfl (by simp [memQ]))
  simp [nilCheckA, h3]
  cases full with
  | false =>
    simp [nilCheckA, h3, eqW, qq, postA_ret, cr28]
    exact no (by rw [hlq]; simp) ⟨⟨nm, code, defs, refs, lines⟩, part, false⟩ (gd, gr, gl) nx _ (Mem.le_of rfl (by simp [memQ]))
  | true =>
    simp
    refine br_guard_f rfl (fun h4 => ?_) (fun h4 => ?_)
    · simp at h4
      simp [h4, postA_ret, cr28]
      exact no (by rw [hlq]; simp [h4]) ⟨⟨nm, code, defs, refs, lines⟩, part, true⟩ (gd, gr, gl) nx _ (Mem.le_of rfl (by simp [memQ]))
    simp at h4
    simp [h4]
    refine br_cond rfl (fun h5 => ?_) (fun h5 => ?_)
    · have := ltI_t.1 h5
      simp [postA_ret, cr28]
      exact no (by rw [hlq]; simp [h3, h4, leI_f.2 this]) ⟨⟨nm, code, defs, refs, lines⟩, part, true⟩ (gd, gr, gl) nx _ (Mem.le_of rfl (by simp [memQ]))
    have h64 := ltI_f.1 h5
    have hle : leI (w1.size : Int) 64 = true := leI_t.2 h64
    have hev : w1.size = 2 * (w1.size / 2) := by
      have h0 := eqI_t.1 h4
      rw [Int.tmod_eq_emod_of_nonneg (by omega)] at h0
      omega
    simp
    refine wpS_loopS (ι := Nat × Nat) (fun g => [(0, .ptr 1 1 0), (6, .str w1), (7, .int .i64 (2 * g.1 : Nat))])
      (fun g => memQ ⟨⟨nm, code ++ mkB ((List.range g.1).map (hexByte w1)), defs, refs, lines⟩, part, true⟩ (gd, gr, gl) g.2) (fun g => w1.size / 2 - g.1)
      (fun g => g.1 ≤ w1.size / 2 ∧ (List.range g.1).all (okPairF w1) = true) (0, nx) ⟨Nat.zero_le _, rfl⟩ (Sim.of_le (Env.le_of (by simp)) (Mem.le_of rfl (by simp [memQ, app_nil]))) ?_
    rintro ⟨k, nx'⟩ ⟨hk, hall⟩
    simp only at hk hall
    obtain ⟨p, hp⟩ : ∃ p, p = 2 * k := ⟨_, rfl⟩
    simp only [← hp]
    simp [memQ]
    refine br_cond rfl (fun h7 => ?_) (fun h7 => ?_)
    · have hlt : p < w1.size := by have := ltI_t.1 h7; omega
      obtain ⟨q, hq⟩ : ∃ q, q = p + 1 := ⟨_, rfl⟩
      have hwq : IntKind.i64.wrap ((p : Int) + 1) = (q : Int) := by rw [wrap64 (by omega) (by omega)]; omega
      have hlq' : ltI (q : Int) w1.size = true := ltN (by omega)
      simp [idxS h7, idxS hlq', hwq]
      refine xdcall_p rfl (call83 (byteAt w1 p)) rfl ?_
      simp [idxS h7, idxS hlq', hwq]
      refine xdcall_p rfl (call83 (byteAt w1 q)) rfl ?_
      simp
      have hpr : okPairF w1 k = (!ltI (digitF (byteAt w1 p)) 0 && !ltI (digitF (byteAt w1 q)) 0) := by rw [okPairF, hq, hp]
      have hpb : hexByte w1 k = UInt8.ofNat (16 * digitF (byteAt w1 p) + digitF (byteAt w1 q)).toNat := by rw [hexByte, hq, hp]
      have badp : okPairF w1 k = false → hexT w1 = none := fun h => by
        unfold hexT
        rw [if_neg]
        intro ha
        have := List.all_eq_true.1 ha k (List.mem_range.2 (by omega))
        rw [h] at this; cases this
      refine br_guard_f rfl (fun h8 => ?_) (fun h8 => ?_)
      · simp [h8, postA_ret, cr28]
        exact no (by rw [hlq]; simp [h3, h4, hle, badp (by rw [hpr, h8]; rfl)]) ⟨⟨nm, code ++ mkB ((List.range k).map (hexByte w1)), defs, refs, lines⟩, part, true⟩ (gd, gr, gl) nx' _ (Mem.le_of rfl (by simp [memQ]))
      simp [h8]
      refine br_cond rfl (fun h9 => ?_) (fun h9 => ?_)
      · simp [postA_ret, cr28]
        exact no (by rw [hlq]; simp [h3, h4, hle, badp (by rw [hpr, h9]; simp)]) ⟨⟨nm, code ++ mkB ((List.range k).map (hexByte w1)), defs, refs, lines⟩, part, true⟩ (gd, gr, gl) nx' _ (Mem.le_of rfl (by simp [memQ]))
      obtain ⟨da, hda⟩ : ∃ da, da = digitF (byteAt w1 p) := ⟨_, rfl⟩
      obtain ⟨db, hdb⟩ : ∃ db, db = digitF (byteAt w1 q) := ⟨_, rfl⟩
      have ba := digitF_bound h8
      have bb := digitF_bound h9
      simp only [← hda, ← hdb] at ba bb hpr hpb h8 h9 ⊢
      have x1 : IntKind.i64.wrap (16 * da) = 16 * da := wrap64 (by omega) (by omega)
      have x2 : IntKind.i64.wrap (16 * da + db) = 16 * da + db := wrap64 (by omega) (by omega)
      have x3 : IntKind.u8.wrap (16 * da + db) = 16 * da + db := u8w (by omega) (by omega)
      have x4 : IntKind.i64.wrap ((p : Int) + 2) = 2 * ((k : Int) + 1) := by rw [wrap64 (by omega) (by omega)]; omega
      have hcs : code.size + k ≤ 9223372036854775806 := by omega
      have x5 : ({ data := #[UInt8.ofNat (16 * da + db).toNat] } : ByteArray) = mkB [hexByte w1 k] := by rw [hpb]; rfl
      simp [nilCheckA, x1, x2, x3, x4, byteOf, x5, mkB_size, hcs]
      refine ⟨k + 1, ⟨by omega, fun y hy => ?_⟩, by omega, nx' + 1, Sim.of_le (Env.le_of (by simp)) (Mem.le_of rfl (by simp [List.range_succ, app_snoc]))⟩
      by_cases hyk : y = k
      · subst hyk; rw [hpr, h8, h9]; rfl
      · exact List.all_eq_true.1 hall y (List.mem_range.2 (by omega))
    · have hke : k = w1.size / 2 := by have := ltI_f.1 h7; omega
      have hx : hexT w1 = some (mkB ((List.range k).map (hexByte w1))) := by
        unfold hexT
        rw [← hke, if_pos hall]
      simp [nilCheckA, postA_ret, cr28]
      exact yes ⟨⟨nm, code ++ mkB ((List.range k).map (hexByte w1)), defs, refs, lines⟩, 2, eqI w1.size 64⟩ (by rw [hlq]; simp [h3, h4, hle, hx]) (gd, gr, gl) nx' _ (Mem.le_of rfl (by simp [memQ]))
end Go.Pm

/- ZkR16: contracts: the reference's Read. -/
namespace Go.Pm
open Go Go.Proofs
attribute [-simp] List.getElem?_map

theorem call28 {S : QSt} {G : Nat × Nat × Nat} {nx : Nat} {s : ByteArray} (hs : s.size ≤ 200000) (hS : S.Fit) :
    ACalls Zk.pg 28 [.ptr 1 1 0, .str s] (memQ S G nx) fun out m' => ∃ S' G' nx', m' = memQ S' G' nx' ∧ ((out = .ret (.bool true) ∧ lineQ S s = some S') ∨ (out = .ret (.bool false) ∧ lineQ S s = none)) := by
  have main : ACalls Zk.pg 28 [.ptr 1 1 0, .str s] (memQ S G nx) (R28 S s) := by
    by_cases hk : eqI S.part 6 = false ∧ eqI S.part 0 = false ∧ Kind s
    · obtain ⟨h6, h0, ⟨w1, hw⟩ | ⟨w1, w2, hw⟩ | ⟨w1, w2, w3, hw⟩ | ⟨w1, w2, hw⟩⟩ := hk
      · exact call28_code hs hS h6 h0 hw
      · exact call28_def hs hS h6 h0 hw
      · exact call28_ref hs hS h6 h0 hw
      · exact call28_line hs hS h6 h0 hw
    · exact call28_no hs hS fun h6 h0 hK => hk ⟨h6, h0, hK⟩
  refine main.sim ?_
  rintro out m' ⟨S', G', nx', hm, h⟩
  exact ⟨out, _, ⟨S', G', nx', rfl, h⟩, SimO.forget hm⟩

/-- What the reference reads of a text line by line. -/
def refL : Nat → QSt → Nat → List UInt8 → Option QSt × Nat
  | 0, _, n, _ => (none, n)
  | f + 1, S, n, l => match cutN l with
    | none => (if l = [] then some S else none, n)
    | some (x, y) => match lineQ S (mkB x) with
      | none => (none, n)
      | some S' => refL f S' (n + 1) y
def startQ : QSt := ⟨⟨⟨#[]⟩, ⟨#[]⟩, [], [], []⟩, 0, false⟩
def noDeckQ : List AV := [.str ⟨#[]⟩, .str ⟨#[]⟩, .nilS, .nilS, .nilS]
def refRes (t : ByteArray) : List AV × Nat × Int :=
  if ltI 200000 t.size then (noDeckQ, 0, 3) else match refL (t.size + 1) startQ 0 t.data.toList with
  | (none, n) => (noDeckQ, n, 2)
  | (some S, n) => if eqI S.part 6 then (if deckOk S.o then (S.o.av, 0, 0) else (noDeckQ, n, 1)) else (noDeckQ, n, 2)
def refAV (t : ByteArray) : AV := .tuple [.agg (refRes t).1, .int .i64 (refRes t).2.1, .int .i64 (refRes t).2.2]

theorem cut_none : ∀ {l : List UInt8}, (∀ x ∈ l, x ≠ 10) → cutN l = none
  | [], _ => rfl
  | b :: t, h => by
    unfold cutN
    rw [if_neg (h b (by simp)), cut_none fun x hx => h x (List.mem_cons_of_mem _ hx)]; rfl
theorem cut_some : ∀ {x y : List UInt8}, (∀ b ∈ x, b ≠ 10) → cutN (x ++ 10 :: y) = some (x, y)
  | [], y, _ => by simp [cutN]
  | b :: t, y, h => by
    rw [List.cons_append]
    unfold cutN
    rw [if_neg (h b (by simp)), cut_some fun x hx => h x (List.mem_cons_of_mem _ hx)]; rfl

/-- The bounds of what is read so far. -/
structure QSt.Good (S : QSt) (at_ n : Nat) : Prop where
  part : S.part ≤ 6
  code : S.o.code.size ≤ at_
  defs : S.o.defs.length ≤ n
  refs : S.o.refs.length ≤ n
  lines : S.o.lines.length ≤ n
  name : S.o.name.size ≤ 200000
  dname : ∀ d ∈ S.o.defs, d.name.size ≤ 200000
  rname : ∀ d ∈ S.o.refs, d.name.size ≤ 200000

theorem hex_size {s b : ByteArray} (h : hexT s = some b) : b.size = s.size / 2 := by
  unfold hexT at h
  split at h
  · injection h with h; rw [← h, mkB_size, List.length_map, List.length_range]
  · cases h
theorem ix_le {l : List ByteArray} {B : Nat} (h : ∀ x ∈ l, x.size ≤ B) (i : Nat) : (ix l i).size ≤ B := by
  rcases Nat.lt_or_ge i l.length with hi | hi
  · exact h _ (ix_mem hi)
  · have : ix l i = default := by simp [ix, List.getD, hi]
    rw [this]
    exact Nat.zero_le _

theorem lineQ_good {S S' : QSt} {s : ByteArray} {a n : Nat} (h : lineQ S s = some S') (hS : S.Good a n) (hs : s.size ≤ 200000) : S'.Good (a + s.size) (n + 1) := by
  obtain ⟨g1, g2, g3, g4, g5, g6, g7, g8⟩ := hS
  unfold lineQ at h
  split at h
  · cases h
  rename_i w hw
  obtain ⟨hsz, _, _⟩ := words_size hw
  have hl : ∀ i, (ix w i).size ≤ 200000 := fun i => Nat.le_trans (ix_le hsz i) hs
  have hl1 := ix_le hsz 1
  split at h
  · cases h
  unfold lineK at h
  split at h
  · split at h
    · injection h with h; subst h
      exact ⟨by simp only; omega, by simp only; omega, by simp only; omega, by simp only; omega, by simp only; omega, hl 1, g7, g8⟩
    · cases h
  · split at h
    · cases h
    split at h
    · split at h
      · rw [Option.map_eq_some_iff] at h
        obtain ⟨b, hb, rfl⟩ := h
        have := hex_size hb
        exact ⟨by simp only; omega, by simp only [ByteArray.size_append]; omega, by simp only; omega, by simp only; omega, by simp only; omega, g6, g7, g8⟩
      · cases h
    · cases h
  · split at h
    · cases h
    split at h
    · rw [Option.map_eq_some_iff] at h
      obtain ⟨b, hb, rfl⟩ := h
      refine ⟨by simp only; omega, by simp only; omega, by simp; omega, by simp only; omega, by simp only; omega, g6, fun d hd => ?_, g8⟩
      rcases List.mem_append.1 hd with hd | hd
      · exact g7 d hd
      · rw [List.mem_singleton.1 hd]; exact hl 1
    · cases h
  · split at h
    · cases h
    split at h
    · rw [Option.bind_eq_some_iff] at h
      obtain ⟨x, hx, h⟩ := h
      rw [Option.map_eq_some_iff] at h
      obtain ⟨b, hb, rfl⟩ := h
      refine ⟨by simp only; omega, by simp only; omega, by simp only; omega, by simp; omega, by simp only; omega, g6, g7, fun d hd => ?_⟩
      rcases List.mem_append.1 hd with hd | hd
      · exact g8 d hd
      · rw [List.mem_singleton.1 hd]; exact hl 2
    · cases h
  · split at h
    · cases h
    split at h
    · rw [Option.bind_eq_some_iff] at h
      obtain ⟨x, hx, h⟩ := h
      rw [Option.map_eq_some_iff] at h
      obtain ⟨b, hb, rfl⟩ := h
      exact ⟨by simp only; omega, by simp only; omega, by simp only; omega, by simp only; omega, by simp; omega, g6, g7, g8⟩
    · cases h
  · split at h
    · cases h
    split at h
    · injection h with h; subst h
      exact ⟨by simp only; omega, by simp only; omega, by simp only; omega, by simp only; omega, by simp only; omega, g6, g7, g8⟩
    · cases h
  · cases h

theorem seg_data (t : ByteArray) (a i : Nat) : (t.extract a i).data.toList = (t.data.toList.drop a).take (i - a) := Lib.extract_data t a i
theorem drop_seg {t : ByteArray} {a i : Nat} (hai : a ≤ i) (hi : i < t.size) : t.data.toList.drop a = (t.extract a i).data.toList ++ byteAt t i :: t.data.toList.drop (i + 1) := by
  rw [seg_data, ← drop_byte hi]
  have : t.data.toList.drop i = (t.data.toList.drop a).drop (i - a) := by rw [List.drop_drop]; congr 1; omega
  rw [this, List.take_append_drop]
theorem seg_mem {t : ByteArray} {a i : Nat} {P : UInt8 → Prop} (h : ∀ j, a ≤ j → j < i → P (byteAt t j)) (hi : i ≤ t.size) : ∀ x ∈ (t.extract a i).data.toList, P x := by
  intro x hx
  rw [seg_data] at hx
  obtain ⟨k, hk, rfl⟩ := List.getElem_of_mem hx
  have hk' : k < i - a := by
    have := hk
    rw [List.length_take] at this; omega
  have hlt : a + k < t.data.toList.length := by rw [len_data]; omega
  have e : ((t.data.toList.drop a).take (i - a))[k] = byteAt t (a + k) := by
    rw [List.getElem_take, List.getElem_drop, byteAt_eq hlt]
  rw [e]
  exact h (a + k) (by omega) (by omega)
end Go.Pm

/- ZkV3: plain: the linker and the reference read the same of a text. -/
namespace Go.Pm
open Go Go.Proofs

theorem chOk_eq (b : UInt8) : chOk b = (decide (33 ≤ b.toNat) && decide (b.toNat ≤ 126)) := by
  unfold chOk ltI
  by_cases h1 : 33 ≤ b.toNat <;> by_cases h2 : b.toNat ≤ 126 <;> simp [h1, h2] <;> omega
theorem okPart_eq (x : ByteArray) : okPart x = namedF x := by
  unfold okPart namedF
  congr 2
  funext b
  exact (chOk_eq b).symm
theorem namedF_of {x : ByteArray} (hne : x ≠ ⟨#[]⟩) (h : ∀ b ∈ x.data.toList, chOk b = true) : namedF x = true := by
  unfold namedF
  rw [eqS_dec]
  simp only [hne, decide_false, Bool.not_false, Bool.true_and]
  exact List.all_eq_true.2 h
theorem dig_ch {c : UInt8} (h : isDig c = true) : chOk c = true := by
  unfold isDig at h
  rw [chOk_eq]
  simp only [Bool.and_eq_true, decide_eq_true_eq] at h ⊢
  omega
theorem num_named {x : ByteArray} {n : Int} (h : numRL x.data.toList = some n) : namedF x = true := by
  unfold numRL at h
  split at h
  · cases h
  rename_i h1
  split at h
  case isFalse => cases h
  rename_i hd
  have hne : tailN x.data.toList ≠ [] := fun e => h1 (.inl (by rw [e]; decide))
  refine namedF_of (fun e => hne (by rw [e]; rfl)) fun b hb => ?_
  unfold tailN at hd
  split at hd
  · rename_i h45
    cases hx : x.data.toList with
    | nil => rw [hx] at hb; cases hb
    | cons a l =>
      rw [hx] at hb h45 hd
      simp only [List.head?_cons, Option.some.injEq] at h45
      rcases List.mem_cons.1 hb with rfl | hb
      · rw [h45]; rfl
      · exact dig_ch (List.all_eq_true.1 hd b hb)
  · exact dig_ch (List.all_eq_true.1 hd b hb)
theorem digit_ch {c : UInt8} (h : ltI (digitF c) 0 = false) : chOk c = true := by
  have h0 := ltI_f.1 h
  unfold digitF at h0
  rw [chOk_eq]
  simp only [Bool.and_eq_true, decide_eq_true_eq]
  split at h0
  · omega
  · split at h0
    · omega
    · omega
theorem hex_named {x b : ByteArray} (hne : x ≠ ⟨#[]⟩) (hev : eqI ((x.size : Int).tmod 2) 0 = true) (h : hexT x = some b) : namedF x = true := by
  unfold hexT at h
  split at h
  case isFalse => cases h
  rename_i hall
  have hev' : x.size = 2 * (x.size / 2) := by
    have h0 := eqI_t.1 hev
    rw [Int.tmod_eq_emod_of_nonneg (by omega)] at h0
    omega
  refine namedF_of hne (List.all_eq_true.1 ((all_bytes x).2 fun j hj => ?_))
  have hp := List.all_eq_true.1 hall (j / 2) (List.mem_range.2 (by omega))
  unfold okPairF at hp
  simp only [Bool.and_eq_true, Bool.not_eq_true'] at hp
  rcases Nat.mod_two_eq_zero_or_one j with h | h
  · have e : 2 * (j / 2) = j := by omega
    rw [e] at hp
    exact digit_ch hp.1
  · have e : 2 * (j / 2) + 1 = j := by omega
    rw [e] at hp
    exact digit_ch hp.2

theorem bytes_hex {x : ByteArray} (hev : eqI ((x.size : Int).tmod 2) 0 = true) : bytesT x = hexT x := by
  have ok : ∀ k, okPair x k = okPairF x k := fun k => by
    unfold okPair okPairF
    rw [figI_eq, figI_eq]
    have e : ∀ a : Int, leI 0 a = !ltI a 0 := fun a => by
      unfold leI ltI
      by_cases h : 0 ≤ a
      · simp [h]
      · simp [h]; omega
    rw [e, e]
  unfold bytesT hexT
  rw [hev, Bool.true_and]
  rw [show (okPair x) = okPairF x from funext ok]
  by_cases hall : (List.range (x.size / 2)).all (okPairF x) = true
  · rw [if_pos hall, if_pos hall]
    congr 1
    unfold mkB
    congr 2
    refine List.map_congr_left fun k hk => ?_
    have hp := List.all_eq_true.1 hall k hk
    unfold okPairF at hp
    simp only [Bool.and_eq_true, Bool.not_eq_true'] at hp
    unfold hexByte pairB
    rw [figI_eq, figI_eq]
    exact pair_eq (digitF_bound hp.1) (digitF_bound hp.2)
  · rw [if_neg hall, if_neg hall]

/-- The two states of a reading. -/
structure Cor (S : RdSt) (Q : QSt) : Prop where
  o : Q.o = S.o
  st : (S.stage = 0 ∧ Q.part = 0 ∧ S.o.code.size = 0) ∨ (S.stage = 1 ∧ (Q.part = 1 ∨ Q.part = 2) ∧ Q.full = eqI ((S.o.code.size : Int).tmod 32) 0) ∨ (S.stage = 2 ∧ Q.part = 3) ∨ (S.stage = 3 ∧ Q.part = 4) ∨ (S.stage = 4 ∧ Q.part = 5) ∨ (S.stage = 6 ∧ Q.part = 6)

def Same (n : Nat) : Option RdSt → Option QSt → Prop
  | some S, some Q => Cor S Q ∧ S.n = n
  | none, none => True
  | _, _ => False

theorem eqI_cast (a b : Nat) : eqI (a : Int) b = decide (a = b) := by
  by_cases h : a = b
  · subst h; simp [eqI]
  · have : (a : Int) ≠ b := by omega
    simp [eqI, h, this]
theorem ltI_cast (a b : Nat) : ltI (a : Int) b = decide (a < b) := by unfold ltI; simp
theorem leI_cast (a b : Nat) : leI (a : Int) b = decide (a ≤ b) := by unfold leI; simp
end Go.Pm

/- ZkV4: plain: a line says the same to the linker and to the reference. -/
namespace Go.Pm
open Go Go.Proofs

theorem words_named : ∀ x ∈ wordsL, namedF x = true := by
  have : wordsL.all namedF = true := by
    unfold wordsL namedF
    simp only [eqS_dec]
    decide
  exact List.all_eq_true.1 this
theorem kOf_named {x : ByteArray} (h : kOf x < 6) : namedF x = true := by
  have h' : wordsL.findIdx (fun w => eqS w x) < wordsL.length := h
  have h1 := List.findIdx_getElem (p := fun w => eqS w x) (xs := wordsL) (w := h')
  have h2 := eqS_t.1 h1
  rw [← h2]
  exact words_named _ (List.getElem_mem h')
theorem ixc {α : Type} [Inhabited α] (a : α) (l : List α) (i : Nat) : ix (a :: l) (i + 1) = ix l i := by simp [ix, List.getD]
theorem ixz {α : Type} [Inhabited α] (a : α) (l : List α) : ix (a :: l) 0 = a := by simp [ix, List.getD]
theorem lenI {l : List ByteArray} {n : Nat} (h : eqI l.length (n : Int) = true) : l.length = n := by have := eqI_t.1 h; omega

/-- A line that the reference reads has words of printable signs alone. -/
theorem line_named {Q Q' : QSt} {w : List ByteArray} (hw : ∀ x ∈ w, x ≠ ⟨#[]⟩) (h : lineK Q (kOf (ix w 0)) w = some Q') : w.all namedF = true := by
  have h0 : kOf (ix w 0) < 6 → namedF (ix w 0) = true := kOf_named
  generalize kOf (ix w 0) = k at h h0
  unfold lineK at h
  split at h
  · split at h
    case isFalse => cases h
    rename_i hc
    simp only [Bool.and_eq_true] at hc
    obtain ⟨a, b, rfl⟩ := len2 (lenI (n := 2) hc.1)
    have := h0 (by decide)
    simp only [ixz, ixc] at this hc
    simp [this, hc]
  · split at h
    · cases h
    split at h
    case isFalse => cases h
    rename_i hc
    simp only [Bool.and_eq_true] at hc
    split at h
    case isFalse => cases h
    rename_i hd
    simp only [Bool.and_eq_true] at hd
    obtain ⟨a, b, rfl⟩ := len2 (lenI (n := 2) hc.1)
    rw [Option.map_eq_some_iff] at h
    obtain ⟨c, hc2, _⟩ := h
    have := h0 (by decide)
    simp only [ixz, ixc] at this hc2 hd
    have := hex_named (hw b (by simp)) hd.1 hc2
    simp [*]
  · split at h
    · cases h
    split at h
    case isFalse => cases h
    rename_i hc
    simp only [Bool.and_eq_true] at hc
    obtain ⟨a, b, c, rfl⟩ := len3 (lenI (n := 3) hc.1)
    rw [Option.map_eq_some_iff] at h
    obtain ⟨n, hn, _⟩ := h
    have := h0 (by decide)
    simp only [ixz, ixc] at this hn hc
    have := num_named hn
    simp [*]
  · split at h
    · cases h
    split at h
    case isFalse => cases h
    rename_i hc
    simp only [Bool.and_eq_true] at hc
    have hl4 : w.length = 4 := lenI (n := 4) hc.1
    obtain ⟨a, b, c, d, rfl⟩ : ∃ a b c d, w = [a, b, c, d] := by
      match w, hl4 with
      | [a, b, c, d], _ => exact ⟨a, b, c, d, rfl⟩
    rw [Option.bind_eq_some_iff] at h
    obtain ⟨m, hm, h⟩ := h
    rw [Option.map_eq_some_iff] at h
    obtain ⟨n, hn, _⟩ := h
    have := h0 (by decide)
    simp only [ixz, ixc] at this hn hm hc
    have := num_named hn
    have := num_named hm
    simp [*]
  · split at h
    · cases h
    split at h
    case isFalse => cases h
    rename_i hc
    simp only [Bool.and_eq_true] at hc
    obtain ⟨a, b, c, rfl⟩ := len3 (lenI (n := 3) hc.1)
    rw [Option.bind_eq_some_iff] at h
    obtain ⟨m, hm, h⟩ := h
    rw [Option.map_eq_some_iff] at h
    obtain ⟨n, hn, _⟩ := h
    have := h0 (by decide)
    simp only [ixz, ixc] at this hn hm
    have := num_named hn
    have := num_named hm
    simp [*]
  · split at h
    · cases h
    split at h
    case isFalse => cases h
    rename_i hc
    obtain ⟨a, rfl⟩ := List.length_eq_one_iff.1 (lenI (n := 1) hc)
    have := h0 (by decide)
    simp only [ixz] at this
    simp [this]
  · cases h

theorem named_ix {w : List ByteArray} (h : w.all namedF = true) {i : Nat} (hi : i < w.length) : namedF (ix w i) = true := List.all_eq_true.1 h _ (ix_mem hi)

theorem litE : ((((eqI 0 0 = true ∧ eqI 0 1 = false ∧ eqI 0 2 = false ∧ eqI 0 3 = false ∧ eqI 0 4 = false ∧ eqI 0 5 = false) ∧ (eqI 0 6 = false ∧ eqI 1 0 = false ∧ eqI 1 1 = true ∧ eqI 1 2 = false ∧ eqI 1 3 = false ∧ eqI 1 4 = false)) ∧ ((eqI 1 5 = false ∧ eqI 1 6 = false ∧ eqI 2 0 = false ∧ eqI 2 1 = false ∧ eqI 2 2 = true ∧ eqI 2 3 = false) ∧ (eqI 2 4 = false ∧ eqI 2 5 = false ∧ eqI 2 6 = false ∧ eqI 3 0 = false ∧ eqI 3 1 = false ∧ eqI 3 2 = false))) ∧ (((eqI 3 3 = true ∧ eqI 3 4 = false ∧ eqI 3 5 = false ∧ eqI 3 6 = false ∧ eqI 4 0 = false ∧ eqI 4 1 = false) ∧ (eqI 4 2 = false ∧ eqI 4 3 = false ∧ eqI 4 4 = true ∧ eqI 4 5 = false ∧ eqI 4 6 = false ∧ eqI 5 0 = false)) ∧ ((eqI 5 1 = false ∧ eqI 5 2 = false ∧ eqI 5 3 = false ∧ eqI 5 4 = false ∧ eqI 5 5 = true ∧ eqI 5 6 = false) ∧ (eqI 6 0 = false ∧ eqI 6 1 = false ∧ eqI 6 2 = false ∧ eqI 6 3 = false ∧ eqI 6 4 = false ∧ eqI 6 5 = false ∧ eqI 6 6 = true)))) := by simp [eqI, ltI, leI]
theorem litL : ((((ltI 0 0 = false ∧ ltI 0 1 = true ∧ ltI 0 2 = true ∧ ltI 0 3 = true ∧ ltI 0 4 = true ∧ ltI 0 5 = true) ∧ (ltI 0 6 = true ∧ ltI 1 0 = false ∧ ltI 1 1 = false ∧ ltI 1 2 = true ∧ ltI 1 3 = true ∧ ltI 1 4 = true)) ∧ ((ltI 1 5 = true ∧ ltI 1 6 = true ∧ ltI 2 0 = false ∧ ltI 2 1 = false ∧ ltI 2 2 = false ∧ ltI 2 3 = true) ∧ (ltI 2 4 = true ∧ ltI 2 5 = true ∧ ltI 2 6 = true ∧ ltI 3 0 = false ∧ ltI 3 1 = false ∧ ltI 3 2 = false))) ∧ (((ltI 3 3 = false ∧ ltI 3 4 = true ∧ ltI 3 5 = true ∧ ltI 3 6 = true ∧ ltI 4 0 = false ∧ ltI 4 1 = false) ∧ (ltI 4 2 = false ∧ ltI 4 3 = false ∧ ltI 4 4 = false ∧ ltI 4 5 = true ∧ ltI 4 6 = true ∧ ltI 5 0 = false)) ∧ ((ltI 5 1 = false ∧ ltI 5 2 = false ∧ ltI 5 3 = false ∧ ltI 5 4 = false ∧ ltI 5 5 = false ∧ ltI 5 6 = true) ∧ (ltI 6 0 = false ∧ ltI 6 1 = false ∧ ltI 6 2 = false ∧ ltI 6 3 = false ∧ ltI 6 4 = false ∧ ltI 6 5 = false ∧ ltI 6 6 = false)))) := by simp [eqI, ltI, leI]
theorem litM : ((((leI 0 0 = true ∧ leI 0 1 = true ∧ leI 0 2 = true ∧ leI 0 3 = true ∧ leI 0 4 = true ∧ leI 0 5 = true) ∧ (leI 0 6 = true ∧ leI 1 0 = false ∧ leI 1 1 = true ∧ leI 1 2 = true ∧ leI 1 3 = true ∧ leI 1 4 = true)) ∧ ((leI 1 5 = true ∧ leI 1 6 = true ∧ leI 2 0 = false ∧ leI 2 1 = false ∧ leI 2 2 = true ∧ leI 2 3 = true) ∧ (leI 2 4 = true ∧ leI 2 5 = true ∧ leI 2 6 = true ∧ leI 3 0 = false ∧ leI 3 1 = false ∧ leI 3 2 = false))) ∧ (((leI 3 3 = true ∧ leI 3 4 = true ∧ leI 3 5 = true ∧ leI 3 6 = true ∧ leI 4 0 = false ∧ leI 4 1 = false) ∧ (leI 4 2 = false ∧ leI 4 3 = false ∧ leI 4 4 = true ∧ leI 4 5 = true ∧ leI 4 6 = true ∧ leI 5 0 = false)) ∧ ((leI 5 1 = false ∧ leI 5 2 = false ∧ leI 5 3 = false ∧ leI 5 4 = false ∧ leI 5 5 = true ∧ leI 5 6 = true) ∧ (leI 6 0 = false ∧ leI 6 1 = false ∧ leI 6 2 = false ∧ leI 6 3 = false ∧ leI 6 4 = false ∧ leI 6 5 = false ∧ leI 6 6 = true)))) := by simp [eqI, ltI, leI]

set_option maxHeartbeats 2000000 in
theorem line_same {S : RdSt} {Q : QSt} {w : List ByteArray} (h : Cor S Q) (hall : w.all namedF = true) (hw : ∀ x ∈ w, x ≠ ⟨#[]⟩) : Same (S.n + 1) (stepR S w) (if eqI Q.part 6 then none else lineK Q (kOf (ix w 0)) w) := by
  obtain ⟨o, part, full⟩ := Q
  obtain ⟨o', stage, n⟩ := S
  obtain ⟨ho, hst⟩ := h
  simp only at ho hst
  subst ho
  unfold stepR
  simp only
  generalize hk : kOf (ix w 0) = k
  have hk7 : k = 0 ∨ k = 1 ∨ k = 2 ∨ k = 3 ∨ k = 4 ∨ k = 5 ∨ 6 ≤ k := by omega
  rcases hk7 with rfl | rfl | rfl | rfl | rfl | rfl | hk6
  · have hp : ix partsL 0 = 2 := rfl
    cases hl : eqI (w.length : Int) 2 with
    | false => simp [stepOk, hp, hl, lineK, Same]
    | true =>
      have hn := named_ix hall (i := 1) (by have := lenI (n := 2) hl; omega)
      rcases hst with ⟨rfl, rfl, hc⟩ | ⟨rfl, rfl | rfl, hf⟩ | ⟨rfl, rfl⟩ | ⟨rfl, rfl⟩ | ⟨rfl, rfl⟩ | ⟨rfl, rfl⟩
      · simp [stepOk, hp, hl, lineK, hn, bodyR, Same, litE, litL, litM]
        exact ⟨rfl, .inr (.inl ⟨rfl, .inl rfl, by simp only [hc]; rfl⟩)⟩
      all_goals simp [stepOk, hp, hl, lineK, Same, litE, litL, litM]
  · have hp : ix partsL 1 = 2 := rfl
    cases hl : eqI (w.length : Int) 2 with
    | false => simp [stepOk, hp, hl, lineK, Same]
    | true =>
      have hne := hw _ (ix_mem (l := w) (i := 1) (by have := lenI (n := 2) hl; omega))
      have hsz : (ix w 1).size ≠ 0 := fun e => hne (size_zero.1 e)
      rcases hst with ⟨rfl, rfl, hc⟩ | ⟨rfl, hpt, hf⟩ | ⟨rfl, rfl⟩ | ⟨rfl, rfl⟩ | ⟨rfl, rfl⟩ | ⟨rfl, rfl⟩
      · simp [stepOk, hp, hl, lineK, Same, litE, litL, litM]
      · have hpl : leI (part : Int) 2 = true ∧ eqI (part : Int) 0 = false ∧ eqI (part : Int) 6 = false := by rcases hpt with rfl | rfl <;> simp [litE, litL, litM]
        have e1 : bytesT (ix w 1) = if eqI (((ix w 1).size : Int).tmod 2) 0 then hexT (ix w 1) else none := by
          split
          · rename_i h; exact bytes_hex h
          · rename_i h; unfold bytesT; simp [h]
        cases hev : eqI (((ix w 1).size : Int).tmod 2) 0 with
        | false =>
          rw [hev] at e1
          simp [stepOk, hp, hl, lineK, hpl, hev, e1, bodyR, Same, litE, litL, litM]
        | true =>
        rw [hev, if_pos rfl] at e1
        cases h64 : leI ((ix w 1).size : Int) 64 with
        | false =>
          simp [stepOk, hp, hl, lineK, hpl, hev, h64, bodyR, Same, litE, litL, litM]
        | true =>
        cases h32 : eqI ((o.code.size : Int).tmod 32) 0 with
        | false =>
          rw [h32] at hf
          simp [stepOk, hp, hl, lineK, hpl, hf, h32, bodyR, Same, litE, litL, litM]
        | true =>
        rw [h32] at hf
        cases hx : hexT (ix w 1) with
        | none =>
          rw [hx] at e1
          simp [stepOk, hp, hl, lineK, hpl, hev, h64, hf, h32, hx, e1, bodyR, Same, litE, litL, litM]
        | some b =>
          rw [hx] at e1
          have hb := hex_size hx
          have g64 := leI_t.1 h64
          have gev := eqI_t.1 hev
          have g32 := eqI_t.1 h32
          rw [Int.tmod_eq_emod_of_nonneg (by omega)] at gev g32
          have hfull : eqI ((ix w 1).size : Int) 64 = eqI (((o.code ++ b).size : Int).tmod 32) 0 := by
            rw [Int.tmod_eq_emod_of_nonneg (by omega), ByteArray.size_append]
            by_cases h : (ix w 1).size = 64
            · rw [eqI_t.2 (by omega), eqI_t.2 (by omega)]
            · rw [eqI_f.2 (by omega), eqI_f.2 (by omega)]
          simp [stepOk, hp, hl, lineK, hpl, hev, h64, hf, h32, hx, e1, bodyR, Same, litE, litL, litM]
          exact ⟨rfl, .inr (.inl ⟨rfl, .inr rfl, hfull⟩)⟩
      all_goals simp [stepOk, hp, hl, lineK, Same, litE, litL, litM]
  · have hp : ix partsL 2 = 3 := rfl
    cases hl : eqI (w.length : Int) 3 with
    | false => simp [stepOk, hp, hl, lineK, Same]
    | true =>
      have hn := named_ix hall (i := 1) (by have := lenI (n := 3) hl; omega)
      have he := numT_eq (ix w 2)
      cases hm : numRL (ix w 2).data.toList with
      | none =>
        rw [hm] at he
        rcases hst with ⟨rfl, rfl, hc⟩ | ⟨rfl, rfl | rfl, hf⟩ | ⟨rfl, rfl⟩ | ⟨rfl, rfl⟩ | ⟨rfl, rfl⟩ | ⟨rfl, rfl⟩
        all_goals simp [stepOk, hp, hl, lineK, hn, hm, he, bodyR, Same, litE, litL, litM]
      | some v =>
        rw [hm] at he
        rcases hst with ⟨rfl, rfl, hc⟩ | ⟨rfl, rfl | rfl, hf⟩ | ⟨rfl, rfl⟩ | ⟨rfl, rfl⟩ | ⟨rfl, rfl⟩ | ⟨rfl, rfl⟩
        all_goals simp [stepOk, hp, hl, lineK, hn, hm, he, bodyR, Same, litE, litL, litM]
        all_goals exact ⟨rfl, .inr (.inr (.inl ⟨rfl, rfl⟩))⟩
  · have hp : ix partsL 3 = 4 := rfl
    cases hl : eqI (w.length : Int) 4 with
    | false => simp [stepOk, hp, hl, lineK, Same]
    | true =>
      have hn := named_ix hall (i := 2) (by have := lenI (n := 4) hl; omega)
      have ha := numT_eq (ix w 1)
      have hb := numT_eq (ix w 3)
      cases hma : numRL (ix w 1).data.toList with
      | none =>
        rw [hma] at ha
        rcases hst with ⟨rfl, rfl, hc⟩ | ⟨rfl, rfl | rfl, hf⟩ | ⟨rfl, rfl⟩ | ⟨rfl, rfl⟩ | ⟨rfl, rfl⟩ | ⟨rfl, rfl⟩
        all_goals simp [stepOk, hp, hl, lineK, hn, hma, ha, bodyR, Same, litE, litL, litM]
      | some v =>
        rw [hma] at ha
        cases hmb : numRL (ix w 3).data.toList with
        | none =>
          rw [hmb] at hb
          rcases hst with ⟨rfl, rfl, hc⟩ | ⟨rfl, rfl | rfl, hf⟩ | ⟨rfl, rfl⟩ | ⟨rfl, rfl⟩ | ⟨rfl, rfl⟩ | ⟨rfl, rfl⟩
          all_goals simp [stepOk, hp, hl, lineK, hn, hma, ha, hmb, hb, bodyR, Same, litE, litL, litM]
        | some u =>
          rw [hmb] at hb
          rcases hst with ⟨rfl, rfl, hc⟩ | ⟨rfl, rfl | rfl, hf⟩ | ⟨rfl, rfl⟩ | ⟨rfl, rfl⟩ | ⟨rfl, rfl⟩ | ⟨rfl, rfl⟩
          all_goals simp [stepOk, hp, hl, lineK, hn, hma, ha, hmb, hb, bodyR, Same, litE, litL, litM]
          all_goals exact ⟨rfl, .inr (.inr (.inr (.inl ⟨rfl, rfl⟩)))⟩
  · have hp : ix partsL 4 = 3 := rfl
    cases hl : eqI (w.length : Int) 3 with
    | false => simp [stepOk, hp, hl, lineK, Same]
    | true =>
      have ha := numT_eq (ix w 1)
      have hb := numT_eq (ix w 2)
      cases hma : numRL (ix w 1).data.toList with
      | none =>
        rw [hma] at ha
        rcases hst with ⟨rfl, rfl, hc⟩ | ⟨rfl, rfl | rfl, hf⟩ | ⟨rfl, rfl⟩ | ⟨rfl, rfl⟩ | ⟨rfl, rfl⟩ | ⟨rfl, rfl⟩
        all_goals simp [stepOk, hp, hl, lineK, hma, ha, bodyR, Same, litE, litL, litM]
      | some v =>
        rw [hma] at ha
        cases hmb : numRL (ix w 2).data.toList with
        | none =>
          rw [hmb] at hb
          rcases hst with ⟨rfl, rfl, hc⟩ | ⟨rfl, rfl | rfl, hf⟩ | ⟨rfl, rfl⟩ | ⟨rfl, rfl⟩ | ⟨rfl, rfl⟩ | ⟨rfl, rfl⟩
          all_goals simp [stepOk, hp, hl, lineK, hma, ha, hmb, hb, bodyR, Same, litE, litL, litM]
        | some u =>
          rw [hmb] at hb
          rcases hst with ⟨rfl, rfl, hc⟩ | ⟨rfl, rfl | rfl, hf⟩ | ⟨rfl, rfl⟩ | ⟨rfl, rfl⟩ | ⟨rfl, rfl⟩ | ⟨rfl, rfl⟩
          all_goals simp [stepOk, hp, hl, lineK, hma, ha, hmb, hb, bodyR, Same, litE, litL, litM]
          all_goals exact ⟨rfl, .inr (.inr (.inr (.inr (.inl ⟨rfl, rfl⟩))))⟩
  · have hp : ix partsL 5 = 1 := rfl
    cases hl : eqI (w.length : Int) 1 with
    | false => simp [stepOk, hp, hl, lineK, Same]
    | true =>
      rcases hst with ⟨rfl, rfl, hc⟩ | ⟨rfl, rfl | rfl, hf⟩ | ⟨rfl, rfl⟩ | ⟨rfl, rfl⟩ | ⟨rfl, rfl⟩ | ⟨rfl, rfl⟩
      all_goals simp [stepOk, hp, hl, lineK, bodyR, Same, litE, litL, litM]
      all_goals exact ⟨rfl, .inr (.inr (.inr (.inr (.inr ⟨rfl, rfl⟩))))⟩
  · have hs : stepOk stage k w = false := by
      have : ltI (k : Int) 6 = false := ltI_f.2 (by omega)
      simp [stepOk, this]
    have hq : lineK ⟨o, part, full⟩ k w = none := by
      unfold lineK
      split <;> first | omega | rfl
    simp [hs, hq, Same]
end Go.Pm

/- ZkR17: contracts: the reference's Read. -/
namespace Go.Pm
open Go Go.Proofs
attribute [-simp] List.getElem?_map

theorem startGood : startQ.Good 0 0 := ⟨by decide, by decide, by decide, by decide, by decide, by decide, fun d h => (by cases h), fun d h => (by cases h)⟩

set_option maxHeartbeats 4000000 in
theorem call8 (t : ByteArray) (hs : t.size ≤ 1048576) : PCalls Zk.pg 8 [.str t] fun out => out = .ret (refAV t) := by
  refine ok8.pcallsD 1 (by simp) ?_
  generalize hX : refAV t = X
  simp [c8]
  refine br_cond rfl (fun h0 => ?_) (fun h0 => ?_)
  · simp [cr8, postD_ret, permD, mapO]
    rw [← hX]
    simp [refAV, refRes, h0, noDeckQ]
  have h200 : t.size ≤ 200000 := by have := ltI_f.1 h0; omega
  simp
  have hlen := len_data t
  refine wpS_loopS (ι := (Nat × Nat × Nat × Nat × QSt) × (Nat × Nat × Nat) × Nat) (fun g => [(0, .str t), (2, .ptr 0 0 0), (5, .ptr 1 1 0), (6, .int .i64 g.1.2.2.1), (7, .int .i64 g.1.2.1), (8, .int .i64 g.1.1)])
    (fun g => memQ g.1.2.2.2.2 g.2.1 g.2.2) (fun g => t.size - g.1.1)
    (fun g => g.1.2.1 ≤ g.1.1 ∧ g.1.1 ≤ t.size ∧ g.1.2.2.1 ≤ g.1.2.1 ∧ t.size - g.1.2.1 < g.1.2.2.2.1 ∧ (∀ j, g.1.2.1 ≤ j → j < g.1.1 → byteAt t j ≠ 10) ∧ g.1.2.2.2.2.Good g.1.2.1 g.1.2.2.1 ∧
      refL g.1.2.2.2.1 g.1.2.2.2.2 g.1.2.2.1 (t.data.toList.drop g.1.2.1) = refL (t.size + 1) startQ 0 t.data.toList)
    ((0, 0, 0, t.size + 1, startQ), (2, 3, 4), 5) ⟨Nat.le_refl _, Nat.zero_le _, Nat.le_refl _, (by show t.size - 0 < t.size + 1; omega), fun j _ h => absurd h (Nat.not_lt_zero j), startGood, by simp⟩ ?_ ?_
  · refine Sim.trans ?_ (Sim.nil_cell (pos := 1) (g := 1) (vs := [.str ⟨#[]⟩, .str ⟨#[]⟩, .nilS, .nilS, .nilS, .int .i64 0, .bool false]) 2 65 (sz := 2) (by decide) rfl rfl)
    refine Sim.trans ?_ (Sim.nil_cell (pos := 1) (g := 1) (vs := [.str ⟨#[]⟩, .str ⟨#[]⟩, .row 2 2 2 0 0, .nilS, .nilS, .int .i64 0, .bool false]) 3 77 (sz := 3) (by decide) rfl rfl)
    refine Sim.trans ?_ (Sim.nil_cell (pos := 1) (g := 1) (vs := [.str ⟨#[]⟩, .str ⟨#[]⟩, .row 2 2 2 0 0, .row 3 3 3 0 0, .nilS, .int .i64 0, .bool false]) 4 79 (sz := 2) (by decide) rfl rfl)
    exact Sim.of_le (Env.le_of (by simp)) (Mem.le_of rfl rfl)
  rintro ⟨⟨i, fr, n, f, S⟩, G, nx⟩ ⟨hfi, hi, hnf, hf, hseg, hG, hrd⟩
  simp only at hfi hi hnf hf hseg hG hrd
  have hw : IntKind.i64.wrap ((i : Int) + 1) = i + 1 := wrap64 (by omega) (by omega)
  have hwn : IntKind.i64.wrap ((n : Int) + 1) = n + 1 := wrap64 (by omega) (by omega)
  obtain ⟨M, hM⟩ : ∃ M, M = memQ S G nx := ⟨_, rfl⟩
  simp only [← hM]
  simp
  refine br_cond rfl (fun h1 => ?_) (fun h1 => ?_)
  · have hlt : i < t.size := by have := ltI_t.1 h1; omega
    simp [h1, idxS]
    refine br_cond rfl (fun h2 => ?_) (fun h2 => ?_)
    · have hne : byteAt t i ≠ 10 := fun e => by rw [e] at h2; simp [eqI] at h2
      simp [hw]
      exact ⟨i + 1, fr, n, f, S, ⟨by omega, by omega, hnf, hf, fun j h h' => by
        by_cases hj : j = i
        · rw [hj]; exact hne
        · exact hseg j h (by omega), hG, hrd⟩, by omega, G.1, G.2.1, G.2.2, nx, Sim.of_le (Env.le_of (by simp)) (by rw [hM]; exact Mem.le_refl _)⟩
    have h10 : byteAt t i = 10 := u8_eq' (by have := eqI_t.1 (show eqI (byteAt t i).toNat 10 = true by simpa using h2); show (byteAt t i).toNat = 10; omega)
    have hb1 : (fr : Int) ≤ i := by omega
    have hb2 : (i : Int) ≤ t.size := by omega
    have hesz : (t.extract fr i).size = i - fr := by rw [ByteArray.size_extract]; omega
    have hfit : S.Fit := ⟨hG.part, by have := hG.code; omega, by have := hG.defs; omega, by have := hG.refs; omega, by have := hG.lines; omega⟩
    have hcut : cutN (t.data.toList.drop fr) = some ((t.extract fr i).data.toList, t.data.toList.drop (i + 1)) := by
      rw [drop_seg hfi hlt, h10]
      exact cut_some (seg_mem hseg hi)
    obtain ⟨f, rfl⟩ : ∃ g, f = g + 1 := ⟨f - 1, by omega⟩
    have hst : refL (f + 1) S n (t.data.toList.drop fr) = match lineQ S (t.extract fr i) with
        | none => (none, n)
        | some S' => refL f S' (n + 1) (t.data.toList.drop (i + 1)) := by
      rw [refL, hcut]; rfl
    rw [hst] at hrd
    simp [sliceA, boundsA, hb1, hb2]
    rw [hM]
    refine xcall_r (call28 (G := G) (nx := nx) (s := t.extract fr i) (by omega) hfit) ?_ ?_
    · rintro v m' ⟨S', G', nx', rfl, ⟨h, hl⟩ | ⟨h, hl⟩⟩
      · injection h with h; subst h
        rw [hl] at hrd
        have hG' := lineQ_good hl hG (by omega)
        rw [hesz] at hG'
        simp [hw, hwn]
        refine ⟨i + 1, i + 1, n + 1, f, S', ⟨Nat.le_refl _, by omega, by omega, by omega, fun j h h' => by omega, ?_, hrd⟩, by omega, G'.1, G'.2.1, G'.2.2, nx', Sim.of_le (Env.le_of (by simp)) (Mem.le_refl _)⟩
        exact ⟨hG'.part, by have := hG'.code; omega, hG'.defs, hG'.refs, hG'.lines, hG'.name, hG'.dname, hG'.rname⟩
      · injection h with h; subst h
        rw [hl] at hrd
        simp [memQ, cr8, postD_ret, permD, mapO]
        rw [← hX]
        simp [refAV, refRes, h0, ← hrd, noDeckQ]
    · rintro v m' ⟨S', G', nx', rfl, ⟨h, hl⟩ | ⟨h, hl⟩⟩
      · cases h
      · cases h
  · have hie : i = t.size := by have := ltI_f.1 h1; omega
    simp
    refine br_guard_f rfl (fun h2 => ?_) (fun h2 => ?_)
    · have hlt := ltI_t.1 h2
      have hno : cutN (t.data.toList.drop fr) = none := by
        have e : t.data.toList.drop fr = (t.extract fr i).data.toList := by rw [seg_data, List.take_of_length_le (by rw [List.length_drop, hlen]; omega)]
        rw [e]
        exact cut_none (seg_mem hseg hi)
      have hnn : t.data.toList.drop fr ≠ [] := fun e => by
        have := congrArg List.length e
        rw [List.length_drop, hlen] at this
        simp at this; omega
      obtain ⟨f, rfl⟩ : ∃ g, f = g + 1 := ⟨f - 1, by omega⟩
      have hst : refL (f + 1) S n (t.data.toList.drop fr) = (none, n) := by rw [refL, hno]; simp [hnn]
      rw [hst] at hrd
      rw [hM]
      simp [h2, memQ, cr8, postD_ret, permD, mapO]
      rw [← hX]
      simp [refAV, refRes, h0, ← hrd, noDeckQ]
    · have hge := ltI_f.1 h2
      have hdn : t.data.toList.drop fr = [] := List.drop_of_length_le (by rw [hlen]; omega)
      obtain ⟨f, rfl⟩ : ∃ g, f = g + 1 := ⟨f - 1, by omega⟩
      have hst : refL (f + 1) S n (t.data.toList.drop fr) = (some S, n) := by rw [hdn]; simp [refL, cutN]
      rw [hst] at hrd
      obtain ⟨⟨nm, code, defs, refs, lines⟩, part, full⟩ := S
      obtain ⟨gd, gr, gl⟩ := G
      rw [hM]
      simp [h2, memQ, nilCheckA]
      refine br_cond rfl (fun h3 => ?_) (fun h3 => ?_)
      · simp at h3
        simp [memQ, cr8, postD_ret, permD, mapO]
        rw [← hX]
        simp [refAV, refRes, h0, ← hrd, h3, noDeckQ]
      simp at h3
      obtain ⟨g1, g2, g3, g4, g5, g6, g7, g8⟩ := hG
      simp only at g1 g2 g3 g4 g5 g6 g7 g8
      have small : Deck.Small ⟨nm, code, defs, refs, lines⟩ := ⟨by simp only; omega, by simp only; omega, by simp only; omega, by simp only; omega, by simp only; omega, fun d h => by have := g7 d h; omega, fun d h => by have := g8 d h; omega⟩
      have t1 : (defs.map DDef.av).take defs.length = defs.map DDef.av := List.take_of_length_le (by simp)
      have t2 : (refs.map DRef.av).take refs.length = refs.map DRef.av := List.take_of_length_le (by simp)
      have t3 : (lines.map DLine.av).take lines.length = lines.map DLine.av := List.take_of_length_le (by simp)
      simp [nilCheckA]
      refine xcall_p ((call29 ⟨nm, code, defs, refs, lines⟩ small).flip (.agg (.cons (.cons (.list (p := false) (.list (p := false) (.list (p := false) (.refl [])))))) (.refl []))) (by simp [t1, t2, t3]) ?_
      simp
      refine br_cond rfl (fun h4 => ?_) (fun h4 => ?_)
      · simp at h4
        simp [cr8, postD_ret, permD, mapO]
        rw [← hX]
        simp [refAV, refRes, h0, ← hrd, h3, h4, noDeckQ]
      · simp at h4
        simp [nilCheckA, cr8, postD_ret, permD, mapO, t1, t2, t3]
        rw [← hX]
        simp [refAV, refRes, h0, ← hrd, h3, h4, Deck.av]
end Go.Pm

/- ZkV5: plain: the linker and the reference read the same of a text. -/
namespace Go.Pm
open Go Go.Proofs

def SameR : Option RdSt × Nat → Option QSt × Nat → Prop
  | (some S, n), (some Q, m) => Cor S Q ∧ n = m
  | (none, n), (none, m) => n = m
  | _, _ => False

theorem words_all (x : List UInt8) : ((splW [] x).map mkB).all okPart = ((splW [] x).map mkB).all namedF := by
  congr 1
  funext y
  exact okPart_eq y

theorem mkB_ne {x : List UInt8} (h : x ≠ []) : mkB x ≠ ⟨#[]⟩ := fun e => h (by have := congrArg (fun z : ByteArray => z.data.toList) e; simpa using this)

theorem lineQ_eq (Q : QSt) (x : List UInt8) : lineQ Q (mkB x) = if ((splW [] x).map mkB).all namedF then (if eqI Q.part 6 then none else lineK Q (kOf (ix ((splW [] x).map mkB) 0)) ((splW [] x).map mkB)) else none := by
  unfold lineQ wordsF
  rw [data_mkB]
  by_cases hall : ((splW [] x).map mkB).all namedF = true
  · rw [if_pos hall, if_pos]
    refine List.all_eq_true.2 fun y hy => ?_
    have h1 := List.all_eq_true.1 hall _ (List.mem_map_of_mem hy)
    have : y ≠ [] := fun e => by
      rw [e] at h1
      unfold namedF at h1
      rw [eqS_dec] at h1
      simp [mkB] at h1
    simp [this]
  · rw [if_neg hall]
    by_cases hne : ((splW [] x).all fun x => decide (x ≠ [])) = true
    · rw [if_pos hne]
      simp only
      split
      · rfl
      · cases hl : lineK Q (kOf (ix ((splW [] x).map mkB) 0)) ((splW [] x).map mkB) with
        | none => rfl
        | some Q' =>
          refine absurd (line_named (fun y hy => ?_) hl) hall
          obtain ⟨z, hz, rfl⟩ := List.mem_map.1 hy
          exact mkB_ne (by simpa using List.all_eq_true.1 hne z hz)
    · rw [if_neg hne]

theorem texts_same : ∀ (f : Nat) (S : RdSt) (Q : QSt) (t : ByteArray), Cor S Q → t.size < f → SameR (readL f S t) (refL f Q S.n t.data.toList)
  | 0, _, _, _, _, h => by omega
  | f + 1, S, Q, t, hC, hf => by
    unfold readL refL
    by_cases he : t = ⟨#[]⟩
    · have : eqS t ⟨#[]⟩ = true := eqS_t.2 he
      rw [if_pos this, he]
      exact ⟨hC, rfl⟩
    · have hes : eqS t ⟨#[]⟩ = false := by rw [eqS_dec]; simp [he]
      have hne : t.data.toList ≠ [] := fun e => he (by rw [← mkB_data t, e]; rfl)
      rw [hes, nextLine_eq]
      simp only [Bool.false_eq_true, if_false]
      cases hc : cutN t.data.toList with
      | none => simp only [hne, if_false]; exact rfl
      | some p =>
        obtain ⟨x, y⟩ := p
        simp only
        rw [words_all, lineQ_eq]
        by_cases hall : ((splW [] x).map mkB).all namedF = true
        · rw [if_pos hall, if_pos hall]
          have hw : ∀ z ∈ (splW [] x).map mkB, z ≠ ⟨#[]⟩ := fun z hz e => by
            have := List.all_eq_true.1 hall z hz
            rw [e] at this
            unfold namedF at this
            rw [eqS_dec] at this
            simp at this
          have hs := line_same hC hall hw
          simp only
          generalize stepR S ((splW [] x).map mkB) = a at hs
          generalize (if eqI (Q.part : Int) 6 then none else lineK Q (kOf (ix ((splW [] x).map mkB) 0)) ((splW [] x).map mkB)) = b at hs
          have hsz := cutN_size hc
          rw [len_data] at hsz
          cases a with
          | none => cases b with
            | none => exact rfl
            | some Q' => exact hs.elim
          | some S' => cases b with
            | none => exact hs.elim
            | some Q' =>
              obtain ⟨h1, h2⟩ := hs
              have := texts_same f S' Q' (mkB y) h1 (by rw [mkB_size]; omega)
              rw [h2, data_mkB] at this
              exact this
        · rw [if_neg hall, if_neg hall]
          exact rfl

theorem cor_start : Cor startR startQ := ⟨rfl, .inl ⟨rfl, rfl, rfl⟩⟩

theorem reads_same (t : ByteArray) : readRes t = refRes t := by
  unfold readRes refRes
  split
  · rfl
  · have h := texts_same (t.size + 1) startR startQ t cor_start (by omega)
    have h0 : startR.n = 0 := rfl
    rw [h0] at h
    generalize readL (t.size + 1) startR t = a at h
    generalize refL (t.size + 1) startQ 0 t.data.toList = b at h
    obtain ⟨a1, n⟩ := a
    obtain ⟨b1, m⟩ := b
    cases a1 with
    | none => cases b1 with
      | none => have : n = m := h; subst this; rfl
      | some Q => exact h.elim
    | some S => cases b1 with
      | none => exact h.elim
      | some Q =>
        obtain ⟨hC, rfl⟩ : Cor S Q ∧ n = m := h
        have hst : eqI (S.stage : Int) 6 = eqI (Q.part : Int) 6 := by
          rcases hC.st with ⟨e1, e2, _⟩ | ⟨e1, e2 | e2, _⟩ | ⟨e1, e2⟩ | ⟨e1, e2⟩ | ⟨e1, e2⟩ | ⟨e1, e2⟩ <;> rw [e1, e2] <;> rfl
        simp only [hst, hC.o]
        rfl
end Go.Pm

/- ZkS7: code, resolved. Written by gen.py out of what ShowSC.lean printed. -/
namespace Go.Pm
open Go Go.Proofs

/-- slices.Concat[[]ironbark/api.Deck,ironbark/api.Deck] -/
def c88 : SC :=
  (.seq (.ops [⟨(some 2), .plain .mv, [.lit .nilS], none⟩] [])
  (.seq (.ops [⟨(some 3), .plain .mv, [.lit (.int .i64 0)], none⟩] [])
  (.seq (.seq (.ops [⟨(some 9), .plain .mv, [.tmp 0], none⟩,
    ⟨(some 10), .plain (.len 1), [.tmp 9], none⟩,
    ⟨(some 11), .plain .mv, [.lit (.int .i64 0)], none⟩] [])
  (.block 0
   (.loop
    (.seq (.ops [⟨(some 12), .plain (.bin .lss), [.tmp 11, .tmp 10], none⟩] [])
    (.seq (.cond (.tmp 12)
     .skip
     (.exit 0))
    (.seq (.block 1
     (.seq (.ops [⟨(some 13), .plain (.indexAddr 1), [.tmp 9, .tmp 11], none⟩,
       ⟨(some 14), .plain (.load false 1), [.tmp 13], none⟩,
       ⟨(some 5), .plain .mv, [.tmp 14], none⟩] [13, 14])
     (.seq (.ops [⟨(some 15), .plain .mv, [.tmp 3], none⟩,
       ⟨(some 16), .plain .mv, [.tmp 5], none⟩,
       ⟨(some 17), .plain (.len 1), [.tmp 16], none⟩,
       ⟨(some 18), .plain (.bin .add), [.tmp 15, .tmp 17], none⟩,
       ⟨(some 3), .plain .mv, [.tmp 18], none⟩] [15, 16, 17, 18])
     (.seq (.ops [⟨(some 19), .plain .mv, [.tmp 3], none⟩,
       ⟨(some 20), .plain (.bin .lss), [.tmp 19, .lit (.int .i64 0)], none⟩] [19])
     (.cond (.tmp 20)
      (.ops [⟨(some 21), .plain (.mkIface 9), [.lit (.str ⟨#[108, 101, 110, 32, 111, 117, 116, 32, 111, 102, 32, 114, 97, 110, 103, 101]⟩)], none⟩,
        ⟨none, .panic, [.tmp 21], none⟩] [21])
      .skip)))))
    (.ops [⟨(some 22), .plain (.bin .add), [.tmp 11, .lit (.int .i64 1)], none⟩,
      ⟨(some 11), .plain .mv, [.tmp 22], none⟩] [22])))))))
  (.seq (.ops [⟨(some 23), .plain .mv, [.tmp 3], none⟩,
    ⟨(some 24), .call 124, [.lit .nilS, .tmp 23], none⟩,
    ⟨(some 6), .plain .mv, [.tmp 24], none⟩] [23, 24])
  (.seq (.seq (.ops [⟨(some 25), .plain .mv, [.tmp 0], none⟩,
    ⟨(some 26), .plain (.len 1), [.tmp 25], none⟩,
    ⟨(some 27), .plain .mv, [.lit (.int .i64 0)], none⟩] [])
  (.block 2
   (.loop
    (.seq (.ops [⟨(some 28), .plain (.bin .lss), [.tmp 27, .tmp 26], none⟩] [])
    (.seq (.cond (.tmp 28)
     .skip
     (.exit 2))
    (.seq (.block 3
     (.seq (.ops [⟨(some 29), .plain (.indexAddr 1), [.tmp 25, .tmp 27], none⟩,
       ⟨(some 30), .plain (.load false 1), [.tmp 29], none⟩,
       ⟨(some 8), .plain .mv, [.tmp 30], none⟩] [29, 30])
     (.ops [⟨(some 31), .plain .mv, [.tmp 6], none⟩,
       ⟨(some 32), .plain .mv, [.tmp 8], none⟩,
       ⟨(some 33), .plain (.append 27 5 104), [.tmp 31, .tmp 32], none⟩,
       ⟨(some 6), .plain .mv, [.tmp 33], none⟩] [31, 32, 33])))
    (.ops [⟨(some 34), .plain (.bin .add), [.tmp 27, .lit (.int .i64 1)], none⟩,
      ⟨(some 27), .plain .mv, [.tmp 34], none⟩] [34])))))))
  (.seq (.ops [⟨(some 35), .plain .mv, [.tmp 6], none⟩,
    ⟨(some 2), .plain .mv, [.tmp 35], none⟩] [35])
  .ret))))))
def cr88 : List Res := [(2, none)]
theorem ok88 : FOk Zk.pg.toProgram Zk.imp 88 c88 cr88 Tryz.f88.ntmps := ⟨Tryz.f88, _, Tryz.func88, rfl, by kernel_rfl, by kernel_rfl, by kernel_rfl, rfl⟩

/-- slices.Grow[[]ironbark/api.Deck,ironbark/api.Deck] -/
def c124 : SC :=
  (.seq (.ops [⟨(some 4), .plain .mv, [.lit .nilS], none⟩] [])
  (.seq (.seq (.ops [⟨(some 5), .plain .mv, [.tmp 1], none⟩,
    ⟨(some 6), .plain (.bin .lss), [.tmp 5, .lit (.int .i64 0)], none⟩] [5])
  (.cond (.tmp 6)
   (.ops [⟨(some 7), .plain (.mkIface 9), [.lit (.str ⟨#[99, 97, 110, 110, 111, 116, 32, 98, 101, 32, 110, 101, 103, 97, 116, 105, 118, 101]⟩)], none⟩,
     ⟨none, .panic, [.tmp 7], none⟩] [7])
   .skip))
  (.seq (.seq (.ops [⟨(some 8), .plain .mv, [.tmp 1], none⟩,
    ⟨(some 9), .plain .mv, [.tmp 0], none⟩,
    ⟨(some 10), .plain (.len 2), [.tmp 9], none⟩,
    ⟨(some 11), .plain .mv, [.tmp 0], none⟩,
    ⟨(some 12), .plain (.len 1), [.tmp 11], none⟩,
    ⟨(some 13), .plain (.bin .sub), [.tmp 10, .tmp 12], none⟩,
    ⟨(some 14), .plain (.bin .sub), [.tmp 8, .tmp 13], none⟩,
    ⟨(some 1), .plain .mv, [.tmp 14], none⟩] [8, 9, 10, 11, 12, 13, 14])
  (.seq (.ops [⟨(some 15), .plain .mv, [.tmp 1], none⟩,
    ⟨(some 16), .plain (.bin .gtr), [.tmp 15, .lit (.int .i64 0)], none⟩] [15])
  (.cond (.tmp 16)
   (.ops [⟨(some 17), .plain .mv, [.tmp 0], none⟩,
     ⟨(some 18), .plain .mv, [.tmp 0], none⟩,
     ⟨(some 19), .plain (.len 2), [.tmp 18], none⟩,
     ⟨(some 20), .plain (.slice false true 5), [.tmp 17, .tmp 19], none⟩,
     ⟨(some 21), .plain .mv, [.tmp 1], none⟩,
     ⟨(some 22), .plain (.growNil 27 [(.str ⟨#[]⟩), (.str ⟨#[]⟩), .nilS, .nilS, .nilS] 104), [.tmp 20, .tmp 21], none⟩,
     ⟨(some 23), .plain .mv, [.tmp 0], none⟩,
     ⟨(some 24), .plain (.len 1), [.tmp 23], none⟩,
     ⟨(some 25), .plain (.slice false true 5), [.tmp 22, .tmp 24], none⟩,
     ⟨(some 0), .plain .mv, [.tmp 25], none⟩] [17, 18, 19, 20, 21, 22, 23, 24, 25])
   .skip)))
  (.seq (.ops [⟨(some 26), .plain .mv, [.tmp 0], none⟩,
    ⟨(some 4), .plain .mv, [.tmp 26], none⟩] [26])
  .ret))))
def cr124 : List Res := [(4, none)]
theorem ok124 : FOk Zk.pg.toProgram Zk.imp 124 c124 cr124 Tryz.f124.ntmps := ⟨Tryz.f124, _, Tryz.func124, rfl, by kernel_rfl, by kernel_rfl, by kernel_rfl, rfl⟩

/-- ironbark/link.all -/
def c33 : SC :=
  (.seq (.ops [⟨(some 4), .plain .mv, [.lit (.bool false)], none⟩] [])
  (.seq (.seq (.ops [⟨(some 7), .plain .mv, [.tmp 0], none⟩,
    ⟨(some 8), .plain (.buildRow 35 1 1 [.nilS] [0]), [.tmp 7], none⟩,
    ⟨(some 9), .plain .mv, [.tmp 1], none⟩,
    ⟨(some 10), .plain (.append 35 1 24), [.tmp 8, .tmp 9], none⟩,
    ⟨(some 11), .call 88, [.tmp 10], none⟩,
    ⟨(some 12), .plain (.len 1), [.tmp 11], none⟩,
    ⟨(some 13), .plain .mv, [.lit (.int .i64 0)], none⟩] [7, 8, 9, 10])
  (.block 0
   (.loop
    (.seq (.ops [⟨(some 14), .plain (.bin .lss), [.tmp 13, .tmp 12], none⟩] [])
    (.seq (.cond (.tmp 14)
     .skip
     (.exit 0))
    (.seq (.block 1
     (.seq (.ops [⟨(some 15), .plain (.indexAddr 5), [.tmp 11, .tmp 13], none⟩,
       ⟨(some 16), .plain (.load true 5), [.tmp 15], none⟩,
       ⟨(some 6), .plain (.alloc [(.str ⟨#[]⟩), (.str ⟨#[]⟩), .nilS, .nilS, .nilS]), [], none⟩,
       ⟨none, .plain (.store 5), [.tmp 6, .tmp 16], none⟩] [15, 16])
     (.seq (.ops [⟨(some 17), .plain (.load true 5), [.tmp 6], none⟩,
       ⟨(some 18), .call 27, [.tmp 17], none⟩,
       ⟨(some 19), .plain (.un .not), [.tmp 18], none⟩] [17, 18])
     (.cond (.tmp 19)
      (.seq (.ops [⟨(some 4), .plain .mv, [.lit (.bool false)], none⟩] [])
      .ret)
      .skip))))
    (.ops [⟨(some 20), .plain (.bin .add), [.tmp 13, .lit (.int .i64 1)], none⟩,
      ⟨(some 13), .plain .mv, [.tmp 20], none⟩] [20])))))))
  (.seq (.ops [⟨(some 4), .plain .mv, [.lit (.bool true)], none⟩] [])
  .ret)))
def cr33 : List Res := [(4, none)]
theorem ok33 : FOk Zk.pg.toProgram Zk.imp 33 c33 cr33 Tryz.f33.ntmps := ⟨Tryz.f33, _, Tryz.func33, rfl, by kernel_rfl, by kernel_rfl, by kernel_rfl, rfl⟩

/-- ironbark/link.begin -/
def c70 : SC :=
  (.seq (.ops [⟨(some 4), .plain .mv, [.lit (.const (.pointer none))], none⟩] [])
  (.seq (.ops [⟨(some 8), .plain .mv, [.tmp 0], none⟩,
    ⟨(some 9), .plain (.build [(.int .i64 0), (.str ⟨#[]⟩), .nilS, .nilS, .nilS] [(0, 1)]), [.tmp 8], none⟩,
    ⟨(some 10), .plain .mkMap, [], none⟩,
    ⟨(some 11), .plain .mkMap, [], none⟩,
    ⟨(some 12), .plain .mv, [.tmp 0], none⟩,
    ⟨(some 13), .plain (.build [(.int .i64 0), (.str ⟨#[]⟩), .nilS, .nilS, .nilS, .nilS, (.const (.map none)), (.const (.map none)), (.int .i64 0)] [(0, 5), (6, 1), (7, 1), (8, 1)]), [.tmp 9, .tmp 10, .tmp 11, .tmp 12], none⟩,
    ⟨(some 14), .plain (.box 9), [.tmp 13], none⟩,
    ⟨(some 5), .plain .mv, [.tmp 14], none⟩] [8, 9, 10, 11, 12, 13, 14])
  (.seq (.seq (.ops [⟨(some 15), .plain .mv, [.tmp 1], none⟩,
    ⟨(some 16), .plain (.len 1), [.tmp 15], none⟩,
    ⟨(some 17), .plain .mv, [.lit (.int .i64 0)], none⟩] [])
  (.block 0
   (.loop
    (.seq (.ops [⟨(some 18), .plain (.bin .lss), [.tmp 17, .tmp 16], none⟩] [])
    (.seq (.cond (.tmp 18)
     .skip
     (.exit 0))
    (.seq (.block 1
     (.seq (.ops [⟨(some 19), .plain (.indexAddr 2), [.tmp 15, .tmp 17], none⟩,
       ⟨(some 20), .plain (.load true 2), [.tmp 19], none⟩,
       ⟨(some 7), .plain (.alloc [(.str ⟨#[]⟩), (.int .i64 0)]), [], none⟩,
       ⟨none, .plain (.store 2), [.tmp 7, .tmp 20], none⟩] [19, 20])
     (.draw (.step ⟨(some 21), .plain .mv, [.tmp 5], none⟩
       (.step ⟨(some 22), .plain .nilCheck, [.tmp 21], none⟩
       (.step ⟨(some 23), .plain (.fieldAddr 6), [.tmp 22], none⟩
       (.step ⟨(some 24), .plain (.load false 1), [.tmp 23], none⟩
       (.step ⟨(some 25), .plain (.fieldAddr 0), [.tmp 7], none⟩
       (.step ⟨(some 26), .plain (.load false 1), [.tmp 25], none⟩
       (.step ⟨(some 27), .plain (.fieldAddr 1), [.tmp 7], none⟩
       (.step ⟨(some 28), .plain (.load false 1), [.tmp 27], none⟩
       (.step ⟨none, .plain (.mapUpdate .str), [.tmp 24, .tmp 26, .tmp 28], none⟩
       .done))))))))) [21, 22, 23, 24, 25, 26, 27, 28])))
    (.ops [⟨(some 29), .plain (.bin .add), [.tmp 17, .lit (.int .i64 1)], none⟩,
      ⟨(some 17), .plain .mv, [.tmp 29], none⟩] [29])))))))
  (.seq (.ops [⟨(some 30), .plain .mv, [.tmp 5], none⟩,
    ⟨(some 4), .plain .mv, [.tmp 30], none⟩] [30])
  .ret))))
def cr70 : List Res := [(4, none)]
theorem ok70 : FOk Zk.pg.toProgram Zk.imp 70 c70 cr70 Tryz.f70.ntmps := ⟨Tryz.f70, _, Tryz.func70, rfl, by kernel_rfl, by kernel_rfl, by kernel_rfl, rfl⟩

/-- (*ironbark/link.linking).put -/
def c71 : SC :=
  (.seq (.ops [⟨(some 4), .plain (.box 5), [.tmp 1], none⟩] [])
  (.seq (.seq (.draw (.step ⟨(some 16), .plain .mv, [.tmp 0], none⟩
    (.step ⟨(some 17), .plain .nilCheck, [.tmp 16], none⟩
    (.step ⟨(some 18), .plain (.fieldAddr 6), [.tmp 17], none⟩
    (.step ⟨(some 19), .plain (.load false 1), [.tmp 18], none⟩
    (.step ⟨(some 20), .plain (.fieldAddr 0), [.tmp 4], none⟩
    (.step ⟨(some 21), .plain (.load false 1), [.tmp 20], none⟩
    (.step ⟨(some 22), .plain (.lookup .str (.int .i64 0) true), [.tmp 19, .tmp 21], none⟩
    (.step ⟨(some 15), .plain .mv, [.tmp 22], none⟩
    (.step ⟨(some 23), .plain (.extract 0), [.tmp 15], none⟩
    (.step ⟨(some 24), .plain (.extract 1), [.tmp 15], none⟩
    (.step ⟨(some 6), .plain .mv, [.tmp 23], none⟩
    (.step ⟨(some 7), .plain .mv, [.tmp 24], none⟩
    .done)))))))))))) [16, 17, 18, 19, 20, 21, 22, 15, 23, 24, 6])
  (.seq (.draw (.step ⟨(some 25), .plain .mv, [.tmp 2], none⟩
    (.step ⟨(some 26), .plain .mv, [.tmp 25], none⟩
    (.step ⟨(some 27), .plain .mv, [.tmp 7], (some (26, true))⟩
    (.step ⟨(some 28), .plain .mv, [.tmp 27], (some (26, true))⟩
    (.step ⟨(some 29), .plain .mv, [.tmp 0], (some (28, false))⟩
    (.step ⟨(some 30), .plain .nilCheck, [.tmp 29], (some (28, false))⟩
    (.step ⟨(some 31), .plain (.fieldAddr 7), [.tmp 30], (some (28, false))⟩
    (.step ⟨(some 32), .plain (.load false 1), [.tmp 31], (some (28, false))⟩
    (.step ⟨(some 33), .plain (.fieldAddr 0), [.tmp 4], (some (28, false))⟩
    (.step ⟨(some 34), .plain (.load false 1), [.tmp 33], (some (28, false))⟩
    (.step ⟨(some 35), .plain (.lookup .str (.bool false) false), [.tmp 32, .tmp 34], (some (28, false))⟩
    (.step ⟨(some 36), .plain .pick, [.tmp 28, .lit (.bool true), .tmp 35], (some (26, true))⟩
    (.step ⟨(some 37), .plain .pick, [.tmp 26, .tmp 36, .lit (.bool false)], none⟩
    .done))))))))))))) [25, 26, 27, 28, 29, 30, 31, 32, 33, 34, 35, 36])
  (.cond (.tmp 37)
   (.ops [⟨(some 38), .plain (.fieldAddr 0), [.tmp 4], none⟩,
     ⟨(some 39), .plain (.load false 1), [.tmp 38], none⟩,
     ⟨(some 40), .plain (.build [(.int .i64 0), (.str ⟨#[]⟩)] [(0, 1), (1, 1)]), [.lit (.int .i64 6), .tmp 39], none⟩,
     ⟨(some 41), .plain (.mkIface 138), [.tmp 40], none⟩,
     ⟨none, .panic, [.tmp 41], none⟩] [38, 39, 40, 41])
   .skip)))
  (.seq (.ops [⟨(some 42), .plain .mv, [.tmp 0], none⟩,
    ⟨(some 43), .plain .nilCheck, [.tmp 42], none⟩,
    ⟨(some 44), .plain (.fieldAddr 8), [.tmp 43], none⟩,
    ⟨(some 45), .plain (.load false 1), [.tmp 44], none⟩,
    ⟨(some 46), .call 93, [.tmp 45], none⟩,
    ⟨(some 8), .plain .mv, [.tmp 46], none⟩] [42, 43, 44, 45, 46])
  (.seq (.draw (.step ⟨(some 47), .plain .mv, [.tmp 0], none⟩
    (.step ⟨(some 48), .plain .nilCheck, [.tmp 47], none⟩
    (.step ⟨(some 49), .plain (.fieldAddr 7), [.tmp 48], none⟩
    (.step ⟨(some 50), .plain (.load false 1), [.tmp 49], none⟩
    (.step ⟨(some 51), .plain (.fieldAddr 0), [.tmp 4], none⟩
    (.step ⟨(some 52), .plain (.load false 1), [.tmp 51], none⟩
    (.step ⟨none, .plain (.mapUpdate .str), [.tmp 50, .tmp 52, .lit (.bool true)], none⟩
    .done))))))) [47, 48, 49, 50, 51, 52])
  (.seq (.draw (.step ⟨(some 53), .plain .mv, [.tmp 0], none⟩
    (.step ⟨(some 54), .plain .mv, [.tmp 0], none⟩
    (.step ⟨(some 55), .plain .nilCheck, [.tmp 54], none⟩
    (.step ⟨(some 56), .plain (.fieldAddr 5), [.tmp 55], none⟩
    (.step ⟨(some 57), .plain (.load false 1), [.tmp 56], none⟩
    (.step ⟨(some 58), .plain (.load true 5), [.tmp 4], none⟩
    (.step ⟨(some 59), .plain (.buildRow 27 5 1 [(.str ⟨#[]⟩), (.str ⟨#[]⟩), .nilS, .nilS, .nilS] [0]), [.tmp 58], none⟩
    (.step ⟨(some 60), .plain (.append 27 5 104), [.tmp 57, .tmp 59], none⟩
    (.step ⟨(some 61), .plain .nilCheck, [.tmp 53], none⟩
    (.step ⟨(some 62), .plain (.fieldAddr 5), [.tmp 61], none⟩
    (.step ⟨none, .plain (.store 1), [.tmp 62, .tmp 60], none⟩
    .done))))))))))) [53, 54, 55, 56, 57, 58, 59, 60, 61, 62])
  (.seq (.draw (.step ⟨(some 63), .plain .mv, [.tmp 0], none⟩
    (.step ⟨(some 64), .plain .mv, [.tmp 0], none⟩
    (.step ⟨(some 65), .plain .nilCheck, [.tmp 64], none⟩
    (.step ⟨(some 66), .plain (.fieldAddr 0), [.tmp 65], none⟩
    (.step ⟨(some 67), .plain (.fieldAddr 4), [.tmp 66], none⟩
    (.step ⟨(some 68), .plain (.load false 1), [.tmp 67], none⟩
    (.step ⟨(some 69), .plain (.fieldAddr 0), [.tmp 4], none⟩
    (.step ⟨(some 70), .plain (.load false 1), [.tmp 69], none⟩
    (.step ⟨(some 71), .plain .mv, [.tmp 8], none⟩
    (.step ⟨(some 72), .plain (.build [(.str ⟨#[]⟩), (.int .i64 0)] [(0, 1), (1, 1)]), [.tmp 70, .tmp 71], none⟩
    (.step ⟨(some 73), .plain (.buildRow 65 2 1 [(.str ⟨#[]⟩), (.int .i64 0)] [0]), [.tmp 72], none⟩
    (.step ⟨(some 74), .plain (.append 65 2 24), [.tmp 68, .tmp 73], none⟩
    (.step ⟨(some 75), .plain .nilCheck, [.tmp 63], none⟩
    (.step ⟨(some 76), .plain (.fieldAddr 0), [.tmp 75], none⟩
    (.step ⟨(some 77), .plain (.fieldAddr 4), [.tmp 76], none⟩
    (.step ⟨none, .plain (.store 1), [.tmp 77, .tmp 74], none⟩
    .done)))))))))))))))) [63, 64, 65, 66, 67, 68, 69, 70, 71, 72, 73, 74, 75, 76, 77])
  (.seq (.seq (.ops [⟨(some 78), .plain (.load true 5), [.tmp 4], none⟩,
    ⟨(some 79), .call 112, [.tmp 78], none⟩,
    ⟨(some 80), .plain (.len 1), [.tmp 79], none⟩,
    ⟨(some 81), .plain .mv, [.lit (.int .i64 0)], none⟩] [78])
  (.block 0
   (.loop
    (.seq (.ops [⟨(some 82), .plain (.bin .lss), [.tmp 81, .tmp 80], none⟩] [])
    (.seq (.cond (.tmp 82)
     .skip
     (.exit 0))
    (.seq (.block 1
     (.seq (.ops [⟨(some 83), .plain (.indexAddr 2), [.tmp 79, .tmp 81], none⟩,
       ⟨(some 84), .plain (.load true 2), [.tmp 83], none⟩,
       ⟨(some 10), .plain (.alloc [(.str ⟨#[]⟩), (.int .i64 0)]), [], none⟩,
       ⟨none, .plain (.store 2), [.tmp 10, .tmp 84], none⟩] [83, 84])
     (.seq (.seq (.draw (.step ⟨(some 86), .plain .mv, [.tmp 0], none⟩
       (.step ⟨(some 87), .plain .nilCheck, [.tmp 86], none⟩
       (.step ⟨(some 88), .plain (.fieldAddr 6), [.tmp 87], none⟩
       (.step ⟨(some 89), .plain (.load false 1), [.tmp 88], none⟩
       (.step ⟨(some 90), .plain (.fieldAddr 0), [.tmp 10], none⟩
       (.step ⟨(some 91), .plain (.load false 1), [.tmp 90], none⟩
       (.step ⟨(some 92), .plain (.lookup .str (.int .i64 0) true), [.tmp 89, .tmp 91], none⟩
       (.step ⟨(some 85), .plain .mv, [.tmp 92], none⟩
       (.step ⟨(some 93), .plain (.extract 0), [.tmp 85], none⟩
       (.step ⟨(some 94), .plain (.extract 1), [.tmp 85], none⟩
       (.step ⟨(some 11), .plain .mv, [.tmp 93], none⟩
       (.step ⟨(some 12), .plain .mv, [.tmp 94], none⟩
       .done)))))))))))) [86, 87, 88, 89, 90, 91, 92, 85, 93, 94, 11])
     (.seq (.ops [⟨(some 95), .plain .mv, [.tmp 12], none⟩] [])
     (.cond (.tmp 95)
      (.seq (.seq (.ops [⟨(some 96), .plain .mv, [.tmp 2], none⟩] [])
      (.cond (.tmp 96)
       (.ops [⟨(some 97), .plain (.fieldAddr 0), [.tmp 10], none⟩,
         ⟨(some 98), .plain (.load false 1), [.tmp 97], none⟩,
         ⟨(some 99), .plain (.build [(.int .i64 0), (.str ⟨#[]⟩)] [(0, 1), (1, 1)]), [.lit (.int .i64 6), .tmp 98], none⟩,
         ⟨(some 100), .plain (.mkIface 138), [.tmp 99], none⟩,
         ⟨none, .panic, [.tmp 100], none⟩] [97, 98, 99, 100])
       .skip))
      (.exit 1))
      .skip)))
     (.seq (.draw (.step ⟨(some 101), .plain .mv, [.tmp 0], none⟩
       (.step ⟨(some 102), .plain .nilCheck, [.tmp 101], none⟩
       (.step ⟨(some 103), .plain (.fieldAddr 6), [.tmp 102], none⟩
       (.step ⟨(some 104), .plain (.load false 1), [.tmp 103], none⟩
       (.step ⟨(some 105), .plain (.fieldAddr 0), [.tmp 10], none⟩
       (.step ⟨(some 106), .plain (.load false 1), [.tmp 105], none⟩
       (.step ⟨(some 107), .plain .mv, [.tmp 8], none⟩
       (.step ⟨(some 108), .plain (.fieldAddr 1), [.tmp 10], none⟩
       (.step ⟨(some 109), .plain (.load false 1), [.tmp 108], none⟩
       (.step ⟨(some 110), .plain (.bin .add), [.tmp 107, .tmp 109], none⟩
       (.step ⟨none, .plain (.mapUpdate .str), [.tmp 104, .tmp 106, .tmp 110], none⟩
       .done))))))))))) [101, 102, 103, 104, 105, 106, 107, 108, 109, 110])
     (.draw (.step ⟨(some 111), .plain .mv, [.tmp 0], none⟩
       (.step ⟨(some 112), .plain .mv, [.tmp 0], none⟩
       (.step ⟨(some 113), .plain .nilCheck, [.tmp 112], none⟩
       (.step ⟨(some 114), .plain (.fieldAddr 0), [.tmp 113], none⟩
       (.step ⟨(some 115), .plain (.fieldAddr 2), [.tmp 114], none⟩
       (.step ⟨(some 116), .plain (.load false 1), [.tmp 115], none⟩
       (.step ⟨(some 117), .plain (.fieldAddr 0), [.tmp 10], none⟩
       (.step ⟨(some 118), .plain (.load false 1), [.tmp 117], none⟩
       (.step ⟨(some 119), .plain .mv, [.tmp 8], none⟩
       (.step ⟨(some 120), .plain (.fieldAddr 1), [.tmp 10], none⟩
       (.step ⟨(some 121), .plain (.load false 1), [.tmp 120], none⟩
       (.step ⟨(some 122), .plain (.bin .add), [.tmp 119, .tmp 121], none⟩
       (.step ⟨(some 123), .plain (.build [(.str ⟨#[]⟩), (.int .i64 0)] [(0, 1), (1, 1)]), [.tmp 118, .tmp 122], none⟩
       (.step ⟨(some 124), .plain (.buildRow 65 2 1 [(.str ⟨#[]⟩), (.int .i64 0)] [0]), [.tmp 123], none⟩
       (.step ⟨(some 125), .plain (.append 65 2 24), [.tmp 116, .tmp 124], none⟩
       (.step ⟨(some 126), .plain .nilCheck, [.tmp 111], none⟩
       (.step ⟨(some 127), .plain (.fieldAddr 0), [.tmp 126], none⟩
       (.step ⟨(some 128), .plain (.fieldAddr 2), [.tmp 127], none⟩
       (.step ⟨none, .plain (.store 1), [.tmp 128, .tmp 125], none⟩
       .done))))))))))))))))))) [111, 112, 113, 114, 115, 116, 117, 118, 119, 120, 121, 122, 123, 124, 125, 126, 127, 128])))))
    (.ops [⟨(some 129), .plain (.bin .add), [.tmp 81, .lit (.int .i64 1)], none⟩,
      ⟨(some 81), .plain .mv, [.tmp 129], none⟩] [129])))))))
  (.seq (.seq (.ops [⟨(some 130), .plain (.fieldAddr 4), [.tmp 4], none⟩,
    ⟨(some 131), .plain (.load false 1), [.tmp 130], none⟩,
    ⟨(some 132), .plain (.len 1), [.tmp 131], none⟩,
    ⟨(some 133), .plain .mv, [.lit (.int .i64 0)], none⟩] [130])
  (.block 2
   (.loop
    (.seq (.ops [⟨(some 134), .plain (.bin .lss), [.tmp 133, .tmp 132], none⟩] [])
    (.seq (.cond (.tmp 134)
     .skip
     (.exit 2))
    (.seq (.block 3
     (.seq (.ops [⟨(some 135), .plain (.indexAddr 2), [.tmp 131, .tmp 133], none⟩,
       ⟨(some 136), .plain (.load true 2), [.tmp 135], none⟩,
       ⟨(some 14), .plain (.alloc [(.int .i64 0), (.int .i64 0)]), [], none⟩,
       ⟨none, .plain (.store 2), [.tmp 14, .tmp 136], none⟩] [135, 136])
     (.draw (.step ⟨(some 137), .plain .mv, [.tmp 0], none⟩
       (.step ⟨(some 138), .plain .mv, [.tmp 0], none⟩
       (.step ⟨(some 139), .plain .nilCheck, [.tmp 138], none⟩
       (.step ⟨(some 140), .plain (.fieldAddr 0), [.tmp 139], none⟩
       (.step ⟨(some 141), .plain (.fieldAddr 3), [.tmp 140], none⟩
       (.step ⟨(some 142), .plain (.load false 1), [.tmp 141], none⟩
       (.step ⟨(some 143), .plain .mv, [.tmp 8], none⟩
       (.step ⟨(some 144), .plain (.fieldAddr 0), [.tmp 14], none⟩
       (.step ⟨(some 145), .plain (.load false 1), [.tmp 144], none⟩
       (.step ⟨(some 146), .plain (.bin .add), [.tmp 143, .tmp 145], none⟩
       (.step ⟨(some 147), .plain (.fieldAddr 1), [.tmp 14], none⟩
       (.step ⟨(some 148), .plain (.load false 1), [.tmp 147], none⟩
       (.step ⟨(some 149), .plain (.build [(.int .i64 0), (.int .i64 0)] [(0, 1), (1, 1)]), [.tmp 146, .tmp 148], none⟩
       (.step ⟨(some 150), .plain (.buildRow 79 2 1 [(.int .i64 0), (.int .i64 0)] [0]), [.tmp 149], none⟩
       (.step ⟨(some 151), .plain (.append 79 2 16), [.tmp 142, .tmp 150], none⟩
       (.step ⟨(some 152), .plain .nilCheck, [.tmp 137], none⟩
       (.step ⟨(some 153), .plain (.fieldAddr 0), [.tmp 152], none⟩
       (.step ⟨(some 154), .plain (.fieldAddr 3), [.tmp 153], none⟩
       (.step ⟨none, .plain (.store 1), [.tmp 154, .tmp 151], none⟩
       .done))))))))))))))))))) [137, 138, 139, 140, 141, 142, 143, 144, 145, 146, 147, 148, 149, 150, 151, 152, 153, 154])))
    (.ops [⟨(some 155), .plain (.bin .add), [.tmp 133, .lit (.int .i64 1)], none⟩,
      ⟨(some 133), .plain .mv, [.tmp 155], none⟩] [155])))))))
  (.ops [⟨(some 156), .plain .mv, [.tmp 0], none⟩,
    ⟨(some 157), .plain .mv, [.tmp 8], none⟩,
    ⟨(some 158), .plain (.fieldAddr 1), [.tmp 4], none⟩,
    ⟨(some 159), .plain (.load false 1), [.tmp 158], none⟩,
    ⟨(some 160), .plain (.len 0), [.tmp 159], none⟩,
    ⟨(some 161), .plain (.bin .add), [.tmp 157, .tmp 160], none⟩,
    ⟨(some 162), .plain .nilCheck, [.tmp 156], none⟩,
    ⟨(some 163), .plain (.fieldAddr 8), [.tmp 162], none⟩,
    ⟨none, .plain (.store 1), [.tmp 163, .tmp 161], none⟩] [156, 157, 158, 159, 160, 161, 162, 163])))))))))
def cr71 : List Res := []
theorem ok71 : FOk Zk.pg.toProgram Zk.imp 71 c71 cr71 Tryz.f71.ntmps := ⟨Tryz.f71, _, Tryz.func71, rfl, by kernel_rfl, by kernel_rfl, by kernel_rfl, rfl⟩

/-- (*ironbark/link.linking).lacking -/
def c113 : SC :=
  (.seq (.ops [⟨(some 2), .plain .mv, [.lit .nilS], none⟩] [])
  (.seq (.ops [⟨(some 3), .plain .mv, [.lit .nilS], none⟩] [])
  (.seq (.seq (.ops [⟨(some 10), .plain .mv, [.tmp 0], none⟩,
    ⟨(some 11), .plain .nilCheck, [.tmp 10], none⟩,
    ⟨(some 12), .plain (.fieldAddr 5), [.tmp 11], none⟩,
    ⟨(some 13), .plain (.load false 1), [.tmp 12], none⟩,
    ⟨(some 14), .plain (.len 1), [.tmp 13], none⟩,
    ⟨(some 15), .plain .mv, [.lit (.int .i64 0)], none⟩] [10, 11, 12])
  (.block 0
   (.loop
    (.seq (.ops [⟨(some 16), .plain (.bin .lss), [.tmp 15, .tmp 14], none⟩] [])
    (.seq (.cond (.tmp 16)
     .skip
     (.exit 0))
    (.seq (.block 1
     (.seq (.ops [⟨(some 17), .plain (.indexAddr 5), [.tmp 13, .tmp 15], none⟩,
       ⟨(some 18), .plain (.load true 5), [.tmp 17], none⟩,
       ⟨(some 5), .plain (.alloc [(.str ⟨#[]⟩), (.str ⟨#[]⟩), .nilS, .nilS, .nilS]), [], none⟩,
       ⟨none, .plain (.store 5), [.tmp 5, .tmp 18], none⟩] [17, 18])
     (.seq (.ops [⟨(some 19), .plain (.fieldAddr 3), [.tmp 5], none⟩,
       ⟨(some 20), .plain (.load false 1), [.tmp 19], none⟩,
       ⟨(some 21), .plain (.len 1), [.tmp 20], none⟩,
       ⟨(some 22), .plain .mv, [.lit (.int .i64 0)], none⟩] [19])
     (.block 2
      (.loop
       (.seq (.ops [⟨(some 23), .plain (.bin .lss), [.tmp 22, .tmp 21], none⟩] [])
       (.seq (.cond (.tmp 23)
        .skip
        (.exit 2))
       (.seq (.block 3
        (.seq (.ops [⟨(some 24), .plain (.indexAddr 3), [.tmp 20, .tmp 22], none⟩,
          ⟨(some 25), .plain (.load true 3), [.tmp 24], none⟩,
          ⟨(some 7), .plain (.alloc [(.int .i64 0), (.str ⟨#[]⟩), (.int .i64 0)]), [], none⟩,
          ⟨none, .plain (.store 3), [.tmp 7, .tmp 25], none⟩] [24, 25])
        (.seq (.draw (.step ⟨(some 27), .plain .mv, [.tmp 0], none⟩
          (.step ⟨(some 28), .plain .nilCheck, [.tmp 27], none⟩
          (.step ⟨(some 29), .plain (.fieldAddr 6), [.tmp 28], none⟩
          (.step ⟨(some 30), .plain (.load false 1), [.tmp 29], none⟩
          (.step ⟨(some 31), .plain (.fieldAddr 1), [.tmp 7], none⟩
          (.step ⟨(some 32), .plain (.load false 1), [.tmp 31], none⟩
          (.step ⟨(some 33), .plain (.lookup .str (.int .i64 0) true), [.tmp 30, .tmp 32], none⟩
          (.step ⟨(some 26), .plain .mv, [.tmp 33], none⟩
          (.step ⟨(some 34), .plain (.extract 0), [.tmp 26], none⟩
          (.step ⟨(some 35), .plain (.extract 1), [.tmp 26], none⟩
          (.step ⟨(some 8), .plain .mv, [.tmp 34], none⟩
          (.step ⟨(some 9), .plain .mv, [.tmp 35], none⟩
          .done)))))))))))) [27, 28, 29, 30, 31, 32, 33, 26, 34, 35, 8])
        (.seq (.ops [⟨(some 36), .plain .mv, [.tmp 9], none⟩,
          ⟨(some 37), .plain (.un .not), [.tmp 36], none⟩,
          ⟨(some 38), .plain .mv, [.tmp 37], none⟩,
          ⟨(some 39), .plain .mv, [.tmp 3], (some (38, true))⟩,
          ⟨(some 40), .plain (.fieldAddr 1), [.tmp 7], (some (38, true))⟩,
          ⟨(some 41), .plain (.load false 1), [.tmp 40], (some (38, true))⟩,
          ⟨(some 42), .call 144, [.tmp 39, .tmp 41], (some (38, true))⟩,
          ⟨(some 43), .plain (.un .not), [.tmp 42], (some (38, true))⟩,
          ⟨(some 44), .plain .pick, [.tmp 38, .tmp 43, .lit (.bool false)], none⟩] [36, 37, 38, 39, 40, 41, 42, 43])
        (.cond (.tmp 44)
         (.ops [⟨(some 45), .plain .mv, [.tmp 3], none⟩,
           ⟨(some 46), .plain (.fieldAddr 1), [.tmp 7], none⟩,
           ⟨(some 47), .plain (.load false 1), [.tmp 46], none⟩,
           ⟨(some 48), .plain (.buildRow 9 1 1 [(.str ⟨#[]⟩)] [0]), [.tmp 47], none⟩,
           ⟨(some 49), .plain (.append 9 1 16), [.tmp 45, .tmp 48], none⟩,
           ⟨(some 3), .plain .mv, [.tmp 49], none⟩] [45, 46, 47, 48, 49])
         .skip)))))
       (.ops [⟨(some 50), .plain (.bin .add), [.tmp 22, .lit (.int .i64 1)], none⟩,
         ⟨(some 22), .plain .mv, [.tmp 50], none⟩] [50])))))))))
    (.ops [⟨(some 51), .plain (.bin .add), [.tmp 15, .lit (.int .i64 1)], none⟩,
      ⟨(some 15), .plain .mv, [.tmp 51], none⟩] [51])))))))
  (.seq (.ops [⟨(some 52), .plain .mv, [.tmp 3], none⟩,
    ⟨(some 2), .plain .mv, [.tmp 52], none⟩] [52])
  .ret))))
def cr113 : List Res := [(2, none)]
theorem ok113 : FOk Zk.pg.toProgram Zk.imp 113 c113 cr113 Tryz.f113.ntmps := ⟨Tryz.f113, _, Tryz.func113, rfl, by kernel_rfl, by kernel_rfl, by kernel_rfl, rfl⟩

/-- (*ironbark/link.linking).found -/
def c114 : SC :=
  (.seq (.ops [⟨(some 4), .plain (.box 1), [.tmp 1], none⟩,
    ⟨(some 6), .plain (.alloc [(.str ⟨#[]⟩), (.str ⟨#[]⟩), .nilS, .nilS, .nilS]), [], none⟩,
    ⟨(some 7), .plain .mv, [.lit (.bool false)], none⟩] [])
  (.seq (.seq (.ops [⟨(some 12), .plain .mv, [.tmp 2], none⟩,
    ⟨(some 13), .plain (.len 1), [.tmp 12], none⟩,
    ⟨(some 14), .plain .mv, [.lit (.int .i64 0)], none⟩] [])
  (.block 0
   (.loop
    (.seq (.ops [⟨(some 15), .plain (.bin .lss), [.tmp 14, .tmp 13], none⟩] [])
    (.seq (.cond (.tmp 15)
     .skip
     (.exit 0))
    (.seq (.block 1
     (.seq (.ops [⟨(some 16), .plain (.indexAddr 1), [.tmp 12, .tmp 14], none⟩,
       ⟨(some 17), .plain (.load false 1), [.tmp 16], none⟩,
       ⟨(some 9), .plain .mv, [.tmp 17], none⟩] [16, 17])
     (.seq (.ops [⟨(some 18), .plain .mv, [.tmp 9], none⟩,
       ⟨(some 19), .plain (.len 1), [.tmp 18], none⟩,
       ⟨(some 20), .plain .mv, [.lit (.int .i64 0)], none⟩] [])
     (.block 2
      (.loop
       (.seq (.ops [⟨(some 21), .plain (.bin .lss), [.tmp 20, .tmp 19], none⟩] [])
       (.seq (.cond (.tmp 21)
        .skip
        (.exit 2))
       (.seq (.block 3
        (.seq (.ops [⟨(some 22), .plain (.indexAddr 5), [.tmp 18, .tmp 20], none⟩,
          ⟨(some 23), .plain (.load true 5), [.tmp 22], none⟩,
          ⟨(some 11), .plain (.alloc [(.str ⟨#[]⟩), (.str ⟨#[]⟩), .nilS, .nilS, .nilS]), [], none⟩,
          ⟨none, .plain (.store 5), [.tmp 11, .tmp 23], none⟩] [22, 23])
        (.seq (.draw (.step ⟨(some 24), .plain .mv, [.tmp 0], none⟩
          (.step ⟨(some 25), .plain .nilCheck, [.tmp 24], none⟩
          (.step ⟨(some 26), .plain (.fieldAddr 7), [.tmp 25], none⟩
          (.step ⟨(some 27), .plain (.load false 1), [.tmp 26], none⟩
          (.step ⟨(some 28), .plain (.fieldAddr 0), [.tmp 11], none⟩
          (.step ⟨(some 29), .plain (.load false 1), [.tmp 28], none⟩
          (.step ⟨(some 30), .plain (.lookup .str (.bool false) false), [.tmp 27, .tmp 29], none⟩
          (.step ⟨(some 31), .plain (.un .not), [.tmp 30], none⟩
          (.step ⟨(some 32), .plain .mv, [.tmp 31], none⟩
          (.step ⟨(some 33), .plain (.load true 5), [.tmp 11], (some (32, true))⟩
          (.step ⟨(some 34), .call 112, [.tmp 33], (some (32, true))⟩
          (.step ⟨(some 35), .plain (.mkFn 145), [.tmp 4], (some (32, true))⟩
          (.step ⟨(some 36), .call 142, [.tmp 34, .tmp 35], (some (32, true))⟩
          (.step ⟨(some 37), .plain .pick, [.tmp 32, .tmp 36, .lit (.bool false)], none⟩
          .done)))))))))))))) [24, 25, 26, 27, 28, 29, 30, 31, 32, 33, 34, 35, 36])
        (.cond (.tmp 37)
         (.seq (.ops [⟨(some 38), .plain (.load true 5), [.tmp 11], none⟩,
           ⟨none, .plain (.store 5), [.tmp 6, .tmp 38], none⟩,
           ⟨(some 7), .plain .mv, [.lit (.bool true)], none⟩] [38])
         .ret)
         .skip))))
       (.ops [⟨(some 39), .plain (.bin .add), [.tmp 20, .lit (.int .i64 1)], none⟩,
         ⟨(some 20), .plain .mv, [.tmp 39], none⟩] [39])))))))))
    (.ops [⟨(some 40), .plain (.bin .add), [.tmp 14, .lit (.int .i64 1)], none⟩,
      ⟨(some 14), .plain .mv, [.tmp 40], none⟩] [40])))))))
  (.seq (.ops [⟨(some 41), .plain (.build [(.str ⟨#[]⟩), (.str ⟨#[]⟩), .nilS, .nilS, .nilS] []), [], none⟩,
    ⟨none, .plain (.store 5), [.tmp 6, .tmp 41], none⟩,
    ⟨(some 7), .plain .mv, [.lit (.bool false)], none⟩] [41])
  .ret)))
def cr114 : List Res := [(6, some (true, 5)), (7, none)]
theorem ok114 : FOk Zk.pg.toProgram Zk.imp 114 c114 cr114 Tryz.f114.ntmps := ⟨Tryz.f114, _, Tryz.func114, rfl, by kernel_rfl, by kernel_rfl, by kernel_rfl, rfl⟩

/-- (*ironbark/link.linking).done$1 -/
def c116 : SC :=
  (.seq (.ops [⟨(some 2), .plain (.box 2), [.tmp 0], none⟩,
    ⟨(some 3), .plain (.box 2), [.tmp 1], none⟩,
    ⟨(some 4), .plain .mv, [.lit (.int .i64 0)], none⟩] [])
  (.seq (.ops [⟨(some 5), .plain (.fieldAddr 0), [.tmp 2], none⟩,
    ⟨(some 6), .plain (.load false 1), [.tmp 5], none⟩,
    ⟨(some 7), .plain (.fieldAddr 0), [.tmp 3], none⟩,
    ⟨(some 8), .plain (.load false 1), [.tmp 7], none⟩,
    ⟨(some 9), .call 117, [.tmp 6, .tmp 8], none⟩,
    ⟨(some 4), .plain .mv, [.tmp 9], none⟩] [5, 6, 7, 8, 9])
  .ret))
def cr116 : List Res := [(4, none)]
theorem ok116 : FOk Zk.pg.toProgram Zk.imp 116 c116 cr116 Tryz.f116.ntmps := ⟨Tryz.f116, _, Tryz.func116, rfl, by kernel_rfl, by kernel_rfl, by kernel_rfl, rfl⟩

end Go.Pm

/- ZkS8: code, resolved. Written by gen.py out of what ShowSC.lean printed. -/
namespace Go.Pm
open Go Go.Proofs

/-- (*ironbark/link.linking).needed -/
def c72 : SC :=
  (.seq (.ops [⟨(some 4), .plain .mv, [.lit .nilS], none⟩] [])
  (.seq .skip
  (.block 0
   (.loop
    (.block 1
     (.seq (.ops [⟨(some 10), .plain .mv, [.tmp 0], none⟩,
       ⟨(some 11), .call 113, [.tmp 10], none⟩,
       ⟨(some 5), .plain .mv, [.tmp 11], none⟩] [10, 11])
     (.seq (.seq (.ops [⟨(some 12), .plain .mv, [.tmp 5], none⟩,
       ⟨(some 13), .plain (.len 1), [.tmp 12], none⟩,
       ⟨(some 14), .plain .mv, [.lit (.int .i64 0)], none⟩] [])
     (.block 2
      (.loop
       (.seq (.ops [⟨(some 15), .plain (.bin .lss), [.tmp 14, .tmp 13], none⟩] [])
       (.seq (.cond (.tmp 15)
        .skip
        (.exit 2))
       (.seq (.block 3
        (.seq (.ops [⟨(some 16), .plain (.indexAddr 1), [.tmp 12, .tmp 14], none⟩,
          ⟨(some 17), .plain (.load false 1), [.tmp 16], none⟩,
          ⟨(some 7), .plain .mv, [.tmp 17], none⟩] [16, 17])
        (.seq (.ops [⟨(some 19), .plain .mv, [.tmp 0], none⟩,
          ⟨(some 20), .plain .mv, [.tmp 7], none⟩,
          ⟨(some 21), .plain .mv, [.tmp 1], none⟩,
          ⟨(some 22), .call 114, [.tmp 19, .tmp 20, .tmp 21], none⟩,
          ⟨(some 18), .plain .mv, [.tmp 22], none⟩,
          ⟨(some 23), .plain (.extract 0), [.tmp 18], none⟩,
          ⟨(some 24), .plain (.extract 1), [.tmp 18], none⟩,
          ⟨(some 8), .plain (.alloc [(.str ⟨#[]⟩), (.str ⟨#[]⟩), .nilS, .nilS, .nilS]), [], none⟩,
          ⟨none, .plain (.store 5), [.tmp 8, .tmp 23], none⟩,
          ⟨(some 9), .plain .mv, [.tmp 24], none⟩] [19, 20, 21, 22, 18, 23, 24])
        (.seq (.ops [⟨(some 25), .plain .mv, [.tmp 9], none⟩] [])
        (.cond (.tmp 25)
         (.seq (.ops [⟨(some 26), .plain .mv, [.tmp 0], none⟩,
           ⟨(some 27), .plain (.load true 5), [.tmp 8], none⟩,
           ⟨(some 28), .call 71, [.tmp 26, .tmp 27, .lit (.bool false)], none⟩] [26, 27, 28])
         (.exit 1))
         .skip)))))
       (.ops [⟨(some 29), .plain (.bin .add), [.tmp 14, .lit (.int .i64 1)], none⟩,
         ⟨(some 14), .plain .mv, [.tmp 29], none⟩] [29])))))))
     (.seq (.ops [⟨(some 30), .plain .mv, [.tmp 5], none⟩,
       ⟨(some 4), .plain .mv, [.tmp 30], none⟩] [30])
     .ret))))))))
def cr72 : List Res := [(4, none)]
theorem ok72 : FOk Zk.pg.toProgram Zk.imp 72 c72 cr72 Tryz.f72.ntmps := ⟨Tryz.f72, _, Tryz.func72, rfl, by kernel_rfl, by kernel_rfl, by kernel_rfl, rfl⟩

/-- (*ironbark/link.linking).done -/
def c73 : SC :=
  (.seq (.ops [⟨(some 2), .plain (.alloc [(.int .i64 0), (.str ⟨#[]⟩), .nilS, .nilS, .nilS]), [], none⟩] [])
  (.seq (.draw (.step ⟨(some 10), .plain .mv, [.tmp 0], none⟩
    (.step ⟨(some 11), .plain .nilCheck, [.tmp 10], none⟩
    (.step ⟨(some 12), .plain (.fieldAddr 8), [.tmp 11], none⟩
    (.step ⟨(some 13), .plain (.load false 1), [.tmp 12], none⟩
    (.step ⟨(some 14), .plain .mv, [.tmp 0], none⟩
    (.step ⟨(some 15), .plain .nilCheck, [.tmp 14], none⟩
    (.step ⟨(some 16), .plain (.fieldAddr 0), [.tmp 15], none⟩
    (.step ⟨(some 17), .plain (.fieldAddr 0), [.tmp 16], none⟩
    (.step ⟨(some 18), .plain (.load false 1), [.tmp 17], none⟩
    (.step ⟨(some 19), .plain (.bin .sub), [.tmp 13, .tmp 18], none⟩
    (.step ⟨(some 20), .plain (.mkRow 5 [(.int .u8 0)] 1), [.tmp 19, .tmp 19], none⟩
    (.step ⟨(some 3), .plain .mv, [.tmp 20], none⟩
    .done)))))))))))) [10, 11, 12, 13, 14, 15, 16, 17, 18, 19, 20])
  (.seq (.seq (.ops [⟨(some 21), .plain .mv, [.tmp 0], none⟩,
    ⟨(some 22), .plain .nilCheck, [.tmp 21], none⟩,
    ⟨(some 23), .plain (.fieldAddr 5), [.tmp 22], none⟩,
    ⟨(some 24), .plain (.load false 1), [.tmp 23], none⟩,
    ⟨(some 25), .plain (.len 1), [.tmp 24], none⟩,
    ⟨(some 26), .plain .mv, [.lit (.int .i64 0)], none⟩] [21, 22, 23])
  (.block 0
   (.loop
    (.seq (.ops [⟨(some 27), .plain (.bin .lss), [.tmp 26, .tmp 25], none⟩] [])
    (.seq (.cond (.tmp 27)
     .skip
     (.exit 0))
    (.seq (.block 1
     (.seq (.ops [⟨(some 28), .plain .mv, [.tmp 26], none⟩,
       ⟨(some 29), .plain (.indexAddr 5), [.tmp 24, .tmp 26], none⟩,
       ⟨(some 30), .plain (.load true 5), [.tmp 29], none⟩,
       ⟨(some 5), .plain (.alloc [(.str ⟨#[]⟩), (.str ⟨#[]⟩), .nilS, .nilS, .nilS]), [], none⟩,
       ⟨(some 4), .plain .mv, [.tmp 28], none⟩,
       ⟨none, .plain (.store 5), [.tmp 5, .tmp 30], none⟩] [28, 29, 30])
     (.seq (.draw (.step ⟨(some 31), .plain .mv, [.tmp 0], none⟩
       (.step ⟨(some 32), .plain .nilCheck, [.tmp 31], none⟩
       (.step ⟨(some 33), .plain (.fieldAddr 0), [.tmp 32], none⟩
       (.step ⟨(some 34), .plain (.fieldAddr 4), [.tmp 33], none⟩
       (.step ⟨(some 35), .plain (.load false 1), [.tmp 34], none⟩
       (.step ⟨(some 36), .plain .mv, [.tmp 4], none⟩
       (.step ⟨(some 37), .plain (.indexAddr 2), [.tmp 35, .tmp 36], none⟩
       (.step ⟨(some 38), .plain (.fieldAddr 1), [.tmp 37], none⟩
       (.step ⟨(some 39), .plain (.load false 1), [.tmp 38], none⟩
       (.step ⟨(some 40), .plain .mv, [.tmp 0], none⟩
       (.step ⟨(some 41), .plain .nilCheck, [.tmp 40], none⟩
       (.step ⟨(some 42), .plain (.fieldAddr 0), [.tmp 41], none⟩
       (.step ⟨(some 43), .plain (.fieldAddr 0), [.tmp 42], none⟩
       (.step ⟨(some 44), .plain (.load false 1), [.tmp 43], none⟩
       (.step ⟨(some 45), .plain (.bin .sub), [.tmp 39, .tmp 44], none⟩
       (.step ⟨(some 6), .plain .mv, [.tmp 45], none⟩
       .done)))))))))))))))) [31, 32, 33, 34, 35, 36, 37, 38, 39, 40, 41, 42, 43, 44, 45])
     (.seq (.draw (.step ⟨(some 46), .plain .mv, [.tmp 3], none⟩
       (.step ⟨(some 47), .plain .mv, [.tmp 6], none⟩
       (.step ⟨(some 48), .plain (.slice true false 1), [.tmp 46, .tmp 47], none⟩
       (.step ⟨(some 49), .plain (.fieldAddr 1), [.tmp 5], none⟩
       (.step ⟨(some 50), .plain (.load false 1), [.tmp 49], none⟩
       (.step ⟨(some 51), .plain (.copy 5 1), [.tmp 48, .tmp 50], none⟩
       .done)))))) [46, 47, 48, 49, 50, 51])
     (.seq (.ops [⟨(some 52), .plain (.fieldAddr 3), [.tmp 5], none⟩,
       ⟨(some 53), .plain (.load false 1), [.tmp 52], none⟩,
       ⟨(some 54), .plain (.len 1), [.tmp 53], none⟩,
       ⟨(some 55), .plain .mv, [.lit (.int .i64 0)], none⟩] [52])
     (.block 2
      (.loop
       (.seq (.ops [⟨(some 56), .plain (.bin .lss), [.tmp 55, .tmp 54], none⟩] [])
       (.seq (.cond (.tmp 56)
        .skip
        (.exit 2))
       (.seq (.block 3
        (.seq (.ops [⟨(some 57), .plain (.indexAddr 3), [.tmp 53, .tmp 55], none⟩,
          ⟨(some 58), .plain (.load true 3), [.tmp 57], none⟩,
          ⟨(some 8), .plain (.alloc [(.int .i64 0), (.str ⟨#[]⟩), (.int .i64 0)]), [], none⟩,
          ⟨none, .plain (.store 3), [.tmp 8, .tmp 58], none⟩] [57, 58])
        (.seq (.draw (.step ⟨(some 59), .plain .mv, [.tmp 0], none⟩
          (.step ⟨(some 60), .plain .nilCheck, [.tmp 59], none⟩
          (.step ⟨(some 61), .plain (.fieldAddr 6), [.tmp 60], none⟩
          (.step ⟨(some 62), .plain (.load false 1), [.tmp 61], none⟩
          (.step ⟨(some 63), .plain (.fieldAddr 1), [.tmp 8], none⟩
          (.step ⟨(some 64), .plain (.load false 1), [.tmp 63], none⟩
          (.step ⟨(some 65), .plain (.lookup .str (.int .i64 0) false), [.tmp 62, .tmp 64], none⟩
          (.step ⟨(some 66), .plain (.fieldAddr 2), [.tmp 8], none⟩
          (.step ⟨(some 67), .plain (.load false 1), [.tmp 66], none⟩
          (.step ⟨(some 68), .plain (.bin .add), [.tmp 65, .tmp 67], none⟩
          (.step ⟨(some 69), .plain (.convInt .u32), [.tmp 68], none⟩
          (.step ⟨(some 9), .plain .mv, [.tmp 69], none⟩
          .done)))))))))))) [59, 60, 61, 62, 63, 64, 65, 66, 67, 68, 69])
        (.ops [⟨(some 70), .plain .mv, [.tmp 3], none⟩,
          ⟨(some 71), .plain .mv, [.tmp 6], none⟩,
          ⟨(some 72), .plain (.fieldAddr 0), [.tmp 8], none⟩,
          ⟨(some 73), .plain (.load false 1), [.tmp 72], none⟩,
          ⟨(some 74), .plain (.bin .add), [.tmp 71, .tmp 73], none⟩,
          ⟨(some 75), .plain (.slice true false 1), [.tmp 70, .tmp 74], none⟩,
          ⟨(some 76), .plain .mv, [.tmp 9], none⟩,
          ⟨(some 77), .plain (.bin .shr), [.tmp 76, .lit (.int .u64 24)], none⟩,
          ⟨(some 78), .plain (.convInt .u8), [.tmp 77], none⟩,
          ⟨(some 79), .plain .mv, [.tmp 9], none⟩,
          ⟨(some 80), .plain (.bin .shr), [.tmp 79, .lit (.int .u64 16)], none⟩,
          ⟨(some 81), .plain (.convInt .u8), [.tmp 80], none⟩,
          ⟨(some 82), .plain .mv, [.tmp 9], none⟩,
          ⟨(some 83), .plain (.bin .shr), [.tmp 82, .lit (.int .u64 8)], none⟩,
          ⟨(some 84), .plain (.convInt .u8), [.tmp 83], none⟩,
          ⟨(some 85), .plain .mv, [.tmp 9], none⟩,
          ⟨(some 86), .plain (.convInt .u8), [.tmp 85], none⟩,
          ⟨(some 87), .plain (.buildRow 5 1 4 [(.int .u8 0)] [0, 1, 2, 3]), [.tmp 78, .tmp 81, .tmp 84, .tmp 86], none⟩,
          ⟨(some 88), .plain (.copy 5 1), [.tmp 75, .tmp 87], none⟩] [70, 71, 72, 73, 74, 75, 76, 77, 78, 79, 80, 81, 82, 83, 84, 85, 86, 87, 88]))))
       (.ops [⟨(some 89), .plain (.bin .add), [.tmp 55, .lit (.int .i64 1)], none⟩,
         ⟨(some 55), .plain .mv, [.tmp 89], none⟩] [89])))))))))))
    (.ops [⟨(some 90), .plain (.bin .add), [.tmp 26, .lit (.int .i64 1)], none⟩,
      ⟨(some 26), .plain .mv, [.tmp 90], none⟩] [90])))))))
  (.seq (.ops [⟨(some 91), .plain .mv, [.tmp 0], none⟩,
    ⟨(some 92), .plain .mv, [.tmp 3], none⟩,
    ⟨(some 93), .plain .bytesToStr, [.tmp 92], none⟩,
    ⟨(some 94), .plain .nilCheck, [.tmp 91], none⟩,
    ⟨(some 95), .plain (.fieldAddr 0), [.tmp 94], none⟩,
    ⟨(some 96), .plain (.fieldAddr 1), [.tmp 95], none⟩,
    ⟨none, .plain (.store 1), [.tmp 96, .tmp 93], none⟩] [91, 92, 93, 94, 95, 96])
  (.seq (.ops [⟨(some 97), .plain .mv, [.tmp 0], none⟩,
    ⟨(some 98), .plain .nilCheck, [.tmp 97], none⟩,
    ⟨(some 99), .plain (.fieldAddr 0), [.tmp 98], none⟩,
    ⟨(some 100), .plain (.fieldAddr 2), [.tmp 99], none⟩,
    ⟨(some 101), .plain (.load false 1), [.tmp 100], none⟩,
    ⟨(some 102), .call 115, [.tmp 101, .lit (.fn 116 [])], none⟩] [97, 98, 99, 100, 101, 102])
  (.seq (.ops [⟨(some 103), .plain .mv, [.tmp 0], none⟩,
    ⟨(some 104), .plain .nilCheck, [.tmp 103], none⟩,
    ⟨(some 105), .plain (.fieldAddr 0), [.tmp 104], none⟩,
    ⟨(some 106), .plain (.load true 5), [.tmp 105], none⟩,
    ⟨none, .plain (.store 5), [.tmp 2, .tmp 106], none⟩] [103, 104, 105, 106])
  .ret))))))
def cr73 : List Res := [(2, some (true, 5))]
theorem ok73 : FOk Zk.pg.toProgram Zk.imp 73 c73 cr73 Tryz.f73.ntmps := ⟨Tryz.f73, _, Tryz.func73, rfl, by kernel_rfl, by kernel_rfl, by kernel_rfl, rfl⟩

/-- ironbark/link.Link, its front -/
def cx21 : SC :=
  (.seq (.ops [⟨(some 6), .plain (.alloc [(.int .i64 0), (.str ⟨#[]⟩), .nilS, .nilS, .nilS]), [], none⟩,
    ⟨(some 7), .plain (.alloc [(.int .i64 0)]), [], none⟩,
    ⟨(some 8), .plain (.alloc [(.str ⟨#[]⟩)]), [], none⟩] [])
  (.seq (.block 0
   (.seq (.ops [⟨(some 14), .plain .mv, [.tmp 0], none⟩,
     ⟨(some 15), .plain .mv, [.tmp 1], none⟩,
     ⟨(some 16), .call 33, [.tmp 14, .tmp 15], none⟩,
     ⟨(some 17), .plain (.un .not), [.tmp 16], none⟩,
     ⟨(some 13), .plain .mv, [.tmp 17], none⟩] [14, 15, 16, 17])
   (.cond (.tmp 13)
    (.seq (.ops [⟨(some 18), .plain (.build [(.int .i64 0), (.str ⟨#[]⟩), .nilS, .nilS, .nilS] []), [], none⟩,
      ⟨none, .plain (.store 5), [.tmp 6, .tmp 18], none⟩,
      ⟨none, .plain (.store 1), [.tmp 7, .lit (.int .i64 1)], none⟩,
      ⟨none, .plain (.store 1), [.tmp 8, .lit (.str ⟨#[]⟩)], none⟩] [18])
    .ret)
    (.seq (.ops [⟨(some 20), .plain .mv, [.tmp 2], none⟩,
      ⟨(some 21), .call 68, [.tmp 20], none⟩,
      ⟨(some 22), .plain (.un .not), [.tmp 21], none⟩,
      ⟨(some 19), .plain .mv, [.tmp 22], none⟩] [20, 21, 22])
    (.cond (.tmp 19)
     (.seq (.ops [⟨(some 23), .plain (.build [(.int .i64 0), (.str ⟨#[]⟩), .nilS, .nilS, .nilS] []), [], none⟩,
       ⟨none, .plain (.store 5), [.tmp 6, .tmp 23], none⟩,
       ⟨none, .plain (.store 1), [.tmp 7, .lit (.int .i64 7)], none⟩,
       ⟨none, .plain (.store 1), [.tmp 8, .lit (.str ⟨#[]⟩)], none⟩] [23])
     .ret)
     .skip)))))
  .skip))
/-- ironbark/link.Link, behind what it defers -/
def cy21 : SC :=
  (.seq (.ops [⟨(some 25), .plain .mv, [.tmp 2], none⟩,
    ⟨(some 26), .call 70, [.tmp 25, .lit .nilS], none⟩,
    ⟨(some 9), .plain .mv, [.tmp 26], none⟩] [25, 26])
  (.seq (.seq (.ops [⟨(some 27), .plain .mv, [.tmp 0], none⟩,
    ⟨(some 28), .plain (.len 1), [.tmp 27], none⟩,
    ⟨(some 29), .plain .mv, [.lit (.int .i64 0)], none⟩] [])
  (.block 1
   (.loop
    (.seq (.ops [⟨(some 30), .plain (.bin .lss), [.tmp 29, .tmp 28], none⟩] [])
    (.seq (.cond (.tmp 30)
     .skip
     (.exit 1))
    (.seq (.block 2
     (.seq (.ops [⟨(some 31), .plain (.indexAddr 5), [.tmp 27, .tmp 29], none⟩,
       ⟨(some 32), .plain (.load true 5), [.tmp 31], none⟩,
       ⟨(some 11), .plain (.alloc [(.str ⟨#[]⟩), (.str ⟨#[]⟩), .nilS, .nilS, .nilS]), [], none⟩,
       ⟨none, .plain (.store 5), [.tmp 11, .tmp 32], none⟩] [31, 32])
     (.ops [⟨(some 33), .plain .mv, [.tmp 9], none⟩,
       ⟨(some 34), .plain (.load true 5), [.tmp 11], none⟩,
       ⟨(some 35), .call 71, [.tmp 33, .tmp 34, .lit (.bool true)], none⟩] [33, 34, 35])))
    (.ops [⟨(some 36), .plain (.bin .add), [.tmp 29, .lit (.int .i64 1)], none⟩,
      ⟨(some 29), .plain .mv, [.tmp 36], none⟩] [36])))))))
  (.seq (.seq (.ops [⟨(some 37), .plain .mv, [.tmp 9], none⟩,
    ⟨(some 38), .plain .mv, [.tmp 1], none⟩,
    ⟨(some 39), .call 72, [.tmp 37, .tmp 38], none⟩,
    ⟨(some 12), .plain .mv, [.tmp 39], none⟩] [37, 38, 39])
  (.seq (.ops [⟨(some 40), .plain .mv, [.tmp 12], none⟩,
    ⟨(some 41), .plain (.len 1), [.tmp 40], none⟩,
    ⟨(some 42), .plain (.bin .gtr), [.tmp 41, .lit (.int .i64 0)], none⟩] [40, 41])
  (.cond (.tmp 42)
   (.ops [⟨(some 43), .plain .mv, [.tmp 12], none⟩,
     ⟨(some 44), .plain (.indexAddr 1), [.tmp 43, .lit (.int .i64 0)], none⟩,
     ⟨(some 45), .plain (.load false 1), [.tmp 44], none⟩,
     ⟨(some 46), .plain (.build [(.int .i64 0), (.str ⟨#[]⟩)] [(0, 1), (1, 1)]), [.lit (.int .i64 5), .tmp 45], none⟩,
     ⟨(some 47), .plain (.mkIface 138), [.tmp 46], none⟩,
     ⟨none, .panic, [.tmp 47], none⟩] [43, 44, 45, 46, 47])
   .skip)))
  (.seq (.seq (.ops [⟨(some 48), .plain .mv, [.tmp 9], none⟩,
    ⟨(some 49), .plain .nilCheck, [.tmp 48], none⟩,
    ⟨(some 50), .plain (.fieldAddr 8), [.tmp 49], none⟩,
    ⟨(some 51), .plain (.load false 1), [.tmp 50], none⟩,
    ⟨(some 52), .plain (.bin .gtr), [.tmp 51, .lit (.int .i64 65536)], none⟩] [48, 49, 50, 51])
  (.cond (.tmp 52)
   (.ops [⟨(some 53), .plain (.build [(.int .i64 0), (.str ⟨#[]⟩)] [(0, 1), (1, 1)]), [.lit (.int .i64 11), .lit (.str ⟨#[]⟩)], none⟩,
     ⟨(some 54), .plain (.mkIface 138), [.tmp 53], none⟩,
     ⟨none, .panic, [.tmp 54], none⟩] [53, 54])
   .skip))
  (.seq (.ops [⟨(some 55), .plain .mv, [.tmp 9], none⟩,
    ⟨(some 56), .call 73, [.tmp 55], none⟩,
    ⟨none, .plain (.store 5), [.tmp 6, .tmp 56], none⟩,
    ⟨none, .plain (.store 1), [.tmp 7, .lit (.int .i64 0)], none⟩,
    ⟨none, .plain (.store 1), [.tmp 8, .lit (.str ⟨#[]⟩)], none⟩] [55, 56])
  .ret)))))
def cr21 : List Res := [(6, some (true, 5)), (7, some (false, 1)), (8, some (false, 1))]
theorem ok21 : FOkE Zk.pg.toProgram Zk.imp 21 cx21 24 69 [.tmp 6, .tmp 7, .tmp 8] cy21 cr21 Tryz.f21.ntmps := ⟨Tryz.f21, _, _, _, _, Tryz.func21, rfl, by kernel_rfl, rfl, by kernel_rfl, by kernel_rfl, by kernel_rfl, by kernel_rfl, rfl, by decide⟩

/-- ironbark/link.Link$1, behind its recover -/
def c69 : SC :=
  (.block 0
   (.seq (.ops [⟨(some 8), .plain (.eqNil false false), [.tmp 6, .lit (.const .nilIface)], none⟩] [])
   (.cond (.tmp 8)
    (.ops [⟨(some 3), .plain .mv, [.tmp 6], none⟩] [3])
    (.seq (.ops [⟨(some 9), .plain (.typeAssert 138 (.agg [(.int .i64 0), (.str ⟨#[]⟩)])), [.tmp 6], none⟩,
      ⟨(some 10), .plain (.extract 1), [.tmp 9], none⟩,
      ⟨(some 11), .plain (.extract 0), [.tmp 9], none⟩] [9])
    (.cond (.tmp 10)
     (.seq (.ops [⟨(some 4), .plain (.alloc [(.int .i64 0), (.str ⟨#[]⟩)]), [], none⟩,
       ⟨none, .plain (.store 2), [.tmp 4, .tmp 11], none⟩] [])
     (.draw (.step ⟨(some 12), .plain (.build [(.int .i64 0), (.str ⟨#[]⟩), .nilS, .nilS, .nilS] []), [], none⟩
       (.step ⟨(some 13), .plain (.fieldAddr 0), [.tmp 4], none⟩
       (.step ⟨(some 15), .plain (.fieldAddr 1), [.tmp 4], none⟩
       (.or (.step ⟨(some 14), .plain (.load false 1), [.tmp 13], none⟩
       (.or (.step ⟨(some 16), .plain (.load false 1), [.tmp 15], none⟩
       (.step ⟨none, .plain (.store 5), [.tmp 0, .tmp 12], none⟩
       (.step ⟨none, .plain (.store 1), [.tmp 1, .tmp 14], none⟩
       (.step ⟨none, .plain (.store 1), [.tmp 2, .tmp 16], none⟩
       .done))))
       (.step ⟨none, .plain (.store 5), [.tmp 0, .tmp 12], none⟩
       (.or (.step ⟨(some 16), .plain (.load false 1), [.tmp 15], none⟩
       (.step ⟨none, .plain (.store 1), [.tmp 1, .tmp 14], none⟩
       (.step ⟨none, .plain (.store 1), [.tmp 2, .tmp 16], none⟩
       .done)))
       (.step ⟨none, .plain (.store 1), [.tmp 1, .tmp 14], none⟩
       (.step ⟨(some 16), .plain (.load false 1), [.tmp 15], none⟩
       (.step ⟨none, .plain (.store 1), [.tmp 2, .tmp 16], none⟩
       .done)))))))
       (.or (.step ⟨(some 16), .plain (.load false 1), [.tmp 15], none⟩
       (.or (.step ⟨(some 14), .plain (.load false 1), [.tmp 13], none⟩
       (.step ⟨none, .plain (.store 5), [.tmp 0, .tmp 12], none⟩
       (.step ⟨none, .plain (.store 1), [.tmp 1, .tmp 14], none⟩
       (.step ⟨none, .plain (.store 1), [.tmp 2, .tmp 16], none⟩
       .done))))
       (.step ⟨none, .plain (.store 5), [.tmp 0, .tmp 12], none⟩
       (.step ⟨(some 14), .plain (.load false 1), [.tmp 13], none⟩
       (.step ⟨none, .plain (.store 1), [.tmp 1, .tmp 14], none⟩
       (.step ⟨none, .plain (.store 1), [.tmp 2, .tmp 16], none⟩
       .done))))))
       (.step ⟨none, .plain (.store 5), [.tmp 0, .tmp 12], none⟩
       (.step ⟨(some 14), .plain (.load false 1), [.tmp 13], none⟩
       (.or (.step ⟨(some 16), .plain (.load false 1), [.tmp 15], none⟩
       (.step ⟨none, .plain (.store 1), [.tmp 1, .tmp 14], none⟩
       (.step ⟨none, .plain (.store 1), [.tmp 2, .tmp 16], none⟩
       .done)))
       (.step ⟨none, .plain (.store 1), [.tmp 1, .tmp 14], none⟩
       (.step ⟨(some 16), .plain (.load false 1), [.tmp 15], none⟩
       (.step ⟨none, .plain (.store 1), [.tmp 2, .tmp 16], none⟩
       .done))))))))))) [12, 13, 15, 14, 16]))
     (.seq (.ops [⟨(some 5), .plain .mv, [.tmp 6], none⟩] [])
     (.ops [⟨(some 7), .plain .mv, [.tmp 5], none⟩,
       ⟨none, .panic, [.tmp 7], none⟩] [7])))))))
theorem ok69 : FOkR Zk.pg.toProgram Zk.imp 69 6 c69 Tryz.f69.ntmps := ⟨Tryz.f69, _, _, Tryz.func69, rfl, by kernel_rfl, rfl, by kernel_rfl, by kernel_rfl, rfl, by decide⟩

end Go.Pm

/- ZkS9: code, resolved. Written by gen.py out of what ShowSC.lean printed. -/
namespace Go.Pm
open Go Go.Proofs

/-- ironbark/ironbarklaw34.large -/
def c10 : SC :=
  (.seq (.ops [⟨(some 4), .plain .mv, [.lit (.bool false)], none⟩] [])
  (.seq (.ops [⟨(some 5), .plain .mv, [.lit (.int .i64 0)], none⟩] [])
  (.seq (.ops [⟨(some 10), .plain .mv, [.tmp 0], none⟩,
    ⟨(some 11), .plain (.buildRow 35 1 1 [.nilS] [0]), [.tmp 10], none⟩,
    ⟨(some 12), .plain .mv, [.tmp 1], none⟩,
    ⟨(some 13), .plain (.append 35 1 24), [.tmp 11, .tmp 12], none⟩,
    ⟨(some 6), .plain .mv, [.tmp 13], none⟩] [10, 11, 12, 13])
  (.seq (.seq (.ops [⟨(some 14), .plain .mv, [.tmp 6], none⟩,
    ⟨(some 15), .plain (.len 1), [.tmp 14], none⟩,
    ⟨(some 16), .plain (.bin .gtr), [.tmp 15, .lit (.int .i64 6)], none⟩] [14, 15])
  (.cond (.tmp 16)
   (.seq (.ops [⟨(some 4), .plain .mv, [.lit (.bool true)], none⟩] [])
   .ret)
   .skip))
  (.seq (.seq (.ops [⟨(some 7), .plain .mv, [.lit (.int .i64 0)], none⟩] [])
  (.block 0
   (.loop
    (.seq (.seq (.ops [⟨(some 17), .plain .mv, [.tmp 7], none⟩,
      ⟨(some 18), .plain .mv, [.tmp 6], none⟩,
      ⟨(some 19), .plain (.len 1), [.tmp 18], none⟩,
      ⟨(some 20), .plain (.bin .lss), [.tmp 17, .tmp 19], none⟩] [17, 18, 19])
    (.cond (.tmp 20)
     .skip
     (.exit 0)))
    (.seq (.block 1
     (.seq (.ops [⟨(some 8), .plain .mv, [.lit (.int .i64 0)], none⟩] [])
     (.block 2
      (.loop
       (.seq (.seq (.ops [⟨(some 23), .plain .mv, [.tmp 8], none⟩,
         ⟨(some 24), .plain .mv, [.tmp 6], none⟩,
         ⟨(some 25), .plain .mv, [.tmp 7], none⟩,
         ⟨(some 26), .plain (.indexAddr 1), [.tmp 24, .tmp 25], none⟩,
         ⟨(some 27), .plain (.load false 1), [.tmp 26], none⟩,
         ⟨(some 28), .plain (.len 1), [.tmp 27], none⟩,
         ⟨(some 29), .plain (.bin .lss), [.tmp 23, .tmp 28], none⟩] [23, 24, 25, 26, 27, 28])
       (.cond (.tmp 29)
        .skip
        (.exit 2)))
       (.seq (.block 3
        (.seq (.ops [⟨(some 32), .plain .mv, [.tmp 6], none⟩,
          ⟨(some 33), .plain .mv, [.tmp 7], none⟩,
          ⟨(some 34), .plain (.indexAddr 1), [.tmp 32, .tmp 33], none⟩,
          ⟨(some 35), .plain (.load false 1), [.tmp 34], none⟩,
          ⟨(some 36), .plain .mv, [.tmp 8], none⟩,
          ⟨(some 37), .plain (.indexAddr 5), [.tmp 35, .tmp 36], none⟩,
          ⟨(some 38), .plain (.load true 5), [.tmp 37], none⟩,
          ⟨(some 9), .plain (.alloc [(.str ⟨#[]⟩), (.str ⟨#[]⟩), .nilS, .nilS, .nilS]), [], none⟩,
          ⟨none, .plain (.store 5), [.tmp 9, .tmp 38], none⟩] [32, 33, 34, 35, 36, 37, 38])
        (.seq (.ops [⟨(some 39), .plain .mv, [.tmp 5], none⟩,
          ⟨(some 40), .plain (.fieldAddr 0), [.tmp 9], none⟩,
          ⟨(some 41), .plain (.load false 1), [.tmp 40], none⟩,
          ⟨(some 42), .plain (.len 0), [.tmp 41], none⟩,
          ⟨(some 43), .plain (.bin .add), [.lit (.int .i64 20), .tmp 42], none⟩,
          ⟨(some 44), .plain (.fieldAddr 2), [.tmp 9], none⟩,
          ⟨(some 45), .plain (.load false 1), [.tmp 44], none⟩,
          ⟨(some 46), .plain (.len 1), [.tmp 45], none⟩,
          ⟨(some 47), .plain (.fieldAddr 3), [.tmp 9], none⟩,
          ⟨(some 48), .plain (.load false 1), [.tmp 47], none⟩,
          ⟨(some 49), .plain (.len 1), [.tmp 48], none⟩,
          ⟨(some 50), .plain (.bin .add), [.tmp 46, .tmp 49], none⟩,
          ⟨(some 51), .plain (.fieldAddr 4), [.tmp 9], none⟩,
          ⟨(some 52), .plain (.load false 1), [.tmp 51], none⟩,
          ⟨(some 53), .plain (.len 1), [.tmp 52], none⟩,
          ⟨(some 54), .plain (.bin .add), [.tmp 50, .tmp 53], none⟩,
          ⟨(some 55), .plain (.bin .mul), [.lit (.int .i64 10), .tmp 54], none⟩,
          ⟨(some 56), .plain (.bin .add), [.tmp 43, .tmp 55], none⟩,
          ⟨(some 57), .plain (.bin .add), [.tmp 39, .tmp 56], none⟩,
          ⟨(some 5), .plain .mv, [.tmp 57], none⟩] [39, 40, 41, 42, 43, 44, 45, 46, 47, 48, 49, 50, 51, 52, 53, 54, 55, 56, 57])
        (.seq (.ops [⟨(some 58), .plain (.fieldAddr 1), [.tmp 9], none⟩,
          ⟨(some 59), .plain (.load false 1), [.tmp 58], none⟩,
          ⟨(some 60), .plain (.len 0), [.tmp 59], none⟩,
          ⟨(some 61), .plain (.bin .lss), [.tmp 60, .lit (.int .i64 19900)], none⟩] [58, 59, 60])
        (.cond (.tmp 61)
         (.ops [⟨(some 62), .plain .mv, [.tmp 5], none⟩,
           ⟨(some 63), .plain (.fieldAddr 1), [.tmp 9], none⟩,
           ⟨(some 64), .plain (.load false 1), [.tmp 63], none⟩,
           ⟨(some 65), .plain (.len 0), [.tmp 64], none⟩,
           ⟨(some 66), .plain (.bin .add), [.tmp 62, .tmp 65], none⟩,
           ⟨(some 5), .plain .mv, [.tmp 66], none⟩] [62, 63, 64, 65, 66])
         .skip)))))
       (.ops [⟨(some 30), .plain .mv, [.tmp 8], none⟩,
         ⟨(some 31), .plain (.bin .add), [.tmp 30, .lit (.int .i64 1)], none⟩,
         ⟨(some 8), .plain .mv, [.tmp 31], none⟩] [30, 31])))))))
    (.ops [⟨(some 21), .plain .mv, [.tmp 7], none⟩,
      ⟨(some 22), .plain (.bin .add), [.tmp 21, .lit (.int .i64 1)], none⟩,
      ⟨(some 7), .plain .mv, [.tmp 22], none⟩] [21, 22]))))))
  (.seq (.ops [⟨(some 67), .plain .mv, [.tmp 5], none⟩,
    ⟨(some 68), .plain (.bin .gtr), [.tmp 67, .lit (.int .i64 6000)], none⟩,
    ⟨(some 4), .plain .mv, [.tmp 68], none⟩] [67, 68])
  .ret))))))
def cr10 : List Res := [(4, none)]
theorem ok10 : FOk Zk.pg.toProgram Zk.imp 10 c10 cr10 Tryz.f10.ntmps := ⟨Tryz.f10, _, Tryz.func10, rfl, by kernel_rfl, by kernel_rfl, by kernel_rfl, rfl⟩

/-- ironbark/ironbarkref34.Given -/
def c13 : SC :=
  (.seq (.ops [⟨(some 2), .plain .mv, [.lit .nilS], none⟩] [])
  (.seq (.ops [⟨(some 4), .plain .mv, [.tmp 0], none⟩,
    ⟨(some 5), .plain (.append 27 5 104), [.lit .nilS, .tmp 4], none⟩,
    ⟨(some 0), .plain .mv, [.tmp 5], none⟩] [4, 5])
  (.seq (.seq (.ops [⟨(some 3), .plain .mv, [.lit (.int .i64 0)], none⟩] [])
  (.block 0
   (.loop
    (.seq (.seq (.ops [⟨(some 6), .plain .mv, [.tmp 3], none⟩,
      ⟨(some 7), .plain .mv, [.tmp 0], none⟩,
      ⟨(some 8), .plain (.len 1), [.tmp 7], none⟩,
      ⟨(some 9), .plain (.bin .lss), [.tmp 6, .tmp 8], none⟩] [6, 7, 8])
    (.cond (.tmp 9)
     .skip
     (.exit 0)))
    (.seq (.block 1
     (.seq (.ops [⟨(some 12), .plain .mv, [.tmp 0], none⟩,
       ⟨(some 13), .plain .mv, [.tmp 3], none⟩,
       ⟨(some 14), .plain .mv, [.tmp 0], none⟩,
       ⟨(some 15), .plain .mv, [.tmp 3], none⟩,
       ⟨(some 16), .plain (.indexAddr 5), [.tmp 14, .tmp 15], none⟩,
       ⟨(some 17), .plain (.fieldAddr 2), [.tmp 16], none⟩,
       ⟨(some 18), .plain (.load false 1), [.tmp 17], none⟩,
       ⟨(some 19), .plain (.append 65 2 24), [.lit .nilS, .tmp 18], none⟩,
       ⟨(some 20), .plain (.indexAddr 5), [.tmp 12, .tmp 13], none⟩,
       ⟨(some 21), .plain (.fieldAddr 2), [.tmp 20], none⟩,
       ⟨none, .plain (.store 1), [.tmp 21, .tmp 19], none⟩] [12, 13, 14, 15, 16, 17, 18, 19, 20, 21])
     (.seq (.ops [⟨(some 22), .plain .mv, [.tmp 0], none⟩,
       ⟨(some 23), .plain .mv, [.tmp 3], none⟩,
       ⟨(some 24), .plain .mv, [.tmp 0], none⟩,
       ⟨(some 25), .plain .mv, [.tmp 3], none⟩,
       ⟨(some 26), .plain (.indexAddr 5), [.tmp 24, .tmp 25], none⟩,
       ⟨(some 27), .plain (.fieldAddr 3), [.tmp 26], none⟩,
       ⟨(some 28), .plain (.load false 1), [.tmp 27], none⟩,
       ⟨(some 29), .plain (.append 77 3 32), [.lit .nilS, .tmp 28], none⟩,
       ⟨(some 30), .plain (.indexAddr 5), [.tmp 22, .tmp 23], none⟩,
       ⟨(some 31), .plain (.fieldAddr 3), [.tmp 30], none⟩,
       ⟨none, .plain (.store 1), [.tmp 31, .tmp 29], none⟩] [22, 23, 24, 25, 26, 27, 28, 29, 30, 31])
     (.ops [⟨(some 32), .plain .mv, [.tmp 0], none⟩,
       ⟨(some 33), .plain .mv, [.tmp 3], none⟩,
       ⟨(some 34), .plain .mv, [.tmp 0], none⟩,
       ⟨(some 35), .plain .mv, [.tmp 3], none⟩,
       ⟨(some 36), .plain (.indexAddr 5), [.tmp 34, .tmp 35], none⟩,
       ⟨(some 37), .plain (.fieldAddr 4), [.tmp 36], none⟩,
       ⟨(some 38), .plain (.load false 1), [.tmp 37], none⟩,
       ⟨(some 39), .plain (.append 79 2 16), [.lit .nilS, .tmp 38], none⟩,
       ⟨(some 40), .plain (.indexAddr 5), [.tmp 32, .tmp 33], none⟩,
       ⟨(some 41), .plain (.fieldAddr 4), [.tmp 40], none⟩,
       ⟨none, .plain (.store 1), [.tmp 41, .tmp 39], none⟩] [32, 33, 34, 35, 36, 37, 38, 39, 40, 41]))))
    (.ops [⟨(some 10), .plain .mv, [.tmp 3], none⟩,
      ⟨(some 11), .plain (.bin .add), [.tmp 10, .lit (.int .i64 1)], none⟩,
      ⟨(some 3), .plain .mv, [.tmp 11], none⟩] [10, 11]))))))
  (.seq (.ops [⟨(some 42), .plain .mv, [.tmp 0], none⟩,
    ⟨(some 2), .plain .mv, [.tmp 42], none⟩] [42])
  .ret))))
def cr13 : List Res := [(2, none)]
theorem ok13 : FOk Zk.pg.toProgram Zk.imp 13 c13 cr13 Tryz.f13.ntmps := ⟨Tryz.f13, _, Tryz.func13, rfl, by kernel_rfl, by kernel_rfl, by kernel_rfl, rfl⟩

/-- ironbark/ironbarkref34.GivenLists -/
def c14 : SC :=
  (.seq (.ops [⟨(some 2), .plain .mv, [.lit .nilS], none⟩] [])
  (.seq (.ops [⟨(some 4), .plain .mv, [.tmp 0], none⟩,
    ⟨(some 5), .plain (.append 35 1 24), [.lit .nilS, .tmp 4], none⟩,
    ⟨(some 0), .plain .mv, [.tmp 5], none⟩] [4, 5])
  (.seq (.seq (.ops [⟨(some 3), .plain .mv, [.lit (.int .i64 0)], none⟩] [])
  (.block 0
   (.loop
    (.seq (.seq (.ops [⟨(some 6), .plain .mv, [.tmp 3], none⟩,
      ⟨(some 7), .plain .mv, [.tmp 0], none⟩,
      ⟨(some 8), .plain (.len 1), [.tmp 7], none⟩,
      ⟨(some 9), .plain (.bin .lss), [.tmp 6, .tmp 8], none⟩] [6, 7, 8])
    (.cond (.tmp 9)
     .skip
     (.exit 0)))
    (.seq (.block 1
     (.ops [⟨(some 12), .plain .mv, [.tmp 0], none⟩,
       ⟨(some 13), .plain .mv, [.tmp 3], none⟩,
       ⟨(some 14), .plain .mv, [.tmp 0], none⟩,
       ⟨(some 15), .plain .mv, [.tmp 3], none⟩,
       ⟨(some 16), .plain (.indexAddr 1), [.tmp 14, .tmp 15], none⟩,
       ⟨(some 17), .plain (.load false 1), [.tmp 16], none⟩,
       ⟨(some 18), .call 13, [.tmp 17], none⟩,
       ⟨(some 19), .plain (.indexAddr 1), [.tmp 12, .tmp 13], none⟩,
       ⟨none, .plain (.store 1), [.tmp 19, .tmp 18], none⟩] [12, 13, 14, 15, 16, 17, 18, 19]))
    (.ops [⟨(some 10), .plain .mv, [.tmp 3], none⟩,
      ⟨(some 11), .plain (.bin .add), [.tmp 10, .lit (.int .i64 1)], none⟩,
      ⟨(some 3), .plain .mv, [.tmp 11], none⟩] [10, 11]))))))
  (.seq (.ops [⟨(some 20), .plain .mv, [.tmp 0], none⟩,
    ⟨(some 2), .plain .mv, [.tmp 20], none⟩] [20])
  .ret))))
def cr14 : List Res := [(2, none)]
theorem ok14 : FOk Zk.pg.toProgram Zk.imp 14 c14 cr14 Tryz.f14.ntmps := ⟨Tryz.f14, _, Tryz.func14, rfl, by kernel_rfl, by kernel_rfl, by kernel_rfl, rfl⟩

/-- ironbark/ironbarkref34.GivenImage -/
def c12 : SC :=
  (.seq (.ops [⟨(some 1), .plain (.box 5), [.tmp 0], none⟩,
    ⟨(some 2), .plain (.alloc [(.int .i64 0), (.str ⟨#[]⟩), .nilS, .nilS, .nilS]), [], none⟩] [])
  (.seq (.ops [⟨(some 3), .plain (.fieldAddr 2), [.tmp 1], none⟩,
    ⟨(some 4), .plain (.load false 1), [.tmp 3], none⟩,
    ⟨(some 5), .plain (.append 65 2 24), [.lit .nilS, .tmp 4], none⟩,
    ⟨(some 6), .plain (.fieldAddr 2), [.tmp 1], none⟩,
    ⟨none, .plain (.store 1), [.tmp 6, .tmp 5], none⟩] [3, 4, 5, 6])
  (.seq (.ops [⟨(some 7), .plain (.fieldAddr 3), [.tmp 1], none⟩,
    ⟨(some 8), .plain (.load false 1), [.tmp 7], none⟩,
    ⟨(some 9), .plain (.append 79 2 16), [.lit .nilS, .tmp 8], none⟩,
    ⟨(some 10), .plain (.fieldAddr 3), [.tmp 1], none⟩,
    ⟨none, .plain (.store 1), [.tmp 10, .tmp 9], none⟩] [7, 8, 9, 10])
  (.seq (.ops [⟨(some 11), .plain (.fieldAddr 4), [.tmp 1], none⟩,
    ⟨(some 12), .plain (.load false 1), [.tmp 11], none⟩,
    ⟨(some 13), .plain (.append 65 2 24), [.lit .nilS, .tmp 12], none⟩,
    ⟨(some 14), .plain (.fieldAddr 4), [.tmp 1], none⟩,
    ⟨none, .plain (.store 1), [.tmp 14, .tmp 13], none⟩] [11, 12, 13, 14])
  (.seq (.ops [⟨(some 15), .plain (.load true 5), [.tmp 1], none⟩,
    ⟨none, .plain (.store 5), [.tmp 2, .tmp 15], none⟩] [15])
  .ret)))))
def cr12 : List Res := [(2, some (true, 5))]
theorem ok12 : FOk Zk.pg.toProgram Zk.imp 12 c12 cr12 Tryz.f12.ntmps := ⟨Tryz.f12, _, Tryz.func12, rfl, by kernel_rfl, by kernel_rfl, by kernel_rfl, rfl⟩

/-- ironbark/ironbarklaw34.awake -/
def c6 : SC :=
  (.seq (.ops [⟨(some 0), .plain .mv, [.lit (.bool false)], none⟩] [])
  (.seq (.ops [⟨(some 5), .plain (.build [(.str ⟨#[]⟩), (.str ⟨#[]⟩), .nilS, .nilS, .nilS] [(0, 1), (1, 1)]), [.lit (.str ⟨#[65]⟩), .lit (.str ⟨#[97, 98, 99, 100, 101, 102]⟩)], none⟩,
    ⟨(some 6), .plain (.build [(.str ⟨#[]⟩), (.str ⟨#[]⟩), .nilS, .nilS, .nilS] [(0, 1), (1, 1)]), [.lit (.str ⟨#[66]⟩), .lit (.str ⟨#[119, 120, 121, 122]⟩)], none⟩,
    ⟨(some 7), .plain (.buildRow 27 5 2 [(.str ⟨#[]⟩), (.str ⟨#[]⟩), .nilS, .nilS, .nilS] [0, 1]), [.tmp 5, .tmp 6], none⟩,
    ⟨(some 8), .call 21, [.tmp 7, .lit .nilS, .lit (.int .i64 16)], none⟩,
    ⟨(some 4), .plain .mv, [.tmp 8], none⟩,
    ⟨(some 9), .plain (.extract 0), [.tmp 4], none⟩,
    ⟨(some 10), .plain (.extract 1), [.tmp 4], none⟩,
    ⟨(some 11), .plain (.extract 2), [.tmp 4], none⟩,
    ⟨(some 1), .plain (.alloc [(.int .i64 0), (.str ⟨#[]⟩), .nilS, .nilS, .nilS]), [], none⟩,
    ⟨none, .plain (.store 5), [.tmp 1, .tmp 9], none⟩,
    ⟨(some 2), .plain .mv, [.tmp 10], none⟩,
    ⟨(some 3), .plain .mv, [.tmp 11], none⟩] [5, 6, 7, 8, 4, 9, 10, 11])
  (.seq (.ops [⟨(some 12), .plain .mv, [.tmp 2], none⟩,
    ⟨(some 13), .plain (.bin .eql), [.tmp 12, .lit (.int .i64 0)], none⟩,
    ⟨(some 14), .plain .mv, [.tmp 13], none⟩,
    ⟨(some 15), .plain .mv, [.tmp 3], (some (14, true))⟩,
    ⟨(some 16), .plain (.bin .eql), [.tmp 15, .lit (.str ⟨#[]⟩)], (some (14, true))⟩,
    ⟨(some 17), .plain .pick, [.tmp 14, .tmp 16, .lit (.bool false)], none⟩,
    ⟨(some 18), .plain .mv, [.tmp 17], none⟩,
    ⟨(some 19), .plain (.fieldAddr 4), [.tmp 1], (some (18, true))⟩,
    ⟨(some 20), .plain (.load false 1), [.tmp 19], (some (18, true))⟩,
    ⟨(some 21), .plain (.len 1), [.tmp 20], (some (18, true))⟩,
    ⟨(some 22), .plain (.bin .eql), [.tmp 21, .lit (.int .i64 2)], (some (18, true))⟩,
    ⟨(some 23), .plain .pick, [.tmp 18, .tmp 22, .lit (.bool false)], none⟩,
    ⟨(some 24), .plain .mv, [.tmp 23], none⟩,
    ⟨(some 25), .plain (.fieldAddr 4), [.tmp 1], (some (24, true))⟩,
    ⟨(some 26), .plain (.load false 1), [.tmp 25], (some (24, true))⟩,
    ⟨(some 27), .plain (.indexAddr 2), [.tmp 26, .lit (.int .i64 0)], (some (24, true))⟩,
    ⟨(some 28), .plain (.fieldAddr 1), [.tmp 27], (some (24, true))⟩,
    ⟨(some 29), .plain (.load false 1), [.tmp 28], (some (24, true))⟩,
    ⟨(some 30), .plain (.bin .eql), [.tmp 29, .lit (.int .i64 16)], (some (24, true))⟩,
    ⟨(some 31), .plain .pick, [.tmp 24, .tmp 30, .lit (.bool false)], none⟩,
    ⟨(some 32), .plain .mv, [.tmp 31], none⟩,
    ⟨(some 33), .plain (.fieldAddr 4), [.tmp 1], (some (32, true))⟩,
    ⟨(some 34), .plain (.load false 1), [.tmp 33], (some (32, true))⟩,
    ⟨(some 35), .plain (.indexAddr 2), [.tmp 34, .lit (.int .i64 1)], (some (32, true))⟩,
    ⟨(some 36), .plain (.fieldAddr 1), [.tmp 35], (some (32, true))⟩,
    ⟨(some 37), .plain (.load false 1), [.tmp 36], (some (32, true))⟩,
    ⟨(some 38), .plain (.bin .eql), [.tmp 37, .lit (.int .i64 24)], (some (32, true))⟩,
    ⟨(some 39), .plain .pick, [.tmp 32, .tmp 38, .lit (.bool false)], none⟩,
    ⟨(some 40), .plain .mv, [.tmp 39], none⟩,
    ⟨(some 41), .plain (.fieldAddr 1), [.tmp 1], (some (40, true))⟩,
    ⟨(some 42), .plain (.load false 1), [.tmp 41], (some (40, true))⟩,
    ⟨(some 43), .plain (.bin .eql), [.tmp 42, .lit (.str ⟨#[97, 98, 99, 100, 101, 102, 0, 0, 119, 120, 121, 122]⟩)], (some (40, true))⟩,
    ⟨(some 44), .plain .pick, [.tmp 40, .tmp 43, .lit (.bool false)], none⟩,
    ⟨(some 0), .plain .mv, [.tmp 44], none⟩] [12, 13, 14, 15, 16, 17, 18, 19, 20, 21, 22, 23, 24, 25, 26, 27, 28, 29, 30, 31, 32, 33, 34, 35, 36, 37, 38, 39, 40, 41, 42, 43, 44])
  .ret)))
def cr6 : List Res := [(0, none)]
theorem ok6 : FOk Zk.pg.toProgram Zk.imp 6 c6 cr6 Tryz.f6.ntmps := ⟨Tryz.f6, _, Tryz.func6, rfl, by kernel_rfl, by kernel_rfl, by kernel_rfl, rfl⟩

end Go.Pm
