/- ZkR12: contracts: a line, read by the reference: DEF, REF, LINE. -/
import Derived.Test.YtolfkdphlgkekaaGreatDoorGc
import Derived.Test.YtolfkdphlgkekaaGreatDoorGb
import Derived.Test.YtolfkdphlgkekaaGreatDoorGa
import Derived.Test.YtolfkdphlgkekaaGreatDoorPmR
namespace Go.Pm
open Go Go.Proofs
attribute [-simp] List.getElem?_map

theorem qq : eqI 2 2 = true ∧ eqI 3 3 = true ∧ eqI 4 4 = true ∧ eqI 3 0 = false ∧ eqI 4 0 = false ∧ eqI 2 0 = false ∧ eqI 3 2 = false ∧ eqI 4 2 = false ∧ eqI 4 3 = false ∧ eqI 2 3 = false := by decide

set_option maxHeartbeats 4000000 in
theorem call28_def {S : QSt} {G : Nat × Nat × Nat} {nx : Nat} {s w1 w2 : ByteArray} (hs : s.size ≤ 200000) (hS : S.Fit) (h6 : eqI S.part 6 = false) (h0 : eqI S.part 0 = false) (hw : wordsF s = some [⟨#[68, 69, 70]⟩, w1, w2]) : ACalls Zk.pg 28 [.ptr 1 1 0, .str s] (memQ S G nx) (R28 S s) := by
  refine ok28.acalls (by simp) ?_
  obtain ⟨hsz, _, _⟩ := words_size hw
  have hw1 : w1.size ≤ 200000 := by have := hsz w1 (by simp); omega
  have hw2 : w2.size ≤ 200000 := by have := hsz w2 (by simp); omega
  have hv : wordsAV s = .list true 1 ([⟨#[68, 69, 70]⟩, w1, w2].map fun x => [.str x]) := by unfold wordsAV; rw [hw]
  obtain ⟨⟨nm, code, defs, refs, lines⟩, part, full⟩ := S
  obtain ⟨gd, gr, gl⟩ := G
  simp only at h6 h0
  have hlq : lineQ ⟨⟨nm, code, defs, refs, lines⟩, part, full⟩ s = if leI part 3 && namedF w1 then (numRL w2.data.toList).map fun n => ⟨⟨nm, code, defs ++ [⟨w1, n⟩], refs, lines⟩, 3, full⟩ else none := by
    unfold lineQ
    rw [hw]
    simp [h6, ix, lineK, kOfW, h0, qq]
  have no : lineQ ⟨⟨nm, code, defs, refs, lines⟩, part, full⟩ s = none → ∀ S' G' nx' m', Mem.le (memQ S' G' nx') m' → R28 ⟨⟨nm, code, defs, refs, lines⟩, part, full⟩ s (.ret (.bool false)) m' := fun h S' G' nx' m' hm => ⟨S', G', nx', hm, .inr ⟨rfl, h⟩⟩
  have yes : ∀ S', lineQ ⟨⟨nm, code, defs, refs, lines⟩, part, full⟩ s = some S' → ∀ G' nx' m', Mem.le (memQ S' G' nx') m' → R28 ⟨⟨nm, code, defs, refs, lines⟩, part, full⟩ s (.ret (.bool true)) m' := fun S' h G' nx' m' hm => ⟨S', G', nx', hm, .inl ⟨rfl, h⟩⟩
  have hdl := hS.defs
  simp only at hdl
  have hd1 : (defs.length + 1) * 24 ≤ 140737488355328 := by omega
  have hd2 : defs.length + 1 ≤ 9223372036854775807 := by omega
  simp [c28, memQ]
  refine xcall_p (call81 s (by omega)) (by simp) ?_
  rw [hv]
  simp [nilCheckA, h6, eqW, h0, qq]
  refine br_guard_t rfl (fun h3 => ?_) (fun h3 => ?_)
  case refine_2 =>
    simp [nilCheckA, h3, eqW, qq, postA_ret, cr28]
    exact no (by rw [hlq]; simp [h3]) ⟨⟨nm, code, defs, refs, lines⟩, part, full⟩ (gd, gr, gl) nx _ (Mem.le_of rfl (by simp [memQ]))
  simp [h3]
  refine xcall_p (call82 w1 (by omega)) rfl ?_
  simp
  refine br_cond rfl (fun h4 => ?_) (fun h4 => ?_)
  case refine_2 =>
    simp [nilCheckA, h3, eqW, qq, postA_ret, cr28]
    exact no (by rw [hlq]; simp [h4]) ⟨⟨nm, code, defs, refs, lines⟩, part, full⟩ (gd, gr, gl) nx _ (Mem.le_of rfl (by simp [memQ]))
  simp
  refine xcall_p (call84 w2 (by omega)) rfl ?_
  cases hn : numRL w2.data.toList with
  | none =>
    have hv2 : numRAV w2 = .tuple [.int .i64 0, .bool false] := by unfold numRAV; rw [hn]
    simp [hv2, nilCheckA, appendA, hd1, hd2, postA_ret, cr28]
    exact no (by rw [hlq]; simp [h3, h4, hn]) ⟨⟨nm, code, defs ++ [⟨w1, 0⟩], refs, lines⟩, 3, full⟩ (nx + 1, gr, gl) (nx + 2) _ (Mem.le_of rfl (by simp [memQ, DDef.av]))
  | some b =>
    have hv2 : numRAV w2 = .tuple [.int .i64 b, .bool true] := by unfold numRAV; rw [hn]
    simp [hv2, nilCheckA, appendA, hd1, hd2, postA_ret, cr28]
    exact yes ⟨⟨nm, code, defs ++ [⟨w1, b⟩], refs, lines⟩, 3, full⟩ (by rw [hlq]; simp [h3, h4, hn]) (nx + 1, gr, gl) (nx + 2) _ (Mem.le_of rfl (by simp [memQ, DDef.av]))
end Go.Pm

/- ZkR13: contracts: a line, read by the reference: REF. -/
namespace Go.Pm
open Go Go.Proofs
attribute [-simp] List.getElem?_map

set_option maxHeartbeats 4000000 in
theorem call28_ref {S : QSt} {G : Nat × Nat × Nat} {nx : Nat} {s w1 w2 w3 : ByteArray} (hs : s.size ≤ 200000) (hS : S.Fit) (h6 : eqI S.part 6 = false) (h0 : eqI S.part 0 = false) (hw : wordsF s = some [⟨#[82, 69, 70]⟩, w1, w2, w3]) : ACalls Zk.pg 28 [.ptr 1 1 0, .str s] (memQ S G nx) (R28 S s) := by
  refine ok28.acalls (by simp) ?_
  obtain ⟨hsz, _, _⟩ := words_size hw
  have hw1 : w1.size ≤ 200000 := by have := hsz w1 (by simp); omega
  have hw2 : w2.size ≤ 200000 := by have := hsz w2 (by simp); omega
  have hw3 : w3.size ≤ 200000 := by have := hsz w3 (by simp); omega
  have hv : wordsAV s = .list true 1 ([⟨#[82, 69, 70]⟩, w1, w2, w3].map fun x => [.str x]) := by unfold wordsAV; rw [hw]
  obtain ⟨⟨nm, code, defs, refs, lines⟩, part, full⟩ := S
  obtain ⟨gd, gr, gl⟩ := G
  simp only at h6 h0
  have hlq : lineQ ⟨⟨nm, code, defs, refs, lines⟩, part, full⟩ s = if leI part 4 && namedF w2 then (numRL w1.data.toList).bind fun a => (numRL w3.data.toList).map fun b => ⟨⟨nm, code, defs, refs ++ [⟨a, w2, b⟩], lines⟩, 4, full⟩ else none := by
    unfold lineQ
    rw [hw]
    simp [h6, ix, lineK, kOfW, h0, qq]
  have no : lineQ ⟨⟨nm, code, defs, refs, lines⟩, part, full⟩ s = none → ∀ S' G' nx' m', Mem.le (memQ S' G' nx') m' → R28 ⟨⟨nm, code, defs, refs, lines⟩, part, full⟩ s (.ret (.bool false)) m' := fun h S' G' nx' m' hm => ⟨S', G', nx', hm, .inr ⟨rfl, h⟩⟩
  have yes : ∀ S', lineQ ⟨⟨nm, code, defs, refs, lines⟩, part, full⟩ s = some S' → ∀ G' nx' m', Mem.le (memQ S' G' nx') m' → R28 ⟨⟨nm, code, defs, refs, lines⟩, part, full⟩ s (.ret (.bool true)) m' := fun S' h G' nx' m' hm => ⟨S', G', nx', hm, .inl ⟨rfl, h⟩⟩
  have hdl := hS.refs
  simp only at hdl
  have hd1 : (refs.length + 1) * 32 ≤ 140737488355328 := by omega
  have hd2 : refs.length + 1 ≤ 9223372036854775807 := by omega
  simp [c28, memQ]
  refine xcall_p (call81 s (by omega)) (by simp) ?_
  rw [hv]
  simp [nilCheckA, h6, eqW, h0, qq]
  refine br_guard_t rfl (fun h3 => ?_) (fun h3 => ?_)
  case refine_2 =>
    simp [nilCheckA, h3, eqW, qq, postA_ret, cr28]
    exact no (by rw [hlq]; simp [h3]) ⟨⟨nm, code, defs, refs, lines⟩, part, full⟩ (gd, gr, gl) nx _ (Mem.le_of rfl (by simp [memQ]))
  simp [h3]
  refine xcall_p (call82 w2 (by omega)) rfl ?_
  simp
  refine br_cond rfl (fun h4 => ?_) (fun h4 => ?_)
  case refine_2 =>
    simp [nilCheckA, h3, eqW, qq, postA_ret, cr28]
    exact no (by rw [hlq]; simp [h4]) ⟨⟨nm, code, defs, refs, lines⟩, part, full⟩ (gd, gr, gl) nx _ (Mem.le_of rfl (by simp [memQ]))
  simp
  refine xcall_p (call84 w1 (by omega)) rfl ?_
  cases ha : numRL w1.data.toList with
  | none =>
    have hva : numRAV w1 = .tuple [.int .i64 0, .bool false] := by unfold numRAV; rw [ha]
    simp [hva]
    refine xcall_p (call84 w3 (by omega)) rfl ?_
    cases hb : numRL w3.data.toList with
    | none =>
      have hvb : numRAV w3 = .tuple [.int .i64 0, .bool false] := by unfold numRAV; rw [hb]
      simp [hvb, nilCheckA, appendA, hd1, hd2, postA_ret, cr28]
      exact no (by rw [hlq]; simp [h3, h4, ha, hb]) ⟨⟨nm, code, defs, refs ++ [⟨0, w2, 0⟩], lines⟩, 4, full⟩ (gd, nx + 1, gl) (nx + 2) _ (Mem.le_of rfl (by simp [memQ, DRef.av]))
    | some b =>
      have hvb : numRAV w3 = .tuple [.int .i64 b, .bool true] := by unfold numRAV; rw [hb]
      simp [hvb, nilCheckA, appendA, hd1, hd2, postA_ret, cr28]
      exact no (by rw [hlq]; simp [h3, h4, ha, hb]) ⟨⟨nm, code, defs, refs ++ [⟨0, w2, b⟩], lines⟩, 4, full⟩ (gd, nx + 1, gl) (nx + 2) _ (Mem.le_of rfl (by simp [memQ, DRef.av]))
  | some a =>
    have hva : numRAV w1 = .tuple [.int .i64 a, .bool true] := by unfold numRAV; rw [ha]
    simp [hva]
    refine xcall_p (call84 w3 (by omega)) rfl ?_
    cases hb : numRL w3.data.toList with
    | none =>
      have hvb : numRAV w3 = .tuple [.int .i64 0, .bool false] := by unfold numRAV; rw [hb]
      simp [hvb, nilCheckA, appendA, hd1, hd2, postA_ret, cr28]
      exact no (by rw [hlq]; simp [h3, h4, ha, hb]) ⟨⟨nm, code, defs, refs ++ [⟨a, w2, 0⟩], lines⟩, 4, full⟩ (gd, nx + 1, gl) (nx + 2) _ (Mem.le_of rfl (by simp [memQ, DRef.av]))
    | some b =>
      have hvb : numRAV w3 = .tuple [.int .i64 b, .bool true] := by unfold numRAV; rw [hb]
      simp [hvb, nilCheckA, appendA, hd1, hd2, postA_ret, cr28]
      exact yes ⟨⟨nm, code, defs, refs ++ [⟨a, w2, b⟩], lines⟩, 4, full⟩ (by rw [hlq]; simp [h3, h4, ha, hb]) (gd, nx + 1, gl) (nx + 2) _ (Mem.le_of rfl (by simp [memQ, DRef.av]))
end Go.Pm

/- ZkR14: contracts: a line, read by the reference: LINE. -/
namespace Go.Pm
open Go Go.Proofs
attribute [-simp] List.getElem?_map

set_option maxHeartbeats 4000000 in
theorem call28_line {S : QSt} {G : Nat × Nat × Nat} {nx : Nat} {s w1 w2 : ByteArray} (hs : s.size ≤ 200000) (hS : S.Fit) (h6 : eqI S.part 6 = false) (h0 : eqI S.part 0 = false) (hw : wordsF s = some [⟨#[76, 73, 78, 69]⟩, w1, w2]) : ACalls Zk.pg 28 [.ptr 1 1 0, .str s] (memQ S G nx) (R28 S s) := by
  refine ok28.acalls (by simp) ?_
  obtain ⟨hsz, _, _⟩ := words_size hw
  have hw1 : w1.size ≤ 200000 := by have := hsz w1 (by simp); omega
  have hw2 : w2.size ≤ 200000 := by have := hsz w2 (by simp); omega
  have hv : wordsAV s = .list true 1 ([⟨#[76, 73, 78, 69]⟩, w1, w2].map fun x => [.str x]) := by unfold wordsAV; rw [hw]
  obtain ⟨⟨nm, code, defs, refs, lines⟩, part, full⟩ := S
  obtain ⟨gd, gr, gl⟩ := G
  simp only at h6 h0
  have hlq : lineQ ⟨⟨nm, code, defs, refs, lines⟩, part, full⟩ s = if leI part 5 then (numRL w1.data.toList).bind fun a => (numRL w2.data.toList).map fun b => ⟨⟨nm, code, defs, refs, lines ++ [⟨a, b⟩]⟩, 5, full⟩ else none := by
    unfold lineQ
    rw [hw]
    simp [h6, ix, lineK, kOfW, h0, qq]
  have no : lineQ ⟨⟨nm, code, defs, refs, lines⟩, part, full⟩ s = none → ∀ S' G' nx' m', Mem.le (memQ S' G' nx') m' → R28 ⟨⟨nm, code, defs, refs, lines⟩, part, full⟩ s (.ret (.bool false)) m' := fun h S' G' nx' m' hm => ⟨S', G', nx', hm, .inr ⟨rfl, h⟩⟩
  have yes : ∀ S', lineQ ⟨⟨nm, code, defs, refs, lines⟩, part, full⟩ s = some S' → ∀ G' nx' m', Mem.le (memQ S' G' nx') m' → R28 ⟨⟨nm, code, defs, refs, lines⟩, part, full⟩ s (.ret (.bool true)) m' := fun S' h G' nx' m' hm => ⟨S', G', nx', hm, .inl ⟨rfl, h⟩⟩
  have hdl := hS.lines
  simp only at hdl
  have hd1 : (lines.length + 1) * 16 ≤ 140737488355328 := by omega
  have hd2 : lines.length + 1 ≤ 9223372036854775807 := by omega
  simp [c28, memQ]
  refine xcall_p (call81 s (by omega)) (by simp) ?_
  rw [hv]
  simp [nilCheckA, h6, eqW, h0, qq]
  refine br_cond rfl (fun h3 => ?_) (fun h3 => ?_)
  case refine_2 =>
    simp [nilCheckA, h3, eqW, qq, postA_ret, cr28]
    exact no (by rw [hlq]; simp [h3]) ⟨⟨nm, code, defs, refs, lines⟩, part, full⟩ (gd, gr, gl) nx _ (Mem.le_of rfl (by simp [memQ]))
  simp
  refine xcall_p (call84 w1 (by omega)) rfl ?_
  cases ha : numRL w1.data.toList with
  | none =>
    have hva : numRAV w1 = .tuple [.int .i64 0, .bool false] := by unfold numRAV; rw [ha]
    simp [hva]
    refine xcall_p (call84 w2 (by omega)) rfl ?_
    cases hb : numRL w2.data.toList with
    | none =>
      have hvb : numRAV w2 = .tuple [.int .i64 0, .bool false] := by unfold numRAV; rw [hb]
      simp [hvb, nilCheckA, appendA, hd1, hd2, postA_ret, cr28]
      exact no (by rw [hlq]; simp [h3, ha, hb]) ⟨⟨nm, code, defs, refs, lines ++ [⟨0, 0⟩]⟩, 5, full⟩ (gd, gr, nx + 1) (nx + 2) _ (Mem.le_of rfl (by simp [memQ, DLine.av]))
    | some b =>
      have hvb : numRAV w2 = .tuple [.int .i64 b, .bool true] := by unfold numRAV; rw [hb]
      simp [hvb, nilCheckA, appendA, hd1, hd2, postA_ret, cr28]
      exact no (by rw [hlq]; simp [h3, ha, hb]) ⟨⟨nm, code, defs, refs, lines ++ [⟨0, b⟩]⟩, 5, full⟩ (gd, gr, nx + 1) (nx + 2) _ (Mem.le_of rfl (by simp [memQ, DLine.av]))
  | some a =>
    have hva : numRAV w1 = .tuple [.int .i64 a, .bool true] := by unfold numRAV; rw [ha]
    simp [hva]
    refine xcall_p (call84 w2 (by omega)) rfl ?_
    cases hb : numRL w2.data.toList with
    | none =>
      have hvb : numRAV w2 = .tuple [.int .i64 0, .bool false] := by unfold numRAV; rw [hb]
      simp [hvb, nilCheckA, appendA, hd1, hd2, postA_ret, cr28]
      exact no (by rw [hlq]; simp [h3, ha, hb]) ⟨⟨nm, code, defs, refs, lines ++ [⟨a, 0⟩]⟩, 5, full⟩ (gd, gr, nx + 1) (nx + 2) _ (Mem.le_of rfl (by simp [memQ, DLine.av]))
    | some b =>
      have hvb : numRAV w2 = .tuple [.int .i64 b, .bool true] := by unfold numRAV; rw [hb]
      simp [hvb, nilCheckA, appendA, hd1, hd2, postA_ret, cr28]
      exact yes ⟨⟨nm, code, defs, refs, lines ++ [⟨a, b⟩]⟩, 5, full⟩ (by rw [hlq]; simp [h3, ha, hb]) (gd, gr, nx + 1) (nx + 2) _ (Mem.le_of rfl (by simp [memQ, DLine.av]))
end Go.Pm

/- ZkR15: contracts: a line, read by the reference: CODE. -/
namespace Go.Pm
open Go Go.Proofs
attribute [-simp] List.getElem?_map

theorem app_nil (c : ByteArray) : c ++ mkB [] = c := by
  rw [← mkB_data c, mkB_append, List.append_nil]
theorem app_snoc (c : ByteArray) (l : List UInt8) (b : UInt8) : c ++ mkB l ++ mkB [b] = c ++ mkB (l ++ [b]) := by
  rw [← mkB_data c, mkB_append, mkB_append, mkB_append, List.append_assoc]
theorem digitF_bound {c : UInt8} (h : ltI (digitF c) 0 = false) : 0 ≤ digitF c ∧ digitF c < 16 := by
  have h0 := ltI_f.1 h
  unfold digitF at *
  split at h0 <;> rename_i h1
  · rw [if_pos h1]; omega
  · rw [if_neg h1]
    split at h0 <;> rename_i h2
    · rw [if_pos h2]; omega
    · omega

set_option maxHeartbeats 4000000 in
theorem call28_code {S : QSt} {G : Nat × Nat × Nat} {nx : Nat} {s w1 : ByteArray} (hs : s.size ≤ 200000) (hS : S.Fit) (h6 : eqI S.part 6 = false) (h0 : eqI S.part 0 = false) (hw : wordsF s = some [⟨#[67, 79, 68, 69]⟩, w1]) : ACalls Zk.pg 28 [.ptr 1 1 0, .str s] (memQ S G nx) (R28 S s) := by
  refine ok28.acalls (by simp) ?_
  obtain ⟨hsz, _, _⟩ := words_size hw
  have hw1 : w1.size ≤ 200000 := by have := hsz w1 (by simp); omega
  have hv : wordsAV s = .list true 1 ([⟨#[67, 79, 68, 69]⟩, w1].map fun x => [.str x]) := by unfold wordsAV; rw [hw]
  obtain ⟨⟨nm, code, defs, refs, lines⟩, part, full⟩ := S
  obtain ⟨gd, gr, gl⟩ := G
  simp only at h6 h0
  have hlq : lineQ ⟨⟨nm, code, defs, refs, lines⟩, part, full⟩ s = if leI part 2 && full then
      (if eqI ((w1.size : Int).tmod 2) 0 && leI w1.size 64 then (hexT w1).map fun b => ⟨⟨nm, code ++ b, defs, refs, lines⟩, 2, eqI w1.size 64⟩ else none) else none := by
    unfold lineQ
    rw [hw]
    simp [h6, ix, lineK, kOfW, h0, qq]
  have no : lineQ ⟨⟨nm, code, defs, refs, lines⟩, part, full⟩ s = none → ∀ S' G' nx' m', Mem.le (memQ S' G' nx') m' → R28 ⟨⟨nm, code, defs, refs, lines⟩, part, full⟩ s (.ret (.bool false)) m' := fun h S' G' nx' m' hm => ⟨S', G', nx', hm, .inr ⟨rfl, h⟩⟩
  have yes : ∀ S', lineQ ⟨⟨nm, code, defs, refs, lines⟩, part, full⟩ s = some S' → ∀ G' nx' m', Mem.le (memQ S' G' nx') m' → R28 ⟨⟨nm, code, defs, refs, lines⟩, part, full⟩ s (.ret (.bool true)) m' := fun S' h G' nx' m' hm => ⟨S', G', nx', hm, .inl ⟨rfl, h⟩⟩
  have hcode := hS.code
  simp only at hcode
  simp [c28, memQ]
  refine xcall_p (call81 s (by omega)) (by simp) ?_
  rw [hv]
  simp [nilCheckA, h6, eqW, h0, qq]
  refine br_guard_t rfl (fun h3 => ?_) (fun h3 => ?_)
  case refine_2 =>
    simp [nilCheckA, h3, eqW, qq, postA_ret, cr28]
    exact no (by rw [hlq]; simp [h3]) ⟨⟨nm, code, defs, refs, lines⟩, part, full⟩ (gd, gr, gl) nx _ (Mem.le_of rfl (by simp [memQ]))
  simp [nilCheckA, h3]
  cases full with
  | false =>
    simp [nilCheckA, h3, eqW, qq, postA_ret, cr28]
    exact no (by rw [hlq]; simp) ⟨⟨nm, code, defs, refs, lines⟩, part, false⟩ (gd, gr, gl) nx _ (Mem.le_of rfl (by simp [memQ]))
  | true =>
    simp
    refine br_guard_f rfl (fun h4 => ?_) (fun h4 => ?_)
    · simp at h4
      simp [h4, postA_ret, cr28]
      exact no (by rw [hlq]; simp [h4]) ⟨⟨nm, code, defs, refs, lines⟩, part, true⟩ (gd, gr, gl) nx _ (Mem.le_of rfl (by simp [memQ]))
    simp at h4
    simp [h4]
    refine br_cond rfl (fun h5 => ?_) (fun h5 => ?_)
    · have := ltI_t.1 h5
      simp [postA_ret, cr28]
      exact no (by rw [hlq]; simp [h3, h4, leI_f.2 this]) ⟨⟨nm, code, defs, refs, lines⟩, part, true⟩ (gd, gr, gl) nx _ (Mem.le_of rfl (by simp [memQ]))
    have h64 := ltI_f.1 h5
    have hle : leI (w1.size : Int) 64 = true := leI_t.2 h64
    have hev : w1.size = 2 * (w1.size / 2) := by
      have h0 := eqI_t.1 h4
      rw [Int.tmod_eq_emod_of_nonneg (by omega)] at h0
      omega
    simp
    refine wpS_loopS (ι := Nat × Nat) (fun g => [(0, .ptr 1 1 0), (6, .str w1), (7, .int .i64 (2 * g.1 : Nat))])
      (fun g => memQ ⟨⟨nm, code ++ mkB ((List.range g.1).map (hexByte w1)), defs, refs, lines⟩, part, true⟩ (gd, gr, gl) g.2) (fun g => w1.size / 2 - g.1)
      (fun g => g.1 ≤ w1.size / 2 ∧ (List.range g.1).all (okPairF w1) = true) (0, nx) ⟨Nat.zero_le _, rfl⟩ (Sim.of_le (Env.le_of (by simp)) (Mem.le_of rfl (by simp [memQ, app_nil]))) ?_
    rintro ⟨k, nx'⟩ ⟨hk, hall⟩
    simp only at hk hall
    obtain ⟨p, hp⟩ : ∃ p, p = 2 * k := ⟨_, rfl⟩
    simp only [← hp]
    simp [memQ]
    refine br_cond rfl (fun h7 => ?_) (fun h7 => ?_)
    · have hlt : p < w1.size := by have := ltI_t.1 h7; omega
      obtain ⟨q, hq⟩ : ∃ q, q = p + 1 := ⟨_, rfl⟩
      have hwq : IntKind.i64.wrap ((p : Int) + 1) = (q : Int) := by rw [wrap64 (by omega) (by omega)]; omega
      have hlq' : ltI (q : Int) w1.size = true := ltN (by omega)
      simp [idxS h7, idxS hlq', hwq]
      refine xdcall_p rfl (call83 (byteAt w1 p)) rfl ?_
      simp [idxS h7, idxS hlq', hwq]
      refine xdcall_p rfl (call83 (byteAt w1 q)) rfl ?_
      simp
      have hpr : okPairF w1 k = (!ltI (digitF (byteAt w1 p)) 0 && !ltI (digitF (byteAt w1 q)) 0) := by rw [okPairF, hq, hp]
      have hpb : hexByte w1 k = UInt8.ofNat (16 * digitF (byteAt w1 p) + digitF (byteAt w1 q)).toNat := by rw [hexByte, hq, hp]
      have badp : okPairF w1 k = false → hexT w1 = none := fun h => by
        unfold hexT
        rw [if_neg]
        intro ha
        have := List.all_eq_true.1 ha k (List.mem_range.2 (by omega))
        rw [h] at this; cases this
      refine br_guard_f rfl (fun h8 => ?_) (fun h8 => ?_)
      · simp [h8, postA_ret, cr28]
        exact no (by rw [hlq]; simp [h3, h4, hle, badp (by rw [hpr, h8]; rfl)]) ⟨⟨nm, code ++ mkB ((List.range k).map (hexByte w1)), defs, refs, lines⟩, part, true⟩ (gd, gr, gl) nx' _ (Mem.le_of rfl (by simp [memQ]))
      simp [h8]
      refine br_cond rfl (fun h9 => ?_) (fun h9 => ?_)
      · simp [postA_ret, cr28]
        exact no (by rw [hlq]; simp [h3, h4, hle, badp (by rw [hpr, h9]; simp)]) ⟨⟨nm, code ++ mkB ((List.range k).map (hexByte w1)), defs, refs, lines⟩, part, true⟩ (gd, gr, gl) nx' _ (Mem.le_of rfl (by simp [memQ]))
      obtain ⟨da, hda⟩ : ∃ da, da = digitF (byteAt w1 p) := ⟨_, rfl⟩
      obtain ⟨db, hdb⟩ : ∃ db, db = digitF (byteAt w1 q) := ⟨_, rfl⟩
      have ba := digitF_bound h8
      have bb := digitF_bound h9
      simp only [← hda, ← hdb] at ba bb hpr hpb h8 h9 ⊢
      have x1 : IntKind.i64.wrap (16 * da) = 16 * da := wrap64 (by omega) (by omega)
      have x2 : IntKind.i64.wrap (16 * da + db) = 16 * da + db := wrap64 (by omega) (by omega)
      have x3 : IntKind.u8.wrap (16 * da + db) = 16 * da + db := u8w (by omega) (by omega)
      have x4 : IntKind.i64.wrap ((p : Int) + 2) = 2 * ((k : Int) + 1) := by rw [wrap64 (by omega) (by omega)]; omega
      have hcs : code.size + k ≤ 9223372036854775806 := by omega
      have x5 : ({ data := #[UInt8.ofNat (16 * da + db).toNat] } : ByteArray) = mkB [hexByte w1 k] := by rw [hpb]; rfl
      simp [nilCheckA, x1, x2, x3, x4, byteOf, x5, mkB_size, hcs]
      refine ⟨k + 1, ⟨by omega, fun y hy => ?_⟩, by omega, nx' + 1, Sim.of_le (Env.le_of (by simp)) (Mem.le_of rfl (by simp [List.range_succ, app_snoc]))⟩
      by_cases hyk : y = k
      · subst hyk; rw [hpr, h8, h9]; rfl
      · exact List.all_eq_true.1 hall y (List.mem_range.2 (by omega))
    · have hke : k = w1.size / 2 := by have := ltI_f.1 h7; omega
      have hx : hexT w1 = some (mkB ((List.range k).map (hexByte w1))) := by
        unfold hexT
        rw [← hke, if_pos hall]
      simp [nilCheckA, postA_ret, cr28]
      exact yes ⟨⟨nm, code ++ mkB ((List.range k).map (hexByte w1)), defs, refs, lines⟩, 2, eqI w1.size 64⟩ (by rw [hlq]; simp [h3, h4, hle, hx]) (gd, gr, gl) nx' _ (Mem.le_of rfl (by simp [memQ]))
end Go.Pm

/- ZkR16: contracts: the reference's Read. -/
namespace Go.Pm
open Go Go.Proofs
attribute [-simp] List.getElem?_map

theorem call28 {S : QSt} {G : Nat × Nat × Nat} {nx : Nat} {s : ByteArray} (hs : s.size ≤ 200000) (hS : S.Fit) :
    ACalls Zk.pg 28 [.ptr 1 1 0, .str s] (memQ S G nx) fun out m' => ∃ S' G' nx', m' = memQ S' G' nx' ∧ ((out = .ret (.bool true) ∧ lineQ S s = some S') ∨ (out = .ret (.bool false) ∧ lineQ S s = none)) := by
  have main : ACalls Zk.pg 28 [.ptr 1 1 0, .str s] (memQ S G nx) (R28 S s) := by
    by_cases hk : eqI S.part 6 = false ∧ eqI S.part 0 = false ∧ Kind s
    · obtain ⟨h6, h0, ⟨w1, hw⟩ | ⟨w1, w2, hw⟩ | ⟨w1, w2, w3, hw⟩ | ⟨w1, w2, hw⟩⟩ := hk
      · exact call28_code hs hS h6 h0 hw
      · exact call28_def hs hS h6 h0 hw
      · exact call28_ref hs hS h6 h0 hw
      · exact call28_line hs hS h6 h0 hw
    · exact call28_no hs hS fun h6 h0 hK => hk ⟨h6, h0, hK⟩
  refine main.sim ?_
  rintro out m' ⟨S', G', nx', hm, h⟩
  exact ⟨out, _, ⟨S', G', nx', rfl, h⟩, SimO.forget hm⟩

/-- What the reference reads of a text line by line. -/
def refL : Nat → QSt → Nat → List UInt8 → Option QSt × Nat
  | 0, _, n, _ => (none, n)
  | f + 1, S, n, l => match cutN l with
    | none => (if l = [] then some S else none, n)
    | some (x, y) => match lineQ S (mkB x) with
      | none => (none, n)
      | some S' => refL f S' (n + 1) y
def startQ : QSt := ⟨⟨⟨#[]⟩, ⟨#[]⟩, [], [], []⟩, 0, false⟩
def noDeckQ : List AV := [.str ⟨#[]⟩, .str ⟨#[]⟩, .nilS, .nilS, .nilS]
def refRes (t : ByteArray) : List AV × Nat × Int :=
  if ltI 200000 t.size then (noDeckQ, 0, 3) else match refL (t.size + 1) startQ 0 t.data.toList with
  | (none, n) => (noDeckQ, n, 2)
  | (some S, n) => if eqI S.part 6 then (if deckOk S.o then (S.o.av, 0, 0) else (noDeckQ, n, 1)) else (noDeckQ, n, 2)
def refAV (t : ByteArray) : AV := .tuple [.agg (refRes t).1, .int .i64 (refRes t).2.1, .int .i64 (refRes t).2.2]

theorem cut_none : ∀ {l : List UInt8}, (∀ x ∈ l, x ≠ 10) → cutN l = none
  | [], _ => rfl
  | b :: t, h => by
    unfold cutN
    rw [if_neg (h b (by simp)), cut_none fun x hx => h x (List.mem_cons_of_mem _ hx)]; rfl
theorem cut_some : ∀ {x y : List UInt8}, (∀ b ∈ x, b ≠ 10) → cutN (x ++ 10 :: y) = some (x, y)
  | [], y, _ => by simp [cutN]
  | b :: t, y, h => by
    rw [List.cons_append]
    unfold cutN
    rw [if_neg (h b (by simp)), cut_some fun x hx => h x (List.mem_cons_of_mem _ hx)]; rfl

/-- The bounds of what is read so far. -/
structure QSt.Good (S : QSt) (at_ n : Nat) : Prop where
  part : S.part ≤ 6
  code : S.o.code.size ≤ at_
  defs : S.o.defs.length ≤ n
  refs : S.o.refs.length ≤ n
  lines : S.o.lines.length ≤ n
  name : S.o.name.size ≤ 200000
  dname : ∀ d ∈ S.o.defs, d.name.size ≤ 200000
  rname : ∀ d ∈ S.o.refs, d.name.size ≤ 200000

theorem hex_size {s b : ByteArray} (h : hexT s = some b) : b.size = s.size / 2 := by
  unfold hexT at h
  split at h
  · injection h with h; rw [← h, mkB_size, List.length_map, List.length_range]
  · cases h
theorem ix_le {l : List ByteArray} {B : Nat} (h : ∀ x ∈ l, x.size ≤ B) (i : Nat) : (ix l i).size ≤ B := by
  rcases Nat.lt_or_ge i l.length with hi | hi
  · exact h _ (ix_mem hi)
  · have : ix l i = default := by simp [ix, List.getD, hi]
    rw [this]
    exact Nat.zero_le _

theorem lineQ_good {S S' : QSt} {s : ByteArray} {a n : Nat} (h : lineQ S s = some S') (hS : S.Good a n) (hs : s.size ≤ 200000) : S'.Good (a + s.size) (n + 1) := by
  obtain ⟨g1, g2, g3, g4, g5, g6, g7, g8⟩ := hS
  unfold lineQ at h
  split at h
  · cases h
  rename_i w hw
  obtain ⟨hsz, _, _⟩ := words_size hw
  have hl : ∀ i, (ix w i).size ≤ 200000 := fun i => Nat.le_trans (ix_le hsz i) hs
  have hl1 := ix_le hsz 1
  split at h
  · cases h
  unfold lineK at h
  split at h
  · split at h
    · injection h with h; subst h
      exact ⟨by simp only; omega, by simp only; omega, by simp only; omega, by simp only; omega, by simp only; omega, hl 1, g7, g8⟩
    · cases h
  · split at h
    · cases h
    split at h
    · split at h
      · rw [Option.map_eq_some_iff] at h
        obtain ⟨b, hb, rfl⟩ := h
        have := hex_size hb
        exact ⟨by simp only; omega, by simp only [ByteArray.size_append]; omega, by simp only; omega, by simp only; omega, by simp only; omega, g6, g7, g8⟩
      · cases h
    · cases h
  · split at h
    · cases h
    split at h
    · rw [Option.map_eq_some_iff] at h
      obtain ⟨b, hb, rfl⟩ := h
      refine ⟨by simp only; omega, by simp only; omega, by simp; omega, by simp only; omega, by simp only; omega, g6, fun d hd => ?_, g8⟩
      rcases List.mem_append.1 hd with hd | hd
      · exact g7 d hd
      · rw [List.mem_singleton.1 hd]; exact hl 1
    · cases h
  · split at h
    · cases h
    split at h
    · rw [Option.bind_eq_some_iff] at h
      obtain ⟨x, hx, h⟩ := h
      rw [Option.map_eq_some_iff] at h
      obtain ⟨b, hb, rfl⟩ := h
      refine ⟨by simp only; omega, by simp only; omega, by simp only; omega, by simp; omega, by simp only; omega, g6, g7, fun d hd => ?_⟩
      rcases List.mem_append.1 hd with hd | hd
      · exact g8 d hd
      · rw [List.mem_singleton.1 hd]; exact hl 2
    · cases h
  · split at h
    · cases h
    split at h
    · rw [Option.bind_eq_some_iff] at h
      obtain ⟨x, hx, h⟩ := h
      rw [Option.map_eq_some_iff] at h
      obtain ⟨b, hb, rfl⟩ := h
      exact ⟨by simp only; omega, by simp only; omega, by simp only; omega, by simp only; omega, by simp; omega, g6, g7, g8⟩
    · cases h
  · split at h
    · cases h
    split at h
    · injection h with h; subst h
      exact ⟨by simp only; omega, by simp only; omega, by simp only; omega, by simp only; omega, by simp only; omega, g6, g7, g8⟩
    · cases h
  · cases h

theorem seg_data (t : ByteArray) (a i : Nat) : (t.extract a i).data.toList = (t.data.toList.drop a).take (i - a) := Lib.extract_data t a i
theorem drop_seg {t : ByteArray} {a i : Nat} (hai : a ≤ i) (hi : i < t.size) : t.data.toList.drop a = (t.extract a i).data.toList ++ byteAt t i :: t.data.toList.drop (i + 1) := by
  rw [seg_data, ← drop_byte hi]
  have : t.data.toList.drop i = (t.data.toList.drop a).drop (i - a) := by rw [List.drop_drop]; congr 1; omega
  rw [this, List.take_append_drop]
theorem seg_mem {t : ByteArray} {a i : Nat} {P : UInt8 → Prop} (h : ∀ j, a ≤ j → j < i → P (byteAt t j)) (hi : i ≤ t.size) : ∀ x ∈ (t.extract a i).data.toList, P x := by
  intro x hx
  rw [seg_data] at hx
  obtain ⟨k, hk, rfl⟩ := List.getElem_of_mem hx
  have hk' : k < i - a := by
    have := hk
    rw [List.length_take] at this; omega
  have hlt : a + k < t.data.toList.length := by rw [len_data]; omega
  have e : ((t.data.toList.drop a).take (i - a))[k] = byteAt t (a + k) := by
    rw [List.getElem_take, List.getElem_drop, byteAt_eq hlt]
  rw [e]
  exact h (a + k) (by omega) (by omega)
end Go.Pm

/- ZkV3: plain: the linker and the reference read the same of a text. -/
namespace Go.Pm
open Go Go.Proofs

theorem chOk_eq (b : UInt8) : chOk b = (decide (33 ≤ b.toNat) && decide (b.toNat ≤ 126)) := by
  unfold chOk ltI
  by_cases h1 : 33 ≤ b.toNat <;> by_cases h2 : b.toNat ≤ 126 <;> simp [h1, h2] <;> omega
theorem okPart_eq (x : ByteArray) : okPart x = namedF x := by
  unfold okPart namedF
  congr 2
  funext b
  exact (chOk_eq b).symm
theorem namedF_of {x : ByteArray} (hne : x ≠ ⟨#[]⟩) (h : ∀ b ∈ x.data.toList, chOk b = true) : namedF x = true := by
  unfold namedF
  rw [eqS_dec]
  simp only [hne, decide_false, Bool.not_false, Bool.true_and]
  exact List.all_eq_true.2 h
theorem dig_ch {c : UInt8} (h : isDig c = true) : chOk c = true := by
  unfold isDig at h
  rw [chOk_eq]
  simp only [Bool.and_eq_true, decide_eq_true_eq] at h ⊢
  omega
theorem num_named {x : ByteArray} {n : Int} (h : numRL x.data.toList = some n) : namedF x = true := by
  unfold numRL at h
  split at h
  · cases h
  rename_i h1
  split at h
  case isFalse => cases h
  rename_i hd
  have hne : tailN x.data.toList ≠ [] := fun e => h1 (.inl (by rw [e]; decide))
  refine namedF_of (fun e => hne (by rw [e]; rfl)) fun b hb => ?_
  unfold tailN at hd
  split at hd
  · rename_i h45
    cases hx : x.data.toList with
    | nil => rw [hx] at hb; cases hb
    | cons a l =>
      rw [hx] at hb h45 hd
      simp only [List.head?_cons, Option.some.injEq] at h45
      rcases List.mem_cons.1 hb with rfl | hb
      · rw [h45]; rfl
      · exact dig_ch (List.all_eq_true.1 hd b hb)
  · exact dig_ch (List.all_eq_true.1 hd b hb)
theorem digit_ch {c : UInt8} (h : ltI (digitF c) 0 = false) : chOk c = true := by
  have h0 := ltI_f.1 h
  unfold digitF at h0
  rw [chOk_eq]
  simp only [Bool.and_eq_true, decide_eq_true_eq]
  split at h0
  · omega
  · split at h0
    · omega
    · omega
theorem hex_named {x b : ByteArray} (hne : x ≠ ⟨#[]⟩) (hev : eqI ((x.size : Int).tmod 2) 0 = true) (h : hexT x = some b) : namedF x = true := by
  unfold hexT at h
  split at h
  case isFalse => cases h
  rename_i hall
  have hev' : x.size = 2 * (x.size / 2) := by
    have h0 := eqI_t.1 hev
    rw [Int.tmod_eq_emod_of_nonneg (by omega)] at h0
    omega
  refine namedF_of hne (List.all_eq_true.1 ((all_bytes x).2 fun j hj => ?_))
  have hp := List.all_eq_true.1 hall (j / 2) (List.mem_range.2 (by omega))
  unfold okPairF at hp
  simp only [Bool.and_eq_true, Bool.not_eq_true'] at hp
  rcases Nat.mod_two_eq_zero_or_one j with h | h
  · have e : 2 * (j / 2) = j := by omega
    rw [e] at hp
    exact digit_ch hp.1
  · have e : 2 * (j / 2) + 1 = j := by omega
    rw [e] at hp
    exact digit_ch hp.2

theorem bytes_hex {x : ByteArray} (hev : eqI ((x.size : Int).tmod 2) 0 = true) : bytesT x = hexT x := by
  have ok : ∀ k, okPair x k = okPairF x k := fun k => by
    unfold okPair okPairF
    rw [figI_eq, figI_eq]
    have e : ∀ a : Int, leI 0 a = !ltI a 0 := fun a => by
      unfold leI ltI
      by_cases h : 0 ≤ a
      · simp [h]
      · simp [h]; omega
    rw [e, e]
  unfold bytesT hexT
  rw [hev, Bool.true_and]
  rw [show (okPair x) = okPairF x from funext ok]
  by_cases hall : (List.range (x.size / 2)).all (okPairF x) = true
  · rw [if_pos hall, if_pos hall]
    congr 1
    unfold mkB
    congr 2
    refine List.map_congr_left fun k hk => ?_
    have hp := List.all_eq_true.1 hall k hk
    unfold okPairF at hp
    simp only [Bool.and_eq_true, Bool.not_eq_true'] at hp
    unfold hexByte pairB
    rw [figI_eq, figI_eq]
    exact pair_eq (digitF_bound hp.1) (digitF_bound hp.2)
  · rw [if_neg hall, if_neg hall]

/-- The two states of a reading. -/
structure Cor (S : RdSt) (Q : QSt) : Prop where
  o : Q.o = S.o
  st : (S.stage = 0 ∧ Q.part = 0 ∧ S.o.code.size = 0) ∨ (S.stage = 1 ∧ (Q.part = 1 ∨ Q.part = 2) ∧ Q.full = eqI ((S.o.code.size : Int).tmod 32) 0) ∨ (S.stage = 2 ∧ Q.part = 3) ∨ (S.stage = 3 ∧ Q.part = 4) ∨ (S.stage = 4 ∧ Q.part = 5) ∨ (S.stage = 6 ∧ Q.part = 6)

def Same (n : Nat) : Option RdSt → Option QSt → Prop
  | some S, some Q => Cor S Q ∧ S.n = n
  | none, none => True
  | _, _ => False

theorem eqI_cast (a b : Nat) : eqI (a : Int) b = decide (a = b) := by
  by_cases h : a = b
  · subst h; simp [eqI]
  · have : (a : Int) ≠ b := by omega
    simp [eqI, h, this]
theorem ltI_cast (a b : Nat) : ltI (a : Int) b = decide (a < b) := by unfold ltI; simp
theorem leI_cast (a b : Nat) : leI (a : Int) b = decide (a ≤ b) := by unfold leI; simp
end Go.Pm

/- ZkV4: plain: a line says the same to the linker and to the reference. -/
namespace Go.Pm
open Go Go.Proofs

theorem words_named : ∀ x ∈ wordsL, namedF x = true := by
  have : wordsL.all namedF = true := by
    unfold wordsL namedF
    simp only [eqS_dec]
    decide
  exact List.all_eq_true.1 this
theorem kOf_named {x : ByteArray} (h : kOf x < 6) : namedF x = true := by
  have h' : wordsL.findIdx (fun w => eqS w x) < wordsL.length := h
  have h1 := List.findIdx_getElem (p := fun w => eqS w x) (xs := wordsL) (w := h')
  have h2 := eqS_t.1 h1
  rw [← h2]
  exact words_named _ (List.getElem_mem h')
theorem ixc {α : Type} [Inhabited α] (a : α) (l : List α) (i : Nat) : ix (a :: l) (i + 1) = ix l i := by simp [ix, List.getD]
theorem ixz {α : Type} [Inhabited α] (a : α) (l : List α) : ix (a :: l) 0 = a := by simp [ix, List.getD]
theorem lenI {l : List ByteArray} {n : Nat} (h : eqI l.length (n : Int) = true) : l.length = n := by have := eqI_t.1 h; omega

/-- A line that the reference reads has words of printable signs alone. -/
theorem line_named {Q Q' : QSt} {w : List ByteArray} (hw : ∀ x ∈ w, x ≠ ⟨#[]⟩) (h : lineK Q (kOf (ix w 0)) w = some Q') : w.all namedF = true := by
  have h0 : kOf (ix w 0) < 6 → namedF (ix w 0) = true := kOf_named
  generalize kOf (ix w 0) = k at h h0
  unfold lineK at h
  split at h
  · split at h
    case isFalse => cases h
    rename_i hc
    simp only [Bool.and_eq_true] at hc
    obtain ⟨a, b, rfl⟩ := len2 (lenI (n := 2) hc.1)
    have := h0 (by decide)
    simp only [ixz, ixc] at this hc
    simp [this, hc]
  · split at h
    · cases h
    split at h
    case isFalse => cases h
    rename_i hc
    simp only [Bool.and_eq_true] at hc
    split at h
    case isFalse => cases h
    rename_i hd
    simp only [Bool.and_eq_true] at hd
    obtain ⟨a, b, rfl⟩ := len2 (lenI (n := 2) hc.1)
    rw [Option.map_eq_some_iff] at h
    obtain ⟨c, hc2, _⟩ := h
    have := h0 (by decide)
    simp only [ixz, ixc] at this hc2 hd
    have := hex_named (hw b (by simp)) hd.1 hc2
    simp [*]
  · split at h
    · cases h
    split at h
    case isFalse => cases h
    rename_i hc
    simp only [Bool.and_eq_true] at hc
    obtain ⟨a, b, c, rfl⟩ := len3 (lenI (n := 3) hc.1)
    rw [Option.map_eq_some_iff] at h
    obtain ⟨n, hn, _⟩ := h
    have := h0 (by decide)
    simp only [ixz, ixc] at this hn hc
    have := num_named hn
    simp [*]
  · split at h
    · cases h
    split at h
    case isFalse => cases h
    rename_i hc
    simp only [Bool.and_eq_true] at hc
    have hl4 : w.length = 4 := lenI (n := 4) hc.1
    obtain ⟨a, b, c, d, rfl⟩ : ∃ a b c d, w = [a, b, c, d] := by
      match w, hl4 with
      | [a, b, c, d], _ => exact ⟨a, b, c, d, rfl⟩
    rw [Option.bind_eq_some_iff] at h
    obtain ⟨m, hm, h⟩ := h
    rw [Option.map_eq_some_iff] at h
    obtain ⟨n, hn, _⟩ := h
    have := h0 (by decide)
    simp only [ixz, ixc] at this hn hm hc
    have := num_named hn
    have := num_named hm
    simp [*]
  · split at h
    · cases h
    split at h
    case isFalse => cases h
    rename_i hc
    simp only [Bool.and_eq_true] at hc
    obtain ⟨a, b, c, rfl⟩ := len3 (lenI (n := 3) hc.1)
    rw [Option.bind_eq_some_iff] at h
    obtain ⟨m, hm, h⟩ := h
    rw [Option.map_eq_some_iff] at h
    obtain ⟨n, hn, _⟩ := h
    have := h0 (by decide)
    simp only [ixz, ixc] at this hn hm
    have := num_named hn
    have := num_named hm
    simp [*]
  · split at h
    · cases h
    split at h
    case isFalse => cases h
    rename_i hc
    obtain ⟨a, rfl⟩ := List.length_eq_one_iff.1 (lenI (n := 1) hc)
    have := h0 (by decide)
    simp only [ixz] at this
    simp [this]
  · cases h

theorem named_ix {w : List ByteArray} (h : w.all namedF = true) {i : Nat} (hi : i < w.length) : namedF (ix w i) = true := List.all_eq_true.1 h _ (ix_mem hi)

theorem litE : ((((eqI 0 0 = true ∧ eqI 0 1 = false ∧ eqI 0 2 = false ∧ eqI 0 3 = false ∧ eqI 0 4 = false ∧ eqI 0 5 = false) ∧ (eqI 0 6 = false ∧ eqI 1 0 = false ∧ eqI 1 1 = true ∧ eqI 1 2 = false ∧ eqI 1 3 = false ∧ eqI 1 4 = false)) ∧ ((eqI 1 5 = false ∧ eqI 1 6 = false ∧ eqI 2 0 = false ∧ eqI 2 1 = false ∧ eqI 2 2 = true ∧ eqI 2 3 = false) ∧ (eqI 2 4 = false ∧ eqI 2 5 = false ∧ eqI 2 6 = false ∧ eqI 3 0 = false ∧ eqI 3 1 = false ∧ eqI 3 2 = false))) ∧ (((eqI 3 3 = true ∧ eqI 3 4 = false ∧ eqI 3 5 = false ∧ eqI 3 6 = false ∧ eqI 4 0 = false ∧ eqI 4 1 = false) ∧ (eqI 4 2 = false ∧ eqI 4 3 = false ∧ eqI 4 4 = true ∧ eqI 4 5 = false ∧ eqI 4 6 = false ∧ eqI 5 0 = false)) ∧ ((eqI 5 1 = false ∧ eqI 5 2 = false ∧ eqI 5 3 = false ∧ eqI 5 4 = false ∧ eqI 5 5 = true ∧ eqI 5 6 = false) ∧ (eqI 6 0 = false ∧ eqI 6 1 = false ∧ eqI 6 2 = false ∧ eqI 6 3 = false ∧ eqI 6 4 = false ∧ eqI 6 5 = false ∧ eqI 6 6 = true)))) := by simp [eqI, ltI, leI]
theorem litL : ((((ltI 0 0 = false ∧ ltI 0 1 = true ∧ ltI 0 2 = true ∧ ltI 0 3 = true ∧ ltI 0 4 = true ∧ ltI 0 5 = true) ∧ (ltI 0 6 = true ∧ ltI 1 0 = false ∧ ltI 1 1 = false ∧ ltI 1 2 = true ∧ ltI 1 3 = true ∧ ltI 1 4 = true)) ∧ ((ltI 1 5 = true ∧ ltI 1 6 = true ∧ ltI 2 0 = false ∧ ltI 2 1 = false ∧ ltI 2 2 = false ∧ ltI 2 3 = true) ∧ (ltI 2 4 = true ∧ ltI 2 5 = true ∧ ltI 2 6 = true ∧ ltI 3 0 = false ∧ ltI 3 1 = false ∧ ltI 3 2 = false))) ∧ (((ltI 3 3 = false ∧ ltI 3 4 = true ∧ ltI 3 5 = true ∧ ltI 3 6 = true ∧ ltI 4 0 = false ∧ ltI 4 1 = false) ∧ (ltI 4 2 = false ∧ ltI 4 3 = false ∧ ltI 4 4 = false ∧ ltI 4 5 = true ∧ ltI 4 6 = true ∧ ltI 5 0 = false)) ∧ ((ltI 5 1 = false ∧ ltI 5 2 = false ∧ ltI 5 3 = false ∧ ltI 5 4 = false ∧ ltI 5 5 = false ∧ ltI 5 6 = true) ∧ (ltI 6 0 = false ∧ ltI 6 1 = false ∧ ltI 6 2 = false ∧ ltI 6 3 = false ∧ ltI 6 4 = false ∧ ltI 6 5 = false ∧ ltI 6 6 = false)))) := by simp [eqI, ltI, leI]
theorem litM : ((((leI 0 0 = true ∧ leI 0 1 = true ∧ leI 0 2 = true ∧ leI 0 3 = true ∧ leI 0 4 = true ∧ leI 0 5 = true) ∧ (leI 0 6 = true ∧ leI 1 0 = false ∧ leI 1 1 = true ∧ leI 1 2 = true ∧ leI 1 3 = true ∧ leI 1 4 = true)) ∧ ((leI 1 5 = true ∧ leI 1 6 = true ∧ leI 2 0 = false ∧ leI 2 1 = false ∧ leI 2 2 = true ∧ leI 2 3 = true) ∧ (leI 2 4 = true ∧ leI 2 5 = true ∧ leI 2 6 = true ∧ leI 3 0 = false ∧ leI 3 1 = false ∧ leI 3 2 = false))) ∧ (((leI 3 3 = true ∧ leI 3 4 = true ∧ leI 3 5 = true ∧ leI 3 6 = true ∧ leI 4 0 = false ∧ leI 4 1 = false) ∧ (leI 4 2 = false ∧ leI 4 3 = false ∧ leI 4 4 = true ∧ leI 4 5 = true ∧ leI 4 6 = true ∧ leI 5 0 = false)) ∧ ((leI 5 1 = false ∧ leI 5 2 = false ∧ leI 5 3 = false ∧ leI 5 4 = false ∧ leI 5 5 = true ∧ leI 5 6 = true) ∧ (leI 6 0 = false ∧ leI 6 1 = false ∧ leI 6 2 = false ∧ leI 6 3 = false ∧ leI 6 4 = false ∧ leI 6 5 = false ∧ leI 6 6 = true)))) := by simp [eqI, ltI, leI]

set_option maxHeartbeats 2000000 in
theorem line_same {S : RdSt} {Q : QSt} {w : List ByteArray} (h : Cor S Q) (hall : w.all namedF = true) (hw : ∀ x ∈ w, x ≠ ⟨#[]⟩) : Same (S.n + 1) (stepR S w) (if eqI Q.part 6 then none else lineK Q (kOf (ix w 0)) w) := by
  obtain ⟨o, part, full⟩ := Q
  obtain ⟨o', stage, n⟩ := S
  obtain ⟨ho, hst⟩ := h
  simp only at ho hst
  subst ho
  unfold stepR
  simp only
  generalize hk : kOf (ix w 0) = k
  have hk7 : k = 0 ∨ k = 1 ∨ k = 2 ∨ k = 3 ∨ k = 4 ∨ k = 5 ∨ 6 ≤ k := by omega
  rcases hk7 with rfl | rfl | rfl | rfl | rfl | rfl | hk6
  · have hp : ix partsL 0 = 2 := rfl
    cases hl : eqI (w.length : Int) 2 with
    | false => simp [stepOk, hp, hl, lineK, Same]
    | true =>
      have hn := named_ix hall (i := 1) (by have := lenI (n := 2) hl; omega)
      rcases hst with ⟨rfl, rfl, hc⟩ | ⟨rfl, rfl | rfl, hf⟩ | ⟨rfl, rfl⟩ | ⟨rfl, rfl⟩ | ⟨rfl, rfl⟩ | ⟨rfl, rfl⟩
      · simp [stepOk, hp, hl, lineK, hn, bodyR, Same, litE, litL, litM]
        exact ⟨rfl, .inr (.inl ⟨rfl, .inl rfl, by simp only [hc]; rfl⟩)⟩
      all_goals simp [stepOk, hp, hl, lineK, Same, litE, litL, litM]
  · have hp : ix partsL 1 = 2 := rfl
    cases hl : eqI (w.length : Int) 2 with
    | false => simp [stepOk, hp, hl, lineK, Same]
    | true =>
      have hne := hw _ (ix_mem (l := w) (i := 1) (by have := lenI (n := 2) hl; omega))
      have hsz : (ix w 1).size ≠ 0 := fun e => hne (size_zero.1 e)
      rcases hst with ⟨rfl, rfl, hc⟩ | ⟨rfl, hpt, hf⟩ | ⟨rfl, rfl⟩ | ⟨rfl, rfl⟩ | ⟨rfl, rfl⟩ | ⟨rfl, rfl⟩
      · simp [stepOk, hp, hl, lineK, Same, litE, litL, litM]
      · have hpl : leI (part : Int) 2 = true ∧ eqI (part : Int) 0 = false ∧ eqI (part : Int) 6 = false := by rcases hpt with rfl | rfl <;> simp [litE, litL, litM]
        have e1 : bytesT (ix w 1) = if eqI (((ix w 1).size : Int).tmod 2) 0 then hexT (ix w 1) else none := by
          split
          · rename_i h; exact bytes_hex h
          · rename_i h; unfold bytesT; simp [h]
        cases hev : eqI (((ix w 1).size : Int).tmod 2) 0 with
        | false =>
          rw [hev] at e1
          simp [stepOk, hp, hl, lineK, hpl, hev, e1, bodyR, Same, litE, litL, litM]
        | true =>
        rw [hev, if_pos rfl] at e1
        cases h64 : leI ((ix w 1).size : Int) 64 with
        | false =>
          simp [stepOk, hp, hl, lineK, hpl, hev, h64, bodyR, Same, litE, litL, litM]
        | true =>
        cases h32 : eqI ((o.code.size : Int).tmod 32) 0 with
        | false =>
          rw [h32] at hf
          simp [stepOk, hp, hl, lineK, hpl, hf, h32, bodyR, Same, litE, litL, litM]
        | true =>
        rw [h32] at hf
        cases hx : hexT (ix w 1) with
        | none =>
          rw [hx] at e1
          simp [stepOk, hp, hl, lineK, hpl, hev, h64, hf, h32, hx, e1, bodyR, Same, litE, litL, litM]
        | some b =>
          rw [hx] at e1
          have hb := hex_size hx
          have g64 := leI_t.1 h64
          have gev := eqI_t.1 hev
          have g32 := eqI_t.1 h32
          rw [Int.tmod_eq_emod_of_nonneg (by omega)] at gev g32
          have hfull : eqI ((ix w 1).size : Int) 64 = eqI (((o.code ++ b).size : Int).tmod 32) 0 := by
            rw [Int.tmod_eq_emod_of_nonneg (by omega), ByteArray.size_append]
            by_cases h : (ix w 1).size = 64
            · rw [eqI_t.2 (by omega), eqI_t.2 (by omega)]
            · rw [eqI_f.2 (by omega), eqI_f.2 (by omega)]
          simp [stepOk, hp, hl, lineK, hpl, hev, h64, hf, h32, hx, e1, bodyR, Same, litE, litL, litM]
          exact ⟨rfl, .inr (.inl ⟨rfl, .inr rfl, hfull⟩)⟩
      all_goals simp [stepOk, hp, hl, lineK, Same, litE, litL, litM]
  · have hp : ix partsL 2 = 3 := rfl
    cases hl : eqI (w.length : Int) 3 with
    | false => simp [stepOk, hp, hl, lineK, Same]
    | true =>
      have hn := named_ix hall (i := 1) (by have := lenI (n := 3) hl; omega)
      have he := numT_eq (ix w 2)
      cases hm : numRL (ix w 2).data.toList with
      | none =>
        rw [hm] at he
        rcases hst with ⟨rfl, rfl, hc⟩ | ⟨rfl, rfl | rfl, hf⟩ | ⟨rfl, rfl⟩ | ⟨rfl, rfl⟩ | ⟨rfl, rfl⟩ | ⟨rfl, rfl⟩
        all_goals simp [stepOk, hp, hl, lineK, hn, hm, he, bodyR, Same, litE, litL, litM]
      | some v =>
        rw [hm] at he
        rcases hst with ⟨rfl, rfl, hc⟩ | ⟨rfl, rfl | rfl, hf⟩ | ⟨rfl, rfl⟩ | ⟨rfl, rfl⟩ | ⟨rfl, rfl⟩ | ⟨rfl, rfl⟩
        all_goals simp [stepOk, hp, hl, lineK, hn, hm, he, bodyR, Same, litE, litL, litM]
        all_goals exact ⟨rfl, .inr (.inr (.inl ⟨rfl, rfl⟩))⟩
  · have hp : ix partsL 3 = 4 := rfl
    cases hl : eqI (w.length : Int) 4 with
    | false => simp [stepOk, hp, hl, lineK, Same]
    | true =>
      have hn := named_ix hall (i := 2) (by have := lenI (n := 4) hl; omega)
      have ha := numT_eq (ix w 1)
      have hb := numT_eq (ix w 3)
      cases hma : numRL (ix w 1).data.toList with
      | none =>
        rw [hma] at ha
        rcases hst with ⟨rfl, rfl, hc⟩ | ⟨rfl, rfl | rfl, hf⟩ | ⟨rfl, rfl⟩ | ⟨rfl, rfl⟩ | ⟨rfl, rfl⟩ | ⟨rfl, rfl⟩
        all_goals simp [stepOk, hp, hl, lineK, hn, hma, ha, bodyR, Same, litE, litL, litM]
      | some v =>
        rw [hma] at ha
        cases hmb : numRL (ix w 3).data.toList with
        | none =>
          rw [hmb] at hb
          rcases hst with ⟨rfl, rfl, hc⟩ | ⟨rfl, rfl | rfl, hf⟩ | ⟨rfl, rfl⟩ | ⟨rfl, rfl⟩ | ⟨rfl, rfl⟩ | ⟨rfl, rfl⟩
          all_goals simp [stepOk, hp, hl, lineK, hn, hma, ha, hmb, hb, bodyR, Same, litE, litL, litM]
        | some u =>
          rw [hmb] at hb
          rcases hst with ⟨rfl, rfl, hc⟩ | ⟨rfl, rfl | rfl, hf⟩ | ⟨rfl, rfl⟩ | ⟨rfl, rfl⟩ | ⟨rfl, rfl⟩ | ⟨rfl, rfl⟩
          all_goals simp [stepOk, hp, hl, lineK, hn, hma, ha, hmb, hb, bodyR, Same, litE, litL, litM]
          all_goals exact ⟨rfl, .inr (.inr (.inr (.inl ⟨rfl, rfl⟩)))⟩
  · have hp : ix partsL 4 = 3 := rfl
    cases hl : eqI (w.length : Int) 3 with
    | false => simp [stepOk, hp, hl, lineK, Same]
    | true =>
      have ha := numT_eq (ix w 1)
      have hb := numT_eq (ix w 2)
      cases hma : numRL (ix w 1).data.toList with
      | none =>
        rw [hma] at ha
        rcases hst with ⟨rfl, rfl, hc⟩ | ⟨rfl, rfl | rfl, hf⟩ | ⟨rfl, rfl⟩ | ⟨rfl, rfl⟩ | ⟨rfl, rfl⟩ | ⟨rfl, rfl⟩
        all_goals simp [stepOk, hp, hl, lineK, hma, ha, bodyR, Same, litE, litL, litM]
      | some v =>
        rw [hma] at ha
        cases hmb : numRL (ix w 2).data.toList with
        | none =>
          rw [hmb] at hb
          rcases hst with ⟨rfl, rfl, hc⟩ | ⟨rfl, rfl | rfl, hf⟩ | ⟨rfl, rfl⟩ | ⟨rfl, rfl⟩ | ⟨rfl, rfl⟩ | ⟨rfl, rfl⟩
          all_goals simp [stepOk, hp, hl, lineK, hma, ha, hmb, hb, bodyR, Same, litE, litL, litM]
        | some u =>
          rw [hmb] at hb
          rcases hst with ⟨rfl, rfl, hc⟩ | ⟨rfl, rfl | rfl, hf⟩ | ⟨rfl, rfl⟩ | ⟨rfl, rfl⟩ | ⟨rfl, rfl⟩ | ⟨rfl, rfl⟩
          all_goals simp [stepOk, hp, hl, lineK, hma, ha, hmb, hb, bodyR, Same, litE, litL, litM]
          all_goals exact ⟨rfl, .inr (.inr (.inr (.inr (.inl ⟨rfl, rfl⟩))))⟩
  · have hp : ix partsL 5 = 1 := rfl
    cases hl : eqI (w.length : Int) 1 with
    | false => simp [stepOk, hp, hl, lineK, Same]
    | true =>
      rcases hst with ⟨rfl, rfl, hc⟩ | ⟨rfl, rfl | rfl, hf⟩ | ⟨rfl, rfl⟩ | ⟨rfl, rfl⟩ | ⟨rfl, rfl⟩ | ⟨rfl, rfl⟩
      all_goals simp [stepOk, hp, hl, lineK, bodyR, Same, litE, litL, litM]
      all_goals exact ⟨rfl, .inr (.inr (.inr (.inr (.inr ⟨rfl, rfl⟩))))⟩
  · have hs : stepOk stage k w = false := by
      have : ltI (k : Int) 6 = false := ltI_f.2 (by omega)
      simp [stepOk, this]
    have hq : lineK ⟨o, part, full⟩ k w = none := by
      unfold lineK
      split <;> first | omega | rfl
    simp [hs, hq, Same]
end Go.Pm

/- ZkR17: contracts: the reference's Read. -/
namespace Go.Pm
open Go Go.Proofs
attribute [-simp] List.getElem?_map

theorem startGood : startQ.Good 0 0 := ⟨by decide, by decide, by decide, by decide, by decide, by decide, fun d h => (by cases h), fun d h => (by cases h)⟩

set_option maxHeartbeats 4000000 in
theorem call8 (t : ByteArray) (hs : t.size ≤ 1048576) : PCalls Zk.pg 8 [.str t] fun out => out = .ret (refAV t) := by
  refine ok8.pcallsD 1 (by simp) ?_
  generalize hX : refAV t = X
  simp [c8]
  refine br_cond rfl (fun h0 => ?_) (fun h0 => ?_)
  · simp [cr8, postD_ret, permD, mapO]
    rw [← hX]
    simp [refAV, refRes, h0, noDeckQ]
  have h200 : t.size ≤ 200000 := by have := ltI_f.1 h0; omega
  simp
  have hlen := len_data t
  refine wpS_loopS (ι := (Nat × Nat × Nat × Nat × QSt) × (Nat × Nat × Nat) × Nat) (fun g => [(0, .str t), (2, .ptr 0 0 0), (5, .ptr 1 1 0), (6, .int .i64 g.1.2.2.1), (7, .int .i64 g.1.2.1), (8, .int .i64 g.1.1)])
    (fun g => memQ g.1.2.2.2.2 g.2.1 g.2.2) (fun g => t.size - g.1.1)
    (fun g => g.1.2.1 ≤ g.1.1 ∧ g.1.1 ≤ t.size ∧ g.1.2.2.1 ≤ g.1.2.1 ∧ t.size - g.1.2.1 < g.1.2.2.2.1 ∧ (∀ j, g.1.2.1 ≤ j → j < g.1.1 → byteAt t j ≠ 10) ∧ g.1.2.2.2.2.Good g.1.2.1 g.1.2.2.1 ∧
      refL g.1.2.2.2.1 g.1.2.2.2.2 g.1.2.2.1 (t.data.toList.drop g.1.2.1) = refL (t.size + 1) startQ 0 t.data.toList)
    ((0, 0, 0, t.size + 1, startQ), (2, 3, 4), 5) ⟨Nat.le_refl _, Nat.zero_le _, Nat.le_refl _, (by show t.size - 0 < t.size + 1; omega), fun j _ h => absurd h (Nat.not_lt_zero j), startGood, by simp⟩ ?_ ?_
  · refine Sim.trans ?_ (Sim.nil_cell (pos := 1) (g := 1) (vs := [.str ⟨#[]⟩, .str ⟨#[]⟩, .nilS, .nilS, .nilS, .int .i64 0, .bool false]) 2 65 (sz := 2) (by decide) rfl rfl)
    refine Sim.trans ?_ (Sim.nil_cell (pos := 1) (g := 1) (vs := [.str ⟨#[]⟩, .str ⟨#[]⟩, .row 2 2 2 0 0, .nilS, .nilS, .int .i64 0, .bool false]) 3 77 (sz := 3) (by decide) rfl rfl)
    refine Sim.trans ?_ (Sim.nil_cell (pos := 1) (g := 1) (vs := [.str ⟨#[]⟩, .str ⟨#[]⟩, .row 2 2 2 0 0, .row 3 3 3 0 0, .nilS, .int .i64 0, .bool false]) 4 79 (sz := 2) (by decide) rfl rfl)
    exact Sim.of_le (Env.le_of (by simp)) (Mem.le_of rfl rfl)
  rintro ⟨⟨i, fr, n, f, S⟩, G, nx⟩ ⟨hfi, hi, hnf, hf, hseg, hG, hrd⟩
  simp only at hfi hi hnf hf hseg hG hrd
  have hw : IntKind.i64.wrap ((i : Int) + 1) = i + 1 := wrap64 (by omega) (by omega)
  have hwn : IntKind.i64.wrap ((n : Int) + 1) = n + 1 := wrap64 (by omega) (by omega)
  obtain ⟨M, hM⟩ : ∃ M, M = memQ S G nx := ⟨_, rfl⟩
  simp only [← hM]
  simp
  refine br_cond rfl (fun h1 => ?_) (fun h1 => ?_)
  · have hlt : i < t.size := by have := ltI_t.1 h1; omega
    simp [h1, idxS]
    refine br_cond rfl (fun h2 => ?_) (fun h2 => ?_)
    · have hne : byteAt t i ≠ 10 := fun e => by rw [e] at h2; simp [eqI] at h2
      simp [hw]
      exact ⟨i + 1, fr, n, f, S, ⟨by omega, by omega, hnf, hf, fun j h h' => by
        by_cases hj : j = i
        · rw [hj]; exact hne
        · exact hseg j h (by omega), hG, hrd⟩, by omega, G.1, G.2.1, G.2.2, nx, Sim.of_le (Env.le_of (by simp)) (by rw [hM]; exact Mem.le_refl _)⟩
    have h10 : byteAt t i = 10 := u8_eq' (by have := eqI_t.1 (show eqI (byteAt t i).toNat 10 = true by simpa using h2); show (byteAt t i).toNat = 10; omega)
    have hb1 : (fr : Int) ≤ i := by omega
    have hb2 : (i : Int) ≤ t.size := by omega
    have hesz : (t.extract fr i).size = i - fr := by rw [ByteArray.size_extract]; omega
    have hfit : S.Fit := ⟨hG.part, by have := hG.code; omega, by have := hG.defs; omega, by have := hG.refs; omega, by have := hG.lines; omega⟩
    have hcut : cutN (t.data.toList.drop fr) = some ((t.extract fr i).data.toList, t.data.toList.drop (i + 1)) := by
      rw [drop_seg hfi hlt, h10]
      exact cut_some (seg_mem hseg hi)
    obtain ⟨f, rfl⟩ : ∃ g, f = g + 1 := ⟨f - 1, by omega⟩
    have hst : refL (f + 1) S n (t.data.toList.drop fr) = match lineQ S (t.extract fr i) with
        | none => (none, n)
        | some S' => refL f S' (n + 1) (t.data.toList.drop (i + 1)) := by
      rw [refL, hcut]; rfl
    rw [hst] at hrd
    simp [sliceA, boundsA, hb1, hb2]
    rw [hM]
    refine xcall_r (call28 (G := G) (nx := nx) (s := t.extract fr i) (by omega) hfit) ?_ ?_
    · rintro v m' ⟨S', G', nx', rfl, ⟨h, hl⟩ | ⟨h, hl⟩⟩
      · injection h with h; subst h
        rw [hl] at hrd
        have hG' := lineQ_good hl hG (by omega)
        rw [hesz] at hG'
        simp [hw, hwn]
        refine ⟨i + 1, i + 1, n + 1, f, S', ⟨Nat.le_refl _, by omega, by omega, by omega, fun j h h' => by omega, ?_, hrd⟩, by omega, G'.1, G'.2.1, G'.2.2, nx', Sim.of_le (Env.le_of (by simp)) (Mem.le_refl _)⟩
        exact ⟨hG'.part, by have := hG'.code; omega, hG'.defs, hG'.refs, hG'.lines, hG'.name, hG'.dname, hG'.rname⟩
      · injection h with h; subst h
        rw [hl] at hrd
        simp [memQ, cr8, postD_ret, permD, mapO]
        rw [← hX]
        simp [refAV, refRes, h0, ← hrd, noDeckQ]
    · rintro v m' ⟨S', G', nx', rfl, ⟨h, hl⟩ | ⟨h, hl⟩⟩
      · cases h
      · cases h
  · have hie : i = t.size := by have := ltI_f.1 h1; omega
    simp
    refine br_guard_f rfl (fun h2 => ?_) (fun h2 => ?_)
    · have hlt := ltI_t.1 h2
      have hno : cutN (t.data.toList.drop fr) = none := by
        have e : t.data.toList.drop fr = (t.extract fr i).data.toList := by rw [seg_data, List.take_of_length_le (by rw [List.length_drop, hlen]; omega)]
        rw [e]
        exact cut_none (seg_mem hseg hi)
      have hnn : t.data.toList.drop fr ≠ [] := fun e => by
        have := congrArg List.length e
        rw [List.length_drop, hlen] at this
        simp at this; omega
      obtain ⟨f, rfl⟩ : ∃ g, f = g + 1 := ⟨f - 1, by omega⟩
      have hst : refL (f + 1) S n (t.data.toList.drop fr) = (none, n) := by rw [refL, hno]; simp [hnn]
      rw [hst] at hrd
      rw [hM]
      simp [h2, memQ, cr8, postD_ret, permD, mapO]
      rw [← hX]
      simp [refAV, refRes, h0, ← hrd, noDeckQ]
    · have hge := ltI_f.1 h2
      have hdn : t.data.toList.drop fr = [] := List.drop_of_length_le (by rw [hlen]; omega)
      obtain ⟨f, rfl⟩ : ∃ g, f = g + 1 := ⟨f - 1, by omega⟩
      have hst : refL (f + 1) S n (t.data.toList.drop fr) = (some S, n) := by rw [hdn]; simp [refL, cutN]
      rw [hst] at hrd
      obtain ⟨⟨nm, code, defs, refs, lines⟩, part, full⟩ := S
      obtain ⟨gd, gr, gl⟩ := G
      rw [hM]
      simp [h2, memQ, nilCheckA]
      refine br_cond rfl (fun h3 => ?_) (fun h3 => ?_)
      · simp at h3
        simp [memQ, cr8, postD_ret, permD, mapO]
        rw [← hX]
        simp [refAV, refRes, h0, ← hrd, h3, noDeckQ]
      simp at h3
      obtain ⟨g1, g2, g3, g4, g5, g6, g7, g8⟩ := hG
      simp only at g1 g2 g3 g4 g5 g6 g7 g8
      have small : Deck.Small ⟨nm, code, defs, refs, lines⟩ := ⟨by simp only; omega, by simp only; omega, by simp only; omega, by simp only; omega, by simp only; omega, fun d h => by have := g7 d h; omega, fun d h => by have := g8 d h; omega⟩
      have t1 : (defs.map DDef.av).take defs.length = defs.map DDef.av := List.take_of_length_le (by simp)
      have t2 : (refs.map DRef.av).take refs.length = refs.map DRef.av := List.take_of_length_le (by simp)
      have t3 : (lines.map DLine.av).take lines.length = lines.map DLine.av := List.take_of_length_le (by simp)
      simp [nilCheckA]
      refine xcall_p ((call29 ⟨nm, code, defs, refs, lines⟩ small).flip (.agg (.cons (.cons (.list (p := false) (.list (p := false) (.list (p := false) (.refl [])))))) (.refl []))) (by simp [t1, t2, t3]) ?_
      simp
      refine br_cond rfl (fun h4 => ?_) (fun h4 => ?_)
      · simp at h4
        simp [cr8, postD_ret, permD, mapO]
        rw [← hX]
        simp [refAV, refRes, h0, ← hrd, h3, h4, noDeckQ]
      · simp at h4
        simp [nilCheckA, cr8, postD_ret, permD, mapO, t1, t2, t3]
        rw [← hX]
        simp [refAV, refRes, h0, ← hrd, h3, h4, Deck.av]
end Go.Pm

/- ZkV5: plain: the linker and the reference read the same of a text. -/
namespace Go.Pm
open Go Go.Proofs

def SameR : Option RdSt × Nat → Option QSt × Nat → Prop
  | (some S, n), (some Q, m) => Cor S Q ∧ n = m
  | (none, n), (none, m) => n = m
  | _, _ => False

theorem words_all (x : List UInt8) : ((splW [] x).map mkB).all okPart = ((splW [] x).map mkB).all namedF := by
  congr 1
  funext y
  exact okPart_eq y

theorem mkB_ne {x : List UInt8} (h : x ≠ []) : mkB x ≠ ⟨#[]⟩ := fun e => h (by have := congrArg (fun z : ByteArray => z.data.toList) e; simpa using this)

theorem lineQ_eq (Q : QSt) (x : List UInt8) : lineQ Q (mkB x) = if ((splW [] x).map mkB).all namedF then (if eqI Q.part 6 then none else lineK Q (kOf (ix ((splW [] x).map mkB) 0)) ((splW [] x).map mkB)) else none := by
  unfold lineQ wordsF
  rw [data_mkB]
  by_cases hall : ((splW [] x).map mkB).all namedF = true
  · rw [if_pos hall, if_pos]
    refine List.all_eq_true.2 fun y hy => ?_
    have h1 := List.all_eq_true.1 hall _ (List.mem_map_of_mem hy)
    have : y ≠ [] := fun e => by
      rw [e] at h1
      unfold namedF at h1
      rw [eqS_dec] at h1
      simp [mkB] at h1
    simp [this]
  · rw [if_neg hall]
    by_cases hne : ((splW [] x).all fun x => decide (x ≠ [])) = true
    · rw [if_pos hne]
      simp only
      split
      · rfl
      · cases hl : lineK Q (kOf (ix ((splW [] x).map mkB) 0)) ((splW [] x).map mkB) with
        | none => rfl
        | some Q' =>
          refine absurd (line_named (fun y hy => ?_) hl) hall
          obtain ⟨z, hz, rfl⟩ := List.mem_map.1 hy
          exact mkB_ne (by simpa using List.all_eq_true.1 hne z hz)
    · rw [if_neg hne]

theorem texts_same : ∀ (f : Nat) (S : RdSt) (Q : QSt) (t : ByteArray), Cor S Q → t.size < f → SameR (readL f S t) (refL f Q S.n t.data.toList)
  | 0, _, _, _, _, h => by omega
  | f + 1, S, Q, t, hC, hf => by
    unfold readL refL
    by_cases he : t = ⟨#[]⟩
    · have : eqS t ⟨#[]⟩ = true := eqS_t.2 he
      rw [if_pos this, he]
      exact ⟨hC, rfl⟩
    · have hes : eqS t ⟨#[]⟩ = false := by rw [eqS_dec]; simp [he]
      have hne : t.data.toList ≠ [] := fun e => he (by rw [← mkB_data t, e]; rfl)
      rw [hes, nextLine_eq]
      simp only [Bool.false_eq_true, if_false]
      cases hc : cutN t.data.toList with
      | none => simp only [hne, if_false]; exact rfl
      | some p =>
        obtain ⟨x, y⟩ := p
        simp only
        rw [words_all, lineQ_eq]
        by_cases hall : ((splW [] x).map mkB).all namedF = true
        · rw [if_pos hall, if_pos hall]
          have hw : ∀ z ∈ (splW [] x).map mkB, z ≠ ⟨#[]⟩ := fun z hz e => by
            have := List.all_eq_true.1 hall z hz
            rw [e] at this
            unfold namedF at this
            rw [eqS_dec] at this
            simp at this
          have hs := line_same hC hall hw
          simp only
          generalize stepR S ((splW [] x).map mkB) = a at hs
          generalize (if eqI (Q.part : Int) 6 then none else lineK Q (kOf (ix ((splW [] x).map mkB) 0)) ((splW [] x).map mkB)) = b at hs
          have hsz := cutN_size hc
          rw [len_data] at hsz
          cases a with
          | none => cases b with
            | none => exact rfl
            | some Q' => exact hs.elim
          | some S' => cases b with
            | none => exact hs.elim
            | some Q' =>
              obtain ⟨h1, h2⟩ := hs
              have := texts_same f S' Q' (mkB y) h1 (by rw [mkB_size]; omega)
              rw [h2, data_mkB] at this
              exact this
        · rw [if_neg hall, if_neg hall]
          exact rfl

theorem cor_start : Cor startR startQ := ⟨rfl, .inl ⟨rfl, rfl, rfl⟩⟩

theorem reads_same (t : ByteArray) : readRes t = refRes t := by
  unfold readRes refRes
  split
  · rfl
  · have h := texts_same (t.size + 1) startR startQ t cor_start (by omega)
    have h0 : startR.n = 0 := rfl
    rw [h0] at h
    generalize readL (t.size + 1) startR t = a at h
    generalize refL (t.size + 1) startQ 0 t.data.toList = b at h
    obtain ⟨a1, n⟩ := a
    obtain ⟨b1, m⟩ := b
    cases a1 with
    | none => cases b1 with
      | none => have : n = m := h; subst this; rfl
      | some Q => exact h.elim
    | some S => cases b1 with
      | none => exact h.elim
      | some Q =>
        obtain ⟨hC, rfl⟩ : Cor S Q ∧ n = m := h
        have hst : eqI (S.stage : Int) 6 = eqI (Q.part : Int) 6 := by
          rcases hC.st with ⟨e1, e2, _⟩ | ⟨e1, e2 | e2, _⟩ | ⟨e1, e2⟩ | ⟨e1, e2⟩ | ⟨e1, e2⟩ | ⟨e1, e2⟩ <;> rw [e1, e2] <;> rfl
        simp only [hst, hC.o]
        rfl
end Go.Pm

/- ZkX2: law: an object's text is read back. -/
namespace Go.Pm
open Go Go.Proofs
attribute [-simp] List.getElem?_map

theorem join_cons (x y : List UInt8) (l : List (List UInt8)) : Lib.join (x :: y :: l) [32] = x ++ 32 :: Lib.join (y :: l) [32] := by
  simp [Lib.join, List.intercalate]
theorem splW_all : ∀ (x acc y : List UInt8), (∀ b ∈ x, b ≠ 32) → splW acc (x ++ 32 :: y) = (acc ++ x) :: splW [] y
  | [], acc, y, _ => by
    show splW acc (32 :: y) = _
    conv => lhs; unfold splW
    rw [if_pos rfl, List.append_nil]
  | b :: x, acc, y, h => by
    rw [List.cons_append]
    conv => lhs; unfold splW
    rw [if_neg (h b (by simp)), splW_all x (acc ++ [b]) y fun c hc => h c (List.mem_cons_of_mem _ hc)]
    simp
theorem splW_end : ∀ (x acc : List UInt8), (∀ b ∈ x, b ≠ 32) → splW acc x = [acc ++ x]
  | [], acc, _ => by simp [splW]
  | b :: x, acc, h => by
    unfold splW
    rw [if_neg (h b (by simp)), splW_end x (acc ++ [b]) fun c hc => h c (List.mem_cons_of_mem _ hc)]
    simp
theorem splW_join : ∀ (l : List (List UInt8)), l ≠ [] → (∀ x ∈ l, ∀ b ∈ x, b ≠ 32) → splW [] (Lib.join l [32]) = l
  | [], h, _ => absurd rfl h
  | [x], _, h => by
    have : Lib.join [x] [32] = x := by simp [Lib.join, List.intercalate]
    rw [this, splW_end x [] (h x (by simp))]; rfl
  | x :: y :: l, _, h => by
    rw [join_cons, splW_all x [] _ (h x (by simp)), splW_join (y :: l) (by simp) fun z hz => h z (List.mem_cons_of_mem _ hz)]
    rfl
theorem join_no10 : ∀ (l : List (List UInt8)), (∀ x ∈ l, ∀ b ∈ x, b ≠ 10) → ∀ b ∈ Lib.join l [32], b ≠ 10
  | [], _, b, hb => by simp [Lib.join, List.intercalate] at hb
  | [x], h, b, hb => by
    have : Lib.join [x] [32] = x := by simp [Lib.join, List.intercalate]
    rw [this] at hb
    exact h x (by simp) b hb
  | x :: y :: l, h, b, hb => by
    rw [join_cons, List.mem_append, List.mem_cons] at hb
    rcases hb with hb | rfl | hb
    · exact h x (by simp) b hb
    · decide
    · exact join_no10 (y :: l) (fun z hz => h z (List.mem_cons_of_mem _ hz)) b hb

theorem named_bytes {p : ByteArray} (h : namedF p = true) : p ≠ ⟨#[]⟩ ∧ ∀ b ∈ p.data.toList, b ≠ 32 ∧ b ≠ 10 := by
  unfold namedF at h
  rw [Bool.and_eq_true, Bool.not_eq_true'] at h
  refine ⟨fun e => ?_, fun b hb => ?_⟩
  · rw [eqS_t.2 e] at h; exact absurd h.1 (by simp)
  · have := List.all_eq_true.1 h.2 b hb
    rw [chOk_eq, Bool.and_eq_true, decide_eq_true_eq] at this
    exact ⟨fun e => by rw [e] at this; exact absurd this.1 (by decide), fun e => by rw [e] at this; exact absurd this.1 (by decide)⟩

/-- What a line of parts makes of the reference's state; what some lines make of it. -/
def stepQ (S : QSt) (w : List ByteArray) : Option QSt := if eqI S.part 6 then none else lineK S (kOf (ix w 0)) w
def runQ : QSt → List (List ByteArray) → Option QSt
  | S, [] => some S
  | S, w :: l => (stepQ S w).bind fun S' => runQ S' l
def LineOk (ps : List ByteArray) : Prop := ps ≠ [] ∧ ∀ p ∈ ps, namedF p = true
theorem runQ_append : ∀ (a b : List (List ByteArray)) (S S' : QSt), runQ S a = some S' → runQ S (a ++ b) = runQ S' b
  | [], b, S, S', h => by injection h with h; subst h; rfl
  | w :: a, b, S, S', h => by
    rw [List.cons_append]
    unfold runQ at h
    conv => lhs; unfold runQ
    cases h1 : stepQ S w with
    | none => rw [h1] at h; cases h
    | some S1 =>
      rw [h1] at h
      exact runQ_append a b S1 S' h

theorem line_words {ps : List ByteArray} (h : LineOk ps) : wordsF (mkB (Lib.join (ps.map (·.data.toList)) [32])) = some ps := by
  have e : splW [] (Lib.join (ps.map (·.data.toList)) [32]) = ps.map (·.data.toList) := splW_join _ (by simpa using h.1) fun x hx b hb => by
    obtain ⟨p, hp, rfl⟩ := List.mem_map.1 hx
    exact ((named_bytes (h.2 p hp)).2 b hb).1
  unfold wordsF
  rw [data_mkB, e, if_pos]
  · congr 1
    rw [List.map_map]
    conv => rhs; rw [← List.map_id ps]
    exact List.map_congr_left fun p _ => mkB_data p
  · refine List.all_eq_true.2 fun x hx => ?_
    obtain ⟨p, hp, rfl⟩ := List.mem_map.1 hx
    rw [decide_eq_true_eq]
    intro e
    refine (named_bytes (h.2 p hp)).1 ?_
    rw [← mkB_data p, e]; rfl
theorem line_step {ps : List ByteArray} (h : LineOk ps) (f : Nat) (S : QSt) (n : Nat) (y : List UInt8) : refL (f + 1) S n (lineOf ps ++ y) = match stepQ S ps with
    | none => (none, n)
    | some S' => refL f S' (n + 1) y := by
  have hc : cutN (lineOf ps ++ y) = some (Lib.join (ps.map (·.data.toList)) [32], y) := by
    unfold lineOf
    rw [List.append_assoc]
    refine cut_some (join_no10 _ fun x hx b hb => ?_)
    obtain ⟨p, hp, rfl⟩ := List.mem_map.1 hx
    exact ((named_bytes (h.2 p hp)).2 b hb).2
  conv => lhs; unfold refL
  rw [hc]
  simp only
  unfold lineQ
  rw [line_words h]
  rfl
theorem lines_run : ∀ (ls : List (List ByteArray)) (f : Nat) (S S' : QSt) (n : Nat) (y : List UInt8), (∀ l ∈ ls, LineOk l) → runQ S ls = some S' → refL (f + ls.length) S n (textOf ls ++ y) = refL f S' (n + ls.length) y
  | [], f, S, S', n, y, _, h => by injection h with h; subst h; rfl
  | w :: ls, f, S, S', n, y, hok, h => by
    have e : textOf (w :: ls) ++ y = lineOf w ++ (textOf ls ++ y) := by simp [textOf]
    unfold runQ at h
    rw [e, List.length_cons, show f + (ls.length + 1) = (f + ls.length) + 1 by omega, line_step (hok w (by simp))]
    cases h1 : stepQ S w with
    | none => rw [h1] at h; cases h
    | some S1 =>
      rw [h1] at h
      simp only
      rw [lines_run ls f S1 S' (n + 1) y (fun l hl => hok l (List.mem_cons_of_mem _ hl)) h]
      congr 1; omega

-- what the parts are
theorem k0 : kOf wOBJ = 0 := by kernel_rfl
theorem k1 : kOf wCODE = 1 := by kernel_rfl
theorem k2 : kOf wDEF = 2 := by kernel_rfl
theorem k3 : kOf wREF = 3 := by kernel_rfl
theorem k4 : kOf wLINE = 4 := by kernel_rfl
theorem k5 : kOf wEND = 5 := by kernel_rfl
theorem nameOk_named {s : ByteArray} (h : nameOk s = true) : namedF s = true := by
  unfold nameOk at h
  rw [Bool.and_eq_true, Bool.and_eq_true] at h
  refine namedF_of (fun e => ?_) (List.all_eq_true.1 h.1.1)
  have := leI_t.1 h.1.2
  rw [e] at this
  exact absurd this (by decide)
theorem itB_num {n : Int} (h0 : -1000000000 ≤ n) (h1 : n ≤ 1000000000) : numRL (itB n).data.toList = some n := by
  refine numRL_of ?_ (by rw [itB, data_mkB])
  rw [itB, data_mkB]
  unfold Lib.itoa tailN
  split
  · have := decs_len 10 n.natAbs (by omega) (by omega)
    rw [if_pos (by rfl)]
    simpa using this
  · have := decs_len 10 n.toNat (by omega) (by omega)
    split
    · rw [List.length_tail]; omega
    · exact this
theorem itB_named {n : Int} (h0 : -1000000000 ≤ n) (h1 : n ≤ 1000000000) : namedF (itB n) = true := num_named (itB_num h0 h1)

theorem digit_hex : ∀ n, n < 16 → digitF (hexC n) = n := by
  intro n h
  have : n = 0 ∨ n = 1 ∨ n = 2 ∨ n = 3 ∨ n = 4 ∨ n = 5 ∨ n = 6 ∨ n = 7 ∨ n = 8 ∨ n = 9 ∨ n = 10 ∨ n = 11 ∨ n = 12 ∨ n = 13 ∨ n = 14 ∨ n = 15 := by omega
  rcases this with rfl | rfl | rfl | rfl | rfl | rfl | rfl | rfl | rfl | rfl | rfl | rfl | rfl | rfl | rfl | rfl <;> rfl
theorem hexs_at : ∀ (l : List UInt8) (k : Nat) (h : k < l.length), (hexs l)[2 * k]? = some (hexC (l[k].toNat / 16)) ∧ (hexs l)[2 * k + 1]? = some (hexC (l[k].toNat % 16))
  | b :: l, 0, _ => ⟨rfl, rfl⟩
  | b :: l, k + 1, h => by
    have := hexs_at l k (by simpa using h)
    have e : hexs (b :: l) = hexC (b.toNat / 16) :: hexC (b.toNat % 16) :: hexs l := rfl
    rw [e, show 2 * (k + 1) = 2 * k + 1 + 1 by omega, List.getElem?_cons_succ, List.getElem?_cons_succ, List.getElem?_cons_succ, List.getElem?_cons_succ]
    exact this
theorem hexT_hexs (l : List UInt8) : hexT (mkB (hexs l)) = some (mkB l) := by
  have hsz : (mkB (hexs l)).size = 2 * l.length := by rw [mkB_len, hexs_len]
  have hat : ∀ k (h : k < l.length), byteAt (mkB (hexs l)) (2 * k) = hexC (l[k].toNat / 16) ∧ byteAt (mkB (hexs l)) (2 * k + 1) = hexC (l[k].toNat % 16) := by
    intro k h
    obtain ⟨h1, h2⟩ := hexs_at l k h
    unfold byteAt
    rw [data_mkB, List.getD_eq_getElem?_getD, List.getD_eq_getElem?_getD, h1, h2]
    exact ⟨rfl, rfl⟩
  have hd : ∀ k (h : k < l.length), digitF (byteAt (mkB (hexs l)) (2 * k)) = (l[k].toNat / 16 : Nat) ∧ digitF (byteAt (mkB (hexs l)) (2 * k + 1)) = (l[k].toNat % 16 : Nat) := by
    intro k h
    have hb := l[k].toNat_lt
    rw [(hat k h).1, (hat k h).2]
    exact ⟨digit_hex _ (by omega), digit_hex _ (by omega)⟩
  unfold hexT
  rw [hsz, show 2 * l.length / 2 = l.length by omega, if_pos]
  · congr 2
    apply List.ext_getElem (by simp)
    intro k h1 h2
    rw [List.getElem_map, List.getElem_range]
    unfold hexByte
    rw [(hd k h2).1, (hd k h2).2]
    apply u8_eq
    have hb := l[k].toNat_lt
    rw [UInt8.toNat_ofNat']
    omega
  · refine List.all_eq_true.2 fun k hk => ?_
    have hk' := List.mem_range.1 hk
    unfold okPairF
    rw [(hd k hk').1, (hd k hk').2, ltI_f.2 (by omega), ltI_f.2 (by omega)]
    rfl

theorem named_w : namedF wOBJ = true ∧ namedF wCODE = true ∧ namedF wDEF = true ∧ namedF wREF = true ∧ namedF wLINE = true ∧ namedF wEND = true :=
  ⟨words_named _ (by simp [wordsL, wOBJ]), words_named _ (by simp [wordsL, wCODE]), words_named _ (by simp [wordsL, wDEF]), words_named _ (by simp [wordsL, wREF]), words_named _ (by simp [wordsL, wLINE]), words_named _ (by simp [wordsL, wEND])⟩
end Go.Pm

/- ZkX3: law: an object's text is read back as the object. -/
namespace Go.Pm
open Go Go.Proofs
attribute [-simp] List.getElem?_map

theorem part_f {p k : Nat} (h : p ≠ k) : eqI (p : Int) (k : Int) = false := eqI_f.2 (by omega)
theorem stepQ_obj {nm : ByteArray} (h : namedF nm = true) : stepQ startQ [wOBJ, nm] = some ⟨⟨nm, ⟨#[]⟩, [], [], []⟩, 1, true⟩ := by
  unfold stepQ
  rw [show eqI startQ.part 6 = false from rfl, ixz, k0]
  unfold lineK
  simp only [ixc, ixz, h, Bool.and_true]
  rfl
theorem stepQ_code {S : QSt} {l : List UInt8} (h1 : 1 ≤ S.part) (h2 : S.part ≤ 2) (hf : S.full = true) (hl : l.length ≤ 32) :
    stepQ S [wCODE, mkB (hexs l)] = some ⟨{ S.o with code := S.o.code ++ mkB l }, 2, decide (l.length = 32)⟩ := by
  have hsz : ((mkB (hexs l)).size : Int) = 2 * l.length := by rw [mkB_len, hexs_len]; omega
  have q6 : eqI (S.part : Int) 6 = false := eqI_f.2 (by omega)
  have q0 : eqI (S.part : Int) 0 = false := eqI_f.2 (by omega)
  have q2 : leI (S.part : Int) 2 = true := leI_t.2 (by omega)
  have e2 : eqI ((2 * (l.length : Int)).tmod 2) 0 = true := eqI_t.2 (by rw [Int.tmod_eq_emod_of_nonneg (by omega)]; omega)
  have e3 : leI (2 * (l.length : Int)) 64 = true := leI_t.2 (by omega)
  have e4 : eqI (2 * (l.length : Int)) 64 = decide (l.length = 32) := by
    by_cases h : l.length = 32
    · rw [decide_eq_true h]; exact eqI_t.2 (by omega)
    · rw [decide_eq_false h]; exact eqI_f.2 (by omega)
  unfold stepQ
  rw [q6, ixz, k1]
  unfold lineK
  simp only [ixc, ixz, q0, q2, hf, Bool.and_true, hsz, e2, e3, e4, hexT_hexs]
  rfl
theorem stepQ_def {o : Deck} {p : Nat} {full : Bool} {d : DDef} (h1 : 1 ≤ p) (h2 : p ≤ 3) (hn : namedF d.name = true) (ha : numRL (itB d.at_).data.toList = some d.at_) :
    stepQ ⟨o, p, full⟩ (defP d) = some ⟨{ o with defs := o.defs ++ [d] }, 3, full⟩ := by
  have q6 : eqI (p : Int) 6 = false := eqI_f.2 (by omega)
  have q0 : eqI (p : Int) 0 = false := eqI_f.2 (by omega)
  have q3 : leI (p : Int) 3 = true := leI_t.2 (by omega)
  unfold stepQ defP
  simp only [q6, ixz, k2]
  unfold lineK
  simp only [ixc, ixz, q0, q3, hn, Bool.and_true, ha]
  rfl
theorem stepQ_ref {o : Deck} {p : Nat} {full : Bool} {d : DRef} (h1 : 1 ≤ p) (h2 : p ≤ 4) (hn : namedF d.name = true) (ha : numRL (itB d.at_).data.toList = some d.at_) (hb : numRL (itB d.plus).data.toList = some d.plus) :
    stepQ ⟨o, p, full⟩ (refP d) = some ⟨{ o with refs := o.refs ++ [d] }, 4, full⟩ := by
  have q6 : eqI (p : Int) 6 = false := eqI_f.2 (by omega)
  have q0 : eqI (p : Int) 0 = false := eqI_f.2 (by omega)
  have q3 : leI (p : Int) 4 = true := leI_t.2 (by omega)
  unfold stepQ refP
  simp only [q6, ixz, k3]
  unfold lineK
  simp only [ixc, ixz, q0, q3, hn, Bool.and_true, ha, hb]
  rfl
theorem stepQ_line {o : Deck} {p : Nat} {full : Bool} {d : DLine} (h1 : 1 ≤ p) (h2 : p ≤ 5) (ha : numRL (itB d.at_).data.toList = some d.at_) (hb : numRL (itB d.stmt).data.toList = some d.stmt) :
    stepQ ⟨o, p, full⟩ (lineP d) = some ⟨{ o with lines := o.lines ++ [d] }, 5, full⟩ := by
  have q6 : eqI (p : Int) 6 = false := eqI_f.2 (by omega)
  have q0 : eqI (p : Int) 0 = false := eqI_f.2 (by omega)
  have q3 : leI (p : Int) 5 = true := leI_t.2 (by omega)
  unfold stepQ lineP
  simp only [q6, ixz, k4]
  unfold lineK
  simp only [ixc, ixz, q0, q3, Bool.and_true, ha, hb]
  rfl
theorem stepQ_end {o : Deck} {p : Nat} {full : Bool} (h1 : 1 ≤ p) (h2 : p ≤ 5) : stepQ ⟨o, p, full⟩ [wEND] = some ⟨o, 6, full⟩ := by
  have q6 : eqI (p : Int) 6 = false := eqI_f.2 (by omega)
  have q0 : eqI (p : Int) 0 = false := eqI_f.2 (by omega)
  unfold stepQ
  simp only [q6, ixz, k5]
  unfold lineK
  simp only [q0]
  rfl

theorem run_one {S S' : QSt} {w : List ByteArray} (h : stepQ S w = some S') : runQ S [w] = some S' := by
  unfold runQ
  rw [h]
  rfl
theorem run_defs : ∀ (ds : List DDef) (o : Deck) (p : Nat) (full : Bool), 1 ≤ p → p ≤ 3 → (∀ d ∈ ds, namedF d.name = true ∧ numRL (itB d.at_).data.toList = some d.at_) →
    ∃ p', 1 ≤ p' ∧ p' ≤ 3 ∧ runQ ⟨o, p, full⟩ (ds.map defP) = some ⟨{ o with defs := o.defs ++ ds }, p', full⟩
  | [], o, p, full, h1, h2, _ => ⟨p, h1, h2, by simp [runQ]⟩
  | d :: ds, o, p, full, h1, h2, h => by
    obtain ⟨p', g1, g2, g3⟩ := run_defs ds { o with defs := o.defs ++ [d] } 3 full (by omega) (by omega) fun x hx => h x (List.mem_cons_of_mem _ hx)
    refine ⟨p', g1, g2, ?_⟩
    have := h d (by simp)
    rw [List.map_cons]
    unfold runQ
    rw [stepQ_def h1 h2 this.1 this.2, Option.bind_some, g3]
    simp
theorem run_refs : ∀ (ds : List DRef) (o : Deck) (p : Nat) (full : Bool), 1 ≤ p → p ≤ 4 → (∀ d ∈ ds, namedF d.name = true ∧ numRL (itB d.at_).data.toList = some d.at_ ∧ numRL (itB d.plus).data.toList = some d.plus) →
    ∃ p', 1 ≤ p' ∧ p' ≤ 4 ∧ runQ ⟨o, p, full⟩ (ds.map refP) = some ⟨{ o with refs := o.refs ++ ds }, p', full⟩
  | [], o, p, full, h1, h2, _ => ⟨p, h1, h2, by simp [runQ]⟩
  | d :: ds, o, p, full, h1, h2, h => by
    obtain ⟨p', g1, g2, g3⟩ := run_refs ds { o with refs := o.refs ++ [d] } 4 full (by omega) (by omega) fun x hx => h x (List.mem_cons_of_mem _ hx)
    refine ⟨p', g1, g2, ?_⟩
    have := h d (by simp)
    rw [List.map_cons]
    unfold runQ
    rw [stepQ_ref h1 h2 this.1 this.2.1 this.2.2, Option.bind_some, g3]
    simp
theorem run_lines : ∀ (ds : List DLine) (o : Deck) (p : Nat) (full : Bool), 1 ≤ p → p ≤ 5 → (∀ d ∈ ds, numRL (itB d.at_).data.toList = some d.at_ ∧ numRL (itB d.stmt).data.toList = some d.stmt) →
    ∃ p', 1 ≤ p' ∧ p' ≤ 5 ∧ runQ ⟨o, p, full⟩ (ds.map lineP) = some ⟨{ o with lines := o.lines ++ ds }, p', full⟩
  | [], o, p, full, h1, h2, _ => ⟨p, h1, h2, by simp [runQ]⟩
  | d :: ds, o, p, full, h1, h2, h => by
    obtain ⟨p', g1, g2, g3⟩ := run_lines ds { o with lines := o.lines ++ [d] } 5 full (by omega) (by omega) fun x hx => h x (List.mem_cons_of_mem _ hx)
    refine ⟨p', g1, g2, ?_⟩
    have := h d (by simp)
    rw [List.map_cons]
    unfold runQ
    rw [stepQ_line h1 h2 this.1 this.2, Option.bind_some, g3]
    simp
theorem run_code (nm : ByteArray) (L : List UInt8) : ∀ j, j ≤ nChunks L →
    runQ ⟨⟨nm, ⟨#[]⟩, [], [], []⟩, 1, true⟩ ((List.range j).map (codeP L)) = some ⟨⟨nm, mkB (L.take (32 * j)), [], [], []⟩, if j = 0 then 1 else 2, decide (32 * j ≤ L.length)⟩
  | 0, _ => by simp [runQ, mkB]
  | j + 1, h => by
    unfold nChunks at h
    have hlt : 32 * j < L.length := by omega
    have ih := run_code nm L j (by unfold nChunks; omega)
    have hcl : (chunk L j).length = min 32 (L.length - 32 * j) := by unfold chunk; rw [List.length_take, List.length_drop]
    have htk : L.take (32 * (j + 1)) = L.take (32 * j) ++ chunk L j := by
      unfold chunk
      rw [show 32 * (j + 1) = 32 * j + 32 by omega, List.take_add]
    have hs := stepQ_code (S := ⟨⟨nm, mkB (L.take (32 * j)), [], [], []⟩, if j = 0 then 1 else 2, decide (32 * j ≤ L.length)⟩) (l := chunk L j)
      (by simp only; split <;> omega) (by simp only; split <;> omega) (by simp only; exact decide_eq_true (by omega)) (chunk_len L j)
    have hd : decide ((chunk L j).length = 32) = decide (32 * (j + 1) ≤ L.length) := by
      rw [hcl]
      congr 1
      exact propext ⟨fun h => by omega, fun h => by omega⟩
    rw [List.range_succ, List.map_append, runQ_append _ _ _ _ ih, List.map_singleton]
    unfold codeP
    rw [run_one hs, hd, if_neg (by omega : ¬ j + 1 = 0)]
    simp only [mkB_append, htk]

/-- An object's parts make the object. -/
theorem run_parts {o : Deck} (h : o.Txt) : ∃ full, runQ startQ (partsD o) = some ⟨o, 6, full⟩ := by
  obtain ⟨nm, code, defs, refs, lines⟩ := o
  obtain ⟨L, hL⟩ : ∃ L, L = code.data.toList := ⟨_, rfl⟩
  have hc := run_code nm L (nChunks L) (Nat.le_refl _)
  have htk : L.take (32 * nChunks L) = L := List.take_of_length_le (by unfold nChunks; omega)
  rw [htk] at hc
  obtain ⟨p0, hp0, hp1, hp2⟩ : ∃ p, p = (if nChunks L = 0 then 1 else 2) ∧ 1 ≤ p ∧ p ≤ 3 := ⟨_, rfl, by split <;> omega, by split <;> omega⟩
  rw [← hp0] at hc
  obtain ⟨full, hfull⟩ : ∃ full, full = decide (32 * nChunks L ≤ L.length) := ⟨_, rfl⟩
  rw [← hfull] at hc
  obtain ⟨p2, h21, h22, h23⟩ := run_defs defs ⟨nm, mkB L, [], [], []⟩ p0 full hp1 hp2 fun d hd => by
    have := h.defs d hd
    exact ⟨nameOk_named this.1, itB_num (by omega) (by omega)⟩
  obtain ⟨p3, h31, h32, h33⟩ := run_refs refs ⟨nm, mkB L, [] ++ defs, [], []⟩ p2 full h21 (by omega) fun d hd => by
    have := h.refs d hd
    exact ⟨nameOk_named this.1, itB_num (by omega) (by omega), itB_num (by omega) (by omega)⟩
  obtain ⟨p4, h41, h42, h43⟩ := run_lines lines ⟨nm, mkB L, [] ++ defs, [] ++ refs, []⟩ p3 full h31 (by omega) fun d hd => by
    have := h.lines d hd
    exact ⟨itB_num (by omega) (by omega), itB_num (by omega) (by omega)⟩
  refine ⟨full, ?_⟩
  unfold partsD runQ
  rw [stepQ_obj (nameOk_named h.name), Option.bind_some]
  simp only
  rw [← hL, List.append_assoc, List.append_assoc, List.append_assoc, runQ_append _ _ _ _ hc, runQ_append _ _ _ _ h23, runQ_append _ _ _ _ h33, runQ_append _ _ _ _ h43, run_one (stepQ_end h41 h42)]
  simp only [List.nil_append]
  rw [hL, mkB_data]
theorem parts_ok {o : Deck} (h : o.Txt) : ∀ l ∈ partsD o, LineOk l := by
  obtain ⟨w0, w1, w2, w3, w4, w5⟩ := named_w
  have two : ∀ {a b : ByteArray}, namedF a = true → namedF b = true → LineOk [a, b] := fun ha hb => ⟨by simp, fun p hp => by
    rcases List.mem_cons.1 hp with rfl | hp
    · exact ha
    · rw [List.mem_singleton.1 hp]; exact hb⟩
  have three : ∀ {a b c : ByteArray}, namedF a = true → namedF b = true → namedF c = true → LineOk [a, b, c] := fun ha hb hc => ⟨by simp, fun p hp => by
    rcases List.mem_cons.1 hp with rfl | hp
    · exact ha
    · exact (two hb hc).2 p hp⟩
  intro l hl
  unfold partsD at hl
  rcases List.mem_cons.1 hl with rfl | hl
  · exact two w0 (nameOk_named h.name)
  rw [List.mem_append, List.mem_append, List.mem_append, List.mem_append] at hl
  rcases hl with (((hl | hl) | hl) | hl) | hl
  · obtain ⟨k, hk, rfl⟩ := List.mem_map.1 hl
    have hk' := List.mem_range.1 hk
    unfold nChunks at hk'
    refine two w1 (hex_named (b := mkB (chunk o.code.data.toList k)) (fun e => ?_) ?_ (hexT_hexs _))
    · have h1 := congrArg ByteArray.size e
      rw [mkB_len, hexs_len] at h1
      have h2 : (chunk o.code.data.toList k).length = min 32 (o.code.data.toList.length - 32 * k) := by unfold chunk; rw [List.length_take, List.length_drop]
      have h3 : ByteArray.size ⟨#[]⟩ = 0 := rfl
      omega
    · rw [mkB_len, hexs_len]
      exact eqI_t.2 (by rw [Int.tmod_eq_emod_of_nonneg (by omega)]; omega)
  · obtain ⟨d, hd, rfl⟩ := List.mem_map.1 hl
    have := h.defs d hd
    exact three w2 (nameOk_named this.1) (itB_named (by omega) (by omega))
  · obtain ⟨d, hd, rfl⟩ := List.mem_map.1 hl
    have := h.refs d hd
    refine ⟨by simp [refP], fun p hp => ?_⟩
    unfold refP at hp
    rcases List.mem_cons.1 hp with rfl | hp
    · exact w3
    · exact (three (itB_named (by omega) (by omega)) (nameOk_named this.1) (itB_named (by omega) (by omega))).2 p hp
  · obtain ⟨d, hd, rfl⟩ := List.mem_map.1 hl
    have := h.lines d hd
    exact three w4 (itB_named (by omega) (by omega)) (itB_named (by omega) (by omega))
  · rw [List.mem_singleton.1 hl]
    exact ⟨by simp, fun p hp => by rw [List.mem_singleton.1 hp]; exact w5⟩

theorem text_ge : ∀ l : List (List ByteArray), l.length ≤ (textOf l).length
  | [] => by simp
  | x :: l => by
    have h2 := text_ge l
    have e : textOf (x :: l) = lineOf x ++ textOf l := by simp [textOf]
    have h1 : 1 ≤ (lineOf x).length := by unfold lineOf; simp
    rw [e, List.length_append, List.length_cons]
    omega
/-- An object's text is read back. -/
theorem read_text {o : Deck} (hok : deckOk o = true) (hl : (textOf (partsD o)).length ≤ 200000) : readRes (mkB (textOf (partsD o))) = (o.av, 0, 0) := by
  have h := deckOk_txt hok
  obtain ⟨full, hr⟩ := run_parts h
  have hge := text_ge (partsD o)
  rw [reads_same]
  unfold refRes
  rw [mkB_len, ltI_f.2 (by omega), data_mkB]
  obtain ⟨f, hf⟩ : ∃ f, (textOf (partsD o)).length + 1 = (f + 1) + (partsD o).length := ⟨(textOf (partsD o)).length - (partsD o).length, by omega⟩
  have hL := lines_run (partsD o) (f + 1) startQ _ 0 [] (parts_ok h) hr
  rw [List.append_nil] at hL
  rw [hf, hL]
  have hz : refL (f + 1) ⟨o, 6, full⟩ (0 + (partsD o).length) [] = (some ⟨o, 6, full⟩, 0 + (partsD o).length) := by
    unfold refL
    simp [cutN]
  rw [hz]
  simp only [show eqI ((6 : Nat) : Int) 6 = true from rfl, hok, if_true]
  rfl
end Go.Pm

/- ZkT4: contracts: the Text of the reference reading. -/
namespace Go.Pm
open Go Go.Proofs
attribute [-simp] List.getElem?_map

theorem sizeB (a : Array UInt8) : (ByteArray.mk a).size = a.size := rfl
theorem mkB_lit (s : ByteArray) : s = mkB s.data.toList := by simp [mkB]

set_option maxHeartbeats 8000000 in
theorem call20 (o : Deck) (hs : o.Small) : PCalls Zk.pg 20 [.agg o.av] fun out => out = .ret (textAV o) := by
  refine ok20.pcalls (by simp) ?_
  generalize hX : textAV o = X
  obtain ⟨nm, code, defs, refs, lines⟩ := o
  simp [c20, Deck.av]
  refine xcall_p (call29 ⟨nm, code, defs, refs, lines⟩ hs) (by simp [Deck.av]) ?_
  cases hok : deckOk ⟨nm, code, defs, refs, lines⟩ with
  | false =>
    simp [cr20, postP_ret, AV.perm]
    rw [← hX]
    simp [textAV, hok]
  | true =>
    have hT := deckOk_txt hok
    have hnm : nm.size ≤ 1048576 := hs.name
    have hcs : code.size ≤ 20000 := hT.code
    have hdl : defs.length ≤ 1048576 := hs.defs
    have hrl : refs.length ≤ 1048576 := hs.refs
    have hll : lines.length ≤ 1048576 := hs.lines
    have ms : ∀ l : List UInt8, (mkB l).size = l.length := fun _ => rfl
    have hq : ∀ (t : List UInt8) (s : ByteArray), mkB t ++ s = mkB (t ++ s.data.toList) := fun t s => by
      have : s = mkB s.data.toList := by simp [mkB]
      conv => lhs; rw [this]
      rw [mkB_append]
    simp
    rw [if_pos (by simp [sizeB]; omega)]
    simp
    rw [if_pos (by simp [sizeB]; omega)]
    simp
    obtain ⟨L, hL⟩ : ∃ L, L = code.data.toList := ⟨_, rfl⟩
    have hLl : L.length = code.size := by rw [hL]; simp
    have e0 : (⟨#[79, 66, 74, 69, 67, 84, 32]⟩ : ByteArray) ++ nm ++ ⟨#[10]⟩ = mkB (lineOf [wOBJ, nm]) := by
      rw [line2, show (⟨#[79, 66, 74, 69, 67, 84, 32]⟩ : ByteArray) = mkB [79, 66, 74, 69, 67, 84, 32] from rfl, hq, hq]
      simp [wOBJ]
    rw [e0]
    have hl0 : (lineOf [wOBJ, nm]).length ≤ 1100000 := by rw [line_len2, show wOBJ.size = 6 from rfl]; omega
    obtain ⟨B0, hB0⟩ : ∃ B0, B0 = lineOf [wOBJ, nm] := ⟨_, rfl⟩
    rw [← hB0] at hl0 ⊢
    refine wpS_loop (ι := Nat) (fun i => [(1, .ptr 0 0 0), (4, .str (mkB (B0 ++ codeR L i))), (5, .int .i64 i)])
      (fun _ => ⟨[(0, .cells (Deck.av ⟨nm, code, defs, refs, lines⟩))], 1⟩) (fun i => code.size - i) (fun i => i ≤ code.size) 0 (Nat.zero_le _) (Env.le_of (by simp [codeR])) (by simp [Deck.av]) ?_
    intro i hi
    have hwi : IntKind.i64.wrap ((i : Int) + 1) = i + 1 := wrap64 (by omega) (by omega)
    have hcl := codeR_len L i
    simp [Deck.av]
    refine br_cond rfl (fun h1 => ?_) (fun h1 => ?_)
    · have hlt : i < code.size := by have := ltI_t.1 h1; omega
      have hm : (i : Int).tmod 32 = ((i % 32 : Nat) : Int) := by rw [Int.tmod_eq_emod_of_nonneg (by omega)]; omega
      have hIc : ltI (i : Int) code.size = true := ltN hlt
      have hbw : IntKind.i64.wrap ((byteAt code i).toNat : Int) = (byteAt code i).toNat := by have := (byteAt code i).toNat_lt; exact wrap64 (by omega) (by omega)
      have hwl : IntKind.i64.wrap ((code.size : Int) - 1) = code.size - 1 := wrap64 (by omega) (by omega)
      have hgd : L.getD i 0 = byteAt code i := by
        have h5 : i < code.data.toList.length := by rw [← hL, hLl]; omega
        have h6 : code.data.toList[i]? = some code.data.toList[i] := List.getElem?_eq_getElem h5
        rw [hL, ← byteAt_eq h5, List.getD_eq_getElem?_getD, h6]
        rfl
      have hx2 : (hex2 (byteAt code i)).length = 2 := rfl
      have hbit : codeR L (i + 1) = codeR L i ++ ((if i % 32 = 0 then [67, 79, 68, 69, 32] else []) ++ hex2 (byteAt code i) ++ (if i % 32 = 31 ∨ i + 1 = code.size then [10] else [])) := by
        rw [codeR_succ]; unfold bitR; rw [hgd, hLl]
      simp [hm]
      refine br_cond rfl (fun h2 => ?_) (fun h2 => ?_)
      · have h2' : i % 32 = 0 := by have := eqI_t.1 h2; omega
        have h3' : ¬ i % 32 = 31 := by omega
        have h3 : eqI ((i : Int) % 32) 31 = false := eqI_f.2 (by omega)
        rw [if_pos h2'] at hbit
        simp
        rw [if_pos (by simp [ms, sizeB]; omega)]
        simp [idxS hIc, hbw, hq]
        refine xcall_p (call66 (byteAt code i)) rfl ?_
        simp
        rw [if_pos (by simp [ms, hx2]; omega)]
        simp [hm, mkB_append]
        simp [h3, hwl]
        refine br_cond rfl (fun h4 => ?_) (fun h4 => ?_)
        · have h4' : i + 1 = code.size := by have := eqI_t.1 h4; omega
          simp
          rw [if_pos (by simp [ms, sizeB, hx2]; omega)]
          simp [hwi, hq]
          rw [if_pos (.inr h4')] at hbit
          exact ⟨i + 1, by omega, by omega, Env.le_of (by simp [hbit]), Mem.le_of rfl (by simp)⟩
        · have h4' : ¬ i + 1 = code.size := by have := eqI_f.1 h4; omega
          simp [hwi]
          rw [if_neg (fun h => h.elim h3' h4')] at hbit
          exact ⟨i + 1, by omega, by omega, Env.le_of (by simp [hbit]), Mem.le_of rfl (by simp)⟩
      · have h2' : ¬ i % 32 = 0 := by have := eqI_f.1 h2; omega
        rw [if_neg h2'] at hbit
        simp [idxS hIc, hbw]
        refine xcall_p (call66 (byteAt code i)) rfl ?_
        simp
        rw [if_pos (by simp [ms, hx2]; omega)]
        simp [hm, mkB_append]
        cases h3 : eqI ((i : Int) % 32) 31 with
        | true =>
          have h3' : i % 32 = 31 := by have := eqI_t.1 h3; omega
          simp
          rw [if_pos (by simp [ms, sizeB, hx2]; omega)]
          simp [hwi, hq]
          rw [if_pos (.inl h3')] at hbit
          exact ⟨i + 1, by omega, by omega, Env.le_of (by simp [hbit]), Mem.le_of rfl (by simp)⟩
        | false =>
          have h3' : ¬ i % 32 = 31 := by have := eqI_f.1 h3; omega
          simp [hwl]
          refine br_cond rfl (fun h4 => ?_) (fun h4 => ?_)
          · have h4' : i + 1 = code.size := by have := eqI_t.1 h4; omega
            simp
            rw [if_pos (by simp [ms, sizeB, hx2]; omega)]
            simp [hwi, hq]
            rw [if_pos (.inr h4')] at hbit
            exact ⟨i + 1, by omega, by omega, Env.le_of (by simp [hbit]), Mem.le_of rfl (by simp)⟩
          · have h4' : ¬ i + 1 = code.size := by have := eqI_f.1 h4; omega
            simp [hwi]
            rw [if_neg (fun h => h.elim h3' h4')] at hbit
            exact ⟨i + 1, by omega, by omega, Env.le_of (by simp [hbit]), Mem.le_of rfl (by simp)⟩
    have hiN : i = code.size := by have := ltI_f.1 h1; omega
    subst hiN
    obtain ⟨P1, hP1⟩ : ∃ P1, P1 = [wOBJ, nm] :: (List.range (nChunks L)).map (codeP L) := ⟨_, rfl⟩
    have e1 : B0 ++ codeR L code.size = textOf P1 := by
      rw [← hLl, codeR_all, hP1, hB0]
      simp [textOf]
    have hb1 : (textOf P1).length ≤ 1300000 := by rw [← e1, List.length_append]; omega
    rw [e1]
    have hl2 : ∀ d ∈ defs, (lineOf (defP d)).length ≤ 1100000 := fun d hd => by
      have h1 : d.name.size ≤ 1048576 := hs.dname d hd
      have h2 := hT.defs d hd
      have h3 := itB_len (n := d.at_) (by omega) (by omega)
      unfold defP
      rw [line_len3, show wDEF.size = 3 from rfl]; omega
    have hl3 : ∀ d ∈ refs, (lineOf (refP d)).length ≤ 1100000 := fun d hd => by
      have h1 : d.name.size ≤ 1048576 := hs.rname d hd
      have h2 := hT.refs d hd
      have h3 := itB_len (n := d.at_) (by omega) (by omega)
      have h4 := itB_len (n := d.plus) (by omega) (by omega)
      unfold refP
      rw [line_len4, show wREF.size = 3 from rfl]; omega
    have hl4 : ∀ d ∈ lines, (lineOf (lineP d)).length ≤ 1100000 := fun d hd => by
      have h2 := hT.lines d hd
      have h3 := itB_len (n := d.at_) (by omega) (by omega)
      have h4 := itB_len (n := d.stmt) (by omega) (by omega)
      unfold lineP
      rw [line_len3, show wLINE.size = 4 from rfl]; omega
    obtain ⟨A2, hA2⟩ : ∃ A2 : Nat → List (List ByteArray), A2 = fun i => P1 ++ (defs.take i).map defP := ⟨_, rfl⟩
    obtain ⟨A3, hA3⟩ : ∃ A3 : Nat → List (List ByteArray), A3 = fun i => A2 defs.length ++ (refs.take i).map refP := ⟨_, rfl⟩
    obtain ⟨A4, hA4⟩ : ∃ A4 : Nat → List (List ByteArray), A4 = fun i => A3 refs.length ++ (lines.take i).map lineP := ⟨_, rfl⟩
    have b2 : ∀ i, i ≤ defs.length → (textOf (A2 i)).length ≤ 1300000 + 1100000 * 1048576 := fun i hi => by
      have h := text_len (B := 1100000) ((defs.take i).map defP) (fun x hx => by
        obtain ⟨d, hd, rfl⟩ := List.mem_map.1 hx; exact hl2 d (List.mem_of_mem_take hd))
      have e : (textOf (A2 i)).length = (textOf P1).length + (textOf ((defs.take i).map defP)).length := by rw [hA2]; simp [textOf]
      have h2 : 1100000 * ((defs.take i).map defP).length ≤ 1100000 * 1048576 := Nat.mul_le_mul_left _ (by simp; omega)
      omega
    have b3 : ∀ i, i ≤ refs.length → (textOf (A3 i)).length ≤ 1300000 + 2 * (1100000 * 1048576) := fun i hi => by
      have h := text_len (B := 1100000) ((refs.take i).map refP) (fun x hx => by
        obtain ⟨d, hd, rfl⟩ := List.mem_map.1 hx; exact hl3 d (List.mem_of_mem_take hd))
      have h1 := b2 _ (Nat.le_refl _)
      have e : (textOf (A3 i)).length = (textOf (A2 defs.length)).length + (textOf ((refs.take i).map refP)).length := by rw [hA3]; simp [textOf]
      have h2 : 1100000 * ((refs.take i).map refP).length ≤ 1100000 * 1048576 := Nat.mul_le_mul_left _ (by simp; omega)
      omega
    have b4 : ∀ i, i ≤ lines.length → (textOf (A4 i)).length ≤ 1300000 + 3 * (1100000 * 1048576) := fun i hi => by
      have h := text_len (B := 1100000) ((lines.take i).map lineP) (fun x hx => by
        obtain ⟨d, hd, rfl⟩ := List.mem_map.1 hx; exact hl4 d (List.mem_of_mem_take hd))
      have h1 := b3 _ (Nat.le_refl _)
      have e : (textOf (A4 i)).length = (textOf (A3 refs.length)).length + (textOf ((lines.take i).map lineP)).length := by rw [hA4]; simp [textOf]
      have h2 : 1100000 * ((lines.take i).map lineP).length ≤ 1100000 * 1048576 := Nat.mul_le_mul_left _ (by simp; omega)
      omega
    have z : ∀ (t : List UInt8) (s : ByteArray), t.length + s.size ≤ 9000000000000000000 → (mkB t).size + s.size ≤ 9223372036854775807 := fun t s h => by rw [ms]; omega
    have hP2 : textOf P1 = textOf (A2 0) := by rw [hA2]; simp
    rw [hP2]
    clear hi hwi hcl h1
    simp
    refine wpS_loop (ι := Nat) (fun i => [(1, .ptr 0 0 0), (4, .str (mkB (textOf (A2 i)))), (6, .int .i64 i)])
      (fun _ => ⟨[(0, .cells (Deck.av ⟨nm, code, defs, refs, lines⟩))], 1⟩) (fun i => defs.length - i) (fun i => i ≤ defs.length) 0 (Nat.zero_le _) (Env.le_of (by simp)) (by simp [Deck.av]) ?_
    intro i hi
    have hwi : IntKind.i64.wrap ((i : Int) + 1) = i + 1 := wrap64 (by omega) (by omega)
    simp [Deck.av]
    refine br_cond rfl (fun h1 => ?_) (fun h1 => ?_)
    · have hlt : i < defs.length := by have := ltI_t.1 h1; omega
      have hmem := ix_mem hlt
      have hnum := hT.defs _ hmem
      have hnam : (ix defs i).name.size ≤ 1048576 := hs.dname _ hmem
      have hlj := hl2 _ hmem
      have hbj := b2 i hi
      have e2 : mkB (textOf (A2 i)) ++ lineT (defP (ix defs i)) = mkB (textOf (A2 (i + 1))) := by rw [text_write, hA2]; simp [snoc_take defP hlt]
      obtain ⟨d, hd⟩ : ∃ d, d = ix defs i := ⟨_, rfl⟩
      rw [← hd] at hmem hnum hlj e2 hnam
      have hdl1 := itB_len (n := d.at_) (by omega) (by omega)
      rw [itB, ms] at hdl1
      simp [idxM h1, ← hd, DDef.av]
      have e3 : (⟨#[68, 69, 70, 32]⟩ : ByteArray) ++ d.name ++ ⟨#[32]⟩ ++ mkB (Lib.itoa d.at_) ++ ⟨#[10]⟩ = lineT (defP d) := by
        rw [lineT_eq, defP, line3, show (⟨#[68, 69, 70, 32]⟩ : ByteArray) = mkB [68, 69, 70, 32] from rfl, hq, hq, hq, hq]
        congr 1
      rw [if_pos (by simp [sizeB]; omega)]
      simp
      rw [if_pos (by simp [sizeB]; omega)]
      simp [idxM h1, ← hd, DDef.av]
      refine xdcall_p rfl (call67 (n := d.at_) (by omega) (by omega)) rfl ?_
      simp
      rw [if_pos (by simp [sizeB, ms]; omega)]
      simp
      rw [if_pos (by simp [sizeB, ms]; omega)]
      simp
      rw [if_pos (by simp [sizeB, ms]; omega)]
      simp [e3, e2, hwi]
      exact ⟨i + 1, by omega, by omega, Env.le_of (by simp), Mem.le_of rfl (by simp)⟩
    have hiN : i = defs.length := by have := ltI_f.1 h1; omega
    subst hiN
    have hA30 : A2 defs.length = A3 0 := by rw [hA3]; simp
    rw [hA30]
    clear hi hwi h1
    simp
    refine wpS_loop (ι := Nat) (fun i => [(1, .ptr 0 0 0), (4, .str (mkB (textOf (A3 i)))), (7, .int .i64 i)])
      (fun _ => ⟨[(0, .cells (Deck.av ⟨nm, code, defs, refs, lines⟩))], 1⟩) (fun i => refs.length - i) (fun i => i ≤ refs.length) 0 (Nat.zero_le _) (Env.le_of (by simp)) (by simp [Deck.av]) ?_
    intro i hi
    have hwi : IntKind.i64.wrap ((i : Int) + 1) = i + 1 := wrap64 (by omega) (by omega)
    simp [Deck.av]
    refine br_cond rfl (fun h1 => ?_) (fun h1 => ?_)
    · have hlt : i < refs.length := by have := ltI_t.1 h1; omega
      have hmem := ix_mem hlt
      have hnum := hT.refs _ hmem
      have hnam : (ix refs i).name.size ≤ 1048576 := hs.rname _ hmem
      have hlj := hl3 _ hmem
      have hbj := b3 i hi
      have e2 : mkB (textOf (A3 i)) ++ lineT (refP (ix refs i)) = mkB (textOf (A3 (i + 1))) := by rw [text_write, hA3]; simp [snoc_take refP hlt]
      obtain ⟨d, hd⟩ : ∃ d, d = ix refs i := ⟨_, rfl⟩
      rw [← hd] at hmem hnum hlj e2 hnam
      have hdl1 := itB_len (n := d.at_) (by omega) (by omega)
      have hdl2 := itB_len (n := d.plus) (by omega) (by omega)
      rw [itB, ms] at hdl1 hdl2
      have e3 : (⟨#[82, 69, 70, 32]⟩ : ByteArray) ++ mkB (Lib.itoa d.at_) ++ ⟨#[32]⟩ ++ d.name ++ ⟨#[32]⟩ ++ mkB (Lib.itoa d.plus) ++ ⟨#[10]⟩ = lineT (refP d) := by
        rw [lineT_eq, refP, line4, show (⟨#[82, 69, 70, 32]⟩ : ByteArray) = mkB [82, 69, 70, 32] from rfl, hq, hq, hq, hq, hq, hq]
        congr 1
      simp [idxM h1, ← hd, DRef.av]
      refine xdcall_p rfl (call67 (n := d.at_) (by omega) (by omega)) rfl ?_
      simp
      rw [if_pos (by simp [sizeB, ms]; omega)]
      simp
      rw [if_pos (by simp [sizeB, ms]; omega)]
      simp [idxM h1, ← hd, DRef.av]
      rw [if_pos (by simp [sizeB, ms]; omega)]
      simp
      rw [if_pos (by simp [sizeB, ms]; omega)]
      simp [idxM h1, ← hd, DRef.av]
      refine xdcall_p rfl (call67 (n := d.plus) (by omega) (by omega)) rfl ?_
      simp
      rw [if_pos (by simp [sizeB, ms]; omega)]
      simp
      rw [if_pos (by simp [sizeB, ms]; omega)]
      simp
      rw [if_pos (by simp [sizeB, ms]; omega)]
      simp [e3, e2, hwi]
      exact ⟨i + 1, by omega, by omega, Env.le_of (by simp), Mem.le_of rfl (by simp)⟩
    have hiN : i = refs.length := by have := ltI_f.1 h1; omega
    subst hiN
    have hA40 : A3 refs.length = A4 0 := by rw [hA4]; simp
    rw [hA40]
    clear hi hwi h1
    simp
    refine wpS_loop (ι := Nat) (fun i => [(1, .ptr 0 0 0), (4, .str (mkB (textOf (A4 i)))), (8, .int .i64 i)])
      (fun _ => ⟨[(0, .cells (Deck.av ⟨nm, code, defs, refs, lines⟩))], 1⟩) (fun i => lines.length - i) (fun i => i ≤ lines.length) 0 (Nat.zero_le _) (Env.le_of (by simp)) (by simp [Deck.av]) ?_
    intro i hi
    have hwi : IntKind.i64.wrap ((i : Int) + 1) = i + 1 := wrap64 (by omega) (by omega)
    simp [Deck.av]
    refine br_cond rfl (fun h1 => ?_) (fun h1 => ?_)
    · have hlt : i < lines.length := by have := ltI_t.1 h1; omega
      have hmem := ix_mem hlt
      have hnum := hT.lines _ hmem
      have hlj := hl4 _ hmem
      have hbj := b4 i hi
      have e2 : mkB (textOf (A4 i)) ++ lineT (lineP (ix lines i)) = mkB (textOf (A4 (i + 1))) := by rw [text_write, hA4]; simp [snoc_take lineP hlt]
      obtain ⟨d, hd⟩ : ∃ d, d = ix lines i := ⟨_, rfl⟩
      rw [← hd] at hmem hnum hlj e2
      have hdl1 := itB_len (n := d.at_) (by omega) (by omega)
      have hdl2 := itB_len (n := d.stmt) (by omega) (by omega)
      rw [itB, ms] at hdl1 hdl2
      have e3 : (⟨#[76, 73, 78, 69, 32]⟩ : ByteArray) ++ mkB (Lib.itoa d.at_) ++ ⟨#[32]⟩ ++ mkB (Lib.itoa d.stmt) ++ ⟨#[10]⟩ = lineT (lineP d) := by
        rw [lineT_eq, lineP, line3, show (⟨#[76, 73, 78, 69, 32]⟩ : ByteArray) = mkB [76, 73, 78, 69, 32] from rfl, hq, hq, hq, hq]
        congr 1
      simp [idxM h1, ← hd, DLine.av]
      refine xdcall_p rfl (call67 (n := d.at_) (by omega) (by omega)) rfl ?_
      simp
      rw [if_pos (by simp [sizeB, ms]; omega)]
      simp
      rw [if_pos (by simp [sizeB, ms]; omega)]
      simp [idxM h1, ← hd, DLine.av]
      refine xdcall_p rfl (call67 (n := d.stmt) (by omega) (by omega)) rfl ?_
      simp
      rw [if_pos (by simp [sizeB, ms]; omega)]
      simp
      rw [if_pos (by simp [sizeB, ms]; omega)]
      simp
      rw [if_pos (by simp [sizeB, ms]; omega)]
      simp [e3, e2, hwi]
      exact ⟨i + 1, by omega, by omega, Env.le_of (by simp), Mem.le_of rfl (by simp)⟩
    have hiN : i = lines.length := by have := ltI_f.1 h1; omega
    subst hiN
    have hb4 := b4 _ (Nat.le_refl _)
    have hP : A4 lines.length ++ [[wEND]] = partsD ⟨nm, code, defs, refs, lines⟩ := by
      rw [hA4, hA3, hA2, hP1, hL]
      simp [partsD]
    have hE : mkB (textOf (A4 lines.length)) ++ (⟨#[69, 78, 68, 10]⟩ : ByteArray) = mkB (textOf (partsD ⟨nm, code, defs, refs, lines⟩)) := by
      rw [← hP, textOf_snoc, ← mkB_append]; rfl
    simp
    rw [if_pos (by simp [sizeB, ms]; omega)]
    simp [hE]
    obtain ⟨T, hT2⟩ : ∃ T, T = textOf (partsD ⟨nm, code, defs, refs, lines⟩) := ⟨_, rfl⟩
    simp only [textAV, hok, if_true] at hX
    rw [← hT2] at hX ⊢
    refine br_cond rfl (fun h2 => ?_) (fun h2 => ?_)
    · have hgt : ltI 200000 (T.length : Int) = true := h2
      rw [if_pos hgt] at hX
      simp [cr20, postP_ret, ← hX]
    · have hgt : ltI 200000 (T.length : Int) = false := h2
      rw [hgt] at hX
      simp [cr20, postP_ret, ← hX]
end Go.Pm

/- ZkS15: the code of the law LinkTexts. -/
namespace Go.Pm
open Go Go.Proofs

/-- ironbark/ironbarklaw34.LinkTexts -/
def c5 : SC :=
  (.seq (.ops [⟨(some 1), .plain (.box 5), [.tmp 0], none⟩,
    ⟨(some 2), .plain .mv, [.lit (.bool false)], none⟩] [])
  (.seq (.seq (.ops [⟨(some 9), .call 6, [], none⟩,
    ⟨(some 10), .plain (.un .not), [.tmp 9], none⟩] [9])
  (.cond (.tmp 10)
   (.seq (.ops [⟨(some 2), .plain .mv, [.lit (.bool false)], none⟩] [])
   .ret)
   .skip))
  (.seq (.seq (.ops [⟨(some 11), .plain (.load true 5), [.tmp 1], none⟩,
    ⟨(some 12), .plain (.buildRow 27 5 1 [(.str ⟨#[]⟩), (.str ⟨#[]⟩), .nilS, .nilS, .nilS] [0]), [.tmp 11], none⟩,
    ⟨(some 13), .call 10, [.tmp 12, .lit .nilS], none⟩,
    ⟨(some 14), .plain .mv, [.tmp 13], none⟩,
    ⟨(some 15), .plain (.fieldAddr 1), [.tmp 1], (some (14, false))⟩,
    ⟨(some 16), .plain (.load false 1), [.tmp 15], (some (14, false))⟩,
    ⟨(some 17), .plain (.len 0), [.tmp 16], (some (14, false))⟩,
    ⟨(some 18), .plain (.bin .gtr), [.tmp 17, .lit (.int .i64 3000)], (some (14, false))⟩,
    ⟨(some 19), .plain .pick, [.tmp 14, .lit (.bool true), .tmp 18], none⟩] [11, 12, 13, 14, 15, 16, 17, 18])
  (.cond (.tmp 19)
   (.seq (.ops [⟨(some 2), .plain .mv, [.lit (.bool true)], none⟩] [])
   .ret)
   .skip))
  (.seq (.ops [⟨(some 21), .plain (.load true 5), [.tmp 1], none⟩,
    ⟨(some 22), .plain (.buildRow 27 5 1 [(.str ⟨#[]⟩), (.str ⟨#[]⟩), .nilS, .nilS, .nilS] [0]), [.tmp 21], none⟩,
    ⟨(some 23), .call 13, [.tmp 22], none⟩,
    ⟨(some 24), .plain (.indexAddr 5), [.tmp 23, .lit (.int .i64 0)], none⟩,
    ⟨(some 25), .plain (.load true 5), [.tmp 24], none⟩,
    ⟨(some 26), .call 19, [.tmp 25], none⟩,
    ⟨(some 20), .plain .mv, [.tmp 26], none⟩,
    ⟨(some 27), .plain (.extract 0), [.tmp 20], none⟩,
    ⟨(some 28), .plain (.extract 1), [.tmp 20], none⟩,
    ⟨(some 3), .plain .mv, [.tmp 27], none⟩,
    ⟨(some 4), .plain .mv, [.tmp 28], none⟩] [21, 22, 23, 24, 25, 26, 20, 27, 28])
  (.seq (.ops [⟨(some 30), .plain (.load true 5), [.tmp 1], none⟩,
    ⟨(some 31), .call 20, [.tmp 30], none⟩,
    ⟨(some 29), .plain .mv, [.tmp 31], none⟩,
    ⟨(some 32), .plain (.extract 0), [.tmp 29], none⟩,
    ⟨(some 33), .plain (.extract 1), [.tmp 29], none⟩,
    ⟨(some 5), .plain .mv, [.tmp 32], none⟩,
    ⟨(some 6), .plain .mv, [.tmp 33], none⟩] [30, 31, 29, 32, 33])
  (.seq (.seq (.ops [⟨(some 34), .plain .mv, [.tmp 3], none⟩,
    ⟨(some 35), .plain .mv, [.tmp 5], none⟩,
    ⟨(some 36), .plain (.bin .neq), [.tmp 34, .tmp 35], none⟩,
    ⟨(some 37), .plain .mv, [.tmp 36], none⟩,
    ⟨(some 38), .plain .mv, [.tmp 4], (some (37, false))⟩,
    ⟨(some 39), .plain .mv, [.tmp 6], (some (37, false))⟩,
    ⟨(some 40), .plain (.bin .neq), [.tmp 38, .tmp 39], (some (37, false))⟩,
    ⟨(some 41), .plain .pick, [.tmp 37, .lit (.bool true), .tmp 40], none⟩] [34, 35, 36, 37, 38, 39, 40])
  (.cond (.tmp 41)
   (.seq (.ops [⟨(some 2), .plain .mv, [.lit (.bool false)], none⟩] [])
   .ret)
   .skip))
  (.seq (.seq (.ops [⟨(some 42), .plain .mv, [.tmp 4], none⟩,
    ⟨(some 43), .plain (.bin .neq), [.tmp 42, .lit (.int .i64 0)], none⟩] [42])
  (.cond (.tmp 43)
   (.seq (.ops [⟨(some 2), .plain .mv, [.lit (.bool true)], none⟩] [])
   .ret)
   .skip))
  (.seq (.ops [⟨(some 45), .plain .mv, [.tmp 3], none⟩,
    ⟨(some 46), .call 7, [.tmp 45], none⟩,
    ⟨(some 44), .plain .mv, [.tmp 46], none⟩,
    ⟨(some 47), .plain (.extract 0), [.tmp 44], none⟩,
    ⟨(some 48), .plain (.extract 1), [.tmp 44], none⟩,
    ⟨(some 49), .plain (.extract 2), [.tmp 44], none⟩,
    ⟨(some 7), .plain (.alloc [(.str ⟨#[]⟩), (.str ⟨#[]⟩), .nilS, .nilS, .nilS]), [], none⟩,
    ⟨none, .plain (.store 5), [.tmp 7, .tmp 47], none⟩,
    ⟨(some 8), .plain .mv, [.tmp 48], none⟩,
    ⟨(some 4), .plain .mv, [.tmp 49], none⟩] [45, 46, 44, 47, 48, 49])
  (.seq (.ops [⟨(some 50), .plain .mv, [.tmp 4], none⟩,
    ⟨(some 51), .plain (.bin .eql), [.tmp 50, .lit (.int .i64 0)], none⟩,
    ⟨(some 52), .plain .mv, [.tmp 51], none⟩,
    ⟨(some 53), .plain .mv, [.tmp 8], (some (52, true))⟩,
    ⟨(some 54), .plain (.bin .eql), [.tmp 53, .lit (.int .i64 0)], (some (52, true))⟩,
    ⟨(some 55), .plain .pick, [.tmp 52, .tmp 54, .lit (.bool false)], none⟩,
    ⟨(some 56), .plain .mv, [.tmp 55], none⟩,
    ⟨(some 57), .plain (.load true 5), [.tmp 7], (some (56, true))⟩,
    ⟨(some 58), .plain (.load true 5), [.tmp 1], (some (56, true))⟩,
    ⟨(some 59), .call 9, [.tmp 57, .tmp 58], (some (56, true))⟩,
    ⟨(some 60), .plain .pick, [.tmp 56, .tmp 59, .lit (.bool false)], none⟩,
    ⟨(some 2), .plain .mv, [.tmp 60], none⟩] [50, 51, 52, 53, 54, 55, 56, 57, 58, 59, 60])
  .ret)))))))))
def cr5 : List Res := [(2, none)]
theorem ok5 : FOk Zk.pg.toProgram Zk.imp 5 c5 cr5 Tryz.f5.ntmps := ⟨Tryz.f5, _, Tryz.func5, rfl, by kernel_rfl, by kernel_rfl, by kernel_rfl, rfl⟩
end Go.Pm

/- ZkS7: code, resolved. Written by gen.py out of what ShowSC.lean printed. -/
namespace Go.Pm
open Go Go.Proofs

/-- slices.Concat[[]ironbark/api.Deck,ironbark/api.Deck] -/
def c88 : SC :=
  (.seq (.ops [⟨(some 2), .plain .mv, [.lit .nilS], none⟩] [])
  (.seq (.ops [⟨(some 3), .plain .mv, [.lit (.int .i64 0)], none⟩] [])
  (.seq (.seq (.ops [⟨(some 9), .plain .mv, [.tmp 0], none⟩,
    ⟨(some 10), .plain (.len 1), [.tmp 9], none⟩,
    ⟨(some 11), .plain .mv, [.lit (.int .i64 0)], none⟩] [])
  (.block 0
   (.loop
    (.seq (.ops [⟨(some 12), .plain (.bin .lss), [.tmp 11, .tmp 10], none⟩] [])
    (.seq (.cond (.tmp 12)
     .skip
     (.exit 0))
    (.seq (.block 1
     (.seq (.ops [⟨(some 13), .plain (.indexAddr 1), [.tmp 9, .tmp 11], none⟩,
       ⟨(some 14), .plain (.load false 1), [.tmp 13], none⟩,
       ⟨(some 5), .plain .mv, [.tmp 14], none⟩] [13, 14])
     (.seq (.ops [⟨(some 15), .plain .mv, [.tmp 3], none⟩,
       ⟨(some 16), .plain .mv, [.tmp 5], none⟩,
       ⟨(some 17), .plain (.len 1), [.tmp 16], none⟩,
       ⟨(some 18), .plain (.bin .add), [.tmp 15, .tmp 17], none⟩,
       ⟨(some 3), .plain .mv, [.tmp 18], none⟩] [15, 16, 17, 18])
     (.seq (.ops [⟨(some 19), .plain .mv, [.tmp 3], none⟩,
       ⟨(some 20), .plain (.bin .lss), [.tmp 19, .lit (.int .i64 0)], none⟩] [19])
     (.cond (.tmp 20)
      (.ops [⟨(some 21), .plain (.mkIface 9), [.lit (.str ⟨#[108, 101, 110, 32, 111, 117, 116, 32, 111, 102, 32, 114, 97, 110, 103, 101]⟩)], none⟩,
        ⟨none, .panic, [.tmp 21], none⟩] [21])
      .skip)))))
    (.ops [⟨(some 22), .plain (.bin .add), [.tmp 11, .lit (.int .i64 1)], none⟩,
      ⟨(some 11), .plain .mv, [.tmp 22], none⟩] [22])))))))
  (.seq (.ops [⟨(some 23), .plain .mv, [.tmp 3], none⟩,
    ⟨(some 24), .call 124, [.lit .nilS, .tmp 23], none⟩,
    ⟨(some 6), .plain .mv, [.tmp 24], none⟩] [23, 24])
  (.seq (.seq (.ops [⟨(some 25), .plain .mv, [.tmp 0], none⟩,
    ⟨(some 26), .plain (.len 1), [.tmp 25], none⟩,
    ⟨(some 27), .plain .mv, [.lit (.int .i64 0)], none⟩] [])
  (.block 2
   (.loop
    (.seq (.ops [⟨(some 28), .plain (.bin .lss), [.tmp 27, .tmp 26], none⟩] [])
    (.seq (.cond (.tmp 28)
     .skip
     (.exit 2))
    (.seq (.block 3
     (.seq (.ops [⟨(some 29), .plain (.indexAddr 1), [.tmp 25, .tmp 27], none⟩,
       ⟨(some 30), .plain (.load false 1), [.tmp 29], none⟩,
       ⟨(some 8), .plain .mv, [.tmp 30], none⟩] [29, 30])
     (.ops [⟨(some 31), .plain .mv, [.tmp 6], none⟩,
       ⟨(some 32), .plain .mv, [.tmp 8], none⟩,
       ⟨(some 33), .plain (.append 27 5 104), [.tmp 31, .tmp 32], none⟩,
       ⟨(some 6), .plain .mv, [.tmp 33], none⟩] [31, 32, 33])))
    (.ops [⟨(some 34), .plain (.bin .add), [.tmp 27, .lit (.int .i64 1)], none⟩,
      ⟨(some 27), .plain .mv, [.tmp 34], none⟩] [34])))))))
  (.seq (.ops [⟨(some 35), .plain .mv, [.tmp 6], none⟩,
    ⟨(some 2), .plain .mv, [.tmp 35], none⟩] [35])
  .ret))))))
def cr88 : List Res := [(2, none)]
theorem ok88 : FOk Zk.pg.toProgram Zk.imp 88 c88 cr88 Tryz.f88.ntmps := ⟨Tryz.f88, _, Tryz.func88, rfl, by kernel_rfl, by kernel_rfl, by kernel_rfl, rfl⟩

/-- slices.Grow[[]ironbark/api.Deck,ironbark/api.Deck] -/
def c124 : SC :=
  (.seq (.ops [⟨(some 4), .plain .mv, [.lit .nilS], none⟩] [])
  (.seq (.seq (.ops [⟨(some 5), .plain .mv, [.tmp 1], none⟩,
    ⟨(some 6), .plain (.bin .lss), [.tmp 5, .lit (.int .i64 0)], none⟩] [5])
  (.cond (.tmp 6)
   (.ops [⟨(some 7), .plain (.mkIface 9), [.lit (.str ⟨#[99, 97, 110, 110, 111, 116, 32, 98, 101, 32, 110, 101, 103, 97, 116, 105, 118, 101]⟩)], none⟩,
     ⟨none, .panic, [.tmp 7], none⟩] [7])
   .skip))
  (.seq (.seq (.ops [⟨(some 8), .plain .mv, [.tmp 1], none⟩,
    ⟨(some 9), .plain .mv, [.tmp 0], none⟩,
    ⟨(some 10), .plain (.len 2), [.tmp 9], none⟩,
    ⟨(some 11), .plain .mv, [.tmp 0], none⟩,
    ⟨(some 12), .plain (.len 1), [.tmp 11], none⟩,
    ⟨(some 13), .plain (.bin .sub), [.tmp 10, .tmp 12], none⟩,
    ⟨(some 14), .plain (.bin .sub), [.tmp 8, .tmp 13], none⟩,
    ⟨(some 1), .plain .mv, [.tmp 14], none⟩] [8, 9, 10, 11, 12, 13, 14])
  (.seq (.ops [⟨(some 15), .plain .mv, [.tmp 1], none⟩,
    ⟨(some 16), .plain (.bin .gtr), [.tmp 15, .lit (.int .i64 0)], none⟩] [15])
  (.cond (.tmp 16)
   (.ops [⟨(some 17), .plain .mv, [.tmp 0], none⟩,
     ⟨(some 18), .plain .mv, [.tmp 0], none⟩,
     ⟨(some 19), .plain (.len 2), [.tmp 18], none⟩,
     ⟨(some 20), .plain (.slice false true 5), [.tmp 17, .tmp 19], none⟩,
     ⟨(some 21), .plain .mv, [.tmp 1], none⟩,
     ⟨(some 22), .plain (.growNil 27 [(.str ⟨#[]⟩), (.str ⟨#[]⟩), .nilS, .nilS, .nilS] 104), [.tmp 20, .tmp 21], none⟩,
     ⟨(some 23), .plain .mv, [.tmp 0], none⟩,
     ⟨(some 24), .plain (.len 1), [.tmp 23], none⟩,
     ⟨(some 25), .plain (.slice false true 5), [.tmp 22, .tmp 24], none⟩,
     ⟨(some 0), .plain .mv, [.tmp 25], none⟩] [17, 18, 19, 20, 21, 22, 23, 24, 25])
   .skip)))
  (.seq (.ops [⟨(some 26), .plain .mv, [.tmp 0], none⟩,
    ⟨(some 4), .plain .mv, [.tmp 26], none⟩] [26])
  .ret))))
def cr124 : List Res := [(4, none)]
theorem ok124 : FOk Zk.pg.toProgram Zk.imp 124 c124 cr124 Tryz.f124.ntmps := ⟨Tryz.f124, _, Tryz.func124, rfl, by kernel_rfl, by kernel_rfl, by kernel_rfl, rfl⟩

/-- ironbark/link.all -/
def c33 : SC :=
  (.seq (.ops [⟨(some 4), .plain .mv, [.lit (.bool false)], none⟩] [])
  (.seq (.seq (.ops [⟨(some 7), .plain .mv, [.tmp 0], none⟩,
    ⟨(some 8), .plain (.buildRow 35 1 1 [.nilS] [0]), [.tmp 7], none⟩,
    ⟨(some 9), .plain .mv, [.tmp 1], none⟩,
    ⟨(some 10), .plain (.append 35 1 24), [.tmp 8, .tmp 9], none⟩,
    ⟨(some 11), .call 88, [.tmp 10], none⟩,
    ⟨(some 12), .plain (.len 1), [.tmp 11], none⟩,
    ⟨(some 13), .plain .mv, [.lit (.int .i64 0)], none⟩] [7, 8, 9, 10])
  (.block 0
   (.loop
    (.seq (.ops [⟨(some 14), .plain (.bin .lss), [.tmp 13, .tmp 12], none⟩] [])
    (.seq (.cond (.tmp 14)
     .skip
     (.exit 0))
    (.seq (.block 1
     (.seq (.ops [⟨(some 15), .plain (.indexAddr 5), [.tmp 11, .tmp 13], none⟩,
       ⟨(some 16), .plain (.load true 5), [.tmp 15], none⟩,
       ⟨(some 6), .plain (.alloc [(.str ⟨#[]⟩), (.str ⟨#[]⟩), .nilS, .nilS, .nilS]), [], none⟩,
       ⟨none, .plain (.store 5), [.tmp 6, .tmp 16], none⟩] [15, 16])
     (.seq (.ops [⟨(some 17), .plain (.load true 5), [.tmp 6], none⟩,
       ⟨(some 18), .call 27, [.tmp 17], none⟩,
       ⟨(some 19), .plain (.un .not), [.tmp 18], none⟩] [17, 18])
     (.cond (.tmp 19)
      (.seq (.ops [⟨(some 4), .plain .mv, [.lit (.bool false)], none⟩] [])
      .ret)
      .skip))))
    (.ops [⟨(some 20), .plain (.bin .add), [.tmp 13, .lit (.int .i64 1)], none⟩,
      ⟨(some 13), .plain .mv, [.tmp 20], none⟩] [20])))))))
  (.seq (.ops [⟨(some 4), .plain .mv, [.lit (.bool true)], none⟩] [])
  .ret)))
def cr33 : List Res := [(4, none)]
theorem ok33 : FOk Zk.pg.toProgram Zk.imp 33 c33 cr33 Tryz.f33.ntmps := ⟨Tryz.f33, _, Tryz.func33, rfl, by kernel_rfl, by kernel_rfl, by kernel_rfl, rfl⟩

/-- ironbark/link.begin -/
def c70 : SC :=
  (.seq (.ops [⟨(some 4), .plain .mv, [.lit (.const (.pointer none))], none⟩] [])
  (.seq (.ops [⟨(some 8), .plain .mv, [.tmp 0], none⟩,
    ⟨(some 9), .plain (.build [(.int .i64 0), (.str ⟨#[]⟩), .nilS, .nilS, .nilS] [(0, 1)]), [.tmp 8], none⟩,
    ⟨(some 10), .plain .mkMap, [], none⟩,
    ⟨(some 11), .plain .mkMap, [], none⟩,
    ⟨(some 12), .plain .mv, [.tmp 0], none⟩,
    ⟨(some 13), .plain (.build [(.int .i64 0), (.str ⟨#[]⟩), .nilS, .nilS, .nilS, .nilS, (.const (.map none)), (.const (.map none)), (.int .i64 0)] [(0, 5), (6, 1), (7, 1), (8, 1)]), [.tmp 9, .tmp 10, .tmp 11, .tmp 12], none⟩,
    ⟨(some 14), .plain (.box 9), [.tmp 13], none⟩,
    ⟨(some 5), .plain .mv, [.tmp 14], none⟩] [8, 9, 10, 11, 12, 13, 14])
  (.seq (.seq (.ops [⟨(some 15), .plain .mv, [.tmp 1], none⟩,
    ⟨(some 16), .plain (.len 1), [.tmp 15], none⟩,
    ⟨(some 17), .plain .mv, [.lit (.int .i64 0)], none⟩] [])
  (.block 0
   (.loop
    (.seq (.ops [⟨(some 18), .plain (.bin .lss), [.tmp 17, .tmp 16], none⟩] [])
    (.seq (.cond (.tmp 18)
     .skip
     (.exit 0))
    (.seq (.block 1
     (.seq (.ops [⟨(some 19), .plain (.indexAddr 2), [.tmp 15, .tmp 17], none⟩,
       ⟨(some 20), .plain (.load true 2), [.tmp 19], none⟩,
       ⟨(some 7), .plain (.alloc [(.str ⟨#[]⟩), (.int .i64 0)]), [], none⟩,
       ⟨none, .plain (.store 2), [.tmp 7, .tmp 20], none⟩] [19, 20])
     (.draw (.step ⟨(some 21), .plain .mv, [.tmp 5], none⟩
       (.step ⟨(some 22), .plain .nilCheck, [.tmp 21], none⟩
       (.step ⟨(some 23), .plain (.fieldAddr 6), [.tmp 22], none⟩
       (.step ⟨(some 24), .plain (.load false 1), [.tmp 23], none⟩
       (.step ⟨(some 25), .plain (.fieldAddr 0), [.tmp 7], none⟩
       (.step ⟨(some 26), .plain (.load false 1), [.tmp 25], none⟩
       (.step ⟨(some 27), .plain (.fieldAddr 1), [.tmp 7], none⟩
       (.step ⟨(some 28), .plain (.load false 1), [.tmp 27], none⟩
       (.step ⟨none, .plain (.mapUpdate .str), [.tmp 24, .tmp 26, .tmp 28], none⟩
       .done))))))))) [21, 22, 23, 24, 25, 26, 27, 28])))
    (.ops [⟨(some 29), .plain (.bin .add), [.tmp 17, .lit (.int .i64 1)], none⟩,
      ⟨(some 17), .plain .mv, [.tmp 29], none⟩] [29])))))))
  (.seq (.ops [⟨(some 30), .plain .mv, [.tmp 5], none⟩,
    ⟨(some 4), .plain .mv, [.tmp 30], none⟩] [30])
  .ret))))
def cr70 : List Res := [(4, none)]
theorem ok70 : FOk Zk.pg.toProgram Zk.imp 70 c70 cr70 Tryz.f70.ntmps := ⟨Tryz.f70, _, Tryz.func70, rfl, by kernel_rfl, by kernel_rfl, by kernel_rfl, rfl⟩

/-- (*ironbark/link.linking).put -/
def c71 : SC :=
  (.seq (.ops [⟨(some 4), .plain (.box 5), [.tmp 1], none⟩] [])
  (.seq (.seq (.draw (.step ⟨(some 16), .plain .mv, [.tmp 0], none⟩
    (.step ⟨(some 17), .plain .nilCheck, [.tmp 16], none⟩
    (.step ⟨(some 18), .plain (.fieldAddr 6), [.tmp 17], none⟩
    (.step ⟨(some 19), .plain (.load false 1), [.tmp 18], none⟩
    (.step ⟨(some 20), .plain (.fieldAddr 0), [.tmp 4], none⟩
    (.step ⟨(some 21), .plain (.load false 1), [.tmp 20], none⟩
    (.step ⟨(some 22), .plain (.lookup .str (.int .i64 0) true), [.tmp 19, .tmp 21], none⟩
    (.step ⟨(some 15), .plain .mv, [.tmp 22], none⟩
    (.step ⟨(some 23), .plain (.extract 0), [.tmp 15], none⟩
    (.step ⟨(some 24), .plain (.extract 1), [.tmp 15], none⟩
    (.step ⟨(some 6), .plain .mv, [.tmp 23], none⟩
    (.step ⟨(some 7), .plain .mv, [.tmp 24], none⟩
    .done)))))))))))) [16, 17, 18, 19, 20, 21, 22, 15, 23, 24, 6])
  (.seq (.draw (.step ⟨(some 25), .plain .mv, [.tmp 2], none⟩
    (.step ⟨(some 26), .plain .mv, [.tmp 25], none⟩
    (.step ⟨(some 27), .plain .mv, [.tmp 7], (some (26, true))⟩
    (.step ⟨(some 28), .plain .mv, [.tmp 27], (some (26, true))⟩
    (.step ⟨(some 29), .plain .mv, [.tmp 0], (some (28, false))⟩
    (.step ⟨(some 30), .plain .nilCheck, [.tmp 29], (some (28, false))⟩
    (.step ⟨(some 31), .plain (.fieldAddr 7), [.tmp 30], (some (28, false))⟩
    (.step ⟨(some 32), .plain (.load false 1), [.tmp 31], (some (28, false))⟩
    (.step ⟨(some 33), .plain (.fieldAddr 0), [.tmp 4], (some (28, false))⟩
    (.step ⟨(some 34), .plain (.load false 1), [.tmp 33], (some (28, false))⟩
    (.step ⟨(some 35), .plain (.lookup .str (.bool false) false), [.tmp 32, .tmp 34], (some (28, false))⟩
    (.step ⟨(some 36), .plain .pick, [.tmp 28, .lit (.bool true), .tmp 35], (some (26, true))⟩
    (.step ⟨(some 37), .plain .pick, [.tmp 26, .tmp 36, .lit (.bool false)], none⟩
    .done))))))))))))) [25, 26, 27, 28, 29, 30, 31, 32, 33, 34, 35, 36])
  (.cond (.tmp 37)
   (.ops [⟨(some 38), .plain (.fieldAddr 0), [.tmp 4], none⟩,
     ⟨(some 39), .plain (.load false 1), [.tmp 38], none⟩,
     ⟨(some 40), .plain (.build [(.int .i64 0), (.str ⟨#[]⟩)] [(0, 1), (1, 1)]), [.lit (.int .i64 6), .tmp 39], none⟩,
     ⟨(some 41), .plain (.mkIface 138), [.tmp 40], none⟩,
     ⟨none, .panic, [.tmp 41], none⟩] [38, 39, 40, 41])
   .skip)))
  (.seq (.ops [⟨(some 42), .plain .mv, [.tmp 0], none⟩,
    ⟨(some 43), .plain .nilCheck, [.tmp 42], none⟩,
    ⟨(some 44), .plain (.fieldAddr 8), [.tmp 43], none⟩,
    ⟨(some 45), .plain (.load false 1), [.tmp 44], none⟩,
    ⟨(some 46), .call 93, [.tmp 45], none⟩,
    ⟨(some 8), .plain .mv, [.tmp 46], none⟩] [42, 43, 44, 45, 46])
  (.seq (.draw (.step ⟨(some 47), .plain .mv, [.tmp 0], none⟩
    (.step ⟨(some 48), .plain .nilCheck, [.tmp 47], none⟩
    (.step ⟨(some 49), .plain (.fieldAddr 7), [.tmp 48], none⟩
    (.step ⟨(some 50), .plain (.load false 1), [.tmp 49], none⟩
    (.step ⟨(some 51), .plain (.fieldAddr 0), [.tmp 4], none⟩
    (.step ⟨(some 52), .plain (.load false 1), [.tmp 51], none⟩
    (.step ⟨none, .plain (.mapUpdate .str), [.tmp 50, .tmp 52, .lit (.bool true)], none⟩
    .done))))))) [47, 48, 49, 50, 51, 52])
  (.seq (.draw (.step ⟨(some 53), .plain .mv, [.tmp 0], none⟩
    (.step ⟨(some 54), .plain .mv, [.tmp 0], none⟩
    (.step ⟨(some 55), .plain .nilCheck, [.tmp 54], none⟩
    (.step ⟨(some 56), .plain (.fieldAddr 5), [.tmp 55], none⟩
    (.step ⟨(some 57), .plain (.load false 1), [.tmp 56], none⟩
    (.step ⟨(some 58), .plain (.load true 5), [.tmp 4], none⟩
    (.step ⟨(some 59), .plain (.buildRow 27 5 1 [(.str ⟨#[]⟩), (.str ⟨#[]⟩), .nilS, .nilS, .nilS] [0]), [.tmp 58], none⟩
    (.step ⟨(some 60), .plain (.append 27 5 104), [.tmp 57, .tmp 59], none⟩
    (.step ⟨(some 61), .plain .nilCheck, [.tmp 53], none⟩
    (.step ⟨(some 62), .plain (.fieldAddr 5), [.tmp 61], none⟩
    (.step ⟨none, .plain (.store 1), [.tmp 62, .tmp 60], none⟩
    .done))))))))))) [53, 54, 55, 56, 57, 58, 59, 60, 61, 62])
  (.seq (.draw (.step ⟨(some 63), .plain .mv, [.tmp 0], none⟩
    (.step ⟨(some 64), .plain .mv, [.tmp 0], none⟩
    (.step ⟨(some 65), .plain .nilCheck, [.tmp 64], none⟩
    (.step ⟨(some 66), .plain (.fieldAddr 0), [.tmp 65], none⟩
    (.step ⟨(some 67), .plain (.fieldAddr 4), [.tmp 66], none⟩
    (.step ⟨(some 68), .plain (.load false 1), [.tmp 67], none⟩
    (.step ⟨(some 69), .plain (.fieldAddr 0), [.tmp 4], none⟩
    (.step ⟨(some 70), .plain (.load false 1), [.tmp 69], none⟩
    (.step ⟨(some 71), .plain .mv, [.tmp 8], none⟩
    (.step ⟨(some 72), .plain (.build [(.str ⟨#[]⟩), (.int .i64 0)] [(0, 1), (1, 1)]), [.tmp 70, .tmp 71], none⟩
    (.step ⟨(some 73), .plain (.buildRow 65 2 1 [(.str ⟨#[]⟩), (.int .i64 0)] [0]), [.tmp 72], none⟩
    (.step ⟨(some 74), .plain (.append 65 2 24), [.tmp 68, .tmp 73], none⟩
    (.step ⟨(some 75), .plain .nilCheck, [.tmp 63], none⟩
    (.step ⟨(some 76), .plain (.fieldAddr 0), [.tmp 75], none⟩
    (.step ⟨(some 77), .plain (.fieldAddr 4), [.tmp 76], none⟩
    (.step ⟨none, .plain (.store 1), [.tmp 77, .tmp 74], none⟩
    .done)))))))))))))))) [63, 64, 65, 66, 67, 68, 69, 70, 71, 72, 73, 74, 75, 76, 77])
  (.seq (.seq (.ops [⟨(some 78), .plain (.load true 5), [.tmp 4], none⟩,
    ⟨(some 79), .call 112, [.tmp 78], none⟩,
    ⟨(some 80), .plain (.len 1), [.tmp 79], none⟩,
    ⟨(some 81), .plain .mv, [.lit (.int .i64 0)], none⟩] [78])
  (.block 0
   (.loop
    (.seq (.ops [⟨(some 82), .plain (.bin .lss), [.tmp 81, .tmp 80], none⟩] [])
    (.seq (.cond (.tmp 82)
     .skip
     (.exit 0))
    (.seq (.block 1
     (.seq (.ops [⟨(some 83), .plain (.indexAddr 2), [.tmp 79, .tmp 81], none⟩,
       ⟨(some 84), .plain (.load true 2), [.tmp 83], none⟩,
       ⟨(some 10), .plain (.alloc [(.str ⟨#[]⟩), (.int .i64 0)]), [], none⟩,
       ⟨none, .plain (.store 2), [.tmp 10, .tmp 84], none⟩] [83, 84])
     (.seq (.seq (.draw (.step ⟨(some 86), .plain .mv, [.tmp 0], none⟩
       (.step ⟨(some 87), .plain .nilCheck, [.tmp 86], none⟩
       (.step ⟨(some 88), .plain (.fieldAddr 6), [.tmp 87], none⟩
       (.step ⟨(some 89), .plain (.load false 1), [.tmp 88], none⟩
       (.step ⟨(some 90), .plain (.fieldAddr 0), [.tmp 10], none⟩
       (.step ⟨(some 91), .plain (.load false 1), [.tmp 90], none⟩
       (.step ⟨(some 92), .plain (.lookup .str (.int .i64 0) true), [.tmp 89, .tmp 91], none⟩
       (.step ⟨(some 85), .plain .mv, [.tmp 92], none⟩
       (.step ⟨(some 93), .plain (.extract 0), [.tmp 85], none⟩
       (.step ⟨(some 94), .plain (.extract 1), [.tmp 85], none⟩
       (.step ⟨(some 11), .plain .mv, [.tmp 93], none⟩
       (.step ⟨(some 12), .plain .mv, [.tmp 94], none⟩
       .done)))))))))))) [86, 87, 88, 89, 90, 91, 92, 85, 93, 94, 11])
     (.seq (.ops [⟨(some 95), .plain .mv, [.tmp 12], none⟩] [])
     (.cond (.tmp 95)
      (.seq (.seq (.ops [⟨(some 96), .plain .mv, [.tmp 2], none⟩] [])
      (.cond (.tmp 96)
       (.ops [⟨(some 97), .plain (.fieldAddr 0), [.tmp 10], none⟩,
         ⟨(some 98), .plain (.load false 1), [.tmp 97], none⟩,
         ⟨(some 99), .plain (.build [(.int .i64 0), (.str ⟨#[]⟩)] [(0, 1), (1, 1)]), [.lit (.int .i64 6), .tmp 98], none⟩,
         ⟨(some 100), .plain (.mkIface 138), [.tmp 99], none⟩,
         ⟨none, .panic, [.tmp 100], none⟩] [97, 98, 99, 100])
       .skip))
      (.exit 1))
      .skip)))
     (.seq (.draw (.step ⟨(some 101), .plain .mv, [.tmp 0], none⟩
       (.step ⟨(some 102), .plain .nilCheck, [.tmp 101], none⟩
       (.step ⟨(some 103), .plain (.fieldAddr 6), [.tmp 102], none⟩
       (.step ⟨(some 104), .plain (.load false 1), [.tmp 103], none⟩
       (.step ⟨(some 105), .plain (.fieldAddr 0), [.tmp 10], none⟩
       (.step ⟨(some 106), .plain (.load false 1), [.tmp 105], none⟩
       (.step ⟨(some 107), .plain .mv, [.tmp 8], none⟩
       (.step ⟨(some 108), .plain (.fieldAddr 1), [.tmp 10], none⟩
       (.step ⟨(some 109), .plain (.load false 1), [.tmp 108], none⟩
       (.step ⟨(some 110), .plain (.bin .add), [.tmp 107, .tmp 109], none⟩
       (.step ⟨none, .plain (.mapUpdate .str), [.tmp 104, .tmp 106, .tmp 110], none⟩
       .done))))))))))) [101, 102, 103, 104, 105, 106, 107, 108, 109, 110])
     (.draw (.step ⟨(some 111), .plain .mv, [.tmp 0], none⟩
       (.step ⟨(some 112), .plain .mv, [.tmp 0], none⟩
       (.step ⟨(some 113), .plain .nilCheck, [.tmp 112], none⟩
       (.step ⟨(some 114), .plain (.fieldAddr 0), [.tmp 113], none⟩
       (.step ⟨(some 115), .plain (.fieldAddr 2), [.tmp 114], none⟩
       (.step ⟨(some 116), .plain (.load false 1), [.tmp 115], none⟩
       (.step ⟨(some 117), .plain (.fieldAddr 0), [.tmp 10], none⟩
       (.step ⟨(some 118), .plain (.load false 1), [.tmp 117], none⟩
       (.step ⟨(some 119), .plain .mv, [.tmp 8], none⟩
       (.step ⟨(some 120), .plain (.fieldAddr 1), [.tmp 10], none⟩
       (.step ⟨(some 121), .plain (.load false 1), [.tmp 120], none⟩
       (.step ⟨(some 122), .plain (.bin .add), [.tmp 119, .tmp 121], none⟩
       (.step ⟨(some 123), .plain (.build [(.str ⟨#[]⟩), (.int .i64 0)] [(0, 1), (1, 1)]), [.tmp 118, .tmp 122], none⟩
       (.step ⟨(some 124), .plain (.buildRow 65 2 1 [(.str ⟨#[]⟩), (.int .i64 0)] [0]), [.tmp 123], none⟩
       (.step ⟨(some 125), .plain (.append 65 2 24), [.tmp 116, .tmp 124], none⟩
       (.step ⟨(some 126), .plain .nilCheck, [.tmp 111], none⟩
       (.step ⟨(some 127), .plain (.fieldAddr 0), [.tmp 126], none⟩
       (.step ⟨(some 128), .plain (.fieldAddr 2), [.tmp 127], none⟩
       (.step ⟨none, .plain (.store 1), [.tmp 128, .tmp 125], none⟩
       .done))))))))))))))))))) [111, 112, 113, 114, 115, 116, 117, 118, 119, 120, 121, 122, 123, 124, 125, 126, 127, 128])))))
    (.ops [⟨(some 129), .plain (.bin .add), [.tmp 81, .lit (.int .i64 1)], none⟩,
      ⟨(some 81), .plain .mv, [.tmp 129], none⟩] [129])))))))
  (.seq (.seq (.ops [⟨(some 130), .plain (.fieldAddr 4), [.tmp 4], none⟩,
    ⟨(some 131), .plain (.load false 1), [.tmp 130], none⟩,
    ⟨(some 132), .plain (.len 1), [.tmp 131], none⟩,
    ⟨(some 133), .plain .mv, [.lit (.int .i64 0)], none⟩] [130])
  (.block 2
   (.loop
    (.seq (.ops [⟨(some 134), .plain (.bin .lss), [.tmp 133, .tmp 132], none⟩] [])
    (.seq (.cond (.tmp 134)
     .skip
     (.exit 2))
    (.seq (.block 3
     (.seq (.ops [⟨(some 135), .plain (.indexAddr 2), [.tmp 131, .tmp 133], none⟩,
       ⟨(some 136), .plain (.load true 2), [.tmp 135], none⟩,
       ⟨(some 14), .plain (.alloc [(.int .i64 0), (.int .i64 0)]), [], none⟩,
       ⟨none, .plain (.store 2), [.tmp 14, .tmp 136], none⟩] [135, 136])
     (.draw (.step ⟨(some 137), .plain .mv, [.tmp 0], none⟩
       (.step ⟨(some 138), .plain .mv, [.tmp 0], none⟩
       (.step ⟨(some 139), .plain .nilCheck, [.tmp 138], none⟩
       (.step ⟨(some 140), .plain (.fieldAddr 0), [.tmp 139], none⟩
       (.step ⟨(some 141), .plain (.fieldAddr 3), [.tmp 140], none⟩
       (.step ⟨(some 142), .plain (.load false 1), [.tmp 141], none⟩
       (.step ⟨(some 143), .plain .mv, [.tmp 8], none⟩
       (.step ⟨(some 144), .plain (.fieldAddr 0), [.tmp 14], none⟩
       (.step ⟨(some 145), .plain (.load false 1), [.tmp 144], none⟩
       (.step ⟨(some 146), .plain (.bin .add), [.tmp 143, .tmp 145], none⟩
       (.step ⟨(some 147), .plain (.fieldAddr 1), [.tmp 14], none⟩
       (.step ⟨(some 148), .plain (.load false 1), [.tmp 147], none⟩
       (.step ⟨(some 149), .plain (.build [(.int .i64 0), (.int .i64 0)] [(0, 1), (1, 1)]), [.tmp 146, .tmp 148], none⟩
       (.step ⟨(some 150), .plain (.buildRow 79 2 1 [(.int .i64 0), (.int .i64 0)] [0]), [.tmp 149], none⟩
       (.step ⟨(some 151), .plain (.append 79 2 16), [.tmp 142, .tmp 150], none⟩
       (.step ⟨(some 152), .plain .nilCheck, [.tmp 137], none⟩
       (.step ⟨(some 153), .plain (.fieldAddr 0), [.tmp 152], none⟩
       (.step ⟨(some 154), .plain (.fieldAddr 3), [.tmp 153], none⟩
       (.step ⟨none, .plain (.store 1), [.tmp 154, .tmp 151], none⟩
       .done))))))))))))))))))) [137, 138, 139, 140, 141, 142, 143, 144, 145, 146, 147, 148, 149, 150, 151, 152, 153, 154])))
    (.ops [⟨(some 155), .plain (.bin .add), [.tmp 133, .lit (.int .i64 1)], none⟩,
      ⟨(some 133), .plain .mv, [.tmp 155], none⟩] [155])))))))
  (.ops [⟨(some 156), .plain .mv, [.tmp 0], none⟩,
    ⟨(some 157), .plain .mv, [.tmp 8], none⟩,
    ⟨(some 158), .plain (.fieldAddr 1), [.tmp 4], none⟩,
    ⟨(some 159), .plain (.load false 1), [.tmp 158], none⟩,
    ⟨(some 160), .plain (.len 0), [.tmp 159], none⟩,
    ⟨(some 161), .plain (.bin .add), [.tmp 157, .tmp 160], none⟩,
    ⟨(some 162), .plain .nilCheck, [.tmp 156], none⟩,
    ⟨(some 163), .plain (.fieldAddr 8), [.tmp 162], none⟩,
    ⟨none, .plain (.store 1), [.tmp 163, .tmp 161], none⟩] [156, 157, 158, 159, 160, 161, 162, 163])))))))))
def cr71 : List Res := []
theorem ok71 : FOk Zk.pg.toProgram Zk.imp 71 c71 cr71 Tryz.f71.ntmps := ⟨Tryz.f71, _, Tryz.func71, rfl, by kernel_rfl, by kernel_rfl, by kernel_rfl, rfl⟩

/-- (*ironbark/link.linking).lacking -/
def c113 : SC :=
  (.seq (.ops [⟨(some 2), .plain .mv, [.lit .nilS], none⟩] [])
  (.seq (.ops [⟨(some 3), .plain .mv, [.lit .nilS], none⟩] [])
  (.seq (.seq (.ops [⟨(some 10), .plain .mv, [.tmp 0], none⟩,
    ⟨(some 11), .plain .nilCheck, [.tmp 10], none⟩,
    ⟨(some 12), .plain (.fieldAddr 5), [.tmp 11], none⟩,
    ⟨(some 13), .plain (.load false 1), [.tmp 12], none⟩,
    ⟨(some 14), .plain (.len 1), [.tmp 13], none⟩,
    ⟨(some 15), .plain .mv, [.lit (.int .i64 0)], none⟩] [10, 11, 12])
  (.block 0
   (.loop
    (.seq (.ops [⟨(some 16), .plain (.bin .lss), [.tmp 15, .tmp 14], none⟩] [])
    (.seq (.cond (.tmp 16)
     .skip
     (.exit 0))
    (.seq (.block 1
     (.seq (.ops [⟨(some 17), .plain (.indexAddr 5), [.tmp 13, .tmp 15], none⟩,
       ⟨(some 18), .plain (.load true 5), [.tmp 17], none⟩,
       ⟨(some 5), .plain (.alloc [(.str ⟨#[]⟩), (.str ⟨#[]⟩), .nilS, .nilS, .nilS]), [], none⟩,
       ⟨none, .plain (.store 5), [.tmp 5, .tmp 18], none⟩] [17, 18])
     (.seq (.ops [⟨(some 19), .plain (.fieldAddr 3), [.tmp 5], none⟩,
       ⟨(some 20), .plain (.load false 1), [.tmp 19], none⟩,
       ⟨(some 21), .plain (.len 1), [.tmp 20], none⟩,
       ⟨(some 22), .plain .mv, [.lit (.int .i64 0)], none⟩] [19])
     (.block 2
      (.loop
       (.seq (.ops [⟨(some 23), .plain (.bin .lss), [.tmp 22, .tmp 21], none⟩] [])
       (.seq (.cond (.tmp 23)
        .skip
        (.exit 2))
       (.seq (.block 3
        (.seq (.ops [⟨(some 24), .plain (.indexAddr 3), [.tmp 20, .tmp 22], none⟩,
          ⟨(some 25), .plain (.load true 3), [.tmp 24], none⟩,
          ⟨(some 7), .plain (.alloc [(.int .i64 0), (.str ⟨#[]⟩), (.int .i64 0)]), [], none⟩,
          ⟨none, .plain (.store 3), [.tmp 7, .tmp 25], none⟩] [24, 25])
        (.seq (.draw (.step ⟨(some 27), .plain .mv, [.tmp 0], none⟩
          (.step ⟨(some 28), .plain .nilCheck, [.tmp 27], none⟩
          (.step ⟨(some 29), .plain (.fieldAddr 6), [.tmp 28], none⟩
          (.step ⟨(some 30), .plain (.load false 1), [.tmp 29], none⟩
          (.step ⟨(some 31), .plain (.fieldAddr 1), [.tmp 7], none⟩
          (.step ⟨(some 32), .plain (.load false 1), [.tmp 31], none⟩
          (.step ⟨(some 33), .plain (.lookup .str (.int .i64 0) true), [.tmp 30, .tmp 32], none⟩
          (.step ⟨(some 26), .plain .mv, [.tmp 33], none⟩
          (.step ⟨(some 34), .plain (.extract 0), [.tmp 26], none⟩
          (.step ⟨(some 35), .plain (.extract 1), [.tmp 26], none⟩
          (.step ⟨(some 8), .plain .mv, [.tmp 34], none⟩
          (.step ⟨(some 9), .plain .mv, [.tmp 35], none⟩
          .done)))))))))))) [27, 28, 29, 30, 31, 32, 33, 26, 34, 35, 8])
        (.seq (.ops [⟨(some 36), .plain .mv, [.tmp 9], none⟩,
          ⟨(some 37), .plain (.un .not), [.tmp 36], none⟩,
          ⟨(some 38), .plain .mv, [.tmp 37], none⟩,
          ⟨(some 39), .plain .mv, [.tmp 3], (some (38, true))⟩,
          ⟨(some 40), .plain (.fieldAddr 1), [.tmp 7], (some (38, true))⟩,
          ⟨(some 41), .plain (.load false 1), [.tmp 40], (some (38, true))⟩,
          ⟨(some 42), .call 144, [.tmp 39, .tmp 41], (some (38, true))⟩,
          ⟨(some 43), .plain (.un .not), [.tmp 42], (some (38, true))⟩,
          ⟨(some 44), .plain .pick, [.tmp 38, .tmp 43, .lit (.bool false)], none⟩] [36, 37, 38, 39, 40, 41, 42, 43])
        (.cond (.tmp 44)
         (.ops [⟨(some 45), .plain .mv, [.tmp 3], none⟩,
           ⟨(some 46), .plain (.fieldAddr 1), [.tmp 7], none⟩,
           ⟨(some 47), .plain (.load false 1), [.tmp 46], none⟩,
           ⟨(some 48), .plain (.buildRow 9 1 1 [(.str ⟨#[]⟩)] [0]), [.tmp 47], none⟩,
           ⟨(some 49), .plain (.append 9 1 16), [.tmp 45, .tmp 48], none⟩,
           ⟨(some 3), .plain .mv, [.tmp 49], none⟩] [45, 46, 47, 48, 49])
         .skip)))))
       (.ops [⟨(some 50), .plain (.bin .add), [.tmp 22, .lit (.int .i64 1)], none⟩,
         ⟨(some 22), .plain .mv, [.tmp 50], none⟩] [50])))))))))
    (.ops [⟨(some 51), .plain (.bin .add), [.tmp 15, .lit (.int .i64 1)], none⟩,
      ⟨(some 15), .plain .mv, [.tmp 51], none⟩] [51])))))))
  (.seq (.ops [⟨(some 52), .plain .mv, [.tmp 3], none⟩,
    ⟨(some 2), .plain .mv, [.tmp 52], none⟩] [52])
  .ret))))
def cr113 : List Res := [(2, none)]
theorem ok113 : FOk Zk.pg.toProgram Zk.imp 113 c113 cr113 Tryz.f113.ntmps := ⟨Tryz.f113, _, Tryz.func113, rfl, by kernel_rfl, by kernel_rfl, by kernel_rfl, rfl⟩

/-- (*ironbark/link.linking).found -/
def c114 : SC :=
  (.seq (.ops [⟨(some 4), .plain (.box 1), [.tmp 1], none⟩,
    ⟨(some 6), .plain (.alloc [(.str ⟨#[]⟩), (.str ⟨#[]⟩), .nilS, .nilS, .nilS]), [], none⟩,
    ⟨(some 7), .plain .mv, [.lit (.bool false)], none⟩] [])
  (.seq (.seq (.ops [⟨(some 12), .plain .mv, [.tmp 2], none⟩,
    ⟨(some 13), .plain (.len 1), [.tmp 12], none⟩,
    ⟨(some 14), .plain .mv, [.lit (.int .i64 0)], none⟩] [])
  (.block 0
   (.loop
    (.seq (.ops [⟨(some 15), .plain (.bin .lss), [.tmp 14, .tmp 13], none⟩] [])
    (.seq (.cond (.tmp 15)
     .skip
     (.exit 0))
    (.seq (.block 1
     (.seq (.ops [⟨(some 16), .plain (.indexAddr 1), [.tmp 12, .tmp 14], none⟩,
       ⟨(some 17), .plain (.load false 1), [.tmp 16], none⟩,
       ⟨(some 9), .plain .mv, [.tmp 17], none⟩] [16, 17])
     (.seq (.ops [⟨(some 18), .plain .mv, [.tmp 9], none⟩,
       ⟨(some 19), .plain (.len 1), [.tmp 18], none⟩,
       ⟨(some 20), .plain .mv, [.lit (.int .i64 0)], none⟩] [])
     (.block 2
      (.loop
       (.seq (.ops [⟨(some 21), .plain (.bin .lss), [.tmp 20, .tmp 19], none⟩] [])
       (.seq (.cond (.tmp 21)
        .skip
        (.exit 2))
       (.seq (.block 3
        (.seq (.ops [⟨(some 22), .plain (.indexAddr 5), [.tmp 18, .tmp 20], none⟩,
          ⟨(some 23), .plain (.load true 5), [.tmp 22], none⟩,
          ⟨(some 11), .plain (.alloc [(.str ⟨#[]⟩), (.str ⟨#[]⟩), .nilS, .nilS, .nilS]), [], none⟩,
          ⟨none, .plain (.store 5), [.tmp 11, .tmp 23], none⟩] [22, 23])
        (.seq (.draw (.step ⟨(some 24), .plain .mv, [.tmp 0], none⟩
          (.step ⟨(some 25), .plain .nilCheck, [.tmp 24], none⟩
          (.step ⟨(some 26), .plain (.fieldAddr 7), [.tmp 25], none⟩
          (.step ⟨(some 27), .plain (.load false 1), [.tmp 26], none⟩
          (.step ⟨(some 28), .plain (.fieldAddr 0), [.tmp 11], none⟩
          (.step ⟨(some 29), .plain (.load false 1), [.tmp 28], none⟩
          (.step ⟨(some 30), .plain (.lookup .str (.bool false) false), [.tmp 27, .tmp 29], none⟩
          (.step ⟨(some 31), .plain (.un .not), [.tmp 30], none⟩
          (.step ⟨(some 32), .plain .mv, [.tmp 31], none⟩
          (.step ⟨(some 33), .plain (.load true 5), [.tmp 11], (some (32, true))⟩
          (.step ⟨(some 34), .call 112, [.tmp 33], (some (32, true))⟩
          (.step ⟨(some 35), .plain (.mkFn 145), [.tmp 4], (some (32, true))⟩
          (.step ⟨(some 36), .call 142, [.tmp 34, .tmp 35], (some (32, true))⟩
          (.step ⟨(some 37), .plain .pick, [.tmp 32, .tmp 36, .lit (.bool false)], none⟩
          .done)))))))))))))) [24, 25, 26, 27, 28, 29, 30, 31, 32, 33, 34, 35, 36])
        (.cond (.tmp 37)
         (.seq (.ops [⟨(some 38), .plain (.load true 5), [.tmp 11], none⟩,
           ⟨none, .plain (.store 5), [.tmp 6, .tmp 38], none⟩,
           ⟨(some 7), .plain .mv, [.lit (.bool true)], none⟩] [38])
         .ret)
         .skip))))
       (.ops [⟨(some 39), .plain (.bin .add), [.tmp 20, .lit (.int .i64 1)], none⟩,
         ⟨(some 20), .plain .mv, [.tmp 39], none⟩] [39])))))))))
    (.ops [⟨(some 40), .plain (.bin .add), [.tmp 14, .lit (.int .i64 1)], none⟩,
      ⟨(some 14), .plain .mv, [.tmp 40], none⟩] [40])))))))
  (.seq (.ops [⟨(some 41), .plain (.build [(.str ⟨#[]⟩), (.str ⟨#[]⟩), .nilS, .nilS, .nilS] []), [], none⟩,
    ⟨none, .plain (.store 5), [.tmp 6, .tmp 41], none⟩,
    ⟨(some 7), .plain .mv, [.lit (.bool false)], none⟩] [41])
  .ret)))
def cr114 : List Res := [(6, some (true, 5)), (7, none)]
theorem ok114 : FOk Zk.pg.toProgram Zk.imp 114 c114 cr114 Tryz.f114.ntmps := ⟨Tryz.f114, _, Tryz.func114, rfl, by kernel_rfl, by kernel_rfl, by kernel_rfl, rfl⟩

/-- (*ironbark/link.linking).done$1 -/
def c116 : SC :=
  (.seq (.ops [⟨(some 2), .plain (.box 2), [.tmp 0], none⟩,
    ⟨(some 3), .plain (.box 2), [.tmp 1], none⟩,
    ⟨(some 4), .plain .mv, [.lit (.int .i64 0)], none⟩] [])
  (.seq (.ops [⟨(some 5), .plain (.fieldAddr 0), [.tmp 2], none⟩,
    ⟨(some 6), .plain (.load false 1), [.tmp 5], none⟩,
    ⟨(some 7), .plain (.fieldAddr 0), [.tmp 3], none⟩,
    ⟨(some 8), .plain (.load false 1), [.tmp 7], none⟩,
    ⟨(some 9), .call 117, [.tmp 6, .tmp 8], none⟩,
    ⟨(some 4), .plain .mv, [.tmp 9], none⟩] [5, 6, 7, 8, 9])
  .ret))
def cr116 : List Res := [(4, none)]
theorem ok116 : FOk Zk.pg.toProgram Zk.imp 116 c116 cr116 Tryz.f116.ntmps := ⟨Tryz.f116, _, Tryz.func116, rfl, by kernel_rfl, by kernel_rfl, by kernel_rfl, rfl⟩

end Go.Pm
