/- LkA: the program of the linker. -/
import Derived.Test.YtolfkdphlgkekaaProg
import Derived.KernelRfl
import Derived.Test.YtolfkdphlgkekaaPmQ
namespace Go.Pm
/-- Functions that write into what they are handed. -/
def Lk.imp : List Go.FuncId := [27, 28, 29, 55, 56, 43]
end Go.Pm

/- LkS1: code, resolved. Written by gen.py out of what ShowSC.lean printed. -/
namespace Go.Pm
open Go Go.Proofs

/-- ironbark/ironbarkref34.Name -/
def c61 : SC :=
  (.seq (.ops [⟨(some 2), .plain .mv, [.lit (.bool false)], none⟩] [])
  (.seq (.seq (.ops [⟨(some 3), .plain .mv, [.lit (.int .i64 0)], none⟩] [])
  (.block 0
   (.loop
    (.seq (.seq (.ops [⟨(some 4), .plain .mv, [.tmp 3], none⟩,
      ⟨(some 5), .plain .mv, [.tmp 0], none⟩,
      ⟨(some 6), .plain (.len 0), [.tmp 5], none⟩,
      ⟨(some 7), .plain (.bin .lss), [.tmp 4, .tmp 6], none⟩] [4, 5, 6])
    (.cond (.tmp 7)
     .skip
     (.exit 0)))
    (.seq (.block 1
     (.seq (.ops [⟨(some 10), .plain .mv, [.tmp 0], none⟩,
       ⟨(some 11), .plain .mv, [.tmp 3], none⟩,
       ⟨(some 12), .plain .index, [.tmp 10, .tmp 11], none⟩,
       ⟨(some 13), .plain (.bin .lss), [.tmp 12, .lit (.int .u8 33)], none⟩,
       ⟨(some 14), .plain .mv, [.tmp 13], none⟩,
       ⟨(some 15), .plain .mv, [.tmp 0], (some (14, false))⟩,
       ⟨(some 16), .plain .mv, [.tmp 3], (some (14, false))⟩,
       ⟨(some 17), .plain .index, [.tmp 15, .tmp 16], (some (14, false))⟩,
       ⟨(some 18), .plain (.bin .gtr), [.tmp 17, .lit (.int .u8 126)], (some (14, false))⟩,
       ⟨(some 19), .plain .pick, [.tmp 14, .lit (.bool true), .tmp 18], none⟩] [10, 11, 12, 13, 14, 15, 16, 17, 18])
     (.cond (.tmp 19)
      (.seq (.ops [⟨(some 2), .plain .mv, [.lit (.bool false)], none⟩] [])
      .ret)
      .skip)))
    (.ops [⟨(some 8), .plain .mv, [.tmp 3], none⟩,
      ⟨(some 9), .plain (.bin .add), [.tmp 8, .lit (.int .i64 1)], none⟩,
      ⟨(some 3), .plain .mv, [.tmp 9], none⟩] [8, 9]))))))
  (.seq (.ops [⟨(some 20), .plain .mv, [.tmp 0], none⟩,
    ⟨(some 21), .plain (.len 0), [.tmp 20], none⟩,
    ⟨(some 22), .plain (.bin .geq), [.tmp 21, .lit (.int .i64 1)], none⟩,
    ⟨(some 23), .plain .mv, [.tmp 22], none⟩,
    ⟨(some 24), .plain .mv, [.tmp 0], (some (23, true))⟩,
    ⟨(some 25), .plain (.len 0), [.tmp 24], (some (23, true))⟩,
    ⟨(some 26), .plain (.bin .leq), [.tmp 25, .lit (.int .i64 31)], (some (23, true))⟩,
    ⟨(some 27), .plain .pick, [.tmp 23, .tmp 26, .lit (.bool false)], none⟩,
    ⟨(some 2), .plain .mv, [.tmp 27], none⟩] [20, 21, 22, 23, 24, 25, 26, 27])
  .ret)))
def cr61 : List Res := [(2, none)]
theorem ok61 : FOk Try.prog Lk.imp 61 c61 cr61 Try.f61.ntmps := ⟨Try.f61, _, Try.func61, rfl, by kernel_rfl, by kernel_rfl, by kernel_rfl, rfl⟩

/-- ironbark/ironbarkref34.within -/
def c62 : SC :=
  (.seq (.ops [⟨(some 6), .plain .mv, [.lit (.bool false)], none⟩] [])
  (.seq (.ops [⟨(some 7), .plain .mv, [.tmp 0], none⟩,
    ⟨(some 8), .plain .mv, [.tmp 1], none⟩,
    ⟨(some 9), .plain (.bin .geq), [.tmp 7, .tmp 8], none⟩,
    ⟨(some 10), .plain .mv, [.tmp 9], none⟩,
    ⟨(some 11), .plain .mv, [.tmp 0], (some (10, true))⟩,
    ⟨(some 12), .plain .mv, [.tmp 2], (some (10, true))⟩,
    ⟨(some 13), .plain (.bin .leq), [.tmp 11, .tmp 12], (some (10, true))⟩,
    ⟨(some 14), .plain .pick, [.tmp 10, .tmp 13, .lit (.bool false)], none⟩,
    ⟨(some 6), .plain .mv, [.tmp 14], none⟩] [7, 8, 9, 10, 11, 12, 13, 14])
  .ret))
def cr62 : List Res := [(6, none)]
theorem ok62 : FOk Try.prog Lk.imp 62 c62 cr62 Try.f62.ntmps := ⟨Try.f62, _, Try.func62, rfl, by kernel_rfl, by kernel_rfl, by kernel_rfl, rfl⟩

/-- ironbark/link.up -/
def c53 : SC :=
  (.seq (.ops [⟨(some 2), .plain .mv, [.lit (.int .i64 0)], none⟩] [])
  (.seq (.ops [⟨(some 3), .plain .mv, [.tmp 0], none⟩,
    ⟨(some 4), .plain (.bin .add), [.tmp 3, .lit (.int .i64 8)], none⟩,
    ⟨(some 5), .plain (.bin .sub), [.tmp 4, .lit (.int .i64 1)], none⟩,
    ⟨(some 6), .plain (.bin .quo), [.tmp 5, .lit (.int .i64 8)], none⟩,
    ⟨(some 7), .plain (.bin .mul), [.tmp 6, .lit (.int .i64 8)], none⟩,
    ⟨(some 2), .plain .mv, [.tmp 7], none⟩] [3, 4, 5, 6, 7])
  .ret))
def cr53 : List Res := [(2, none)]
theorem ok53 : FOk Try.prog Lk.imp 53 c53 cr53 Try.f53.ntmps := ⟨Try.f53, _, Try.func53, rfl, by kernel_rfl, by kernel_rfl, by kernel_rfl, rfl⟩

/-- ironbark/ironbarkref34.baseOK -/
def c35 : SC :=
  (.seq (.ops [⟨(some 2), .plain .mv, [.lit (.bool false)], none⟩] [])
  (.seq (.ops [⟨(some 3), .plain .mv, [.tmp 0], none⟩,
    ⟨(some 4), .call 62, [.tmp 3, .lit (.int .i64 0), .lit (.int .i64 65528)], none⟩,
    ⟨(some 5), .plain .mv, [.tmp 4], none⟩,
    ⟨(some 6), .plain .mv, [.tmp 0], (some (5, true))⟩,
    ⟨(some 7), .plain (.bin .rem), [.tmp 6, .lit (.int .i64 8)], (some (5, true))⟩,
    ⟨(some 8), .plain (.bin .eql), [.tmp 7, .lit (.int .i64 0)], (some (5, true))⟩,
    ⟨(some 9), .plain .pick, [.tmp 5, .tmp 8, .lit (.bool false)], none⟩,
    ⟨(some 2), .plain .mv, [.tmp 9], none⟩] [3, 4, 5, 6, 7, 8, 9])
  .ret))
def cr35 : List Res := [(2, none)]
theorem ok35 : FOk Try.prog Lk.imp 35 c35 cr35 Try.f35.ntmps := ⟨Try.f35, _, Try.func35, rfl, by kernel_rfl, by kernel_rfl, by kernel_rfl, rfl⟩

/-- ironbark/link.based -/
def c24 : SC :=
  (.seq (.ops [⟨(some 2), .plain .mv, [.lit (.bool false)], none⟩] [])
  (.seq (.ops [⟨(some 3), .plain .mv, [.tmp 0], none⟩,
    ⟨(some 4), .plain (.bin .geq), [.tmp 3, .lit (.int .i64 0)], none⟩,
    ⟨(some 5), .plain .mv, [.tmp 4], none⟩,
    ⟨(some 6), .plain .mv, [.tmp 0], (some (5, true))⟩,
    ⟨(some 7), .plain (.bin .lss), [.tmp 6, .lit (.int .i64 65536)], (some (5, true))⟩,
    ⟨(some 8), .plain .pick, [.tmp 5, .tmp 7, .lit (.bool false)], none⟩,
    ⟨(some 9), .plain .mv, [.tmp 8], none⟩,
    ⟨(some 10), .plain .mv, [.tmp 0], (some (9, true))⟩,
    ⟨(some 11), .plain (.bin .rem), [.tmp 10, .lit (.int .i64 8)], (some (9, true))⟩,
    ⟨(some 12), .plain (.bin .eql), [.tmp 11, .lit (.int .i64 0)], (some (9, true))⟩,
    ⟨(some 13), .plain .pick, [.tmp 9, .tmp 12, .lit (.bool false)], none⟩,
    ⟨(some 2), .plain .mv, [.tmp 13], none⟩] [3, 4, 5, 6, 7, 8, 9, 10, 11, 12, 13])
  .ret))
def cr24 : List Res := [(2, none)]
theorem ok24 : FOk Try.prog Lk.imp 24 c24 cr24 Try.f24.ntmps := ⟨Try.f24, _, Try.func24, rfl, by kernel_rfl, by kernel_rfl, by kernel_rfl, rfl⟩

/-- ironbark/link.named -/
def c71 : SC :=
  (.seq (.ops [⟨(some 2), .plain .mv, [.lit (.bool false)], none⟩] [])
  (.seq (.seq (.ops [⟨(some 4), .plain .mv, [.tmp 0], none⟩,
    ⟨(some 5), .plain (.len 0), [.tmp 4], none⟩,
    ⟨(some 6), .plain .mv, [.lit (.int .i64 0)], none⟩] [4])
  (.block 0
   (.loop
    (.seq (.ops [⟨(some 7), .plain (.bin .lss), [.tmp 6, .tmp 5], none⟩] [])
    (.seq (.cond (.tmp 7)
     .skip
     (.exit 0))
    (.seq (.block 1
     (.seq (.ops [⟨(some 8), .plain .mv, [.tmp 6], none⟩,
       ⟨(some 3), .plain .mv, [.tmp 8], none⟩] [8])
     (.seq (.ops [⟨(some 9), .plain .mv, [.tmp 0], none⟩,
       ⟨(some 10), .plain .mv, [.tmp 3], none⟩,
       ⟨(some 11), .plain .index, [.tmp 9, .tmp 10], none⟩,
       ⟨(some 12), .plain (.bin .lss), [.tmp 11, .lit (.int .u8 33)], none⟩,
       ⟨(some 13), .plain .mv, [.tmp 12], none⟩,
       ⟨(some 14), .plain .mv, [.tmp 0], (some (13, false))⟩,
       ⟨(some 15), .plain .mv, [.tmp 3], (some (13, false))⟩,
       ⟨(some 16), .plain .index, [.tmp 14, .tmp 15], (some (13, false))⟩,
       ⟨(some 17), .plain (.bin .gtr), [.tmp 16, .lit (.int .u8 126)], (some (13, false))⟩,
       ⟨(some 18), .plain .pick, [.tmp 13, .lit (.bool true), .tmp 17], none⟩] [9, 10, 11, 12, 13, 14, 15, 16, 17])
     (.cond (.tmp 18)
      (.seq (.ops [⟨(some 2), .plain .mv, [.lit (.bool false)], none⟩] [])
      .ret)
      .skip))))
    (.ops [⟨(some 19), .plain (.bin .add), [.tmp 6, .lit (.int .i64 1)], none⟩,
      ⟨(some 6), .plain .mv, [.tmp 19], none⟩] [19])))))))
  (.seq (.ops [⟨(some 20), .plain .mv, [.tmp 0], none⟩,
    ⟨(some 21), .plain (.bin .neq), [.tmp 20, .lit (.str ⟨#[]⟩)], none⟩,
    ⟨(some 22), .plain .mv, [.tmp 21], none⟩,
    ⟨(some 23), .plain .mv, [.tmp 0], (some (22, true))⟩,
    ⟨(some 24), .plain (.len 0), [.tmp 23], (some (22, true))⟩,
    ⟨(some 25), .plain (.bin .leq), [.tmp 24, .lit (.int .i64 31)], (some (22, true))⟩,
    ⟨(some 26), .plain .pick, [.tmp 22, .tmp 25, .lit (.bool false)], none⟩,
    ⟨(some 2), .plain .mv, [.tmp 26], none⟩] [20, 21, 22, 23, 24, 25, 26])
  .ret)))
def cr71 : List Res := [(2, none)]
theorem ok71 : FOk Try.prog Lk.imp 71 c71 cr71 Try.f71.ntmps := ⟨Try.f71, _, Try.func71, rfl, by kernel_rfl, by kernel_rfl, by kernel_rfl, rfl⟩

/-- ironbark/ironbarklaw34.number -/
def c16 : SC :=
  (.seq (.ops [⟨(some 2), .plain .mv, [.lit (.int .i64 0)], none⟩] [])
  (.seq (.draw (.step ⟨(some 3), .plain .mv, [.tmp 0], none⟩
    (.step ⟨(some 4), .plain .index, [.tmp 3, .lit (.int .i64 0)], none⟩
    (.step ⟨(some 5), .plain (.convInt .i64), [.tmp 4], none⟩
    (.step ⟨(some 6), .plain (.bin .shl), [.tmp 5, .lit (.int .u64 24)], none⟩
    (.step ⟨(some 7), .plain .mv, [.tmp 0], none⟩
    (.step ⟨(some 8), .plain .index, [.tmp 7, .lit (.int .i64 1)], none⟩
    (.step ⟨(some 9), .plain (.convInt .i64), [.tmp 8], none⟩
    (.step ⟨(some 10), .plain (.bin .shl), [.tmp 9, .lit (.int .u64 16)], none⟩
    (.step ⟨(some 11), .plain (.bin .or), [.tmp 6, .tmp 10], none⟩
    (.step ⟨(some 12), .plain .mv, [.tmp 0], none⟩
    (.step ⟨(some 13), .plain .index, [.tmp 12, .lit (.int .i64 2)], none⟩
    (.step ⟨(some 14), .plain (.convInt .i64), [.tmp 13], none⟩
    (.step ⟨(some 15), .plain (.bin .shl), [.tmp 14, .lit (.int .u64 8)], none⟩
    (.step ⟨(some 16), .plain (.bin .or), [.tmp 11, .tmp 15], none⟩
    (.step ⟨(some 17), .plain .mv, [.tmp 0], none⟩
    (.step ⟨(some 18), .plain .index, [.tmp 17, .lit (.int .i64 3)], none⟩
    (.step ⟨(some 19), .plain (.convInt .i64), [.tmp 18], none⟩
    (.step ⟨(some 20), .plain (.bin .or), [.tmp 16, .tmp 19], none⟩
    (.step ⟨(some 2), .plain .mv, [.tmp 20], none⟩
    .done))))))))))))))))))) [3, 4, 5, 6, 7, 8, 9, 10, 11, 12, 13, 14, 15, 16, 17, 18, 19, 20])
  .ret))
def cr16 : List Res := [(2, none)]
theorem ok16 : FOk Try.prog Lk.imp 16 c16 cr16 Try.f16.ntmps := ⟨Try.f16, _, Try.func16, rfl, by kernel_rfl, by kernel_rfl, by kernel_rfl, rfl⟩

/-- ironbark/ironbarkref34.four -/
def c69 : SC :=
  (.seq (.ops [⟨(some 2), .plain .mv, [.lit (.str ⟨#[]⟩)], none⟩] [])
  (.seq (.ops [⟨(some 3), .plain .mv, [.tmp 0], none⟩,
    ⟨(some 4), .plain (.bin .shr), [.tmp 3, .lit (.int .u64 24)], none⟩,
    ⟨(some 5), .plain (.convInt .u8), [.tmp 4], none⟩,
    ⟨(some 6), .plain .mv, [.tmp 0], none⟩,
    ⟨(some 7), .plain (.bin .shr), [.tmp 6, .lit (.int .u64 16)], none⟩,
    ⟨(some 8), .plain (.convInt .u8), [.tmp 7], none⟩,
    ⟨(some 9), .plain .mv, [.tmp 0], none⟩,
    ⟨(some 10), .plain (.bin .shr), [.tmp 9, .lit (.int .u64 8)], none⟩,
    ⟨(some 11), .plain (.convInt .u8), [.tmp 10], none⟩,
    ⟨(some 12), .plain .mv, [.tmp 0], none⟩,
    ⟨(some 13), .plain (.convInt .u8), [.tmp 12], none⟩,
    ⟨(some 14), .plain (.buildRow 5 1 4 [(.int .u8 0)] [0, 1, 2, 3]), [.tmp 5, .tmp 8, .tmp 11, .tmp 13], none⟩,
    ⟨(some 15), .plain .bytesToStr, [.tmp 14], none⟩,
    ⟨(some 2), .plain .mv, [.tmp 15], none⟩] [3, 4, 5, 6, 7, 8, 9, 10, 11, 12, 13, 14, 15])
  .ret))
def cr69 : List Res := [(2, none)]
theorem ok69 : FOk Try.prog Lk.imp 69 c69 cr69 Try.f69.ntmps := ⟨Try.f69, _, Try.func69, rfl, by kernel_rfl, by kernel_rfl, by kernel_rfl, rfl⟩

end Go.Pm

/- LkC1: contracts: names. -/
namespace Go.Pm
open Go Go.Proofs

def chOk (b : UInt8) : Bool := !ltI b.toNat 33 && !ltI 126 b.toNat
def nameOk (s : ByteArray) : Bool := s.data.toList.all chOk && leI 1 s.size && leI s.size 31

theorem all_bytes (s : ByteArray) : s.data.toList.all chOk = true ↔ ∀ j, j < s.size → chOk (byteAt s j) = true := by
  rw [List.all_eq_true]
  constructor
  · intro h j hj
    have hj' : j < s.data.toList.length := hj
    apply h
    unfold byteAt
    rw [List.getD_eq_getElem?_getD, List.getElem?_eq_getElem hj', Option.getD_some]
    exact List.getElem_mem hj'
  · intro h b hb
    obtain ⟨j, hj, rfl⟩ := List.mem_iff_getElem.1 hb
    have := h j hj
    unfold byteAt at this
    rwa [List.getD_eq_getElem?_getD, List.getElem?_eq_getElem hj, Option.getD_some] at this

theorem call61 (s : ByteArray) (hs : s.size ≤ 1048576) : PCalls Try.prog 61 [.str s] fun out => out = .ret (.bool (nameOk s)) := by
  refine ok61.pcalls (by simp) ?_
  simp [c61]
  refine wpS_loop (ι := Nat) (fun i => [(0, .str s), (2, .bool false), (3, .int .i64 i)]) (fun _ => Mem.empty) (fun i => s.size - i) (fun i => i ≤ s.size ∧ ∀ j, j < i → chOk (byteAt s j) = true) 0 (by simp) (Env.le_of (by simp)) rfl ?_
  intro i ⟨hi, hall⟩
  have hw : IntKind.i64.wrap (i + 1) = i + 1 := wrap64 (by omega) (by omega)
  have bad : ltI ↑i ↑s.size = true → chOk (byteAt s i) = false → nameOk s = false := fun h1 h2 => by
    cases hn : nameOk s with
    | false => rfl
    | true =>
      simp only [nameOk, Bool.and_eq_true] at hn
      have := (all_bytes s).1 hn.1.1 i (by have := ltI_t.1 h1; omega)
      rw [h2] at this; cases this
  simp
  refine br_cond rfl (fun h => ?_) (fun h => ?_)
  · simp [h, idxS]
    have next : chOk (byteAt s i) = true → ∃ s', (s' ≤ s.size ∧ ∀ (j : Nat), j < s' → chOk (byteAt s j) = true) ∧ s.size - s' < s.size - i ∧ Env.le [(0, AV.str s), (2, AV.bool false), (3, AV.int IntKind.i64 ↑s')] [(0, AV.str s), (2, AV.bool false), (3, AV.int IntKind.i64 (↑i + 1)), (7, AV.bool true), (19, AV.bool false)] ∧ Mem.le { store := [], next := 0 } { store := [], next := 0 } := fun hc => by
      have := ltI_t.1 h
      refine ⟨i + 1, ⟨by omega, fun j hj => ?_⟩, by omega, Env.le_of (by simp), Mem.le_of rfl (by simp)⟩
      rcases Nat.lt_or_ge j i with hj' | hj'
      · exact hall j hj'
      · rw [show j = i by omega]; exact hc
    refine br_guard_f rfl (fun h1 => ?_) (fun h1 => ?_)
    · simp [h1, cr61, bad h (by simp [chOk, h1])]
    · simp [h1, h, idxS]
      refine br_cond rfl (fun h2 => ?_) (fun h2 => ?_)
      · simp [cr61, bad h (by simp [chOk, h2])]
      · simp [h2, hw]
        exact next (by simp [chOk, h1, h2])
  · simp [h]
    have hi' : i = s.size := by have := ltI_f.1 h; omega
    have hA : s.data.toList.all chOk = true := (all_bytes s).2 fun j hj => hall j (by omega)
    refine br_guard_t rfl (fun h1 => ?_) (fun h1 => ?_)
    · simp [h1, cr61, nameOk, hA]
    · simp [h1, cr61, nameOk, hA]
end Go.Pm

/- LkC2: contracts: numbers. -/
namespace Go.Pm
open Go Go.Proofs

def withinF (n a b : Int) : Bool := leI a n && leI n b

theorem call62 (n a b : Int) : PCalls Try.prog 62 [.int .i64 n, .int .i64 a, .int .i64 b] fun out => out = .ret (.bool (withinF n a b)) := by
  refine ok62.pcalls (by simp) ?_
  simp [c62]
  refine br_guard_t rfl (fun h1 => ?_) (fun h1 => ?_)
  · simp [h1, cr62, withinF]
  · simp [h1, cr62, withinF]

theorem call53 (n : Int) (h0 : 0 ≤ n) (h1 : n ≤ 1000000000000) : PCalls Try.prog 53 [.int .i64 n] fun out => out = .ret (.int .i64 ((n + 7) / 8 * 8)) := by
  refine ok53.pcalls (by simp) ?_
  have hd : (n + 7).tdiv 8 = (n + 7) / 8 := Int.tdiv_eq_ediv_of_nonneg (by omega)
  simp [c53, cr53]
  rw [wrap64 (n := n + 8) (by omega) (by omega), wrap64 (n := n + 8 - 1) (by omega) (by omega), show n + 8 - 1 = n + 7 by omega, hd, wrap64 (n := (n + 7) / 8) (by omega) (by omega), wrap64 (by omega) (by omega)]

def baseF (n : Int) : Bool := withinF n 0 65528 && eqI (n.tmod 8) 0

theorem call35 (n : Int) : PCalls Try.prog 35 [.int .i64 n] fun out => out = .ret (.bool (baseF n)) := by
  refine ok35.pcalls (by simp) ?_
  simp [c35]
  refine xcall_p (call62 n 0 65528) rfl ?_
  simp
  refine br_guard_t rfl (fun h1 => ?_) (fun h1 => ?_)
  · simp [h1, cr35, baseF]
  · simp [h1, cr35, baseF]

theorem call24 (n : Int) : PCalls Try.prog 24 [.int .i64 n] fun out => out = .ret (.bool (baseF n)) := by
  have e : baseF n = (leI 0 n && ltI n 65536 && eqI (n.tmod 8) 0) := by
    simp only [baseF, withinF]
    cases h : leI 0 n with
    | false => rfl
    | true =>
      cases h8 : eqI (n.tmod 8) 0 with
      | false => simp
      | true =>
        have h0 := leI_t.1 h
        have h8' := eqI_t.1 h8
        rw [Int.tmod_eq_emod_of_nonneg h0] at h8'
        have : leI n 65528 = ltI n 65536 := by
          simp only [leI, ltI, decide_eq_decide]; omega
        rw [this]
  refine ok24.pcalls (by simp) ?_
  simp [c24]
  refine br_guard_t rfl (fun h1 => ?_) (fun h1 => ?_)
  · simp [h1]
    refine br_guard_t rfl (fun h2 => ?_) (fun h2 => ?_)
    · simp [h1, h2, cr24, e]
    · simp [h1, h2, cr24, e]
  · simp [h1, cr24, e]

theorem eqS_t {a b : ByteArray} : eqS a b = true ↔ a = b := by
  unfold eqS
  rw [← beq_toListBytes, beq_bytes]

theorem size_zero {s : ByteArray} : s.size = 0 ↔ s = ⟨#[]⟩ := by
  obtain ⟨⟨l⟩⟩ := s
  simp [ByteArray.size]

theorem call71 (s : ByteArray) (hs : s.size ≤ 1048576) : PCalls Try.prog 71 [.str s] fun out => out = .ret (.bool (nameOk s)) := by
  refine ok71.pcalls (by simp) ?_
  simp [c71]
  refine wpS_loop (ι := Nat) (fun i => [(0, .str s), (2, .bool false), (5, .int .i64 s.size), (6, .int .i64 i)]) (fun _ => Mem.empty) (fun i => s.size - i) (fun i => i ≤ s.size ∧ ∀ j, j < i → chOk (byteAt s j) = true) 0 (by simp) (Env.le_of (by simp)) rfl ?_
  intro i ⟨hi, hall⟩
  have hw : IntKind.i64.wrap (i + 1) = i + 1 := wrap64 (by omega) (by omega)
  have bad : ltI ↑i ↑s.size = true → chOk (byteAt s i) = false → nameOk s = false := fun h1 h2 => by
    cases hn : nameOk s with
    | false => rfl
    | true =>
      simp only [nameOk, Bool.and_eq_true] at hn
      have := (all_bytes s).1 hn.1.1 i (by have := ltI_t.1 h1; omega)
      rw [h2] at this; cases this
  simp
  refine br_cond rfl (fun h => ?_) (fun h => ?_)
  · simp [h, idxS]
    have next : ∀ a b c : AV, chOk (byteAt s i) = true → ∃ s', (s' ≤ s.size ∧ ∀ (j : Nat), j < s' → chOk (byteAt s j) = true) ∧ s.size - s' < s.size - i ∧ Env.le [(0, AV.str s), (2, AV.bool false), (5, .int .i64 s.size), (6, AV.int IntKind.i64 ↑s')]
        [(0, AV.str s), (2, AV.bool false), (3, a), (5, .int .i64 s.size), (6, AV.int IntKind.i64 (↑i + 1)), (7, b), (18, c)] ∧ Mem.le { store := [], next := 0 } { store := [], next := 0 } := fun a b c hc => by
      have := ltI_t.1 h
      refine ⟨i + 1, ⟨by omega, fun j hj => ?_⟩, by omega, Env.le_of (by simp), Mem.le_of rfl (by simp)⟩
      rcases Nat.lt_or_ge j i with hj' | hj'
      · exact hall j hj'
      · rw [show j = i by omega]; exact hc
    refine br_guard_f rfl (fun h1 => ?_) (fun h1 => ?_)
    · simp [h1, cr71, bad h (by simp [chOk, h1])]
    · simp [h1, h, idxS]
      refine br_cond rfl (fun h2 => ?_) (fun h2 => ?_)
      · simp [cr71, bad h (by simp [chOk, h2])]
      · simp [h2, hw]
        exact next _ _ _ (by simp [chOk, h1, h2])
  · simp [h]
    have hi' : i = s.size := by have := ltI_f.1 h; omega
    have hA : s.data.toList.all chOk = true := (all_bytes s).2 fun j hj => hall j (by omega)
    have he : (!eqS s ⟨#[]⟩) = leI 1 s.size := by
      cases hq : eqS s ⟨#[]⟩ with
      | true =>
        have := size_zero.2 (eqS_t.1 hq)
        rw [this]; rfl
      | false =>
        have : s.size ≠ 0 := fun hz => by rw [eqS_t.2 (size_zero.1 hz)] at hq; cases hq
        rw [leI_t.2 (by omega)]; rfl
    refine br_guard_t rfl (fun h1 => ?_) (fun h1 => ?_)
    · have h1' := h1
      rw [he] at h1'
      simp at h1
      simp [h1, h1', cr71, nameOk, hA]
    · have h1' := h1
      rw [he] at h1'
      simp at h1
      simp [h1, h1', cr71, nameOk, hA]

end Go.Pm

/- LkD: objects and images, as values. -/
namespace Go.Pm
open Go Go.Proofs

def ix {α : Type} [Inhabited α] (l : List α) (i : Nat) : α := l.getD i default
theorem idx {α : Type} [Inhabited α] {l : List α} {i : Nat} (h : ltI ↑i ↑l.length = true) : l[i]? = some (ix l i) := by
  have h1 : i < l.length := by have := ltI_t.1 h; omega
  simp [ix, List.getD, h1]
theorem idxM {α β : Type} [Inhabited α] {f : α → β} {l : List α} {i : Nat} (h : ltI ↑i ↑l.length = true) : (l.map f)[i]? = some (f (ix l i)) := by
  rw [List.getElem?_map, idx h]; rfl
theorem ix_mem {α : Type} [Inhabited α] {l : List α} {i : Nat} (h : i < l.length) : ix l i ∈ l := by
  simp [ix, List.getD, h]
theorem ltN {i n : Nat} (h : i < n) : ltI ↑i ↑n = true := ltI_t.2 (by omega)

structure DDef where
  name : ByteArray
  at_ : Int
  deriving DecidableEq
structure DRef where
  at_ : Int
  name : ByteArray
  plus : Int
  deriving DecidableEq
structure DLine where
  at_ : Int
  stmt : Int
  deriving DecidableEq
structure Deck where
  name : ByteArray
  code : ByteArray
  defs : List DDef
  refs : List DRef
  lines : List DLine
  deriving DecidableEq
structure Img where
  base : Int
  code : ByteArray
  defs : List DDef
  lines : List DLine
  names : List DDef
  deriving DecidableEq
instance : Inhabited ByteArray := ⟨⟨#[]⟩⟩
instance : Inhabited DDef := ⟨⟨⟨#[]⟩, 0⟩⟩
instance : Inhabited DRef := ⟨⟨0, ⟨#[]⟩, 0⟩⟩
instance : Inhabited DLine := ⟨⟨0, 0⟩⟩
instance : Inhabited Deck := ⟨⟨⟨#[]⟩, ⟨#[]⟩, [], [], []⟩⟩

def DDef.av (d : DDef) : List AV := [.str d.name, .int .i64 d.at_]
def DRef.av (d : DRef) : List AV := [.int .i64 d.at_, .str d.name, .int .i64 d.plus]
def DLine.av (d : DLine) : List AV := [.int .i64 d.at_, .int .i64 d.stmt]
def Deck.av (o : Deck) : List AV := [.str o.name, .str o.code, .list true 2 (o.defs.map DDef.av), .list true 3 (o.refs.map DRef.av), .list true 2 (o.lines.map DLine.av)]
def Img.av (o : Img) : List AV := [.int .i64 o.base, .str o.code, .list true 2 (o.defs.map DDef.av), .list true 2 (o.lines.map DLine.av), .list true 2 (o.names.map DDef.av)]
def decksAV (l : List Deck) : AV := .list true 5 (l.map Deck.av)

@[simp] theorem perm_defs : ∀ l : List DDef, permLL (l.map DDef.av) = true
  | [] => rfl
  | d :: l => by simp only [List.map_cons, permLL, perm_defs l, DDef.av, permL, AV.perm, Bool.and_self]
@[simp] theorem perm_refs : ∀ l : List DRef, permLL (l.map DRef.av) = true
  | [] => rfl
  | d :: l => by simp only [List.map_cons, permLL, perm_refs l, DRef.av, permL, AV.perm, Bool.and_self]
@[simp] theorem perm_lines : ∀ l : List DLine, permLL (l.map DLine.av) = true
  | [] => rfl
  | d :: l => by simp only [List.map_cons, permLL, perm_lines l, DLine.av, permL, AV.perm, Bool.and_self]
@[simp] theorem perm_decks : ∀ l : List Deck, permLL (l.map Deck.av) = true
  | [] => rfl
  | d :: l => by simp only [List.map_cons, permLL, perm_decks l, Deck.av, permL, AV.perm, perm_defs, perm_refs, perm_lines, Bool.and_self]
@[simp] theorem noref_defs : ∀ l : List DDef, norefLL (l.map DDef.av) = true
  | [] => rfl
  | d :: l => by simp only [List.map_cons, norefLL, noref_defs l, DDef.av, norefL, AV.noref, Bool.and_self]
@[simp] theorem noref_refs : ∀ l : List DRef, norefLL (l.map DRef.av) = true
  | [] => rfl
  | d :: l => by simp only [List.map_cons, norefLL, noref_refs l, DRef.av, norefL, AV.noref, Bool.and_self]
@[simp] theorem noref_lines : ∀ l : List DLine, norefLL (l.map DLine.av) = true
  | [] => rfl
  | d :: l => by simp only [List.map_cons, norefLL, noref_lines l, DLine.av, norefL, AV.noref, Bool.and_self]
@[simp] theorem noref_decks : ∀ l : List Deck, norefLL (l.map Deck.av) = true
  | [] => rfl
  | d :: l => by simp only [List.map_cons, norefLL, noref_decks l, Deck.av, norefL, AV.noref, noref_defs, noref_refs, noref_lines, Bool.and_self]
@[simp] theorem norefL_deck (o : Deck) : norefL o.av = true := by simp only [Deck.av, norefL, AV.noref, noref_defs, noref_refs, noref_lines, Bool.and_self]
@[simp] theorem permL_deck (o : Deck) : permL o.av = true := by simp only [Deck.av, permL, AV.perm, perm_defs, perm_refs, perm_lines, Bool.and_self]

structure Deck.Small (o : Deck) : Prop where
  name : o.name.size ≤ 1048576
  code : o.code.size ≤ 1048576
  defs : o.defs.length ≤ 1048576
  refs : o.refs.length ≤ 1048576
  lines : o.lines.length ≤ 1048576
  dname : ∀ d ∈ o.defs, d.name.size ≤ 1048576
  rname : ∀ d ∈ o.refs, d.name.size ≤ 1048576

theorem all_f {n i : Nat} {p : Nat → Bool} (h : i < n) (hp : p i = false) : (List.range n).all p = false := by
  cases ha : (List.range n).all p with
  | false => rfl
  | true => rw [List.all_eq_true] at ha; rw [ha i (List.mem_range.2 h)] at hp; cases hp
theorem all_t {n : Nat} {p : Nat → Bool} (h : ∀ i, i < n → p i = true) : (List.range n).all p = true := by
  rw [List.all_eq_true]; intro i hi; exact h i (List.mem_range.1 hi)
theorem upto {p : Nat → Prop} {i : Nat} (h : ∀ j, j < i → p j) (hi : p i) : ∀ j, j < i + 1 → p j := fun j hj => by
  rcases Nat.lt_or_ge j i with h1 | h1
  · exact h j h1
  · rw [show j = i by omega]; exact hi

def defOk (n : Int) (ds : List DDef) (i : Nat) : Bool := nameOk (ix ds i).name && withinF (ix ds i).at_ 0 n && eqI ((ix ds i).at_.tmod 2) 0 && (List.range i).all fun k => !eqS (ix ds k).name (ix ds i).name
def refOk (n : Int) (ds : List DRef) (i : Nat) : Bool := nameOk (ix ds i).name && withinF (ix ds i).at_ 0 (n - 4) && eqI ((ix ds i).at_.tmod 4) 0 && withinF (ix ds i).plus (-1000000000) 1000000000 && (List.range i).all fun k => !eqI (ix ds k).at_ (ix ds i).at_
def lineOk (n : Int) (ds : List DLine) (i : Nat) : Bool := withinF (ix ds i).at_ 0 (n - 1) && eqI ((ix ds i).at_.tmod 2) 0 && withinF (ix ds i).stmt 0 1000000000 && !(ltI 0 i && leI (ix ds i).at_ (ix ds (i - 1)).at_)
def deckOk (o : Deck) : Bool := nameOk o.name && !ltI 20000 o.code.size && eqI ((o.code.size : Int).tmod 2) 0 && (List.range o.defs.length).all (defOk o.code.size o.defs) && (List.range o.refs.length).all (refOk o.code.size o.refs) && (List.range o.lines.length).all (lineOk o.code.size o.lines)

end Go.Pm

/- LkS2: code, resolved. Written by gen.py out of what ShowSC.lean printed. -/
namespace Go.Pm
open Go Go.Proofs

/-- ironbark/ironbarkref34.Valid -/
def c63 : SC :=
  (.seq (.ops [⟨(some 1), .plain (.box 5), [.tmp 0], none⟩,
    ⟨(some 2), .plain .mv, [.lit (.bool false)], none⟩] [])
  (.seq (.ops [⟨(some 11), .plain (.fieldAddr 1), [.tmp 1], none⟩,
    ⟨(some 12), .plain (.load false 1), [.tmp 11], none⟩,
    ⟨(some 13), .plain (.len 0), [.tmp 12], none⟩,
    ⟨(some 3), .plain .mv, [.tmp 13], none⟩] [11, 12, 13])
  (.seq (.seq (.ops [⟨(some 14), .plain (.fieldAddr 0), [.tmp 1], none⟩,
    ⟨(some 15), .plain (.load false 1), [.tmp 14], none⟩,
    ⟨(some 16), .call 61, [.tmp 15], none⟩,
    ⟨(some 17), .plain (.un .not), [.tmp 16], none⟩,
    ⟨(some 18), .plain .mv, [.tmp 17], none⟩,
    ⟨(some 19), .plain .mv, [.tmp 3], (some (18, false))⟩,
    ⟨(some 20), .plain (.bin .gtr), [.tmp 19, .lit (.int .i64 20000)], (some (18, false))⟩,
    ⟨(some 21), .plain .pick, [.tmp 18, .lit (.bool true), .tmp 20], none⟩,
    ⟨(some 22), .plain .mv, [.tmp 21], none⟩,
    ⟨(some 23), .plain .mv, [.tmp 3], (some (22, false))⟩,
    ⟨(some 24), .plain (.bin .rem), [.tmp 23, .lit (.int .i64 2)], (some (22, false))⟩,
    ⟨(some 25), .plain (.bin .neq), [.tmp 24, .lit (.int .i64 0)], (some (22, false))⟩,
    ⟨(some 26), .plain .pick, [.tmp 22, .lit (.bool true), .tmp 25], none⟩] [14, 15, 16, 17, 18, 19, 20, 21, 22, 23, 24, 25])
  (.cond (.tmp 26)
   (.seq (.ops [⟨(some 2), .plain .mv, [.lit (.bool false)], none⟩] [])
   .ret)
   .skip))
  (.seq (.seq (.ops [⟨(some 4), .plain .mv, [.lit (.int .i64 0)], none⟩] [])
  (.block 0
   (.loop
    (.seq (.seq (.ops [⟨(some 27), .plain .mv, [.tmp 4], none⟩,
      ⟨(some 28), .plain (.fieldAddr 2), [.tmp 1], none⟩,
      ⟨(some 29), .plain (.load false 1), [.tmp 28], none⟩,
      ⟨(some 30), .plain (.len 1), [.tmp 29], none⟩,
      ⟨(some 31), .plain (.bin .lss), [.tmp 27, .tmp 30], none⟩] [27, 28, 29, 30])
    (.cond (.tmp 31)
     .skip
     (.exit 0)))
    (.seq (.block 1
     (.seq (.seq (.ops [⟨(some 34), .plain (.fieldAddr 2), [.tmp 1], none⟩,
       ⟨(some 35), .plain (.load false 1), [.tmp 34], none⟩,
       ⟨(some 36), .plain .mv, [.tmp 4], none⟩,
       ⟨(some 37), .plain (.indexAddr 2), [.tmp 35, .tmp 36], none⟩,
       ⟨(some 38), .plain (.fieldAddr 0), [.tmp 37], none⟩,
       ⟨(some 39), .plain (.load false 1), [.tmp 38], none⟩,
       ⟨(some 40), .call 61, [.tmp 39], none⟩,
       ⟨(some 41), .plain (.un .not), [.tmp 40], none⟩,
       ⟨(some 42), .plain .mv, [.tmp 41], none⟩,
       ⟨(some 43), .plain (.fieldAddr 2), [.tmp 1], (some (42, false))⟩,
       ⟨(some 44), .plain (.load false 1), [.tmp 43], (some (42, false))⟩,
       ⟨(some 45), .plain .mv, [.tmp 4], (some (42, false))⟩,
       ⟨(some 46), .plain (.indexAddr 2), [.tmp 44, .tmp 45], (some (42, false))⟩,
       ⟨(some 47), .plain (.fieldAddr 1), [.tmp 46], (some (42, false))⟩,
       ⟨(some 48), .plain (.load false 1), [.tmp 47], (some (42, false))⟩,
       ⟨(some 49), .plain .mv, [.tmp 3], (some (42, false))⟩,
       ⟨(some 50), .call 62, [.tmp 48, .lit (.int .i64 0), .tmp 49], (some (42, false))⟩,
       ⟨(some 51), .plain (.un .not), [.tmp 50], (some (42, false))⟩,
       ⟨(some 52), .plain .pick, [.tmp 42, .lit (.bool true), .tmp 51], none⟩,
       ⟨(some 53), .plain .mv, [.tmp 52], none⟩,
       ⟨(some 54), .plain (.fieldAddr 2), [.tmp 1], (some (53, false))⟩,
       ⟨(some 55), .plain (.load false 1), [.tmp 54], (some (53, false))⟩,
       ⟨(some 56), .plain .mv, [.tmp 4], (some (53, false))⟩,
       ⟨(some 57), .plain (.indexAddr 2), [.tmp 55, .tmp 56], (some (53, false))⟩,
       ⟨(some 58), .plain (.fieldAddr 1), [.tmp 57], (some (53, false))⟩,
       ⟨(some 59), .plain (.load false 1), [.tmp 58], (some (53, false))⟩,
       ⟨(some 60), .plain (.bin .rem), [.tmp 59, .lit (.int .i64 2)], (some (53, false))⟩,
       ⟨(some 61), .plain (.bin .neq), [.tmp 60, .lit (.int .i64 0)], (some (53, false))⟩,
       ⟨(some 62), .plain .pick, [.tmp 53, .lit (.bool true), .tmp 61], none⟩] [34, 35, 36, 37, 38, 39, 40, 41, 42, 43, 44, 45, 46, 47, 48, 49, 50, 51, 52, 53, 54, 55, 56, 57, 58, 59, 60, 61])
     (.cond (.tmp 62)
      (.seq (.ops [⟨(some 2), .plain .mv, [.lit (.bool false)], none⟩] [])
      .ret)
      .skip))
     (.seq (.ops [⟨(some 5), .plain .mv, [.lit (.int .i64 0)], none⟩] [])
     (.block 2
      (.loop
       (.seq (.seq (.ops [⟨(some 63), .plain .mv, [.tmp 5], none⟩,
         ⟨(some 64), .plain .mv, [.tmp 4], none⟩,
         ⟨(some 65), .plain (.bin .lss), [.tmp 63, .tmp 64], none⟩] [63, 64])
       (.cond (.tmp 65)
        .skip
        (.exit 2)))
       (.seq (.block 3
        (.seq (.draw (.step ⟨(some 68), .plain (.fieldAddr 2), [.tmp 1], none⟩
          (.step ⟨(some 69), .plain (.load false 1), [.tmp 68], none⟩
          (.step ⟨(some 70), .plain .mv, [.tmp 5], none⟩
          (.step ⟨(some 71), .plain (.indexAddr 2), [.tmp 69, .tmp 70], none⟩
          (.step ⟨(some 72), .plain (.fieldAddr 0), [.tmp 71], none⟩
          (.step ⟨(some 73), .plain (.load false 1), [.tmp 72], none⟩
          (.step ⟨(some 74), .plain (.fieldAddr 2), [.tmp 1], none⟩
          (.step ⟨(some 75), .plain (.load false 1), [.tmp 74], none⟩
          (.step ⟨(some 76), .plain .mv, [.tmp 4], none⟩
          (.step ⟨(some 77), .plain (.indexAddr 2), [.tmp 75, .tmp 76], none⟩
          (.step ⟨(some 78), .plain (.fieldAddr 0), [.tmp 77], none⟩
          (.step ⟨(some 79), .plain (.load false 1), [.tmp 78], none⟩
          (.step ⟨(some 80), .plain (.bin .eql), [.tmp 73, .tmp 79], none⟩
          .done))))))))))))) [68, 69, 70, 71, 72, 73, 74, 75, 76, 77, 78, 79])
        (.cond (.tmp 80)
         (.seq (.ops [⟨(some 2), .plain .mv, [.lit (.bool false)], none⟩] [])
         .ret)
         .skip)))
       (.ops [⟨(some 66), .plain .mv, [.tmp 5], none⟩,
         ⟨(some 67), .plain (.bin .add), [.tmp 66, .lit (.int .i64 1)], none⟩,
         ⟨(some 5), .plain .mv, [.tmp 67], none⟩] [66, 67]))))))))
    (.ops [⟨(some 32), .plain .mv, [.tmp 4], none⟩,
      ⟨(some 33), .plain (.bin .add), [.tmp 32, .lit (.int .i64 1)], none⟩,
      ⟨(some 4), .plain .mv, [.tmp 33], none⟩] [32, 33]))))))
  (.seq (.seq (.ops [⟨(some 6), .plain .mv, [.lit (.int .i64 0)], none⟩] [])
  (.block 4
   (.loop
    (.seq (.seq (.ops [⟨(some 81), .plain .mv, [.tmp 6], none⟩,
      ⟨(some 82), .plain (.fieldAddr 3), [.tmp 1], none⟩,
      ⟨(some 83), .plain (.load false 1), [.tmp 82], none⟩,
      ⟨(some 84), .plain (.len 1), [.tmp 83], none⟩,
      ⟨(some 85), .plain (.bin .lss), [.tmp 81, .tmp 84], none⟩] [81, 82, 83, 84])
    (.cond (.tmp 85)
     .skip
     (.exit 4)))
    (.seq (.block 5
     (.seq (.ops [⟨(some 88), .plain (.fieldAddr 3), [.tmp 1], none⟩,
       ⟨(some 89), .plain (.load false 1), [.tmp 88], none⟩,
       ⟨(some 90), .plain .mv, [.tmp 6], none⟩,
       ⟨(some 91), .plain (.indexAddr 3), [.tmp 89, .tmp 90], none⟩,
       ⟨(some 92), .plain (.load true 3), [.tmp 91], none⟩,
       ⟨(some 7), .plain (.alloc [(.int .i64 0), (.str ⟨#[]⟩), (.int .i64 0)]), [], none⟩,
       ⟨none, .plain (.store 3), [.tmp 7, .tmp 92], none⟩] [88, 89, 90, 91, 92])
     (.seq (.seq (.ops [⟨(some 93), .plain (.fieldAddr 1), [.tmp 7], none⟩,
       ⟨(some 94), .plain (.load false 1), [.tmp 93], none⟩,
       ⟨(some 95), .call 61, [.tmp 94], none⟩,
       ⟨(some 96), .plain (.un .not), [.tmp 95], none⟩,
       ⟨(some 97), .plain .mv, [.tmp 96], none⟩,
       ⟨(some 98), .plain (.fieldAddr 0), [.tmp 7], (some (97, false))⟩,
       ⟨(some 99), .plain (.load false 1), [.tmp 98], (some (97, false))⟩,
       ⟨(some 100), .plain .mv, [.tmp 3], (some (97, false))⟩,
       ⟨(some 101), .plain (.bin .sub), [.tmp 100, .lit (.int .i64 4)], (some (97, false))⟩,
       ⟨(some 102), .call 62, [.tmp 99, .lit (.int .i64 0), .tmp 101], (some (97, false))⟩,
       ⟨(some 103), .plain (.un .not), [.tmp 102], (some (97, false))⟩,
       ⟨(some 104), .plain .pick, [.tmp 97, .lit (.bool true), .tmp 103], none⟩,
       ⟨(some 105), .plain .mv, [.tmp 104], none⟩,
       ⟨(some 106), .plain (.fieldAddr 0), [.tmp 7], (some (105, false))⟩,
       ⟨(some 107), .plain (.load false 1), [.tmp 106], (some (105, false))⟩,
       ⟨(some 108), .plain (.bin .rem), [.tmp 107, .lit (.int .i64 4)], (some (105, false))⟩,
       ⟨(some 109), .plain (.bin .neq), [.tmp 108, .lit (.int .i64 0)], (some (105, false))⟩,
       ⟨(some 110), .plain .pick, [.tmp 105, .lit (.bool true), .tmp 109], none⟩,
       ⟨(some 111), .plain .mv, [.tmp 110], none⟩,
       ⟨(some 112), .plain (.fieldAddr 2), [.tmp 7], (some (111, false))⟩,
       ⟨(some 113), .plain (.load false 1), [.tmp 112], (some (111, false))⟩,
       ⟨(some 114), .call 62, [.tmp 113, .lit (.int .i64 (-1000000000)), .lit (.int .i64 1000000000)], (some (111, false))⟩,
       ⟨(some 115), .plain (.un .not), [.tmp 114], (some (111, false))⟩,
       ⟨(some 116), .plain .pick, [.tmp 111, .lit (.bool true), .tmp 115], none⟩] [93, 94, 95, 96, 97, 98, 99, 100, 101, 102, 103, 104, 105, 106, 107, 108, 109, 110, 111, 112, 113, 114, 115])
     (.cond (.tmp 116)
      (.seq (.ops [⟨(some 2), .plain .mv, [.lit (.bool false)], none⟩] [])
      .ret)
      .skip))
     (.seq (.ops [⟨(some 8), .plain .mv, [.lit (.int .i64 0)], none⟩] [])
     (.block 6
      (.loop
       (.seq (.seq (.ops [⟨(some 117), .plain .mv, [.tmp 8], none⟩,
         ⟨(some 118), .plain .mv, [.tmp 6], none⟩,
         ⟨(some 119), .plain (.bin .lss), [.tmp 117, .tmp 118], none⟩] [117, 118])
       (.cond (.tmp 119)
        .skip
        (.exit 6)))
       (.seq (.block 7
        (.seq (.draw (.step ⟨(some 122), .plain (.fieldAddr 3), [.tmp 1], none⟩
          (.step ⟨(some 123), .plain (.load false 1), [.tmp 122], none⟩
          (.step ⟨(some 124), .plain .mv, [.tmp 8], none⟩
          (.step ⟨(some 125), .plain (.indexAddr 3), [.tmp 123, .tmp 124], none⟩
          (.step ⟨(some 126), .plain (.fieldAddr 0), [.tmp 125], none⟩
          (.step ⟨(some 127), .plain (.load false 1), [.tmp 126], none⟩
          (.step ⟨(some 128), .plain (.fieldAddr 0), [.tmp 7], none⟩
          (.step ⟨(some 129), .plain (.load false 1), [.tmp 128], none⟩
          (.step ⟨(some 130), .plain (.bin .eql), [.tmp 127, .tmp 129], none⟩
          .done))))))))) [122, 123, 124, 125, 126, 127, 128, 129])
        (.cond (.tmp 130)
         (.seq (.ops [⟨(some 2), .plain .mv, [.lit (.bool false)], none⟩] [])
         .ret)
         .skip)))
       (.ops [⟨(some 120), .plain .mv, [.tmp 8], none⟩,
         ⟨(some 121), .plain (.bin .add), [.tmp 120, .lit (.int .i64 1)], none⟩,
         ⟨(some 8), .plain .mv, [.tmp 121], none⟩] [120, 121])))))))))
    (.ops [⟨(some 86), .plain .mv, [.tmp 6], none⟩,
      ⟨(some 87), .plain (.bin .add), [.tmp 86, .lit (.int .i64 1)], none⟩,
      ⟨(some 6), .plain .mv, [.tmp 87], none⟩] [86, 87]))))))
  (.seq (.seq (.ops [⟨(some 9), .plain .mv, [.lit (.int .i64 0)], none⟩] [])
  (.block 8
   (.loop
    (.seq (.seq (.ops [⟨(some 131), .plain .mv, [.tmp 9], none⟩,
      ⟨(some 132), .plain (.fieldAddr 4), [.tmp 1], none⟩,
      ⟨(some 133), .plain (.load false 1), [.tmp 132], none⟩,
      ⟨(some 134), .plain (.len 1), [.tmp 133], none⟩,
      ⟨(some 135), .plain (.bin .lss), [.tmp 131, .tmp 134], none⟩] [131, 132, 133, 134])
    (.cond (.tmp 135)
     .skip
     (.exit 8)))
    (.seq (.block 9
     (.seq (.ops [⟨(some 138), .plain (.fieldAddr 4), [.tmp 1], none⟩,
       ⟨(some 139), .plain (.load false 1), [.tmp 138], none⟩,
       ⟨(some 140), .plain .mv, [.tmp 9], none⟩,
       ⟨(some 141), .plain (.indexAddr 2), [.tmp 139, .tmp 140], none⟩,
       ⟨(some 142), .plain (.load true 2), [.tmp 141], none⟩,
       ⟨(some 10), .plain (.alloc [(.int .i64 0), (.int .i64 0)]), [], none⟩,
       ⟨none, .plain (.store 2), [.tmp 10, .tmp 142], none⟩] [138, 139, 140, 141, 142])
     (.seq (.draw (.step ⟨(some 143), .plain (.fieldAddr 0), [.tmp 10], none⟩
       (.step ⟨(some 144), .plain (.load false 1), [.tmp 143], none⟩
       (.step ⟨(some 145), .plain .mv, [.tmp 3], none⟩
       (.step ⟨(some 146), .plain (.bin .sub), [.tmp 145, .lit (.int .i64 1)], none⟩
       (.step ⟨(some 147), .call 62, [.tmp 144, .lit (.int .i64 0), .tmp 146], none⟩
       (.step ⟨(some 148), .plain (.un .not), [.tmp 147], none⟩
       (.step ⟨(some 149), .plain .mv, [.tmp 148], none⟩
       (.step ⟨(some 150), .plain (.fieldAddr 0), [.tmp 10], (some (149, false))⟩
       (.step ⟨(some 151), .plain (.load false 1), [.tmp 150], (some (149, false))⟩
       (.step ⟨(some 152), .plain (.bin .rem), [.tmp 151, .lit (.int .i64 2)], (some (149, false))⟩
       (.step ⟨(some 153), .plain (.bin .neq), [.tmp 152, .lit (.int .i64 0)], (some (149, false))⟩
       (.step ⟨(some 154), .plain .pick, [.tmp 149, .lit (.bool true), .tmp 153], none⟩
       (.step ⟨(some 155), .plain .mv, [.tmp 154], none⟩
       (.step ⟨(some 156), .plain (.fieldAddr 1), [.tmp 10], (some (155, false))⟩
       (.step ⟨(some 157), .plain (.load false 1), [.tmp 156], (some (155, false))⟩
       (.step ⟨(some 158), .call 62, [.tmp 157, .lit (.int .i64 0), .lit (.int .i64 1000000000)], (some (155, false))⟩
       (.step ⟨(some 159), .plain (.un .not), [.tmp 158], (some (155, false))⟩
       (.step ⟨(some 160), .plain .pick, [.tmp 155, .lit (.bool true), .tmp 159], none⟩
       (.step ⟨(some 161), .plain .mv, [.tmp 160], none⟩
       (.step ⟨(some 162), .plain .mv, [.tmp 9], (some (161, false))⟩
       (.step ⟨(some 163), .plain (.bin .gtr), [.tmp 162, .lit (.int .i64 0)], (some (161, false))⟩
       (.step ⟨(some 164), .plain .mv, [.tmp 163], (some (161, false))⟩
       (.step ⟨(some 165), .plain (.fieldAddr 4), [.tmp 1], (some (164, true))⟩
       (.step ⟨(some 166), .plain (.load false 1), [.tmp 165], (some (164, true))⟩
       (.step ⟨(some 167), .plain .mv, [.tmp 9], (some (164, true))⟩
       (.step ⟨(some 168), .plain (.bin .sub), [.tmp 167, .lit (.int .i64 1)], (some (164, true))⟩
       (.step ⟨(some 169), .plain (.indexAddr 2), [.tmp 166, .tmp 168], (some (164, true))⟩
       (.step ⟨(some 170), .plain (.fieldAddr 0), [.tmp 169], (some (164, true))⟩
       (.step ⟨(some 171), .plain (.load false 1), [.tmp 170], (some (164, true))⟩
       (.step ⟨(some 172), .plain (.fieldAddr 0), [.tmp 10], (some (164, true))⟩
       (.step ⟨(some 173), .plain (.load false 1), [.tmp 172], (some (164, true))⟩
       (.step ⟨(some 174), .plain (.bin .geq), [.tmp 171, .tmp 173], (some (164, true))⟩
       (.step ⟨(some 175), .plain .pick, [.tmp 164, .tmp 174, .lit (.bool false)], (some (161, false))⟩
       (.step ⟨(some 176), .plain .pick, [.tmp 161, .lit (.bool true), .tmp 175], none⟩
       .done)))))))))))))))))))))))))))))))))) [143, 144, 145, 146, 147, 148, 149, 150, 151, 152, 153, 154, 155, 156, 157, 158, 159, 160, 161, 162, 163, 164, 165, 166, 167, 168, 169, 170, 171, 172, 173, 174, 175])
     (.cond (.tmp 176)
      (.seq (.ops [⟨(some 2), .plain .mv, [.lit (.bool false)], none⟩] [])
      .ret)
      .skip))))
    (.ops [⟨(some 136), .plain .mv, [.tmp 9], none⟩,
      ⟨(some 137), .plain (.bin .add), [.tmp 136, .lit (.int .i64 1)], none⟩,
      ⟨(some 9), .plain .mv, [.tmp 137], none⟩] [136, 137]))))))
  (.seq (.ops [⟨(some 2), .plain .mv, [.lit (.bool true)], none⟩] [])
  .ret)))))))
def cr63 : List Res := [(2, none)]
theorem ok63 : FOk Try.prog Lk.imp 63 c63 cr63 Try.f63.ntmps := ⟨Try.f63, _, Try.func63, rfl, by kernel_rfl, by kernel_rfl, by kernel_rfl, rfl⟩

/-- ironbark/link.Valid -/
def c52 : SC :=
  (.seq (.ops [⟨(some 1), .plain (.box 5), [.tmp 0], none⟩,
    ⟨(some 2), .plain .mv, [.lit (.bool false)], none⟩] [])
  (.seq (.ops [⟨(some 13), .plain (.fieldAddr 1), [.tmp 1], none⟩,
    ⟨(some 14), .plain (.load false 1), [.tmp 13], none⟩,
    ⟨(some 15), .plain (.len 0), [.tmp 14], none⟩,
    ⟨(some 3), .plain .mv, [.tmp 15], none⟩] [13, 14, 15])
  (.seq (.seq (.ops [⟨(some 16), .plain (.fieldAddr 0), [.tmp 1], none⟩,
    ⟨(some 17), .plain (.load false 1), [.tmp 16], none⟩,
    ⟨(some 18), .call 71, [.tmp 17], none⟩,
    ⟨(some 19), .plain (.un .not), [.tmp 18], none⟩,
    ⟨(some 20), .plain .mv, [.tmp 19], none⟩,
    ⟨(some 21), .plain .mv, [.tmp 3], (some (20, false))⟩,
    ⟨(some 22), .plain (.bin .gtr), [.tmp 21, .lit (.int .i64 20000)], (some (20, false))⟩,
    ⟨(some 23), .plain .pick, [.tmp 20, .lit (.bool true), .tmp 22], none⟩,
    ⟨(some 24), .plain .mv, [.tmp 23], none⟩,
    ⟨(some 25), .plain .mv, [.tmp 3], (some (24, false))⟩,
    ⟨(some 26), .plain (.bin .rem), [.tmp 25, .lit (.int .i64 2)], (some (24, false))⟩,
    ⟨(some 27), .plain (.bin .neq), [.tmp 26, .lit (.int .i64 0)], (some (24, false))⟩,
    ⟨(some 28), .plain .pick, [.tmp 24, .lit (.bool true), .tmp 27], none⟩] [16, 17, 18, 19, 20, 21, 22, 23, 24, 25, 26, 27])
  (.cond (.tmp 28)
   (.seq (.ops [⟨(some 2), .plain .mv, [.lit (.bool false)], none⟩] [])
   .ret)
   .skip))
  (.seq (.ops [⟨(some 29), .plain .mkMap, [], none⟩,
    ⟨(some 30), .plain .mkMap, [], none⟩,
    ⟨(some 4), .plain .mv, [.tmp 29], none⟩,
    ⟨(some 5), .plain .mv, [.tmp 30], none⟩] [29, 30])
  (.seq (.seq (.ops [⟨(some 31), .plain (.fieldAddr 2), [.tmp 1], none⟩,
    ⟨(some 32), .plain (.load false 1), [.tmp 31], none⟩,
    ⟨(some 33), .plain (.len 1), [.tmp 32], none⟩,
    ⟨(some 34), .plain .mv, [.lit (.int .i64 0)], none⟩] [31])
  (.block 0
   (.loop
    (.seq (.ops [⟨(some 35), .plain (.bin .lss), [.tmp 34, .tmp 33], none⟩] [])
    (.seq (.cond (.tmp 35)
     .skip
     (.exit 0))
    (.seq (.block 1
     (.seq (.ops [⟨(some 36), .plain (.indexAddr 2), [.tmp 32, .tmp 34], none⟩,
       ⟨(some 37), .plain (.load true 2), [.tmp 36], none⟩,
       ⟨(some 7), .plain (.alloc [(.str ⟨#[]⟩), (.int .i64 0)]), [], none⟩,
       ⟨none, .plain (.store 2), [.tmp 7, .tmp 37], none⟩] [36, 37])
     (.seq (.seq (.ops [⟨(some 38), .plain (.fieldAddr 0), [.tmp 7], none⟩,
       ⟨(some 39), .plain (.load false 1), [.tmp 38], none⟩,
       ⟨(some 40), .call 71, [.tmp 39], none⟩,
       ⟨(some 41), .plain (.un .not), [.tmp 40], none⟩,
       ⟨(some 42), .plain .mv, [.tmp 41], none⟩,
       ⟨(some 43), .plain .mv, [.tmp 4], (some (42, false))⟩,
       ⟨(some 44), .plain (.fieldAddr 0), [.tmp 7], (some (42, false))⟩,
       ⟨(some 45), .plain (.load false 1), [.tmp 44], (some (42, false))⟩,
       ⟨(some 46), .plain (.lookup .str (.bool false) false), [.tmp 43, .tmp 45], (some (42, false))⟩,
       ⟨(some 47), .plain .pick, [.tmp 42, .lit (.bool true), .tmp 46], none⟩,
       ⟨(some 48), .plain .mv, [.tmp 47], none⟩,
       ⟨(some 49), .plain (.fieldAddr 1), [.tmp 7], (some (48, false))⟩,
       ⟨(some 50), .plain (.load false 1), [.tmp 49], (some (48, false))⟩,
       ⟨(some 51), .plain (.bin .lss), [.tmp 50, .lit (.int .i64 0)], (some (48, false))⟩,
       ⟨(some 52), .plain .pick, [.tmp 48, .lit (.bool true), .tmp 51], none⟩,
       ⟨(some 53), .plain .mv, [.tmp 52], none⟩,
       ⟨(some 54), .plain (.fieldAddr 1), [.tmp 7], (some (53, false))⟩,
       ⟨(some 55), .plain (.load false 1), [.tmp 54], (some (53, false))⟩,
       ⟨(some 56), .plain .mv, [.tmp 3], (some (53, false))⟩,
       ⟨(some 57), .plain (.bin .gtr), [.tmp 55, .tmp 56], (some (53, false))⟩,
       ⟨(some 58), .plain .pick, [.tmp 53, .lit (.bool true), .tmp 57], none⟩,
       ⟨(some 59), .plain .mv, [.tmp 58], none⟩,
       ⟨(some 60), .plain (.fieldAddr 1), [.tmp 7], (some (59, false))⟩,
       ⟨(some 61), .plain (.load false 1), [.tmp 60], (some (59, false))⟩,
       ⟨(some 62), .plain (.bin .rem), [.tmp 61, .lit (.int .i64 2)], (some (59, false))⟩,
       ⟨(some 63), .plain (.bin .neq), [.tmp 62, .lit (.int .i64 0)], (some (59, false))⟩,
       ⟨(some 64), .plain .pick, [.tmp 59, .lit (.bool true), .tmp 63], none⟩] [38, 39, 40, 41, 42, 43, 44, 45, 46, 47, 48, 49, 50, 51, 52, 53, 54, 55, 56, 57, 58, 59, 60, 61, 62, 63])
     (.cond (.tmp 64)
      (.seq (.ops [⟨(some 2), .plain .mv, [.lit (.bool false)], none⟩] [])
      .ret)
      .skip))
     (.ops [⟨(some 65), .plain .mv, [.tmp 4], none⟩,
       ⟨(some 66), .plain (.fieldAddr 0), [.tmp 7], none⟩,
       ⟨(some 67), .plain (.load false 1), [.tmp 66], none⟩,
       ⟨none, .plain (.mapUpdate .str), [.tmp 65, .tmp 67, .lit (.bool true)], none⟩] [65, 66, 67]))))
    (.ops [⟨(some 68), .plain (.bin .add), [.tmp 34, .lit (.int .i64 1)], none⟩,
      ⟨(some 34), .plain .mv, [.tmp 68], none⟩] [68])))))))
  (.seq (.seq (.ops [⟨(some 69), .plain (.fieldAddr 3), [.tmp 1], none⟩,
    ⟨(some 70), .plain (.load false 1), [.tmp 69], none⟩,
    ⟨(some 71), .plain (.len 1), [.tmp 70], none⟩,
    ⟨(some 72), .plain .mv, [.lit (.int .i64 0)], none⟩] [69])
  (.block 2
   (.loop
    (.seq (.ops [⟨(some 73), .plain (.bin .lss), [.tmp 72, .tmp 71], none⟩] [])
    (.seq (.cond (.tmp 73)
     .skip
     (.exit 2))
    (.seq (.block 3
     (.seq (.ops [⟨(some 74), .plain (.indexAddr 3), [.tmp 70, .tmp 72], none⟩,
       ⟨(some 75), .plain (.load true 3), [.tmp 74], none⟩,
       ⟨(some 9), .plain (.alloc [(.int .i64 0), (.str ⟨#[]⟩), (.int .i64 0)]), [], none⟩,
       ⟨none, .plain (.store 3), [.tmp 9, .tmp 75], none⟩] [74, 75])
     (.seq (.seq (.ops [⟨(some 76), .plain (.fieldAddr 1), [.tmp 9], none⟩,
       ⟨(some 77), .plain (.load false 1), [.tmp 76], none⟩,
       ⟨(some 78), .call 71, [.tmp 77], none⟩,
       ⟨(some 79), .plain (.un .not), [.tmp 78], none⟩,
       ⟨(some 80), .plain .mv, [.tmp 79], none⟩,
       ⟨(some 81), .plain .mv, [.tmp 5], (some (80, false))⟩,
       ⟨(some 82), .plain (.fieldAddr 0), [.tmp 9], (some (80, false))⟩,
       ⟨(some 83), .plain (.load false 1), [.tmp 82], (some (80, false))⟩,
       ⟨(some 84), .plain (.lookup .int (.bool false) false), [.tmp 81, .tmp 83], (some (80, false))⟩,
       ⟨(some 85), .plain .pick, [.tmp 80, .lit (.bool true), .tmp 84], none⟩,
       ⟨(some 86), .plain .mv, [.tmp 85], none⟩,
       ⟨(some 87), .plain (.fieldAddr 0), [.tmp 9], (some (86, false))⟩,
       ⟨(some 88), .plain (.load false 1), [.tmp 87], (some (86, false))⟩,
       ⟨(some 89), .plain (.bin .lss), [.tmp 88, .lit (.int .i64 0)], (some (86, false))⟩,
       ⟨(some 90), .plain .pick, [.tmp 86, .lit (.bool true), .tmp 89], none⟩,
       ⟨(some 91), .plain .mv, [.tmp 90], none⟩,
       ⟨(some 92), .plain (.fieldAddr 0), [.tmp 9], (some (91, false))⟩,
       ⟨(some 93), .plain (.load false 1), [.tmp 92], (some (91, false))⟩,
       ⟨(some 94), .plain .mv, [.tmp 3], (some (91, false))⟩,
       ⟨(some 95), .plain (.bin .sub), [.tmp 94, .lit (.int .i64 4)], (some (91, false))⟩,
       ⟨(some 96), .plain (.bin .gtr), [.tmp 93, .tmp 95], (some (91, false))⟩,
       ⟨(some 97), .plain .pick, [.tmp 91, .lit (.bool true), .tmp 96], none⟩,
       ⟨(some 98), .plain .mv, [.tmp 97], none⟩,
       ⟨(some 99), .plain (.fieldAddr 0), [.tmp 9], (some (98, false))⟩,
       ⟨(some 100), .plain (.load false 1), [.tmp 99], (some (98, false))⟩,
       ⟨(some 101), .plain (.bin .rem), [.tmp 100, .lit (.int .i64 4)], (some (98, false))⟩,
       ⟨(some 102), .plain (.bin .neq), [.tmp 101, .lit (.int .i64 0)], (some (98, false))⟩,
       ⟨(some 103), .plain .pick, [.tmp 98, .lit (.bool true), .tmp 102], none⟩,
       ⟨(some 104), .plain .mv, [.tmp 103], none⟩,
       ⟨(some 105), .plain (.fieldAddr 2), [.tmp 9], (some (104, false))⟩,
       ⟨(some 106), .plain (.load false 1), [.tmp 105], (some (104, false))⟩,
       ⟨(some 107), .plain (.bin .gtr), [.tmp 106, .lit (.int .i64 1000000000)], (some (104, false))⟩,
       ⟨(some 108), .plain .pick, [.tmp 104, .lit (.bool true), .tmp 107], none⟩,
       ⟨(some 109), .plain .mv, [.tmp 108], none⟩,
       ⟨(some 110), .plain (.fieldAddr 2), [.tmp 9], (some (109, false))⟩,
       ⟨(some 111), .plain (.load false 1), [.tmp 110], (some (109, false))⟩,
       ⟨(some 112), .plain (.bin .lss), [.tmp 111, .lit (.int .i64 (-1000000000))], (some (109, false))⟩,
       ⟨(some 113), .plain .pick, [.tmp 109, .lit (.bool true), .tmp 112], none⟩] [76, 77, 78, 79, 80, 81, 82, 83, 84, 85, 86, 87, 88, 89, 90, 91, 92, 93, 94, 95, 96, 97, 98, 99, 100, 101, 102, 103, 104, 105, 106, 107, 108, 109, 110, 111, 112])
     (.cond (.tmp 113)
      (.seq (.ops [⟨(some 2), .plain .mv, [.lit (.bool false)], none⟩] [])
      .ret)
      .skip))
     (.ops [⟨(some 114), .plain .mv, [.tmp 5], none⟩,
       ⟨(some 115), .plain (.fieldAddr 0), [.tmp 9], none⟩,
       ⟨(some 116), .plain (.load false 1), [.tmp 115], none⟩,
       ⟨none, .plain (.mapUpdate .int), [.tmp 114, .tmp 116, .lit (.bool true)], none⟩] [114, 115, 116]))))
    (.ops [⟨(some 117), .plain (.bin .add), [.tmp 72, .lit (.int .i64 1)], none⟩,
      ⟨(some 72), .plain .mv, [.tmp 117], none⟩] [117])))))))
  (.seq (.ops [⟨(some 10), .plain .mv, [.lit (.int .i64 (-1))], none⟩] [])
  (.seq (.seq (.ops [⟨(some 118), .plain (.fieldAddr 4), [.tmp 1], none⟩,
    ⟨(some 119), .plain (.load false 1), [.tmp 118], none⟩,
    ⟨(some 120), .plain (.len 1), [.tmp 119], none⟩,
    ⟨(some 121), .plain .mv, [.lit (.int .i64 0)], none⟩] [118])
  (.block 4
   (.loop
    (.seq (.ops [⟨(some 122), .plain (.bin .lss), [.tmp 121, .tmp 120], none⟩] [])
    (.seq (.cond (.tmp 122)
     .skip
     (.exit 4))
    (.seq (.block 5
     (.seq (.ops [⟨(some 123), .plain (.indexAddr 2), [.tmp 119, .tmp 121], none⟩,
       ⟨(some 124), .plain (.load true 2), [.tmp 123], none⟩,
       ⟨(some 12), .plain (.alloc [(.int .i64 0), (.int .i64 0)]), [], none⟩,
       ⟨none, .plain (.store 2), [.tmp 12, .tmp 124], none⟩] [123, 124])
     (.seq (.seq (.ops [⟨(some 125), .plain (.fieldAddr 0), [.tmp 12], none⟩,
       ⟨(some 126), .plain (.load false 1), [.tmp 125], none⟩,
       ⟨(some 127), .plain .mv, [.tmp 10], none⟩,
       ⟨(some 128), .plain (.bin .leq), [.tmp 126, .tmp 127], none⟩,
       ⟨(some 129), .plain .mv, [.tmp 128], none⟩,
       ⟨(some 130), .plain (.fieldAddr 0), [.tmp 12], (some (129, false))⟩,
       ⟨(some 131), .plain (.load false 1), [.tmp 130], (some (129, false))⟩,
       ⟨(some 132), .plain .mv, [.tmp 3], (some (129, false))⟩,
       ⟨(some 133), .plain (.bin .geq), [.tmp 131, .tmp 132], (some (129, false))⟩,
       ⟨(some 134), .plain .pick, [.tmp 129, .lit (.bool true), .tmp 133], none⟩,
       ⟨(some 135), .plain .mv, [.tmp 134], none⟩,
       ⟨(some 136), .plain (.fieldAddr 0), [.tmp 12], (some (135, false))⟩,
       ⟨(some 137), .plain (.load false 1), [.tmp 136], (some (135, false))⟩,
       ⟨(some 138), .plain (.bin .rem), [.tmp 137, .lit (.int .i64 2)], (some (135, false))⟩,
       ⟨(some 139), .plain (.bin .neq), [.tmp 138, .lit (.int .i64 0)], (some (135, false))⟩,
       ⟨(some 140), .plain .pick, [.tmp 135, .lit (.bool true), .tmp 139], none⟩,
       ⟨(some 141), .plain .mv, [.tmp 140], none⟩,
       ⟨(some 142), .plain (.fieldAddr 1), [.tmp 12], (some (141, false))⟩,
       ⟨(some 143), .plain (.load false 1), [.tmp 142], (some (141, false))⟩,
       ⟨(some 144), .plain (.bin .lss), [.tmp 143, .lit (.int .i64 0)], (some (141, false))⟩,
       ⟨(some 145), .plain .pick, [.tmp 141, .lit (.bool true), .tmp 144], none⟩,
       ⟨(some 146), .plain .mv, [.tmp 145], none⟩,
       ⟨(some 147), .plain (.fieldAddr 1), [.tmp 12], (some (146, false))⟩,
       ⟨(some 148), .plain (.load false 1), [.tmp 147], (some (146, false))⟩,
       ⟨(some 149), .plain (.bin .gtr), [.tmp 148, .lit (.int .i64 1000000000)], (some (146, false))⟩,
       ⟨(some 150), .plain .pick, [.tmp 146, .lit (.bool true), .tmp 149], none⟩] [125, 126, 127, 128, 129, 130, 131, 132, 133, 134, 135, 136, 137, 138, 139, 140, 141, 142, 143, 144, 145, 146, 147, 148, 149])
     (.cond (.tmp 150)
      (.seq (.ops [⟨(some 2), .plain .mv, [.lit (.bool false)], none⟩] [])
      .ret)
      .skip))
     (.ops [⟨(some 151), .plain (.fieldAddr 0), [.tmp 12], none⟩,
       ⟨(some 152), .plain (.load false 1), [.tmp 151], none⟩,
       ⟨(some 10), .plain .mv, [.tmp 152], none⟩] [151, 152]))))
    (.ops [⟨(some 153), .plain (.bin .add), [.tmp 121, .lit (.int .i64 1)], none⟩,
      ⟨(some 121), .plain .mv, [.tmp 153], none⟩] [153])))))))
  (.seq (.ops [⟨(some 2), .plain .mv, [.lit (.bool true)], none⟩] [])
  .ret)))))))))
def cr52 : List Res := [(2, none)]
theorem ok52 : FOk Try.prog Lk.imp 52 c52 cr52 Try.f52.ntmps := ⟨Try.f52, _, Try.func52, rfl, by kernel_rfl, by kernel_rfl, by kernel_rfl, rfl⟩

end Go.Pm

/- LkC3: contracts: the document's Valid. -/
namespace Go.Pm
open Go Go.Proofs
attribute [-simp] List.getElem?_map

set_option maxHeartbeats 4000000 in
theorem call63 (o : Deck) (hs : o.Small) : PCalls Try.prog 63 [.agg o.av] fun out => out = .ret (.bool (deckOk o)) := by
  refine ok63.pcalls (by simp) ?_
  simp [c63, Deck.av]
  refine xcall_p (call61 o.name hs.name) rfl ?_
  simp
  refine br_guard_f rfl (fun h1 => ?_) (fun h1 => ?_) <;> simp at h1
  · simp [h1, cr63, deckOk]
  simp [h1]
  refine br_guard_f rfl (fun h2 => ?_) (fun h2 => ?_)
  · simp [h2, cr63, deckOk]
  simp [h2]
  refine br_cond rfl (fun h3 => ?_) (fun h3 => ?_) <;> simp at h3
  · simp [h3, cr63, deckOk]
  simp
  have dl := hs.defs
  have rl := hs.refs
  have ll := hs.lines
  have cl := hs.code
  -- the names
  refine wpS_loop (ι := Nat) (fun i => [(1, .ptr 0 0 0), (2, .bool false), (3, .int .i64 o.code.size), (4, .int .i64 i)]) (fun _ => ⟨[(0, .cells o.av)], 1⟩) (fun i => o.defs.length - i) (fun i => i ≤ o.defs.length ∧ ∀ j, j < i → defOk o.code.size o.defs j = true) 0 (by simp) (Env.le_of (by simp)) (by simp [Deck.av]) ?_
  intro i ⟨hi, hall⟩
  have hw : IntKind.i64.wrap (i + 1) = i + 1 := wrap64 (by omega) (by omega)
  simp [Deck.av]
  refine br_cond rfl (fun h4 => ?_) (fun h4 => ?_)
  · have hlt : i < o.defs.length := by have := ltI_t.1 h4; omega
    have bad : defOk o.code.size o.defs i = false → deckOk o = false := fun h => by simp [deckOk, all_f hlt h]
    simp [h4, idxM, DDef.av]
    refine xcall_p (call61 (ix o.defs i).name (hs.dname _ (ix_mem hlt))) rfl ?_
    simp
    refine br_guard_f rfl (fun h5 => ?_) (fun h5 => ?_) <;> simp at h5
    · simp [h5, cr63, bad (by simp [defOk, h5])]
    simp [h5, h4, idxM, DDef.av]
    refine xcall_p (call62 (ix o.defs i).at_ 0 o.code.size) rfl ?_
    simp
    refine br_guard_f rfl (fun h6 => ?_) (fun h6 => ?_) <;> simp at h6
    · simp [h6, cr63, bad (by simp [defOk, h6])]
    simp [h6, h4, idxM, DDef.av]
    refine br_cond rfl (fun h7 => ?_) (fun h7 => ?_) <;> simp at h7
    · simp [cr63, bad (by simp [defOk, h7])]
    simp
    refine wpS_loop (ι := Nat) (fun k => [(1, .ptr 0 0 0), (2, .bool false), (3, .int .i64 o.code.size), (4, .int .i64 i), (5, .int .i64 k)]) (fun _ => ⟨[(0, .cells o.av)], 1⟩) (fun k => i - k) (fun k => k ≤ i ∧ ∀ j, j < k → eqS (ix o.defs j).name (ix o.defs i).name = false) 0 (by simp) (Env.le_of (by simp)) (by simp [Deck.av]) ?_
    intro k ⟨hk, hkall⟩
    have hwk : IntKind.i64.wrap (k + 1) = k + 1 := wrap64 (by omega) (by omega)
    simp [Deck.av]
    refine br_cond rfl (fun h8 => ?_) (fun h8 => ?_)
    · have hki : k < i := by have := ltI_t.1 h8; omega
      have h9 : ltI ↑k ↑o.defs.length = true := ltN (by omega)
      simp [h9, h8, h4, idxM, DDef.av]
      refine br_cond rfl (fun h10 => ?_) (fun h10 => ?_)
      · simp [cr63, bad (by simp only [defOk, all_f (p := fun k => !eqS (ix o.defs k).name (ix o.defs i).name) hki (by simp [h10]), Bool.and_false])]
      · simp [hwk]
        exact ⟨k + 1, ⟨by omega, upto hkall h10⟩, by omega, Env.le_of (by simp), Mem.le_of rfl (by simp)⟩
    · simp [h8, hw]
      have hki : k = i := by have := ltI_f.1 h8; omega
      have hka : ∀ j, j < i → _ := fun j hj => hkall j (hki ▸ hj)
      refine ⟨i + 1, ⟨by omega, upto hall ?_⟩, by omega, Env.le_of (by simp), Mem.le_of rfl (by simp)⟩
      simp only [defOk, h5, h6, h7, all_t (n := i) (p := fun k => !eqS (ix o.defs k).name (ix o.defs i).name) (fun j hj => by simp [hka j hj]), Bool.and_self]
  clear hw
  have hid : i = o.defs.length := by have := ltI_f.1 h4; omega
  have hD : (List.range o.defs.length).all (defOk o.code.size o.defs) = true := all_t (by rw [← hid]; exact hall)
  clear hall hi
  simp [h4]
  clear h4 hid
  -- the places
  refine wpS_loop (ι := Nat × Nat) (fun s => [(1, .ptr 0 0 0), (2, .bool false), (3, .int .i64 o.code.size), (6, .int .i64 s.1)]) (fun s => ⟨[(0, .cells o.av)], s.2⟩) (fun s => o.refs.length - s.1) (fun s => s.1 ≤ o.refs.length ∧ ∀ j, j < s.1 → refOk o.code.size o.refs j = true) (0, 1) (by simp) (Env.le_of (by simp)) (by simp [Deck.av]) ?_
  intro ⟨i, nx⟩ ⟨hi, hall⟩
  simp only at hi hall
  have hw : IntKind.i64.wrap (i + 1) = i + 1 := wrap64 (by omega) (by omega)
  have hw4 : IntKind.i64.wrap ((o.code.size : Int) - 4) = (o.code.size : Int) - 4 := wrap64 (by omega) (by omega)
  simp [Deck.av]
  refine br_cond rfl (fun h4 => ?_) (fun h4 => ?_)
  · have hlt : i < o.refs.length := by have := ltI_t.1 h4; omega
    have bad : refOk o.code.size o.refs i = false → deckOk o = false := fun h => by simp [deckOk, all_f hlt h]
    simp [h4, idxM, DRef.av]
    refine xcall_p (call61 (ix o.refs i).name (hs.rname _ (ix_mem hlt))) rfl ?_
    simp
    refine br_guard_f rfl (fun h5 => ?_) (fun h5 => ?_) <;> simp at h5
    · simp [h5, cr63, bad (by simp [refOk, h5])]
    simp [h5, hw4]
    refine xcall_p (call62 (ix o.refs i).at_ 0 (o.code.size - 4)) rfl ?_
    simp
    refine br_guard_f rfl (fun h6 => ?_) (fun h6 => ?_) <;> simp at h6
    · simp [h6, cr63, bad (by simp [refOk, h6])]
    simp [h6]
    refine br_guard_f rfl (fun h7 => ?_) (fun h7 => ?_) <;> simp at h7
    · simp [h7, cr63, bad (by simp [refOk, h7])]
    simp [h7]
    refine xcall_p (call62 (ix o.refs i).plus (-1000000000) 1000000000) rfl ?_
    simp
    refine br_cond rfl (fun h11 => ?_) (fun h11 => ?_) <;> simp at h11
    · simp [cr63, bad (by simp [refOk, h11])]
    simp
    refine wpS_loop (ι := Nat) (fun k => [(1, .ptr 0 0 0), (2, .bool false), (3, .int .i64 o.code.size), (6, .int .i64 i), (7, .ptr 1 nx 0), (8, .int .i64 k)]) (fun _ => ⟨[(0, .cells o.av), (nx, .cells (ix o.refs i).av)], nx + 1⟩) (fun k => i - k) (fun k => k ≤ i ∧ ∀ j, j < k → eqI (ix o.refs j).at_ (ix o.refs i).at_ = false) 0 (by simp) (Env.le_of (by simp)) (by simp [Deck.av, DRef.av]) ?_
    intro k ⟨hk, hkall⟩
    have hwk : IntKind.i64.wrap (k + 1) = k + 1 := wrap64 (by omega) (by omega)
    simp [Deck.av, DRef.av]
    refine br_cond rfl (fun h8 => ?_) (fun h8 => ?_)
    · have hki : k < i := by have := ltI_t.1 h8; omega
      have h9 : ltI ↑k ↑o.refs.length = true := ltN (by omega)
      simp [h9, h8, idxM, DRef.av]
      refine br_cond rfl (fun h10 => ?_) (fun h10 => ?_)
      · simp [cr63, bad (by simp only [refOk, all_f (p := fun k => !eqI (ix o.refs k).at_ (ix o.refs i).at_) hki (by simp [h10]), Bool.and_false])]
      · simp [hwk]
        exact ⟨k + 1, ⟨by omega, upto hkall h10⟩, by omega, Env.le_of (by simp), Mem.le_of rfl (by simp)⟩
    · simp [h8, hw]
      have hki : k = i := by have := ltI_f.1 h8; omega
      have hka : ∀ j, j < i → _ := fun j hj => hkall j (hki ▸ hj)
      refine ⟨i + 1, ⟨by omega, upto hall ?_⟩, by omega, Env.le_of (by simp), nx + 1, Mem.le_of rfl (by simp)⟩
      simp only [refOk, h5, h6, h7, h11, all_t (n := i) (p := fun k => !eqI (ix o.refs k).at_ (ix o.refs i).at_) (fun j hj => by simp [hka j hj]), Bool.and_self]
  clear hw
  have hid : i = o.refs.length := by have := ltI_f.1 h4; omega
  have hR : (List.range o.refs.length).all (refOk o.code.size o.refs) = true := all_t (by rw [← hid]; exact hall)
  clear hall hi
  simp [h4]
  clear h4 hid
  -- the lines
  refine wpS_loop (ι := Nat × Nat) (fun s => [(1, .ptr 0 0 0), (2, .bool false), (3, .int .i64 o.code.size), (9, .int .i64 s.1)]) (fun s => ⟨[(0, .cells o.av)], s.2⟩) (fun s => o.lines.length - s.1) (fun s => s.1 ≤ o.lines.length ∧ ∀ j, j < s.1 → lineOk o.code.size o.lines j = true) (0, nx) (by simp) (Env.le_of (by simp)) (by simp [Deck.av]) ?_
  intro ⟨i, nx⟩ ⟨hi, hall⟩
  simp only at hi hall
  have hw : IntKind.i64.wrap (i + 1) = i + 1 := wrap64 (by omega) (by omega)
  have hw1 : IntKind.i64.wrap ((o.code.size : Int) - 1) = (o.code.size : Int) - 1 := wrap64 (by omega) (by omega)
  simp [Deck.av]
  refine br_cond rfl (fun h4 => ?_) (fun h4 => ?_)
  · have hlt : i < o.lines.length := by have := ltI_t.1 h4; omega
    have bad : lineOk o.code.size o.lines i = false → deckOk o = false := fun h => by simp [deckOk, all_f hlt h]
    have good : lineOk o.code.size o.lines i = true → ∀ j, j < i + 1 → lineOk o.code.size o.lines j = true := upto hall
    simp [h4, idxM, DLine.av, hw1]
    refine xdcall_p rfl (call62 (ix o.lines i).at_ 0 (o.code.size - 1)) rfl ?_
    simp
    refine br_dguard_f rfl (fun h5 => ?_) (fun h5 => ?_) <;> simp at h5
    · simp [h5, cr63, bad (by simp [lineOk, h5])]
    simp [h5]
    refine br_dguard_f rfl (fun h6 => ?_) (fun h6 => ?_) <;> simp at h6
    · simp [h6, cr63, bad (by simp [lineOk, h6])]
    simp [h6]
    refine xdcall_p rfl (call62 (ix o.lines i).stmt 0 1000000000) rfl ?_
    simp
    refine br_dguard_f rfl (fun h7 => ?_) (fun h7 => ?_) <;> simp at h7
    · simp [h7, cr63, bad (by simp [lineOk, h7])]
    simp [h7]
    refine br_dguard_t rfl (fun h8 => ?_) (fun h8 => ?_)
    · have h0 := ltI_t.1 h8
      have hwm : IntKind.i64.wrap (i - 1) = ((i - 1 : Nat) : Int) := by rw [wrap64 (by omega) (by omega)]; omega
      have h9 : ltI ↑(i - 1) ↑o.lines.length = true := ltN (by omega)
      simp [h8, hwm, h9, idxM, DLine.av]
      refine br_cond rfl (fun h10 => ?_) (fun h10 => ?_)
      · simp [cr63, bad (by simp [lineOk, h8, h10])]
      · simp [hw]
        exact ⟨i + 1, ⟨by omega, good (by simp [lineOk, h5, h6, h7, h10])⟩, by omega, Env.le_of (by simp), nx + 1, Mem.le_of rfl (by simp)⟩
    · simp [h8, hw]
      exact ⟨i + 1, ⟨by omega, good (by simp [lineOk, h5, h6, h7, h8])⟩, by omega, Env.le_of (by simp), nx + 1, Mem.le_of rfl (by simp)⟩
  have hid : i = o.lines.length := by have := ltI_f.1 h4; omega
  have hL : (List.range o.lines.length).all (lineOk o.code.size o.lines) = true := all_t (by rw [← hid]; exact hall)
  simp [h4, cr63, deckOk, h1, h2, h3, hD, hR, hL]
end Go.Pm

/- LkC4: contracts: the linker's Valid. -/
namespace Go.Pm
open Go Go.Proofs
attribute [-simp] List.getElem?_map

theorem beq_eqS (a b : ByteArray) : (a == b) = eqS b a := by
  unfold eqS
  rw [← beq_toListBytes]
  cases h : (a == b) with
  | true => rw [beq_bytes] at h; subst h; exact ((beq_bytes a a).2 rfl).symm
  | false =>
    cases h2 : (b == a) with
    | false => rfl
    | true => rw [beq_bytes] at h2; subst h2; rw [(beq_bytes b b).2 rfl] at h; cases h

theorem eqI_comm (a b : Int) : eqI a b = eqI b a := by simp only [eqI, Bool.beq_comm]

/-- A set of texts, or of numbers, as a map. -/
def setS (l : List ByteArray) : List (AV × AV) := l.map fun s => (.str s, .bool true)
def setI (l : List Int) : List (AV × AV) := l.map fun s => (.int .i64 s, .bool true)

def hasS (l : List ByteArray) (s : ByteArray) : Bool := l.any fun x => eqS x s
def hasI (l : List Int) (s : Int) : Bool := l.any fun x => eqI x s
def optB (c : Bool) : Option AV := if c = true then some (.bool true) else none

theorem findS (s : ByteArray) : ∀ l : List ByteArray, findA (.str s) (setS l) = some (optB (hasS l s))
  | [] => rfl
  | x :: l => by
    have ih := findS s l
    unfold setS at ih ⊢
    rw [List.map_cons, findA]
    unfold hasS optB at ih ⊢
    simp only [keyEq, beq_eqS, List.any_cons]
    rcases Bool.eq_false_or_eq_true (eqS x s) with h | h
    · simp [h]
    · simpa [h] using ih
theorem updS (s : ByteArray) : ∀ l : List ByteArray, hasS l s = false → updA (.str s) (.bool true) (setS l) = some (setS (l ++ [s]))
  | [], _ => rfl
  | x :: l, h => by
    simp only [hasS, List.any_cons, Bool.or_eq_false_iff] at h
    have ih := updS s l h.2
    unfold setS at ih ⊢
    rw [List.map_cons, updA]
    simp only [keyEq, beq_eqS, h.1]
    rw [ih]; rfl
theorem findI (s : Int) : ∀ l : List Int, findA (.int .i64 s) (setI l) = some (optB (hasI l s))
  | [] => rfl
  | x :: l => by
    have ih := findI s l
    unfold setI at ih ⊢
    rw [List.map_cons, findA]
    unfold hasI optB at ih ⊢
    simp only [keyEq, if_true, List.any_cons]
    rw [show (s == x) = eqI x s from eqI_comm s x]
    rcases Bool.eq_false_or_eq_true (eqI x s) with h | h
    · simp [h]
    · simpa [h] using ih
theorem updI (s : Int) : ∀ l : List Int, hasI l s = false → updA (.int .i64 s) (.bool true) (setI l) = some (setI (l ++ [s]))
  | [], _ => rfl
  | x :: l, h => by
    simp only [hasI, List.any_cons, Bool.or_eq_false_iff] at h
    have ih := updI s l h.2
    unfold setI at ih ⊢
    rw [List.map_cons, updA]
    simp only [keyEq, if_true]
    rw [show (s == x) = eqI x s from eqI_comm s x, h.1]
    simp only []
    rw [ih]; rfl
theorem getD_b (c : Bool) : (optB c).getD (AV.bool false) = AV.bool c := by cases c <;> rfl
theorem any_all {n : Nat} {p : Nat → Bool} : ((List.range n).any p) = !((List.range n).all fun k => !p k) := by
  rw [List.not_all_eq_any_not]; simp

theorem hasS_range {n : Nat} {g : Nat → ByteArray} {s : ByteArray} : hasS ((List.range n).map g) s = !((List.range n).all fun k => !eqS (g k) s) := by
  unfold hasS; rw [List.any_map, Function.comp_def, any_all]
theorem hasI_range {n : Nat} {g : Nat → Int} {s : Int} : hasI ((List.range n).map g) s = !((List.range n).all fun k => !eqI (g k) s) := by
  unfold hasI; rw [List.any_map, Function.comp_def, any_all]

attribute [simp] lookA isKey findS findI getD_b

/-- A line behind the last one. -/
def lastAt (ds : List DLine) (i : Nat) : Int := if i = 0 then -1 else (ix ds (i - 1)).at_

theorem lineOk_next {n : Int} {ds : List DLine} {i : Nat} (hall : ∀ j, j < i → lineOk n ds j = true) :
    lineOk n ds i = (!leI (ix ds i).at_ (lastAt ds i) && !leI n (ix ds i).at_ && eqI ((ix ds i).at_.tmod 2) 0 && !ltI (ix ds i).stmt 0 && !ltI 1000000000 (ix ds i).stmt) := by
  have hz : i ≠ 0 → 0 ≤ (ix ds (i - 1)).at_ := fun h => by
    have h1 := hall (i - 1) (by omega)
    simp only [lineOk, withinF, Bool.and_eq_true] at h1
    exact leI_t.1 h1.1.1.1.1
  rw [Bool.eq_iff_iff]
  simp only [lineOk, withinF, Bool.and_eq_true, Bool.not_eq_true', Bool.and_eq_false_iff, leI_t, leI_f, ltI_f, lastAt]
  rcases Nat.eq_zero_or_pos i with h0 | h0
  · subst h0
    simp only [if_true]
    constructor
    · rintro ⟨⟨⟨⟨a, b⟩, c⟩, d, e⟩, f⟩; exact ⟨⟨⟨⟨by omega, by omega⟩, c⟩, d⟩, e⟩
    · rintro ⟨⟨⟨⟨a, b⟩, c⟩, d⟩, e⟩; exact ⟨⟨⟨⟨by omega, by omega⟩, c⟩, d, e⟩, .inl (by omega)⟩
  · have := hz (by omega)
    rw [if_neg (by omega)]
    constructor
    · rintro ⟨⟨⟨⟨a, b⟩, c⟩, d, e⟩, f⟩; exact ⟨⟨⟨⟨by rcases f with f | f <;> omega, by omega⟩, c⟩, d⟩, e⟩
    · rintro ⟨⟨⟨⟨a, b⟩, c⟩, d⟩, e⟩; exact ⟨⟨⟨⟨by omega, by omega⟩, c⟩, d, e⟩, .inr (by omega)⟩

set_option maxHeartbeats 4000000 in
theorem call52 (o : Deck) (hs : o.Small) : PCalls Try.prog 52 [.agg o.av] fun out => out = .ret (.bool (deckOk o)) := by
  refine ok52.pcalls (by simp) ?_
  simp [c52, Deck.av]
  refine xcall_p (call71 o.name hs.name) rfl ?_
  simp
  refine br_guard_f rfl (fun h1 => ?_) (fun h1 => ?_) <;> simp at h1
  · simp [h1, cr52, deckOk]
  simp [h1]
  refine br_guard_f rfl (fun h2 => ?_) (fun h2 => ?_)
  · simp [h2, cr52, deckOk]
  simp [h2]
  refine br_cond rfl (fun h3 => ?_) (fun h3 => ?_) <;> simp at h3
  · simp [h3, cr52, deckOk]
  simp
  have dl := hs.defs
  have rl := hs.refs
  have ll := hs.lines
  have cl := hs.code
  -- the names
  refine wpS_loop (ι := Nat × Nat) (fun s => [(1, .ptr 0 0 0), (2, .bool false), (3, .int .i64 o.code.size), (4, .map 1 1), (5, .map 2 2), (32, .list true 2 (o.defs.map DDef.av)), (33, .int .i64 o.defs.length), (34, .int .i64 s.1)])
    (fun s => ⟨[(0, .cells o.av), (1, .map (setS ((List.range s.1).map fun j => (ix o.defs j).name))), (2, .map [])], s.2⟩) (fun s => o.defs.length - s.1) (fun s => s.1 ≤ o.defs.length ∧ ∀ j, j < s.1 → defOk o.code.size o.defs j = true) (0, 3) (by simp) (Env.le_of (by simp)) (by simp [Deck.av, setS]) ?_
  intro ⟨i, nx⟩ ⟨hi, hall⟩
  simp only at hi hall
  have hw : IntKind.i64.wrap (i + 1) = i + 1 := wrap64 (by omega) (by omega)
  simp [Deck.av]
  refine br_cond rfl (fun h4 => ?_) (fun h4 => ?_)
  · have hlt : i < o.defs.length := by have := ltI_t.1 h4; omega
    have bad : defOk o.code.size o.defs i = false → deckOk o = false := fun h => by simp [deckOk, all_f hlt h]
    simp [h4, idxM, DDef.av]
    refine xcall_p (call71 (ix o.defs i).name (hs.dname _ (ix_mem hlt))) rfl ?_
    simp
    refine br_guard_f rfl (fun h5 => ?_) (fun h5 => ?_) <;> simp at h5
    · simp [h5, cr52, bad (by simp [defOk, h5])]
    have goodn : (((List.range i).all fun k => !eqS (ix o.defs k).name (ix o.defs i).name) = true) → leI 0 (ix o.defs i).at_ = true → leI (ix o.defs i).at_ o.code.size = true → eqI ((ix o.defs i).at_.tmod 2) 0 = true → ∀ j, j < i + 1 → defOk o.code.size o.defs j = true :=
      fun a b c d => upto hall (by simp only [defOk, h5, a, withinF, b, c, d, Bool.and_self])
    simp [h5]
    refine br_guard_f rfl (fun h6 => ?_) (fun h6 => ?_) <;> have h6' := h6 <;> rw [hasS_range] at h6' <;> simp only [Bool.not_eq_true', Bool.not_eq_false'] at h6'
    · simp [h6, cr52, bad (by simp only [defOk, h6', Bool.and_false])]
    simp [h6]
    refine br_guard_f rfl (fun h7 => ?_) (fun h7 => ?_)
    · simp [h7, cr52, bad (by simp [defOk, withinF, leI_f.2 (ltI_t.1 h7)])]
    have h7' := leI_t.2 (ltI_f.1 h7)
    simp [h7]
    refine br_guard_f rfl (fun h8 => ?_) (fun h8 => ?_)
    · simp [h8, cr52, bad (by simp [defOk, withinF, leI_f.2 (ltI_t.1 h8)])]
    have h8' := leI_t.2 (ltI_f.1 h8)
    simp [h8]
    refine br_cond rfl (fun h9 => ?_) (fun h9 => ?_) <;> simp at h9
    · simp [cr52, bad (by simp [defOk, h9])]
    have hu : updA (.str (ix o.defs i).name) (.bool true) (setS ((List.range i).map fun j => (ix o.defs j).name)) = some (setS ((List.range (i + 1)).map fun j => (ix o.defs j).name)) := by
      rw [updS _ _ h6, List.range_succ, List.map_append]; rfl
    simp [hu, hw]
    exact ⟨i + 1, ⟨by omega, goodn h6' h7' h8' h9⟩, by omega, Env.le_of (by simp), nx + 1, Mem.le_of rfl (by simp)⟩
  clear hw
  have hid : i = o.defs.length := by have := ltI_f.1 h4; omega
  have hD : (List.range o.defs.length).all (defOk o.code.size o.defs) = true := all_t (by rw [← hid]; exact hall)
  clear hall hi
  simp [h4]
  clear h4 hid
  -- the places
  refine wpS_loop (ι := Nat × Nat) (fun s => [(1, .ptr 0 0 0), (2, .bool false), (3, .int .i64 o.code.size), (5, .map 2 2), (70, .list true 3 (o.refs.map DRef.av)), (71, .int .i64 o.refs.length), (72, .int .i64 s.1)])
    (fun s => ⟨[(0, .cells o.av), (1, .map (setS ((List.range i).map fun j => (ix o.defs j).name))), (2, .map (setI ((List.range s.1).map fun j => (ix o.refs j).at_)))], s.2⟩) (fun s => o.refs.length - s.1) (fun s => s.1 ≤ o.refs.length ∧ ∀ j, j < s.1 → refOk o.code.size o.refs j = true) (0, nx) (by simp) (Env.le_of (by simp)) (by simp [Deck.av, setI]) ?_
  intro ⟨i', nx⟩ ⟨hi, hall⟩
  simp only at hi hall
  have hw : IntKind.i64.wrap (i' + 1) = i' + 1 := wrap64 (by omega) (by omega)
  have hw4 : IntKind.i64.wrap ((o.code.size : Int) - 4) = (o.code.size : Int) - 4 := wrap64 (by omega) (by omega)
  simp [Deck.av]
  refine br_cond rfl (fun h4 => ?_) (fun h4 => ?_)
  · have hlt : i' < o.refs.length := by have := ltI_t.1 h4; omega
    have bad : refOk o.code.size o.refs i' = false → deckOk o = false := fun h => by simp [deckOk, all_f hlt h]
    simp [h4, idxM, DRef.av]
    refine xcall_p (call71 (ix o.refs i').name (hs.rname _ (ix_mem hlt))) rfl ?_
    simp
    refine br_guard_f rfl (fun h5 => ?_) (fun h5 => ?_) <;> simp at h5
    · simp [h5, cr52, bad (by simp [refOk, h5])]
    simp [h5]
    refine br_guard_f rfl (fun h6 => ?_) (fun h6 => ?_) <;> have h6' := h6 <;> rw [hasI_range] at h6' <;> simp only [Bool.not_eq_true', Bool.not_eq_false'] at h6'
    · simp [h6, cr52, bad (by simp only [refOk, h6', Bool.and_false])]
    simp [h6]
    refine br_guard_f rfl (fun h7 => ?_) (fun h7 => ?_)
    · simp [h7, cr52, bad (by simp [refOk, withinF, leI_f.2 (ltI_t.1 h7)])]
    have h7' := leI_t.2 (ltI_f.1 h7)
    simp [h7, hw4]
    refine br_guard_f rfl (fun h8 => ?_) (fun h8 => ?_)
    · simp [h8, cr52, bad (by simp [refOk, withinF, leI_f.2 (ltI_t.1 h8)])]
    have h8' := leI_t.2 (ltI_f.1 h8)
    simp [h8]
    refine br_guard_f rfl (fun h9 => ?_) (fun h9 => ?_) <;> simp at h9
    · simp [h9, cr52, bad (by simp [refOk, h9])]
    simp [h9]
    refine br_guard_f rfl (fun h10 => ?_) (fun h10 => ?_)
    · simp [h10, cr52, bad (by simp [refOk, withinF, leI_f.2 (ltI_t.1 h10)])]
    have h10' := leI_t.2 (ltI_f.1 h10)
    simp [h10]
    refine br_cond rfl (fun h11 => ?_) (fun h11 => ?_)
    · simp [cr52, bad (by simp [refOk, withinF, leI_f.2 (ltI_t.1 h11)])]
    have h11' := leI_t.2 (ltI_f.1 h11)
    have hu : updA (.int .i64 (ix o.refs i').at_) (.bool true) (setI ((List.range i').map fun j => (ix o.refs j).at_)) = some (setI ((List.range (i' + 1)).map fun j => (ix o.refs j).at_)) := by
      rw [updI _ _ h6, List.range_succ, List.map_append]; rfl
    have good : ∀ j, j < i' + 1 → refOk o.code.size o.refs j = true := upto hall (by simp only [refOk, h5, withinF, h6', h7', h8', h9, h10', h11', Bool.and_self])
    simp [hu, hw]
    exact ⟨i' + 1, ⟨by omega, good⟩, by omega, Env.le_of (by simp), nx + 1, Mem.le_of rfl (by simp)⟩
  clear hw
  have hid : i' = o.refs.length := by have := ltI_f.1 h4; omega
  have hR : (List.range o.refs.length).all (refOk o.code.size o.refs) = true := all_t (by rw [← hid]; exact hall)
  clear hall hi
  simp [h4]
  clear h4 hid
  -- the lines
  refine wpS_loop (ι := Nat × Nat) (fun s => [(1, .ptr 0 0 0), (2, .bool false), (3, .int .i64 o.code.size), (10, .int .i64 (lastAt o.lines s.1)), (119, .list true 2 (o.lines.map DLine.av)), (120, .int .i64 o.lines.length), (121, .int .i64 s.1)])
    (fun s => ⟨[(0, .cells o.av), (1, .map (setS ((List.range i).map fun j => (ix o.defs j).name))), (2, .map (setI ((List.range i').map fun j => (ix o.refs j).at_)))], s.2⟩) (fun s => o.lines.length - s.1) (fun s => s.1 ≤ o.lines.length ∧ ∀ j, j < s.1 → lineOk o.code.size o.lines j = true) (0, nx) (by simp) (Env.le_of (by simp [lastAt])) (by simp [Deck.av]) ?_
  intro ⟨k, nx⟩ ⟨hi, hall⟩
  simp only at hi hall
  have hw : IntKind.i64.wrap (k + 1) = k + 1 := wrap64 (by omega) (by omega)
  simp [Deck.av]
  refine br_cond rfl (fun h4 => ?_) (fun h4 => ?_)
  · have hlt : k < o.lines.length := by have := ltI_t.1 h4; omega
    have bad : lineOk o.code.size o.lines k = false → deckOk o = false := fun h => by simp [deckOk, all_f hlt h]
    have hn := lineOk_next hall
    simp [h4, idxM, DLine.av]
    refine br_guard_f rfl (fun h5 => ?_) (fun h5 => ?_)
    · simp [h5, cr52, bad (by rw [hn]; simp [h5])]
    simp [h5]
    refine br_guard_f rfl (fun h6 => ?_) (fun h6 => ?_)
    · simp [h6, cr52, bad (by rw [hn]; simp [h6])]
    simp [h6]
    refine br_guard_f rfl (fun h7 => ?_) (fun h7 => ?_) <;> simp at h7
    · simp [h7, cr52, bad (by rw [hn]; simp [h7])]
    simp [h7]
    refine br_guard_f rfl (fun h8 => ?_) (fun h8 => ?_)
    · simp [h8, cr52, bad (by rw [hn]; simp [h8])]
    simp [h8]
    refine br_cond rfl (fun h9 => ?_) (fun h9 => ?_)
    · simp [cr52, bad (by rw [hn]; simp [h9])]
    simp [hw]
    exact ⟨k + 1, ⟨by omega, upto hall (by rw [hn]; simp [h5, h6, h7, h8, h9])⟩, by omega, Env.le_of (by simp [lastAt]), nx + 1, Mem.le_of rfl (by simp)⟩
  have hid : k = o.lines.length := by have := ltI_f.1 h4; omega
  have hL : (List.range o.lines.length).all (lineOk o.code.size o.lines) = true := all_t (by rw [← hid]; exact hall)
  simp [h4, cr52, deckOk, h1, h2, h3, hD, hR, hL]
end Go.Pm

/- LkS3: code, resolved. Written by gen.py out of what ShowSC.lean printed. -/
namespace Go.Pm
open Go Go.Proofs

/-- ironbark/ironbarkref34.all -/
def c32 : SC :=
  (.seq (.ops [⟨(some 4), .plain .mv, [.lit (.bool false)], none⟩] [])
  (.seq (.seq (.ops [⟨(some 5), .plain .mv, [.lit (.int .i64 0)], none⟩] [])
  (.block 0
   (.loop
    (.seq (.seq (.ops [⟨(some 8), .plain .mv, [.tmp 5], none⟩,
      ⟨(some 9), .plain .mv, [.tmp 0], none⟩,
      ⟨(some 10), .plain (.len 1), [.tmp 9], none⟩,
      ⟨(some 11), .plain (.bin .lss), [.tmp 8, .tmp 10], none⟩] [8, 9, 10])
    (.cond (.tmp 11)
     .skip
     (.exit 0)))
    (.seq (.block 1
     (.seq (.ops [⟨(some 14), .plain .mv, [.tmp 0], none⟩,
       ⟨(some 15), .plain .mv, [.tmp 5], none⟩,
       ⟨(some 16), .plain (.indexAddr 5), [.tmp 14, .tmp 15], none⟩,
       ⟨(some 17), .plain (.load true 5), [.tmp 16], none⟩,
       ⟨(some 18), .call 63, [.tmp 17], none⟩,
       ⟨(some 19), .plain (.un .not), [.tmp 18], none⟩] [14, 15, 16, 17, 18])
     (.cond (.tmp 19)
      (.seq (.ops [⟨(some 4), .plain .mv, [.lit (.bool false)], none⟩] [])
      .ret)
      .skip)))
    (.ops [⟨(some 12), .plain .mv, [.tmp 5], none⟩,
      ⟨(some 13), .plain (.bin .add), [.tmp 12, .lit (.int .i64 1)], none⟩,
      ⟨(some 5), .plain .mv, [.tmp 13], none⟩] [12, 13]))))))
  (.seq (.seq (.ops [⟨(some 6), .plain .mv, [.lit (.int .i64 0)], none⟩] [])
  (.block 2
   (.loop
    (.seq (.seq (.ops [⟨(some 20), .plain .mv, [.tmp 6], none⟩,
      ⟨(some 21), .plain .mv, [.tmp 1], none⟩,
      ⟨(some 22), .plain (.len 1), [.tmp 21], none⟩,
      ⟨(some 23), .plain (.bin .lss), [.tmp 20, .tmp 22], none⟩] [20, 21, 22])
    (.cond (.tmp 23)
     .skip
     (.exit 2)))
    (.seq (.block 3
     (.seq (.ops [⟨(some 7), .plain .mv, [.lit (.int .i64 0)], none⟩] [])
     (.block 4
      (.loop
       (.seq (.seq (.ops [⟨(some 26), .plain .mv, [.tmp 7], none⟩,
         ⟨(some 27), .plain .mv, [.tmp 1], none⟩,
         ⟨(some 28), .plain .mv, [.tmp 6], none⟩,
         ⟨(some 29), .plain (.indexAddr 1), [.tmp 27, .tmp 28], none⟩,
         ⟨(some 30), .plain (.load false 1), [.tmp 29], none⟩,
         ⟨(some 31), .plain (.len 1), [.tmp 30], none⟩,
         ⟨(some 32), .plain (.bin .lss), [.tmp 26, .tmp 31], none⟩] [26, 27, 28, 29, 30, 31])
       (.cond (.tmp 32)
        .skip
        (.exit 4)))
       (.seq (.block 5
        (.seq (.ops [⟨(some 35), .plain .mv, [.tmp 1], none⟩,
          ⟨(some 36), .plain .mv, [.tmp 6], none⟩,
          ⟨(some 37), .plain (.indexAddr 1), [.tmp 35, .tmp 36], none⟩,
          ⟨(some 38), .plain (.load false 1), [.tmp 37], none⟩,
          ⟨(some 39), .plain .mv, [.tmp 7], none⟩,
          ⟨(some 40), .plain (.indexAddr 5), [.tmp 38, .tmp 39], none⟩,
          ⟨(some 41), .plain (.load true 5), [.tmp 40], none⟩,
          ⟨(some 42), .call 63, [.tmp 41], none⟩,
          ⟨(some 43), .plain (.un .not), [.tmp 42], none⟩] [35, 36, 37, 38, 39, 40, 41, 42])
        (.cond (.tmp 43)
         (.seq (.ops [⟨(some 4), .plain .mv, [.lit (.bool false)], none⟩] [])
         .ret)
         .skip)))
       (.ops [⟨(some 33), .plain .mv, [.tmp 7], none⟩,
         ⟨(some 34), .plain (.bin .add), [.tmp 33, .lit (.int .i64 1)], none⟩,
         ⟨(some 7), .plain .mv, [.tmp 34], none⟩] [33, 34])))))))
    (.ops [⟨(some 24), .plain .mv, [.tmp 6], none⟩,
      ⟨(some 25), .plain (.bin .add), [.tmp 24, .lit (.int .i64 1)], none⟩,
      ⟨(some 6), .plain .mv, [.tmp 25], none⟩] [24, 25]))))))
  (.seq (.ops [⟨(some 4), .plain .mv, [.lit (.bool true)], none⟩] [])
  .ret))))
def cr32 : List Res := [(4, none)]
theorem ok32 : FOk Try.prog Lk.imp 32 c32 cr32 Try.f32.ntmps := ⟨Try.f32, _, Try.func32, rfl, by kernel_rfl, by kernel_rfl, by kernel_rfl, rfl⟩

/-- ironbark/ironbarkref34.defs -/
def c33 : SC :=
  (.seq (.ops [⟨(some 4), .plain .mv, [.lit (.bool false)], none⟩] [])
  (.seq (.seq (.ops [⟨(some 6), .plain .mv, [.tmp 0], none⟩,
    ⟨(some 7), .plain (.len 1), [.tmp 6], none⟩,
    ⟨(some 8), .plain .mv, [.tmp 1], none⟩,
    ⟨(some 9), .plain (.len 1), [.tmp 8], none⟩,
    ⟨(some 10), .plain (.bin .neq), [.tmp 7, .tmp 9], none⟩] [6, 7, 8, 9])
  (.cond (.tmp 10)
   (.seq (.ops [⟨(some 4), .plain .mv, [.lit (.bool false)], none⟩] [])
   .ret)
   .skip))
  (.seq (.seq (.ops [⟨(some 5), .plain .mv, [.lit (.int .i64 0)], none⟩] [])
  (.block 0
   (.loop
    (.seq (.seq (.ops [⟨(some 11), .plain .mv, [.tmp 5], none⟩,
      ⟨(some 12), .plain .mv, [.tmp 0], none⟩,
      ⟨(some 13), .plain (.len 1), [.tmp 12], none⟩,
      ⟨(some 14), .plain (.bin .lss), [.tmp 11, .tmp 13], none⟩] [11, 12, 13])
    (.cond (.tmp 14)
     .skip
     (.exit 0)))
    (.seq (.block 1
     (.seq (.draw (.step ⟨(some 17), .plain .mv, [.tmp 0], none⟩
       (.step ⟨(some 18), .plain .mv, [.tmp 5], none⟩
       (.step ⟨(some 19), .plain (.indexAddr 2), [.tmp 17, .tmp 18], none⟩
       (.step ⟨(some 20), .plain (.load true 2), [.tmp 19], none⟩
       (.step ⟨(some 21), .plain .mv, [.tmp 1], none⟩
       (.step ⟨(some 22), .plain .mv, [.tmp 5], none⟩
       (.step ⟨(some 23), .plain (.indexAddr 2), [.tmp 21, .tmp 22], none⟩
       (.step ⟨(some 24), .plain (.load true 2), [.tmp 23], none⟩
       (.step ⟨(some 25), .plain (.eqAgg true [.str, .int]), [.tmp 20, .tmp 24], none⟩
       .done))))))))) [17, 18, 19, 20, 21, 22, 23, 24])
     (.cond (.tmp 25)
      (.seq (.ops [⟨(some 4), .plain .mv, [.lit (.bool false)], none⟩] [])
      .ret)
      .skip)))
    (.ops [⟨(some 15), .plain .mv, [.tmp 5], none⟩,
      ⟨(some 16), .plain (.bin .add), [.tmp 15, .lit (.int .i64 1)], none⟩,
      ⟨(some 5), .plain .mv, [.tmp 16], none⟩] [15, 16]))))))
  (.seq (.ops [⟨(some 4), .plain .mv, [.lit (.bool true)], none⟩] [])
  .ret))))
def cr33 : List Res := [(4, none)]
theorem ok33 : FOk Try.prog Lk.imp 33 c33 cr33 Try.f33.ntmps := ⟨Try.f33, _, Try.func33, rfl, by kernel_rfl, by kernel_rfl, by kernel_rfl, rfl⟩

/-- ironbark/ironbarkref34.lines -/
def c34 : SC :=
  (.seq (.ops [⟨(some 4), .plain .mv, [.lit (.bool false)], none⟩] [])
  (.seq (.seq (.ops [⟨(some 6), .plain .mv, [.tmp 0], none⟩,
    ⟨(some 7), .plain (.len 1), [.tmp 6], none⟩,
    ⟨(some 8), .plain .mv, [.tmp 1], none⟩,
    ⟨(some 9), .plain (.len 1), [.tmp 8], none⟩,
    ⟨(some 10), .plain (.bin .neq), [.tmp 7, .tmp 9], none⟩] [6, 7, 8, 9])
  (.cond (.tmp 10)
   (.seq (.ops [⟨(some 4), .plain .mv, [.lit (.bool false)], none⟩] [])
   .ret)
   .skip))
  (.seq (.seq (.ops [⟨(some 5), .plain .mv, [.lit (.int .i64 0)], none⟩] [])
  (.block 0
   (.loop
    (.seq (.seq (.ops [⟨(some 11), .plain .mv, [.tmp 5], none⟩,
      ⟨(some 12), .plain .mv, [.tmp 0], none⟩,
      ⟨(some 13), .plain (.len 1), [.tmp 12], none⟩,
      ⟨(some 14), .plain (.bin .lss), [.tmp 11, .tmp 13], none⟩] [11, 12, 13])
    (.cond (.tmp 14)
     .skip
     (.exit 0)))
    (.seq (.block 1
     (.seq (.draw (.step ⟨(some 17), .plain .mv, [.tmp 0], none⟩
       (.step ⟨(some 18), .plain .mv, [.tmp 5], none⟩
       (.step ⟨(some 19), .plain (.indexAddr 2), [.tmp 17, .tmp 18], none⟩
       (.step ⟨(some 20), .plain (.load true 2), [.tmp 19], none⟩
       (.step ⟨(some 21), .plain .mv, [.tmp 1], none⟩
       (.step ⟨(some 22), .plain .mv, [.tmp 5], none⟩
       (.step ⟨(some 23), .plain (.indexAddr 2), [.tmp 21, .tmp 22], none⟩
       (.step ⟨(some 24), .plain (.load true 2), [.tmp 23], none⟩
       (.step ⟨(some 25), .plain (.eqAgg true [.int, .int]), [.tmp 20, .tmp 24], none⟩
       .done))))))))) [17, 18, 19, 20, 21, 22, 23, 24])
     (.cond (.tmp 25)
      (.seq (.ops [⟨(some 4), .plain .mv, [.lit (.bool false)], none⟩] [])
      .ret)
      .skip)))
    (.ops [⟨(some 15), .plain .mv, [.tmp 5], none⟩,
      ⟨(some 16), .plain (.bin .add), [.tmp 15, .lit (.int .i64 1)], none⟩,
      ⟨(some 5), .plain .mv, [.tmp 16], none⟩] [15, 16]))))))
  (.seq (.ops [⟨(some 4), .plain .mv, [.lit (.bool true)], none⟩] [])
  .ret))))
def cr34 : List Res := [(4, none)]
theorem ok34 : FOk Try.prog Lk.imp 34 c34 cr34 Try.f34.ntmps := ⟨Try.f34, _, Try.func34, rfl, by kernel_rfl, by kernel_rfl, by kernel_rfl, rfl⟩

/-- ironbark/ironbarkref34.Same -/
def c15 : SC :=
  (.seq (.ops [⟨(some 2), .plain (.box 5), [.tmp 0], none⟩,
    ⟨(some 3), .plain (.box 5), [.tmp 1], none⟩,
    ⟨(some 4), .plain .mv, [.lit (.bool false)], none⟩] [])
  (.seq (.ops [⟨(some 5), .plain (.fieldAddr 0), [.tmp 2], none⟩,
    ⟨(some 6), .plain (.load false 1), [.tmp 5], none⟩,
    ⟨(some 7), .plain (.fieldAddr 0), [.tmp 3], none⟩,
    ⟨(some 8), .plain (.load false 1), [.tmp 7], none⟩,
    ⟨(some 9), .plain (.bin .eql), [.tmp 6, .tmp 8], none⟩,
    ⟨(some 10), .plain .mv, [.tmp 9], none⟩,
    ⟨(some 11), .plain (.fieldAddr 1), [.tmp 2], (some (10, true))⟩,
    ⟨(some 12), .plain (.load false 1), [.tmp 11], (some (10, true))⟩,
    ⟨(some 13), .plain (.fieldAddr 1), [.tmp 3], (some (10, true))⟩,
    ⟨(some 14), .plain (.load false 1), [.tmp 13], (some (10, true))⟩,
    ⟨(some 15), .plain (.bin .eql), [.tmp 12, .tmp 14], (some (10, true))⟩,
    ⟨(some 16), .plain .pick, [.tmp 10, .tmp 15, .lit (.bool false)], none⟩,
    ⟨(some 17), .plain .mv, [.tmp 16], none⟩,
    ⟨(some 18), .plain (.fieldAddr 2), [.tmp 2], (some (17, true))⟩,
    ⟨(some 19), .plain (.load false 1), [.tmp 18], (some (17, true))⟩,
    ⟨(some 20), .plain (.fieldAddr 2), [.tmp 3], (some (17, true))⟩,
    ⟨(some 21), .plain (.load false 1), [.tmp 20], (some (17, true))⟩,
    ⟨(some 22), .call 33, [.tmp 19, .tmp 21], (some (17, true))⟩,
    ⟨(some 23), .plain .pick, [.tmp 17, .tmp 22, .lit (.bool false)], none⟩,
    ⟨(some 24), .plain .mv, [.tmp 23], none⟩,
    ⟨(some 25), .plain (.fieldAddr 4), [.tmp 2], (some (24, true))⟩,
    ⟨(some 26), .plain (.load false 1), [.tmp 25], (some (24, true))⟩,
    ⟨(some 27), .plain (.fieldAddr 4), [.tmp 3], (some (24, true))⟩,
    ⟨(some 28), .plain (.load false 1), [.tmp 27], (some (24, true))⟩,
    ⟨(some 29), .call 33, [.tmp 26, .tmp 28], (some (24, true))⟩,
    ⟨(some 30), .plain .pick, [.tmp 24, .tmp 29, .lit (.bool false)], none⟩,
    ⟨(some 31), .plain .mv, [.tmp 30], none⟩,
    ⟨(some 32), .plain (.fieldAddr 3), [.tmp 2], (some (31, true))⟩,
    ⟨(some 33), .plain (.load false 1), [.tmp 32], (some (31, true))⟩,
    ⟨(some 34), .plain (.fieldAddr 3), [.tmp 3], (some (31, true))⟩,
    ⟨(some 35), .plain (.load false 1), [.tmp 34], (some (31, true))⟩,
    ⟨(some 36), .call 34, [.tmp 33, .tmp 35], (some (31, true))⟩,
    ⟨(some 37), .plain .pick, [.tmp 31, .tmp 36, .lit (.bool false)], none⟩,
    ⟨(some 4), .plain .mv, [.tmp 37], none⟩] [5, 6, 7, 8, 9, 10, 11, 12, 13, 14, 15, 16, 17, 18, 19, 20, 21, 22, 23, 24, 25, 26, 27, 28, 29, 30, 31, 32, 33, 34, 35, 36, 37])
  .ret))
def cr15 : List Res := [(4, none)]
theorem ok15 : FOk Try.prog Lk.imp 15 c15 cr15 Try.f15.ntmps := ⟨Try.f15, _, Try.func15, rfl, by kernel_rfl, by kernel_rfl, by kernel_rfl, rfl⟩

/-- ironbark/ironbarkref34.Image -/
def c31 : SC :=
  (.seq (.ops [⟨(some 1), .plain (.box 5), [.tmp 0], none⟩,
    ⟨(some 2), .plain .mv, [.lit (.bool false)], none⟩] [])
  (.seq (.ops [⟨(some 7), .plain (.fieldAddr 0), [.tmp 1], none⟩,
    ⟨(some 8), .plain (.load false 1), [.tmp 7], none⟩,
    ⟨(some 9), .plain (.fieldAddr 1), [.tmp 1], none⟩,
    ⟨(some 10), .plain (.load false 1), [.tmp 9], none⟩,
    ⟨(some 11), .plain (.len 0), [.tmp 10], none⟩,
    ⟨(some 12), .plain (.bin .add), [.tmp 8, .tmp 11], none⟩,
    ⟨(some 3), .plain .mv, [.tmp 12], none⟩] [7, 8, 9, 10, 11, 12])
  (.seq (.seq (.ops [⟨(some 13), .plain (.fieldAddr 0), [.tmp 1], none⟩,
    ⟨(some 14), .plain (.load false 1), [.tmp 13], none⟩,
    ⟨(some 15), .call 35, [.tmp 14], none⟩,
    ⟨(some 16), .plain (.un .not), [.tmp 15], none⟩,
    ⟨(some 17), .plain .mv, [.tmp 16], none⟩,
    ⟨(some 18), .plain .mv, [.tmp 3], (some (17, false))⟩,
    ⟨(some 19), .plain (.bin .gtr), [.tmp 18, .lit (.int .i64 65536)], (some (17, false))⟩,
    ⟨(some 20), .plain .pick, [.tmp 17, .lit (.bool true), .tmp 19], none⟩] [13, 14, 15, 16, 17, 18, 19])
  (.cond (.tmp 20)
   (.seq (.ops [⟨(some 2), .plain .mv, [.lit (.bool false)], none⟩] [])
   .ret)
   .skip))
  (.seq (.seq (.ops [⟨(some 4), .plain .mv, [.lit (.int .i64 0)], none⟩] [])
  (.block 0
   (.loop
    (.seq (.seq (.ops [⟨(some 21), .plain .mv, [.tmp 4], none⟩,
      ⟨(some 22), .plain (.fieldAddr 2), [.tmp 1], none⟩,
      ⟨(some 23), .plain (.load false 1), [.tmp 22], none⟩,
      ⟨(some 24), .plain (.len 1), [.tmp 23], none⟩,
      ⟨(some 25), .plain (.bin .lss), [.tmp 21, .tmp 24], none⟩] [21, 22, 23, 24])
    (.cond (.tmp 25)
     .skip
     (.exit 0)))
    (.seq (.block 1
     (.seq (.draw (.step ⟨(some 28), .plain (.fieldAddr 2), [.tmp 1], none⟩
       (.step ⟨(some 29), .plain (.load false 1), [.tmp 28], none⟩
       (.step ⟨(some 30), .plain .mv, [.tmp 4], none⟩
       (.step ⟨(some 31), .plain (.indexAddr 2), [.tmp 29, .tmp 30], none⟩
       (.step ⟨(some 32), .plain (.fieldAddr 0), [.tmp 31], none⟩
       (.step ⟨(some 33), .plain (.load false 1), [.tmp 32], none⟩
       (.step ⟨(some 34), .call 61, [.tmp 33], none⟩
       (.step ⟨(some 35), .plain (.un .not), [.tmp 34], none⟩
       (.step ⟨(some 36), .plain .mv, [.tmp 35], none⟩
       (.step ⟨(some 37), .plain (.fieldAddr 2), [.tmp 1], (some (36, false))⟩
       (.step ⟨(some 38), .plain (.load false 1), [.tmp 37], (some (36, false))⟩
       (.step ⟨(some 39), .plain .mv, [.tmp 4], (some (36, false))⟩
       (.step ⟨(some 40), .plain (.indexAddr 2), [.tmp 38, .tmp 39], (some (36, false))⟩
       (.step ⟨(some 41), .plain (.fieldAddr 1), [.tmp 40], (some (36, false))⟩
       (.step ⟨(some 42), .plain (.load false 1), [.tmp 41], (some (36, false))⟩
       (.step ⟨(some 43), .plain (.fieldAddr 0), [.tmp 1], (some (36, false))⟩
       (.step ⟨(some 44), .plain (.load false 1), [.tmp 43], (some (36, false))⟩
       (.step ⟨(some 45), .plain .mv, [.tmp 3], (some (36, false))⟩
       (.step ⟨(some 46), .call 62, [.tmp 42, .tmp 44, .tmp 45], (some (36, false))⟩
       (.step ⟨(some 47), .plain (.un .not), [.tmp 46], (some (36, false))⟩
       (.step ⟨(some 48), .plain .pick, [.tmp 36, .lit (.bool true), .tmp 47], none⟩
       (.step ⟨(some 49), .plain .mv, [.tmp 48], none⟩
       (.step ⟨(some 50), .plain .mv, [.tmp 4], (some (49, false))⟩
       (.step ⟨(some 51), .plain (.bin .gtr), [.tmp 50, .lit (.int .i64 0)], (some (49, false))⟩
       (.step ⟨(some 52), .plain .mv, [.tmp 51], (some (49, false))⟩
       (.step ⟨(some 53), .plain (.fieldAddr 2), [.tmp 1], (some (52, true))⟩
       (.step ⟨(some 54), .plain (.load false 1), [.tmp 53], (some (52, true))⟩
       (.step ⟨(some 55), .plain .mv, [.tmp 4], (some (52, true))⟩
       (.step ⟨(some 56), .plain (.bin .sub), [.tmp 55, .lit (.int .i64 1)], (some (52, true))⟩
       (.step ⟨(some 57), .plain (.indexAddr 2), [.tmp 54, .tmp 56], (some (52, true))⟩
       (.step ⟨(some 58), .plain (.fieldAddr 0), [.tmp 57], (some (52, true))⟩
       (.step ⟨(some 59), .plain (.load false 1), [.tmp 58], (some (52, true))⟩
       (.step ⟨(some 60), .plain (.fieldAddr 2), [.tmp 1], (some (52, true))⟩
       (.step ⟨(some 61), .plain (.load false 1), [.tmp 60], (some (52, true))⟩
       (.step ⟨(some 62), .plain .mv, [.tmp 4], (some (52, true))⟩
       (.step ⟨(some 63), .plain (.indexAddr 2), [.tmp 61, .tmp 62], (some (52, true))⟩
       (.step ⟨(some 64), .plain (.fieldAddr 0), [.tmp 63], (some (52, true))⟩
       (.step ⟨(some 65), .plain (.load false 1), [.tmp 64], (some (52, true))⟩
       (.step ⟨(some 66), .plain (.bin .geq), [.tmp 59, .tmp 65], (some (52, true))⟩
       (.step ⟨(some 67), .plain .pick, [.tmp 52, .tmp 66, .lit (.bool false)], (some (49, false))⟩
       (.step ⟨(some 68), .plain .pick, [.tmp 49, .lit (.bool true), .tmp 67], none⟩
       .done))))))))))))))))))))))))))))))))))))))))) [28, 29, 30, 31, 32, 33, 34, 35, 36, 37, 38, 39, 40, 41, 42, 43, 44, 45, 46, 47, 48, 49, 50, 51, 52, 53, 54, 55, 56, 57, 58, 59, 60, 61, 62, 63, 64, 65, 66, 67])
     (.cond (.tmp 68)
      (.seq (.ops [⟨(some 2), .plain .mv, [.lit (.bool false)], none⟩] [])
      .ret)
      .skip)))
    (.ops [⟨(some 26), .plain .mv, [.tmp 4], none⟩,
      ⟨(some 27), .plain (.bin .add), [.tmp 26, .lit (.int .i64 1)], none⟩,
      ⟨(some 4), .plain .mv, [.tmp 27], none⟩] [26, 27]))))))
  (.seq (.seq (.ops [⟨(some 5), .plain .mv, [.lit (.int .i64 0)], none⟩] [])
  (.block 2
   (.loop
    (.seq (.seq (.ops [⟨(some 69), .plain .mv, [.tmp 5], none⟩,
      ⟨(some 70), .plain (.fieldAddr 4), [.tmp 1], none⟩,
      ⟨(some 71), .plain (.load false 1), [.tmp 70], none⟩,
      ⟨(some 72), .plain (.len 1), [.tmp 71], none⟩,
      ⟨(some 73), .plain (.bin .lss), [.tmp 69, .tmp 72], none⟩] [69, 70, 71, 72])
    (.cond (.tmp 73)
     .skip
     (.exit 2)))
    (.seq (.block 3
     (.seq (.draw (.step ⟨(some 76), .plain (.fieldAddr 4), [.tmp 1], none⟩
       (.step ⟨(some 77), .plain (.load false 1), [.tmp 76], none⟩
       (.step ⟨(some 78), .plain .mv, [.tmp 5], none⟩
       (.step ⟨(some 79), .plain (.indexAddr 2), [.tmp 77, .tmp 78], none⟩
       (.step ⟨(some 80), .plain (.fieldAddr 0), [.tmp 79], none⟩
       (.step ⟨(some 81), .plain (.load false 1), [.tmp 80], none⟩
       (.step ⟨(some 82), .call 61, [.tmp 81], none⟩
       (.step ⟨(some 83), .plain (.un .not), [.tmp 82], none⟩
       (.step ⟨(some 84), .plain .mv, [.tmp 83], none⟩
       (.step ⟨(some 85), .plain (.fieldAddr 4), [.tmp 1], (some (84, false))⟩
       (.step ⟨(some 86), .plain (.load false 1), [.tmp 85], (some (84, false))⟩
       (.step ⟨(some 87), .plain .mv, [.tmp 5], (some (84, false))⟩
       (.step ⟨(some 88), .plain (.indexAddr 2), [.tmp 86, .tmp 87], (some (84, false))⟩
       (.step ⟨(some 89), .plain (.fieldAddr 1), [.tmp 88], (some (84, false))⟩
       (.step ⟨(some 90), .plain (.load false 1), [.tmp 89], (some (84, false))⟩
       (.step ⟨(some 91), .plain (.fieldAddr 0), [.tmp 1], (some (84, false))⟩
       (.step ⟨(some 92), .plain (.load false 1), [.tmp 91], (some (84, false))⟩
       (.step ⟨(some 93), .plain .mv, [.tmp 3], (some (84, false))⟩
       (.step ⟨(some 94), .call 62, [.tmp 90, .tmp 92, .tmp 93], (some (84, false))⟩
       (.step ⟨(some 95), .plain (.un .not), [.tmp 94], (some (84, false))⟩
       (.step ⟨(some 96), .plain .pick, [.tmp 84, .lit (.bool true), .tmp 95], none⟩
       (.step ⟨(some 97), .plain .mv, [.tmp 96], none⟩
       (.step ⟨(some 98), .plain (.fieldAddr 4), [.tmp 1], (some (97, false))⟩
       (.step ⟨(some 99), .plain (.load false 1), [.tmp 98], (some (97, false))⟩
       (.step ⟨(some 100), .plain .mv, [.tmp 5], (some (97, false))⟩
       (.step ⟨(some 101), .plain (.indexAddr 2), [.tmp 99, .tmp 100], (some (97, false))⟩
       (.step ⟨(some 102), .plain (.fieldAddr 1), [.tmp 101], (some (97, false))⟩
       (.step ⟨(some 103), .plain (.load false 1), [.tmp 102], (some (97, false))⟩
       (.step ⟨(some 104), .plain (.bin .rem), [.tmp 103, .lit (.int .i64 8)], (some (97, false))⟩
       (.step ⟨(some 105), .plain (.bin .neq), [.tmp 104, .lit (.int .i64 0)], (some (97, false))⟩
       (.step ⟨(some 106), .plain .pick, [.tmp 97, .lit (.bool true), .tmp 105], none⟩
       (.step ⟨(some 107), .plain .mv, [.tmp 106], none⟩
       (.step ⟨(some 108), .plain .mv, [.tmp 5], (some (107, false))⟩
       (.step ⟨(some 109), .plain (.bin .gtr), [.tmp 108, .lit (.int .i64 0)], (some (107, false))⟩
       (.step ⟨(some 110), .plain .mv, [.tmp 109], (some (107, false))⟩
       (.step ⟨(some 111), .plain (.fieldAddr 4), [.tmp 1], (some (110, true))⟩
       (.step ⟨(some 112), .plain (.load false 1), [.tmp 111], (some (110, true))⟩
       (.step ⟨(some 113), .plain .mv, [.tmp 5], (some (110, true))⟩
       (.step ⟨(some 114), .plain (.bin .sub), [.tmp 113, .lit (.int .i64 1)], (some (110, true))⟩
       (.step ⟨(some 115), .plain (.indexAddr 2), [.tmp 112, .tmp 114], (some (110, true))⟩
       (.step ⟨(some 116), .plain (.fieldAddr 1), [.tmp 115], (some (110, true))⟩
       (.step ⟨(some 117), .plain (.load false 1), [.tmp 116], (some (110, true))⟩
       (.step ⟨(some 118), .plain (.fieldAddr 4), [.tmp 1], (some (110, true))⟩
       (.step ⟨(some 119), .plain (.load false 1), [.tmp 118], (some (110, true))⟩
       (.step ⟨(some 120), .plain .mv, [.tmp 5], (some (110, true))⟩
       (.step ⟨(some 121), .plain (.indexAddr 2), [.tmp 119, .tmp 120], (some (110, true))⟩
       (.step ⟨(some 122), .plain (.fieldAddr 1), [.tmp 121], (some (110, true))⟩
       (.step ⟨(some 123), .plain (.load false 1), [.tmp 122], (some (110, true))⟩
       (.step ⟨(some 124), .plain (.bin .gtr), [.tmp 117, .tmp 123], (some (110, true))⟩
       (.step ⟨(some 125), .plain .pick, [.tmp 110, .tmp 124, .lit (.bool false)], (some (107, false))⟩
       (.step ⟨(some 126), .plain .pick, [.tmp 107, .lit (.bool true), .tmp 125], none⟩
       .done))))))))))))))))))))))))))))))))))))))))))))))))))) [76, 77, 78, 79, 80, 81, 82, 83, 84, 85, 86, 87, 88, 89, 90, 91, 92, 93, 94, 95, 96, 97, 98, 99, 100, 101, 102, 103, 104, 105, 106, 107, 108, 109, 110, 111, 112, 113, 114, 115, 116, 117, 118, 119, 120, 121, 122, 123, 124, 125])
     (.cond (.tmp 126)
      (.seq (.ops [⟨(some 2), .plain .mv, [.lit (.bool false)], none⟩] [])
      .ret)
      .skip)))
    (.ops [⟨(some 74), .plain .mv, [.tmp 5], none⟩,
      ⟨(some 75), .plain (.bin .add), [.tmp 74, .lit (.int .i64 1)], none⟩,
      ⟨(some 5), .plain .mv, [.tmp 75], none⟩] [74, 75]))))))
  (.seq (.seq (.ops [⟨(some 6), .plain .mv, [.lit (.int .i64 0)], none⟩] [])
  (.block 4
   (.loop
    (.seq (.seq (.ops [⟨(some 127), .plain .mv, [.tmp 6], none⟩,
      ⟨(some 128), .plain (.fieldAddr 3), [.tmp 1], none⟩,
      ⟨(some 129), .plain (.load false 1), [.tmp 128], none⟩,
      ⟨(some 130), .plain (.len 1), [.tmp 129], none⟩,
      ⟨(some 131), .plain (.bin .lss), [.tmp 127, .tmp 130], none⟩] [127, 128, 129, 130])
    (.cond (.tmp 131)
     .skip
     (.exit 4)))
    (.seq (.block 5
     (.seq (.draw (.step ⟨(some 134), .plain (.fieldAddr 3), [.tmp 1], none⟩
       (.step ⟨(some 135), .plain (.load false 1), [.tmp 134], none⟩
       (.step ⟨(some 136), .plain .mv, [.tmp 6], none⟩
       (.step ⟨(some 137), .plain (.indexAddr 2), [.tmp 135, .tmp 136], none⟩
       (.step ⟨(some 138), .plain (.fieldAddr 0), [.tmp 137], none⟩
       (.step ⟨(some 139), .plain (.load false 1), [.tmp 138], none⟩
       (.step ⟨(some 140), .plain (.fieldAddr 0), [.tmp 1], none⟩
       (.step ⟨(some 141), .plain (.load false 1), [.tmp 140], none⟩
       (.step ⟨(some 142), .plain .mv, [.tmp 3], none⟩
       (.step ⟨(some 143), .call 62, [.tmp 139, .tmp 141, .tmp 142], none⟩
       (.step ⟨(some 144), .plain (.un .not), [.tmp 143], none⟩
       (.step ⟨(some 145), .plain .mv, [.tmp 144], none⟩
       (.step ⟨(some 146), .plain .mv, [.tmp 6], (some (145, false))⟩
       (.step ⟨(some 147), .plain (.bin .gtr), [.tmp 146, .lit (.int .i64 0)], (some (145, false))⟩
       (.step ⟨(some 148), .plain .mv, [.tmp 147], (some (145, false))⟩
       (.step ⟨(some 149), .plain (.fieldAddr 3), [.tmp 1], (some (148, true))⟩
       (.step ⟨(some 150), .plain (.load false 1), [.tmp 149], (some (148, true))⟩
       (.step ⟨(some 151), .plain .mv, [.tmp 6], (some (148, true))⟩
       (.step ⟨(some 152), .plain (.bin .sub), [.tmp 151, .lit (.int .i64 1)], (some (148, true))⟩
       (.step ⟨(some 153), .plain (.indexAddr 2), [.tmp 150, .tmp 152], (some (148, true))⟩
       (.step ⟨(some 154), .plain (.fieldAddr 0), [.tmp 153], (some (148, true))⟩
       (.step ⟨(some 155), .plain (.load false 1), [.tmp 154], (some (148, true))⟩
       (.step ⟨(some 156), .plain (.fieldAddr 3), [.tmp 1], (some (148, true))⟩
       (.step ⟨(some 157), .plain (.load false 1), [.tmp 156], (some (148, true))⟩
       (.step ⟨(some 158), .plain .mv, [.tmp 6], (some (148, true))⟩
       (.step ⟨(some 159), .plain (.indexAddr 2), [.tmp 157, .tmp 158], (some (148, true))⟩
       (.step ⟨(some 160), .plain (.fieldAddr 0), [.tmp 159], (some (148, true))⟩
       (.step ⟨(some 161), .plain (.load false 1), [.tmp 160], (some (148, true))⟩
       (.step ⟨(some 162), .plain (.bin .geq), [.tmp 155, .tmp 161], (some (148, true))⟩
       (.step ⟨(some 163), .plain .pick, [.tmp 148, .tmp 162, .lit (.bool false)], (some (145, false))⟩
       (.step ⟨(some 164), .plain .pick, [.tmp 145, .lit (.bool true), .tmp 163], none⟩
       .done))))))))))))))))))))))))))))))) [134, 135, 136, 137, 138, 139, 140, 141, 142, 143, 144, 145, 146, 147, 148, 149, 150, 151, 152, 153, 154, 155, 156, 157, 158, 159, 160, 161, 162, 163])
     (.cond (.tmp 164)
      (.seq (.ops [⟨(some 2), .plain .mv, [.lit (.bool false)], none⟩] [])
      .ret)
      .skip)))
    (.ops [⟨(some 132), .plain .mv, [.tmp 6], none⟩,
      ⟨(some 133), .plain (.bin .add), [.tmp 132, .lit (.int .i64 1)], none⟩,
      ⟨(some 6), .plain .mv, [.tmp 133], none⟩] [132, 133]))))))
  (.seq (.ops [⟨(some 2), .plain .mv, [.lit (.bool true)], none⟩] [])
  .ret)))))))
def cr31 : List Res := [(2, none)]
theorem ok31 : FOk Try.prog Lk.imp 31 c31 cr31 Try.f31.ntmps := ⟨Try.f31, _, Try.func31, rfl, by kernel_rfl, by kernel_rfl, by kernel_rfl, rfl⟩

/-- ironbark/ironbarkref34.Defs -/
def c64 : SC :=
  (.seq (.ops [⟨(some 1), .plain (.box 5), [.tmp 0], none⟩,
    ⟨(some 2), .plain .mv, [.lit .nilS], none⟩] [])
  (.seq (.ops [⟨(some 5), .plain (.fieldAddr 2), [.tmp 1], none⟩,
    ⟨(some 6), .plain (.load false 1), [.tmp 5], none⟩,
    ⟨(some 7), .plain (.append 40 2 24), [.lit .nilS, .tmp 6], none⟩,
    ⟨(some 3), .plain .mv, [.tmp 7], none⟩] [5, 6, 7])
  (.seq (.seq (.ops [⟨(some 4), .plain .mv, [.lit (.int .i64 0)], none⟩] [])
  (.block 0
   (.loop
    (.seq (.seq (.ops [⟨(some 8), .plain .mv, [.tmp 4], none⟩,
      ⟨(some 9), .plain .mv, [.tmp 3], none⟩,
      ⟨(some 10), .plain (.len 1), [.tmp 9], none⟩,
      ⟨(some 11), .plain (.bin .lss), [.tmp 8, .tmp 10], none⟩] [8, 9, 10])
    (.cond (.tmp 11)
     .skip
     (.exit 0)))
    (.seq (.block 1
     (.seq (.draw (.step ⟨(some 14), .plain .mv, [.tmp 3], none⟩
       (.step ⟨(some 15), .plain .mv, [.tmp 4], none⟩
       (.step ⟨(some 16), .plain (.indexAddr 2), [.tmp 14, .tmp 15], none⟩
       (.step ⟨(some 17), .plain (.fieldAddr 0), [.tmp 16], none⟩
       (.step ⟨(some 18), .plain (.load false 1), [.tmp 17], none⟩
       (.step ⟨(some 19), .plain (.fieldAddr 0), [.tmp 1], none⟩
       (.step ⟨(some 20), .plain (.load false 1), [.tmp 19], none⟩
       (.step ⟨(some 21), .plain (.bin .eql), [.tmp 18, .tmp 20], none⟩
       .done)))))))) [14, 15, 16, 17, 18, 19, 20])
     (.cond (.tmp 21)
      (.seq (.ops [⟨(some 22), .plain .mv, [.tmp 3], none⟩,
        ⟨(some 2), .plain .mv, [.tmp 22], none⟩] [22])
      .ret)
      .skip)))
    (.ops [⟨(some 12), .plain .mv, [.tmp 4], none⟩,
      ⟨(some 13), .plain (.bin .add), [.tmp 12, .lit (.int .i64 1)], none⟩,
      ⟨(some 4), .plain .mv, [.tmp 13], none⟩] [12, 13]))))))
  (.seq (.ops [⟨(some 23), .plain .mv, [.tmp 3], none⟩,
    ⟨(some 24), .plain (.fieldAddr 0), [.tmp 1], none⟩,
    ⟨(some 25), .plain (.load false 1), [.tmp 24], none⟩,
    ⟨(some 26), .plain (.build [(.str ⟨#[]⟩), (.int .i64 0)] [(0, 1)]), [.tmp 25], none⟩,
    ⟨(some 27), .plain (.buildRow 40 2 1 [(.str ⟨#[]⟩), (.int .i64 0)] [0]), [.tmp 26], none⟩,
    ⟨(some 28), .plain (.append 40 2 24), [.tmp 23, .tmp 27], none⟩,
    ⟨(some 2), .plain .mv, [.tmp 28], none⟩] [23, 24, 25, 26, 27, 28])
  .ret))))
def cr64 : List Res := [(2, none)]
theorem ok64 : FOk Try.prog Lk.imp 64 c64 cr64 Try.f64.ntmps := ⟨Try.f64, _, Try.func64, rfl, by kernel_rfl, by kernel_rfl, by kernel_rfl, rfl⟩

/-- ironbark/ironbarkref34.outer -/
def c65 : SC :=
  (.seq (.ops [⟨(some 4), .plain .mv, [.lit (.int .i64 0)], none⟩,
    ⟨(some 5), .plain .mv, [.lit (.bool false)], none⟩] [])
  (.seq (.seq (.ops [⟨(some 6), .plain .mv, [.lit (.int .i64 0)], none⟩] [])
  (.block 0
   (.loop
    (.seq (.seq (.ops [⟨(some 7), .plain .mv, [.tmp 6], none⟩,
      ⟨(some 8), .plain .mv, [.tmp 0], none⟩,
      ⟨(some 9), .plain (.len 1), [.tmp 8], none⟩,
      ⟨(some 10), .plain (.bin .lss), [.tmp 7, .tmp 9], none⟩] [7, 8, 9])
    (.cond (.tmp 10)
     .skip
     (.exit 0)))
    (.seq (.block 1
     (.seq (.ops [⟨(some 13), .plain .mv, [.tmp 0], none⟩,
       ⟨(some 14), .plain .mv, [.tmp 6], none⟩,
       ⟨(some 15), .plain (.indexAddr 2), [.tmp 13, .tmp 14], none⟩,
       ⟨(some 16), .plain (.fieldAddr 0), [.tmp 15], none⟩,
       ⟨(some 17), .plain (.load false 1), [.tmp 16], none⟩,
       ⟨(some 18), .plain .mv, [.tmp 1], none⟩,
       ⟨(some 19), .plain (.bin .eql), [.tmp 17, .tmp 18], none⟩] [13, 14, 15, 16, 17, 18])
     (.cond (.tmp 19)
      (.seq (.ops [⟨(some 20), .plain .mv, [.tmp 0], none⟩,
        ⟨(some 21), .plain .mv, [.tmp 6], none⟩,
        ⟨(some 22), .plain (.indexAddr 2), [.tmp 20, .tmp 21], none⟩,
        ⟨(some 23), .plain (.fieldAddr 1), [.tmp 22], none⟩,
        ⟨(some 24), .plain (.load false 1), [.tmp 23], none⟩,
        ⟨(some 4), .plain .mv, [.tmp 24], none⟩,
        ⟨(some 5), .plain .mv, [.lit (.bool true)], none⟩] [20, 21, 22, 23, 24])
      .ret)
      .skip)))
    (.ops [⟨(some 11), .plain .mv, [.tmp 6], none⟩,
      ⟨(some 12), .plain (.bin .add), [.tmp 11, .lit (.int .i64 1)], none⟩,
      ⟨(some 6), .plain .mv, [.tmp 12], none⟩] [11, 12]))))))
  (.seq (.ops [⟨(some 4), .plain .mv, [.lit (.int .i64 0)], none⟩,
    ⟨(some 5), .plain .mv, [.lit (.bool false)], none⟩] [])
  .ret)))
def cr65 : List Res := [(4, none), (5, none)]
theorem ok65 : FOk Try.prog Lk.imp 65 c65 cr65 Try.f65.ntmps := ⟨Try.f65, _, Try.func65, rfl, by kernel_rfl, by kernel_rfl, by kernel_rfl, rfl⟩

/-- ironbark/ironbarkref34.known -/
def c66 : SC :=
  (.seq (.ops [⟨(some 4), .plain .mv, [.lit (.bool false)], none⟩] [])
  (.seq (.seq (.ops [⟨(some 5), .plain .mv, [.lit (.int .i64 0)], none⟩] [])
  (.block 0
   (.loop
    (.seq (.seq (.ops [⟨(some 6), .plain .mv, [.tmp 5], none⟩,
      ⟨(some 7), .plain .mv, [.tmp 0], none⟩,
      ⟨(some 8), .plain (.len 1), [.tmp 7], none⟩,
      ⟨(some 9), .plain (.bin .lss), [.tmp 6, .tmp 8], none⟩] [6, 7, 8])
    (.cond (.tmp 9)
     .skip
     (.exit 0)))
    (.seq (.block 1
     (.seq (.ops [⟨(some 12), .plain .mv, [.tmp 0], none⟩,
       ⟨(some 13), .plain .mv, [.tmp 5], none⟩,
       ⟨(some 14), .plain (.indexAddr 5), [.tmp 12, .tmp 13], none⟩,
       ⟨(some 15), .plain (.load true 5), [.tmp 14], none⟩,
       ⟨(some 16), .plain .mv, [.tmp 1], none⟩,
       ⟨(some 17), .call 83, [.tmp 15, .tmp 16], none⟩] [12, 13, 14, 15, 16])
     (.cond (.tmp 17)
      (.seq (.ops [⟨(some 4), .plain .mv, [.lit (.bool true)], none⟩] [])
      .ret)
      .skip)))
    (.ops [⟨(some 10), .plain .mv, [.tmp 5], none⟩,
      ⟨(some 11), .plain (.bin .add), [.tmp 10, .lit (.int .i64 1)], none⟩,
      ⟨(some 5), .plain .mv, [.tmp 11], none⟩] [10, 11]))))))
  (.seq (.ops [⟨(some 4), .plain .mv, [.lit (.bool false)], none⟩] [])
  .ret)))
def cr66 : List Res := [(4, none)]
theorem ok66 : FOk Try.prog Lk.imp 66 c66 cr66 Try.f66.ntmps := ⟨Try.f66, _, Try.func66, rfl, by kernel_rfl, by kernel_rfl, by kernel_rfl, rfl⟩

/-- ironbark/ironbarkref34.defines -/
def c83 : SC :=
  (.seq (.ops [⟨(some 2), .plain (.box 5), [.tmp 0], none⟩,
    ⟨(some 4), .plain .mv, [.lit (.bool false)], none⟩] [])
  (.seq (.ops [⟨(some 7), .plain (.load true 5), [.tmp 2], none⟩,
    ⟨(some 8), .call 64, [.tmp 7], none⟩,
    ⟨(some 5), .plain .mv, [.tmp 8], none⟩] [7, 8])
  (.seq (.seq (.ops [⟨(some 6), .plain .mv, [.lit (.int .i64 0)], none⟩] [])
  (.block 0
   (.loop
    (.seq (.seq (.ops [⟨(some 9), .plain .mv, [.tmp 6], none⟩,
      ⟨(some 10), .plain .mv, [.tmp 5], none⟩,
      ⟨(some 11), .plain (.len 1), [.tmp 10], none⟩,
      ⟨(some 12), .plain (.bin .lss), [.tmp 9, .tmp 11], none⟩] [9, 10, 11])
    (.cond (.tmp 12)
     .skip
     (.exit 0)))
    (.seq (.block 1
     (.seq (.ops [⟨(some 15), .plain .mv, [.tmp 5], none⟩,
       ⟨(some 16), .plain .mv, [.tmp 6], none⟩,
       ⟨(some 17), .plain (.indexAddr 2), [.tmp 15, .tmp 16], none⟩,
       ⟨(some 18), .plain (.fieldAddr 0), [.tmp 17], none⟩,
       ⟨(some 19), .plain (.load false 1), [.tmp 18], none⟩,
       ⟨(some 20), .plain .mv, [.tmp 1], none⟩,
       ⟨(some 21), .plain (.bin .eql), [.tmp 19, .tmp 20], none⟩] [15, 16, 17, 18, 19, 20])
     (.cond (.tmp 21)
      (.seq (.ops [⟨(some 4), .plain .mv, [.lit (.bool true)], none⟩] [])
      .ret)
      .skip)))
    (.ops [⟨(some 13), .plain .mv, [.tmp 6], none⟩,
      ⟨(some 14), .plain (.bin .add), [.tmp 13, .lit (.int .i64 1)], none⟩,
      ⟨(some 6), .plain .mv, [.tmp 14], none⟩] [13, 14]))))))
  (.seq (.ops [⟨(some 4), .plain .mv, [.lit (.bool false)], none⟩] [])
  .ret))))
def cr83 : List Res := [(4, none)]
theorem ok83 : FOk Try.prog Lk.imp 83 c83 cr83 Try.f83.ntmps := ⟨Try.f83, _, Try.func83, rfl, by kernel_rfl, by kernel_rfl, by kernel_rfl, rfl⟩

/-- ironbark/ironbarkref34.found -/
def c67 : SC :=
  (.seq (.ops [⟨(some 6), .plain (.alloc [(.str ⟨#[]⟩), (.str ⟨#[]⟩), .nilS, .nilS, .nilS]), [], none⟩,
    ⟨(some 7), .plain .mv, [.lit (.bool false)], none⟩] [])
  (.seq (.seq (.ops [⟨(some 8), .plain .mv, [.lit (.int .i64 0)], none⟩] [])
  (.block 0
   (.loop
    (.seq (.seq (.ops [⟨(some 13), .plain .mv, [.tmp 8], none⟩,
      ⟨(some 14), .plain .mv, [.tmp 1], none⟩,
      ⟨(some 15), .plain (.len 1), [.tmp 14], none⟩,
      ⟨(some 16), .plain (.bin .lss), [.tmp 13, .tmp 15], none⟩] [13, 14, 15])
    (.cond (.tmp 16)
     .skip
     (.exit 0)))
    (.seq (.block 1
     (.seq (.ops [⟨(some 9), .plain .mv, [.lit (.int .i64 0)], none⟩] [])
     (.block 2
      (.loop
       (.seq (.seq (.ops [⟨(some 19), .plain .mv, [.tmp 9], none⟩,
         ⟨(some 20), .plain .mv, [.tmp 1], none⟩,
         ⟨(some 21), .plain .mv, [.tmp 8], none⟩,
         ⟨(some 22), .plain (.indexAddr 1), [.tmp 20, .tmp 21], none⟩,
         ⟨(some 23), .plain (.load false 1), [.tmp 22], none⟩,
         ⟨(some 24), .plain (.len 1), [.tmp 23], none⟩,
         ⟨(some 25), .plain (.bin .lss), [.tmp 19, .tmp 24], none⟩] [19, 20, 21, 22, 23, 24])
       (.cond (.tmp 25)
        .skip
        (.exit 2)))
       (.seq (.block 3
        (.seq (.ops [⟨(some 28), .plain .mv, [.tmp 1], none⟩,
          ⟨(some 29), .plain .mv, [.tmp 8], none⟩,
          ⟨(some 30), .plain (.indexAddr 1), [.tmp 28, .tmp 29], none⟩,
          ⟨(some 31), .plain (.load false 1), [.tmp 30], none⟩,
          ⟨(some 32), .plain .mv, [.tmp 9], none⟩,
          ⟨(some 33), .plain (.indexAddr 5), [.tmp 31, .tmp 32], none⟩,
          ⟨(some 34), .plain (.load true 5), [.tmp 33], none⟩,
          ⟨(some 10), .plain (.alloc [(.str ⟨#[]⟩), (.str ⟨#[]⟩), .nilS, .nilS, .nilS]), [], none⟩,
          ⟨none, .plain (.store 5), [.tmp 10, .tmp 34], none⟩] [28, 29, 30, 31, 32, 33, 34])
        (.seq (.ops [⟨(some 11), .plain .mv, [.lit (.bool false)], none⟩] [])
        (.seq (.seq (.ops [⟨(some 12), .plain .mv, [.lit (.int .i64 0)], none⟩] [])
        (.block 4
         (.loop
          (.seq (.seq (.ops [⟨(some 35), .plain .mv, [.tmp 12], none⟩,
            ⟨(some 36), .plain .mv, [.tmp 0], none⟩,
            ⟨(some 37), .plain (.len 1), [.tmp 36], none⟩,
            ⟨(some 38), .plain (.bin .lss), [.tmp 35, .tmp 37], none⟩] [35, 36, 37])
          (.cond (.tmp 38)
           .skip
           (.exit 4)))
          (.seq (.block 5
           (.draw (.step ⟨(some 41), .plain .mv, [.tmp 11], none⟩
             (.step ⟨(some 42), .plain .mv, [.tmp 41], none⟩
             (.step ⟨(some 43), .plain .mv, [.tmp 0], (some (42, false))⟩
             (.step ⟨(some 44), .plain .mv, [.tmp 12], (some (42, false))⟩
             (.step ⟨(some 45), .plain (.indexAddr 5), [.tmp 43, .tmp 44], (some (42, false))⟩
             (.step ⟨(some 46), .plain (.fieldAddr 0), [.tmp 45], (some (42, false))⟩
             (.step ⟨(some 47), .plain (.load false 1), [.tmp 46], (some (42, false))⟩
             (.step ⟨(some 48), .plain (.fieldAddr 0), [.tmp 10], (some (42, false))⟩
             (.step ⟨(some 49), .plain (.load false 1), [.tmp 48], (some (42, false))⟩
             (.step ⟨(some 50), .plain (.bin .eql), [.tmp 47, .tmp 49], (some (42, false))⟩
             (.step ⟨(some 51), .plain .pick, [.tmp 42, .lit (.bool true), .tmp 50], none⟩
             (.step ⟨(some 11), .plain .mv, [.tmp 51], none⟩
             .done)))))))))))) [41, 42, 43, 44, 45, 46, 47, 48, 49, 50, 51]))
          (.ops [⟨(some 39), .plain .mv, [.tmp 12], none⟩,
            ⟨(some 40), .plain (.bin .add), [.tmp 39, .lit (.int .i64 1)], none⟩,
            ⟨(some 12), .plain .mv, [.tmp 40], none⟩] [39, 40]))))))
        (.seq (.ops [⟨(some 52), .plain .mv, [.tmp 11], none⟩,
          ⟨(some 53), .plain (.un .not), [.tmp 52], none⟩,
          ⟨(some 54), .plain .mv, [.tmp 53], none⟩,
          ⟨(some 55), .plain (.load true 5), [.tmp 10], (some (54, true))⟩,
          ⟨(some 56), .plain .mv, [.tmp 2], (some (54, true))⟩,
          ⟨(some 57), .call 83, [.tmp 55, .tmp 56], (some (54, true))⟩,
          ⟨(some 58), .plain .pick, [.tmp 54, .tmp 57, .lit (.bool false)], none⟩] [52, 53, 54, 55, 56, 57])
        (.cond (.tmp 58)
         (.seq (.ops [⟨(some 59), .plain (.load true 5), [.tmp 10], none⟩,
           ⟨none, .plain (.store 5), [.tmp 6, .tmp 59], none⟩,
           ⟨(some 7), .plain .mv, [.lit (.bool true)], none⟩] [59])
         .ret)
         .skip))))))
       (.ops [⟨(some 26), .plain .mv, [.tmp 9], none⟩,
         ⟨(some 27), .plain (.bin .add), [.tmp 26, .lit (.int .i64 1)], none⟩,
         ⟨(some 9), .plain .mv, [.tmp 27], none⟩] [26, 27])))))))
    (.ops [⟨(some 17), .plain .mv, [.tmp 8], none⟩,
      ⟨(some 18), .plain (.bin .add), [.tmp 17, .lit (.int .i64 1)], none⟩,
      ⟨(some 8), .plain .mv, [.tmp 18], none⟩] [17, 18]))))))
  (.seq (.ops [⟨(some 60), .plain (.build [(.str ⟨#[]⟩), (.str ⟨#[]⟩), .nilS, .nilS, .nilS] []), [], none⟩,
    ⟨none, .plain (.store 5), [.tmp 6, .tmp 60], none⟩,
    ⟨(some 7), .plain .mv, [.lit (.bool false)], none⟩] [60])
  .ret)))
def cr67 : List Res := [(6, some (true, 5)), (7, none)]
theorem ok67 : FOk Try.prog Lk.imp 67 c67 cr67 Try.f67.ntmps := ⟨Try.f67, _, Try.func67, rfl, by kernel_rfl, by kernel_rfl, by kernel_rfl, rfl⟩

/-- ironbark/link.defs -/
def c54 : SC :=
  (.seq (.ops [⟨(some 1), .plain (.box 5), [.tmp 0], none⟩,
    ⟨(some 2), .plain .mv, [.lit .nilS], none⟩] [])
  (.seq (.seq (.ops [⟨(some 3), .plain (.fieldAddr 2), [.tmp 1], none⟩,
    ⟨(some 4), .plain (.load false 1), [.tmp 3], none⟩,
    ⟨(some 5), .plain (.mkFn 79), [.tmp 1], none⟩,
    ⟨(some 6), .call 78, [.tmp 4, .tmp 5], none⟩] [3, 4, 5])
  (.cond (.tmp 6)
   (.seq (.ops [⟨(some 7), .plain (.fieldAddr 2), [.tmp 1], none⟩,
     ⟨(some 8), .plain (.load false 1), [.tmp 7], none⟩,
     ⟨(some 2), .plain .mv, [.tmp 8], none⟩] [7, 8])
   .ret)
   .skip))
  (.seq (.ops [⟨(some 9), .plain (.fieldAddr 0), [.tmp 1], none⟩,
    ⟨(some 10), .plain (.load false 1), [.tmp 9], none⟩,
    ⟨(some 11), .plain (.build [(.str ⟨#[]⟩), (.int .i64 0)] [(0, 1)]), [.tmp 10], none⟩,
    ⟨(some 12), .plain (.buildRow 40 2 1 [(.str ⟨#[]⟩), (.int .i64 0)] [0]), [.tmp 11], none⟩,
    ⟨(some 13), .plain (.fieldAddr 2), [.tmp 1], none⟩,
    ⟨(some 14), .plain (.load false 1), [.tmp 13], none⟩,
    ⟨(some 15), .plain (.append 40 2 24), [.tmp 12, .tmp 14], none⟩,
    ⟨(some 2), .plain .mv, [.tmp 15], none⟩] [9, 10, 11, 12, 13, 14, 15])
  .ret)))
def cr54 : List Res := [(2, none)]
theorem ok54 : FOk Try.prog Lk.imp 54 c54 cr54 Try.f54.ntmps := ⟨Try.f54, _, Try.func54, rfl, by kernel_rfl, by kernel_rfl, by kernel_rfl, rfl⟩

/-- slices.ContainsFunc[[]ironbark/api.Def,ironbark/api.Def] -/
def c78 : SC :=
  (.seq (.ops [⟨(some 4), .plain .mv, [.lit (.bool false)], none⟩] [])
  (.seq (.ops [⟨(some 5), .plain .mv, [.tmp 0], none⟩,
    ⟨(some 6), .plain .mv, [.tmp 1], none⟩,
    ⟨(some 7), .call 98, [.tmp 5, .tmp 6], none⟩,
    ⟨(some 8), .plain (.bin .geq), [.tmp 7, .lit (.int .i64 0)], none⟩,
    ⟨(some 4), .plain .mv, [.tmp 8], none⟩] [5, 6, 7, 8])
  .ret))
def cr78 : List Res := [(4, none)]
theorem ok78 : FOk Try.prog Lk.imp 78 c78 cr78 Try.f78.ntmps := ⟨Try.f78, _, Try.func78, rfl, by kernel_rfl, by kernel_rfl, by kernel_rfl, rfl⟩

/-- ironbark/link.defs$1 -/
def c79 : SC :=
  (.seq (.ops [⟨(some 2), .plain (.box 2), [.tmp 0], none⟩,
    ⟨(some 3), .plain .mv, [.lit (.bool false)], none⟩] [])
  (.seq (.ops [⟨(some 4), .plain (.fieldAddr 0), [.tmp 2], none⟩,
    ⟨(some 5), .plain (.load false 1), [.tmp 4], none⟩,
    ⟨(some 6), .plain (.fieldAddr 0), [.tmp 1], none⟩,
    ⟨(some 7), .plain (.load false 1), [.tmp 6], none⟩,
    ⟨(some 8), .plain (.bin .eql), [.tmp 5, .tmp 7], none⟩,
    ⟨(some 3), .plain .mv, [.tmp 8], none⟩] [4, 5, 6, 7, 8])
  .ret))
def cr79 : List Res := [(3, none)]
theorem ok79 : FOk Try.prog Lk.imp 79 c79 cr79 Try.f79.ntmps := ⟨Try.f79, _, Try.func79, rfl, by kernel_rfl, by kernel_rfl, by kernel_rfl, rfl⟩

/-- slices.Contains[[]string,string] -/
def c80 : SC :=
  (.seq (.ops [⟨(some 4), .plain .mv, [.lit (.bool false)], none⟩] [])
  (.seq (.ops [⟨(some 5), .plain .mv, [.tmp 0], none⟩,
    ⟨(some 6), .plain .mv, [.tmp 1], none⟩,
    ⟨(some 7), .call 99, [.tmp 5, .tmp 6], none⟩,
    ⟨(some 8), .plain (.bin .geq), [.tmp 7, .lit (.int .i64 0)], none⟩,
    ⟨(some 4), .plain .mv, [.tmp 8], none⟩] [5, 6, 7, 8])
  .ret))
def cr80 : List Res := [(4, none)]
theorem ok80 : FOk Try.prog Lk.imp 80 c80 cr80 Try.f80.ntmps := ⟨Try.f80, _, Try.func80, rfl, by kernel_rfl, by kernel_rfl, by kernel_rfl, rfl⟩

end Go.Pm

/- LkC5: contracts: the names that an object defines. -/
namespace Go.Pm
open Go Go.Proofs
attribute [-simp] List.getElem?_map

theorem drop_ix {α : Type} [Inhabited α] {l : List α} {i : Nat} (h : i < l.length) : l.drop i = ix l i :: l.drop (i + 1) := by
  rw [List.drop_eq_getElem_cons h]
  simp [ix, List.getD, h]

@[simp] theorem take_map {α β : Type} {l : List α} {f : α → β} : (l.map f).take l.length = l.map f := by
  rw [List.take_of_length_le (by simp)]

def outerF (ds : List DDef) (name : ByteArray) : Option Int := (ds.find? fun d => eqS d.name name).map (·.at_)

theorem call65 (p : Bool) (ds : List DDef) (name : ByteArray) (hl : ds.length ≤ 4000000000000) : PCalls Try.prog 65 [.list p 2 (ds.map DDef.av), .str name] fun out => out = .ret (.tuple [.int .i64 ((outerF ds name).getD 0), .bool (outerF ds name).isSome]) := by
  refine ok65.pcalls (by simp) ?_
  simp [c65]
  refine wpS_loop (ι := Nat) (fun i => [(0, .list p 2 (ds.map DDef.av)), (1, .str name), (6, .int .i64 i)]) (fun _ => ⟨[], 0⟩) (fun i => ds.length - i) (fun i => i ≤ ds.length ∧ outerF (ds.drop i) name = outerF ds name) 0 (by simp) (Env.le_of (by simp)) rfl ?_
  intro i ⟨hi, hall⟩
  have hw : IntKind.i64.wrap (i + 1) = i + 1 := wrap64 (by omega) (by omega)
  simp
  refine br_cond rfl (fun h => ?_) (fun h => ?_)
  · have hlt : i < ds.length := by have := ltI_t.1 h; omega
    rw [drop_ix hlt] at hall
    simp [h, idxM, DDef.av]
    refine br_cond rfl (fun h1 => ?_) (fun h1 => ?_)
    · have : outerF ds name = some (ix ds i).at_ := by rw [← hall]; simp [outerF, h1]
      simp [h, idxM, DDef.av, cr65, this]
    · simp [hw]
      exact ⟨i + 1, ⟨by omega, by rw [← hall]; simp [outerF, h1]⟩, by omega, Env.le_of (by simp), Mem.le_of rfl (by simp)⟩
  · have hid : i = ds.length := by have := ltI_f.1 h; omega
    have : outerF ds name = none := by rw [← hall, hid]; simp [outerF]
    simp [h, cr65, this]

def defsF (o : Deck) : List DDef := if o.defs.any (fun d => eqS d.name o.name) then o.defs else o.defs ++ [⟨o.name, 0⟩]

theorem call64 (o : Deck) (hs : o.Small) : PCalls Try.prog 64 [.agg o.av] fun out => out = .ret (.list true 2 ((defsF o).map DDef.av)) := by
  refine ok64.pcalls (by simp) ?_
  simp [c64, Deck.av, appendA]
  have dl := hs.defs
  have hc : o.defs.length * 24 ≤ 140737488355328 ∧ o.defs.length ≤ 9223372036854775807 := ⟨by omega, by omega⟩
  simp [hc]
  refine wpS_loop (ι := Nat) (fun i => [(1, .ptr 0 0 0), (3, .row 1 1 2 0 o.defs.length), (4, .int .i64 i)]) (fun _ => ⟨[(0, .cells o.av), (1, .row 40 2 (o.defs.map DDef.av))], 2⟩) (fun i => o.defs.length - i)
    (fun i => i ≤ o.defs.length ∧ o.defs.any (fun d => eqS d.name o.name) = (o.defs.drop i).any fun d => eqS d.name o.name) 0 (by simp) (Env.le_of (by simp)) (by simp [Deck.av]) ?_
  intro i ⟨hi, hall⟩
  have hw : IntKind.i64.wrap (i + 1) = i + 1 := wrap64 (by omega) (by omega)
  simp [Deck.av]
  refine br_cond rfl (fun h => ?_) (fun h => ?_)
  · have hlt : i < o.defs.length := by have := ltI_t.1 h; omega
    rw [drop_ix hlt] at hall
    simp [h, idxM, DDef.av]
    refine br_cond rfl (fun h1 => ?_) (fun h1 => ?_)
    · have hd : defsF o = o.defs := by unfold defsF; rw [hall]; simp [h1]
      simp [cr64, hd]
    · simp [hw]
      exact ⟨i + 1, ⟨by omega, by rw [hall]; simp [h1]⟩, by omega, Env.le_of (by simp), Mem.le_of rfl (by simp)⟩
  · have hid : i = o.defs.length := by have := ltI_f.1 h; omega
    have hd : defsF o = o.defs ++ [⟨o.name, 0⟩] := by unfold defsF; rw [hall, hid]; simp
    have hc2 : (o.defs.length + 1) * 24 ≤ 140737488355328 ∧ o.defs.length + 1 ≤ 9223372036854775807 := ⟨by omega, by omega⟩
    simp [h, cr64, hd, appendA, hc2]
    have e : o.defs.map DDef.av ++ [[AV.str o.name, AV.int IntKind.i64 0]] = (o.defs ++ [(⟨o.name, 0⟩ : DDef)]).map DDef.av := by simp [DDef.av]
    have e1 : o.defs.length + 1 = (o.defs ++ [(⟨o.name, 0⟩ : DDef)]).length := by simp
    have e2 : o.defs.map DDef.av ++ [DDef.av ⟨o.name, 0⟩] = (o.defs ++ [(⟨o.name, 0⟩ : DDef)]).map DDef.av := by simp
    rw [e, e1, take_map, perm_defs, e2]
    exact ⟨rfl, rfl⟩

def definesF (o : Deck) (name : ByteArray) : Bool := (defsF o).any fun d => eqS d.name name

theorem defsF_len (o : Deck) : (defsF o).length ≤ o.defs.length + 1 := by
  unfold defsF; split <;> simp

theorem call83 (o : Deck) (hs : o.Small) (name : ByteArray) : PCalls Try.prog 83 [.agg o.av, .str name] fun out => out = .ret (.bool (definesF o name)) := by
  refine ok83.pcalls (by simp) ?_
  have hal : o.av.all AV.one = true := by simp [Deck.av]
  have hol : o.av.length = 5 := by simp [Deck.av]
  simp [c83, hal, hol]
  rw [List.take_of_length_le (by omega)]
  refine xcall_p (call64 o hs) (by simp) ?_
  simp
  have dl := hs.defs
  have dl2 := defsF_len o
  generalize hds : defsF o = ds at *
  have hdf : definesF o name = ds.any fun d => eqS d.name name := by rw [← hds]; rfl
  refine wpS_loop (ι := Nat) (fun i => [(1, .str name), (5, .list true 2 (ds.map DDef.av)), (6, .int .i64 i)]) (fun _ => ⟨[(0, .cells o.av)], 1⟩) (fun i => ds.length - i)
    (fun i => i ≤ ds.length ∧ definesF o name = (ds.drop i).any fun d => eqS d.name name) 0 (by simp [hdf]) (Env.le_of (by simp)) (by simp) ?_
  intro i ⟨hi, hall⟩
  have hw : IntKind.i64.wrap (i + 1) = i + 1 := wrap64 (by omega) (by omega)
  simp
  refine br_cond rfl (fun h => ?_) (fun h => ?_)
  · have hlt : i < ds.length := by have := ltI_t.1 h; omega
    rw [drop_ix hlt] at hall
    simp [h, idxM, DDef.av]
    refine br_cond rfl (fun h1 => ?_) (fun h1 => ?_)
    · simp [cr83, hall, h1]
    · simp [hw]
      exact ⟨i + 1, ⟨by omega, by rw [hall]; simp [h1]⟩, by omega, Env.le_of (by simp), Mem.le_of rfl (by simp)⟩
  · have hid : i = ds.length := by have := ltI_f.1 h; omega
    subst hid
    simp [h, cr83, hall]

structure SmallL (l : List Deck) : Prop where
  len : l.length ≤ 2000000
  each : ∀ o ∈ l, o.Small

def knownF (l : List Deck) (name : ByteArray) : Bool := l.any fun o => definesF o name

theorem deck_take (o : Deck) : o.av.take 5 = o.av := List.take_of_length_le (by simp [Deck.av])
@[simp] theorem deck_len (o : Deck) : o.av.length = 5 := by simp [Deck.av]
@[simp] theorem deck_one (o : Deck) : o.av.all AV.one = true := by simp [Deck.av]

theorem call66 (p : Bool) (l : List Deck) (hl : SmallL l) (name : ByteArray) : PCalls Try.prog 66 [.list p 5 (l.map Deck.av), .str name] fun out => out = .ret (.bool (knownF l name)) := by
  refine ok66.pcalls (by simp) ?_
  have dl := hl.len
  simp [c66]
  refine wpS_loop (ι := Nat) (fun i => [(0, .list p 5 (l.map Deck.av)), (1, .str name), (5, .int .i64 i)]) (fun _ => ⟨[], 0⟩) (fun i => l.length - i)
    (fun i => i ≤ l.length ∧ knownF l name = (l.drop i).any fun o => definesF o name) 0 (by simp [knownF]) (Env.le_of (by simp)) (by simp) ?_
  intro i ⟨hi, hall⟩
  have hw : IntKind.i64.wrap (i + 1) = i + 1 := wrap64 (by omega) (by omega)
  simp
  refine br_cond rfl (fun h => ?_) (fun h => ?_)
  · have hlt : i < l.length := by have := ltI_t.1 h; omega
    rw [drop_ix hlt] at hall
    simp [h, idxM, deck_take]
    refine xcall_p (call83 (ix l i) (hl.each _ (ix_mem hlt)) name) (by simp) ?_
    simp
    refine br_cond rfl (fun h1 => ?_) (fun h1 => ?_)
    · simp [cr66, hall, h1]
    · simp [hw]
      exact ⟨i + 1, ⟨by omega, by rw [hall]; simp [h1]⟩, by omega, Env.le_of (by simp), Mem.le_of rfl (by simp)⟩
  · have hid : i = l.length := by have := ltI_f.1 h; omega
    subst hid
    simp [h, cr66, hall]
end Go.Pm

/- LkC6: contracts: all valid; lists that are the same; an object of a library. -/
namespace Go.Pm
open Go Go.Proofs
attribute [-simp] List.getElem?_map

structure SmallLL (l : List (List Deck)) : Prop where
  len : l.length ≤ 2000000
  each : ∀ o ∈ l, SmallL o

def libAV (l : List Deck) : List AV := [decksAV l]

def allF (l : List Deck) (libs : List (List Deck)) : Bool := l.all deckOk && libs.all fun x => x.all deckOk

theorem call32 (p q : Bool) (l : List Deck) (libs : List (List Deck)) (hl : SmallL l) (hb : SmallLL libs) : PCalls Try.prog 32 [.list p 5 (l.map Deck.av), .list q 1 (libs.map libAV)] fun out => out = .ret (.bool (allF l libs)) := by
  refine ok32.pcalls (by simp) ?_
  have dl := hl.len
  have bl := hb.len
  simp [c32]
  refine wpS_loop (ι := Nat) (fun i => [(0, .list p 5 (l.map Deck.av)), (1, .list q 1 (libs.map libAV)), (5, .int .i64 i)]) (fun _ => ⟨[], 0⟩) (fun i => l.length - i)
    (fun i => i ≤ l.length ∧ l.all deckOk = (l.drop i).all deckOk) 0 (by simp) (Env.le_of (by simp)) (by simp) ?_
  intro i ⟨hi, hall⟩
  have hw : IntKind.i64.wrap (i + 1) = i + 1 := wrap64 (by omega) (by omega)
  simp
  refine br_cond rfl (fun h => ?_) (fun h => ?_)
  · have hlt : i < l.length := by have := ltI_t.1 h; omega
    rw [drop_ix hlt] at hall
    simp [h, idxM, deck_take]
    refine xcall_p (call63 (ix l i) (hl.each _ (ix_mem hlt))) (by simp) ?_
    simp
    refine br_cond rfl (fun h1 => ?_) (fun h1 => ?_) <;> simp at h1
    · simp [cr32, allF, hall, h1]
    · simp [hw]
      exact ⟨i + 1, ⟨by omega, by rw [hall]; simp [h1]⟩, by omega, Env.le_of (by simp), Mem.le_of rfl (by simp)⟩
  have hid : i = l.length := by have := ltI_f.1 h; omega
  subst hid
  have hA : l.all deckOk = true := by rw [hall]; simp
  clear hall hw
  simp [h]
  clear h
  refine wpS_loop (ι := Nat) (fun i => [(0, .list p 5 (l.map Deck.av)), (1, .list q 1 (libs.map libAV)), (6, .int .i64 i)]) (fun _ => ⟨[], 0⟩) (fun i => libs.length - i)
    (fun i => i ≤ libs.length ∧ (libs.all fun x => x.all deckOk) = (libs.drop i).all fun x => x.all deckOk) 0 (by simp) (Env.le_of (by simp)) (by simp) ?_
  intro i ⟨hi, hall⟩
  have hw : IntKind.i64.wrap (i + 1) = i + 1 := wrap64 (by omega) (by omega)
  simp
  refine br_cond rfl (fun h => ?_) (fun h => ?_)
  · have hlt : i < libs.length := by have := ltI_t.1 h; omega
    rw [drop_ix hlt] at hall
    have hs := hb.each _ (ix_mem hlt)
    have sl := hs.len
    simp [h]
    refine wpS_loop (ι := Nat) (fun k => [(0, .list p 5 (l.map Deck.av)), (1, .list q 1 (libs.map libAV)), (6, .int .i64 i), (7, .int .i64 k)]) (fun _ => ⟨[], 0⟩) (fun k => (ix libs i).length - k)
      (fun k => k ≤ (ix libs i).length ∧ (ix libs i).all deckOk = ((ix libs i).drop k).all deckOk) 0 (by simp) (Env.le_of (by simp)) (by simp) ?_
    intro k ⟨hk, hka⟩
    have hwk : IntKind.i64.wrap (k + 1) = k + 1 := wrap64 (by omega) (by omega)
    simp [h, idxM, libAV, decksAV]
    refine br_cond rfl (fun h2 => ?_) (fun h2 => ?_)
    · have hlk : k < (ix libs i).length := by have := ltI_t.1 h2; omega
      rw [drop_ix hlk] at hka
      simp [h, h2, idxM, libAV, decksAV, deck_take]
      refine xcall_p (call63 (ix (ix libs i) k) (hs.each _ (ix_mem hlk))) (by simp) ?_
      simp
      refine br_cond rfl (fun h1 => ?_) (fun h1 => ?_) <;> simp at h1
      · simp only [List.all_cons, h1, Bool.false_and] at hka
        simp [cr32, allF, hall, hka]
      · simp [hwk]
        exact ⟨k + 1, ⟨by omega, by rw [hka]; simp [h1]⟩, by omega, Env.le_of (by simp), Mem.le_of rfl (by simp)⟩
    · have hkd : k = (ix libs i).length := by have := ltI_f.1 h2; omega
      have hk1 : (ix libs i).all deckOk = true := by rw [hka, hkd]; simp
      simp [h2, hw]
      exact ⟨i + 1, ⟨by omega, by rw [hall]; simp [hk1]⟩, by omega, Env.le_of (by simp), Mem.le_of rfl (by simp)⟩
  · have hid : i = libs.length := by have := ltI_f.1 h; omega
    subst hid
    simp [h, cr32, allF, hA, hall]

/-- Two names at places are the same. -/
def eqD (a b : DDef) : Bool := eqS a.name b.name && eqI a.at_ b.at_
def eqL (a b : DLine) : Bool := eqI a.at_ b.at_ && eqI a.stmt b.stmt
def defsEq (a b : List DDef) : Bool := eqI a.length b.length && (List.range a.length).all fun i => eqD (ix a i) (ix b i)
def linesEq (a b : List DLine) : Bool := eqI a.length b.length && (List.range a.length).all fun i => eqL (ix a i) (ix b i)

theorem sEq_D (a b : DDef) : scalarsEq [.str, .int] a.av b.av = some (eqD a b) := by
  simp only [DDef.av, scalarsEq, scalarEq, if_true]
  rw [beq_eqS, show (a.at_ == b.at_) = eqI a.at_ b.at_ from rfl]
  have : eqS b.name a.name = eqS a.name b.name := by rw [← beq_eqS, ← beq_eqS]; cases h : (a.name == b.name) with
    | true => rw [beq_bytes] at h; rw [h]; exact ((beq_bytes _ _).2 rfl).symm
    | false => cases h2 : (b.name == a.name) with
      | false => rfl
      | true => rw [beq_bytes] at h2; rw [h2] at h; rw [(beq_bytes _ _).2 rfl] at h; cases h
  rw [this]
  unfold eqD
  rcases Bool.eq_false_or_eq_true (eqS a.name b.name) with h | h <;> rcases Bool.eq_false_or_eq_true (eqI a.at_ b.at_) with h' | h' <;> simp [h, h']
theorem sEq_L (a b : DLine) : scalarsEq [.int, .int] a.av b.av = some (eqL a b) := by
  simp only [DLine.av, scalarsEq, scalarEq, if_true]
  rw [show (a.at_ == b.at_) = eqI a.at_ b.at_ from rfl, show (a.stmt == b.stmt) = eqI a.stmt b.stmt from rfl]
  unfold eqL
  rcases Bool.eq_false_or_eq_true (eqI a.at_ b.at_) with h | h <;> rcases Bool.eq_false_or_eq_true (eqI a.stmt b.stmt) with h' | h' <;> simp [h, h']
theorem def_take (o : DDef) : o.av.take 2 = o.av := rfl
theorem line_take (o : DLine) : o.av.take 2 = o.av := rfl
@[simp] theorem def_len (o : DDef) : o.av.length = 2 := rfl
@[simp] theorem line_len (o : DLine) : o.av.length = 2 := rfl

theorem call33 (p q : Bool) (a b : List DDef) (ha : a.length ≤ 4000000000000) (_hb : b.length ≤ 4000000000000) : PCalls Try.prog 33 [.list p 2 (a.map DDef.av), .list q 2 (b.map DDef.av)] fun out => out = .ret (.bool (defsEq a b)) := by
  refine ok33.pcalls (by simp) ?_
  simp [c33]
  refine br_cond rfl (fun h => ?_) (fun h => ?_) <;> simp at h
  · simp [cr33, defsEq, h]
  simp
  have hlen := eqI_t.1 h
  refine wpS_loop (ι := Nat) (fun i => [(0, .list p 2 (a.map DDef.av)), (1, .list q 2 (b.map DDef.av)), (5, .int .i64 i)]) (fun _ => ⟨[], 0⟩) (fun i => a.length - i)
    (fun i => i ≤ a.length ∧ ∀ j, j < i → eqD (ix a j) (ix b j) = true) 0 (by simp) (Env.le_of (by simp)) (by simp) ?_
  intro i ⟨hi, hall⟩
  have hw : IntKind.i64.wrap (i + 1) = i + 1 := wrap64 (by omega) (by omega)
  simp
  refine br_cond rfl (fun h1 => ?_) (fun h1 => ?_)
  · have hlt : i < a.length := by have := ltI_t.1 h1; omega
    have h2 : ltI ↑i ↑b.length = true := ltN (by omega)
    simp [h1, h2, idxM, def_take, sEq_D]
    refine br_cond rfl (fun h3 => ?_) (fun h3 => ?_) <;> simp at h3
    · have hA : ((List.range a.length).all fun i => eqD (ix a i) (ix b i)) = false := all_f (p := fun i => eqD (ix a i) (ix b i)) hlt h3
      have hE : defsEq a b = false := by unfold defsEq; rw [hA, Bool.and_false]
      simp [cr33, hE]
    · simp [hw]
      exact ⟨i + 1, ⟨by omega, upto hall h3⟩, by omega, Env.le_of (by simp), Mem.le_of rfl (by simp)⟩
  · have hid : i = a.length := by have := ltI_f.1 h1; omega
    have hA : ((List.range a.length).all fun i => eqD (ix a i) (ix b i)) = true := all_t (by rw [← hid]; exact hall)
    have hE : defsEq a b = true := by unfold defsEq; rw [hA, h]; rfl
    simp [h1, cr33, hE]

theorem call34 (p q : Bool) (a b : List DLine) (ha : a.length ≤ 4000000000000) (_hb : b.length ≤ 4000000000000) : PCalls Try.prog 34 [.list p 2 (a.map DLine.av), .list q 2 (b.map DLine.av)] fun out => out = .ret (.bool (linesEq a b)) := by
  refine ok34.pcalls (by simp) ?_
  simp [c34]
  refine br_cond rfl (fun h => ?_) (fun h => ?_) <;> simp at h
  · simp [cr34, linesEq, h]
  simp
  have hlen := eqI_t.1 h
  refine wpS_loop (ι := Nat) (fun i => [(0, .list p 2 (a.map DLine.av)), (1, .list q 2 (b.map DLine.av)), (5, .int .i64 i)]) (fun _ => ⟨[], 0⟩) (fun i => a.length - i)
    (fun i => i ≤ a.length ∧ ∀ j, j < i → eqL (ix a j) (ix b j) = true) 0 (by simp) (Env.le_of (by simp)) (by simp) ?_
  intro i ⟨hi, hall⟩
  have hw : IntKind.i64.wrap (i + 1) = i + 1 := wrap64 (by omega) (by omega)
  simp
  refine br_cond rfl (fun h1 => ?_) (fun h1 => ?_)
  · have hlt : i < a.length := by have := ltI_t.1 h1; omega
    have h2 : ltI ↑i ↑b.length = true := ltN (by omega)
    simp [h1, h2, idxM, line_take, sEq_L]
    refine br_cond rfl (fun h3 => ?_) (fun h3 => ?_) <;> simp at h3
    · have hA : ((List.range a.length).all fun i => eqL (ix a i) (ix b i)) = false := all_f (p := fun i => eqL (ix a i) (ix b i)) hlt h3
      have hE : linesEq a b = false := by unfold linesEq; rw [hA, Bool.and_false]
      simp [cr34, hE]
    · simp [hw]
      exact ⟨i + 1, ⟨by omega, upto hall h3⟩, by omega, Env.le_of (by simp), Mem.le_of rfl (by simp)⟩
  · have hid : i = a.length := by have := ltI_f.1 h1; omega
    have hA : ((List.range a.length).all fun i => eqL (ix a i) (ix b i)) = true := all_t (by rw [← hid]; exact hall)
    have hE : linesEq a b = true := by unfold linesEq; rw [hA, h]; rfl
    simp [h1, cr34, hE]

structure Img.Small (x : Img) : Prop where
  code : x.code.size ≤ 4000000000000
  defs : x.defs.length ≤ 4000000000000
  lines : x.lines.length ≤ 4000000000000
  names : x.names.length ≤ 4000000000000
  dname : ∀ d ∈ x.defs, d.name.size ≤ 1048576
  nname : ∀ d ∈ x.names, d.name.size ≤ 1048576

def sameF (a b : Img) : Bool := eqI a.base b.base && eqS a.code b.code && defsEq a.defs b.defs && defsEq a.names b.names && linesEq a.lines b.lines

theorem call15 (a b : Img) (ha : a.Small) (hb : b.Small) : PCalls Try.prog 15 [.agg a.av, .agg b.av] fun out => out = .ret (.bool (sameF a b)) := by
  refine ok15.pcalls (by simp) ?_
  simp [c15, Img.av]
  refine br_guard_t rfl (fun h1 => ?_) (fun h1 => ?_)
  · simp [h1]
    refine br_guard_t rfl (fun h2 => ?_) (fun h2 => ?_)
    · simp [h2]
      refine xcall_p (call33 true true a.defs b.defs ha.defs hb.defs) (by simp) ?_
      simp
      refine br_guard_t rfl (fun h3 => ?_) (fun h3 => ?_)
      · simp [h3]
        refine xcall_p (call33 true true a.names b.names ha.names hb.names) (by simp) ?_
        simp
        refine br_guard_t rfl (fun h4 => ?_) (fun h4 => ?_)
        · simp [h4]
          refine xcall_p (call34 true true a.lines b.lines ha.lines hb.lines) (by simp) ?_
          simp [cr15, sameF, h1, h2, h3, h4]
        · simp [h4, cr15, sameF]
      · simp [h3, cr15, sameF]
    · simp [h2, cr15, sameF]
  · simp [h1, cr15, sameF]
end Go.Pm
