/- LkS1: code, resolved. Written by gen.py out of what ShowSC.lean printed. -/
import Derived.Test.YtolfkdphlgkekaaLkA
namespace Go.Pm
open Go Go.Proofs

/-- ironbark/ironbarkref34.Name -/
def c61 : SC :=
  (.seq (.ops [⟨(some 2), .plain .mv, [.lit (.bool false)], none⟩] [])
  (.seq (.seq (.ops [⟨(some 3), .plain .mv, [.lit (.int .i64 0)], none⟩] [])
  (.block 0
   (.loop
    (.seq (.seq (.ops [⟨(some 4), .plain .mv, [.tmp 3], none⟩,
      ⟨(some 5), .plain .mv, [.tmp 0], none⟩,
      ⟨(some 6), .plain (.len 0), [.tmp 5], none⟩,
      ⟨(some 7), .plain (.bin .lss), [.tmp 4, .tmp 6], none⟩] [4, 5, 6])
    (.cond (.tmp 7)
     .skip
     (.exit 0)))
    (.seq (.block 1
     (.seq (.ops [⟨(some 10), .plain .mv, [.tmp 0], none⟩,
       ⟨(some 11), .plain .mv, [.tmp 3], none⟩,
       ⟨(some 12), .plain .index, [.tmp 10, .tmp 11], none⟩,
       ⟨(some 13), .plain (.bin .lss), [.tmp 12, .lit (.int .u8 33)], none⟩,
       ⟨(some 14), .plain .mv, [.tmp 13], none⟩,
       ⟨(some 15), .plain .mv, [.tmp 0], (some (14, false))⟩,
       ⟨(some 16), .plain .mv, [.tmp 3], (some (14, false))⟩,
       ⟨(some 17), .plain .index, [.tmp 15, .tmp 16], (some (14, false))⟩,
       ⟨(some 18), .plain (.bin .gtr), [.tmp 17, .lit (.int .u8 126)], (some (14, false))⟩,
       ⟨(some 19), .plain .pick, [.tmp 14, .lit (.bool true), .tmp 18], none⟩] [10, 11, 12, 13, 14, 15, 16, 17, 18])
     (.cond (.tmp 19)
      (.seq (.ops [⟨(some 2), .plain .mv, [.lit (.bool false)], none⟩] [])
      .ret)
      .skip)))
    (.ops [⟨(some 8), .plain .mv, [.tmp 3], none⟩,
      ⟨(some 9), .plain (.bin .add), [.tmp 8, .lit (.int .i64 1)], none⟩,
      ⟨(some 3), .plain .mv, [.tmp 9], none⟩] [8, 9]))))))
  (.seq (.ops [⟨(some 20), .plain .mv, [.tmp 0], none⟩,
    ⟨(some 21), .plain (.len 0), [.tmp 20], none⟩,
    ⟨(some 22), .plain (.bin .geq), [.tmp 21, .lit (.int .i64 1)], none⟩,
    ⟨(some 23), .plain .mv, [.tmp 22], none⟩,
    ⟨(some 24), .plain .mv, [.tmp 0], (some (23, true))⟩,
    ⟨(some 25), .plain (.len 0), [.tmp 24], (some (23, true))⟩,
    ⟨(some 26), .plain (.bin .leq), [.tmp 25, .lit (.int .i64 31)], (some (23, true))⟩,
    ⟨(some 27), .plain .pick, [.tmp 23, .tmp 26, .lit (.bool false)], none⟩,
    ⟨(some 2), .plain .mv, [.tmp 27], none⟩] [20, 21, 22, 23, 24, 25, 26, 27])
  .ret)))
def cr61 : List Res := [(2, none)]
theorem ok61 : FOk Try.prog Lk.imp 61 c61 cr61 Try.f61.ntmps := ⟨Try.f61, _, Try.func61, rfl, by kernel_rfl, by kernel_rfl, by kernel_rfl, rfl⟩

/-- ironbark/ironbarkref34.within -/
def c62 : SC :=
  (.seq (.ops [⟨(some 6), .plain .mv, [.lit (.bool false)], none⟩] [])
  (.seq (.ops [⟨(some 7), .plain .mv, [.tmp 0], none⟩,
    ⟨(some 8), .plain .mv, [.tmp 1], none⟩,
    ⟨(some 9), .plain (.bin .geq), [.tmp 7, .tmp 8], none⟩,
    ⟨(some 10), .plain .mv, [.tmp 9], none⟩,
    ⟨(some 11), .plain .mv, [.tmp 0], (some (10, true))⟩,
    ⟨(some 12), .plain .mv, [.tmp 2], (some (10, true))⟩,
    ⟨(some 13), .plain (.bin .leq), [.tmp 11, .tmp 12], (some (10, true))⟩,
    ⟨(some 14), .plain .pick, [.tmp 10, .tmp 13, .lit (.bool false)], none⟩,
    ⟨(some 6), .plain .mv, [.tmp 14], none⟩] [7, 8, 9, 10, 11, 12, 13, 14])
  .ret))
def cr62 : List Res := [(6, none)]
theorem ok62 : FOk Try.prog Lk.imp 62 c62 cr62 Try.f62.ntmps := ⟨Try.f62, _, Try.func62, rfl, by kernel_rfl, by kernel_rfl, by kernel_rfl, rfl⟩

/-- ironbark/link.up -/
def c53 : SC :=
  (.seq (.ops [⟨(some 2), .plain .mv, [.lit (.int .i64 0)], none⟩] [])
  (.seq (.ops [⟨(some 3), .plain .mv, [.tmp 0], none⟩,
    ⟨(some 4), .plain (.bin .add), [.tmp 3, .lit (.int .i64 8)], none⟩,
    ⟨(some 5), .plain (.bin .sub), [.tmp 4, .lit (.int .i64 1)], none⟩,
    ⟨(some 6), .plain (.bin .quo), [.tmp 5, .lit (.int .i64 8)], none⟩,
    ⟨(some 7), .plain (.bin .mul), [.tmp 6, .lit (.int .i64 8)], none⟩,
    ⟨(some 2), .plain .mv, [.tmp 7], none⟩] [3, 4, 5, 6, 7])
  .ret))
def cr53 : List Res := [(2, none)]
theorem ok53 : FOk Try.prog Lk.imp 53 c53 cr53 Try.f53.ntmps := ⟨Try.f53, _, Try.func53, rfl, by kernel_rfl, by kernel_rfl, by kernel_rfl, rfl⟩

/-- ironbark/ironbarkref34.baseOK -/
def c35 : SC :=
  (.seq (.ops [⟨(some 2), .plain .mv, [.lit (.bool false)], none⟩] [])
  (.seq (.ops [⟨(some 3), .plain .mv, [.tmp 0], none⟩,
    ⟨(some 4), .call 62, [.tmp 3, .lit (.int .i64 0), .lit (.int .i64 65528)], none⟩,
    ⟨(some 5), .plain .mv, [.tmp 4], none⟩,
    ⟨(some 6), .plain .mv, [.tmp 0], (some (5, true))⟩,
    ⟨(some 7), .plain (.bin .rem), [.tmp 6, .lit (.int .i64 8)], (some (5, true))⟩,
    ⟨(some 8), .plain (.bin .eql), [.tmp 7, .lit (.int .i64 0)], (some (5, true))⟩,
    ⟨(some 9), .plain .pick, [.tmp 5, .tmp 8, .lit (.bool false)], none⟩,
    ⟨(some 2), .plain .mv, [.tmp 9], none⟩] [3, 4, 5, 6, 7, 8, 9])
  .ret))
def cr35 : List Res := [(2, none)]
theorem ok35 : FOk Try.prog Lk.imp 35 c35 cr35 Try.f35.ntmps := ⟨Try.f35, _, Try.func35, rfl, by kernel_rfl, by kernel_rfl, by kernel_rfl, rfl⟩

/-- ironbark/link.based -/
def c24 : SC :=
  (.seq (.ops [⟨(some 2), .plain .mv, [.lit (.bool false)], none⟩] [])
  (.seq (.ops [⟨(some 3), .plain .mv, [.tmp 0], none⟩,
    ⟨(some 4), .plain (.bin .geq), [.tmp 3, .lit (.int .i64 0)], none⟩,
    ⟨(some 5), .plain .mv, [.tmp 4], none⟩,
    ⟨(some 6), .plain .mv, [.tmp 0], (some (5, true))⟩,
    ⟨(some 7), .plain (.bin .lss), [.tmp 6, .lit (.int .i64 65536)], (some (5, true))⟩,
    ⟨(some 8), .plain .pick, [.tmp 5, .tmp 7, .lit (.bool false)], none⟩,
    ⟨(some 9), .plain .mv, [.tmp 8], none⟩,
    ⟨(some 10), .plain .mv, [.tmp 0], (some (9, true))⟩,
    ⟨(some 11), .plain (.bin .rem), [.tmp 10, .lit (.int .i64 8)], (some (9, true))⟩,
    ⟨(some 12), .plain (.bin .eql), [.tmp 11, .lit (.int .i64 0)], (some (9, true))⟩,
    ⟨(some 13), .plain .pick, [.tmp 9, .tmp 12, .lit (.bool false)], none⟩,
    ⟨(some 2), .plain .mv, [.tmp 13], none⟩] [3, 4, 5, 6, 7, 8, 9, 10, 11, 12, 13])
  .ret))
def cr24 : List Res := [(2, none)]
theorem ok24 : FOk Try.prog Lk.imp 24 c24 cr24 Try.f24.ntmps := ⟨Try.f24, _, Try.func24, rfl, by kernel_rfl, by kernel_rfl, by kernel_rfl, rfl⟩

/-- ironbark/link.named -/
def c71 : SC :=
  (.seq (.ops [⟨(some 2), .plain .mv, [.lit (.bool false)], none⟩] [])
  (.seq (.seq (.ops [⟨(some 4), .plain .mv, [.tmp 0], none⟩,
    ⟨(some 5), .plain (.len 0), [.tmp 4], none⟩,
    ⟨(some 6), .plain .mv, [.lit (.int .i64 0)], none⟩] [4])
  (.block 0
   (.loop
    (.seq (.ops [⟨(some 7), .plain (.bin .lss), [.tmp 6, .tmp 5], none⟩] [])
    (.seq (.cond (.tmp 7)
     .skip
     (.exit 0))
    (.seq (.block 1
     (.seq (.ops [⟨(some 8), .plain .mv, [.tmp 6], none⟩,
       ⟨(some 3), .plain .mv, [.tmp 8], none⟩] [8])
     (.seq (.ops [⟨(some 9), .plain .mv, [.tmp 0], none⟩,
       ⟨(some 10), .plain .mv, [.tmp 3], none⟩,
       ⟨(some 11), .plain .index, [.tmp 9, .tmp 10], none⟩,
       ⟨(some 12), .plain (.bin .lss), [.tmp 11, .lit (.int .u8 33)], none⟩,
       ⟨(some 13), .plain .mv, [.tmp 12], none⟩,
       ⟨(some 14), .plain .mv, [.tmp 0], (some (13, false))⟩,
       ⟨(some 15), .plain .mv, [.tmp 3], (some (13, false))⟩,
       ⟨(some 16), .plain .index, [.tmp 14, .tmp 15], (some (13, false))⟩,
       ⟨(some 17), .plain (.bin .gtr), [.tmp 16, .lit (.int .u8 126)], (some (13, false))⟩,
       ⟨(some 18), .plain .pick, [.tmp 13, .lit (.bool true), .tmp 17], none⟩] [9, 10, 11, 12, 13, 14, 15, 16, 17])
     (.cond (.tmp 18)
      (.seq (.ops [⟨(some 2), .plain .mv, [.lit (.bool false)], none⟩] [])
      .ret)
      .skip))))
    (.ops [⟨(some 19), .plain (.bin .add), [.tmp 6, .lit (.int .i64 1)], none⟩,
      ⟨(some 6), .plain .mv, [.tmp 19], none⟩] [19])))))))
  (.seq (.ops [⟨(some 20), .plain .mv, [.tmp 0], none⟩,
    ⟨(some 21), .plain (.bin .neq), [.tmp 20, .lit (.str ⟨#[]⟩)], none⟩,
    ⟨(some 22), .plain .mv, [.tmp 21], none⟩,
    ⟨(some 23), .plain .mv, [.tmp 0], (some (22, true))⟩,
    ⟨(some 24), .plain (.len 0), [.tmp 23], (some (22, true))⟩,
    ⟨(some 25), .plain (.bin .leq), [.tmp 24, .lit (.int .i64 31)], (some (22, true))⟩,
    ⟨(some 26), .plain .pick, [.tmp 22, .tmp 25, .lit (.bool false)], none⟩,
    ⟨(some 2), .plain .mv, [.tmp 26], none⟩] [20, 21, 22, 23, 24, 25, 26])
  .ret)))
def cr71 : List Res := [(2, none)]
theorem ok71 : FOk Try.prog Lk.imp 71 c71 cr71 Try.f71.ntmps := ⟨Try.f71, _, Try.func71, rfl, by kernel_rfl, by kernel_rfl, by kernel_rfl, rfl⟩

/-- ironbark/ironbarklaw34.number -/
def c16 : SC :=
  (.seq (.ops [⟨(some 2), .plain .mv, [.lit (.int .i64 0)], none⟩] [])
  (.seq (.draw (.step ⟨(some 3), .plain .mv, [.tmp 0], none⟩
    (.step ⟨(some 4), .plain .index, [.tmp 3, .lit (.int .i64 0)], none⟩
    (.step ⟨(some 5), .plain (.convInt .i64), [.tmp 4], none⟩
    (.step ⟨(some 6), .plain (.bin .shl), [.tmp 5, .lit (.int .u64 24)], none⟩
    (.step ⟨(some 7), .plain .mv, [.tmp 0], none⟩
    (.step ⟨(some 8), .plain .index, [.tmp 7, .lit (.int .i64 1)], none⟩
    (.step ⟨(some 9), .plain (.convInt .i64), [.tmp 8], none⟩
    (.step ⟨(some 10), .plain (.bin .shl), [.tmp 9, .lit (.int .u64 16)], none⟩
    (.step ⟨(some 11), .plain (.bin .or), [.tmp 6, .tmp 10], none⟩
    (.step ⟨(some 12), .plain .mv, [.tmp 0], none⟩
    (.step ⟨(some 13), .plain .index, [.tmp 12, .lit (.int .i64 2)], none⟩
    (.step ⟨(some 14), .plain (.convInt .i64), [.tmp 13], none⟩
    (.step ⟨(some 15), .plain (.bin .shl), [.tmp 14, .lit (.int .u64 8)], none⟩
    (.step ⟨(some 16), .plain (.bin .or), [.tmp 11, .tmp 15], none⟩
    (.step ⟨(some 17), .plain .mv, [.tmp 0], none⟩
    (.step ⟨(some 18), .plain .index, [.tmp 17, .lit (.int .i64 3)], none⟩
    (.step ⟨(some 19), .plain (.convInt .i64), [.tmp 18], none⟩
    (.step ⟨(some 20), .plain (.bin .or), [.tmp 16, .tmp 19], none⟩
    (.step ⟨(some 2), .plain .mv, [.tmp 20], none⟩
    .done))))))))))))))))))) [3, 4, 5, 6, 7, 8, 9, 10, 11, 12, 13, 14, 15, 16, 17, 18, 19, 20])
  .ret))
def cr16 : List Res := [(2, none)]
theorem ok16 : FOk Try.prog Lk.imp 16 c16 cr16 Try.f16.ntmps := ⟨Try.f16, _, Try.func16, rfl, by kernel_rfl, by kernel_rfl, by kernel_rfl, rfl⟩

/-- ironbark/ironbarkref34.four -/
def c69 : SC :=
  (.seq (.ops [⟨(some 2), .plain .mv, [.lit (.str ⟨#[]⟩)], none⟩] [])
  (.seq (.ops [⟨(some 3), .plain .mv, [.tmp 0], none⟩,
    ⟨(some 4), .plain (.bin .shr), [.tmp 3, .lit (.int .u64 24)], none⟩,
    ⟨(some 5), .plain (.convInt .u8), [.tmp 4], none⟩,
    ⟨(some 6), .plain .mv, [.tmp 0], none⟩,
    ⟨(some 7), .plain (.bin .shr), [.tmp 6, .lit (.int .u64 16)], none⟩,
    ⟨(some 8), .plain (.convInt .u8), [.tmp 7], none⟩,
    ⟨(some 9), .plain .mv, [.tmp 0], none⟩,
    ⟨(some 10), .plain (.bin .shr), [.tmp 9, .lit (.int .u64 8)], none⟩,
    ⟨(some 11), .plain (.convInt .u8), [.tmp 10], none⟩,
    ⟨(some 12), .plain .mv, [.tmp 0], none⟩,
    ⟨(some 13), .plain (.convInt .u8), [.tmp 12], none⟩,
    ⟨(some 14), .plain (.buildRow 5 1 4 [(.int .u8 0)] [0, 1, 2, 3]), [.tmp 5, .tmp 8, .tmp 11, .tmp 13], none⟩,
    ⟨(some 15), .plain .bytesToStr, [.tmp 14], none⟩,
    ⟨(some 2), .plain .mv, [.tmp 15], none⟩] [3, 4, 5, 6, 7, 8, 9, 10, 11, 12, 13, 14, 15])
  .ret))
def cr69 : List Res := [(2, none)]
theorem ok69 : FOk Try.prog Lk.imp 69 c69 cr69 Try.f69.ntmps := ⟨Try.f69, _, Try.func69, rfl, by kernel_rfl, by kernel_rfl, by kernel_rfl, rfl⟩

end Go.Pm
