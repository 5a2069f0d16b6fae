/- LkS14: code, resolved. Written by gen.py out of what ShowSC.lean printed. -/
import Derived.Test.YtolfkdphlgkekaaGa
import Derived.Test.YtolfkdphlgkekaaGb
import Derived.Test.YtolfkdphlgkekaaGd
namespace Go.Pm
open Go Go.Proofs

/-- ironbark/link.hexed -/
def c44 : SC :=
  (.seq (.ops [⟨(some 4), .plain .mv, [.lit (.str ⟨#[]⟩)], none⟩] [])
  (.seq (.ops [⟨(some 7), .plain .mv, [.tmp 1], none⟩,
    ⟨(some 8), .plain (.mkRow 5 [(.int .u8 0)] 1), [.tmp 7, .tmp 7], none⟩,
    ⟨(some 5), .plain .mv, [.tmp 8], none⟩] [7, 8])
  (.seq (.seq (.ops [⟨(some 9), .plain .mv, [.tmp 5], none⟩,
    ⟨(some 10), .plain (.len 1), [.tmp 9], none⟩,
    ⟨(some 11), .plain .mv, [.lit (.int .i64 0)], none⟩] [9])
  (.block 0
   (.loop
    (.seq (.ops [⟨(some 12), .plain (.bin .lss), [.tmp 11, .tmp 10], none⟩] [])
    (.seq (.cond (.tmp 12)
     .skip
     (.exit 0))
    (.seq (.block 1
     (.seq (.ops [⟨(some 13), .plain .mv, [.tmp 11], none⟩,
       ⟨(some 6), .plain .mv, [.tmp 13], none⟩] [13])
     (.ops [⟨(some 14), .plain .mv, [.tmp 5], none⟩,
       ⟨(some 15), .plain .mv, [.tmp 1], none⟩,
       ⟨(some 16), .plain (.bin .sub), [.tmp 15, .lit (.int .i64 1)], none⟩,
       ⟨(some 17), .plain .mv, [.tmp 6], none⟩,
       ⟨(some 18), .plain (.bin .sub), [.tmp 16, .tmp 17], none⟩,
       ⟨(some 19), .plain .mv, [.tmp 0], none⟩,
       ⟨(some 20), .plain .mv, [.tmp 6], none⟩,
       ⟨(some 21), .plain (.bin .mul), [.lit (.int .i64 4), .tmp 20], none⟩,
       ⟨(some 22), .plain (.bin .shr), [.tmp 19, .tmp 21], none⟩,
       ⟨(some 23), .plain (.bin .and), [.tmp 22, .lit (.int .i64 15)], none⟩,
       ⟨(some 24), .plain .index, [.lit (.str ⟨#[48, 49, 50, 51, 52, 53, 54, 55, 56, 57, 65, 66, 67, 68, 69, 70]⟩), .tmp 23], none⟩,
       ⟨(some 25), .plain (.indexAddr 1), [.tmp 14, .tmp 18], none⟩,
       ⟨none, .plain (.store 1), [.tmp 25, .tmp 24], none⟩] [14, 15, 16, 17, 18, 19, 20, 21, 22, 23, 24, 25])))
    (.ops [⟨(some 26), .plain (.bin .add), [.tmp 11, .lit (.int .i64 1)], none⟩,
      ⟨(some 11), .plain .mv, [.tmp 26], none⟩] [26])))))))
  (.seq (.ops [⟨(some 27), .plain .mv, [.tmp 5], none⟩,
    ⟨(some 28), .plain .bytesToStr, [.tmp 27], none⟩,
    ⟨(some 4), .plain .mv, [.tmp 28], none⟩] [27, 28])
  .ret))))
def cr44 : List Res := [(4, none)]
theorem ok44 : FOk Try.prog Lk.imp 44 c44 cr44 Try.f44.ntmps := ⟨Try.f44, _, Try.func44, rfl, by kernel_rfl, by kernel_rfl, by kernel_rfl, rfl⟩

/-- ironbark/ironbarkref34.ascending -/
def c46 : SC :=
  (.seq (.ops [⟨(some 2), .plain .mv, [.lit .nilS], none⟩] [])
  (.seq (.ops [⟨(some 5), .plain .mv, [.tmp 0], none⟩,
    ⟨(some 6), .plain (.append 9 1 16), [.lit .nilS, .tmp 5], none⟩,
    ⟨(some 0), .plain .mv, [.tmp 6], none⟩] [5, 6])
  (.seq (.seq (.ops [⟨(some 3), .plain .mv, [.lit (.int .i64 0)], none⟩] [])
  (.block 0
   (.loop
    (.seq (.seq (.ops [⟨(some 7), .plain .mv, [.tmp 3], none⟩,
      ⟨(some 8), .plain .mv, [.tmp 0], none⟩,
      ⟨(some 9), .plain (.len 1), [.tmp 8], none⟩,
      ⟨(some 10), .plain (.bin .lss), [.tmp 7, .tmp 9], none⟩] [7, 8, 9])
    (.cond (.tmp 10)
     .skip
     (.exit 0)))
    (.seq (.block 1
     (.seq (.ops [⟨(some 13), .plain .mv, [.tmp 3], none⟩,
       ⟨(some 4), .plain .mv, [.tmp 13], none⟩] [13])
     (.block 2
      (.loop
       (.seq (.seq (.draw (.step ⟨(some 14), .plain .mv, [.tmp 4], none⟩
         (.step ⟨(some 15), .plain (.bin .gtr), [.tmp 14, .lit (.int .i64 0)], none⟩
         (.step ⟨(some 16), .plain .mv, [.tmp 15], none⟩
         (.step ⟨(some 17), .plain .mv, [.tmp 0], (some (16, true))⟩
         (.step ⟨(some 18), .plain .mv, [.tmp 4], (some (16, true))⟩
         (.step ⟨(some 19), .plain (.indexAddr 1), [.tmp 17, .tmp 18], (some (16, true))⟩
         (.step ⟨(some 20), .plain (.load false 1), [.tmp 19], (some (16, true))⟩
         (.step ⟨(some 21), .plain .mv, [.tmp 0], (some (16, true))⟩
         (.step ⟨(some 22), .plain .mv, [.tmp 4], (some (16, true))⟩
         (.step ⟨(some 23), .plain (.bin .sub), [.tmp 22, .lit (.int .i64 1)], (some (16, true))⟩
         (.step ⟨(some 24), .plain (.indexAddr 1), [.tmp 21, .tmp 23], (some (16, true))⟩
         (.step ⟨(some 25), .plain (.load false 1), [.tmp 24], (some (16, true))⟩
         (.step ⟨(some 26), .plain (.bin .lss), [.tmp 20, .tmp 25], (some (16, true))⟩
         (.step ⟨(some 27), .plain .pick, [.tmp 16, .tmp 26, .lit (.bool false)], none⟩
         .done)))))))))))))) [14, 15, 16, 17, 18, 19, 20, 21, 22, 23, 24, 25, 26])
       (.cond (.tmp 27)
        .skip
        (.exit 2)))
       (.seq (.block 3
        (.draw (.step ⟨(some 30), .plain .mv, [.tmp 0], none⟩
          (.step ⟨(some 31), .plain .mv, [.tmp 4], none⟩
          (.step ⟨(some 32), .plain .mv, [.tmp 0], none⟩
          (.step ⟨(some 33), .plain .mv, [.tmp 4], none⟩
          (.step ⟨(some 34), .plain (.bin .sub), [.tmp 33, .lit (.int .i64 1)], none⟩
          (.step ⟨(some 35), .plain .mv, [.tmp 0], none⟩
          (.step ⟨(some 36), .plain .mv, [.tmp 4], none⟩
          (.step ⟨(some 37), .plain (.bin .sub), [.tmp 36, .lit (.int .i64 1)], none⟩
          (.step ⟨(some 38), .plain (.indexAddr 1), [.tmp 35, .tmp 37], none⟩
          (.step ⟨(some 39), .plain (.load false 1), [.tmp 38], none⟩
          (.step ⟨(some 40), .plain .mv, [.tmp 0], none⟩
          (.step ⟨(some 41), .plain .mv, [.tmp 4], none⟩
          (.step ⟨(some 42), .plain (.indexAddr 1), [.tmp 40, .tmp 41], none⟩
          (.step ⟨(some 43), .plain (.load false 1), [.tmp 42], none⟩
          (.step ⟨(some 44), .plain (.indexAddr 1), [.tmp 30, .tmp 31], none⟩
          (.step ⟨none, .plain (.store 1), [.tmp 44, .tmp 39], none⟩
          (.step ⟨(some 45), .plain (.indexAddr 1), [.tmp 32, .tmp 34], none⟩
          (.step ⟨none, .plain (.store 1), [.tmp 45, .tmp 43], none⟩
          .done)))))))))))))))))) [30, 31, 32, 33, 34, 35, 36, 37, 38, 39, 40, 41, 42, 43, 44, 45]))
       (.ops [⟨(some 28), .plain .mv, [.tmp 4], none⟩,
         ⟨(some 29), .plain (.bin .sub), [.tmp 28, .lit (.int .i64 1)], none⟩,
         ⟨(some 4), .plain .mv, [.tmp 29], none⟩] [28, 29])))))))
    (.ops [⟨(some 11), .plain .mv, [.tmp 3], none⟩,
      ⟨(some 12), .plain (.bin .add), [.tmp 11, .lit (.int .i64 1)], none⟩,
      ⟨(some 3), .plain .mv, [.tmp 12], none⟩] [11, 12]))))))
  (.seq (.ops [⟨(some 46), .plain .mv, [.tmp 0], none⟩,
    ⟨(some 2), .plain .mv, [.tmp 46], none⟩] [46])
  .ret))))
def cr46 : List Res := [(2, none)]
theorem ok46 : FOk Try.prog Lk.imp 46 c46 cr46 Try.f46.ntmps := ⟨Try.f46, _, Try.func46, rfl, by kernel_rfl, by kernel_rfl, by kernel_rfl, rfl⟩

/-- ironbark/ironbarkref34.hex -/
def c47 : SC :=
  (.seq (.ops [⟨(some 4), .plain .mv, [.lit (.str ⟨#[]⟩)], none⟩] [])
  (.seq (.ops [⟨(some 5), .plain .mv, [.lit (.str ⟨#[]⟩)], none⟩] [])
  (.seq (.seq (.ops [⟨(some 6), .plain .mv, [.lit (.int .i64 0)], none⟩] [])
  (.block 0
   (.loop
    (.seq (.seq (.ops [⟨(some 7), .plain .mv, [.tmp 6], none⟩,
      ⟨(some 8), .plain .mv, [.tmp 1], none⟩,
      ⟨(some 9), .plain (.bin .lss), [.tmp 7, .tmp 8], none⟩] [7, 8])
    (.cond (.tmp 9)
     .skip
     (.exit 0)))
    (.seq (.block 1
     (.seq (.ops [⟨(some 12), .plain .mv, [.tmp 0], none⟩,
       ⟨(some 13), .plain (.bin .rem), [.tmp 12, .lit (.int .i64 16)], none⟩,
       ⟨(some 14), .plain .mv, [.tmp 0], none⟩,
       ⟨(some 15), .plain (.bin .rem), [.tmp 14, .lit (.int .i64 16)], none⟩,
       ⟨(some 16), .plain (.bin .add), [.tmp 15, .lit (.int .i64 1)], none⟩,
       ⟨(some 17), .plain (.slice true true 0), [.lit (.str ⟨#[48, 49, 50, 51, 52, 53, 54, 55, 56, 57, 65, 66, 67, 68, 69, 70]⟩), .tmp 13, .tmp 16], none⟩,
       ⟨(some 18), .plain .mv, [.tmp 5], none⟩,
       ⟨(some 19), .plain (.bin .add), [.tmp 17, .tmp 18], none⟩,
       ⟨(some 5), .plain .mv, [.tmp 19], none⟩] [12, 13, 14, 15, 16, 17, 18, 19])
     (.ops [⟨(some 20), .plain .mv, [.tmp 0], none⟩,
       ⟨(some 21), .plain (.bin .quo), [.tmp 20, .lit (.int .i64 16)], none⟩,
       ⟨(some 0), .plain .mv, [.tmp 21], none⟩] [20, 21])))
    (.ops [⟨(some 10), .plain .mv, [.tmp 6], none⟩,
      ⟨(some 11), .plain (.bin .add), [.tmp 10, .lit (.int .i64 1)], none⟩,
      ⟨(some 6), .plain .mv, [.tmp 11], none⟩] [10, 11]))))))
  (.seq (.ops [⟨(some 22), .plain .mv, [.tmp 5], none⟩,
    ⟨(some 4), .plain .mv, [.tmp 22], none⟩] [22])
  .ret))))
def cr47 : List Res := [(4, none)]
theorem ok47 : FOk Try.prog Lk.imp 47 c47 cr47 Try.f47.ntmps := ⟨Try.f47, _, Try.func47, rfl, by kernel_rfl, by kernel_rfl, by kernel_rfl, rfl⟩

/-- ironbark/link.place -/
def c48 : SC :=
  (.seq (.ops [⟨(some 2), .plain (.box 5), [.tmp 0], none⟩,
    ⟨(some 4), .plain .mv, [.lit (.str ⟨#[]⟩)], none⟩,
    ⟨(some 5), .plain .mv, [.lit (.int .i64 0)], none⟩,
    ⟨(some 6), .plain .mv, [.lit (.int .i64 0)], none⟩,
    ⟨(some 7), .plain .mv, [.lit (.bool false)], none⟩] [])
  (.seq (.seq (.ops [⟨(some 14), .plain .mv, [.tmp 1], none⟩,
    ⟨(some 15), .plain (.fieldAddr 0), [.tmp 2], none⟩,
    ⟨(some 16), .plain (.load false 1), [.tmp 15], none⟩,
    ⟨(some 17), .plain (.bin .lss), [.tmp 14, .tmp 16], none⟩,
    ⟨(some 18), .plain .mv, [.tmp 17], none⟩,
    ⟨(some 19), .plain .mv, [.tmp 1], (some (18, false))⟩,
    ⟨(some 20), .plain (.fieldAddr 0), [.tmp 2], (some (18, false))⟩,
    ⟨(some 21), .plain (.load false 1), [.tmp 20], (some (18, false))⟩,
    ⟨(some 22), .plain (.fieldAddr 1), [.tmp 2], (some (18, false))⟩,
    ⟨(some 23), .plain (.load false 1), [.tmp 22], (some (18, false))⟩,
    ⟨(some 24), .plain (.len 0), [.tmp 23], (some (18, false))⟩,
    ⟨(some 25), .plain (.bin .add), [.tmp 21, .tmp 24], (some (18, false))⟩,
    ⟨(some 26), .plain (.bin .geq), [.tmp 19, .tmp 25], (some (18, false))⟩,
    ⟨(some 27), .plain .pick, [.tmp 18, .lit (.bool true), .tmp 26], none⟩] [14, 15, 16, 17, 18, 19, 20, 21, 22, 23, 24, 25, 26])
  (.cond (.tmp 27)
   (.seq (.ops [⟨(some 4), .plain .mv, [.lit (.str ⟨#[]⟩)], none⟩,
     ⟨(some 5), .plain .mv, [.lit (.int .i64 0)], none⟩,
     ⟨(some 6), .plain .mv, [.lit (.int .i64 0)], none⟩,
     ⟨(some 7), .plain .mv, [.lit (.bool false)], none⟩] [])
   .ret)
   .skip))
  (.seq (.ops [⟨(some 8), .plain .mv, [.lit (.int .i64 (-1))], none⟩] [])
  (.seq (.seq (.ops [⟨(some 28), .plain (.fieldAddr 4), [.tmp 2], none⟩,
    ⟨(some 29), .plain (.load false 1), [.tmp 28], none⟩,
    ⟨(some 30), .plain (.len 1), [.tmp 29], none⟩,
    ⟨(some 31), .plain .mv, [.lit (.int .i64 0)], none⟩] [28])
  (.block 0
   (.loop
    (.seq (.ops [⟨(some 32), .plain (.bin .lss), [.tmp 31, .tmp 30], none⟩] [])
    (.seq (.cond (.tmp 32)
     .skip
     (.exit 0))
    (.seq (.block 1
     (.seq (.ops [⟨(some 33), .plain .mv, [.tmp 31], none⟩,
       ⟨(some 34), .plain (.indexAddr 2), [.tmp 29, .tmp 31], none⟩,
       ⟨(some 35), .plain (.load true 2), [.tmp 34], none⟩,
       ⟨(some 10), .plain (.alloc [(.str ⟨#[]⟩), (.int .i64 0)]), [], none⟩,
       ⟨(some 9), .plain .mv, [.tmp 33], none⟩,
       ⟨none, .plain (.store 2), [.tmp 10, .tmp 35], none⟩] [33, 34, 35])
     (.seq (.ops [⟨(some 36), .plain (.fieldAddr 1), [.tmp 10], none⟩,
       ⟨(some 37), .plain (.load false 1), [.tmp 36], none⟩,
       ⟨(some 38), .plain .mv, [.tmp 1], none⟩,
       ⟨(some 39), .plain (.bin .leq), [.tmp 37, .tmp 38], none⟩] [36, 37, 38])
     (.cond (.tmp 39)
      (.ops [⟨(some 40), .plain .mv, [.tmp 9], none⟩,
        ⟨(some 8), .plain .mv, [.tmp 40], none⟩] [40])
      .skip))))
    (.ops [⟨(some 41), .plain (.bin .add), [.tmp 31, .lit (.int .i64 1)], none⟩,
      ⟨(some 31), .plain .mv, [.tmp 41], none⟩] [41])))))))
  (.seq (.seq (.ops [⟨(some 42), .plain .mv, [.tmp 8], none⟩,
    ⟨(some 43), .plain (.bin .lss), [.tmp 42, .lit (.int .i64 0)], none⟩] [42])
  (.cond (.tmp 43)
   (.seq (.ops [⟨(some 4), .plain .mv, [.lit (.str ⟨#[]⟩)], none⟩,
     ⟨(some 5), .plain .mv, [.lit (.int .i64 0)], none⟩,
     ⟨(some 6), .plain .mv, [.lit (.int .i64 0)], none⟩,
     ⟨(some 7), .plain .mv, [.lit (.bool false)], none⟩] [])
   .ret)
   .skip))
  (.seq (.ops [⟨(some 44), .plain (.fieldAddr 4), [.tmp 2], none⟩,
    ⟨(some 45), .plain (.load false 1), [.tmp 44], none⟩,
    ⟨(some 46), .plain .mv, [.tmp 8], none⟩,
    ⟨(some 47), .plain (.indexAddr 2), [.tmp 45, .tmp 46], none⟩,
    ⟨(some 48), .plain (.fieldAddr 1), [.tmp 47], none⟩,
    ⟨(some 49), .plain (.load false 1), [.tmp 48], none⟩,
    ⟨(some 11), .plain .mv, [.tmp 49], none⟩] [44, 45, 46, 47, 48, 49])
  (.seq (.seq (.ops [⟨(some 50), .plain (.fieldAddr 3), [.tmp 2], none⟩,
    ⟨(some 51), .plain (.load false 1), [.tmp 50], none⟩,
    ⟨(some 52), .plain (.len 1), [.tmp 51], none⟩,
    ⟨(some 53), .plain .mv, [.lit (.int .i64 0)], none⟩] [50])
  (.block 2
   (.loop
    (.seq (.ops [⟨(some 54), .plain (.bin .lss), [.tmp 53, .tmp 52], none⟩] [])
    (.seq (.cond (.tmp 54)
     .skip
     (.exit 2))
    (.seq (.block 3
     (.seq (.ops [⟨(some 55), .plain (.indexAddr 2), [.tmp 51, .tmp 53], none⟩,
       ⟨(some 56), .plain (.load true 2), [.tmp 55], none⟩,
       ⟨(some 13), .plain (.alloc [(.int .i64 0), (.int .i64 0)]), [], none⟩,
       ⟨none, .plain (.store 2), [.tmp 13, .tmp 56], none⟩] [55, 56])
     (.seq (.ops [⟨(some 57), .plain (.fieldAddr 0), [.tmp 13], none⟩,
       ⟨(some 58), .plain (.load false 1), [.tmp 57], none⟩,
       ⟨(some 59), .plain .mv, [.tmp 11], none⟩,
       ⟨(some 60), .plain (.bin .geq), [.tmp 58, .tmp 59], none⟩,
       ⟨(some 61), .plain .mv, [.tmp 60], none⟩,
       ⟨(some 62), .plain (.fieldAddr 0), [.tmp 13], (some (61, true))⟩,
       ⟨(some 63), .plain (.load false 1), [.tmp 62], (some (61, true))⟩,
       ⟨(some 64), .plain .mv, [.tmp 1], (some (61, true))⟩,
       ⟨(some 65), .plain (.bin .leq), [.tmp 63, .tmp 64], (some (61, true))⟩,
       ⟨(some 66), .plain .pick, [.tmp 61, .tmp 65, .lit (.bool false)], none⟩] [57, 58, 59, 60, 61, 62, 63, 64, 65])
     (.cond (.tmp 66)
      (.ops [⟨(some 67), .plain (.fieldAddr 1), [.tmp 13], none⟩,
        ⟨(some 68), .plain (.load false 1), [.tmp 67], none⟩,
        ⟨(some 5), .plain .mv, [.tmp 68], none⟩] [67, 68])
      .skip))))
    (.ops [⟨(some 69), .plain (.bin .add), [.tmp 53, .lit (.int .i64 1)], none⟩,
      ⟨(some 53), .plain .mv, [.tmp 69], none⟩] [69])))))))
  (.seq (.ops [⟨(some 70), .plain (.fieldAddr 4), [.tmp 2], none⟩,
    ⟨(some 71), .plain (.load false 1), [.tmp 70], none⟩,
    ⟨(some 72), .plain .mv, [.tmp 8], none⟩,
    ⟨(some 73), .plain (.indexAddr 2), [.tmp 71, .tmp 72], none⟩,
    ⟨(some 74), .plain (.fieldAddr 0), [.tmp 73], none⟩,
    ⟨(some 75), .plain (.load false 1), [.tmp 74], none⟩,
    ⟨(some 76), .plain .mv, [.tmp 5], none⟩,
    ⟨(some 77), .plain .mv, [.tmp 1], none⟩,
    ⟨(some 78), .plain .mv, [.tmp 11], none⟩,
    ⟨(some 79), .plain (.bin .sub), [.tmp 77, .tmp 78], none⟩,
    ⟨(some 4), .plain .mv, [.tmp 75], none⟩,
    ⟨(some 5), .plain .mv, [.tmp 76], none⟩,
    ⟨(some 6), .plain .mv, [.tmp 79], none⟩,
    ⟨(some 7), .plain .mv, [.lit (.bool true)], none⟩] [70, 71, 72, 73, 74, 75, 76, 77, 78, 79])
  .ret))))))))
def cr48 : List Res := [(4, none), (5, none), (6, none), (7, none)]
theorem ok48 : FOk Try.prog Lk.imp 48 c48 cr48 Try.f48.ntmps := ⟨Try.f48, _, Try.func48, rfl, by kernel_rfl, by kernel_rfl, by kernel_rfl, rfl⟩

/-- ironbark/ironbarkref34.placed -/
def c49 : SC :=
  (.seq (.ops [⟨(some 2), .plain (.box 5), [.tmp 0], none⟩,
    ⟨(some 4), .plain .mv, [.lit (.str ⟨#[]⟩)], none⟩,
    ⟨(some 5), .plain .mv, [.lit (.int .i64 0)], none⟩,
    ⟨(some 6), .plain .mv, [.lit (.int .i64 0)], none⟩,
    ⟨(some 7), .plain .mv, [.lit (.int .i64 0)], none⟩] [])
  (.seq (.seq (.ops [⟨(some 13), .plain .mv, [.tmp 1], none⟩,
    ⟨(some 14), .plain (.fieldAddr 0), [.tmp 2], none⟩,
    ⟨(some 15), .plain (.load false 1), [.tmp 14], none⟩,
    ⟨(some 16), .plain (.bin .lss), [.tmp 13, .tmp 15], none⟩,
    ⟨(some 17), .plain .mv, [.tmp 16], none⟩,
    ⟨(some 18), .plain .mv, [.tmp 1], (some (17, false))⟩,
    ⟨(some 19), .plain (.fieldAddr 0), [.tmp 2], (some (17, false))⟩,
    ⟨(some 20), .plain (.load false 1), [.tmp 19], (some (17, false))⟩,
    ⟨(some 21), .plain (.fieldAddr 1), [.tmp 2], (some (17, false))⟩,
    ⟨(some 22), .plain (.load false 1), [.tmp 21], (some (17, false))⟩,
    ⟨(some 23), .plain (.len 0), [.tmp 22], (some (17, false))⟩,
    ⟨(some 24), .plain (.bin .add), [.tmp 20, .tmp 23], (some (17, false))⟩,
    ⟨(some 25), .plain (.bin .geq), [.tmp 18, .tmp 24], (some (17, false))⟩,
    ⟨(some 26), .plain .pick, [.tmp 17, .lit (.bool true), .tmp 25], none⟩] [13, 14, 15, 16, 17, 18, 19, 20, 21, 22, 23, 24, 25])
  (.cond (.tmp 26)
   (.seq (.ops [⟨(some 4), .plain .mv, [.lit (.str ⟨#[]⟩)], none⟩,
     ⟨(some 5), .plain .mv, [.lit (.int .i64 0)], none⟩,
     ⟨(some 6), .plain .mv, [.lit (.int .i64 0)], none⟩,
     ⟨(some 7), .plain .mv, [.lit (.int .i64 8)], none⟩] [])
   .ret)
   .skip))
  (.seq (.ops [⟨(some 8), .plain .mv, [.lit (.int .i64 (-1))], none⟩] [])
  (.seq (.seq (.ops [⟨(some 9), .plain .mv, [.lit (.int .i64 0)], none⟩] [])
  (.block 0
   (.loop
    (.seq (.seq (.ops [⟨(some 27), .plain .mv, [.tmp 9], none⟩,
      ⟨(some 28), .plain (.fieldAddr 4), [.tmp 2], none⟩,
      ⟨(some 29), .plain (.load false 1), [.tmp 28], none⟩,
      ⟨(some 30), .plain (.len 1), [.tmp 29], none⟩,
      ⟨(some 31), .plain (.bin .lss), [.tmp 27, .tmp 30], none⟩] [27, 28, 29, 30])
    (.cond (.tmp 31)
     .skip
     (.exit 0)))
    (.seq (.block 1
     (.seq (.ops [⟨(some 34), .plain (.fieldAddr 4), [.tmp 2], none⟩,
       ⟨(some 35), .plain (.load false 1), [.tmp 34], none⟩,
       ⟨(some 36), .plain .mv, [.tmp 9], none⟩,
       ⟨(some 37), .plain (.indexAddr 2), [.tmp 35, .tmp 36], none⟩,
       ⟨(some 38), .plain (.fieldAddr 1), [.tmp 37], none⟩,
       ⟨(some 39), .plain (.load false 1), [.tmp 38], none⟩,
       ⟨(some 40), .plain .mv, [.tmp 1], none⟩,
       ⟨(some 41), .plain (.bin .leq), [.tmp 39, .tmp 40], none⟩] [34, 35, 36, 37, 38, 39, 40])
     (.cond (.tmp 41)
      (.ops [⟨(some 42), .plain .mv, [.tmp 9], none⟩,
        ⟨(some 8), .plain .mv, [.tmp 42], none⟩] [42])
      .skip)))
    (.ops [⟨(some 32), .plain .mv, [.tmp 9], none⟩,
      ⟨(some 33), .plain (.bin .add), [.tmp 32, .lit (.int .i64 1)], none⟩,
      ⟨(some 9), .plain .mv, [.tmp 33], none⟩] [32, 33]))))))
  (.seq (.seq (.ops [⟨(some 43), .plain .mv, [.tmp 8], none⟩,
    ⟨(some 44), .plain (.bin .lss), [.tmp 43, .lit (.int .i64 0)], none⟩] [43])
  (.cond (.tmp 44)
   (.seq (.ops [⟨(some 4), .plain .mv, [.lit (.str ⟨#[]⟩)], none⟩,
     ⟨(some 5), .plain .mv, [.lit (.int .i64 0)], none⟩,
     ⟨(some 6), .plain .mv, [.lit (.int .i64 0)], none⟩,
     ⟨(some 7), .plain .mv, [.lit (.int .i64 8)], none⟩] [])
   .ret)
   .skip))
  (.seq (.ops [⟨(some 45), .plain (.fieldAddr 4), [.tmp 2], none⟩,
    ⟨(some 46), .plain (.load false 1), [.tmp 45], none⟩,
    ⟨(some 47), .plain .mv, [.tmp 8], none⟩,
    ⟨(some 48), .plain (.indexAddr 2), [.tmp 46, .tmp 47], none⟩,
    ⟨(some 49), .plain (.load true 2), [.tmp 48], none⟩,
    ⟨(some 10), .plain (.alloc [(.str ⟨#[]⟩), (.int .i64 0)]), [], none⟩,
    ⟨none, .plain (.store 2), [.tmp 10, .tmp 49], none⟩] [45, 46, 47, 48, 49])
  (.seq (.ops [⟨(some 11), .plain .mv, [.lit (.int .i64 0)], none⟩] [])
  (.seq (.seq (.ops [⟨(some 12), .plain .mv, [.lit (.int .i64 0)], none⟩] [])
  (.block 2
   (.loop
    (.seq (.seq (.ops [⟨(some 50), .plain .mv, [.tmp 12], none⟩,
      ⟨(some 51), .plain (.fieldAddr 3), [.tmp 2], none⟩,
      ⟨(some 52), .plain (.load false 1), [.tmp 51], none⟩,
      ⟨(some 53), .plain (.len 1), [.tmp 52], none⟩,
      ⟨(some 54), .plain (.bin .lss), [.tmp 50, .tmp 53], none⟩] [50, 51, 52, 53])
    (.cond (.tmp 54)
     .skip
     (.exit 2)))
    (.seq (.block 3
     (.seq (.draw (.step ⟨(some 57), .plain (.fieldAddr 3), [.tmp 2], none⟩
       (.step ⟨(some 58), .plain (.load false 1), [.tmp 57], none⟩
       (.step ⟨(some 59), .plain .mv, [.tmp 12], none⟩
       (.step ⟨(some 60), .plain (.indexAddr 2), [.tmp 58, .tmp 59], none⟩
       (.step ⟨(some 61), .plain (.fieldAddr 0), [.tmp 60], none⟩
       (.step ⟨(some 62), .plain (.load false 1), [.tmp 61], none⟩
       (.step ⟨(some 63), .plain .mv, [.tmp 1], none⟩
       (.step ⟨(some 64), .plain (.bin .leq), [.tmp 62, .tmp 63], none⟩
       (.step ⟨(some 65), .plain .mv, [.tmp 64], none⟩
       (.step ⟨(some 66), .plain (.fieldAddr 3), [.tmp 2], (some (65, true))⟩
       (.step ⟨(some 67), .plain (.load false 1), [.tmp 66], (some (65, true))⟩
       (.step ⟨(some 68), .plain .mv, [.tmp 12], (some (65, true))⟩
       (.step ⟨(some 69), .plain (.indexAddr 2), [.tmp 67, .tmp 68], (some (65, true))⟩
       (.step ⟨(some 70), .plain (.fieldAddr 0), [.tmp 69], (some (65, true))⟩
       (.step ⟨(some 71), .plain (.load false 1), [.tmp 70], (some (65, true))⟩
       (.step ⟨(some 72), .plain (.fieldAddr 1), [.tmp 10], (some (65, true))⟩
       (.step ⟨(some 73), .plain (.load false 1), [.tmp 72], (some (65, true))⟩
       (.step ⟨(some 74), .plain (.bin .geq), [.tmp 71, .tmp 73], (some (65, true))⟩
       (.step ⟨(some 75), .plain .pick, [.tmp 65, .tmp 74, .lit (.bool false)], none⟩
       .done))))))))))))))))))) [57, 58, 59, 60, 61, 62, 63, 64, 65, 66, 67, 68, 69, 70, 71, 72, 73, 74])
     (.cond (.tmp 75)
      (.ops [⟨(some 76), .plain (.fieldAddr 3), [.tmp 2], none⟩,
        ⟨(some 77), .plain (.load false 1), [.tmp 76], none⟩,
        ⟨(some 78), .plain .mv, [.tmp 12], none⟩,
        ⟨(some 79), .plain (.indexAddr 2), [.tmp 77, .tmp 78], none⟩,
        ⟨(some 80), .plain (.fieldAddr 1), [.tmp 79], none⟩,
        ⟨(some 81), .plain (.load false 1), [.tmp 80], none⟩,
        ⟨(some 11), .plain .mv, [.tmp 81], none⟩] [76, 77, 78, 79, 80, 81])
      .skip)))
    (.ops [⟨(some 55), .plain .mv, [.tmp 12], none⟩,
      ⟨(some 56), .plain (.bin .add), [.tmp 55, .lit (.int .i64 1)], none⟩,
      ⟨(some 12), .plain .mv, [.tmp 56], none⟩] [55, 56]))))))
  (.seq (.draw (.step ⟨(some 82), .plain (.fieldAddr 0), [.tmp 10], none⟩
    (.step ⟨(some 83), .plain (.load false 1), [.tmp 82], none⟩
    (.step ⟨(some 84), .plain .mv, [.tmp 11], none⟩
    (.step ⟨(some 85), .plain .mv, [.tmp 1], none⟩
    (.step ⟨(some 86), .plain (.fieldAddr 1), [.tmp 10], none⟩
    (.step ⟨(some 87), .plain (.load false 1), [.tmp 86], none⟩
    (.step ⟨(some 88), .plain (.bin .sub), [.tmp 85, .tmp 87], none⟩
    (.step ⟨(some 4), .plain .mv, [.tmp 83], none⟩
    (.step ⟨(some 5), .plain .mv, [.tmp 84], none⟩
    (.step ⟨(some 6), .plain .mv, [.tmp 88], none⟩
    (.step ⟨(some 7), .plain .mv, [.lit (.int .i64 0)], none⟩
    .done))))))))))) [82, 83, 84, 85, 86, 87, 88])
  .ret)))))))))
def cr49 : List Res := [(4, none), (5, none), (6, none), (7, none)]
theorem ok49 : FOk Try.prog Lk.imp 49 c49 cr49 Try.f49.ntmps := ⟨Try.f49, _, Try.func49, rfl, by kernel_rfl, by kernel_rfl, by kernel_rfl, rfl⟩

/-- ironbark/link.right$1 -/
def c70 : SC :=
  (.seq (.ops [⟨(some 3), .plain (.box 2), [.tmp 0], none⟩,
    ⟨(some 4), .plain .mv, [.lit (.bool false)], none⟩] [])
  (.seq (.ops [⟨(some 5), .plain (.fieldAddr 0), [.tmp 3], none⟩,
    ⟨(some 6), .plain (.load false 1), [.tmp 5], none⟩,
    ⟨(some 7), .call 71, [.tmp 6], none⟩,
    ⟨(some 8), .plain .mv, [.tmp 7], none⟩,
    ⟨(some 9), .plain (.fieldAddr 1), [.tmp 3], (some (8, true))⟩,
    ⟨(some 10), .plain (.load false 1), [.tmp 9], (some (8, true))⟩,
    ⟨(some 11), .plain (.fieldAddr 0), [.tmp 1], (some (8, true))⟩,
    ⟨(some 12), .plain (.load false 1), [.tmp 11], (some (8, true))⟩,
    ⟨(some 13), .plain (.bin .geq), [.tmp 10, .tmp 12], (some (8, true))⟩,
    ⟨(some 14), .plain .pick, [.tmp 8, .tmp 13, .lit (.bool false)], none⟩,
    ⟨(some 15), .plain .mv, [.tmp 14], none⟩,
    ⟨(some 16), .plain (.fieldAddr 1), [.tmp 3], (some (15, true))⟩,
    ⟨(some 17), .plain (.load false 1), [.tmp 16], (some (15, true))⟩,
    ⟨(some 18), .plain (.load false 1), [.tmp 2], (some (15, true))⟩,
    ⟨(some 19), .plain (.bin .leq), [.tmp 17, .tmp 18], (some (15, true))⟩,
    ⟨(some 20), .plain .pick, [.tmp 15, .tmp 19, .lit (.bool false)], none⟩,
    ⟨(some 4), .plain .mv, [.tmp 20], none⟩] [5, 6, 7, 8, 9, 10, 11, 12, 13, 14, 15, 16, 17, 18, 19, 20])
  .ret))
def cr70 : List Res := [(4, none)]
theorem ok70 : FOk Try.prog Lk.imp 70 c70 cr70 Try.f70.ntmps := ⟨Try.f70, _, Try.func70, rfl, by kernel_rfl, by kernel_rfl, by kernel_rfl, rfl⟩

/-- ironbark/link.right -/
def c39 : SC :=
  (.seq (.ops [⟨(some 1), .plain (.box 5), [.tmp 0], none⟩,
    ⟨(some 2), .plain .mv, [.lit (.bool false)], none⟩] [])
  (.seq (.ops [⟨(some 11), .plain (.fieldAddr 0), [.tmp 1], none⟩,
    ⟨(some 12), .plain (.load false 1), [.tmp 11], none⟩,
    ⟨(some 13), .plain (.fieldAddr 1), [.tmp 1], none⟩,
    ⟨(some 14), .plain (.load false 1), [.tmp 13], none⟩,
    ⟨(some 15), .plain (.len 0), [.tmp 14], none⟩,
    ⟨(some 16), .plain (.bin .add), [.tmp 12, .tmp 15], none⟩,
    ⟨(some 3), .plain (.alloc [(.int .i64 0)]), [], none⟩,
    ⟨none, .plain (.store 1), [.tmp 3, .tmp 16], none⟩] [11, 12, 13, 14, 15, 16])
  (.seq (.seq (.ops [⟨(some 17), .plain (.fieldAddr 0), [.tmp 1], none⟩,
    ⟨(some 18), .plain (.load false 1), [.tmp 17], none⟩,
    ⟨(some 19), .call 24, [.tmp 18], none⟩,
    ⟨(some 20), .plain (.un .not), [.tmp 19], none⟩,
    ⟨(some 21), .plain .mv, [.tmp 20], none⟩,
    ⟨(some 22), .plain (.fieldAddr 1), [.tmp 1], (some (21, false))⟩,
    ⟨(some 23), .plain (.load false 1), [.tmp 22], (some (21, false))⟩,
    ⟨(some 24), .plain (.len 0), [.tmp 23], (some (21, false))⟩,
    ⟨(some 25), .plain (.bin .gtr), [.tmp 24, .lit (.int .i64 65536)], (some (21, false))⟩,
    ⟨(some 26), .plain .pick, [.tmp 21, .lit (.bool true), .tmp 25], none⟩,
    ⟨(some 27), .plain .mv, [.tmp 26], none⟩,
    ⟨(some 28), .plain (.load false 1), [.tmp 3], (some (27, false))⟩,
    ⟨(some 29), .plain (.bin .gtr), [.tmp 28, .lit (.int .i64 65536)], (some (27, false))⟩,
    ⟨(some 30), .plain .pick, [.tmp 27, .lit (.bool true), .tmp 29], none⟩] [17, 18, 19, 20, 21, 22, 23, 24, 25, 26, 27, 28, 29])
  (.cond (.tmp 30)
   (.seq (.ops [⟨(some 2), .plain .mv, [.lit (.bool false)], none⟩] [])
   .ret)
   .skip))
  (.seq (.ops [⟨(some 31), .plain (.mkFn 70), [.tmp 1, .tmp 3], none⟩,
    ⟨(some 4), .plain .mv, [.tmp 31], none⟩] [31])
  (.seq (.seq (.ops [⟨(some 32), .plain (.fieldAddr 2), [.tmp 1], none⟩,
    ⟨(some 33), .plain (.load false 1), [.tmp 32], none⟩,
    ⟨(some 34), .plain (.len 1), [.tmp 33], none⟩,
    ⟨(some 35), .plain .mv, [.lit (.int .i64 0)], none⟩] [32])
  (.block 0
   (.loop
    (.seq (.ops [⟨(some 36), .plain (.bin .lss), [.tmp 35, .tmp 34], none⟩] [])
    (.seq (.cond (.tmp 36)
     .skip
     (.exit 0))
    (.seq (.block 1
     (.seq (.ops [⟨(some 37), .plain .mv, [.tmp 35], none⟩,
       ⟨(some 38), .plain (.indexAddr 2), [.tmp 33, .tmp 35], none⟩,
       ⟨(some 39), .plain (.load true 2), [.tmp 38], none⟩,
       ⟨(some 6), .plain (.alloc [(.str ⟨#[]⟩), (.int .i64 0)]), [], none⟩,
       ⟨(some 5), .plain .mv, [.tmp 37], none⟩,
       ⟨none, .plain (.store 2), [.tmp 6, .tmp 39], none⟩] [37, 38, 39])
     (.seq (.draw (.step ⟨(some 40), .plain .mv, [.tmp 4], none⟩
       (.step ⟨(some 41), .plain (.load true 2), [.tmp 6], none⟩
       (.step ⟨(some 42), .callv, [.tmp 40, .tmp 41], none⟩
       (.step ⟨(some 43), .plain (.un .not), [.tmp 42], none⟩
       (.step ⟨(some 44), .plain .mv, [.tmp 43], none⟩
       (.step ⟨(some 45), .plain .mv, [.tmp 5], (some (44, false))⟩
       (.step ⟨(some 46), .plain (.bin .gtr), [.tmp 45, .lit (.int .i64 0)], (some (44, false))⟩
       (.step ⟨(some 47), .plain .mv, [.tmp 46], (some (44, false))⟩
       (.step ⟨(some 48), .plain (.fieldAddr 2), [.tmp 1], (some (47, true))⟩
       (.step ⟨(some 49), .plain (.load false 1), [.tmp 48], (some (47, true))⟩
       (.step ⟨(some 50), .plain .mv, [.tmp 5], (some (47, true))⟩
       (.step ⟨(some 51), .plain (.bin .sub), [.tmp 50, .lit (.int .i64 1)], (some (47, true))⟩
       (.step ⟨(some 52), .plain (.indexAddr 2), [.tmp 49, .tmp 51], (some (47, true))⟩
       (.step ⟨(some 53), .plain (.fieldAddr 0), [.tmp 52], (some (47, true))⟩
       (.step ⟨(some 54), .plain (.load false 1), [.tmp 53], (some (47, true))⟩
       (.step ⟨(some 55), .plain (.fieldAddr 0), [.tmp 6], (some (47, true))⟩
       (.step ⟨(some 56), .plain (.load false 1), [.tmp 55], (some (47, true))⟩
       (.step ⟨(some 57), .plain (.bin .geq), [.tmp 54, .tmp 56], (some (47, true))⟩
       (.step ⟨(some 58), .plain .pick, [.tmp 47, .tmp 57, .lit (.bool false)], (some (44, false))⟩
       (.step ⟨(some 59), .plain .pick, [.tmp 44, .lit (.bool true), .tmp 58], none⟩
       .done)))))))))))))))))))) [40, 41, 42, 43, 44, 45, 46, 47, 48, 49, 50, 51, 52, 53, 54, 55, 56, 57, 58])
     (.cond (.tmp 59)
      (.seq (.ops [⟨(some 2), .plain .mv, [.lit (.bool false)], none⟩] [])
      .ret)
      .skip))))
    (.ops [⟨(some 60), .plain (.bin .add), [.tmp 35, .lit (.int .i64 1)], none⟩,
      ⟨(some 35), .plain .mv, [.tmp 60], none⟩] [60])))))))
  (.seq (.seq (.ops [⟨(some 61), .plain (.fieldAddr 4), [.tmp 1], none⟩,
    ⟨(some 62), .plain (.load false 1), [.tmp 61], none⟩,
    ⟨(some 63), .plain (.len 1), [.tmp 62], none⟩,
    ⟨(some 64), .plain .mv, [.lit (.int .i64 0)], none⟩] [61])
  (.block 2
   (.loop
    (.seq (.ops [⟨(some 65), .plain (.bin .lss), [.tmp 64, .tmp 63], none⟩] [])
    (.seq (.cond (.tmp 65)
     .skip
     (.exit 2))
    (.seq (.block 3
     (.seq (.ops [⟨(some 66), .plain .mv, [.tmp 64], none⟩,
       ⟨(some 67), .plain (.indexAddr 2), [.tmp 62, .tmp 64], none⟩,
       ⟨(some 68), .plain (.load true 2), [.tmp 67], none⟩,
       ⟨(some 8), .plain (.alloc [(.str ⟨#[]⟩), (.int .i64 0)]), [], none⟩,
       ⟨(some 7), .plain .mv, [.tmp 66], none⟩,
       ⟨none, .plain (.store 2), [.tmp 8, .tmp 68], none⟩] [66, 67, 68])
     (.seq (.draw (.step ⟨(some 69), .plain .mv, [.tmp 4], none⟩
       (.step ⟨(some 70), .plain (.load true 2), [.tmp 8], none⟩
       (.step ⟨(some 71), .callv, [.tmp 69, .tmp 70], none⟩
       (.step ⟨(some 72), .plain (.un .not), [.tmp 71], none⟩
       (.step ⟨(some 73), .plain .mv, [.tmp 72], none⟩
       (.step ⟨(some 74), .plain (.fieldAddr 1), [.tmp 8], (some (73, false))⟩
       (.step ⟨(some 75), .plain (.load false 1), [.tmp 74], (some (73, false))⟩
       (.step ⟨(some 76), .plain (.bin .rem), [.tmp 75, .lit (.int .i64 8)], (some (73, false))⟩
       (.step ⟨(some 77), .plain (.bin .neq), [.tmp 76, .lit (.int .i64 0)], (some (73, false))⟩
       (.step ⟨(some 78), .plain .pick, [.tmp 73, .lit (.bool true), .tmp 77], none⟩
       (.step ⟨(some 79), .plain .mv, [.tmp 78], none⟩
       (.step ⟨(some 80), .plain .mv, [.tmp 7], (some (79, false))⟩
       (.step ⟨(some 81), .plain (.bin .gtr), [.tmp 80, .lit (.int .i64 0)], (some (79, false))⟩
       (.step ⟨(some 82), .plain .mv, [.tmp 81], (some (79, false))⟩
       (.step ⟨(some 83), .plain (.fieldAddr 4), [.tmp 1], (some (82, true))⟩
       (.step ⟨(some 84), .plain (.load false 1), [.tmp 83], (some (82, true))⟩
       (.step ⟨(some 85), .plain .mv, [.tmp 7], (some (82, true))⟩
       (.step ⟨(some 86), .plain (.bin .sub), [.tmp 85, .lit (.int .i64 1)], (some (82, true))⟩
       (.step ⟨(some 87), .plain (.indexAddr 2), [.tmp 84, .tmp 86], (some (82, true))⟩
       (.step ⟨(some 88), .plain (.fieldAddr 1), [.tmp 87], (some (82, true))⟩
       (.step ⟨(some 89), .plain (.load false 1), [.tmp 88], (some (82, true))⟩
       (.step ⟨(some 90), .plain (.fieldAddr 1), [.tmp 8], (some (82, true))⟩
       (.step ⟨(some 91), .plain (.load false 1), [.tmp 90], (some (82, true))⟩
       (.step ⟨(some 92), .plain (.bin .gtr), [.tmp 89, .tmp 91], (some (82, true))⟩
       (.step ⟨(some 93), .plain .pick, [.tmp 82, .tmp 92, .lit (.bool false)], (some (79, false))⟩
       (.step ⟨(some 94), .plain .pick, [.tmp 79, .lit (.bool true), .tmp 93], none⟩
       .done)))))))))))))))))))))))))) [69, 70, 71, 72, 73, 74, 75, 76, 77, 78, 79, 80, 81, 82, 83, 84, 85, 86, 87, 88, 89, 90, 91, 92, 93])
     (.cond (.tmp 94)
      (.seq (.ops [⟨(some 2), .plain .mv, [.lit (.bool false)], none⟩] [])
      .ret)
      .skip))))
    (.ops [⟨(some 95), .plain (.bin .add), [.tmp 64, .lit (.int .i64 1)], none⟩,
      ⟨(some 64), .plain .mv, [.tmp 95], none⟩] [95])))))))
  (.seq (.seq (.ops [⟨(some 96), .plain (.fieldAddr 3), [.tmp 1], none⟩,
    ⟨(some 97), .plain (.load false 1), [.tmp 96], none⟩,
    ⟨(some 98), .plain (.len 1), [.tmp 97], none⟩,
    ⟨(some 99), .plain .mv, [.lit (.int .i64 0)], none⟩] [96])
  (.block 4
   (.loop
    (.seq (.ops [⟨(some 100), .plain (.bin .lss), [.tmp 99, .tmp 98], none⟩] [])
    (.seq (.cond (.tmp 100)
     .skip
     (.exit 4))
    (.seq (.block 5
     (.seq (.ops [⟨(some 101), .plain .mv, [.tmp 99], none⟩,
       ⟨(some 102), .plain (.indexAddr 2), [.tmp 97, .tmp 99], none⟩,
       ⟨(some 103), .plain (.load true 2), [.tmp 102], none⟩,
       ⟨(some 10), .plain (.alloc [(.int .i64 0), (.int .i64 0)]), [], none⟩,
       ⟨(some 9), .plain .mv, [.tmp 101], none⟩,
       ⟨none, .plain (.store 2), [.tmp 10, .tmp 103], none⟩] [101, 102, 103])
     (.seq (.draw (.step ⟨(some 104), .plain (.fieldAddr 0), [.tmp 10], none⟩
       (.step ⟨(some 105), .plain (.load false 1), [.tmp 104], none⟩
       (.step ⟨(some 106), .plain (.fieldAddr 0), [.tmp 1], none⟩
       (.step ⟨(some 107), .plain (.load false 1), [.tmp 106], none⟩
       (.step ⟨(some 108), .plain (.bin .lss), [.tmp 105, .tmp 107], none⟩
       (.step ⟨(some 109), .plain .mv, [.tmp 108], none⟩
       (.step ⟨(some 110), .plain (.fieldAddr 0), [.tmp 10], (some (109, false))⟩
       (.step ⟨(some 111), .plain (.load false 1), [.tmp 110], (some (109, false))⟩
       (.step ⟨(some 112), .plain (.load false 1), [.tmp 3], (some (109, false))⟩
       (.step ⟨(some 113), .plain (.bin .gtr), [.tmp 111, .tmp 112], (some (109, false))⟩
       (.step ⟨(some 114), .plain .pick, [.tmp 109, .lit (.bool true), .tmp 113], none⟩
       (.step ⟨(some 115), .plain .mv, [.tmp 114], none⟩
       (.step ⟨(some 116), .plain .mv, [.tmp 9], (some (115, false))⟩
       (.step ⟨(some 117), .plain (.bin .gtr), [.tmp 116, .lit (.int .i64 0)], (some (115, false))⟩
       (.step ⟨(some 118), .plain .mv, [.tmp 117], (some (115, false))⟩
       (.step ⟨(some 119), .plain (.fieldAddr 3), [.tmp 1], (some (118, true))⟩
       (.step ⟨(some 120), .plain (.load false 1), [.tmp 119], (some (118, true))⟩
       (.step ⟨(some 121), .plain .mv, [.tmp 9], (some (118, true))⟩
       (.step ⟨(some 122), .plain (.bin .sub), [.tmp 121, .lit (.int .i64 1)], (some (118, true))⟩
       (.step ⟨(some 123), .plain (.indexAddr 2), [.tmp 120, .tmp 122], (some (118, true))⟩
       (.step ⟨(some 124), .plain (.fieldAddr 0), [.tmp 123], (some (118, true))⟩
       (.step ⟨(some 125), .plain (.load false 1), [.tmp 124], (some (118, true))⟩
       (.step ⟨(some 126), .plain (.fieldAddr 0), [.tmp 10], (some (118, true))⟩
       (.step ⟨(some 127), .plain (.load false 1), [.tmp 126], (some (118, true))⟩
       (.step ⟨(some 128), .plain (.bin .geq), [.tmp 125, .tmp 127], (some (118, true))⟩
       (.step ⟨(some 129), .plain .pick, [.tmp 118, .tmp 128, .lit (.bool false)], (some (115, false))⟩
       (.step ⟨(some 130), .plain .pick, [.tmp 115, .lit (.bool true), .tmp 129], none⟩
       .done))))))))))))))))))))))))))) [104, 105, 106, 107, 108, 109, 110, 111, 112, 113, 114, 115, 116, 117, 118, 119, 120, 121, 122, 123, 124, 125, 126, 127, 128, 129])
     (.cond (.tmp 130)
      (.seq (.ops [⟨(some 2), .plain .mv, [.lit (.bool false)], none⟩] [])
      .ret)
      .skip))))
    (.ops [⟨(some 131), .plain (.bin .add), [.tmp 99, .lit (.int .i64 1)], none⟩,
      ⟨(some 99), .plain .mv, [.tmp 131], none⟩] [131])))))))
  (.seq (.ops [⟨(some 2), .plain .mv, [.lit (.bool true)], none⟩] [])
  .ret))))))))
def cr39 : List Res := [(2, none)]
theorem ok39 : FOk Try.prog Lk.imp 39 c39 cr39 Try.f39.ntmps := ⟨Try.f39, _, Try.func39, rfl, by kernel_rfl, by kernel_rfl, by kernel_rfl, rfl⟩

/-- (*strings.Builder).WriteString -/
def c43 : SC :=
  (.seq (.ops [⟨(some 4), .plain .mv, [.lit (.int .i64 0)], none⟩,
    ⟨(some 5), .plain .mv, [.lit (.const .nilIface)], none⟩] [])
  (.seq (.ops [⟨(some 6), .plain .mv, [.tmp 0], none⟩,
    ⟨(some 7), .call 74, [.tmp 6], none⟩] [6, 7])
  (.seq (.ops [⟨(some 8), .plain .mv, [.tmp 0], none⟩,
    ⟨(some 9), .plain .mv, [.tmp 0], none⟩,
    ⟨(some 10), .plain .nilCheck, [.tmp 9], none⟩,
    ⟨(some 11), .plain (.fieldAddr 1), [.tmp 10], none⟩,
    ⟨(some 12), .plain (.load false 1), [.tmp 11], none⟩,
    ⟨(some 13), .plain .mv, [.tmp 1], none⟩,
    ⟨(some 14), .plain (.appendS 5 1), [.tmp 12, .tmp 13], none⟩,
    ⟨(some 15), .plain .nilCheck, [.tmp 8], none⟩,
    ⟨(some 16), .plain (.fieldAddr 1), [.tmp 15], none⟩,
    ⟨none, .plain (.store 1), [.tmp 16, .tmp 14], none⟩] [8, 9, 10, 11, 12, 13, 14, 15, 16])
  (.seq (.ops [⟨(some 17), .plain .mv, [.tmp 1], none⟩,
    ⟨(some 18), .plain (.len 0), [.tmp 17], none⟩,
    ⟨(some 4), .plain .mv, [.tmp 18], none⟩,
    ⟨(some 5), .plain .mv, [.lit (.const .nilIface)], none⟩] [17, 18])
  .ret))))
def cr43 : List Res := [(4, none), (5, none)]
theorem ok43 : FOk Try.prog Lk.imp 43 c43 cr43 Try.f43.ntmps := ⟨Try.f43, _, Try.func43, rfl, by kernel_rfl, by kernel_rfl, by kernel_rfl, rfl⟩

end Go.Pm

/- LkQ4: contracts: numbers in hexadecimal digits. -/
namespace Go.Pm
open Go Go.Proofs
attribute [-simp] List.getElem?_map

def figs : ByteArray := ⟨#[48, 49, 50, 51, 52, 53, 54, 55, 56, 57, 65, 66, 67, 68, 69, 70]⟩
def digB (d : Nat) : UInt8 := figs.data.toList.getD d 0
def hexL (n : Nat) : Nat → List UInt8
  | 0 => []
  | k + 1 => digB (n / 16 ^ k % 16) :: hexL n k
def hexF (n k : Nat) : ByteArray := ⟨(hexL n k).toArray⟩
theorem hexL_len (n : Nat) : ∀ k, (hexL n k).length = k
  | 0 => rfl
  | k + 1 => by rw [hexL, List.length_cons, hexL_len n k]
theorem figs_size : figs.size = 16 := rfl
theorem figs_part : ∀ d, d < 16 → figs.extract d (d + 1) = ⟨#[digB d]⟩ := by decide
theorem figs_at : ∀ d, d < 16 → figs[d]? = some (digB d) := by decide
theorem hexF_succ (n k : Nat) : (⟨#[digB (n / 16 ^ k % 16)]⟩ : ByteArray) ++ hexF n k = hexF n (k + 1) := by
  apply ByteArray.ext
  apply Array.ext'
  simp [hexF, hexL, ByteArray.data_append]

theorem call47 (n d : Nat) (hn : n ≤ 1000000000000) (hd : d ≤ 1000) : PCalls Try.prog 47 [.int .i64 n, .int .i64 d] fun out => out = .ret (.str (hexF n d)) := by
  refine ok47.pcalls (by simp) ?_
  simp [c47]
  refine wpS_loopS (ι := Nat) (fun i => [(0, .int .i64 (n / 16 ^ i : Nat)), (1, .int .i64 d), (5, .str (hexF n i)), (6, .int .i64 i)]) (fun _ => Mem.empty) (fun i => d - i) (fun i => i ≤ d) 0 (Nat.zero_le _) (Sim.of_le (Env.le_of (by simp [hexF, hexL])) (Mem.le_of rfl (by simp))) ?_
  intro i hi
  have hw : IntKind.i64.wrap (i + 1) = i + 1 := wrap64 (by omega) (by omega)
  obtain ⟨a, ha⟩ : ∃ a, a = n / 16 ^ i := ⟨_, rfl⟩
  have han : a ≤ n := by rw [ha]; exact Nat.div_le_self _ _
  have hs := hexF_succ n i
  rw [← ha] at hs
  rw [← ha]
  simp
  refine br_cond rfl (fun h => ?_) (fun h => ?_)
  · have hlt : i < d := by have := ltI_t.1 h; omega
    obtain ⟨c, hc⟩ : ∃ c, c = a % 16 := ⟨_, rfl⟩
    have hc16 : c < 16 := by omega
    have hm : (a : Int).tmod 16 = (c : Int) := by rw [Int.tmod_eq_emod_of_nonneg (by omega)]; omega
    have hwc : IntKind.i64.wrap (c + 1) = c + 1 := wrap64 (by omega) (by omega)
    obtain ⟨q, hq⟩ : ∃ q, q = a / 16 := ⟨_, rfl⟩
    have hdv : (a : Int).tdiv 16 = (q : Int) := by rw [Int.tdiv_eq_ediv_of_nonneg (by omega)]; omega
    have hwq : IntKind.i64.wrap (q : Int) = q := wrap64 (by omega) (by omega)
    rw [← hc] at hs
    have hext := figs_part c hc16
    unfold figs at hext
    have hsz : (1 : Nat) + (hexF n i).size ≤ 9223372036854775807 := by
      have : (hexF n i).size = i := hexL_len n i
      omega
    have hb1 : (c : Int) + 1 ≤ 16 := by omega
    have hb2 : (c : Int) ≤ (c : Int) + 1 := by omega
    have hqn : n / 16 ^ (i + 1) = q := by rw [Nat.pow_succ, ← Nat.div_div_eq_div_mul, ← ha, hq]
    have hs16 : ByteArray.size ⟨#[48, 49, 50, 51, 52, 53, 54, 55, 56, 57, 65, 66, 67, 68, 69, 70]⟩ = 16 := rfl
    have hs1 : ByteArray.size ⟨#[digB c]⟩ = 1 := rfl
    simp [hm, hwc, sliceA, boundsA, hs16, hb1, hb2, hext, hs1, hsz, hs, hdv, hwq, hw]
    exact ⟨i + 1, by omega, by omega, Sim.of_le (Env.le_of (by simp [← hqn])) (Mem.le_of rfl (by simp))⟩
  · have hid : i = d := by have := ltI_f.1 h; omega
    subst hid
    simp [h, cr47]

theorem and15 (a : Nat) (h : a < 9223372036854775808) : (BitVec.ofInt 64 (a : Int) &&& BitVec.ofInt 64 15).toNat = a % 16 := by
  have h1 : BitVec.ofInt 64 (a : Int) = BitVec.ofNat 64 a := BitVec.ofInt_natCast 64 a
  have h2 : BitVec.ofInt 64 15 = BitVec.ofNat 64 15 := rfl
  rw [h1, h2, BitVec.toNat_and, BitVec.toNat_ofNat, BitVec.toNat_ofNat, Nat.mod_eq_of_lt (a := a) (by omega)]
  exact Nat.and_two_pow_sub_one_eq_mod a 4

def zeroBytes (k : Nat) : List (List AV) := List.replicate k [.int .u8 0]
def byteRow (l : List UInt8) : List (List AV) := l.map fun b => [AV.int .u8 b.toNat]
theorem byteRow_of (l : List UInt8) : (byteRow l).mapM byteOf = some l := by
  induction l with
  | nil => rfl
  | cons b l ih => simp only [byteRow] at ih; simp [byteRow, byteOf, ih]
theorem set_last (k : Nat) (b : UInt8) (l : List UInt8) : (zeroBytes (k + 1) ++ byteRow l).set k [.int .u8 b.toNat] = zeroBytes k ++ byteRow (b :: l) := by
  have e : zeroBytes (k + 1) ++ byteRow l = zeroBytes k ++ [.int .u8 0] :: byteRow l := by
    unfold zeroBytes
    rw [List.replicate_succ']
    simp
  rw [e, List.set_append_right _ _ (by simp [zeroBytes])]
  simp [zeroBytes, byteRow]

theorem call44 (n d : Nat) (hn : n ≤ 1000000000000) (hd : d ≤ 15) (hd0 : 0 < d) : PCalls Try.prog 44 [.int .i64 n, .int .i64 d] fun out => out = .ret (.str (hexF n d)) := by
  refine ok44.pcalls (by simp) ?_
  have hb1 : d ≤ 140737488355328 := by omega
  have hb2 : (d : Int) ≤ 9223372036854775807 := by omega
  simp [c44, hb1, hb2]
  refine wpS_loopS (ι := Nat) (fun i => [(0, .int .i64 n), (1, .int .i64 d), (5, .row 0 0 1 0 d), (10, .int .i64 d), (11, .int .i64 i)]) (fun i => ⟨[(0, .row 5 1 (zeroBytes (d - i) ++ byteRow (hexL n i)))], 1⟩) (fun i => d - i) (fun i => i ≤ d) 0 (Nat.zero_le _) (Sim.of_le (Env.le_of (by simp)) (Mem.le_of rfl (by simp [zeroBytes, byteRow, hexL]))) ?_
  intro i hi
  have hw : IntKind.i64.wrap (i + 1) = i + 1 := wrap64 (by omega) (by omega)
  simp
  refine br_cond rfl (fun h => ?_) (fun h => ?_)
  · have hlt : i < d := by have := ltI_t.1 h; omega
    obtain ⟨k, hk⟩ : ∃ k, k = d - i - 1 := ⟨_, rfl⟩
    have hw1 : IntKind.i64.wrap (d - 1) = (d : Int) - 1 := wrap64 (by omega) (by omega)
    have hw2 : IntKind.i64.wrap ((d : Int) - 1 - i) = (k : Int) := by rw [wrap64 (by omega) (by omega)]; omega
    obtain ⟨q, hq⟩ : ∃ q, q = 4 * i := ⟨_, rfl⟩
    have hw3 : IntKind.i64.wrap (4 * i) = (q : Int) := by rw [wrap64 (by omega) (by omega)]; omega
    obtain ⟨a, ha⟩ : ∃ a, a = n / 16 ^ i := ⟨_, rfl⟩
    have han : a ≤ n := by rw [ha]; exact Nat.div_le_self _ _
    have hmin : min q IntKind.i64.bits = q := Nat.min_eq_left (by show q ≤ 64; omega)
    have hpow : (2 : Nat) ^ q = 16 ^ i := by rw [hq, Nat.pow_mul]
    have hsh : (n : Int).fdiv (2 ^ min q IntKind.i64.bits) = (a : Int) := by
      rw [hmin, Int.fdiv_eq_ediv_of_nonneg _ (Int.le_of_lt (Int.pow_pos (by omega)))]
      have : (2 : Int) ^ q = ((16 ^ i : Nat) : Int) := by rw [← hpow]; simp
      rw [this, ha]
      rfl
    have hnq : ¬ ((q : Int) < 0) := by omega
    obtain ⟨c, hc⟩ : ∃ c, c = a % 16 := ⟨_, rfl⟩
    have hand : (BitVec.ofInt 64 (a : Int) &&& BitVec.ofInt 64 15).toNat = c := by rw [hc]; exact and15 a (by omega)
    have hwc : IntKind.i64.wrap (c : Int) = c := wrap64 (by omega) (by omega)
    have hfig := figs_at c (by omega)
    unfold figs at hfig
    have hkd : ltI (k : Int) d = true := ltN (by omega)
    have hset := set_last k (digB c) (hexL n i)
    have hlen : (zeroBytes (d - i) ++ byteRow (hexL n i))[k]? = some [.int .u8 0] := by
      rw [show d - i = k + 1 by omega, List.getElem?_append_left (by simp [zeroBytes])]
      simp [zeroBytes]
    rw [show k + 1 = d - i by omega] at hset
    have hbin : binA .and (.int .i64 (a : Int)) (.int .i64 15) = some (.int .i64 (c : Int)) := by
      simp only [binA, binInt, if_true]
      rw [show IntKind.i64.bits = 64 from rfl, hand, hwc]
    have hkl : ltI (k : Int) ((zeroBytes (d - i) ++ byteRow (hexL n i)).length : Int) = true := ltN (by simp [zeroBytes]; omega)
    have hc0 : (0 : Int) ≤ c := by omega
    have hk2 : d - (i + 1) = k := by omega
    have hdc : digB c = digB (n / 16 ^ i % 16) := by rw [hc, ha]
    simp [hw1, hw2, hw3, hnq, hsh, hbin, hfig, hkd, hlen, hset, hw]
    exact ⟨i + 1, by omega, by omega, Sim.of_le (Env.le_of (by simp)) (Mem.le_of rfl (by simp [hk2, hexL, hdc]))⟩
  · have hid : i = d := by have := ltI_f.1 h; omega
    subst hid
    have h1 : zeroBytes 0 ++ byteRow (hexL n i) = byteRow (hexL n i) := rfl
    have h2 : (byteRow (hexL n i)).length = i := by simp [byteRow, hexL_len]
    have h3 : i ≤ (byteRow (hexL n i)).length := by omega
    have h4 : (byteRow (hexL n i)).take i = byteRow (hexL n i) := List.take_of_length_le (by omega)
    simp [h, h3, h1, h4, byteRow_of, cr44, hexF]
end Go.Pm

/- LkT3: contracts: the rows of a map: swaps and turns of pieces. -/
namespace Go.Pm
open Go Go.Proofs
attribute [-simp] List.getElem?_map Mem.obj Mem.put List.map_set

def rowsR (ls : List DRow) : AObj := .row 78 3 (ls.map DRow.av)
theorem obj_put {m : Mem} {pos gen : Nat} {o o' : AObj} (h : m.obj pos gen = some o) : (m.put pos gen o').obj pos gen = some o' := by
  have hlt := (List.getElem?_eq_some_iff.1 (Mem.obj_some h)).1
  simp [Mem.obj, Mem.put, List.getElem?_set, hlt]
theorem put_put {m : Mem} {pos gen : Nat} {o o' : AObj} : (m.put pos gen o).put pos gen o' = m.put pos gen o' := by simp [Mem.put]
theorem put_obj {m : Mem} {pos gen : Nat} {o : AObj} (h : m.obj pos gen = some o) : m.put pos gen o = m := Mem.put_same (Mem.obj_some h)
theorem set_av {ls : List DRow} {i : Nat} {r : DRow} : (ls.map DRow.av).set i [.int .i64 r.at_, .bool r.isDef, .str r.text] = (ls.set i r).map DRow.av := by rw [List.map_set]; rfl

def swpN (ls : List DRow) (a b : Nat) : Nat → List DRow
  | 0 => ls
  | k + 1 => swp (swpN ls a b k) (a + k) (b + k)
theorem swpN_len {ls : List DRow} {a b : Nat} : ∀ k, (swpN ls a b k).length = ls.length
  | 0 => rfl
  | k + 1 => by rw [swpN, swp_len, swpN_len k]

theorem call117 (m : Mem) (pos gen n : Nat) (ls : List DRow) (h : m.obj pos gen = some (rowsR ls)) (hn : ls.length = n) (a b k : Nat) (hab : a + k ≤ b) (hb : b + k ≤ n) (hl : n ≤ 3000000000000) (f : AV) :
    ACalls Try.prog 117 [.row pos gen 3 0 n, .int .i64 a, .int .i64 b, .int .i64 k, f] m fun out m' => out = .ret (.tuple []) ∧ m' = m.put pos gen (rowsR (swpN ls a b k)) := by
  refine ok117.acalls (by simp) ?_
  simp [c117]
  refine wpS_loopS (ι := Nat) (fun i => [(0, .row pos gen 3 0 n), (1, .int .i64 a), (2, .int .i64 b), (3, .int .i64 k), (10, .int .i64 i)]) (fun i => m.put pos gen (rowsR (swpN ls a b i))) (fun i => k - i) (fun i => i ≤ k) 0 (Nat.zero_le _)
    (Sim.of_le (Env.le_of (by simp)) (by rw [swpN, put_obj h]; exact Mem.le_refl m)) ?_
  intro i hi
  have hw : IntKind.i64.wrap (i + 1) = i + 1 := wrap64 (by omega) (by omega)
  simp
  refine br_cond rfl (fun h1 => ?_) (fun h1 => ?_)
  · have hlt : i < k := by have := ltI_t.1 h1; omega
    obtain ⟨p, hp⟩ : ∃ p, p = a + i := ⟨_, rfl⟩
    obtain ⟨q, hq⟩ : ∃ q, q = b + i := ⟨_, rfl⟩
    have hwa : IntKind.i64.wrap (a + i) = (p : Int) := by rw [wrap64 (by omega) (by omega)]; omega
    have hwb : IntKind.i64.wrap (b + i) = (q : Int) := by rw [wrap64 (by omega) (by omega)]; omega
    have h2 : ltI (p : Int) (n : Int) = true := ltN (by omega)
    have h3 : ltI (q : Int) (n : Int) = true := ltN (by omega)
    have h2' : ltI (p : Int) (swpN ls a b i).length = true := ltN (by rw [swpN_len]; omega)
    have h3' : ltI (q : Int) (swpN ls a b i).length = true := ltN (by rw [swpN_len]; omega)
    have h4' : ltI (q : Int) ((swpN ls a b i).set p (ix (swpN ls a b i) q)).length = true := ltN (by rw [List.length_set, swpN_len]; omega)
    simp [hwa, hwb, h2, h3, obj_put h, rowsR, idxM h2', idxM h3', idxM h4', DRow.av, hw, put_put, set_av]
    exact ⟨i + 1, by omega, by omega, Sim.of_le (Env.le_of (by simp)) (by rw [swpN, ← hp, ← hq]; exact Mem.le_refl _)⟩
  · have hik : i = k := by have := ltI_f.1 h1; omega
    simp [h1, cr117, hik, postA, endPost]

theorem swpN_part {A X M Y B : List DRow} (hxy : X.length = Y.length) : ∀ k, k ≤ X.length →
    swpN (A ++ (X ++ (M ++ (Y ++ B)))) A.length (A.length + (X.length + M.length)) k = A ++ (Y.take k ++ (X.drop k ++ (M ++ (X.take k ++ (Y.drop k ++ B)))))
  | 0, _ => by simp [swpN]
  | k + 1, hk => by
    have hX := drop_ix' (l := X) (k := k) (by omega)
    have hY := drop_ix' (l := Y) (k := k) (by omega)
    have hX2 := take_ix (l := X) (k := k) (by omega)
    have hY2 := take_ix (l := Y) (k := k) (by omega)
    rw [swpN, swpN_part hxy k (by omega), hX, hY, hX2, hY2]
    have := swp_at (P := A ++ Y.take k) (Q := X.drop (k + 1) ++ (M ++ X.take k)) (R := Y.drop (k + 1) ++ B) (x := ix X k) (y := ix Y k) (i := A.length + k) (j := A.length + (X.length + M.length) + k) (by simp; omega) (by simp; omega)
    simp only [List.append_assoc, List.cons_append] at this ⊢
    rw [this]
    simp
theorem swpN_whole {A X M Y B : List DRow} {a b k : Nat} (hxy : X.length = Y.length) (ha : a = A.length) (hb : b = A.length + (X.length + M.length)) (hk : k = X.length) :
    swpN (A ++ (X ++ (M ++ (Y ++ B)))) a b k = A ++ (Y ++ (M ++ (X ++ B))) := by
  subst ha; subst hb; subst hk
  rw [swpN_part hxy _ (Nat.le_refl _), List.take_length, List.drop_length, hxy, List.take_length, List.drop_length]
  simp

theorem wrapN {x : Int} {p : Nat} (h : x = (p : Int)) (hp : p ≤ 9000000000000000000) : IntKind.i64.wrap x = (p : Int) := by rw [wrap64 (by omega) (by omega), h]

theorem call108 (m : Mem) (pos gen n : Nat) (A0 X0 Y0 B0 : List DRow) (h : m.obj pos gen = some (rowsR (A0 ++ (X0 ++ (Y0 ++ B0))))) (hn : (A0 ++ (X0 ++ (Y0 ++ B0))).length = n) (a c b : Nat) (ha : a = A0.length) (hc : c = A0.length + X0.length) (hb : b = A0.length + (X0.length + Y0.length))
    (hx : 0 < X0.length) (hy : 0 < Y0.length) (hl : n ≤ 3000000000000) (f : AV) :
    ACalls Try.prog 108 [.row pos gen 3 0 n, .int .i64 a, .int .i64 c, .int .i64 b, f] m fun out m' => out = .ret (.tuple []) ∧ m' = m.put pos gen (rowsR (A0 ++ (Y0 ++ (X0 ++ B0)))) := by
  refine ok108.acalls (by simp) ?_
  have hln : A0.length + (X0.length + (Y0.length + B0.length)) = n := by simpa using hn
  obtain ⟨i0, hi0⟩ : ∃ i, i = X0.length := ⟨_, rfl⟩
  obtain ⟨j0, hj0⟩ : ∃ i, i = Y0.length := ⟨_, rfl⟩
  have hw1 : IntKind.i64.wrap (c - a) = (i0 : Int) := wrapN (by omega) (by omega)
  have hw2 : IntKind.i64.wrap (b - c) = (j0 : Int) := wrapN (by omega) (by omega)
  simp [c108, hw1, hw2]
  refine wpS_loopS (ι := (List DRow × List DRow) × (List DRow × List DRow)) (fun g => [(0, .row pos gen 3 0 n), (2, .int .i64 c), (4, f), (10, .int .i64 g.1.2.length), (11, .int .i64 g.2.1.length)]) (fun g => m.put pos gen (rowsR (g.1.1 ++ (g.1.2 ++ (g.2.1 ++ g.2.2))))) (fun g => g.1.2.length + g.2.1.length)
    (fun g => g.1.1 ++ (g.2.1 ++ (g.1.2 ++ g.2.2)) = A0 ++ (Y0 ++ (X0 ++ B0)) ∧ g.1.1.length + g.1.2.length = c ∧ 0 < g.1.2.length ∧ 0 < g.2.1.length) ((A0, X0), (Y0, B0)) ⟨rfl, by simp only; omega, hx, hy⟩
    (Sim.of_le (Env.le_of (by simp [hi0, hj0])) (by rw [put_obj h]; exact Mem.le_refl m)) ?_
  rintro ⟨⟨A, X⟩, ⟨Y, B⟩⟩ ⟨hT, hc2, hx2, hy2⟩
  simp only at hT hc2 hx2 hy2
  have hlen : A.length + (Y.length + (X.length + B.length)) = n := by
    have := congrArg List.length hT
    simp at this; omega
  have hrow : ∀ l : List DRow, (m.put pos gen (rowsR l)).obj pos gen = some (rowsR l) := fun l => obj_put h
  obtain ⟨i, hi⟩ : ∃ i, i = X.length := ⟨_, rfl⟩
  obtain ⟨j, hj⟩ : ∃ i, i = Y.length := ⟨_, rfl⟩
  simp only [← hi, ← hj]
  obtain ⟨p, hp⟩ : ∃ p, p = A.length := ⟨_, rfl⟩
  have hwp : IntKind.i64.wrap (c - i) = (p : Int) := wrapN (by omega) (by omega)
  have hwc : IntKind.i64.wrap (c + j) = ((c + j : Nat) : Int) := wrapN (by omega) (by omega)
  simp
  refine br_cond rfl (fun h1 => ?_) (fun h1 => ?_)
  · have hne : i ≠ j := by
      intro e
      simp [eqI, e] at h1
    simp
    refine br_cond rfl (fun h2 => ?_) (fun h2 => ?_)
    · have hlt : j < i := by have := ltI_t.1 h2; omega
      obtain ⟨d, hd⟩ : ∃ d, d = i - j := ⟨_, rfl⟩
      have hwd : IntKind.i64.wrap (i - j) = (d : Int) := wrapN (by omega) (by omega)
      simp [hwp]
      refine xcall_a (call117 _ pos gen n _ (hrow _) (by simp; omega) p c j (by omega) (by omega) hl f) ?_
      have hs : swpN (A ++ (X ++ (Y ++ B))) p c j = (A ++ Y) ++ (X.drop j ++ (X.take j ++ B)) := by
        have := swpN_whole (A := A) (X := X.take j) (M := X.drop j) (Y := Y) (B := B) (a := p) (b := c) (k := j) (by simp; omega) hp (by simp; omega) (by simp; omega)
        rw [← List.append_assoc (X.take j), List.take_append_drop] at this
        rw [this, List.append_assoc]
      have e1 : (X.drop j).length = d := by simp; omega
      have e2 : (X.take j).length = j := by simp; omega
      simp [hs, hwd, put_put]
      exact ⟨A ++ Y, X.drop j, X.take j, B, ⟨by rw [← hT, ← List.append_assoc (X.take j), List.take_append_drop, List.append_assoc], by rw [e1, List.length_append]; omega, by omega, by omega⟩, by rw [e1, e2]; omega,
        Sim.of_le (Env.le_of (by simp [e1, e2])) (by rw [List.append_assoc]; exact Mem.le_refl _)⟩
    · have hlt : i < j := by have := ltI_f.1 h2; omega
      obtain ⟨d, hd⟩ : ∃ d, d = j - i := ⟨_, rfl⟩
      obtain ⟨q, hq⟩ : ∃ q, q = c + j - i := ⟨_, rfl⟩
      obtain ⟨r, hr⟩ : ∃ r, r = c + j := ⟨_, rfl⟩
      have hwd : IntKind.i64.wrap (j - i) = (d : Int) := wrapN (by omega) (by omega)
      have hwr : IntKind.i64.wrap (c + j) = (r : Int) := wrapN (by omega) (by omega)
      have hwq : IntKind.i64.wrap (r - i) = (q : Int) := wrapN (by omega) (by omega)
      simp [hwp, hwr, hwq]
      refine xcall_a (call117 _ pos gen n _ (hrow _) (by simp; omega) p q i (by omega) (by omega) hl f) ?_
      have hs : swpN (A ++ (X ++ (Y ++ B))) p q i = A ++ (Y.drop d ++ (Y.take d ++ (X ++ B))) := by
        have := swpN_whole (A := A) (X := X) (M := Y.take d) (Y := Y.drop d) (B := B) (a := p) (b := q) (k := i) (by simp; omega) hp (by simp; omega) hi
        rw [← List.append_assoc (Y.take d), List.take_append_drop] at this
        rw [this]
      have e1 : (Y.drop d).length = i := by simp; omega
      have e2 : (Y.take d).length = d := by simp; omega
      simp [hs, hwd, put_put]
      exact ⟨A, Y.drop d, Y.take d, X ++ B, ⟨by rw [← hT, ← List.append_assoc (Y.take d), List.take_append_drop], by rw [e1]; omega, by omega, by omega⟩, by rw [e1, e2]; omega,
        Sim.of_le (Env.le_of (by simp [e1, e2])) (Mem.le_refl _)⟩
  · have hij : i = j := by
      have := eqI_t.1 (show eqI (i : Int) j = true by simpa using h1)
      omega
    simp [hwp]
    refine xcall_a (call117 _ pos gen n _ (hrow _) (by simp; omega) p c i (by omega) (by omega) hl f) ?_
    have hs : swpN (A ++ (X ++ (Y ++ B))) p c i = A ++ (Y ++ (X ++ B)) := by
      have := swpN_whole (A := A) (X := X) (M := []) (Y := Y) (B := B) (a := p) (b := c) (k := i) (by omega) hp (by simp; omega) hi
      simpa using this
    simp [hs, put_put, cr108, postA, endPost, hT]
end Go.Pm

/- LkT4: contracts: the rows of a map: sorted by insertion. -/
namespace Go.Pm
open Go Go.Proofs
attribute [-simp] List.getElem?_map Mem.obj Mem.put List.map_set List.map_append List.map_take List.map_drop

theorem xdopsv_p {P : Program} {imp : List FuncId} {f : FuncId} {args : List Opnd} {caps xs ys : List AV} {v : AV} {dst : Option Nat} {t : DT} {d : List Nat} {fs : List Fr} {Q : Post} {e : Env} {m : Mem} (h : args.map (·.eval e) = .fn f caps :: xs)
    (hc : PCalls P f ys fun out => out = .ret v) (hx : tmpAs m (xs ++ caps) = some ys) (hk : xdops P imp t d fs Q (e.put dst v) m) : xdops P imp (.step ⟨dst, .callv, args, none⟩ t) d fs Q e m := by
  rw [xdops_callv h]
  exact ⟨ys, v, hx, hc, hk⟩

theorem DRow.av_noref (r : DRow) : norefL r.av = true := by simp [DRow.av]
theorem row_args (m : Mem) (x y : DRow) : tmpAs m [.agg x.av, .agg y.av] = some [.agg x.av, .agg y.av] := by simp [DRow.av_noref]
theorem ix_at' {α : Type} [Inhabited α] {l l' : List α} {x : α} {p : Nat} (h : p = l.length) : ix (l ++ x :: l') p = x := by rw [h]; exact ix_at
theorem get_ix {ls : List DRow} {p : Nat} {r : DRow} (h : p < ls.length) (hr : ix ls p = r) : (ls.map DRow.av)[p]? = some r.av := by rw [idxM (ltN h), hr]
theorem av_len (r : DRow) : r.av.length = 3 := rfl
theorem av_take (r : DRow) : r.av.take 3 = r.av := rfl
theorem set_av' {ls : List DRow} {i : Nat} {r : DRow} : (ls.map DRow.av).set i r.av = (ls.set i r).map DRow.av := by rw [List.map_set]
theorem av_all (r : DRow) : r.av.all AV.one = true := by simp [DRow.av]
theorem av_drop (r : DRow) : r.av.drop 3 = [] := rfl

theorem call84 (m : Mem) (pos gen n : Nat) (A X B : List DRow) (h : m.obj pos gen = some (rowsR (A ++ (X ++ B)))) (hn : (A ++ (X ++ B)).length = n) (a b : Nat) (ha : a = A.length) (hb : b = A.length + X.length) (hfit : ∀ r ∈ X, r.Fit) (hl : n ≤ 3000000000000) :
    ACalls Try.prog 84 [.row pos gen 3 0 n, .int .i64 a, .int .i64 b, .fn 41 []] m fun out m' => out = .ret (.tuple []) ∧ m' = m.put pos gen (rowsR (A ++ (sortBy ltR X ++ B))) := by
  refine ok84.acalls (by simp) ?_
  have hln : A.length + (X.length + B.length) = n := by simpa using hn
  have hwa : IntKind.i64.wrap (a + 1) = a + 1 := wrap64 (by omega) (by omega)
  have h1s : sortBy ltR (X.take 1) = X.take 1 := by cases X <;> simp [sortBy]
  simp [c84, hwa]
  refine wpS_loopS (ι := Nat) (fun k => [(0, .row pos gen 3 0 n), (1, .int .i64 a), (2, .int .i64 b), (3, .fn 41 []), (8, .int .i64 (a + k : Nat))]) (fun k => m.put pos gen (rowsR (A ++ (sortBy ltR (X.take k) ++ (X.drop k ++ B))))) (fun k => X.length - k)
    (fun k => 1 ≤ k) 1 (Nat.le_refl _) (Sim.of_le (Env.le_of (by simp)) (by rw [h1s, ← List.append_assoc (X.take 1), List.take_append_drop, put_obj h]; exact Mem.le_refl m)) ?_
  intro k hk
  obtain ⟨i, hi⟩ : ∃ i, i = a + k := ⟨_, rfl⟩
  rw [← hi]
  simp
  refine br_cond rfl (fun h1 => ?_) (fun h1 => ?_)
  · have hlt : k < X.length := by have := ltI_t.1 h1; omega
    have hwi : IntKind.i64.wrap (i + 1) = i + 1 := wrap64 (by omega) (by omega)
    obtain ⟨S, hS⟩ : ∃ S, S = sortBy ltR (X.take k) := ⟨_, rfl⟩
    obtain ⟨y, hy⟩ : ∃ y, y = ix X k := ⟨_, rfl⟩
    obtain ⟨R, hR⟩ : ∃ R, R = X.drop (k + 1) ++ B := ⟨_, rfl⟩
    have hSs : Srt ltR S := by rw [hS]; exact stoR.sorted _
    have hSl : S.length = k := by rw [hS, sortBy_len, List.length_take]; omega
    have hSf : ∀ r ∈ S, r.Fit := fun r hr => by
      rw [hS, (sortBy_perm _).mem_iff] at hr
      exact hfit r (List.mem_of_mem_take hr)
    have hyf : y.Fit := by rw [hy]; exact hfit _ (ix_mem hlt)
    have hstart : A ++ (sortBy ltR (X.take k) ++ (X.drop k ++ B)) = A ++ (S.take k ++ (y :: (S.drop k ++ R))) := by
      have f1 : S.take k = S := List.take_of_length_le (by omega)
      have f2 : S.drop k = [] := List.drop_eq_nil_of_le (by omega)
      rw [← hS, f1, f2, drop_ix' hlt, ← hy, hR]; rfl
    have hnext : (y :: S).Perm (X.take (k + 1)) := by
      rw [take_ix hlt, ← hy, hS]
      exact ((sortBy_perm _).cons y).trans (List.perm_append_singleton y _).symm
    rw [hstart]
    simp
    refine wpS_loopS (ι := Nat) (fun t => [(0, .row pos gen 3 0 n), (1, .int .i64 a), (2, .int .i64 b), (3, .fn 41 []), (8, .int .i64 i), (9, .int .i64 (a + t : Nat))]) (fun t => m.put pos gen (rowsR (A ++ (S.take t ++ (y :: (S.drop t ++ R)))))) (fun t => t)
      (fun t => t ≤ k ∧ ∀ e, t ≤ e → e < k → ltR y (ix S e) = true) k ⟨Nat.le_refl _, fun e h1 h2 => by omega⟩ (Sim.of_le (Env.le_of (by simp [hi])) (Mem.le_refl _)) ?_
    intro t ⟨ht, hgt⟩
    obtain ⟨j, hj⟩ : ∃ j, j = a + t := ⟨_, rfl⟩
    obtain ⟨L, hL⟩ : ∃ L, L = A ++ (S.take t ++ (y :: (S.drop t ++ R))) := ⟨_, rfl⟩
    have hLl : L.length = n := by
      have hRl : R.length = X.length - (k + 1) + B.length := by rw [hR]; simp
      rw [hL]; simp [hSl, hRl]; omega
    have hput : (∀ e, e < t → leOf ltR (ix S e) y = true) → S.take t ++ (y :: (S.drop t ++ R)) = sortBy ltR (X.take (k + 1)) ++ (X.drop (k + 1) ++ B) := fun hle => by
      have := stoR.put (S := S) (y := y) (j := t) (by omega) hSs hle (fun e h1 h2 => stoR.le_of_lt (hgt e h1 (by omega)))
      rw [stoR.congr hnext] at this
      rw [← this, hR]
      simp
    rw [← hj, ← hL]
    simp
    refine br_dguard_t rfl (fun h2 => ?_) (fun h2 => ?_)
    · have h0 := ltI_t.1 h2
      obtain ⟨q, hq⟩ : ∃ q, q = j - 1 := ⟨_, rfl⟩
      have hwq : IntKind.i64.wrap (j - 1) = (q : Int) := wrapN (by omega) (by omega)
      have g1 : ltI (j : Int) n = true := ltN (by omega)
      have g2 : ltI (q : Int) n = true := ltN (by omega)
      obtain ⟨z, hz⟩ : ∃ z, z = ix S (t - 1) := ⟨_, rfl⟩
      have hzm : z ∈ S := by rw [hz]; exact ix_mem (by omega)
      have iy : ix L j = y := by
        rw [hL, ← List.append_assoc]
        exact ix_at' (by simp; omega)
      have hsplit : S.take t = S.take (t - 1) ++ [z] := by
        have := take_ix (l := S) (k := t - 1) (by omega)
        rw [← hz, show t - 1 + 1 = t by omega] at this
        exact this
      have iz : ix L q = z := by
        rw [hL, hsplit, List.append_assoc, ← List.append_assoc]
        exact ix_at' (by simp; omega)
      have e1 := get_ix (p := j) (by omega) iy
      have e2 := get_ix (p := q) (by omega) iz
      simp [h2, hwq, g1, g2, obj_put h, rowsR, e1, e2, av_len, av_take]
      refine xdopsv_p (caps := []) (xs := [.agg y.av, .agg z.av]) rfl (call41 y z hyf (hSf z hzm)) (row_args _ _ _) ?_
      simp [cmpR_lt]
      refine br_cond rfl (fun h3 => ?_) (fun h3 => ?_)
      · have hsw : (L.set j z).set q y = A ++ (S.take (t - 1) ++ (y :: (S.drop (t - 1) ++ R))) := by
          have e : swp L j q = (L.set j z).set q y := by unfold swp; rw [iy, iz]
          rw [← e, swp_comm (by omega), hL, hsplit]
          have := swp_next (P := A ++ S.take (t - 1)) (x := z) (y := y) (R := S.drop t ++ R) (i := q) (by simp; omega)
          rw [show q + 1 = j by omega] at this
          simp only [List.append_assoc, List.cons_append, List.nil_append] at this ⊢
          rw [this]
          have := drop_ix' (l := S) (k := t - 1) (by omega)
          rw [← hz, show t - 1 + 1 = t by omega] at this
          rw [this]; rfl
        have g3 : ltI (q : Int) (L.set j z).length = true := ltN (by rw [List.length_set]; omega)
        simp [h2, hwq, g1, g2, obj_put h, rowsR, e1, e2, av_len, av_take, av_all, av_drop, put_put, set_av', idxM g3, hsw]
        exact ⟨t - 1, ⟨by omega, fun e f1 f2 => by
          rcases Nat.lt_or_ge e t with f3 | f3
          · rw [show e = t - 1 by omega, ← hz]; exact h3
          · exact hgt e f3 f2⟩, by omega, Sim.of_le (Env.le_of (by simp; omega)) (Mem.le_refl _)⟩
      · have hle : ∀ e, e < t → leOf ltR (ix S e) y = true := fun e f1 => by
          refine stoR.le_trans (hSs.le stoR (show e ≤ t - 1 by omega) (by omega)) ?_
          rw [← hz]; exact le_iff.2 h3
        simp [hwi]
        refine ⟨k + 1, by omega, by omega, Sim.of_le (Env.le_of (by simp; omega)) ?_⟩
        rw [← hput hle, ← hL]; exact Mem.le_refl _
    · have ht0 : t = 0 := by have := ltI_f.1 h2; omega
      have hle : ∀ e, e < t → leOf ltR (ix S e) y = true := fun e f1 => by omega
      simp [h2, hwi]
      refine ⟨k + 1, by omega, by omega, Sim.of_le (Env.le_of (by simp; omega)) ?_⟩
      rw [← hput hle, ← hL]; exact Mem.le_refl _
  · have hkl : X.length ≤ k := by have := ltI_f.1 h1; omega
    simp [h1, cr84, postA, endPost, List.take_of_length_le hkl, List.drop_eq_nil_of_le hkl]
end Go.Pm

/- LkQ5: contracts: texts in order. -/
namespace Go.Pm
open Go Go.Proofs
attribute [-simp] List.getElem?_map List.map_set List.map_append List.map_take List.map_drop

theorem stoS : STO ltS := ⟨ltS_irrefl, fun _ _ _ => ltS_trans, ltS_tri⟩
def txt (s : ByteArray) : List AV := [.str s]
theorem texts_eq (l : List ByteArray) : textsR l = l.map txt := rfl
theorem get_txt {ls : List ByteArray} {p : Nat} {r : ByteArray} (h : p < ls.length) (hr : ix ls p = r) : (ls.map txt)[p]? = some (txt r) := by rw [idxM (ltN h), hr]
theorem set_txt {ls : List ByteArray} {i : Nat} {r : ByteArray} : (ls.map txt).set i [.str r] = (ls.set i r).map txt := by rw [List.map_set]; rfl

set_option maxHeartbeats 1000000 in
theorem call46 (p : Bool) (X : List ByteArray) (hl : X.length ≤ 4000000000000) : PCalls Try.prog 46 [.list p 1 (textsR X)] fun out => out = .ret (.list true 1 (textsR (sortBy ltS X))) := by
  refine ok46.pcalls (by simp) ?_
  rw [texts_eq, texts_eq]
  have hb1 : X.length * 16 ≤ 140737488355328 := by omega
  have hb2 : X.length ≤ 9223372036854775807 := by omega
  simp [c46, appendA, hb1, hb2]
  refine wpS_loopS (ι := Nat) (fun k => [(0, .row 0 0 1 0 X.length), (3, .int .i64 k)]) (fun k => ⟨[(0, .row 9 1 ((sortBy ltS (X.take k) ++ X.drop k).map txt))], 1⟩) (fun k => X.length - k) (fun k => k ≤ X.length) 0 (Nat.zero_le _)
    (Sim.of_le (Env.le_of (by simp)) (Mem.le_of rfl (by simp [sortBy]))) ?_
  intro k hk
  have hwi : IntKind.i64.wrap (k + 1) = k + 1 := wrap64 (by omega) (by omega)
  simp
  refine br_cond rfl (fun h1 => ?_) (fun h1 => ?_)
  · have hlt : k < X.length := by have := ltI_t.1 h1; omega
    obtain ⟨S, hS⟩ : ∃ S, S = sortBy ltS (X.take k) := ⟨_, rfl⟩
    obtain ⟨y, hy⟩ : ∃ y, y = ix X k := ⟨_, rfl⟩
    obtain ⟨R, hR⟩ : ∃ R, R = X.drop (k + 1) := ⟨_, rfl⟩
    have hSs : Srt ltS S := by rw [hS]; exact stoS.sorted _
    have hSl : S.length = k := by rw [hS, sortBy_len, List.length_take]; omega
    have hstart : sortBy ltS (X.take k) ++ X.drop k = S.take k ++ (y :: (S.drop k ++ R)) := by
      have f1 : S.take k = S := List.take_of_length_le (by omega)
      have f2 : S.drop k = [] := List.drop_eq_nil_of_le (by omega)
      rw [← hS, f1, f2, drop_ix' hlt, ← hy, hR]; rfl
    have hnext : (y :: S).Perm (X.take (k + 1)) := by
      rw [take_ix hlt, ← hy, hS]
      exact ((sortBy_perm _).cons y).trans (List.perm_append_singleton y _).symm
    rw [hstart]
    simp
    refine wpS_loopS (ι := Nat) (fun t => [(0, .row 0 0 1 0 X.length), (3, .int .i64 k), (4, .int .i64 t)]) (fun t => ⟨[(0, .row 9 1 ((S.take t ++ (y :: (S.drop t ++ R))).map txt))], 1⟩) (fun t => t)
      (fun t => t ≤ k ∧ ∀ e, t ≤ e → e < k → ltS y (ix S e) = true) k ⟨Nat.le_refl _, fun e h1 h2 => by omega⟩ (Sim.of_le (Env.le_of (by simp)) (Mem.le_refl _)) ?_
    intro j ⟨ht, hgt⟩
    obtain ⟨L, hL⟩ : ∃ L, L = S.take j ++ (y :: (S.drop j ++ R)) := ⟨_, rfl⟩
    have hLl : L.length = X.length := by
      have hRl : R.length = X.length - (k + 1) := by rw [hR]; simp
      rw [hL]; simp [hSl, hRl]; omega
    have hput : (∀ e, e < j → leOf ltS (ix S e) y = true) → S.take j ++ (y :: (S.drop j ++ R)) = sortBy ltS (X.take (k + 1)) ++ X.drop (k + 1) := fun hle => by
      have := stoS.put (S := S) (y := y) (j := j) (by omega) hSs hle (fun e h1 h2 => stoS.le_of_lt (hgt e h1 (by omega)))
      rw [stoS.congr hnext] at this
      rw [← this, hR]
      simp
    rw [← hL]
    simp
    refine br_dguard_t rfl (fun h2 => ?_) (fun h2 => ?_)
    · have h0 := ltI_t.1 h2
      obtain ⟨q, hq⟩ : ∃ q, q = j - 1 := ⟨_, rfl⟩
      have hwq : IntKind.i64.wrap (j - 1) = (q : Int) := by rw [wrap64 (by omega) (by omega)]; omega
      have g1 : ltI (j : Int) X.length = true := ltN (by omega)
      have g2 : ltI (q : Int) X.length = true := ltN (by omega)
      obtain ⟨z, hz⟩ : ∃ z, z = ix S q := ⟨_, rfl⟩
      have iy : ix L j = y := by
        rw [hL]
        exact ix_at' (by simp; omega)
      have hsplit : S.take j = S.take q ++ [z] := by
        have := take_ix (l := S) (k := q) (by omega)
        rw [← hz, show q + 1 = j by omega] at this
        exact this
      have iz : ix L q = z := by
        rw [hL, hsplit, List.append_assoc]
        exact ix_at' (by simp; omega)
      have e1 := get_txt (p := j) (by omega) iy
      have e2 := get_txt (p := q) (by omega) iz
      simp [h2, hwq, g1, g2, e1, e2, txt]
      cases h3 : ltS y z with
      | true =>
        have hsw : (L.set j z).set q y = S.take q ++ (y :: (S.drop q ++ R)) := by
          have e : swp L j q = (L.set j z).set q y := by unfold swp; rw [iy, iz]
          rw [← e, swp_comm (by omega), hL, hsplit]
          have := swp_next (P := S.take q) (x := z) (y := y) (R := S.drop j ++ R) (i := q) (by simp; omega)
          rw [show q + 1 = j by omega] at this
          simp only [List.append_assoc, List.cons_append, List.nil_append] at this ⊢
          rw [this]
          have := drop_ix' (l := S) (k := q) (by omega)
          rw [← hz, show q + 1 = j by omega] at this
          rw [this]; rfl
        have g3 : ltI (q : Int) (L.set j z).length = true := ltN (by rw [List.length_set]; omega)
        simp [hwq, g1, g2, e1, e2, set_txt, idxM g3, hsw, txt]
        exact ⟨q, ⟨by omega, fun e f1 f2 => by
          rcases Nat.lt_or_ge e j with f3 | f3
          · rw [show e = q by omega, ← hz]; exact h3
          · exact hgt e f3 f2⟩, by omega, Sim.of_le (Env.le_of (by simp)) (Mem.le_refl _)⟩
      | false =>
        have hle : ∀ e, e < j → leOf ltS (ix S e) y = true := fun e f1 => by
          refine stoS.le_trans (hSs.le stoS (show e ≤ q by omega) (by omega)) ?_
          rw [← hz]; exact le_iff.2 h3
        simp [hwi]
        refine ⟨k + 1, by omega, by omega, Sim.of_le (Env.le_of (by simp)) ?_⟩
        rw [← hput hle, ← hL]; exact Mem.le_refl _
    · have ht0 : j = 0 := by have := ltI_f.1 h2; omega
      have hle : ∀ e, e < j → leOf ltS (ix S e) y = true := fun e f1 => by omega
      simp [h2, hwi]
      refine ⟨k + 1, by omega, by omega, Sim.of_le (Env.le_of (by simp)) ?_⟩
      rw [← hput hle, ← hL]; exact Mem.le_refl _
  · have hkl : X.length ≤ k := by have := ltI_f.1 h1; omega
    have f1 : sortBy ltS (X.take k) ++ X.drop k = sortBy ltS X := by rw [List.take_of_length_le hkl, List.drop_eq_nil_of_le hkl, List.append_nil]
    have f2 : ((sortBy ltS X).map txt).take X.length = (sortBy ltS X).map txt := List.take_of_length_le (by simp [sortBy_len])
    have f3 : X.length ≤ (sortBy ltS X).length := by simp [sortBy_len]
    have f4 : permLL ((sortBy ltS X).map txt) = true := perm_texts _
    simp [h1, cr46, f1, f2, f3, f4]
end Go.Pm

/- LkQ6: plain laws: the lines of an image's map, by places and in order. -/
namespace Go.Pm

def rowN (d : DDef) : DRow := ⟨d.at_, false, d.name⟩
def rowD (d : DDef) : DRow := ⟨d.at_, true, d.name⟩
def mapRows (x : Img) : List DRow := x.names.map rowN ++ x.defs.map rowD
/-- The rows at a place. -/
def rowsAt (x : Img) (k : Int) : List DRow := (sortBy ltS ((x.names.filter fun d => eqI d.at_ k).map (·.name))).map (fun s => ⟨k, false, s⟩) ++ (x.defs.filter fun d => eqI d.at_ k).map rowD
def rowsTo (x : Img) : Nat → List DRow
  | 0 => []
  | m + 1 => rowsTo x m ++ rowsAt x (x.base + m)

theorem ix_of_all {n : Nat} {p : Nat → Bool} (h : (List.range n).all p = true) {i : Nat} (hi : i < n) : p i = true := by
  rw [List.all_eq_true] at h
  exact h i (List.mem_range.2 hi)

/-- What is so of an image that is well formed. -/
structure Img.Told (x : Img) : Prop where
  base : 0 ≤ x.base ∧ x.base ≤ 65528
  end_ : x.base + x.code.size ≤ 65536
  names : ∀ d ∈ x.names, d.name.size ≤ 31 ∧ x.base ≤ d.at_ ∧ d.at_ ≤ x.base + x.code.size
  defs : ∀ d ∈ x.defs, d.name.size ≤ 31 ∧ x.base ≤ d.at_ ∧ d.at_ ≤ x.base + x.code.size
  less : x.defs.Pairwise fun a b => ltS a.name b.name = true
  up : ∀ i, i + 1 < x.names.length → ltI (ix x.names (i + 1)).at_ (ix x.names i).at_ = false

theorem pairwise_steps {α : Type} [Inhabited α] {R : α → α → Prop} (ht : ∀ a b c, R a b → R b c → R a c) : ∀ {l : List α}, (∀ i, i + 1 < l.length → R (ix l i) (ix l (i + 1))) → l.Pairwise R
  | [], _ => List.Pairwise.nil
  | [a], _ => by simp
  | a :: b :: l, h => by
    have ih : (b :: l).Pairwise R := pairwise_steps ht (fun i hi => by
      have := h (i + 1) (by simpa using hi)
      exact this)
    rw [List.pairwise_cons]
    refine ⟨fun c hc => ?_, ih⟩
    have h0 : R a b := h 0 (by simp)
    rcases List.mem_cons.1 hc with rfl | hc
    · exact h0
    · exact ht _ _ _ h0 ((List.pairwise_cons.1 ih).1 c hc)

theorem nameOk_size {s : ByteArray} (h : nameOk s = true) : s.size ≤ 31 := by
  unfold nameOk at h
  simp only [Bool.and_eq_true] at h
  have := leI_t.1 h.2; omega

theorem imgOk_told {x : Img} (h : imgOk x = true) : x.Told := by
  have h' := h
  unfold imgOk at h'
  simp only [Bool.and_eq_true] at h'
  obtain ⟨⟨⟨⟨h1, h2⟩, h3⟩, h4⟩, h5⟩ := h'
  have hb : 0 ≤ x.base ∧ x.base ≤ 65528 := by
    unfold baseF at h1
    rw [Bool.and_eq_true] at h1
    exact withinF_t h1.1
  refine ⟨hb, by have := ltI_f.1 (show ltI 65536 (x.base + x.code.size) = false by simpa using h2); omega, ?_, ?_, ?_, ?_⟩
  · intro d hd
    obtain ⟨i, hi, rfl⟩ := mem_ix hd
    have := ix_of_all h4 hi
    simp only [iNameOk, Bool.and_eq_true] at this
    have hw := withinF_t this.1.1.2
    exact ⟨nameOk_size this.1.1.1, hw.1, hw.2⟩
  · intro d hd
    obtain ⟨i, hi, rfl⟩ := mem_ix hd
    have := ix_of_all h3 hi
    simp only [iDefOk, Bool.and_eq_true] at this
    have hw := withinF_t this.1.2
    exact ⟨nameOk_size this.1.1, hw.1, hw.2⟩
  · refine pairwise_steps (R := fun a b : DDef => ltS a.name b.name = true) (fun _ _ _ => ltS_trans) fun i hi => ?_
    have := ix_of_all h3 hi
    simp only [iDefOk, Bool.and_eq_true] at this
    have h0 : ltI 0 ((i + 1 : Nat) : Int) = true := ltI_t.2 (by omega)
    have h6 := this.2
    rw [h0, show i + 1 - 1 = i by omega] at h6
    simpa using h6
  · intro i hi
    have := ix_of_all h4 hi
    simp only [iNameOk, Bool.and_eq_true] at this
    have h0 : ltI 0 ((i + 1 : Nat) : Int) = true := ltI_t.2 (by omega)
    have h6 := this.2
    rw [h0, show i + 1 - 1 = i by omega] at h6
    simpa using h6

/-! Which rows: each once. -/
theorem filter_split {l : List DDef} {b : Int} (m : Nat) : (l.filter (fun d => ltI d.at_ (b + (m + 1 : Nat)) )).Perm (l.filter (fun d => ltI d.at_ (b + m)) ++ l.filter (fun d => eqI d.at_ (b + m))) := by
  have h := List.filter_append_perm (fun d : DDef => ltI d.at_ (b + m)) (l.filter (fun d => ltI d.at_ (b + (m + 1 : Nat))))
  rw [List.filter_filter, List.filter_filter] at h
  have e1 : (l.filter fun a => ltI a.at_ (b + m) && ltI a.at_ (b + (m + 1 : Nat))) = l.filter (fun d => ltI d.at_ (b + m)) := by
    congr 1
    funext a
    cases h1 : ltI a.at_ (b + m) with
    | false => rfl
    | true => rw [ltI_t.2 (by have := ltI_t.1 h1; omega)]; rfl
  have e2 : (l.filter fun a => (!ltI a.at_ (b + m)) && ltI a.at_ (b + (m + 1 : Nat))) = l.filter (fun d => eqI d.at_ (b + m)) := by
    congr 1
    funext a
    cases h1 : ltI a.at_ (b + m) with
    | true => rw [eqI_f.2 (by have := ltI_t.1 h1; omega)]; rfl
    | false =>
      have g1 := ltI_f.1 h1
      cases h2 : eqI a.at_ (b + m) with
      | true => rw [ltI_t.2 (by have := eqI_t.1 h2; omega)]; rfl
      | false => rw [ltI_f.2 (by have := eqI_f.1 h2; omega)]; rfl
  rw [e1, e2] at h
  exact h.symm

theorem rowsAt_perm (x : Img) (k : Int) : (rowsAt x k).Perm ((x.names.filter fun d => eqI d.at_ k).map rowN ++ (x.defs.filter fun d => eqI d.at_ k).map rowD) := by
  unfold rowsAt
  refine List.Perm.append_right _ ?_
  refine ((sortBy_perm _).map _).trans ?_
  rw [List.map_map]
  refine List.Perm.of_eq ?_
  refine List.map_congr_left fun d hd => ?_
  have := eqI_t.1 (List.mem_filter.1 hd).2
  simp [rowN, this]

theorem rowsTo_perm (x : Img) : ∀ m, (rowsTo x m).Perm ((x.names.filter fun d => ltI d.at_ (x.base + m) && leI x.base d.at_).map rowN ++ (x.defs.filter fun d => ltI d.at_ (x.base + m) && leI x.base d.at_).map rowD)
  | 0 => by
    have e : ∀ l : List DDef, (l.filter fun d => ltI d.at_ (x.base + (0 : Nat)) && leI x.base d.at_) = [] := fun l => by
      rw [List.filter_eq_nil_iff]
      intro d _ h
      rw [Bool.and_eq_true] at h
      have := ltI_t.1 h.1
      have := leI_t.1 h.2
      omega
    rw [e, e]
    exact List.Perm.refl _
  | m + 1 => by
    have ih := rowsTo_perm x m
    have sp : ∀ l : List DDef, (l.filter fun d => ltI d.at_ (x.base + (m + 1 : Nat)) && leI x.base d.at_).Perm ((l.filter fun d => ltI d.at_ (x.base + m) && leI x.base d.at_) ++ l.filter fun d => eqI d.at_ (x.base + m)) := fun l => by
      have h := filter_split (l := l.filter fun d => leI x.base d.at_) (b := x.base) m
      rw [List.filter_filter, List.filter_filter, List.filter_filter] at h
      have e : (l.filter fun a => eqI a.at_ (x.base + m) && leI x.base a.at_) = l.filter fun a => eqI a.at_ (x.base + m) := by
        congr 1
        funext a
        cases h1 : eqI a.at_ (x.base + m) with
        | false => rfl
        | true => rw [leI_t.2 (by have := eqI_t.1 h1; omega)]; rfl
      rw [e] at h
      exact h
    rw [rowsTo]
    refine (ih.append (rowsAt_perm x _)).trans ?_
    refine List.Perm.trans ?_ (((sp x.names).map rowN).append ((sp x.defs).map rowD)).symm
    rw [List.map_append, List.map_append, List.append_assoc, List.append_assoc]
    refine List.Perm.append_left _ ?_
    rw [← List.append_assoc, ← List.append_assoc]
    exact List.Perm.append_right _ List.perm_append_comm

theorem rowsTo_all {x : Img} (h : x.Told) : (rowsTo x (x.code.size + 1)).Perm (mapRows x) := by
  have hp := rowsTo_perm x (x.code.size + 1)
  have e1 : (x.names.filter fun d => ltI d.at_ (x.base + (x.code.size + 1 : Nat)) && leI x.base d.at_) = x.names := List.filter_eq_self.2 fun d hd => by
    have := h.names d hd
    rw [ltI_t.2 (by omega), leI_t.2 (by omega)]; rfl
  have e2 : (x.defs.filter fun d => ltI d.at_ (x.base + (x.code.size + 1 : Nat)) && leI x.base d.at_) = x.defs := List.filter_eq_self.2 fun d hd => by
    have := h.defs d hd
    rw [ltI_t.2 (by omega), leI_t.2 (by omega)]; rfl
  rw [e1, e2] at hp
  exact hp

/-! In which order. -/
theorem rowsAt_at {x : Img} {k : Int} : ∀ r ∈ rowsAt x k, r.at_ = k := by
  intro r hr
  unfold rowsAt at hr
  rcases List.mem_append.1 hr with hr | hr
  · obtain ⟨s, _, rfl⟩ := List.mem_map.1 hr; rfl
  · obtain ⟨d, hd, rfl⟩ := List.mem_map.1 hr
    exact eqI_t.1 (List.mem_filter.1 hd).2
theorem rowsTo_at {x : Img} : ∀ {m : Nat}, ∀ r ∈ rowsTo x m, r.at_ < x.base + m
  | 0, r, hr => by cases hr
  | m + 1, r, hr => by
    rcases List.mem_append.1 hr with hr | hr
    · have := rowsTo_at r hr; omega
    · have := rowsAt_at r hr; omega
theorem rowsAt_sorted {x : Img} (h : x.Told) (k : Int) : Srt ltR (rowsAt x k) := by
  unfold rowsAt
  rw [srt_append]
  refine ⟨?_, ?_, ?_⟩
  · refine List.Pairwise.map _ (fun a b hab => ?_) (stoS.sorted _)
    rw [le_iff] at hab ⊢
    simp [ltR, eqI_t.2 rfl, hab]
  · refine List.pairwise_map.2 ?_
    have hl := h.less.filter (fun d => eqI d.at_ k)
    have hm : ∀ a ∈ x.defs.filter (fun d => eqI d.at_ k), a.at_ = k := fun a ha => eqI_t.1 (List.mem_filter.1 ha).2
    refine List.Pairwise.imp_of_mem (fun {a b} ha hb hab => ?_) hl
    have e : eqI b.at_ a.at_ = true := eqI_t.2 ((hm b hb).trans (hm a ha).symm)
    rw [le_iff]
    simp [ltR, rowD, e, ltS_asymm hab]
  · intro a ha b hb
    obtain ⟨s, _, rfl⟩ := List.mem_map.1 ha
    obtain ⟨d, hd, rfl⟩ := List.mem_map.1 hb
    have e : eqI d.at_ k = true := (List.mem_filter.1 hd).2
    rw [le_iff]
    simp [ltR, rowD, e]
theorem rowsTo_sorted {x : Img} (h : x.Told) : ∀ m, Srt ltR (rowsTo x m)
  | 0 => List.Pairwise.nil
  | m + 1 => by
    rw [rowsTo, srt_append]
    refine ⟨rowsTo_sorted h m, rowsAt_sorted h _, fun a ha b hb => ?_⟩
    have h1 := rowsTo_at a ha
    have h2 := rowsAt_at b hb
    rw [le_iff]
    have e1 : eqI b.at_ a.at_ = false := eqI_f.2 (by omega)
    simp only [ltR, e1, Bool.false_eq_true, if_false]
    exact ltI_f.2 (by omega)

/-- The rows by places are the rows in order. -/
theorem rows_law {x : Img} (h : x.Told) : rowsTo x (x.code.size + 1) = sortBy ltR (mapRows x) := stoR.unique (rowsTo_sorted h _) (rowsTo_all h)

/-! As text. -/
def lineR (r : DRow) : ByteArray := ((hexF r.at_.toNat 6 ++ (if r.isDef then ⟨#[32, 32, 32]⟩ else ⟨#[32]⟩)) ++ r.text) ++ ⟨#[10]⟩
def catS : List ByteArray → ByteArray
  | [] => ⟨#[]⟩
  | s :: l => s ++ catS l
theorem empty_app (s : ByteArray) : (⟨#[]⟩ : ByteArray) ++ s = s := by apply ByteArray.ext; simp [ByteArray.data_append]
theorem app_empty (s : ByteArray) : s ++ (⟨#[]⟩ : ByteArray) = s := by apply ByteArray.ext; simp [ByteArray.data_append]
theorem app_assoc (a b c : ByteArray) : (a ++ b) ++ c = a ++ (b ++ c) := by apply ByteArray.ext; simp [ByteArray.data_append]
theorem catS_app : ∀ l m : List ByteArray, catS (l ++ m) = catS l ++ catS m
  | [], m => (empty_app _).symm
  | s :: l, m => by rw [List.cons_append, catS, catS, catS_app l m, app_assoc]
theorem catS_one (s : ByteArray) : catS [s] = s := app_empty s
def mapText (x : Img) : ByteArray := catS ((sortBy ltR (mapRows x)).map lineR)
theorem hexF_size (n k : Nat) : (hexF n k).size = k := hexL_len n k
theorem lineR_size {r : DRow} (h : r.text.size ≤ 31) : (lineR r).size ≤ 41 := by
  unfold lineR
  rw [ByteArray.size_append, ByteArray.size_append, ByteArray.size_append, hexF_size]
  have h1 : (⟨#[10]⟩ : ByteArray).size = 1 := rfl
  have h2 : (if r.isDef then (⟨#[32, 32, 32]⟩ : ByteArray) else ⟨#[32]⟩).size ≤ 3 := by
    cases r.isDef
    · exact (by decide : (⟨#[32]⟩ : ByteArray).size ≤ 3)
    · exact (by decide : (⟨#[32, 32, 32]⟩ : ByteArray).size ≤ 3)
  omega
end Go.Pm

/- LkQ2: contracts: link's test of an image. -/
namespace Go.Pm
open Go Go.Proofs
attribute [-simp] List.getElem?_map

theorem call70 (q r : Bool) (d : DDef) (x : Img) (E : Int) (hd : d.name.size ≤ 1048576) : PCalls Try.prog 70 [.agg d.av, .iptr q x.av, .iptr r [.int .i64 E]] fun out => out = .ret (.bool (nameOk d.name && withinF d.at_ x.base E)) := by
  refine ok70.pcalls (by simp) ?_
  simp [c70, DDef.av, Img.av]
  refine xcall_p (call71 _ hd) rfl ?_
  simp
  cases h1 : nameOk d.name with
  | false => simp [cr70]
  | true =>
    simp
    cases h2 : leI x.base d.at_ with
    | false => simp [cr70, withinF, h2]
    | true => simp [cr70, withinF, h2]

set_option maxHeartbeats 4000000 in
theorem call39 (x : Img) (hx : x.Small) : PCalls Try.prog 39 [.agg x.av] fun out => out = .ret (.bool (imgOk x)) := by
  refine ok39.pcalls (by simp) ?_
  have hl1 := hx.defs
  have hl2 := hx.lines
  have hl3 := hx.names
  have hl4 := hx.code
  simp [c39, Img.av]
  refine xcall_p (call24 x.base) rfl ?_
  cases hb : baseF x.base with
  | false => simp [cr39, imgOk, hb]
  | true =>
  have hb0 : 0 ≤ x.base ∧ x.base ≤ 65528 := by
    have hb2 := hb
    unfold baseF at hb2
    rw [Bool.and_eq_true] at hb2
    exact withinF_t hb2.1
  have h00 : ltI 0 0 = false := rfl
  obtain ⟨E, hE⟩ : ∃ E, E = x.base + (x.code.size : Int) := ⟨_, rfl⟩
  have hwe : IntKind.i64.wrap (x.base + x.code.size) = E := by rw [hE]; exact wrap64 (by omega) (by omega)
  simp [hwe]
  cases hgt1 : ltI 65536 (x.code.size : Int) with
  | true =>
    have hgt : ltI 65536 (x.base + x.code.size) = true := ltI_t.2 (by have := ltI_t.1 hgt1; omega)
    simp [cr39, imgOk, hb, hgt]
  | false =>
  simp
  cases hgt : ltI 65536 E with
  | true => simp [cr39, imgOk, hb, ← hE, hgt]
  | false =>
  simp
  refine wpS_loopS (ι := Nat × Nat) (fun g => [(1, .ptr 0 0 0), (3, .ptr 1 1 0), (4, .fn 70 [.ptr 0 0 0, .ptr 1 1 0]), (33, .list true 2 (x.defs.map DDef.av)), (34, .int .i64 x.defs.length), (35, .int .i64 g.1)]) (fun g => ⟨[(0, .cells x.av), (1, .cells [.int .i64 E])], g.2⟩) (fun g => x.defs.length - g.1) (fun g => g.1 ≤ x.defs.length ∧ ∀ j, j < g.1 → iDefOk x.base E x.defs j = true) (0, 2) ⟨Nat.zero_le _, fun j hj => absurd hj (Nat.not_lt_zero _)⟩ (Sim.of_le (Env.le_of (by simp)) (Mem.le_of rfl (by simp [Img.av]))) ?_
  rintro ⟨i, nx⟩ ⟨hi, hall⟩
  simp only at hi hall
  have hw : IntKind.i64.wrap (i + 1) = i + 1 := wrap64 (by omega) (by omega)
  simp [Img.av]
  refine br_cond rfl (fun h => ?_) (fun h => ?_)
  · have hlt : i < x.defs.length := by have := ltI_t.1 h; omega
    have bad : iDefOk x.base E x.defs i = false → imgOk x = false := fun h => by simp [imgOk, ← hE, all_f hlt h]
    have good : iDefOk x.base E x.defs i = true → ∀ j, j < i + 1 → iDefOk x.base E x.defs j = true := upto hall
    simp [h, idxM, DDef.av]
    refine xdopsv_p (caps := [.ptr 0 0 0, .ptr 1 1 0]) (xs := [.agg (ix x.defs i).av]) rfl (call70 false false (ix x.defs i) x E (hx.dname _ (ix_mem hlt))) (by simp [DDef.av, Img.av]) ?_
    cases h5 : nameOk (ix x.defs i).name && withinF (ix x.defs i).at_ x.base E with
    | false =>
      have hbad := bad (by simp [iDefOk, h5])
      simp [cr39, hbad]
    | true =>
    have hgd : (!(ltI 0 i && !ltS (ix x.defs (i - 1)).name (ix x.defs i).name)) = true → iDefOk x.base E x.defs i = true := fun h => by simp only [iDefOk, h5, h, Bool.and_true]
    simp
    cases h8 : ltI 0 (i : Int) with
    | true =>
      have h0 := ltI_t.1 h8
      have hwm : IntKind.i64.wrap (i - 1) = ((i - 1 : Nat) : Int) := by rw [wrap64 (by omega) (by omega)]; omega
      have h9 : ltI ↑(i - 1) ↑x.defs.length = true := ltN (by omega)
      simp [h8, hwm, h9, h, idxM, DDef.av]
      cases h10 : ltS (ix x.defs (i - 1)).name (ix x.defs i).name with
      | false =>
        have hbad := bad (by simp [iDefOk, h8, h10])
        simp [cr39, hbad]
      | true =>
        simp [hw]
        exact ⟨i + 1, ⟨by omega, good (hgd (by simp [h8, h10]))⟩, by omega, nx + 1, Sim.of_le (Env.le_of (by simp)) (Mem.le_of rfl (by simp))⟩
    | false =>
      simp [h8, hw]
      exact ⟨i + 1, ⟨by omega, good (hgd (by simp [h8]))⟩, by omega, nx + 1, Sim.of_le (Env.le_of (by simp)) (Mem.le_of rfl (by simp))⟩
  have hid : i = x.defs.length := by have := ltI_f.1 h; omega
  have hD : (List.range x.defs.length).all (iDefOk x.base E x.defs) = true := all_t (by rw [← hid]; exact hall)
  simp [h]
  clear h hall hi hw hid
  refine wpS_loopS (ι := Nat × Nat) (fun g => [(1, .ptr 0 0 0), (3, .ptr 1 1 0), (4, .fn 70 [.ptr 0 0 0, .ptr 1 1 0]), (62, .list true 2 (x.names.map DDef.av)), (63, .int .i64 x.names.length), (64, .int .i64 g.1)]) (fun g => ⟨[(0, .cells x.av), (1, .cells [.int .i64 E])], g.2⟩) (fun g => x.names.length - g.1) (fun g => g.1 ≤ x.names.length ∧ ∀ j, j < g.1 → iNameOk x.base E x.names j = true) (0, nx) ⟨Nat.zero_le _, fun j hj => absurd hj (Nat.not_lt_zero _)⟩ (Sim.of_le (Env.le_of (by simp)) (Mem.le_of rfl (by simp [Img.av]))) ?_
  clear i nx
  rintro ⟨i, nx⟩ ⟨hi, hall⟩
  simp only at hi hall
  have hw : IntKind.i64.wrap (i + 1) = i + 1 := wrap64 (by omega) (by omega)
  simp [Img.av]
  refine br_cond rfl (fun h => ?_) (fun h => ?_)
  · have hlt : i < x.names.length := by have := ltI_t.1 h; omega
    have bad : iNameOk x.base E x.names i = false → imgOk x = false := fun h => by simp [imgOk, ← hE, all_f hlt h]
    have good : iNameOk x.base E x.names i = true → ∀ j, j < i + 1 → iNameOk x.base E x.names j = true := upto hall
    simp [h, idxM, DDef.av]
    refine xdopsv_p (caps := [.ptr 0 0 0, .ptr 1 1 0]) (xs := [.agg (ix x.names i).av]) rfl (call70 false false (ix x.names i) x E (hx.nname _ (ix_mem hlt))) (by simp [DDef.av, Img.av]) ?_
    cases h5 : nameOk (ix x.names i).name && withinF (ix x.names i).at_ x.base E with
    | false =>
      have hbad := bad (by simp [iNameOk, h5])
      simp [cr39, hbad]
    | true =>
    simp
    cases h6 : eqI ((ix x.names i).at_.tmod 8) 0 with
    | false =>
      have hbad := bad (by simp [iNameOk, h6])
      simp [cr39, hbad]
    | true =>
    have hgd : (!(ltI 0 i && ltI (ix x.names i).at_ (ix x.names (i - 1)).at_)) = true → iNameOk x.base E x.names i = true := fun h => by simp only [iNameOk, h5, h6, h, Bool.and_true]
    simp
    cases h8 : ltI 0 (i : Int) with
    | true =>
      have h0 := ltI_t.1 h8
      have hwm : IntKind.i64.wrap (i - 1) = ((i - 1 : Nat) : Int) := by rw [wrap64 (by omega) (by omega)]; omega
      have h9 : ltI ↑(i - 1) ↑x.names.length = true := ltN (by omega)
      simp [h8, hwm, h9, h, idxM, DDef.av]
      cases h10 : ltI (ix x.names i).at_ (ix x.names (i - 1)).at_ with
      | true =>
        have hbad := bad (by simp [iNameOk, h8, h10])
        simp [cr39, hbad]
      | false =>
        simp [hw]
        exact ⟨i + 1, ⟨by omega, good (hgd (by simp [h8, h10]))⟩, by omega, nx + 1, Sim.of_le (Env.le_of (by simp)) (Mem.le_of rfl (by simp))⟩
    | false =>
      simp [h8, hw]
      exact ⟨i + 1, ⟨by omega, good (hgd (by simp [h8]))⟩, by omega, nx + 1, Sim.of_le (Env.le_of (by simp)) (Mem.le_of rfl (by simp))⟩
  have hid : i = x.names.length := by have := ltI_f.1 h; omega
  have hN : (List.range x.names.length).all (iNameOk x.base E x.names) = true := all_t (by rw [← hid]; exact hall)
  simp [h]
  clear h hall hi hw hid
  refine wpS_loopS (ι := Nat × Nat) (fun g => [(1, .ptr 0 0 0), (3, .ptr 1 1 0), (97, .list true 2 (x.lines.map DLine.av)), (98, .int .i64 x.lines.length), (99, .int .i64 g.1)]) (fun g => ⟨[(0, .cells x.av), (1, .cells [.int .i64 E])], g.2⟩) (fun g => x.lines.length - g.1) (fun g => g.1 ≤ x.lines.length ∧ ∀ j, j < g.1 → iLineOk x.base E x.lines j = true) (0, nx) ⟨Nat.zero_le _, fun j hj => absurd hj (Nat.not_lt_zero _)⟩ (Sim.of_le (Env.le_of (by simp)) (Mem.le_of rfl (by simp [Img.av]))) ?_
  clear i nx
  rintro ⟨i, nx⟩ ⟨hi, hall⟩
  simp only at hi hall
  have hw : IntKind.i64.wrap (i + 1) = i + 1 := wrap64 (by omega) (by omega)
  simp [Img.av]
  refine br_cond rfl (fun h => ?_) (fun h => ?_)
  · have hlt : i < x.lines.length := by have := ltI_t.1 h; omega
    have bad : iLineOk x.base E x.lines i = false → imgOk x = false := fun h => by simp [imgOk, ← hE, all_f hlt h]
    have good : iLineOk x.base E x.lines i = true → ∀ j, j < i + 1 → iLineOk x.base E x.lines j = true := upto hall
    have neg1 : ltI (ix x.lines i).at_ x.base = !leI x.base (ix x.lines i).at_ := by
      cases hc : ltI (ix x.lines i).at_ x.base with
      | true => rw [leI_f.2 (ltI_t.1 hc)]; rfl
      | false => rw [leI_t.2 (ltI_f.1 hc)]; rfl
    have neg2 : ltI E (ix x.lines i).at_ = !leI (ix x.lines i).at_ E := by
      cases hc : ltI E (ix x.lines i).at_ with
      | true => rw [leI_f.2 (ltI_t.1 hc)]; rfl
      | false => rw [leI_t.2 (ltI_f.1 hc)]; rfl
    simp [h, idxM, DLine.av, neg1]
    cases h5 : leI x.base (ix x.lines i).at_ with
    | false =>
      have hbad := bad (by simp [iLineOk, withinF, h5])
      simp [cr39, hbad]
    | true =>
    simp [neg2]
    cases h6 : leI (ix x.lines i).at_ E with
    | false =>
      have hbad := bad (by simp [iLineOk, withinF, h6])
      simp [cr39, hbad]
    | true =>
    have hgd : (!(ltI 0 i && leI (ix x.lines i).at_ (ix x.lines (i - 1)).at_)) = true → iLineOk x.base E x.lines i = true := fun h => by simp only [iLineOk, withinF, h5, h6, h, Bool.and_true]
    simp
    cases h8 : ltI 0 (i : Int) with
    | true =>
      have h0 := ltI_t.1 h8
      have hwm : IntKind.i64.wrap (i - 1) = ((i - 1 : Nat) : Int) := by rw [wrap64 (by omega) (by omega)]; omega
      have h9 : ltI ↑(i - 1) ↑x.lines.length = true := ltN (by omega)
      simp [h8, hwm, h9, h, idxM, DLine.av]
      cases h10 : leI (ix x.lines i).at_ (ix x.lines (i - 1)).at_ with
      | true =>
        have hbad := bad (by simp [iLineOk, h8, h10])
        simp [cr39, hbad]
      | false =>
        simp [hw]
        exact ⟨i + 1, ⟨by omega, good (hgd (by simp [h8, h10]))⟩, by omega, nx + 1, Sim.of_le (Env.le_of (by simp)) (Mem.le_of rfl (by simp))⟩
    | false =>
      simp [h8, hw]
      exact ⟨i + 1, ⟨by omega, good (hgd (by simp [h8]))⟩, by omega, nx + 1, Sim.of_le (Env.le_of (by simp)) (Mem.le_of rfl (by simp))⟩
  have hid : i = x.lines.length := by have := ltI_f.1 h; omega
  have hL : (List.range x.lines.length).all (iLineOk x.base E x.lines) = true := all_t (by rw [← hid]; exact hall)
  simp [h, cr39, imgOk, hb, ← hE, hgt, hD, hN, hL]
end Go.Pm

/- LkS15: code, resolved. Written by gen.py out of what ShowSC.lean printed. -/
namespace Go.Pm
open Go Go.Proofs

/-- ironbark/link.Map -/
def c18 : SC :=
  (.seq (.ops [⟨(some 1), .plain (.box 5), [.tmp 0], none⟩,
    ⟨(some 2), .plain .mv, [.lit (.str ⟨#[]⟩)], none⟩,
    ⟨(some 3), .plain .mv, [.lit (.int .i64 0)], none⟩] [])
  (.seq (.seq (.ops [⟨(some 13), .plain (.load true 5), [.tmp 1], none⟩,
    ⟨(some 14), .call 39, [.tmp 13], none⟩,
    ⟨(some 15), .plain (.un .not), [.tmp 14], none⟩] [13, 14])
  (.cond (.tmp 15)
   (.seq (.ops [⟨(some 2), .plain .mv, [.lit (.str ⟨#[]⟩)], none⟩,
     ⟨(some 3), .plain .mv, [.lit (.int .i64 1)], none⟩] [])
   .ret)
   .skip))
  (.seq (.ops [⟨(some 4), .plain .mv, [.lit .nilS], none⟩] [])
  (.seq (.seq (.ops [⟨(some 16), .plain (.fieldAddr 4), [.tmp 1], none⟩,
    ⟨(some 17), .plain (.load false 1), [.tmp 16], none⟩,
    ⟨(some 18), .plain (.len 1), [.tmp 17], none⟩,
    ⟨(some 19), .plain .mv, [.lit (.int .i64 0)], none⟩] [16])
  (.block 0
   (.loop
    (.seq (.ops [⟨(some 20), .plain (.bin .lss), [.tmp 19, .tmp 18], none⟩] [])
    (.seq (.cond (.tmp 20)
     .skip
     (.exit 0))
    (.seq (.block 1
     (.seq (.ops [⟨(some 21), .plain (.indexAddr 2), [.tmp 17, .tmp 19], none⟩,
       ⟨(some 22), .plain (.load true 2), [.tmp 21], none⟩,
       ⟨(some 6), .plain (.alloc [(.str ⟨#[]⟩), (.int .i64 0)]), [], none⟩,
       ⟨none, .plain (.store 2), [.tmp 6, .tmp 22], none⟩] [21, 22])
     (.ops [⟨(some 23), .plain .mv, [.tmp 4], none⟩,
       ⟨(some 24), .plain (.fieldAddr 1), [.tmp 6], none⟩,
       ⟨(some 25), .plain (.load false 1), [.tmp 24], none⟩,
       ⟨(some 26), .plain (.fieldAddr 0), [.tmp 6], none⟩,
       ⟨(some 27), .plain (.load false 1), [.tmp 26], none⟩,
       ⟨(some 28), .plain (.build [(.int .i64 0), (.bool false), (.str ⟨#[]⟩)] [(0, 1), (1, 1), (2, 1)]), [.tmp 25, .lit (.bool false), .tmp 27], none⟩,
       ⟨(some 29), .plain (.buildRow 78 3 1 [(.int .i64 0), (.bool false), (.str ⟨#[]⟩)] [0]), [.tmp 28], none⟩,
       ⟨(some 30), .plain (.append 78 3 32), [.tmp 23, .tmp 29], none⟩,
       ⟨(some 4), .plain .mv, [.tmp 30], none⟩] [23, 24, 25, 26, 27, 28, 29, 30])))
    (.ops [⟨(some 31), .plain (.bin .add), [.tmp 19, .lit (.int .i64 1)], none⟩,
      ⟨(some 19), .plain .mv, [.tmp 31], none⟩] [31])))))))
  (.seq (.seq (.ops [⟨(some 32), .plain (.fieldAddr 2), [.tmp 1], none⟩,
    ⟨(some 33), .plain (.load false 1), [.tmp 32], none⟩,
    ⟨(some 34), .plain (.len 1), [.tmp 33], none⟩,
    ⟨(some 35), .plain .mv, [.lit (.int .i64 0)], none⟩] [32])
  (.block 2
   (.loop
    (.seq (.ops [⟨(some 36), .plain (.bin .lss), [.tmp 35, .tmp 34], none⟩] [])
    (.seq (.cond (.tmp 36)
     .skip
     (.exit 2))
    (.seq (.block 3
     (.seq (.ops [⟨(some 37), .plain (.indexAddr 2), [.tmp 33, .tmp 35], none⟩,
       ⟨(some 38), .plain (.load true 2), [.tmp 37], none⟩,
       ⟨(some 8), .plain (.alloc [(.str ⟨#[]⟩), (.int .i64 0)]), [], none⟩,
       ⟨none, .plain (.store 2), [.tmp 8, .tmp 38], none⟩] [37, 38])
     (.ops [⟨(some 39), .plain .mv, [.tmp 4], none⟩,
       ⟨(some 40), .plain (.fieldAddr 1), [.tmp 8], none⟩,
       ⟨(some 41), .plain (.load false 1), [.tmp 40], none⟩,
       ⟨(some 42), .plain (.fieldAddr 0), [.tmp 8], none⟩,
       ⟨(some 43), .plain (.load false 1), [.tmp 42], none⟩,
       ⟨(some 44), .plain (.build [(.int .i64 0), (.bool false), (.str ⟨#[]⟩)] [(0, 1), (1, 1), (2, 1)]), [.tmp 41, .lit (.bool true), .tmp 43], none⟩,
       ⟨(some 45), .plain (.buildRow 78 3 1 [(.int .i64 0), (.bool false), (.str ⟨#[]⟩)] [0]), [.tmp 44], none⟩,
       ⟨(some 46), .plain (.append 78 3 32), [.tmp 39, .tmp 45], none⟩,
       ⟨(some 4), .plain .mv, [.tmp 46], none⟩] [39, 40, 41, 42, 43, 44, 45, 46])))
    (.ops [⟨(some 47), .plain (.bin .add), [.tmp 35, .lit (.int .i64 1)], none⟩,
      ⟨(some 35), .plain .mv, [.tmp 47], none⟩] [47])))))))
  (.seq (.ops [⟨(some 48), .plain .mv, [.tmp 4], none⟩,
    ⟨(some 49), .call 40, [.tmp 48, .lit (.fn 41 [])], none⟩] [48, 49])
  (.seq (.ops [⟨(some 9), .plain (.allocT 85 [(.const (.pointer none)), .nilS]), [], none⟩] [])
  (.seq (.seq (.ops [⟨(some 50), .plain .mv, [.tmp 4], none⟩,
    ⟨(some 51), .plain (.len 1), [.tmp 50], none⟩,
    ⟨(some 52), .plain .mv, [.lit (.int .i64 0)], none⟩] [])
  (.block 4
   (.loop
    (.seq (.ops [⟨(some 53), .plain (.bin .lss), [.tmp 52, .tmp 51], none⟩] [])
    (.seq (.cond (.tmp 53)
     .skip
     (.exit 4))
    (.seq (.block 5
     (.seq (.ops [⟨(some 54), .plain (.indexAddr 3), [.tmp 50, .tmp 52], none⟩,
       ⟨(some 55), .plain (.load true 3), [.tmp 54], none⟩,
       ⟨(some 11), .plain (.alloc [(.int .i64 0), (.bool false), (.str ⟨#[]⟩)]), [], none⟩,
       ⟨none, .plain (.store 3), [.tmp 11, .tmp 55], none⟩] [54, 55])
     (.seq (.ops [⟨(some 12), .plain .mv, [.lit (.str ⟨#[32]⟩)], none⟩] [])
     (.seq (.seq (.ops [⟨(some 56), .plain (.fieldAddr 1), [.tmp 11], none⟩,
       ⟨(some 57), .plain (.load false 1), [.tmp 56], none⟩] [56])
     (.cond (.tmp 57)
      (.ops [⟨(some 12), .plain .mv, [.lit (.str ⟨#[32, 32, 32]⟩)], none⟩] [])
      .skip))
     (.draw (.step ⟨(some 58), .plain (.fieldAddr 0), [.tmp 11], none⟩
       (.step ⟨(some 59), .plain (.load false 1), [.tmp 58], none⟩
       (.step ⟨(some 60), .call 44, [.tmp 59, .lit (.int .i64 6)], none⟩
       (.step ⟨(some 61), .plain .mv, [.tmp 12], none⟩
       (.step ⟨(some 62), .plain (.bin .add), [.tmp 60, .tmp 61], none⟩
       (.step ⟨(some 63), .plain (.fieldAddr 2), [.tmp 11], none⟩
       (.step ⟨(some 64), .plain (.load false 1), [.tmp 63], none⟩
       (.step ⟨(some 65), .plain (.bin .add), [.tmp 62, .tmp 64], none⟩
       (.step ⟨(some 66), .plain (.bin .add), [.tmp 65, .lit (.str ⟨#[10]⟩)], none⟩
       (.step ⟨(some 67), .call 43, [.tmp 9, .tmp 66], none⟩
       .done)))))))))) [58, 59, 60, 61, 62, 63, 64, 65, 66, 67])))))
    (.ops [⟨(some 68), .plain (.bin .add), [.tmp 52, .lit (.int .i64 1)], none⟩,
      ⟨(some 52), .plain .mv, [.tmp 68], none⟩] [68])))))))
  (.seq (.ops [⟨(some 69), .call 45, [.tmp 9], none⟩,
    ⟨(some 2), .plain .mv, [.tmp 69], none⟩,
    ⟨(some 3), .plain .mv, [.lit (.int .i64 0)], none⟩] [69])
  .ret)))))))))
def cr18 : List Res := [(2, none), (3, none)]
theorem ok18 : FOk Try.prog Lk.imp 18 c18 cr18 Try.f18.ntmps := ⟨Try.f18, _, Try.func18, rfl, by kernel_rfl, by kernel_rfl, by kernel_rfl, rfl⟩

/-- ironbark/ironbarkref34.Map -/
def c19 : SC :=
  (.seq (.ops [⟨(some 1), .plain (.box 5), [.tmp 0], none⟩,
    ⟨(some 2), .plain .mv, [.lit (.str ⟨#[]⟩)], none⟩,
    ⟨(some 3), .plain .mv, [.lit (.int .i64 0)], none⟩] [])
  (.seq (.seq (.ops [⟨(some 10), .plain (.load true 5), [.tmp 1], none⟩,
    ⟨(some 11), .call 31, [.tmp 10], none⟩,
    ⟨(some 12), .plain (.un .not), [.tmp 11], none⟩] [10, 11])
  (.cond (.tmp 12)
   (.seq (.ops [⟨(some 2), .plain .mv, [.lit (.str ⟨#[]⟩)], none⟩,
     ⟨(some 3), .plain .mv, [.lit (.int .i64 1)], none⟩] [])
   .ret)
   .skip))
  (.seq (.ops [⟨(some 4), .plain .mv, [.lit (.str ⟨#[]⟩)], none⟩] [])
  (.seq (.seq (.ops [⟨(some 13), .plain (.fieldAddr 0), [.tmp 1], none⟩,
    ⟨(some 14), .plain (.load false 1), [.tmp 13], none⟩,
    ⟨(some 5), .plain .mv, [.tmp 14], none⟩] [13, 14])
  (.block 0
   (.loop
    (.seq (.seq (.ops [⟨(some 15), .plain .mv, [.tmp 5], none⟩,
      ⟨(some 16), .plain (.fieldAddr 0), [.tmp 1], none⟩,
      ⟨(some 17), .plain (.load false 1), [.tmp 16], none⟩,
      ⟨(some 18), .plain (.fieldAddr 1), [.tmp 1], none⟩,
      ⟨(some 19), .plain (.load false 1), [.tmp 18], none⟩,
      ⟨(some 20), .plain (.len 0), [.tmp 19], none⟩,
      ⟨(some 21), .plain (.bin .add), [.tmp 17, .tmp 20], none⟩,
      ⟨(some 22), .plain (.bin .leq), [.tmp 15, .tmp 21], none⟩] [15, 16, 17, 18, 19, 20, 21])
    (.cond (.tmp 22)
     .skip
     (.exit 0)))
    (.seq (.block 1
     (.seq (.ops [⟨(some 6), .plain .mv, [.lit .nilS], none⟩] [])
     (.seq (.seq (.ops [⟨(some 7), .plain .mv, [.lit (.int .i64 0)], none⟩] [])
     (.block 2
      (.loop
       (.seq (.seq (.ops [⟨(some 25), .plain .mv, [.tmp 7], none⟩,
         ⟨(some 26), .plain (.fieldAddr 4), [.tmp 1], none⟩,
         ⟨(some 27), .plain (.load false 1), [.tmp 26], none⟩,
         ⟨(some 28), .plain (.len 1), [.tmp 27], none⟩,
         ⟨(some 29), .plain (.bin .lss), [.tmp 25, .tmp 28], none⟩] [25, 26, 27, 28])
       (.cond (.tmp 29)
        .skip
        (.exit 2)))
       (.seq (.block 3
        (.seq (.ops [⟨(some 32), .plain (.fieldAddr 4), [.tmp 1], none⟩,
          ⟨(some 33), .plain (.load false 1), [.tmp 32], none⟩,
          ⟨(some 34), .plain .mv, [.tmp 7], none⟩,
          ⟨(some 35), .plain (.indexAddr 2), [.tmp 33, .tmp 34], none⟩,
          ⟨(some 36), .plain (.fieldAddr 1), [.tmp 35], none⟩,
          ⟨(some 37), .plain (.load false 1), [.tmp 36], none⟩,
          ⟨(some 38), .plain .mv, [.tmp 5], none⟩,
          ⟨(some 39), .plain (.bin .eql), [.tmp 37, .tmp 38], none⟩] [32, 33, 34, 35, 36, 37, 38])
        (.cond (.tmp 39)
         (.ops [⟨(some 40), .plain .mv, [.tmp 6], none⟩,
           ⟨(some 41), .plain (.fieldAddr 4), [.tmp 1], none⟩,
           ⟨(some 42), .plain (.load false 1), [.tmp 41], none⟩,
           ⟨(some 43), .plain .mv, [.tmp 7], none⟩,
           ⟨(some 44), .plain (.indexAddr 2), [.tmp 42, .tmp 43], none⟩,
           ⟨(some 45), .plain (.fieldAddr 0), [.tmp 44], none⟩,
           ⟨(some 46), .plain (.load false 1), [.tmp 45], none⟩,
           ⟨(some 47), .plain (.buildRow 9 1 1 [(.str ⟨#[]⟩)] [0]), [.tmp 46], none⟩,
           ⟨(some 48), .plain (.append 9 1 16), [.tmp 40, .tmp 47], none⟩,
           ⟨(some 6), .plain .mv, [.tmp 48], none⟩] [40, 41, 42, 43, 44, 45, 46, 47, 48])
         .skip)))
       (.ops [⟨(some 30), .plain .mv, [.tmp 7], none⟩,
         ⟨(some 31), .plain (.bin .add), [.tmp 30, .lit (.int .i64 1)], none⟩,
         ⟨(some 7), .plain .mv, [.tmp 31], none⟩] [30, 31]))))))
     (.seq (.ops [⟨(some 49), .plain .mv, [.tmp 6], none⟩,
       ⟨(some 50), .call 46, [.tmp 49], none⟩,
       ⟨(some 6), .plain .mv, [.tmp 50], none⟩] [49, 50])
     (.seq (.seq (.ops [⟨(some 8), .plain .mv, [.lit (.int .i64 0)], none⟩] [])
     (.block 4
      (.loop
       (.seq (.seq (.ops [⟨(some 51), .plain .mv, [.tmp 8], none⟩,
         ⟨(some 52), .plain .mv, [.tmp 6], none⟩,
         ⟨(some 53), .plain (.len 1), [.tmp 52], none⟩,
         ⟨(some 54), .plain (.bin .lss), [.tmp 51, .tmp 53], none⟩] [51, 52, 53])
       (.cond (.tmp 54)
        .skip
        (.exit 4)))
       (.seq (.block 5
        (.draw (.step ⟨(some 57), .plain .mv, [.tmp 4], none⟩
          (.step ⟨(some 58), .plain .mv, [.tmp 5], none⟩
          (.step ⟨(some 59), .call 47, [.tmp 58, .lit (.int .i64 6)], none⟩
          (.step ⟨(some 60), .plain (.bin .add), [.tmp 59, .lit (.str ⟨#[32]⟩)], none⟩
          (.step ⟨(some 61), .plain .mv, [.tmp 6], none⟩
          (.step ⟨(some 62), .plain .mv, [.tmp 8], none⟩
          (.step ⟨(some 63), .plain (.indexAddr 1), [.tmp 61, .tmp 62], none⟩
          (.step ⟨(some 64), .plain (.load false 1), [.tmp 63], none⟩
          (.step ⟨(some 65), .plain (.bin .add), [.tmp 60, .tmp 64], none⟩
          (.step ⟨(some 66), .plain (.bin .add), [.tmp 65, .lit (.str ⟨#[10]⟩)], none⟩
          (.step ⟨(some 67), .plain (.bin .add), [.tmp 57, .tmp 66], none⟩
          (.step ⟨(some 4), .plain .mv, [.tmp 67], none⟩
          .done)))))))))))) [57, 58, 59, 60, 61, 62, 63, 64, 65, 66, 67]))
       (.ops [⟨(some 55), .plain .mv, [.tmp 8], none⟩,
         ⟨(some 56), .plain (.bin .add), [.tmp 55, .lit (.int .i64 1)], none⟩,
         ⟨(some 8), .plain .mv, [.tmp 56], none⟩] [55, 56]))))))
     (.seq (.ops [⟨(some 9), .plain .mv, [.lit (.int .i64 0)], none⟩] [])
     (.block 6
      (.loop
       (.seq (.seq (.ops [⟨(some 68), .plain .mv, [.tmp 9], none⟩,
         ⟨(some 69), .plain (.fieldAddr 2), [.tmp 1], none⟩,
         ⟨(some 70), .plain (.load false 1), [.tmp 69], none⟩,
         ⟨(some 71), .plain (.len 1), [.tmp 70], none⟩,
         ⟨(some 72), .plain (.bin .lss), [.tmp 68, .tmp 71], none⟩] [68, 69, 70, 71])
       (.cond (.tmp 72)
        .skip
        (.exit 6)))
       (.seq (.block 7
        (.seq (.ops [⟨(some 75), .plain (.fieldAddr 2), [.tmp 1], none⟩,
          ⟨(some 76), .plain (.load false 1), [.tmp 75], none⟩,
          ⟨(some 77), .plain .mv, [.tmp 9], none⟩,
          ⟨(some 78), .plain (.indexAddr 2), [.tmp 76, .tmp 77], none⟩,
          ⟨(some 79), .plain (.fieldAddr 1), [.tmp 78], none⟩,
          ⟨(some 80), .plain (.load false 1), [.tmp 79], none⟩,
          ⟨(some 81), .plain .mv, [.tmp 5], none⟩,
          ⟨(some 82), .plain (.bin .eql), [.tmp 80, .tmp 81], none⟩] [75, 76, 77, 78, 79, 80, 81])
        (.cond (.tmp 82)
         (.draw (.step ⟨(some 83), .plain .mv, [.tmp 4], none⟩
           (.step ⟨(some 84), .plain .mv, [.tmp 5], none⟩
           (.step ⟨(some 85), .call 47, [.tmp 84, .lit (.int .i64 6)], none⟩
           (.step ⟨(some 86), .plain (.bin .add), [.tmp 85, .lit (.str ⟨#[32, 32, 32]⟩)], none⟩
           (.step ⟨(some 87), .plain (.fieldAddr 2), [.tmp 1], none⟩
           (.step ⟨(some 88), .plain (.load false 1), [.tmp 87], none⟩
           (.step ⟨(some 89), .plain .mv, [.tmp 9], none⟩
           (.step ⟨(some 90), .plain (.indexAddr 2), [.tmp 88, .tmp 89], none⟩
           (.step ⟨(some 91), .plain (.fieldAddr 0), [.tmp 90], none⟩
           (.step ⟨(some 92), .plain (.load false 1), [.tmp 91], none⟩
           (.step ⟨(some 93), .plain (.bin .add), [.tmp 86, .tmp 92], none⟩
           (.step ⟨(some 94), .plain (.bin .add), [.tmp 93, .lit (.str ⟨#[10]⟩)], none⟩
           (.step ⟨(some 95), .plain (.bin .add), [.tmp 83, .tmp 94], none⟩
           (.step ⟨(some 4), .plain .mv, [.tmp 95], none⟩
           .done)))))))))))))) [83, 84, 85, 86, 87, 88, 89, 90, 91, 92, 93, 94, 95])
         .skip)))
       (.ops [⟨(some 73), .plain .mv, [.tmp 9], none⟩,
         ⟨(some 74), .plain (.bin .add), [.tmp 73, .lit (.int .i64 1)], none⟩,
         ⟨(some 9), .plain .mv, [.tmp 74], none⟩] [73, 74])))))))))))
    (.ops [⟨(some 23), .plain .mv, [.tmp 5], none⟩,
      ⟨(some 24), .plain (.bin .add), [.tmp 23, .lit (.int .i64 1)], none⟩,
      ⟨(some 5), .plain .mv, [.tmp 24], none⟩] [23, 24]))))))
  (.seq (.ops [⟨(some 96), .plain .mv, [.tmp 4], none⟩,
    ⟨(some 2), .plain .mv, [.tmp 96], none⟩,
    ⟨(some 3), .plain .mv, [.lit (.int .i64 0)], none⟩] [96])
  .ret)))))
def cr19 : List Res := [(2, none), (3, none)]
theorem ok19 : FOk Try.prog Lk.imp 19 c19 cr19 Try.f19.ntmps := ⟨Try.f19, _, Try.func19, rfl, by kernel_rfl, by kernel_rfl, by kernel_rfl, rfl⟩

/-- ironbark/link.Place -/
def c20 : SC :=
  (.seq (.ops [⟨(some 2), .plain (.box 5), [.tmp 0], none⟩,
    ⟨(some 4), .plain .mv, [.lit (.str ⟨#[]⟩)], none⟩,
    ⟨(some 5), .plain .mv, [.lit (.int .i64 0)], none⟩,
    ⟨(some 6), .plain .mv, [.lit (.int .i64 0)], none⟩,
    ⟨(some 7), .plain .mv, [.lit (.int .i64 0)], none⟩] [])
  (.seq (.seq (.ops [⟨(some 9), .plain (.load true 5), [.tmp 2], none⟩,
    ⟨(some 10), .call 39, [.tmp 9], none⟩,
    ⟨(some 11), .plain (.un .not), [.tmp 10], none⟩] [9, 10])
  (.cond (.tmp 11)
   (.seq (.ops [⟨(some 4), .plain .mv, [.lit (.str ⟨#[]⟩)], none⟩,
     ⟨(some 5), .plain .mv, [.lit (.int .i64 0)], none⟩,
     ⟨(some 6), .plain .mv, [.lit (.int .i64 0)], none⟩,
     ⟨(some 7), .plain .mv, [.lit (.int .i64 1)], none⟩] [])
   .ret)
   .skip))
  (.seq (.ops [⟨(some 13), .plain (.load true 5), [.tmp 2], none⟩,
    ⟨(some 14), .plain .mv, [.tmp 1], none⟩,
    ⟨(some 15), .call 48, [.tmp 13, .tmp 14], none⟩,
    ⟨(some 12), .plain .mv, [.tmp 15], none⟩,
    ⟨(some 16), .plain (.extract 0), [.tmp 12], none⟩,
    ⟨(some 17), .plain (.extract 1), [.tmp 12], none⟩,
    ⟨(some 18), .plain (.extract 2), [.tmp 12], none⟩,
    ⟨(some 19), .plain (.extract 3), [.tmp 12], none⟩,
    ⟨(some 4), .plain .mv, [.tmp 16], none⟩,
    ⟨(some 5), .plain .mv, [.tmp 17], none⟩,
    ⟨(some 6), .plain .mv, [.tmp 18], none⟩,
    ⟨(some 8), .plain .mv, [.tmp 19], none⟩] [13, 14, 15, 12, 16, 17, 18, 19])
  (.seq (.seq (.ops [⟨(some 20), .plain .mv, [.tmp 8], none⟩,
    ⟨(some 21), .plain (.un .not), [.tmp 20], none⟩] [20])
  (.cond (.tmp 21)
   (.seq (.ops [⟨(some 4), .plain .mv, [.lit (.str ⟨#[]⟩)], none⟩,
     ⟨(some 5), .plain .mv, [.lit (.int .i64 0)], none⟩,
     ⟨(some 6), .plain .mv, [.lit (.int .i64 0)], none⟩,
     ⟨(some 7), .plain .mv, [.lit (.int .i64 8)], none⟩] [])
   .ret)
   .skip))
  (.seq (.ops [⟨(some 22), .plain .mv, [.tmp 4], none⟩,
    ⟨(some 23), .plain .mv, [.tmp 5], none⟩,
    ⟨(some 24), .plain .mv, [.tmp 6], none⟩,
    ⟨(some 4), .plain .mv, [.tmp 22], none⟩,
    ⟨(some 5), .plain .mv, [.tmp 23], none⟩,
    ⟨(some 6), .plain .mv, [.tmp 24], none⟩,
    ⟨(some 7), .plain .mv, [.lit (.int .i64 0)], none⟩] [22, 23, 24])
  .ret)))))
def cr20 : List Res := [(4, none), (5, none), (6, none), (7, none)]
theorem ok20 : FOk Try.prog Lk.imp 20 c20 cr20 Try.f20.ntmps := ⟨Try.f20, _, Try.func20, rfl, by kernel_rfl, by kernel_rfl, by kernel_rfl, rfl⟩

/-- ironbark/ironbarkref34.Place -/
def c21 : SC :=
  (.seq (.ops [⟨(some 2), .plain (.box 5), [.tmp 0], none⟩,
    ⟨(some 4), .plain .mv, [.lit (.str ⟨#[]⟩)], none⟩,
    ⟨(some 5), .plain .mv, [.lit (.int .i64 0)], none⟩,
    ⟨(some 6), .plain .mv, [.lit (.int .i64 0)], none⟩,
    ⟨(some 7), .plain .mv, [.lit (.int .i64 0)], none⟩] [])
  (.seq (.seq (.ops [⟨(some 8), .plain (.load true 5), [.tmp 2], none⟩,
    ⟨(some 9), .call 31, [.tmp 8], none⟩,
    ⟨(some 10), .plain (.un .not), [.tmp 9], none⟩] [8, 9])
  (.cond (.tmp 10)
   (.seq (.ops [⟨(some 4), .plain .mv, [.lit (.str ⟨#[]⟩)], none⟩,
     ⟨(some 5), .plain .mv, [.lit (.int .i64 0)], none⟩,
     ⟨(some 6), .plain .mv, [.lit (.int .i64 0)], none⟩,
     ⟨(some 7), .plain .mv, [.lit (.int .i64 1)], none⟩] [])
   .ret)
   .skip))
  (.seq (.ops [⟨(some 11), .plain (.load true 5), [.tmp 2], none⟩,
    ⟨(some 12), .plain .mv, [.tmp 1], none⟩,
    ⟨(some 13), .call 49, [.tmp 11, .tmp 12], none⟩,
    ⟨(some 14), .plain (.extract 0), [.tmp 13], none⟩,
    ⟨(some 15), .plain (.extract 1), [.tmp 13], none⟩,
    ⟨(some 16), .plain (.extract 2), [.tmp 13], none⟩,
    ⟨(some 17), .plain (.extract 3), [.tmp 13], none⟩,
    ⟨(some 4), .plain .mv, [.tmp 14], none⟩,
    ⟨(some 5), .plain .mv, [.tmp 15], none⟩,
    ⟨(some 6), .plain .mv, [.tmp 16], none⟩,
    ⟨(some 7), .plain .mv, [.tmp 17], none⟩] [11, 12, 13, 14, 15, 16, 17])
  .ret)))
def cr21 : List Res := [(4, none), (5, none), (6, none), (7, none)]
theorem ok21 : FOk Try.prog Lk.imp 21 c21 cr21 Try.f21.ntmps := ⟨Try.f21, _, Try.func21, rfl, by kernel_rfl, by kernel_rfl, by kernel_rfl, rfl⟩

/-- ironbark/ironbarklaw34.LinkPlaces -/
def c4 : SC :=
  (.seq (.ops [⟨(some 8), .plain .mv, [.lit (.bool false)], none⟩] [])
  (.seq (.seq (.ops [⟨(some 30), .call 7, [], none⟩,
    ⟨(some 31), .plain (.un .not), [.tmp 30], none⟩] [30])
  (.cond (.tmp 31)
   (.seq (.ops [⟨(some 8), .plain .mv, [.lit (.bool false)], none⟩] [])
   .ret)
   .skip))
  (.seq (.seq (.ops [⟨(some 32), .plain .mv, [.tmp 0], none⟩,
    ⟨(some 33), .plain .mv, [.tmp 1], none⟩,
    ⟨(some 34), .call 8, [.tmp 32, .tmp 33], none⟩] [32, 33])
  (.cond (.tmp 34)
   (.seq (.ops [⟨(some 8), .plain .mv, [.lit (.bool true)], none⟩] [])
   .ret)
   .skip))
  (.seq (.ops [⟨(some 36), .plain .mv, [.tmp 0], none⟩,
    ⟨(some 37), .plain .mv, [.tmp 1], none⟩,
    ⟨(some 38), .plain .mv, [.tmp 2], none⟩,
    ⟨(some 39), .call 17, [.tmp 36, .tmp 37, .tmp 38], none⟩,
    ⟨(some 35), .plain .mv, [.tmp 39], none⟩,
    ⟨(some 40), .plain (.extract 0), [.tmp 35], none⟩,
    ⟨(some 41), .plain (.extract 1), [.tmp 35], none⟩,
    ⟨(some 42), .plain (.extract 2), [.tmp 35], none⟩,
    ⟨(some 9), .plain (.alloc [(.int .i64 0), (.str ⟨#[]⟩), .nilS, .nilS, .nilS]), [], none⟩,
    ⟨none, .plain (.store 5), [.tmp 9, .tmp 40], none⟩,
    ⟨(some 10), .plain .mv, [.tmp 41], none⟩,
    ⟨(some 11), .plain .mv, [.tmp 42], none⟩] [36, 37, 38, 39, 35, 40, 41, 42, 11])
  (.seq (.seq (.ops [⟨(some 43), .plain .mv, [.tmp 10], none⟩,
    ⟨(some 44), .plain (.bin .neq), [.tmp 43, .lit (.int .i64 0)], none⟩,
    ⟨(some 45), .plain .mv, [.tmp 44], none⟩,
    ⟨(some 46), .plain (.fieldAddr 1), [.tmp 9], (some (45, false))⟩,
    ⟨(some 47), .plain (.load false 1), [.tmp 46], (some (45, false))⟩,
    ⟨(some 48), .plain (.len 0), [.tmp 47], (some (45, false))⟩,
    ⟨(some 49), .plain (.bin .gtr), [.tmp 48, .lit (.int .i64 3000)], (some (45, false))⟩,
    ⟨(some 50), .plain .pick, [.tmp 45, .lit (.bool true), .tmp 49], none⟩] [43, 44, 45, 46, 47, 48, 49])
  (.cond (.tmp 50)
   (.seq (.ops [⟨(some 8), .plain .mv, [.lit (.bool true)], none⟩] [])
   .ret)
   .skip))
  (.seq (.ops [⟨(some 52), .plain (.load true 5), [.tmp 9], none⟩,
    ⟨(some 53), .call 13, [.tmp 52], none⟩,
    ⟨(some 54), .call 18, [.tmp 53], none⟩,
    ⟨(some 51), .plain .mv, [.tmp 54], none⟩,
    ⟨(some 55), .plain (.extract 0), [.tmp 51], none⟩,
    ⟨(some 56), .plain (.extract 1), [.tmp 51], none⟩,
    ⟨(some 12), .plain .mv, [.tmp 55], none⟩,
    ⟨(some 10), .plain .mv, [.tmp 56], none⟩] [52, 53, 54, 51, 55, 56])
  (.seq (.ops [⟨(some 58), .plain (.load true 5), [.tmp 9], none⟩,
    ⟨(some 59), .call 19, [.tmp 58], none⟩,
    ⟨(some 57), .plain .mv, [.tmp 59], none⟩,
    ⟨(some 60), .plain (.extract 0), [.tmp 57], none⟩,
    ⟨(some 61), .plain (.extract 1), [.tmp 57], none⟩,
    ⟨(some 13), .plain .mv, [.tmp 60], none⟩,
    ⟨(some 14), .plain .mv, [.tmp 61], none⟩] [58, 59, 57, 60, 61])
  (.seq (.seq (.ops [⟨(some 62), .plain .mv, [.tmp 12], none⟩,
    ⟨(some 63), .plain .mv, [.tmp 13], none⟩,
    ⟨(some 64), .plain (.bin .neq), [.tmp 62, .tmp 63], none⟩,
    ⟨(some 65), .plain .mv, [.tmp 64], none⟩,
    ⟨(some 66), .plain .mv, [.tmp 10], (some (65, false))⟩,
    ⟨(some 67), .plain .mv, [.tmp 14], (some (65, false))⟩,
    ⟨(some 68), .plain (.bin .neq), [.tmp 66, .tmp 67], (some (65, false))⟩,
    ⟨(some 69), .plain .pick, [.tmp 65, .lit (.bool true), .tmp 68], none⟩] [62, 63, 64, 65, 66, 67, 68])
  (.cond (.tmp 69)
   (.seq (.ops [⟨(some 8), .plain .mv, [.lit (.bool false)], none⟩] [])
   .ret)
   .skip))
  (.seq (.seq (.ops [⟨(some 70), .plain .mv, [.tmp 2], none⟩,
    ⟨(some 71), .plain (.bin .sub), [.tmp 70, .lit (.int .i64 1)], none⟩,
    ⟨(some 15), .plain .mv, [.tmp 71], none⟩] [70, 71])
  (.block 0
   (.loop
    (.seq (.seq (.ops [⟨(some 72), .plain .mv, [.tmp 15], none⟩,
      ⟨(some 73), .plain .mv, [.tmp 2], none⟩,
      ⟨(some 74), .plain (.fieldAddr 1), [.tmp 9], none⟩,
      ⟨(some 75), .plain (.load false 1), [.tmp 74], none⟩,
      ⟨(some 76), .plain (.len 0), [.tmp 75], none⟩,
      ⟨(some 77), .plain (.bin .add), [.tmp 73, .tmp 76], none⟩,
      ⟨(some 78), .plain (.bin .add), [.tmp 77, .lit (.int .i64 1)], none⟩,
      ⟨(some 79), .plain (.bin .leq), [.tmp 72, .tmp 78], none⟩] [72, 73, 74, 75, 76, 77, 78])
    (.cond (.tmp 79)
     .skip
     (.exit 0)))
    (.seq (.block 1
     (.seq (.ops [⟨(some 82), .plain .mv, [.tmp 15], none⟩,
       ⟨(some 16), .plain .mv, [.tmp 82], none⟩] [82])
     (.seq (.seq (.ops [⟨(some 83), .plain .mv, [.tmp 15], none⟩,
       ⟨(some 84), .plain .mv, [.tmp 2], none⟩,
       ⟨(some 85), .plain (.bin .sub), [.tmp 84, .lit (.int .i64 1)], none⟩,
       ⟨(some 86), .plain (.bin .eql), [.tmp 83, .tmp 85], none⟩] [83, 84, 85])
     (.cond (.tmp 86)
      (.ops [⟨(some 87), .plain .mv, [.tmp 3], none⟩,
        ⟨(some 16), .plain .mv, [.tmp 87], none⟩] [87])
      .skip))
     (.seq (.ops [⟨(some 89), .plain (.load true 5), [.tmp 9], none⟩,
       ⟨(some 90), .call 13, [.tmp 89], none⟩,
       ⟨(some 91), .plain .mv, [.tmp 16], none⟩,
       ⟨(some 92), .call 20, [.tmp 90, .tmp 91], none⟩,
       ⟨(some 88), .plain .mv, [.tmp 92], none⟩,
       ⟨(some 93), .plain (.extract 0), [.tmp 88], none⟩,
       ⟨(some 94), .plain (.extract 1), [.tmp 88], none⟩,
       ⟨(some 95), .plain (.extract 2), [.tmp 88], none⟩,
       ⟨(some 96), .plain (.extract 3), [.tmp 88], none⟩,
       ⟨(some 17), .plain .mv, [.tmp 93], none⟩,
       ⟨(some 18), .plain .mv, [.tmp 94], none⟩,
       ⟨(some 19), .plain .mv, [.tmp 95], none⟩,
       ⟨(some 20), .plain .mv, [.tmp 96], none⟩] [89, 90, 91, 92, 88, 93, 94, 95, 96])
     (.seq (.ops [⟨(some 98), .plain (.load true 5), [.tmp 9], none⟩,
       ⟨(some 99), .plain .mv, [.tmp 16], none⟩,
       ⟨(some 100), .call 21, [.tmp 98, .tmp 99], none⟩,
       ⟨(some 97), .plain .mv, [.tmp 100], none⟩,
       ⟨(some 101), .plain (.extract 0), [.tmp 97], none⟩,
       ⟨(some 102), .plain (.extract 1), [.tmp 97], none⟩,
       ⟨(some 103), .plain (.extract 2), [.tmp 97], none⟩,
       ⟨(some 104), .plain (.extract 3), [.tmp 97], none⟩,
       ⟨(some 21), .plain .mv, [.tmp 101], none⟩,
       ⟨(some 22), .plain .mv, [.tmp 102], none⟩,
       ⟨(some 23), .plain .mv, [.tmp 103], none⟩,
       ⟨(some 24), .plain .mv, [.tmp 104], none⟩] [98, 99, 100, 97, 101, 102, 103, 104])
     (.seq (.ops [⟨(some 105), .plain .mv, [.tmp 17], none⟩,
       ⟨(some 106), .plain .mv, [.tmp 21], none⟩,
       ⟨(some 107), .plain (.bin .neq), [.tmp 105, .tmp 106], none⟩,
       ⟨(some 108), .plain .mv, [.tmp 107], none⟩,
       ⟨(some 109), .plain .mv, [.tmp 18], (some (108, false))⟩,
       ⟨(some 110), .plain .mv, [.tmp 22], (some (108, false))⟩,
       ⟨(some 111), .plain (.bin .neq), [.tmp 109, .tmp 110], (some (108, false))⟩,
       ⟨(some 112), .plain .pick, [.tmp 108, .lit (.bool true), .tmp 111], none⟩,
       ⟨(some 113), .plain .mv, [.tmp 112], none⟩,
       ⟨(some 114), .plain .mv, [.tmp 19], (some (113, false))⟩,
       ⟨(some 115), .plain .mv, [.tmp 23], (some (113, false))⟩,
       ⟨(some 116), .plain (.bin .neq), [.tmp 114, .tmp 115], (some (113, false))⟩,
       ⟨(some 117), .plain .pick, [.tmp 113, .lit (.bool true), .tmp 116], none⟩,
       ⟨(some 118), .plain .mv, [.tmp 117], none⟩,
       ⟨(some 119), .plain .mv, [.tmp 20], (some (118, false))⟩,
       ⟨(some 120), .plain .mv, [.tmp 24], (some (118, false))⟩,
       ⟨(some 121), .plain (.bin .neq), [.tmp 119, .tmp 120], (some (118, false))⟩,
       ⟨(some 122), .plain .pick, [.tmp 118, .lit (.bool true), .tmp 121], none⟩] [105, 106, 107, 108, 109, 110, 111, 112, 113, 114, 115, 116, 117, 118, 119, 120, 121])
     (.cond (.tmp 122)
      (.seq (.ops [⟨(some 8), .plain .mv, [.lit (.bool false)], none⟩] [])
      .ret)
      .skip)))))))
    (.ops [⟨(some 80), .plain .mv, [.tmp 15], none⟩,
      ⟨(some 81), .plain (.bin .add), [.tmp 80, .lit (.int .i64 1)], none⟩,
      ⟨(some 15), .plain .mv, [.tmp 81], none⟩] [80, 81]))))))
  (.seq (.seq (.ops [⟨(some 25), .plain .mv, [.lit (.int .i64 0)], none⟩] [])
  (.block 2
   (.loop
    (.seq (.seq (.ops [⟨(some 123), .plain .mv, [.tmp 25], none⟩,
      ⟨(some 124), .plain (.fieldAddr 4), [.tmp 9], none⟩,
      ⟨(some 125), .plain (.load false 1), [.tmp 124], none⟩,
      ⟨(some 126), .plain (.len 1), [.tmp 125], none⟩,
      ⟨(some 127), .plain (.bin .lss), [.tmp 123, .tmp 126], none⟩] [123, 124, 125, 126])
    (.cond (.tmp 127)
     .skip
     (.exit 2)))
    (.seq (.block 3
     (.seq (.seq (.draw (.step ⟨(some 130), .plain .mv, [.tmp 25], none⟩
       (.step ⟨(some 131), .plain (.bin .add), [.tmp 130, .lit (.int .i64 1)], none⟩
       (.step ⟨(some 132), .plain (.fieldAddr 4), [.tmp 9], none⟩
       (.step ⟨(some 133), .plain (.load false 1), [.tmp 132], none⟩
       (.step ⟨(some 134), .plain (.len 1), [.tmp 133], none⟩
       (.step ⟨(some 135), .plain (.bin .lss), [.tmp 131, .tmp 134], none⟩
       (.step ⟨(some 136), .plain .mv, [.tmp 135], none⟩
       (.step ⟨(some 137), .plain (.fieldAddr 4), [.tmp 9], (some (136, true))⟩
       (.step ⟨(some 138), .plain (.load false 1), [.tmp 137], (some (136, true))⟩
       (.step ⟨(some 139), .plain .mv, [.tmp 25], (some (136, true))⟩
       (.step ⟨(some 140), .plain (.bin .add), [.tmp 139, .lit (.int .i64 1)], (some (136, true))⟩
       (.step ⟨(some 141), .plain (.indexAddr 2), [.tmp 138, .tmp 140], (some (136, true))⟩
       (.step ⟨(some 142), .plain (.fieldAddr 1), [.tmp 141], (some (136, true))⟩
       (.step ⟨(some 143), .plain (.load false 1), [.tmp 142], (some (136, true))⟩
       (.step ⟨(some 144), .plain (.fieldAddr 4), [.tmp 9], (some (136, true))⟩
       (.step ⟨(some 145), .plain (.load false 1), [.tmp 144], (some (136, true))⟩
       (.step ⟨(some 146), .plain .mv, [.tmp 25], (some (136, true))⟩
       (.step ⟨(some 147), .plain (.indexAddr 2), [.tmp 145, .tmp 146], (some (136, true))⟩
       (.step ⟨(some 148), .plain (.fieldAddr 1), [.tmp 147], (some (136, true))⟩
       (.step ⟨(some 149), .plain (.load false 1), [.tmp 148], (some (136, true))⟩
       (.step ⟨(some 150), .plain (.bin .eql), [.tmp 143, .tmp 149], (some (136, true))⟩
       (.step ⟨(some 151), .plain .pick, [.tmp 136, .tmp 150, .lit (.bool false)], none⟩
       (.step ⟨(some 152), .plain .mv, [.tmp 151], none⟩
       (.step ⟨(some 153), .plain (.fieldAddr 4), [.tmp 9], (some (152, false))⟩
       (.step ⟨(some 154), .plain (.load false 1), [.tmp 153], (some (152, false))⟩
       (.step ⟨(some 155), .plain .mv, [.tmp 25], (some (152, false))⟩
       (.step ⟨(some 156), .plain (.indexAddr 2), [.tmp 154, .tmp 155], (some (152, false))⟩
       (.step ⟨(some 157), .plain (.fieldAddr 1), [.tmp 156], (some (152, false))⟩
       (.step ⟨(some 158), .plain (.load false 1), [.tmp 157], (some (152, false))⟩
       (.step ⟨(some 159), .plain .mv, [.tmp 2], (some (152, false))⟩
       (.step ⟨(some 160), .plain (.fieldAddr 1), [.tmp 9], (some (152, false))⟩
       (.step ⟨(some 161), .plain (.load false 1), [.tmp 160], (some (152, false))⟩
       (.step ⟨(some 162), .plain (.len 0), [.tmp 161], (some (152, false))⟩
       (.step ⟨(some 163), .plain (.bin .add), [.tmp 159, .tmp 162], (some (152, false))⟩
       (.step ⟨(some 164), .plain (.bin .eql), [.tmp 158, .tmp 163], (some (152, false))⟩
       (.step ⟨(some 165), .plain .pick, [.tmp 152, .lit (.bool true), .tmp 164], none⟩
       .done)))))))))))))))))))))))))))))))))))) [130, 131, 132, 133, 134, 135, 136, 137, 138, 139, 140, 141, 142, 143, 144, 145, 146, 147, 148, 149, 150, 151, 152, 153, 154, 155, 156, 157, 158, 159, 160, 161, 162, 163, 164])
     (.cond (.tmp 165)
      (.exit 3)
      .skip))
     (.seq (.draw (.step ⟨(some 167), .plain (.load true 5), [.tmp 9], none⟩
       (.step ⟨(some 168), .call 13, [.tmp 167], none⟩
       (.step ⟨(some 169), .plain (.fieldAddr 4), [.tmp 9], none⟩
       (.step ⟨(some 170), .plain (.load false 1), [.tmp 169], none⟩
       (.step ⟨(some 171), .plain .mv, [.tmp 25], none⟩
       (.step ⟨(some 172), .plain (.indexAddr 2), [.tmp 170, .tmp 171], none⟩
       (.step ⟨(some 173), .plain (.fieldAddr 1), [.tmp 172], none⟩
       (.step ⟨(some 174), .plain (.load false 1), [.tmp 173], none⟩
       (.step ⟨(some 175), .call 20, [.tmp 168, .tmp 174], none⟩
       (.step ⟨(some 166), .plain .mv, [.tmp 175], none⟩
       (.step ⟨(some 176), .plain (.extract 0), [.tmp 166], none⟩
       (.step ⟨(some 177), .plain (.extract 1), [.tmp 166], none⟩
       (.step ⟨(some 178), .plain (.extract 2), [.tmp 166], none⟩
       (.step ⟨(some 179), .plain (.extract 3), [.tmp 166], none⟩
       (.step ⟨(some 26), .plain .mv, [.tmp 176], none⟩
       (.step ⟨(some 27), .plain .mv, [.tmp 177], none⟩
       (.step ⟨(some 28), .plain .mv, [.tmp 178], none⟩
       (.step ⟨(some 29), .plain .mv, [.tmp 179], none⟩
       .done)))))))))))))))))) [167, 168, 169, 170, 171, 172, 173, 174, 175, 166, 176, 177, 178, 179, 27])
     (.seq (.ops [⟨(some 180), .plain .mv, [.tmp 26], none⟩,
       ⟨(some 181), .plain (.fieldAddr 4), [.tmp 9], none⟩,
       ⟨(some 182), .plain (.load false 1), [.tmp 181], none⟩,
       ⟨(some 183), .plain .mv, [.tmp 25], none⟩,
       ⟨(some 184), .plain (.indexAddr 2), [.tmp 182, .tmp 183], none⟩,
       ⟨(some 185), .plain (.fieldAddr 0), [.tmp 184], none⟩,
       ⟨(some 186), .plain (.load false 1), [.tmp 185], none⟩,
       ⟨(some 187), .plain (.bin .neq), [.tmp 180, .tmp 186], none⟩,
       ⟨(some 188), .plain .mv, [.tmp 187], none⟩,
       ⟨(some 189), .plain .mv, [.tmp 28], (some (188, false))⟩,
       ⟨(some 190), .plain (.bin .neq), [.tmp 189, .lit (.int .i64 0)], (some (188, false))⟩,
       ⟨(some 191), .plain .pick, [.tmp 188, .lit (.bool true), .tmp 190], none⟩,
       ⟨(some 192), .plain .mv, [.tmp 191], none⟩,
       ⟨(some 193), .plain .mv, [.tmp 29], (some (192, false))⟩,
       ⟨(some 194), .plain (.bin .neq), [.tmp 193, .lit (.int .i64 0)], (some (192, false))⟩,
       ⟨(some 195), .plain .pick, [.tmp 192, .lit (.bool true), .tmp 194], none⟩] [180, 181, 182, 183, 184, 185, 186, 187, 188, 189, 190, 191, 192, 193, 194])
     (.cond (.tmp 195)
      (.seq (.ops [⟨(some 8), .plain .mv, [.lit (.bool false)], none⟩] [])
      .ret)
      .skip)))))
    (.ops [⟨(some 128), .plain .mv, [.tmp 25], none⟩,
      ⟨(some 129), .plain (.bin .add), [.tmp 128, .lit (.int .i64 1)], none⟩,
      ⟨(some 25), .plain .mv, [.tmp 129], none⟩] [128, 129]))))))
  (.seq (.ops [⟨(some 8), .plain .mv, [.lit (.bool true)], none⟩] [])
  .ret)))))))))))
def cr4 : List Res := [(8, none)]
theorem ok4 : FOk Try.prog Lk.imp 4 c4 cr4 Try.f4.ntmps := ⟨Try.f4, _, Try.func4, rfl, by kernel_rfl, by kernel_rfl, by kernel_rfl, rfl⟩

/-- ironbark/ironbarklaw34.LinkImages -/
def c5 : SC :=
  (.seq (.ops [⟨(some 2), .plain (.box 5), [.tmp 0], none⟩,
    ⟨(some 4), .plain .mv, [.lit (.bool false)], none⟩] [])
  (.seq (.seq (.ops [⟨(some 19), .call 7, [], none⟩,
    ⟨(some 20), .plain (.un .not), [.tmp 19], none⟩] [19])
  (.cond (.tmp 20)
   (.seq (.ops [⟨(some 4), .plain .mv, [.lit (.bool false)], none⟩] [])
   .ret)
   .skip))
  (.seq (.seq (.ops [⟨(some 21), .plain (.fieldAddr 1), [.tmp 2], none⟩,
    ⟨(some 22), .plain (.load false 1), [.tmp 21], none⟩,
    ⟨(some 23), .plain (.len 0), [.tmp 22], none⟩,
    ⟨(some 24), .plain (.bin .gtr), [.tmp 23, .lit (.int .i64 3000)], none⟩,
    ⟨(some 25), .plain .mv, [.tmp 24], none⟩,
    ⟨(some 26), .plain (.fieldAddr 2), [.tmp 2], (some (25, false))⟩,
    ⟨(some 27), .plain (.load false 1), [.tmp 26], (some (25, false))⟩,
    ⟨(some 28), .plain (.len 1), [.tmp 27], (some (25, false))⟩,
    ⟨(some 29), .plain (.fieldAddr 4), [.tmp 2], (some (25, false))⟩,
    ⟨(some 30), .plain (.load false 1), [.tmp 29], (some (25, false))⟩,
    ⟨(some 31), .plain (.len 1), [.tmp 30], (some (25, false))⟩,
    ⟨(some 32), .plain (.bin .add), [.tmp 28, .tmp 31], (some (25, false))⟩,
    ⟨(some 33), .plain (.fieldAddr 3), [.tmp 2], (some (25, false))⟩,
    ⟨(some 34), .plain (.load false 1), [.tmp 33], (some (25, false))⟩,
    ⟨(some 35), .plain (.len 1), [.tmp 34], (some (25, false))⟩,
    ⟨(some 36), .plain (.bin .add), [.tmp 32, .tmp 35], (some (25, false))⟩,
    ⟨(some 37), .plain (.bin .gtr), [.tmp 36, .lit (.int .i64 200)], (some (25, false))⟩,
    ⟨(some 38), .plain .pick, [.tmp 25, .lit (.bool true), .tmp 37], none⟩] [21, 22, 23, 24, 25, 26, 27, 28, 29, 30, 31, 32, 33, 34, 35, 36, 37])
  (.cond (.tmp 38)
   (.seq (.ops [⟨(some 4), .plain .mv, [.lit (.bool true)], none⟩] [])
   .ret)
   .skip))
  (.seq (.ops [⟨(some 40), .plain (.load true 5), [.tmp 2], none⟩,
    ⟨(some 41), .call 13, [.tmp 40], none⟩,
    ⟨(some 42), .call 18, [.tmp 41], none⟩,
    ⟨(some 39), .plain .mv, [.tmp 42], none⟩,
    ⟨(some 43), .plain (.extract 0), [.tmp 39], none⟩,
    ⟨(some 44), .plain (.extract 1), [.tmp 39], none⟩,
    ⟨(some 5), .plain .mv, [.tmp 43], none⟩,
    ⟨(some 6), .plain .mv, [.tmp 44], none⟩] [40, 41, 42, 39, 43, 44])
  (.seq (.ops [⟨(some 46), .plain (.load true 5), [.tmp 2], none⟩,
    ⟨(some 47), .call 19, [.tmp 46], none⟩,
    ⟨(some 45), .plain .mv, [.tmp 47], none⟩,
    ⟨(some 48), .plain (.extract 0), [.tmp 45], none⟩,
    ⟨(some 49), .plain (.extract 1), [.tmp 45], none⟩,
    ⟨(some 7), .plain .mv, [.tmp 48], none⟩,
    ⟨(some 8), .plain .mv, [.tmp 49], none⟩] [46, 47, 45, 48, 49])
  (.seq (.seq (.ops [⟨(some 50), .plain .mv, [.tmp 5], none⟩,
    ⟨(some 51), .plain .mv, [.tmp 7], none⟩,
    ⟨(some 52), .plain (.bin .neq), [.tmp 50, .tmp 51], none⟩,
    ⟨(some 53), .plain .mv, [.tmp 52], none⟩,
    ⟨(some 54), .plain .mv, [.tmp 6], (some (53, false))⟩,
    ⟨(some 55), .plain .mv, [.tmp 8], (some (53, false))⟩,
    ⟨(some 56), .plain (.bin .neq), [.tmp 54, .tmp 55], (some (53, false))⟩,
    ⟨(some 57), .plain .pick, [.tmp 53, .lit (.bool true), .tmp 56], none⟩] [50, 51, 52, 53, 54, 55, 56])
  (.cond (.tmp 57)
   (.seq (.ops [⟨(some 4), .plain .mv, [.lit (.bool false)], none⟩] [])
   .ret)
   .skip))
  (.seq (.seq (.ops [⟨(some 9), .plain .mv, [.lit (.int .i64 0)], none⟩] [])
  (.block 0
   (.loop
    (.seq (.seq (.ops [⟨(some 58), .plain .mv, [.tmp 9], none⟩,
      ⟨(some 59), .plain (.bin .lss), [.tmp 58, .lit (.int .i64 40)], none⟩] [58])
    (.cond (.tmp 59)
     .skip
     (.exit 0)))
    (.seq (.block 1
     (.seq (.ops [⟨(some 62), .plain (.fieldAddr 0), [.tmp 2], none⟩,
       ⟨(some 63), .plain (.load false 1), [.tmp 62], none⟩,
       ⟨(some 64), .plain .mv, [.tmp 9], none⟩,
       ⟨(some 65), .plain (.bin .add), [.tmp 63, .tmp 64], none⟩,
       ⟨(some 66), .plain (.bin .sub), [.tmp 65, .lit (.int .i64 2)], none⟩,
       ⟨(some 10), .plain .mv, [.tmp 66], none⟩] [62, 63, 64, 65, 66])
     (.seq (.seq (.ops [⟨(some 67), .plain .mv, [.tmp 9], none⟩,
       ⟨(some 68), .plain (.bin .eql), [.tmp 67, .lit (.int .i64 0)], none⟩] [67])
     (.cond (.tmp 68)
      (.ops [⟨(some 69), .plain .mv, [.tmp 1], none⟩,
        ⟨(some 10), .plain .mv, [.tmp 69], none⟩] [69])
      .skip))
     (.seq (.ops [⟨(some 71), .plain (.load true 5), [.tmp 2], none⟩,
       ⟨(some 72), .call 13, [.tmp 71], none⟩,
       ⟨(some 73), .plain .mv, [.tmp 10], none⟩,
       ⟨(some 74), .call 20, [.tmp 72, .tmp 73], none⟩,
       ⟨(some 70), .plain .mv, [.tmp 74], none⟩,
       ⟨(some 75), .plain (.extract 0), [.tmp 70], none⟩,
       ⟨(some 76), .plain (.extract 1), [.tmp 70], none⟩,
       ⟨(some 77), .plain (.extract 2), [.tmp 70], none⟩,
       ⟨(some 78), .plain (.extract 3), [.tmp 70], none⟩,
       ⟨(some 11), .plain .mv, [.tmp 75], none⟩,
       ⟨(some 12), .plain .mv, [.tmp 76], none⟩,
       ⟨(some 13), .plain .mv, [.tmp 77], none⟩,
       ⟨(some 14), .plain .mv, [.tmp 78], none⟩] [71, 72, 73, 74, 70, 75, 76, 77, 78])
     (.seq (.ops [⟨(some 80), .plain (.load true 5), [.tmp 2], none⟩,
       ⟨(some 81), .plain .mv, [.tmp 10], none⟩,
       ⟨(some 82), .call 21, [.tmp 80, .tmp 81], none⟩,
       ⟨(some 79), .plain .mv, [.tmp 82], none⟩,
       ⟨(some 83), .plain (.extract 0), [.tmp 79], none⟩,
       ⟨(some 84), .plain (.extract 1), [.tmp 79], none⟩,
       ⟨(some 85), .plain (.extract 2), [.tmp 79], none⟩,
       ⟨(some 86), .plain (.extract 3), [.tmp 79], none⟩,
       ⟨(some 15), .plain .mv, [.tmp 83], none⟩,
       ⟨(some 16), .plain .mv, [.tmp 84], none⟩,
       ⟨(some 17), .plain .mv, [.tmp 85], none⟩,
       ⟨(some 18), .plain .mv, [.tmp 86], none⟩] [80, 81, 82, 79, 83, 84, 85, 86])
     (.seq (.ops [⟨(some 87), .plain .mv, [.tmp 11], none⟩,
       ⟨(some 88), .plain .mv, [.tmp 15], none⟩,
       ⟨(some 89), .plain (.bin .neq), [.tmp 87, .tmp 88], none⟩,
       ⟨(some 90), .plain .mv, [.tmp 89], none⟩,
       ⟨(some 91), .plain .mv, [.tmp 12], (some (90, false))⟩,
       ⟨(some 92), .plain .mv, [.tmp 16], (some (90, false))⟩,
       ⟨(some 93), .plain (.bin .neq), [.tmp 91, .tmp 92], (some (90, false))⟩,
       ⟨(some 94), .plain .pick, [.tmp 90, .lit (.bool true), .tmp 93], none⟩,
       ⟨(some 95), .plain .mv, [.tmp 94], none⟩,
       ⟨(some 96), .plain .mv, [.tmp 13], (some (95, false))⟩,
       ⟨(some 97), .plain .mv, [.tmp 17], (some (95, false))⟩,
       ⟨(some 98), .plain (.bin .neq), [.tmp 96, .tmp 97], (some (95, false))⟩,
       ⟨(some 99), .plain .pick, [.tmp 95, .lit (.bool true), .tmp 98], none⟩,
       ⟨(some 100), .plain .mv, [.tmp 99], none⟩,
       ⟨(some 101), .plain .mv, [.tmp 14], (some (100, false))⟩,
       ⟨(some 102), .plain .mv, [.tmp 18], (some (100, false))⟩,
       ⟨(some 103), .plain (.bin .neq), [.tmp 101, .tmp 102], (some (100, false))⟩,
       ⟨(some 104), .plain .pick, [.tmp 100, .lit (.bool true), .tmp 103], none⟩] [87, 88, 89, 90, 91, 92, 93, 94, 95, 96, 97, 98, 99, 100, 101, 102, 103])
     (.cond (.tmp 104)
      (.seq (.ops [⟨(some 4), .plain .mv, [.lit (.bool false)], none⟩] [])
      .ret)
      .skip)))))))
    (.ops [⟨(some 60), .plain .mv, [.tmp 9], none⟩,
      ⟨(some 61), .plain (.bin .add), [.tmp 60, .lit (.int .i64 1)], none⟩,
      ⟨(some 9), .plain .mv, [.tmp 61], none⟩] [60, 61]))))))
  (.seq (.ops [⟨(some 4), .plain .mv, [.lit (.bool true)], none⟩] [])
  .ret))))))))
def cr5 : List Res := [(4, none)]
theorem ok5 : FOk Try.prog Lk.imp 5 c5 cr5 Try.f5.ntmps := ⟨Try.f5, _, Try.func5, rfl, by kernel_rfl, by kernel_rfl, by kernel_rfl, rfl⟩

end Go.Pm

/- LkQ3: contracts: where an address is in an image. -/
namespace Go.Pm
open Go Go.Proofs
attribute [-simp] List.getElem?_map

/-- The last one of the first that lies not behind an address; -1 for none. -/
def lastTo (ns : List DDef) (a : Int) : Nat → Int
  | 0 => -1
  | i + 1 => if leI (ix ns i).at_ a then i else lastTo ns a i
theorem lastTo_ge {ns : List DDef} {a : Int} : ∀ i, -1 ≤ lastTo ns a i
  | 0 => by simp [lastTo]
  | i + 1 => by
    rw [lastTo]
    split
    · omega
    · exact lastTo_ge i
theorem lastTo_lt {ns : List DDef} {a : Int} : ∀ i, lastTo ns a i < i
  | 0 => by simp [lastTo]
  | i + 1 => by
    rw [lastTo]
    split
    · omega
    · have := lastTo_lt (ns := ns) (a := a) i; omega
/-- The statement of the last line of the first between two places. -/
def stmtTo (ls : List DLine) (o a : Int) : Nat → Int
  | 0 => 0
  | i + 1 => if leI o (ix ls i).at_ && leI (ix ls i).at_ a then (ix ls i).stmt else stmtTo ls o a i
def placeF (x : Img) (a : Int) : Option (ByteArray × Int × Int) :=
  if ltI a x.base || leI (x.base + x.code.size) a then none
  else if ltI (lastTo x.names a x.names.length) 0 then none
  else some ((ix x.names (lastTo x.names a x.names.length).toNat).name, stmtTo x.lines (ix x.names (lastTo x.names a x.names.length).toNat).at_ a x.lines.length, IntKind.i64.wrap (a - (ix x.names (lastTo x.names a x.names.length).toNat).at_))

def placeAV (b : Bool) : Option (ByteArray × Int × Int) → AV
  | none => .tuple [.str ⟨#[]⟩, .int .i64 0, .int .i64 0, if b then .bool false else .int .i64 8]
  | some (n, s, k) => .tuple [.str n, .int .i64 s, .int .i64 k, if b then .bool true else .int .i64 0]

set_option maxHeartbeats 4000000 in
theorem call48 (x : Img) (hx : x.Small) (hb : 0 ≤ x.base ∧ x.base ≤ 65528) (a : Int) : PCalls Try.prog 48 [.agg x.av, .int .i64 a] fun out => out = .ret (placeAV true (placeF x a)) := by
  refine ok48.pcalls (by simp) ?_
  have hl2 := hx.lines
  have hl3 := hx.names
  have hl4 := hx.code
  obtain ⟨E, hE⟩ : ∃ E, E = x.base + (x.code.size : Int) := ⟨_, rfl⟩
  have hwe : IntKind.i64.wrap (x.base + x.code.size) = E := by rw [hE]; exact wrap64 (by omega) (by omega)
  simp [c48, Img.av, hwe]
  cases h1 : ltI a x.base with
  | true => simp [cr48, placeF, placeAV, h1]
  | false =>
  simp [hwe]
  cases h2 : leI E a with
  | true => simp [cr48, placeF, placeAV, h1, ← hE, h2]
  | false =>
  simp
  refine wpS_loopS (ι := Nat × Nat) (fun g => [(1, .int .i64 a), (2, .ptr 0 0 0), (5, .int .i64 0), (8, .int .i64 (lastTo x.names a g.1)), (29, .list true 2 (x.names.map DDef.av)), (30, .int .i64 x.names.length), (31, .int .i64 g.1)]) (fun g => ⟨[(0, .cells x.av)], g.2⟩) (fun g => x.names.length - g.1) (fun g => g.1 ≤ x.names.length) (0, 1) (Nat.zero_le _) (Sim.of_le (Env.le_of (by simp [lastTo])) (Mem.le_of rfl (by simp [Img.av]))) ?_
  rintro ⟨i, nx⟩ hi
  simp only at hi
  have hw : IntKind.i64.wrap (i + 1) = i + 1 := wrap64 (by omega) (by omega)
  simp [Img.av]
  refine br_cond rfl (fun h => ?_) (fun h => ?_)
  · have hlt : i < x.names.length := by have := ltI_t.1 h; omega
    simp [h, idxM, DDef.av]
    cases h3 : leI (ix x.names i).at_ a with
    | true =>
      simp [hw]
      exact ⟨i + 1, by omega, by omega, nx + 1, Sim.of_le (Env.le_of (by simp [lastTo, h3])) (Mem.le_of rfl (by simp))⟩
    | false =>
      simp [hw]
      exact ⟨i + 1, by omega, by omega, nx + 1, Sim.of_le (Env.le_of (by simp [lastTo, h3])) (Mem.le_of rfl (by simp))⟩
  have hid : i = x.names.length := by have := ltI_f.1 h; omega
  subst hid
  obtain ⟨k, hk⟩ : ∃ k, k = lastTo x.names a x.names.length := ⟨_, rfl⟩
  have hkg := lastTo_ge (ns := x.names) (a := a) x.names.length
  have hkl := lastTo_lt (ns := x.names) (a := a) x.names.length
  rw [← hk] at hkg hkl
  simp [h, ← hk]
  cases h4 : ltI k 0 with
  | true => simp [cr48, placeF, placeAV, h1, ← hE, h2, ← hk, h4]
  | false =>
  obtain ⟨n, hn⟩ : ∃ n : Nat, k = n := ⟨k.toNat, by have := ltI_f.1 h4; omega⟩
  have hnl : ltI (n : Int) x.names.length = true := ltN (by omega)
  have hpl : placeF x a = some ((ix x.names n).name, stmtTo x.lines (ix x.names n).at_ a x.lines.length, IntKind.i64.wrap (a - (ix x.names n).at_)) := by
    simp [placeF, h1, ← hE, h2, ← hk, h4]
    simp [hn]
  subst hn
  obtain ⟨o, ho⟩ : ∃ o, o = ix x.names n := ⟨_, rfl⟩
  rw [← ho] at hpl
  simp [hnl, idxM, ← ho, DDef.av]
  refine wpS_loopS (ι := Nat × Nat) (fun g => [(1, .int .i64 a), (2, .ptr 0 0 0), (5, .int .i64 (stmtTo x.lines o.at_ a g.1)), (8, .int .i64 n), (11, .int .i64 o.at_), (51, .list true 2 (x.lines.map DLine.av)), (52, .int .i64 x.lines.length), (53, .int .i64 g.1)]) (fun g => ⟨[(0, .cells x.av)], g.2⟩) (fun g => x.lines.length - g.1) (fun g => g.1 ≤ x.lines.length) (0, nx) (Nat.zero_le _) (Sim.of_le (Env.le_of (by simp [stmtTo])) (Mem.le_of rfl (by simp [Img.av]))) ?_
  clear nx
  rintro ⟨i, nx⟩ hi
  simp only at hi
  have hw : IntKind.i64.wrap (i + 1) = i + 1 := wrap64 (by omega) (by omega)
  simp [Img.av]
  refine br_cond rfl (fun h => ?_) (fun h => ?_)
  · have hlt : i < x.lines.length := by have := ltI_t.1 h; omega
    simp [h, idxM, DLine.av]
    cases h3 : leI o.at_ (ix x.lines i).at_ with
    | false =>
      simp [hw]
      exact ⟨i + 1, by omega, by omega, nx + 1, Sim.of_le (Env.le_of (by simp [stmtTo, h3])) (Mem.le_of rfl (by simp))⟩
    | true =>
      simp
      cases h4 : leI (ix x.lines i).at_ a with
      | false =>
        simp [hw]
        exact ⟨i + 1, by omega, by omega, nx + 1, Sim.of_le (Env.le_of (by simp [stmtTo, h3, h4])) (Mem.le_of rfl (by simp))⟩
      | true =>
        simp [hw]
        exact ⟨i + 1, by omega, by omega, nx + 1, Sim.of_le (Env.le_of (by simp [stmtTo, h3, h4])) (Mem.le_of rfl (by simp))⟩
  have hid : i = x.lines.length := by have := ltI_f.1 h; omega
  subst hid
  have h' : ltI (x.lines.length : Int) x.lines.length = false := h
  simp [h', hnl, idxM, ← ho, DDef.av, cr48, hpl, placeAV]

set_option maxHeartbeats 4000000 in
theorem call49 (x : Img) (hx : x.Small) (hb : 0 ≤ x.base ∧ x.base ≤ 65528) (a : Int) : PCalls Try.prog 49 [.agg x.av, .int .i64 a] fun out => out = .ret (placeAV false (placeF x a)) := by
  refine ok49.pcalls (by simp) ?_
  have hl2 := hx.lines
  have hl3 := hx.names
  have hl4 := hx.code
  obtain ⟨E, hE⟩ : ∃ E, E = x.base + (x.code.size : Int) := ⟨_, rfl⟩
  have hwe : IntKind.i64.wrap (x.base + x.code.size) = E := by rw [hE]; exact wrap64 (by omega) (by omega)
  simp [c49, Img.av, hwe]
  cases h1 : ltI a x.base with
  | true => simp [cr49, placeF, placeAV, h1]
  | false =>
  simp [hwe]
  cases h2 : leI E a with
  | true => simp [cr49, placeF, placeAV, h1, ← hE, h2]
  | false =>
  simp
  refine wpS_loopS (ι := Nat) (fun g => [(1, .int .i64 a), (2, .ptr 0 0 0), (8, .int .i64 (lastTo x.names a g)), (9, .int .i64 g)]) (fun g => ⟨[(0, .cells x.av)], 1⟩) (fun g => x.names.length - g) (fun g => g ≤ x.names.length) 0 (Nat.zero_le _) (Sim.of_le (Env.le_of (by simp [lastTo])) (Mem.le_of rfl (by simp [Img.av]))) ?_
  intro i hi
  have hw : IntKind.i64.wrap (i + 1) = i + 1 := wrap64 (by omega) (by omega)
  simp [Img.av]
  refine br_cond rfl (fun h => ?_) (fun h => ?_)
  · have hlt : i < x.names.length := by have := ltI_t.1 h; omega
    simp [h, idxM, DDef.av]
    cases h3 : leI (ix x.names i).at_ a with
    | true =>
      simp [hw]
      exact ⟨i + 1, by omega, by omega, Sim.of_le (Env.le_of (by simp [lastTo, h3])) (Mem.le_of rfl (by simp))⟩
    | false =>
      simp [hw]
      exact ⟨i + 1, by omega, by omega, Sim.of_le (Env.le_of (by simp [lastTo, h3])) (Mem.le_of rfl (by simp))⟩
  have hid : i = x.names.length := by have := ltI_f.1 h; omega
  subst hid
  obtain ⟨k, hk⟩ : ∃ k, k = lastTo x.names a x.names.length := ⟨_, rfl⟩
  have hkg := lastTo_ge (ns := x.names) (a := a) x.names.length
  have hkl := lastTo_lt (ns := x.names) (a := a) x.names.length
  rw [← hk] at hkg hkl
  simp [h, ← hk]
  cases h4 : ltI k 0 with
  | true => simp [cr49, placeF, placeAV, h1, ← hE, h2, ← hk, h4]
  | false =>
  obtain ⟨n, hn⟩ : ∃ n : Nat, k = n := ⟨k.toNat, by have := ltI_f.1 h4; omega⟩
  have hnl : ltI (n : Int) x.names.length = true := ltN (by omega)
  have hpl : placeF x a = some ((ix x.names n).name, stmtTo x.lines (ix x.names n).at_ a x.lines.length, IntKind.i64.wrap (a - (ix x.names n).at_)) := by
    simp [placeF, h1, ← hE, h2, ← hk, h4]
    simp [hn]
  subst hn
  obtain ⟨o, ho⟩ : ∃ o, o = ix x.names n := ⟨_, rfl⟩
  rw [← ho] at hpl
  simp [hnl, idxM, ← ho, DDef.av]
  refine wpS_loopS (ι := Nat) (fun g => [(1, .int .i64 a), (2, .ptr 0 0 0), (10, .ptr 1 1 0), (11, .int .i64 (stmtTo x.lines o.at_ a g)), (12, .int .i64 g)]) (fun g => ⟨[(0, .cells x.av), (1, .cells o.av)], 2⟩) (fun g => x.lines.length - g) (fun g => g ≤ x.lines.length) 0 (Nat.zero_le _) (Sim.of_le (Env.le_of (by simp [stmtTo])) (Mem.le_of rfl (by simp [Img.av, DDef.av]))) ?_
  intro i hi
  have hw : IntKind.i64.wrap (i + 1) = i + 1 := wrap64 (by omega) (by omega)
  simp [Img.av, DDef.av]
  refine br_cond rfl (fun h => ?_) (fun h => ?_)
  · have hlt : i < x.lines.length := by have := ltI_t.1 h; omega
    simp [h, idxM, DLine.av]
    cases h3 : leI (ix x.lines i).at_ a with
    | false =>
      simp [hw]
      exact ⟨i + 1, by omega, by omega, Sim.of_le (Env.le_of (by simp [stmtTo, h3])) (Mem.le_of rfl (by simp))⟩
    | true =>
      simp [h, idxM, DLine.av]
      cases h4 : leI o.at_ (ix x.lines i).at_ with
      | false =>
        simp [hw]
        exact ⟨i + 1, by omega, by omega, Sim.of_le (Env.le_of (by simp [stmtTo, h3, h4])) (Mem.le_of rfl (by simp))⟩
      | true =>
        simp [hw, h, idxM, DLine.av]
        exact ⟨i + 1, by omega, by omega, Sim.of_le (Env.le_of (by simp [stmtTo, h3, h4])) (Mem.le_of rfl (by simp))⟩
  have hid : i = x.lines.length := by have := ltI_f.1 h; omega
  subst hid
  have h' : ltI (x.lines.length : Int) x.lines.length = false := h
  simp [h', cr49, hpl, placeAV]

theorem imgOk_base {x : Img} (h : imgOk x = true) : 0 ≤ x.base ∧ x.base ≤ 65528 := by
  unfold imgOk at h
  simp only [Bool.and_eq_true] at h
  have h1 := h.1.1.1.1
  unfold baseF at h1
  rw [Bool.and_eq_true] at h1
  exact withinF_t h1.1

def placeR (x : Img) (a : Int) : AV := if imgOk x then placeAV false (placeF x a) else .tuple [.str ⟨#[]⟩, .int .i64 0, .int .i64 0, .int .i64 1]

theorem call20 (x : Img) (hx : x.Small) (a : Int) : PCalls Try.prog 20 [.agg x.av, .int .i64 a] fun out => out = .ret (placeR x a) := by
  refine ok20.pcalls (by simp) ?_
  simp [c20, Img.av]
  refine xcall_p (call39 x hx) (by simp [Img.av]) ?_
  cases hi : imgOk x with
  | false => simp [cr20, placeR, hi]
  | true =>
    simp
    refine xcall_p (call48 x hx (imgOk_base hi) a) (by simp [Img.av]) ?_
    cases hp : placeF x a with
    | none => simp [cr20, placeR, hi, hp, placeAV]
    | some r =>
      obtain ⟨n, s, k⟩ := r
      simp [cr20, placeR, hi, hp, placeAV]

theorem call21 (x : Img) (hx : x.Small) (a : Int) : PCalls Try.prog 21 [.agg x.av, .int .i64 a] fun out => out = .ret (placeR x a) := by
  refine ok21.pcalls (by simp) ?_
  simp [c21, Img.av]
  refine xcall_p (call31a x hx) (by simp [Img.av]) ?_
  cases hi : imgOk x with
  | false => simp [cr21, placeR, hi]
  | true =>
    simp
    refine xcall_p (call49 x hx (imgOk_base hi) a) (by simp [Img.av]) ?_
    cases hp : placeF x a with
    | none => simp [cr21, placeR, hi, hp, placeAV]
    | some r =>
      obtain ⟨n, s, k⟩ := r
      simp [cr21, placeR, hi, hp, placeAV]
end Go.Pm
