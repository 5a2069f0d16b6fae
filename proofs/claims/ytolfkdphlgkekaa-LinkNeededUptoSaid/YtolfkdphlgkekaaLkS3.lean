/- LkS3: code, resolved. Written by gen.py out of what ShowSC.lean printed. -/
import Derived.Test.YtolfkdphlgkekaaLkS2
namespace Go.Pm
open Go Go.Proofs

/-- ironbark/ironbarkref34.all -/
def c32 : SC :=
  (.seq (.ops [⟨(some 4), .plain .mv, [.lit (.bool false)], none⟩] [])
  (.seq (.seq (.ops [⟨(some 5), .plain .mv, [.lit (.int .i64 0)], none⟩] [])
  (.block 0
   (.loop
    (.seq (.seq (.ops [⟨(some 8), .plain .mv, [.tmp 5], none⟩,
      ⟨(some 9), .plain .mv, [.tmp 0], none⟩,
      ⟨(some 10), .plain (.len 1), [.tmp 9], none⟩,
      ⟨(some 11), .plain (.bin .lss), [.tmp 8, .tmp 10], none⟩] [8, 9, 10])
    (.cond (.tmp 11)
     .skip
     (.exit 0)))
    (.seq (.block 1
     (.seq (.ops [⟨(some 14), .plain .mv, [.tmp 0], none⟩,
       ⟨(some 15), .plain .mv, [.tmp 5], none⟩,
       ⟨(some 16), .plain (.indexAddr 5), [.tmp 14, .tmp 15], none⟩,
       ⟨(some 17), .plain (.load true 5), [.tmp 16], none⟩,
       ⟨(some 18), .call 63, [.tmp 17], none⟩,
       ⟨(some 19), .plain (.un .not), [.tmp 18], none⟩] [14, 15, 16, 17, 18])
     (.cond (.tmp 19)
      (.seq (.ops [⟨(some 4), .plain .mv, [.lit (.bool false)], none⟩] [])
      .ret)
      .skip)))
    (.ops [⟨(some 12), .plain .mv, [.tmp 5], none⟩,
      ⟨(some 13), .plain (.bin .add), [.tmp 12, .lit (.int .i64 1)], none⟩,
      ⟨(some 5), .plain .mv, [.tmp 13], none⟩] [12, 13]))))))
  (.seq (.seq (.ops [⟨(some 6), .plain .mv, [.lit (.int .i64 0)], none⟩] [])
  (.block 2
   (.loop
    (.seq (.seq (.ops [⟨(some 20), .plain .mv, [.tmp 6], none⟩,
      ⟨(some 21), .plain .mv, [.tmp 1], none⟩,
      ⟨(some 22), .plain (.len 1), [.tmp 21], none⟩,
      ⟨(some 23), .plain (.bin .lss), [.tmp 20, .tmp 22], none⟩] [20, 21, 22])
    (.cond (.tmp 23)
     .skip
     (.exit 2)))
    (.seq (.block 3
     (.seq (.ops [⟨(some 7), .plain .mv, [.lit (.int .i64 0)], none⟩] [])
     (.block 4
      (.loop
       (.seq (.seq (.ops [⟨(some 26), .plain .mv, [.tmp 7], none⟩,
         ⟨(some 27), .plain .mv, [.tmp 1], none⟩,
         ⟨(some 28), .plain .mv, [.tmp 6], none⟩,
         ⟨(some 29), .plain (.indexAddr 1), [.tmp 27, .tmp 28], none⟩,
         ⟨(some 30), .plain (.load false 1), [.tmp 29], none⟩,
         ⟨(some 31), .plain (.len 1), [.tmp 30], none⟩,
         ⟨(some 32), .plain (.bin .lss), [.tmp 26, .tmp 31], none⟩] [26, 27, 28, 29, 30, 31])
       (.cond (.tmp 32)
        .skip
        (.exit 4)))
       (.seq (.block 5
        (.seq (.ops [⟨(some 35), .plain .mv, [.tmp 1], none⟩,
          ⟨(some 36), .plain .mv, [.tmp 6], none⟩,
          ⟨(some 37), .plain (.indexAddr 1), [.tmp 35, .tmp 36], none⟩,
          ⟨(some 38), .plain (.load false 1), [.tmp 37], none⟩,
          ⟨(some 39), .plain .mv, [.tmp 7], none⟩,
          ⟨(some 40), .plain (.indexAddr 5), [.tmp 38, .tmp 39], none⟩,
          ⟨(some 41), .plain (.load true 5), [.tmp 40], none⟩,
          ⟨(some 42), .call 63, [.tmp 41], none⟩,
          ⟨(some 43), .plain (.un .not), [.tmp 42], none⟩] [35, 36, 37, 38, 39, 40, 41, 42])
        (.cond (.tmp 43)
         (.seq (.ops [⟨(some 4), .plain .mv, [.lit (.bool false)], none⟩] [])
         .ret)
         .skip)))
       (.ops [⟨(some 33), .plain .mv, [.tmp 7], none⟩,
         ⟨(some 34), .plain (.bin .add), [.tmp 33, .lit (.int .i64 1)], none⟩,
         ⟨(some 7), .plain .mv, [.tmp 34], none⟩] [33, 34])))))))
    (.ops [⟨(some 24), .plain .mv, [.tmp 6], none⟩,
      ⟨(some 25), .plain (.bin .add), [.tmp 24, .lit (.int .i64 1)], none⟩,
      ⟨(some 6), .plain .mv, [.tmp 25], none⟩] [24, 25]))))))
  (.seq (.ops [⟨(some 4), .plain .mv, [.lit (.bool true)], none⟩] [])
  .ret))))
def cr32 : List Res := [(4, none)]
theorem ok32 : FOk Try.prog Lk.imp 32 c32 cr32 Try.f32.ntmps := ⟨Try.f32, _, Try.func32, rfl, by kernel_rfl, by kernel_rfl, by kernel_rfl, rfl⟩

/-- ironbark/ironbarkref34.defs -/
def c33 : SC :=
  (.seq (.ops [⟨(some 4), .plain .mv, [.lit (.bool false)], none⟩] [])
  (.seq (.seq (.ops [⟨(some 6), .plain .mv, [.tmp 0], none⟩,
    ⟨(some 7), .plain (.len 1), [.tmp 6], none⟩,
    ⟨(some 8), .plain .mv, [.tmp 1], none⟩,
    ⟨(some 9), .plain (.len 1), [.tmp 8], none⟩,
    ⟨(some 10), .plain (.bin .neq), [.tmp 7, .tmp 9], none⟩] [6, 7, 8, 9])
  (.cond (.tmp 10)
   (.seq (.ops [⟨(some 4), .plain .mv, [.lit (.bool false)], none⟩] [])
   .ret)
   .skip))
  (.seq (.seq (.ops [⟨(some 5), .plain .mv, [.lit (.int .i64 0)], none⟩] [])
  (.block 0
   (.loop
    (.seq (.seq (.ops [⟨(some 11), .plain .mv, [.tmp 5], none⟩,
      ⟨(some 12), .plain .mv, [.tmp 0], none⟩,
      ⟨(some 13), .plain (.len 1), [.tmp 12], none⟩,
      ⟨(some 14), .plain (.bin .lss), [.tmp 11, .tmp 13], none⟩] [11, 12, 13])
    (.cond (.tmp 14)
     .skip
     (.exit 0)))
    (.seq (.block 1
     (.seq (.draw (.step ⟨(some 17), .plain .mv, [.tmp 0], none⟩
       (.step ⟨(some 18), .plain .mv, [.tmp 5], none⟩
       (.step ⟨(some 19), .plain (.indexAddr 2), [.tmp 17, .tmp 18], none⟩
       (.step ⟨(some 20), .plain (.load true 2), [.tmp 19], none⟩
       (.step ⟨(some 21), .plain .mv, [.tmp 1], none⟩
       (.step ⟨(some 22), .plain .mv, [.tmp 5], none⟩
       (.step ⟨(some 23), .plain (.indexAddr 2), [.tmp 21, .tmp 22], none⟩
       (.step ⟨(some 24), .plain (.load true 2), [.tmp 23], none⟩
       (.step ⟨(some 25), .plain (.eqAgg true [.str, .int]), [.tmp 20, .tmp 24], none⟩
       .done))))))))) [17, 18, 19, 20, 21, 22, 23, 24])
     (.cond (.tmp 25)
      (.seq (.ops [⟨(some 4), .plain .mv, [.lit (.bool false)], none⟩] [])
      .ret)
      .skip)))
    (.ops [⟨(some 15), .plain .mv, [.tmp 5], none⟩,
      ⟨(some 16), .plain (.bin .add), [.tmp 15, .lit (.int .i64 1)], none⟩,
      ⟨(some 5), .plain .mv, [.tmp 16], none⟩] [15, 16]))))))
  (.seq (.ops [⟨(some 4), .plain .mv, [.lit (.bool true)], none⟩] [])
  .ret))))
def cr33 : List Res := [(4, none)]
theorem ok33 : FOk Try.prog Lk.imp 33 c33 cr33 Try.f33.ntmps := ⟨Try.f33, _, Try.func33, rfl, by kernel_rfl, by kernel_rfl, by kernel_rfl, rfl⟩

/-- ironbark/ironbarkref34.lines -/
def c34 : SC :=
  (.seq (.ops [⟨(some 4), .plain .mv, [.lit (.bool false)], none⟩] [])
  (.seq (.seq (.ops [⟨(some 6), .plain .mv, [.tmp 0], none⟩,
    ⟨(some 7), .plain (.len 1), [.tmp 6], none⟩,
    ⟨(some 8), .plain .mv, [.tmp 1], none⟩,
    ⟨(some 9), .plain (.len 1), [.tmp 8], none⟩,
    ⟨(some 10), .plain (.bin .neq), [.tmp 7, .tmp 9], none⟩] [6, 7, 8, 9])
  (.cond (.tmp 10)
   (.seq (.ops [⟨(some 4), .plain .mv, [.lit (.bool false)], none⟩] [])
   .ret)
   .skip))
  (.seq (.seq (.ops [⟨(some 5), .plain .mv, [.lit (.int .i64 0)], none⟩] [])
  (.block 0
   (.loop
    (.seq (.seq (.ops [⟨(some 11), .plain .mv, [.tmp 5], none⟩,
      ⟨(some 12), .plain .mv, [.tmp 0], none⟩,
      ⟨(some 13), .plain (.len 1), [.tmp 12], none⟩,
      ⟨(some 14), .plain (.bin .lss), [.tmp 11, .tmp 13], none⟩] [11, 12, 13])
    (.cond (.tmp 14)
     .skip
     (.exit 0)))
    (.seq (.block 1
     (.seq (.draw (.step ⟨(some 17), .plain .mv, [.tmp 0], none⟩
       (.step ⟨(some 18), .plain .mv, [.tmp 5], none⟩
       (.step ⟨(some 19), .plain (.indexAddr 2), [.tmp 17, .tmp 18], none⟩
       (.step ⟨(some 20), .plain (.load true 2), [.tmp 19], none⟩
       (.step ⟨(some 21), .plain .mv, [.tmp 1], none⟩
       (.step ⟨(some 22), .plain .mv, [.tmp 5], none⟩
       (.step ⟨(some 23), .plain (.indexAddr 2), [.tmp 21, .tmp 22], none⟩
       (.step ⟨(some 24), .plain (.load true 2), [.tmp 23], none⟩
       (.step ⟨(some 25), .plain (.eqAgg true [.int, .int]), [.tmp 20, .tmp 24], none⟩
       .done))))))))) [17, 18, 19, 20, 21, 22, 23, 24])
     (.cond (.tmp 25)
      (.seq (.ops [⟨(some 4), .plain .mv, [.lit (.bool false)], none⟩] [])
      .ret)
      .skip)))
    (.ops [⟨(some 15), .plain .mv, [.tmp 5], none⟩,
      ⟨(some 16), .plain (.bin .add), [.tmp 15, .lit (.int .i64 1)], none⟩,
      ⟨(some 5), .plain .mv, [.tmp 16], none⟩] [15, 16]))))))
  (.seq (.ops [⟨(some 4), .plain .mv, [.lit (.bool true)], none⟩] [])
  .ret))))
def cr34 : List Res := [(4, none)]
theorem ok34 : FOk Try.prog Lk.imp 34 c34 cr34 Try.f34.ntmps := ⟨Try.f34, _, Try.func34, rfl, by kernel_rfl, by kernel_rfl, by kernel_rfl, rfl⟩

/-- ironbark/ironbarkref34.Same -/
def c15 : SC :=
  (.seq (.ops [⟨(some 2), .plain (.box 5), [.tmp 0], none⟩,
    ⟨(some 3), .plain (.box 5), [.tmp 1], none⟩,
    ⟨(some 4), .plain .mv, [.lit (.bool false)], none⟩] [])
  (.seq (.ops [⟨(some 5), .plain (.fieldAddr 0), [.tmp 2], none⟩,
    ⟨(some 6), .plain (.load false 1), [.tmp 5], none⟩,
    ⟨(some 7), .plain (.fieldAddr 0), [.tmp 3], none⟩,
    ⟨(some 8), .plain (.load false 1), [.tmp 7], none⟩,
    ⟨(some 9), .plain (.bin .eql), [.tmp 6, .tmp 8], none⟩,
    ⟨(some 10), .plain .mv, [.tmp 9], none⟩,
    ⟨(some 11), .plain (.fieldAddr 1), [.tmp 2], (some (10, true))⟩,
    ⟨(some 12), .plain (.load false 1), [.tmp 11], (some (10, true))⟩,
    ⟨(some 13), .plain (.fieldAddr 1), [.tmp 3], (some (10, true))⟩,
    ⟨(some 14), .plain (.load false 1), [.tmp 13], (some (10, true))⟩,
    ⟨(some 15), .plain (.bin .eql), [.tmp 12, .tmp 14], (some (10, true))⟩,
    ⟨(some 16), .plain .pick, [.tmp 10, .tmp 15, .lit (.bool false)], none⟩,
    ⟨(some 17), .plain .mv, [.tmp 16], none⟩,
    ⟨(some 18), .plain (.fieldAddr 2), [.tmp 2], (some (17, true))⟩,
    ⟨(some 19), .plain (.load false 1), [.tmp 18], (some (17, true))⟩,
    ⟨(some 20), .plain (.fieldAddr 2), [.tmp 3], (some (17, true))⟩,
    ⟨(some 21), .plain (.load false 1), [.tmp 20], (some (17, true))⟩,
    ⟨(some 22), .call 33, [.tmp 19, .tmp 21], (some (17, true))⟩,
    ⟨(some 23), .plain .pick, [.tmp 17, .tmp 22, .lit (.bool false)], none⟩,
    ⟨(some 24), .plain .mv, [.tmp 23], none⟩,
    ⟨(some 25), .plain (.fieldAddr 4), [.tmp 2], (some (24, true))⟩,
    ⟨(some 26), .plain (.load false 1), [.tmp 25], (some (24, true))⟩,
    ⟨(some 27), .plain (.fieldAddr 4), [.tmp 3], (some (24, true))⟩,
    ⟨(some 28), .plain (.load false 1), [.tmp 27], (some (24, true))⟩,
    ⟨(some 29), .call 33, [.tmp 26, .tmp 28], (some (24, true))⟩,
    ⟨(some 30), .plain .pick, [.tmp 24, .tmp 29, .lit (.bool false)], none⟩,
    ⟨(some 31), .plain .mv, [.tmp 30], none⟩,
    ⟨(some 32), .plain (.fieldAddr 3), [.tmp 2], (some (31, true))⟩,
    ⟨(some 33), .plain (.load false 1), [.tmp 32], (some (31, true))⟩,
    ⟨(some 34), .plain (.fieldAddr 3), [.tmp 3], (some (31, true))⟩,
    ⟨(some 35), .plain (.load false 1), [.tmp 34], (some (31, true))⟩,
    ⟨(some 36), .call 34, [.tmp 33, .tmp 35], (some (31, true))⟩,
    ⟨(some 37), .plain .pick, [.tmp 31, .tmp 36, .lit (.bool false)], none⟩,
    ⟨(some 4), .plain .mv, [.tmp 37], none⟩] [5, 6, 7, 8, 9, 10, 11, 12, 13, 14, 15, 16, 17, 18, 19, 20, 21, 22, 23, 24, 25, 26, 27, 28, 29, 30, 31, 32, 33, 34, 35, 36, 37])
  .ret))
def cr15 : List Res := [(4, none)]
theorem ok15 : FOk Try.prog Lk.imp 15 c15 cr15 Try.f15.ntmps := ⟨Try.f15, _, Try.func15, rfl, by kernel_rfl, by kernel_rfl, by kernel_rfl, rfl⟩

/-- ironbark/ironbarkref34.Image -/
def c31 : SC :=
  (.seq (.ops [⟨(some 1), .plain (.box 5), [.tmp 0], none⟩,
    ⟨(some 2), .plain .mv, [.lit (.bool false)], none⟩] [])
  (.seq (.ops [⟨(some 7), .plain (.fieldAddr 0), [.tmp 1], none⟩,
    ⟨(some 8), .plain (.load false 1), [.tmp 7], none⟩,
    ⟨(some 9), .plain (.fieldAddr 1), [.tmp 1], none⟩,
    ⟨(some 10), .plain (.load false 1), [.tmp 9], none⟩,
    ⟨(some 11), .plain (.len 0), [.tmp 10], none⟩,
    ⟨(some 12), .plain (.bin .add), [.tmp 8, .tmp 11], none⟩,
    ⟨(some 3), .plain .mv, [.tmp 12], none⟩] [7, 8, 9, 10, 11, 12])
  (.seq (.seq (.ops [⟨(some 13), .plain (.fieldAddr 0), [.tmp 1], none⟩,
    ⟨(some 14), .plain (.load false 1), [.tmp 13], none⟩,
    ⟨(some 15), .call 35, [.tmp 14], none⟩,
    ⟨(some 16), .plain (.un .not), [.tmp 15], none⟩,
    ⟨(some 17), .plain .mv, [.tmp 16], none⟩,
    ⟨(some 18), .plain .mv, [.tmp 3], (some (17, false))⟩,
    ⟨(some 19), .plain (.bin .gtr), [.tmp 18, .lit (.int .i64 65536)], (some (17, false))⟩,
    ⟨(some 20), .plain .pick, [.tmp 17, .lit (.bool true), .tmp 19], none⟩] [13, 14, 15, 16, 17, 18, 19])
  (.cond (.tmp 20)
   (.seq (.ops [⟨(some 2), .plain .mv, [.lit (.bool false)], none⟩] [])
   .ret)
   .skip))
  (.seq (.seq (.ops [⟨(some 4), .plain .mv, [.lit (.int .i64 0)], none⟩] [])
  (.block 0
   (.loop
    (.seq (.seq (.ops [⟨(some 21), .plain .mv, [.tmp 4], none⟩,
      ⟨(some 22), .plain (.fieldAddr 2), [.tmp 1], none⟩,
      ⟨(some 23), .plain (.load false 1), [.tmp 22], none⟩,
      ⟨(some 24), .plain (.len 1), [.tmp 23], none⟩,
      ⟨(some 25), .plain (.bin .lss), [.tmp 21, .tmp 24], none⟩] [21, 22, 23, 24])
    (.cond (.tmp 25)
     .skip
     (.exit 0)))
    (.seq (.block 1
     (.seq (.draw (.step ⟨(some 28), .plain (.fieldAddr 2), [.tmp 1], none⟩
       (.step ⟨(some 29), .plain (.load false 1), [.tmp 28], none⟩
       (.step ⟨(some 30), .plain .mv, [.tmp 4], none⟩
       (.step ⟨(some 31), .plain (.indexAddr 2), [.tmp 29, .tmp 30], none⟩
       (.step ⟨(some 32), .plain (.fieldAddr 0), [.tmp 31], none⟩
       (.step ⟨(some 33), .plain (.load false 1), [.tmp 32], none⟩
       (.step ⟨(some 34), .call 61, [.tmp 33], none⟩
       (.step ⟨(some 35), .plain (.un .not), [.tmp 34], none⟩
       (.step ⟨(some 36), .plain .mv, [.tmp 35], none⟩
       (.step ⟨(some 37), .plain (.fieldAddr 2), [.tmp 1], (some (36, false))⟩
       (.step ⟨(some 38), .plain (.load false 1), [.tmp 37], (some (36, false))⟩
       (.step ⟨(some 39), .plain .mv, [.tmp 4], (some (36, false))⟩
       (.step ⟨(some 40), .plain (.indexAddr 2), [.tmp 38, .tmp 39], (some (36, false))⟩
       (.step ⟨(some 41), .plain (.fieldAddr 1), [.tmp 40], (some (36, false))⟩
       (.step ⟨(some 42), .plain (.load false 1), [.tmp 41], (some (36, false))⟩
       (.step ⟨(some 43), .plain (.fieldAddr 0), [.tmp 1], (some (36, false))⟩
       (.step ⟨(some 44), .plain (.load false 1), [.tmp 43], (some (36, false))⟩
       (.step ⟨(some 45), .plain .mv, [.tmp 3], (some (36, false))⟩
       (.step ⟨(some 46), .call 62, [.tmp 42, .tmp 44, .tmp 45], (some (36, false))⟩
       (.step ⟨(some 47), .plain (.un .not), [.tmp 46], (some (36, false))⟩
       (.step ⟨(some 48), .plain .pick, [.tmp 36, .lit (.bool true), .tmp 47], none⟩
       (.step ⟨(some 49), .plain .mv, [.tmp 48], none⟩
       (.step ⟨(some 50), .plain .mv, [.tmp 4], (some (49, false))⟩
       (.step ⟨(some 51), .plain (.bin .gtr), [.tmp 50, .lit (.int .i64 0)], (some (49, false))⟩
       (.step ⟨(some 52), .plain .mv, [.tmp 51], (some (49, false))⟩
       (.step ⟨(some 53), .plain (.fieldAddr 2), [.tmp 1], (some (52, true))⟩
       (.step ⟨(some 54), .plain (.load false 1), [.tmp 53], (some (52, true))⟩
       (.step ⟨(some 55), .plain .mv, [.tmp 4], (some (52, true))⟩
       (.step ⟨(some 56), .plain (.bin .sub), [.tmp 55, .lit (.int .i64 1)], (some (52, true))⟩
       (.step ⟨(some 57), .plain (.indexAddr 2), [.tmp 54, .tmp 56], (some (52, true))⟩
       (.step ⟨(some 58), .plain (.fieldAddr 0), [.tmp 57], (some (52, true))⟩
       (.step ⟨(some 59), .plain (.load false 1), [.tmp 58], (some (52, true))⟩
       (.step ⟨(some 60), .plain (.fieldAddr 2), [.tmp 1], (some (52, true))⟩
       (.step ⟨(some 61), .plain (.load false 1), [.tmp 60], (some (52, true))⟩
       (.step ⟨(some 62), .plain .mv, [.tmp 4], (some (52, true))⟩
       (.step ⟨(some 63), .plain (.indexAddr 2), [.tmp 61, .tmp 62], (some (52, true))⟩
       (.step ⟨(some 64), .plain (.fieldAddr 0), [.tmp 63], (some (52, true))⟩
       (.step ⟨(some 65), .plain (.load false 1), [.tmp 64], (some (52, true))⟩
       (.step ⟨(some 66), .plain (.bin .geq), [.tmp 59, .tmp 65], (some (52, true))⟩
       (.step ⟨(some 67), .plain .pick, [.tmp 52, .tmp 66, .lit (.bool false)], (some (49, false))⟩
       (.step ⟨(some 68), .plain .pick, [.tmp 49, .lit (.bool true), .tmp 67], none⟩
       .done))))))))))))))))))))))))))))))))))))))))) [28, 29, 30, 31, 32, 33, 34, 35, 36, 37, 38, 39, 40, 41, 42, 43, 44, 45, 46, 47, 48, 49, 50, 51, 52, 53, 54, 55, 56, 57, 58, 59, 60, 61, 62, 63, 64, 65, 66, 67])
     (.cond (.tmp 68)
      (.seq (.ops [⟨(some 2), .plain .mv, [.lit (.bool false)], none⟩] [])
      .ret)
      .skip)))
    (.ops [⟨(some 26), .plain .mv, [.tmp 4], none⟩,
      ⟨(some 27), .plain (.bin .add), [.tmp 26, .lit (.int .i64 1)], none⟩,
      ⟨(some 4), .plain .mv, [.tmp 27], none⟩] [26, 27]))))))
  (.seq (.seq (.ops [⟨(some 5), .plain .mv, [.lit (.int .i64 0)], none⟩] [])
  (.block 2
   (.loop
    (.seq (.seq (.ops [⟨(some 69), .plain .mv, [.tmp 5], none⟩,
      ⟨(some 70), .plain (.fieldAddr 4), [.tmp 1], none⟩,
      ⟨(some 71), .plain (.load false 1), [.tmp 70], none⟩,
      ⟨(some 72), .plain (.len 1), [.tmp 71], none⟩,
      ⟨(some 73), .plain (.bin .lss), [.tmp 69, .tmp 72], none⟩] [69, 70, 71, 72])
    (.cond (.tmp 73)
     .skip
     (.exit 2)))
    (.seq (.block 3
     (.seq (.draw (.step ⟨(some 76), .plain (.fieldAddr 4), [.tmp 1], none⟩
       (.step ⟨(some 77), .plain (.load false 1), [.tmp 76], none⟩
       (.step ⟨(some 78), .plain .mv, [.tmp 5], none⟩
       (.step ⟨(some 79), .plain (.indexAddr 2), [.tmp 77, .tmp 78], none⟩
       (.step ⟨(some 80), .plain (.fieldAddr 0), [.tmp 79], none⟩
       (.step ⟨(some 81), .plain (.load false 1), [.tmp 80], none⟩
       (.step ⟨(some 82), .call 61, [.tmp 81], none⟩
       (.step ⟨(some 83), .plain (.un .not), [.tmp 82], none⟩
       (.step ⟨(some 84), .plain .mv, [.tmp 83], none⟩
       (.step ⟨(some 85), .plain (.fieldAddr 4), [.tmp 1], (some (84, false))⟩
       (.step ⟨(some 86), .plain (.load false 1), [.tmp 85], (some (84, false))⟩
       (.step ⟨(some 87), .plain .mv, [.tmp 5], (some (84, false))⟩
       (.step ⟨(some 88), .plain (.indexAddr 2), [.tmp 86, .tmp 87], (some (84, false))⟩
       (.step ⟨(some 89), .plain (.fieldAddr 1), [.tmp 88], (some (84, false))⟩
       (.step ⟨(some 90), .plain (.load false 1), [.tmp 89], (some (84, false))⟩
       (.step ⟨(some 91), .plain (.fieldAddr 0), [.tmp 1], (some (84, false))⟩
       (.step ⟨(some 92), .plain (.load false 1), [.tmp 91], (some (84, false))⟩
       (.step ⟨(some 93), .plain .mv, [.tmp 3], (some (84, false))⟩
       (.step ⟨(some 94), .call 62, [.tmp 90, .tmp 92, .tmp 93], (some (84, false))⟩
       (.step ⟨(some 95), .plain (.un .not), [.tmp 94], (some (84, false))⟩
       (.step ⟨(some 96), .plain .pick, [.tmp 84, .lit (.bool true), .tmp 95], none⟩
       (.step ⟨(some 97), .plain .mv, [.tmp 96], none⟩
       (.step ⟨(some 98), .plain (.fieldAddr 4), [.tmp 1], (some (97, false))⟩
       (.step ⟨(some 99), .plain (.load false 1), [.tmp 98], (some (97, false))⟩
       (.step ⟨(some 100), .plain .mv, [.tmp 5], (some (97, false))⟩
       (.step ⟨(some 101), .plain (.indexAddr 2), [.tmp 99, .tmp 100], (some (97, false))⟩
       (.step ⟨(some 102), .plain (.fieldAddr 1), [.tmp 101], (some (97, false))⟩
       (.step ⟨(some 103), .plain (.load false 1), [.tmp 102], (some (97, false))⟩
       (.step ⟨(some 104), .plain (.bin .rem), [.tmp 103, .lit (.int .i64 8)], (some (97, false))⟩
       (.step ⟨(some 105), .plain (.bin .neq), [.tmp 104, .lit (.int .i64 0)], (some (97, false))⟩
       (.step ⟨(some 106), .plain .pick, [.tmp 97, .lit (.bool true), .tmp 105], none⟩
       (.step ⟨(some 107), .plain .mv, [.tmp 106], none⟩
       (.step ⟨(some 108), .plain .mv, [.tmp 5], (some (107, false))⟩
       (.step ⟨(some 109), .plain (.bin .gtr), [.tmp 108, .lit (.int .i64 0)], (some (107, false))⟩
       (.step ⟨(some 110), .plain .mv, [.tmp 109], (some (107, false))⟩
       (.step ⟨(some 111), .plain (.fieldAddr 4), [.tmp 1], (some (110, true))⟩
       (.step ⟨(some 112), .plain (.load false 1), [.tmp 111], (some (110, true))⟩
       (.step ⟨(some 113), .plain .mv, [.tmp 5], (some (110, true))⟩
       (.step ⟨(some 114), .plain (.bin .sub), [.tmp 113, .lit (.int .i64 1)], (some (110, true))⟩
       (.step ⟨(some 115), .plain (.indexAddr 2), [.tmp 112, .tmp 114], (some (110, true))⟩
       (.step ⟨(some 116), .plain (.fieldAddr 1), [.tmp 115], (some (110, true))⟩
       (.step ⟨(some 117), .plain (.load false 1), [.tmp 116], (some (110, true))⟩
       (.step ⟨(some 118), .plain (.fieldAddr 4), [.tmp 1], (some (110, true))⟩
       (.step ⟨(some 119), .plain (.load false 1), [.tmp 118], (some (110, true))⟩
       (.step ⟨(some 120), .plain .mv, [.tmp 5], (some (110, true))⟩
       (.step ⟨(some 121), .plain (.indexAddr 2), [.tmp 119, .tmp 120], (some (110, true))⟩
       (.step ⟨(some 122), .plain (.fieldAddr 1), [.tmp 121], (some (110, true))⟩
       (.step ⟨(some 123), .plain (.load false 1), [.tmp 122], (some (110, true))⟩
       (.step ⟨(some 124), .plain (.bin .gtr), [.tmp 117, .tmp 123], (some (110, true))⟩
       (.step ⟨(some 125), .plain .pick, [.tmp 110, .tmp 124, .lit (.bool false)], (some (107, false))⟩
       (.step ⟨(some 126), .plain .pick, [.tmp 107, .lit (.bool true), .tmp 125], none⟩
       .done))))))))))))))))))))))))))))))))))))))))))))))))))) [76, 77, 78, 79, 80, 81, 82, 83, 84, 85, 86, 87, 88, 89, 90, 91, 92, 93, 94, 95, 96, 97, 98, 99, 100, 101, 102, 103, 104, 105, 106, 107, 108, 109, 110, 111, 112, 113, 114, 115, 116, 117, 118, 119, 120, 121, 122, 123, 124, 125])
     (.cond (.tmp 126)
      (.seq (.ops [⟨(some 2), .plain .mv, [.lit (.bool false)], none⟩] [])
      .ret)
      .skip)))
    (.ops [⟨(some 74), .plain .mv, [.tmp 5], none⟩,
      ⟨(some 75), .plain (.bin .add), [.tmp 74, .lit (.int .i64 1)], none⟩,
      ⟨(some 5), .plain .mv, [.tmp 75], none⟩] [74, 75]))))))
  (.seq (.seq (.ops [⟨(some 6), .plain .mv, [.lit (.int .i64 0)], none⟩] [])
  (.block 4
   (.loop
    (.seq (.seq (.ops [⟨(some 127), .plain .mv, [.tmp 6], none⟩,
      ⟨(some 128), .plain (.fieldAddr 3), [.tmp 1], none⟩,
      ⟨(some 129), .plain (.load false 1), [.tmp 128], none⟩,
      ⟨(some 130), .plain (.len 1), [.tmp 129], none⟩,
      ⟨(some 131), .plain (.bin .lss), [.tmp 127, .tmp 130], none⟩] [127, 128, 129, 130])
    (.cond (.tmp 131)
     .skip
     (.exit 4)))
    (.seq (.block 5
     (.seq (.draw (.step ⟨(some 134), .plain (.fieldAddr 3), [.tmp 1], none⟩
       (.step ⟨(some 135), .plain (.load false 1), [.tmp 134], none⟩
       (.step ⟨(some 136), .plain .mv, [.tmp 6], none⟩
       (.step ⟨(some 137), .plain (.indexAddr 2), [.tmp 135, .tmp 136], none⟩
       (.step ⟨(some 138), .plain (.fieldAddr 0), [.tmp 137], none⟩
       (.step ⟨(some 139), .plain (.load false 1), [.tmp 138], none⟩
       (.step ⟨(some 140), .plain (.fieldAddr 0), [.tmp 1], none⟩
       (.step ⟨(some 141), .plain (.load false 1), [.tmp 140], none⟩
       (.step ⟨(some 142), .plain .mv, [.tmp 3], none⟩
       (.step ⟨(some 143), .call 62, [.tmp 139, .tmp 141, .tmp 142], none⟩
       (.step ⟨(some 144), .plain (.un .not), [.tmp 143], none⟩
       (.step ⟨(some 145), .plain .mv, [.tmp 144], none⟩
       (.step ⟨(some 146), .plain .mv, [.tmp 6], (some (145, false))⟩
       (.step ⟨(some 147), .plain (.bin .gtr), [.tmp 146, .lit (.int .i64 0)], (some (145, false))⟩
       (.step ⟨(some 148), .plain .mv, [.tmp 147], (some (145, false))⟩
       (.step ⟨(some 149), .plain (.fieldAddr 3), [.tmp 1], (some (148, true))⟩
       (.step ⟨(some 150), .plain (.load false 1), [.tmp 149], (some (148, true))⟩
       (.step ⟨(some 151), .plain .mv, [.tmp 6], (some (148, true))⟩
       (.step ⟨(some 152), .plain (.bin .sub), [.tmp 151, .lit (.int .i64 1)], (some (148, true))⟩
       (.step ⟨(some 153), .plain (.indexAddr 2), [.tmp 150, .tmp 152], (some (148, true))⟩
       (.step ⟨(some 154), .plain (.fieldAddr 0), [.tmp 153], (some (148, true))⟩
       (.step ⟨(some 155), .plain (.load false 1), [.tmp 154], (some (148, true))⟩
       (.step ⟨(some 156), .plain (.fieldAddr 3), [.tmp 1], (some (148, true))⟩
       (.step ⟨(some 157), .plain (.load false 1), [.tmp 156], (some (148, true))⟩
       (.step ⟨(some 158), .plain .mv, [.tmp 6], (some (148, true))⟩
       (.step ⟨(some 159), .plain (.indexAddr 2), [.tmp 157, .tmp 158], (some (148, true))⟩
       (.step ⟨(some 160), .plain (.fieldAddr 0), [.tmp 159], (some (148, true))⟩
       (.step ⟨(some 161), .plain (.load false 1), [.tmp 160], (some (148, true))⟩
       (.step ⟨(some 162), .plain (.bin .geq), [.tmp 155, .tmp 161], (some (148, true))⟩
       (.step ⟨(some 163), .plain .pick, [.tmp 148, .tmp 162, .lit (.bool false)], (some (145, false))⟩
       (.step ⟨(some 164), .plain .pick, [.tmp 145, .lit (.bool true), .tmp 163], none⟩
       .done))))))))))))))))))))))))))))))) [134, 135, 136, 137, 138, 139, 140, 141, 142, 143, 144, 145, 146, 147, 148, 149, 150, 151, 152, 153, 154, 155, 156, 157, 158, 159, 160, 161, 162, 163])
     (.cond (.tmp 164)
      (.seq (.ops [⟨(some 2), .plain .mv, [.lit (.bool false)], none⟩] [])
      .ret)
      .skip)))
    (.ops [⟨(some 132), .plain .mv, [.tmp 6], none⟩,
      ⟨(some 133), .plain (.bin .add), [.tmp 132, .lit (.int .i64 1)], none⟩,
      ⟨(some 6), .plain .mv, [.tmp 133], none⟩] [132, 133]))))))
  (.seq (.ops [⟨(some 2), .plain .mv, [.lit (.bool true)], none⟩] [])
  .ret)))))))
def cr31 : List Res := [(2, none)]
theorem ok31 : FOk Try.prog Lk.imp 31 c31 cr31 Try.f31.ntmps := ⟨Try.f31, _, Try.func31, rfl, by kernel_rfl, by kernel_rfl, by kernel_rfl, rfl⟩

/-- ironbark/ironbarkref34.Defs -/
def c64 : SC :=
  (.seq (.ops [⟨(some 1), .plain (.box 5), [.tmp 0], none⟩,
    ⟨(some 2), .plain .mv, [.lit .nilS], none⟩] [])
  (.seq (.ops [⟨(some 5), .plain (.fieldAddr 2), [.tmp 1], none⟩,
    ⟨(some 6), .plain (.load false 1), [.tmp 5], none⟩,
    ⟨(some 7), .plain (.append 40 2 24), [.lit .nilS, .tmp 6], none⟩,
    ⟨(some 3), .plain .mv, [.tmp 7], none⟩] [5, 6, 7])
  (.seq (.seq (.ops [⟨(some 4), .plain .mv, [.lit (.int .i64 0)], none⟩] [])
  (.block 0
   (.loop
    (.seq (.seq (.ops [⟨(some 8), .plain .mv, [.tmp 4], none⟩,
      ⟨(some 9), .plain .mv, [.tmp 3], none⟩,
      ⟨(some 10), .plain (.len 1), [.tmp 9], none⟩,
      ⟨(some 11), .plain (.bin .lss), [.tmp 8, .tmp 10], none⟩] [8, 9, 10])
    (.cond (.tmp 11)
     .skip
     (.exit 0)))
    (.seq (.block 1
     (.seq (.draw (.step ⟨(some 14), .plain .mv, [.tmp 3], none⟩
       (.step ⟨(some 15), .plain .mv, [.tmp 4], none⟩
       (.step ⟨(some 16), .plain (.indexAddr 2), [.tmp 14, .tmp 15], none⟩
       (.step ⟨(some 17), .plain (.fieldAddr 0), [.tmp 16], none⟩
       (.step ⟨(some 18), .plain (.load false 1), [.tmp 17], none⟩
       (.step ⟨(some 19), .plain (.fieldAddr 0), [.tmp 1], none⟩
       (.step ⟨(some 20), .plain (.load false 1), [.tmp 19], none⟩
       (.step ⟨(some 21), .plain (.bin .eql), [.tmp 18, .tmp 20], none⟩
       .done)))))))) [14, 15, 16, 17, 18, 19, 20])
     (.cond (.tmp 21)
      (.seq (.ops [⟨(some 22), .plain .mv, [.tmp 3], none⟩,
        ⟨(some 2), .plain .mv, [.tmp 22], none⟩] [22])
      .ret)
      .skip)))
    (.ops [⟨(some 12), .plain .mv, [.tmp 4], none⟩,
      ⟨(some 13), .plain (.bin .add), [.tmp 12, .lit (.int .i64 1)], none⟩,
      ⟨(some 4), .plain .mv, [.tmp 13], none⟩] [12, 13]))))))
  (.seq (.ops [⟨(some 23), .plain .mv, [.tmp 3], none⟩,
    ⟨(some 24), .plain (.fieldAddr 0), [.tmp 1], none⟩,
    ⟨(some 25), .plain (.load false 1), [.tmp 24], none⟩,
    ⟨(some 26), .plain (.build [(.str ⟨#[]⟩), (.int .i64 0)] [(0, 1)]), [.tmp 25], none⟩,
    ⟨(some 27), .plain (.buildRow 40 2 1 [(.str ⟨#[]⟩), (.int .i64 0)] [0]), [.tmp 26], none⟩,
    ⟨(some 28), .plain (.append 40 2 24), [.tmp 23, .tmp 27], none⟩,
    ⟨(some 2), .plain .mv, [.tmp 28], none⟩] [23, 24, 25, 26, 27, 28])
  .ret))))
def cr64 : List Res := [(2, none)]
theorem ok64 : FOk Try.prog Lk.imp 64 c64 cr64 Try.f64.ntmps := ⟨Try.f64, _, Try.func64, rfl, by kernel_rfl, by kernel_rfl, by kernel_rfl, rfl⟩

/-- ironbark/ironbarkref34.outer -/
def c65 : SC :=
  (.seq (.ops [⟨(some 4), .plain .mv, [.lit (.int .i64 0)], none⟩,
    ⟨(some 5), .plain .mv, [.lit (.bool false)], none⟩] [])
  (.seq (.seq (.ops [⟨(some 6), .plain .mv, [.lit (.int .i64 0)], none⟩] [])
  (.block 0
   (.loop
    (.seq (.seq (.ops [⟨(some 7), .plain .mv, [.tmp 6], none⟩,
      ⟨(some 8), .plain .mv, [.tmp 0], none⟩,
      ⟨(some 9), .plain (.len 1), [.tmp 8], none⟩,
      ⟨(some 10), .plain (.bin .lss), [.tmp 7, .tmp 9], none⟩] [7, 8, 9])
    (.cond (.tmp 10)
     .skip
     (.exit 0)))
    (.seq (.block 1
     (.seq (.ops [⟨(some 13), .plain .mv, [.tmp 0], none⟩,
       ⟨(some 14), .plain .mv, [.tmp 6], none⟩,
       ⟨(some 15), .plain (.indexAddr 2), [.tmp 13, .tmp 14], none⟩,
       ⟨(some 16), .plain (.fieldAddr 0), [.tmp 15], none⟩,
       ⟨(some 17), .plain (.load false 1), [.tmp 16], none⟩,
       ⟨(some 18), .plain .mv, [.tmp 1], none⟩,
       ⟨(some 19), .plain (.bin .eql), [.tmp 17, .tmp 18], none⟩] [13, 14, 15, 16, 17, 18])
     (.cond (.tmp 19)
      (.seq (.ops [⟨(some 20), .plain .mv, [.tmp 0], none⟩,
        ⟨(some 21), .plain .mv, [.tmp 6], none⟩,
        ⟨(some 22), .plain (.indexAddr 2), [.tmp 20, .tmp 21], none⟩,
        ⟨(some 23), .plain (.fieldAddr 1), [.tmp 22], none⟩,
        ⟨(some 24), .plain (.load false 1), [.tmp 23], none⟩,
        ⟨(some 4), .plain .mv, [.tmp 24], none⟩,
        ⟨(some 5), .plain .mv, [.lit (.bool true)], none⟩] [20, 21, 22, 23, 24])
      .ret)
      .skip)))
    (.ops [⟨(some 11), .plain .mv, [.tmp 6], none⟩,
      ⟨(some 12), .plain (.bin .add), [.tmp 11, .lit (.int .i64 1)], none⟩,
      ⟨(some 6), .plain .mv, [.tmp 12], none⟩] [11, 12]))))))
  (.seq (.ops [⟨(some 4), .plain .mv, [.lit (.int .i64 0)], none⟩,
    ⟨(some 5), .plain .mv, [.lit (.bool false)], none⟩] [])
  .ret)))
def cr65 : List Res := [(4, none), (5, none)]
theorem ok65 : FOk Try.prog Lk.imp 65 c65 cr65 Try.f65.ntmps := ⟨Try.f65, _, Try.func65, rfl, by kernel_rfl, by kernel_rfl, by kernel_rfl, rfl⟩

/-- ironbark/ironbarkref34.known -/
def c66 : SC :=
  (.seq (.ops [⟨(some 4), .plain .mv, [.lit (.bool false)], none⟩] [])
  (.seq (.seq (.ops [⟨(some 5), .plain .mv, [.lit (.int .i64 0)], none⟩] [])
  (.block 0
   (.loop
    (.seq (.seq (.ops [⟨(some 6), .plain .mv, [.tmp 5], none⟩,
      ⟨(some 7), .plain .mv, [.tmp 0], none⟩,
      ⟨(some 8), .plain (.len 1), [.tmp 7], none⟩,
      ⟨(some 9), .plain (.bin .lss), [.tmp 6, .tmp 8], none⟩] [6, 7, 8])
    (.cond (.tmp 9)
     .skip
     (.exit 0)))
    (.seq (.block 1
     (.seq (.ops [⟨(some 12), .plain .mv, [.tmp 0], none⟩,
       ⟨(some 13), .plain .mv, [.tmp 5], none⟩,
       ⟨(some 14), .plain (.indexAddr 5), [.tmp 12, .tmp 13], none⟩,
       ⟨(some 15), .plain (.load true 5), [.tmp 14], none⟩,
       ⟨(some 16), .plain .mv, [.tmp 1], none⟩,
       ⟨(some 17), .call 83, [.tmp 15, .tmp 16], none⟩] [12, 13, 14, 15, 16])
     (.cond (.tmp 17)
      (.seq (.ops [⟨(some 4), .plain .mv, [.lit (.bool true)], none⟩] [])
      .ret)
      .skip)))
    (.ops [⟨(some 10), .plain .mv, [.tmp 5], none⟩,
      ⟨(some 11), .plain (.bin .add), [.tmp 10, .lit (.int .i64 1)], none⟩,
      ⟨(some 5), .plain .mv, [.tmp 11], none⟩] [10, 11]))))))
  (.seq (.ops [⟨(some 4), .plain .mv, [.lit (.bool false)], none⟩] [])
  .ret)))
def cr66 : List Res := [(4, none)]
theorem ok66 : FOk Try.prog Lk.imp 66 c66 cr66 Try.f66.ntmps := ⟨Try.f66, _, Try.func66, rfl, by kernel_rfl, by kernel_rfl, by kernel_rfl, rfl⟩

/-- ironbark/ironbarkref34.defines -/
def c83 : SC :=
  (.seq (.ops [⟨(some 2), .plain (.box 5), [.tmp 0], none⟩,
    ⟨(some 4), .plain .mv, [.lit (.bool false)], none⟩] [])
  (.seq (.ops [⟨(some 7), .plain (.load true 5), [.tmp 2], none⟩,
    ⟨(some 8), .call 64, [.tmp 7], none⟩,
    ⟨(some 5), .plain .mv, [.tmp 8], none⟩] [7, 8])
  (.seq (.seq (.ops [⟨(some 6), .plain .mv, [.lit (.int .i64 0)], none⟩] [])
  (.block 0
   (.loop
    (.seq (.seq (.ops [⟨(some 9), .plain .mv, [.tmp 6], none⟩,
      ⟨(some 10), .plain .mv, [.tmp 5], none⟩,
      ⟨(some 11), .plain (.len 1), [.tmp 10], none⟩,
      ⟨(some 12), .plain (.bin .lss), [.tmp 9, .tmp 11], none⟩] [9, 10, 11])
    (.cond (.tmp 12)
     .skip
     (.exit 0)))
    (.seq (.block 1
     (.seq (.ops [⟨(some 15), .plain .mv, [.tmp 5], none⟩,
       ⟨(some 16), .plain .mv, [.tmp 6], none⟩,
       ⟨(some 17), .plain (.indexAddr 2), [.tmp 15, .tmp 16], none⟩,
       ⟨(some 18), .plain (.fieldAddr 0), [.tmp 17], none⟩,
       ⟨(some 19), .plain (.load false 1), [.tmp 18], none⟩,
       ⟨(some 20), .plain .mv, [.tmp 1], none⟩,
       ⟨(some 21), .plain (.bin .eql), [.tmp 19, .tmp 20], none⟩] [15, 16, 17, 18, 19, 20])
     (.cond (.tmp 21)
      (.seq (.ops [⟨(some 4), .plain .mv, [.lit (.bool true)], none⟩] [])
      .ret)
      .skip)))
    (.ops [⟨(some 13), .plain .mv, [.tmp 6], none⟩,
      ⟨(some 14), .plain (.bin .add), [.tmp 13, .lit (.int .i64 1)], none⟩,
      ⟨(some 6), .plain .mv, [.tmp 14], none⟩] [13, 14]))))))
  (.seq (.ops [⟨(some 4), .plain .mv, [.lit (.bool false)], none⟩] [])
  .ret))))
def cr83 : List Res := [(4, none)]
theorem ok83 : FOk Try.prog Lk.imp 83 c83 cr83 Try.f83.ntmps := ⟨Try.f83, _, Try.func83, rfl, by kernel_rfl, by kernel_rfl, by kernel_rfl, rfl⟩

/-- ironbark/ironbarkref34.found -/
def c67 : SC :=
  (.seq (.ops [⟨(some 6), .plain (.alloc [(.str ⟨#[]⟩), (.str ⟨#[]⟩), .nilS, .nilS, .nilS]), [], none⟩,
    ⟨(some 7), .plain .mv, [.lit (.bool false)], none⟩] [])
  (.seq (.seq (.ops [⟨(some 8), .plain .mv, [.lit (.int .i64 0)], none⟩] [])
  (.block 0
   (.loop
    (.seq (.seq (.ops [⟨(some 13), .plain .mv, [.tmp 8], none⟩,
      ⟨(some 14), .plain .mv, [.tmp 1], none⟩,
      ⟨(some 15), .plain (.len 1), [.tmp 14], none⟩,
      ⟨(some 16), .plain (.bin .lss), [.tmp 13, .tmp 15], none⟩] [13, 14, 15])
    (.cond (.tmp 16)
     .skip
     (.exit 0)))
    (.seq (.block 1
     (.seq (.ops [⟨(some 9), .plain .mv, [.lit (.int .i64 0)], none⟩] [])
     (.block 2
      (.loop
       (.seq (.seq (.ops [⟨(some 19), .plain .mv, [.tmp 9], none⟩,
         ⟨(some 20), .plain .mv, [.tmp 1], none⟩,
         ⟨(some 21), .plain .mv, [.tmp 8], none⟩,
         ⟨(some 22), .plain (.indexAddr 1), [.tmp 20, .tmp 21], none⟩,
         ⟨(some 23), .plain (.load false 1), [.tmp 22], none⟩,
         ⟨(some 24), .plain (.len 1), [.tmp 23], none⟩,
         ⟨(some 25), .plain (.bin .lss), [.tmp 19, .tmp 24], none⟩] [19, 20, 21, 22, 23, 24])
       (.cond (.tmp 25)
        .skip
        (.exit 2)))
       (.seq (.block 3
        (.seq (.ops [⟨(some 28), .plain .mv, [.tmp 1], none⟩,
          ⟨(some 29), .plain .mv, [.tmp 8], none⟩,
          ⟨(some 30), .plain (.indexAddr 1), [.tmp 28, .tmp 29], none⟩,
          ⟨(some 31), .plain (.load false 1), [.tmp 30], none⟩,
          ⟨(some 32), .plain .mv, [.tmp 9], none⟩,
          ⟨(some 33), .plain (.indexAddr 5), [.tmp 31, .tmp 32], none⟩,
          ⟨(some 34), .plain (.load true 5), [.tmp 33], none⟩,
          ⟨(some 10), .plain (.alloc [(.str ⟨#[]⟩), (.str ⟨#[]⟩), .nilS, .nilS, .nilS]), [], none⟩,
          ⟨none, .plain (.store 5), [.tmp 10, .tmp 34], none⟩] [28, 29, 30, 31, 32, 33, 34])
        (.seq (.ops [⟨(some 11), .plain .mv, [.lit (.bool false)], none⟩] [])
        (.seq (.seq (.ops [⟨(some 12), .plain .mv, [.lit (.int .i64 0)], none⟩] [])
        (.block 4
         (.loop
          (.seq (.seq (.ops [⟨(some 35), .plain .mv, [.tmp 12], none⟩,
            ⟨(some 36), .plain .mv, [.tmp 0], none⟩,
            ⟨(some 37), .plain (.len 1), [.tmp 36], none⟩,
            ⟨(some 38), .plain (.bin .lss), [.tmp 35, .tmp 37], none⟩] [35, 36, 37])
          (.cond (.tmp 38)
           .skip
           (.exit 4)))
          (.seq (.block 5
           (.draw (.step ⟨(some 41), .plain .mv, [.tmp 11], none⟩
             (.step ⟨(some 42), .plain .mv, [.tmp 41], none⟩
             (.step ⟨(some 43), .plain .mv, [.tmp 0], (some (42, false))⟩
             (.step ⟨(some 44), .plain .mv, [.tmp 12], (some (42, false))⟩
             (.step ⟨(some 45), .plain (.indexAddr 5), [.tmp 43, .tmp 44], (some (42, false))⟩
             (.step ⟨(some 46), .plain (.fieldAddr 0), [.tmp 45], (some (42, false))⟩
             (.step ⟨(some 47), .plain (.load false 1), [.tmp 46], (some (42, false))⟩
             (.step ⟨(some 48), .plain (.fieldAddr 0), [.tmp 10], (some (42, false))⟩
             (.step ⟨(some 49), .plain (.load false 1), [.tmp 48], (some (42, false))⟩
             (.step ⟨(some 50), .plain (.bin .eql), [.tmp 47, .tmp 49], (some (42, false))⟩
             (.step ⟨(some 51), .plain .pick, [.tmp 42, .lit (.bool true), .tmp 50], none⟩
             (.step ⟨(some 11), .plain .mv, [.tmp 51], none⟩
             .done)))))))))))) [41, 42, 43, 44, 45, 46, 47, 48, 49, 50, 51]))
          (.ops [⟨(some 39), .plain .mv, [.tmp 12], none⟩,
            ⟨(some 40), .plain (.bin .add), [.tmp 39, .lit (.int .i64 1)], none⟩,
            ⟨(some 12), .plain .mv, [.tmp 40], none⟩] [39, 40]))))))
        (.seq (.ops [⟨(some 52), .plain .mv, [.tmp 11], none⟩,
          ⟨(some 53), .plain (.un .not), [.tmp 52], none⟩,
          ⟨(some 54), .plain .mv, [.tmp 53], none⟩,
          ⟨(some 55), .plain (.load true 5), [.tmp 10], (some (54, true))⟩,
          ⟨(some 56), .plain .mv, [.tmp 2], (some (54, true))⟩,
          ⟨(some 57), .call 83, [.tmp 55, .tmp 56], (some (54, true))⟩,
          ⟨(some 58), .plain .pick, [.tmp 54, .tmp 57, .lit (.bool false)], none⟩] [52, 53, 54, 55, 56, 57])
        (.cond (.tmp 58)
         (.seq (.ops [⟨(some 59), .plain (.load true 5), [.tmp 10], none⟩,
           ⟨none, .plain (.store 5), [.tmp 6, .tmp 59], none⟩,
           ⟨(some 7), .plain .mv, [.lit (.bool true)], none⟩] [59])
         .ret)
         .skip))))))
       (.ops [⟨(some 26), .plain .mv, [.tmp 9], none⟩,
         ⟨(some 27), .plain (.bin .add), [.tmp 26, .lit (.int .i64 1)], none⟩,
         ⟨(some 9), .plain .mv, [.tmp 27], none⟩] [26, 27])))))))
    (.ops [⟨(some 17), .plain .mv, [.tmp 8], none⟩,
      ⟨(some 18), .plain (.bin .add), [.tmp 17, .lit (.int .i64 1)], none⟩,
      ⟨(some 8), .plain .mv, [.tmp 18], none⟩] [17, 18]))))))
  (.seq (.ops [⟨(some 60), .plain (.build [(.str ⟨#[]⟩), (.str ⟨#[]⟩), .nilS, .nilS, .nilS] []), [], none⟩,
    ⟨none, .plain (.store 5), [.tmp 6, .tmp 60], none⟩,
    ⟨(some 7), .plain .mv, [.lit (.bool false)], none⟩] [60])
  .ret)))
def cr67 : List Res := [(6, some (true, 5)), (7, none)]
theorem ok67 : FOk Try.prog Lk.imp 67 c67 cr67 Try.f67.ntmps := ⟨Try.f67, _, Try.func67, rfl, by kernel_rfl, by kernel_rfl, by kernel_rfl, rfl⟩

/-- ironbark/link.defs -/
def c54 : SC :=
  (.seq (.ops [⟨(some 1), .plain (.box 5), [.tmp 0], none⟩,
    ⟨(some 2), .plain .mv, [.lit .nilS], none⟩] [])
  (.seq (.seq (.ops [⟨(some 3), .plain (.fieldAddr 2), [.tmp 1], none⟩,
    ⟨(some 4), .plain (.load false 1), [.tmp 3], none⟩,
    ⟨(some 5), .plain (.mkFn 79), [.tmp 1], none⟩,
    ⟨(some 6), .call 78, [.tmp 4, .tmp 5], none⟩] [3, 4, 5])
  (.cond (.tmp 6)
   (.seq (.ops [⟨(some 7), .plain (.fieldAddr 2), [.tmp 1], none⟩,
     ⟨(some 8), .plain (.load false 1), [.tmp 7], none⟩,
     ⟨(some 2), .plain .mv, [.tmp 8], none⟩] [7, 8])
   .ret)
   .skip))
  (.seq (.ops [⟨(some 9), .plain (.fieldAddr 0), [.tmp 1], none⟩,
    ⟨(some 10), .plain (.load false 1), [.tmp 9], none⟩,
    ⟨(some 11), .plain (.build [(.str ⟨#[]⟩), (.int .i64 0)] [(0, 1)]), [.tmp 10], none⟩,
    ⟨(some 12), .plain (.buildRow 40 2 1 [(.str ⟨#[]⟩), (.int .i64 0)] [0]), [.tmp 11], none⟩,
    ⟨(some 13), .plain (.fieldAddr 2), [.tmp 1], none⟩,
    ⟨(some 14), .plain (.load false 1), [.tmp 13], none⟩,
    ⟨(some 15), .plain (.append 40 2 24), [.tmp 12, .tmp 14], none⟩,
    ⟨(some 2), .plain .mv, [.tmp 15], none⟩] [9, 10, 11, 12, 13, 14, 15])
  .ret)))
def cr54 : List Res := [(2, none)]
theorem ok54 : FOk Try.prog Lk.imp 54 c54 cr54 Try.f54.ntmps := ⟨Try.f54, _, Try.func54, rfl, by kernel_rfl, by kernel_rfl, by kernel_rfl, rfl⟩

/-- slices.ContainsFunc[[]ironbark/api.Def,ironbark/api.Def] -/
def c78 : SC :=
  (.seq (.ops [⟨(some 4), .plain .mv, [.lit (.bool false)], none⟩] [])
  (.seq (.ops [⟨(some 5), .plain .mv, [.tmp 0], none⟩,
    ⟨(some 6), .plain .mv, [.tmp 1], none⟩,
    ⟨(some 7), .call 98, [.tmp 5, .tmp 6], none⟩,
    ⟨(some 8), .plain (.bin .geq), [.tmp 7, .lit (.int .i64 0)], none⟩,
    ⟨(some 4), .plain .mv, [.tmp 8], none⟩] [5, 6, 7, 8])
  .ret))
def cr78 : List Res := [(4, none)]
theorem ok78 : FOk Try.prog Lk.imp 78 c78 cr78 Try.f78.ntmps := ⟨Try.f78, _, Try.func78, rfl, by kernel_rfl, by kernel_rfl, by kernel_rfl, rfl⟩

/-- ironbark/link.defs$1 -/
def c79 : SC :=
  (.seq (.ops [⟨(some 2), .plain (.box 2), [.tmp 0], none⟩,
    ⟨(some 3), .plain .mv, [.lit (.bool false)], none⟩] [])
  (.seq (.ops [⟨(some 4), .plain (.fieldAddr 0), [.tmp 2], none⟩,
    ⟨(some 5), .plain (.load false 1), [.tmp 4], none⟩,
    ⟨(some 6), .plain (.fieldAddr 0), [.tmp 1], none⟩,
    ⟨(some 7), .plain (.load false 1), [.tmp 6], none⟩,
    ⟨(some 8), .plain (.bin .eql), [.tmp 5, .tmp 7], none⟩,
    ⟨(some 3), .plain .mv, [.tmp 8], none⟩] [4, 5, 6, 7, 8])
  .ret))
def cr79 : List Res := [(3, none)]
theorem ok79 : FOk Try.prog Lk.imp 79 c79 cr79 Try.f79.ntmps := ⟨Try.f79, _, Try.func79, rfl, by kernel_rfl, by kernel_rfl, by kernel_rfl, rfl⟩

/-- slices.Contains[[]string,string] -/
def c80 : SC :=
  (.seq (.ops [⟨(some 4), .plain .mv, [.lit (.bool false)], none⟩] [])
  (.seq (.ops [⟨(some 5), .plain .mv, [.tmp 0], none⟩,
    ⟨(some 6), .plain .mv, [.tmp 1], none⟩,
    ⟨(some 7), .call 99, [.tmp 5, .tmp 6], none⟩,
    ⟨(some 8), .plain (.bin .geq), [.tmp 7, .lit (.int .i64 0)], none⟩,
    ⟨(some 4), .plain .mv, [.tmp 8], none⟩] [5, 6, 7, 8])
  .ret))
def cr80 : List Res := [(4, none)]
theorem ok80 : FOk Try.prog Lk.imp 80 c80 cr80 Try.f80.ntmps := ⟨Try.f80, _, Try.func80, rfl, by kernel_rfl, by kernel_rfl, by kernel_rfl, rfl⟩

end Go.Pm
