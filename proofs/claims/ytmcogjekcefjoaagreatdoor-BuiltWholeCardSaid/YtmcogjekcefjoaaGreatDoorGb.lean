/- BkS1: code, resolved. Printed by ShowSC.lean and genok.py. -/
import Derived.Test.YtmcogjekcefjoaaGreatDoorGa
namespace Go.Pm
open Go Go.Proofs

/-- ironbark/digit.of -/
def c52 : SC :=
  (.seq (.ops [⟨(some 2), .plain .mv, [.lit .nilS], none⟩] [])
  (.seq (.ops [⟨(some 3), .plain .mv, [.lit .nilS], none⟩] [])
  (.seq (.block 0
   (.loop
    (.seq (.seq (.ops [⟨(some 4), .plain .mv, [.tmp 0], none⟩,
      ⟨(some 5), .plain (.bin .gtr), [.tmp 4, .lit (.int .i64 0)], none⟩] [4])
    (.cond (.tmp 5)
     .skip
     (.exit 0)))
    (.seq (.block 1
     (.ops [⟨(some 8), .plain .mv, [.tmp 3], none⟩,
       ⟨(some 9), .plain .mv, [.tmp 0], none⟩,
       ⟨(some 10), .plain (.bin .rem), [.tmp 9, .lit (.int .i64 10)], none⟩,
       ⟨(some 11), .plain (.convInt .u8), [.tmp 10], none⟩,
       ⟨(some 12), .plain (.buildRow 5 1 1 [(.int .u8 0)] [0]), [.tmp 11], none⟩,
       ⟨(some 13), .plain (.append 5 1 1), [.tmp 8, .tmp 12], none⟩,
       ⟨(some 3), .plain .mv, [.tmp 13], none⟩] [8, 9, 10, 11, 12, 13]))
    (.ops [⟨(some 6), .plain .mv, [.tmp 0], none⟩,
      ⟨(some 7), .plain (.bin .quo), [.tmp 6, .lit (.int .i64 10)], none⟩,
      ⟨(some 0), .plain .mv, [.tmp 7], none⟩] [6, 7])))))
  (.seq (.ops [⟨(some 14), .plain .mv, [.tmp 3], none⟩,
    ⟨(some 2), .plain .mv, [.tmp 14], none⟩] [14])
  .ret))))
def cr52 : List Res := [(2, none)]
theorem ok52 : FOk Bk.pg.toProgram Bk.imp 52 c52 cr52 Tryz.f52.ntmps := ⟨Tryz.f52, _, Tryz.func52, rfl, by kernel_rfl, by kernel_rfl, by kernel_rfl, rfl⟩

/-- (ironbark/digit.limbs).trimmed -/
def c259 : SC :=
  (.seq (.ops [⟨(some 2), .plain .mv, [.lit .nilS], none⟩] [])
  (.seq (.block 0
   (.loop
    (.seq (.seq (.ops [⟨(some 3), .plain .mv, [.tmp 0], none⟩,
      ⟨(some 4), .plain (.len 1), [.tmp 3], none⟩,
      ⟨(some 5), .plain (.bin .gtr), [.tmp 4, .lit (.int .i64 0)], none⟩,
      ⟨(some 6), .plain .mv, [.tmp 5], none⟩,
      ⟨(some 7), .plain .mv, [.tmp 0], (some (6, true))⟩,
      ⟨(some 8), .plain .mv, [.tmp 0], (some (6, true))⟩,
      ⟨(some 9), .plain (.len 1), [.tmp 8], (some (6, true))⟩,
      ⟨(some 10), .plain (.bin .sub), [.tmp 9, .lit (.int .i64 1)], (some (6, true))⟩,
      ⟨(some 11), .plain (.indexAddr 1), [.tmp 7, .tmp 10], (some (6, true))⟩,
      ⟨(some 12), .plain (.load false 1), [.tmp 11], (some (6, true))⟩,
      ⟨(some 13), .plain (.bin .eql), [.tmp 12, .lit (.int .u8 0)], (some (6, true))⟩,
      ⟨(some 14), .plain .pick, [.tmp 6, .tmp 13, .lit (.bool false)], none⟩] [3, 4, 5, 6, 7, 8, 9, 10, 11, 12, 13])
    (.cond (.tmp 14)
     .skip
     (.exit 0)))
    (.block 1
     (.ops [⟨(some 15), .plain .mv, [.tmp 0], none⟩,
       ⟨(some 16), .plain .mv, [.tmp 0], none⟩,
       ⟨(some 17), .plain (.len 1), [.tmp 16], none⟩,
       ⟨(some 18), .plain (.bin .sub), [.tmp 17, .lit (.int .i64 1)], none⟩,
       ⟨(some 19), .plain (.slice false true 1), [.tmp 15, .tmp 18], none⟩,
       ⟨(some 0), .plain .mv, [.tmp 19], none⟩] [15, 16, 17, 18, 19])))))
  (.seq (.ops [⟨(some 20), .plain .mv, [.tmp 0], none⟩,
    ⟨(some 2), .plain .mv, [.tmp 20], none⟩] [20])
  .ret)))
def cr259 : List Res := [(2, none)]
theorem ok259 : FOk Bk.pg.toProgram Bk.imp 259 c259 cr259 Tryz.f259.ntmps := ⟨Tryz.f259, _, Tryz.func259, rfl, by kernel_rfl, by kernel_rfl, by kernel_rfl, rfl⟩

/-- ironbark/digit.times -/
def c254 : SC :=
  (.seq (.ops [⟨(some 4), .plain .mv, [.lit .nilS], none⟩] [])
  (.seq (.ops [⟨(some 14), .plain .mv, [.tmp 0], none⟩,
    ⟨(some 15), .plain (.len 1), [.tmp 14], none⟩,
    ⟨(some 16), .plain .mv, [.tmp 1], none⟩,
    ⟨(some 17), .plain (.len 1), [.tmp 16], none⟩,
    ⟨(some 18), .plain (.bin .add), [.tmp 15, .tmp 17], none⟩,
    ⟨(some 19), .plain (.bin .add), [.tmp 18, .lit (.int .i64 1)], none⟩,
    ⟨(some 20), .plain (.mkRow 3 [(.int .i64 0)] 8), [.tmp 19, .tmp 19], none⟩,
    ⟨(some 5), .plain .mv, [.tmp 20], none⟩] [14, 15, 16, 17, 18, 19, 20])
  (.seq (.seq (.ops [⟨(some 21), .plain .mv, [.tmp 0], none⟩,
    ⟨(some 22), .plain (.len 1), [.tmp 21], none⟩,
    ⟨(some 23), .plain .mv, [.lit (.int .i64 0)], none⟩] [])
  (.block 0
   (.loop
    (.seq (.ops [⟨(some 24), .plain (.bin .lss), [.tmp 23, .tmp 22], none⟩] [])
    (.seq (.cond (.tmp 24)
     .skip
     (.exit 0))
    (.seq (.block 1
     (.seq (.ops [⟨(some 25), .plain .mv, [.tmp 23], none⟩,
       ⟨(some 26), .plain (.indexAddr 1), [.tmp 21, .tmp 23], none⟩,
       ⟨(some 27), .plain (.load false 1), [.tmp 26], none⟩,
       ⟨(some 6), .plain .mv, [.tmp 25], none⟩,
       ⟨(some 7), .plain .mv, [.tmp 27], none⟩] [25, 26, 27])
     (.seq (.ops [⟨(some 28), .plain .mv, [.tmp 1], none⟩,
       ⟨(some 29), .plain (.len 1), [.tmp 28], none⟩,
       ⟨(some 30), .plain .mv, [.lit (.int .i64 0)], none⟩] [])
     (.block 2
      (.loop
       (.seq (.ops [⟨(some 31), .plain (.bin .lss), [.tmp 30, .tmp 29], none⟩] [])
       (.seq (.cond (.tmp 31)
        .skip
        (.exit 2))
       (.seq (.block 3
        (.seq (.ops [⟨(some 32), .plain .mv, [.tmp 30], none⟩,
          ⟨(some 33), .plain (.indexAddr 1), [.tmp 28, .tmp 30], none⟩,
          ⟨(some 34), .plain (.load false 1), [.tmp 33], none⟩,
          ⟨(some 8), .plain .mv, [.tmp 32], none⟩,
          ⟨(some 9), .plain .mv, [.tmp 34], none⟩] [32, 33, 34])
        (.ops [⟨(some 35), .plain .mv, [.tmp 5], none⟩,
          ⟨(some 36), .plain .mv, [.tmp 6], none⟩,
          ⟨(some 37), .plain .mv, [.tmp 8], none⟩,
          ⟨(some 38), .plain (.bin .add), [.tmp 36, .tmp 37], none⟩,
          ⟨(some 39), .plain (.indexAddr 1), [.tmp 35, .tmp 38], none⟩,
          ⟨(some 40), .plain (.load false 1), [.tmp 39], none⟩,
          ⟨(some 41), .plain .mv, [.tmp 7], none⟩,
          ⟨(some 42), .plain (.convInt .i64), [.tmp 41], none⟩,
          ⟨(some 43), .plain .mv, [.tmp 9], none⟩,
          ⟨(some 44), .plain (.convInt .i64), [.tmp 43], none⟩,
          ⟨(some 45), .plain (.bin .mul), [.tmp 42, .tmp 44], none⟩,
          ⟨(some 46), .plain (.bin .add), [.tmp 40, .tmp 45], none⟩,
          ⟨(some 47), .plain (.indexAddr 1), [.tmp 35, .tmp 38], none⟩,
          ⟨none, .plain (.store 1), [.tmp 47, .tmp 46], none⟩] [35, 36, 37, 38, 39, 40, 41, 42, 43, 44, 45, 46, 47])))
       (.ops [⟨(some 48), .plain (.bin .add), [.tmp 30, .lit (.int .i64 1)], none⟩,
         ⟨(some 30), .plain .mv, [.tmp 48], none⟩] [48])))))))))
    (.ops [⟨(some 49), .plain (.bin .add), [.tmp 23, .lit (.int .i64 1)], none⟩,
      ⟨(some 23), .plain .mv, [.tmp 49], none⟩] [49])))))))
  (.seq (.ops [⟨(some 50), .plain .mv, [.tmp 5], none⟩,
    ⟨(some 51), .plain (.len 1), [.tmp 50], none⟩,
    ⟨(some 52), .plain (.mkRow 5 [(.int .u8 0)] 1), [.tmp 51, .tmp 51], none⟩,
    ⟨(some 10), .plain .mv, [.tmp 52], none⟩] [50, 51, 52])
  (.seq (.ops [⟨(some 11), .plain .mv, [.lit (.int .i64 0)], none⟩] [])
  (.seq (.seq (.ops [⟨(some 53), .plain .mv, [.tmp 5], none⟩,
    ⟨(some 54), .plain (.len 1), [.tmp 53], none⟩,
    ⟨(some 55), .plain .mv, [.lit (.int .i64 0)], none⟩] [])
  (.block 4
   (.loop
    (.seq (.ops [⟨(some 56), .plain (.bin .lss), [.tmp 55, .tmp 54], none⟩] [])
    (.seq (.cond (.tmp 56)
     .skip
     (.exit 4))
    (.seq (.block 5
     (.seq (.ops [⟨(some 57), .plain .mv, [.tmp 55], none⟩,
       ⟨(some 58), .plain (.indexAddr 1), [.tmp 53, .tmp 55], none⟩,
       ⟨(some 59), .plain (.load false 1), [.tmp 58], none⟩,
       ⟨(some 12), .plain .mv, [.tmp 57], none⟩,
       ⟨(some 13), .plain .mv, [.tmp 59], none⟩] [57, 58, 59])
     (.seq (.ops [⟨(some 60), .plain .mv, [.tmp 11], none⟩,
       ⟨(some 61), .plain .mv, [.tmp 13], none⟩,
       ⟨(some 62), .plain (.bin .add), [.tmp 60, .tmp 61], none⟩,
       ⟨(some 11), .plain .mv, [.tmp 62], none⟩] [60, 61, 62])
     (.seq (.ops [⟨(some 63), .plain .mv, [.tmp 10], none⟩,
       ⟨(some 64), .plain .mv, [.tmp 12], none⟩,
       ⟨(some 65), .plain .mv, [.tmp 11], none⟩,
       ⟨(some 66), .plain (.bin .rem), [.tmp 65, .lit (.int .i64 10)], none⟩,
       ⟨(some 67), .plain (.convInt .u8), [.tmp 66], none⟩,
       ⟨(some 68), .plain (.indexAddr 1), [.tmp 63, .tmp 64], none⟩,
       ⟨none, .plain (.store 1), [.tmp 68, .tmp 67], none⟩] [63, 64, 65, 66, 67, 68])
     (.ops [⟨(some 69), .plain .mv, [.tmp 11], none⟩,
       ⟨(some 70), .plain (.bin .quo), [.tmp 69, .lit (.int .i64 10)], none⟩,
       ⟨(some 11), .plain .mv, [.tmp 70], none⟩] [69, 70])))))
    (.ops [⟨(some 71), .plain (.bin .add), [.tmp 55, .lit (.int .i64 1)], none⟩,
      ⟨(some 55), .plain .mv, [.tmp 71], none⟩] [71])))))))
  (.seq (.ops [⟨(some 72), .plain .mv, [.tmp 10], none⟩,
    ⟨(some 73), .call 259, [.tmp 72], none⟩,
    ⟨(some 4), .plain .mv, [.tmp 73], none⟩] [72, 73])
  .ret)))))))
def cr254 : List Res := [(4, none)]
theorem ok254 : FOk Bk.pg.toProgram Bk.imp 254 c254 cr254 Tryz.f254.ntmps := ⟨Tryz.f254, _, Tryz.func254, rfl, by kernel_rfl, by kernel_rfl, by kernel_rfl, rfl⟩

/-- ironbark/digit.power -/
def c255 : SC :=
  (.seq (.ops [⟨(some 4), .plain .mv, [.lit .nilS], none⟩] [])
  (.seq (.ops [⟨(some 6), .call 52, [.lit (.int .i64 1)], none⟩,
    ⟨(some 5), .plain .mv, [.tmp 6], none⟩] [6])
  (.seq (.seq (.ops [⟨(some 7), .plain .mv, [.tmp 1], none⟩,
    ⟨(some 8), .plain .mv, [.lit (.int .i64 0)], none⟩] [])
  (.block 0
   (.loop
    (.seq (.ops [⟨(some 9), .plain (.bin .lss), [.tmp 8, .tmp 7], none⟩] [])
    (.seq (.cond (.tmp 9)
     .skip
     (.exit 0))
    (.seq (.block 1
     (.ops [⟨(some 10), .plain .mv, [.tmp 5], none⟩,
       ⟨(some 11), .plain .mv, [.tmp 0], none⟩,
       ⟨(some 12), .call 52, [.tmp 11], none⟩,
       ⟨(some 13), .call 254, [.tmp 10, .tmp 12], none⟩,
       ⟨(some 5), .plain .mv, [.tmp 13], none⟩] [10, 11, 12, 13]))
    (.ops [⟨(some 14), .plain (.bin .add), [.tmp 8, .lit (.int .i64 1)], none⟩,
      ⟨(some 8), .plain .mv, [.tmp 14], none⟩] [14])))))))
  (.seq (.ops [⟨(some 15), .plain .mv, [.tmp 5], none⟩,
    ⟨(some 4), .plain .mv, [.tmp 15], none⟩] [15])
  .ret))))
def cr255 : List Res := [(4, none)]
theorem ok255 : FOk Bk.pg.toProgram Bk.imp 255 c255 cr255 Tryz.f255.ntmps := ⟨Tryz.f255, _, Tryz.func255, rfl, by kernel_rfl, by kernel_rfl, by kernel_rfl, rfl⟩

/-- ironbark/digit.compare -/
def c257 : SC :=
  (.seq (.ops [⟨(some 4), .plain .mv, [.lit (.int .i64 0)], none⟩] [])
  (.seq (.seq (.ops [⟨(some 6), .plain .mv, [.tmp 0], none⟩,
    ⟨(some 7), .plain (.len 1), [.tmp 6], none⟩,
    ⟨(some 8), .plain .mv, [.tmp 1], none⟩,
    ⟨(some 9), .plain (.len 1), [.tmp 8], none⟩,
    ⟨(some 10), .plain (.bin .neq), [.tmp 7, .tmp 9], none⟩] [6, 7, 8, 9])
  (.cond (.tmp 10)
   (.seq (.ops [⟨(some 11), .plain .mv, [.tmp 0], none⟩,
     ⟨(some 12), .plain (.len 1), [.tmp 11], none⟩,
     ⟨(some 13), .plain .mv, [.tmp 1], none⟩,
     ⟨(some 14), .plain (.len 1), [.tmp 13], none⟩,
     ⟨(some 15), .plain (.bin .sub), [.tmp 12, .tmp 14], none⟩,
     ⟨(some 4), .plain .mv, [.tmp 15], none⟩] [11, 12, 13, 14, 15])
   .ret)
   .skip))
  (.seq (.seq (.ops [⟨(some 16), .plain .mv, [.tmp 0], none⟩,
    ⟨(some 17), .plain (.len 1), [.tmp 16], none⟩,
    ⟨(some 18), .plain (.bin .sub), [.tmp 17, .lit (.int .i64 1)], none⟩,
    ⟨(some 5), .plain .mv, [.tmp 18], none⟩] [16, 17, 18])
  (.block 0
   (.loop
    (.seq (.seq (.ops [⟨(some 19), .plain .mv, [.tmp 5], none⟩,
      ⟨(some 20), .plain (.bin .geq), [.tmp 19, .lit (.int .i64 0)], none⟩] [19])
    (.cond (.tmp 20)
     .skip
     (.exit 0)))
    (.seq (.block 1
     (.seq (.draw (.step ⟨(some 23), .plain .mv, [.tmp 0], none⟩
       (.step ⟨(some 24), .plain .mv, [.tmp 5], none⟩
       (.step ⟨(some 25), .plain (.indexAddr 1), [.tmp 23, .tmp 24], none⟩
       (.step ⟨(some 26), .plain (.load false 1), [.tmp 25], none⟩
       (.step ⟨(some 27), .plain .mv, [.tmp 1], none⟩
       (.step ⟨(some 28), .plain .mv, [.tmp 5], none⟩
       (.step ⟨(some 29), .plain (.indexAddr 1), [.tmp 27, .tmp 28], none⟩
       (.step ⟨(some 30), .plain (.load false 1), [.tmp 29], none⟩
       (.step ⟨(some 31), .plain (.bin .neq), [.tmp 26, .tmp 30], none⟩
       .done))))))))) [23, 24, 25, 26, 27, 28, 29, 30])
     (.cond (.tmp 31)
      (.seq (.draw (.step ⟨(some 32), .plain .mv, [.tmp 0], none⟩
        (.step ⟨(some 33), .plain .mv, [.tmp 5], none⟩
        (.step ⟨(some 34), .plain (.indexAddr 1), [.tmp 32, .tmp 33], none⟩
        (.step ⟨(some 35), .plain (.load false 1), [.tmp 34], none⟩
        (.step ⟨(some 36), .plain (.convInt .i64), [.tmp 35], none⟩
        (.step ⟨(some 37), .plain .mv, [.tmp 1], none⟩
        (.step ⟨(some 38), .plain .mv, [.tmp 5], none⟩
        (.step ⟨(some 39), .plain (.indexAddr 1), [.tmp 37, .tmp 38], none⟩
        (.step ⟨(some 40), .plain (.load false 1), [.tmp 39], none⟩
        (.step ⟨(some 41), .plain (.convInt .i64), [.tmp 40], none⟩
        (.step ⟨(some 42), .plain (.bin .sub), [.tmp 36, .tmp 41], none⟩
        (.step ⟨(some 4), .plain .mv, [.tmp 42], none⟩
        .done)))))))))))) [32, 33, 34, 35, 36, 37, 38, 39, 40, 41, 42])
      .ret)
      .skip)))
    (.ops [⟨(some 21), .plain .mv, [.tmp 5], none⟩,
      ⟨(some 22), .plain (.bin .sub), [.tmp 21, .lit (.int .i64 1)], none⟩,
      ⟨(some 5), .plain .mv, [.tmp 22], none⟩] [21, 22]))))))
  (.seq (.ops [⟨(some 4), .plain .mv, [.lit (.int .i64 0)], none⟩] [])
  .ret))))
def cr257 : List Res := [(4, none)]
theorem ok257 : FOk Bk.pg.toProgram Bk.imp 257 c257 cr257 Tryz.f257.ntmps := ⟨Tryz.f257, _, Tryz.func257, rfl, by kernel_rfl, by kernel_rfl, by kernel_rfl, rfl⟩

/-- ironbark/digit.less -/
def c253 : SC :=
  (.seq (.ops [⟨(some 4), .plain .mv, [.lit .nilS], none⟩] [])
  (.seq (.ops [⟨(some 9), .plain .mv, [.tmp 0], none⟩,
    ⟨(some 10), .call 320, [.tmp 9], none⟩,
    ⟨(some 5), .plain .mv, [.tmp 10], none⟩] [9, 10])
  (.seq (.ops [⟨(some 6), .plain .mv, [.lit (.int .u8 0)], none⟩] [])
  (.seq (.seq (.ops [⟨(some 11), .plain .mv, [.tmp 5], none⟩,
    ⟨(some 12), .plain (.len 1), [.tmp 11], none⟩,
    ⟨(some 13), .plain .mv, [.lit (.int .i64 0)], none⟩] [11])
  (.block 0
   (.loop
    (.seq (.ops [⟨(some 14), .plain (.bin .lss), [.tmp 13, .tmp 12], none⟩] [])
    (.seq (.cond (.tmp 14)
     .skip
     (.exit 0))
    (.seq (.block 1
     (.seq (.ops [⟨(some 15), .plain .mv, [.tmp 13], none⟩,
       ⟨(some 7), .plain .mv, [.tmp 15], none⟩] [15])
     (.seq (.ops [⟨(some 16), .plain .mv, [.tmp 6], none⟩,
       ⟨(some 8), .plain .mv, [.tmp 16], none⟩] [16])
     (.seq (.seq (.ops [⟨(some 17), .plain .mv, [.tmp 7], none⟩,
       ⟨(some 18), .plain .mv, [.tmp 1], none⟩,
       ⟨(some 19), .plain (.len 1), [.tmp 18], none⟩,
       ⟨(some 20), .plain (.bin .lss), [.tmp 17, .tmp 19], none⟩] [17, 18, 19])
     (.cond (.tmp 20)
      (.ops [⟨(some 21), .plain .mv, [.tmp 8], none⟩,
        ⟨(some 22), .plain .mv, [.tmp 1], none⟩,
        ⟨(some 23), .plain .mv, [.tmp 7], none⟩,
        ⟨(some 24), .plain (.indexAddr 1), [.tmp 22, .tmp 23], none⟩,
        ⟨(some 25), .plain (.load false 1), [.tmp 24], none⟩,
        ⟨(some 26), .plain (.bin .add), [.tmp 21, .tmp 25], none⟩,
        ⟨(some 8), .plain .mv, [.tmp 26], none⟩] [21, 22, 23, 24, 25, 26])
      .skip))
     (.seq (.ops [⟨(some 6), .plain .mv, [.lit (.int .u8 0)], none⟩] [])
     (.seq (.seq (.ops [⟨(some 27), .plain .mv, [.tmp 5], none⟩,
       ⟨(some 28), .plain .mv, [.tmp 7], none⟩,
       ⟨(some 29), .plain (.indexAddr 1), [.tmp 27, .tmp 28], none⟩,
       ⟨(some 30), .plain (.load false 1), [.tmp 29], none⟩,
       ⟨(some 31), .plain .mv, [.tmp 8], none⟩,
       ⟨(some 32), .plain (.bin .lss), [.tmp 30, .tmp 31], none⟩] [27, 28, 29, 30, 31])
     (.cond (.tmp 32)
      (.seq (.ops [⟨(some 33), .plain .mv, [.tmp 5], none⟩,
        ⟨(some 34), .plain .mv, [.tmp 7], none⟩,
        ⟨(some 35), .plain (.indexAddr 1), [.tmp 33, .tmp 34], none⟩,
        ⟨(some 36), .plain (.load false 1), [.tmp 35], none⟩,
        ⟨(some 37), .plain (.bin .add), [.tmp 36, .lit (.int .u8 10)], none⟩,
        ⟨(some 38), .plain (.indexAddr 1), [.tmp 33, .tmp 34], none⟩,
        ⟨none, .plain (.store 1), [.tmp 38, .tmp 37], none⟩] [33, 34, 35, 36, 37, 38])
      (.ops [⟨(some 6), .plain .mv, [.lit (.int .u8 1)], none⟩] []))
      .skip))
     (.ops [⟨(some 39), .plain .mv, [.tmp 5], none⟩,
       ⟨(some 40), .plain .mv, [.tmp 7], none⟩,
       ⟨(some 41), .plain (.indexAddr 1), [.tmp 39, .tmp 40], none⟩,
       ⟨(some 42), .plain (.load false 1), [.tmp 41], none⟩,
       ⟨(some 43), .plain .mv, [.tmp 8], none⟩,
       ⟨(some 44), .plain (.bin .sub), [.tmp 42, .tmp 43], none⟩,
       ⟨(some 45), .plain (.indexAddr 1), [.tmp 39, .tmp 40], none⟩,
       ⟨none, .plain (.store 1), [.tmp 45, .tmp 44], none⟩] [39, 40, 41, 42, 43, 44, 45])))))))
    (.ops [⟨(some 46), .plain (.bin .add), [.tmp 13, .lit (.int .i64 1)], none⟩,
      ⟨(some 13), .plain .mv, [.tmp 46], none⟩] [46])))))))
  (.seq (.ops [⟨(some 47), .plain .mv, [.tmp 5], none⟩,
    ⟨(some 48), .call 259, [.tmp 47], none⟩,
    ⟨(some 4), .plain .mv, [.tmp 48], none⟩] [47, 48])
  .ret)))))
def cr253 : List Res := [(4, none)]
theorem ok253 : FOk Bk.pg.toProgram Bk.imp 253 c253 cr253 Tryz.f253.ntmps := ⟨Tryz.f253, _, Tryz.func253, rfl, by kernel_rfl, by kernel_rfl, by kernel_rfl, rfl⟩

/-- (ironbark/digit.limbs).up -/
def c243 : SC :=
  (.seq (.ops [⟨(some 4), .plain .mv, [.lit .nilS], none⟩] [])
  (.seq (.seq (.ops [⟨(some 5), .plain .mv, [.tmp 0], none⟩,
    ⟨(some 6), .plain (.len 1), [.tmp 5], none⟩,
    ⟨(some 7), .plain (.bin .eql), [.tmp 6, .lit (.int .i64 0)], none⟩] [5, 6])
  (.cond (.tmp 7)
   (.seq (.ops [⟨(some 4), .plain .mv, [.lit .nilS], none⟩] [])
   .ret)
   .skip))
  (.seq (.ops [⟨(some 8), .plain .mv, [.tmp 1], none⟩,
    ⟨(some 9), .plain (.mkRow 5 [(.int .u8 0)] 1), [.tmp 8, .tmp 8], none⟩,
    ⟨(some 10), .plain .mv, [.tmp 0], none⟩,
    ⟨(some 11), .plain (.append 5 1 1), [.tmp 9, .tmp 10], none⟩,
    ⟨(some 4), .plain .mv, [.tmp 11], none⟩] [8, 9, 10, 11])
  .ret)))
def cr243 : List Res := [(4, none)]
theorem ok243 : FOk Bk.pg.toProgram Bk.imp 243 c243 cr243 Tryz.f243.ntmps := ⟨Tryz.f243, _, Tryz.func243, rfl, by kernel_rfl, by kernel_rfl, by kernel_rfl, rfl⟩

/-- (ironbark/digit.limbs).cut -/
def c244 : SC :=
  (.seq (.ops [⟨(some 4), .plain .mv, [.lit .nilS], none⟩] [])
  (.seq (.seq (.ops [⟨(some 5), .plain .mv, [.tmp 1], none⟩,
    ⟨(some 6), .plain .mv, [.tmp 0], none⟩,
    ⟨(some 7), .plain (.len 1), [.tmp 6], none⟩,
    ⟨(some 8), .plain (.bin .geq), [.tmp 5, .tmp 7], none⟩] [5, 6, 7])
  (.cond (.tmp 8)
   (.seq (.ops [⟨(some 4), .plain .mv, [.lit .nilS], none⟩] [])
   .ret)
   .skip))
  (.seq (.ops [⟨(some 9), .plain .mv, [.tmp 0], none⟩,
    ⟨(some 10), .plain .mv, [.tmp 1], none⟩,
    ⟨(some 11), .plain (.slice true false 1), [.tmp 9, .tmp 10], none⟩,
    ⟨(some 12), .call 320, [.tmp 11], none⟩,
    ⟨(some 4), .plain .mv, [.tmp 12], none⟩] [9, 10, 11, 12])
  .ret)))
def cr244 : List Res := [(4, none)]
theorem ok244 : FOk Bk.pg.toProgram Bk.imp 244 c244 cr244 Tryz.f244.ntmps := ⟨Tryz.f244, _, Tryz.func244, rfl, by kernel_rfl, by kernel_rfl, by kernel_rfl, rfl⟩

/-- slices.Clone -/
def c320 : SC :=
  (.seq (.ops [⟨(some 2), .plain .mv, [.lit .nilS], none⟩] [])
  (.seq (.seq (.ops [⟨(some 3), .plain .mv, [.tmp 0], none⟩,
    ⟨(some 4), .many (.isNil false), [.tmp 3, .lit .nilS], none⟩] [3])
  (.cond (.tmp 4)
   (.seq (.ops [⟨(some 2), .plain .mv, [.lit .nilS], none⟩] [])
   .ret)
   .skip))
  (.seq (.ops [⟨(some 5), .plain (.buildRow 5 1 0 [(.int .u8 0)] []), [], none⟩,
    ⟨(some 6), .plain .mv, [.tmp 0], none⟩,
    ⟨(some 7), .plain (.append 5 1 1), [.tmp 5, .tmp 6], none⟩,
    ⟨(some 2), .plain .mv, [.tmp 7], none⟩] [5, 6, 7])
  .ret)))
def cr320 : List Res := [(2, none)]
theorem ok320 : FOk Bk.pg.toProgram Bk.imp 320 c320 cr320 Tryz.f320.ntmps := ⟨Tryz.f320, _, Tryz.func320, rfl, by kernel_rfl, by kernel_rfl, by kernel_rfl, rfl⟩

/-- (ironbark/digit.limbs).down -/
def c321 : SC :=
  (.seq (.ops [⟨(some 1), .plain (.box 1), [.tmp 0], none⟩,
    ⟨(some 2), .plain .mv, [.lit (.const .nilFunc)], none⟩] [])
  (.seq (.ops [⟨(some 3), .plain (.mkFn 356), [.tmp 1], none⟩,
    ⟨(some 2), .plain .mv, [.tmp 3], none⟩] [3])
  .ret))
def cr321 : List Res := [(2, none)]
theorem ok321 : FOk Bk.pg.toProgram Bk.imp 321 c321 cr321 Tryz.f321.ntmps := ⟨Tryz.f321, _, Tryz.func321, rfl, by kernel_rfl, by kernel_rfl, by kernel_rfl, rfl⟩

/-- (ironbark/digit.limbs).down$1 -/
def c356 : SC :=
  (.seq (.ops [⟨(some 4), .plain (.load false 1), [.tmp 1], none⟩,
    ⟨(some 5), .plain (.len 1), [.tmp 4], none⟩,
    ⟨(some 6), .plain (.bin .sub), [.tmp 5, .lit (.int .i64 1)], none⟩,
    ⟨(some 3), .plain .mv, [.tmp 6], none⟩] [4, 5, 6])
  (.block 0
   (.loop
    (.seq (.seq (.ops [⟨(some 7), .plain .mv, [.tmp 3], none⟩,
      ⟨(some 8), .plain (.bin .geq), [.tmp 7, .lit (.int .i64 0)], none⟩] [7])
    (.cond (.tmp 8)
     .skip
     (.exit 0)))
    (.seq (.block 1
     (.seq (.ops [⟨(some 11), .plain .mv, [.tmp 0], none⟩,
       ⟨(some 12), .plain (.load false 1), [.tmp 1], none⟩,
       ⟨(some 13), .plain .mv, [.tmp 3], none⟩,
       ⟨(some 14), .plain (.indexAddr 1), [.tmp 12, .tmp 13], none⟩,
       ⟨(some 15), .plain (.load false 1), [.tmp 14], none⟩,
       ⟨(some 16), .callv, [.tmp 11, .tmp 15], none⟩,
       ⟨(some 17), .plain (.un .not), [.tmp 16], none⟩] [11, 12, 13, 14, 15, 16])
     (.cond (.tmp 17)
      .ret
      .skip)))
    (.ops [⟨(some 9), .plain .mv, [.tmp 3], none⟩,
      ⟨(some 10), .plain (.bin .sub), [.tmp 9, .lit (.int .i64 1)], none⟩,
      ⟨(some 3), .plain .mv, [.tmp 10], none⟩] [9, 10]))))))
def cr356 : List Res := []
theorem ok356 : FOk Bk.pg.toProgram Bk.imp 356 c356 cr356 Tryz.f356.ntmps := ⟨Tryz.f356, _, Tryz.func356, rfl, by kernel_rfl, by kernel_rfl, by kernel_rfl, rfl⟩

/-- (ironbark/digit.limbs).number -/
def c245 : SC :=
  (.seq (.ops [⟨(some 2), .plain .mv, [.lit (.int .i64 0)], none⟩] [])
  (.seq (.ops [⟨(some 3), .plain (.alloc [(.int .i64 0)]), [], none⟩,
    ⟨none, .plain (.store 1), [.tmp 3, .lit (.int .i64 0)], none⟩] [])
  (.seq (.seq (.ops [⟨(some 5), .plain .mv, [.tmp 0], none⟩,
    ⟨(some 6), .call 321, [.tmp 5], none⟩] [5])
  (.block 0
   (.rangeF (.tmp 6) [7]
    (.ops [⟨(some 4), .plain .mv, [.tmp 7], none⟩] [])
    (.block 1
     (.ops [⟨(some 8), .plain (.load false 1), [.tmp 3], none⟩,
       ⟨(some 9), .plain (.bin .mul), [.tmp 8, .lit (.int .i64 10)], none⟩,
       ⟨(some 10), .plain .mv, [.tmp 4], none⟩,
       ⟨(some 11), .plain (.convInt .i64), [.tmp 10], none⟩,
       ⟨(some 12), .plain (.bin .add), [.tmp 9, .tmp 11], none⟩,
       ⟨none, .plain (.store 1), [.tmp 3, .tmp 12], none⟩] [8, 9, 10, 11, 12])))))
  (.seq (.ops [⟨(some 13), .plain (.load false 1), [.tmp 3], none⟩,
    ⟨(some 2), .plain .mv, [.tmp 13], none⟩] [13])
  .ret))))
def cr245 : List Res := [(2, none)]
theorem ok245 : FOk Bk.pg.toProgram Bk.imp 245 c245 cr245 Tryz.f245.ntmps := ⟨Tryz.f245, _, Tryz.func245, rfl, by kernel_rfl, by kernel_rfl, by kernel_rfl, rfl⟩

/-- ironbark/digit.over -/
def c252 : SC :=
  (.seq (.ops [⟨(some 3), .plain (.box 1), [.tmp 1], none⟩,
    ⟨(some 4), .plain .mv, [.lit .nilS], none⟩] [])
  (.seq (.ops [⟨(some 5), .plain (.alloc [.nilS]), [], none⟩,
    ⟨(some 6), .plain (.alloc [.nilS]), [], none⟩] [])
  (.seq (.seq (.ops [⟨(some 9), .plain .mv, [.tmp 0], none⟩,
    ⟨(some 10), .call 321, [.tmp 9], none⟩] [9])
  (.block 0
   (.rangeF (.tmp 10) [11]
    (.ops [⟨(some 7), .plain .mv, [.tmp 11], none⟩] [])
    (.block 1
     (.seq (.ops [⟨(some 12), .plain .mv, [.tmp 7], none⟩,
       ⟨(some 13), .plain (.buildRow 5 1 1 [(.int .u8 0)] [0]), [.tmp 12], none⟩,
       ⟨(some 14), .plain (.load false 1), [.tmp 6], none⟩,
       ⟨(some 15), .plain (.append 5 1 1), [.tmp 13, .tmp 14], none⟩,
       ⟨(some 16), .call 259, [.tmp 15], none⟩,
       ⟨none, .plain (.store 1), [.tmp 6, .tmp 16], none⟩] [12, 13, 14, 15, 16])
     (.seq (.ops [⟨(some 8), .plain .mv, [.lit (.int .u8 0)], none⟩] [])
     (.seq (.block 2
      (.loop
       (.seq (.seq (.ops [⟨(some 17), .plain (.load false 1), [.tmp 6], none⟩,
         ⟨(some 18), .plain (.load false 1), [.tmp 3], none⟩,
         ⟨(some 19), .call 257, [.tmp 17, .tmp 18], none⟩,
         ⟨(some 20), .plain (.bin .geq), [.tmp 19, .lit (.int .i64 0)], none⟩] [17, 18, 19])
       (.cond (.tmp 20)
        .skip
        (.exit 2)))
       (.block 3
        (.seq (.ops [⟨(some 21), .plain (.load false 1), [.tmp 6], none⟩,
          ⟨(some 22), .plain (.load false 1), [.tmp 3], none⟩,
          ⟨(some 23), .call 253, [.tmp 21, .tmp 22], none⟩,
          ⟨none, .plain (.store 1), [.tmp 6, .tmp 23], none⟩] [21, 22, 23])
        (.ops [⟨(some 24), .plain .mv, [.tmp 8], none⟩,
          ⟨(some 25), .plain (.bin .add), [.tmp 24, .lit (.int .u8 1)], none⟩,
          ⟨(some 8), .plain .mv, [.tmp 25], none⟩] [24, 25]))))))
     (.ops [⟨(some 26), .plain (.load false 1), [.tmp 5], none⟩,
       ⟨(some 27), .plain .mv, [.tmp 8], none⟩,
       ⟨(some 28), .plain (.buildRow 5 1 1 [(.int .u8 0)] [0]), [.tmp 27], none⟩,
       ⟨(some 29), .plain (.append 5 1 1), [.tmp 26, .tmp 28], none⟩,
       ⟨none, .plain (.store 1), [.tmp 5, .tmp 29], none⟩] [26, 27, 28, 29]))))))))
  (.seq (.ops [⟨(some 30), .plain (.load false 1), [.tmp 5], none⟩,
    ⟨(some 31), .call 324, [.tmp 30], none⟩] [30, 31])
  (.seq (.ops [⟨(some 32), .plain (.load false 1), [.tmp 5], none⟩,
    ⟨(some 33), .call 259, [.tmp 32], none⟩,
    ⟨(some 4), .plain .mv, [.tmp 33], none⟩] [32, 33])
  .ret)))))
def cr252 : List Res := [(4, none)]
theorem ok252 : FOk Bk.pg.toProgram Bk.imp 252 c252 cr252 Tryz.f252.ntmps := ⟨Tryz.f252, _, Tryz.func252, rfl, by kernel_rfl, by kernel_rfl, by kernel_rfl, rfl⟩

/-- slices.Reverse -/
def c324 : SC :=
  (.seq (.ops [⟨(some 4), .plain .mv, [.tmp 0], none⟩,
    ⟨(some 5), .plain (.len 1), [.tmp 4], none⟩,
    ⟨(some 6), .plain (.bin .sub), [.tmp 5, .lit (.int .i64 1)], none⟩,
    ⟨(some 2), .plain .mv, [.lit (.int .i64 0)], none⟩,
    ⟨(some 3), .plain .mv, [.tmp 6], none⟩] [4, 5, 6])
  (.block 0
   (.loop
    (.seq (.seq (.ops [⟨(some 7), .plain .mv, [.tmp 2], none⟩,
      ⟨(some 8), .plain .mv, [.tmp 3], none⟩,
      ⟨(some 9), .plain (.bin .lss), [.tmp 7, .tmp 8], none⟩] [7, 8])
    (.cond (.tmp 9)
     .skip
     (.exit 0)))
    (.seq (.block 1
     (.draw (.step ⟨(some 14), .plain .mv, [.tmp 0], none⟩
       (.step ⟨(some 15), .plain .mv, [.tmp 2], none⟩
       (.step ⟨(some 16), .plain .mv, [.tmp 0], none⟩
       (.step ⟨(some 17), .plain .mv, [.tmp 3], none⟩
       (.step ⟨(some 18), .plain .mv, [.tmp 0], none⟩
       (.step ⟨(some 19), .plain .mv, [.tmp 3], none⟩
       (.step ⟨(some 20), .plain (.indexAddr 1), [.tmp 18, .tmp 19], none⟩
       (.step ⟨(some 21), .plain (.load false 1), [.tmp 20], none⟩
       (.step ⟨(some 22), .plain .mv, [.tmp 0], none⟩
       (.step ⟨(some 23), .plain .mv, [.tmp 2], none⟩
       (.step ⟨(some 24), .plain (.indexAddr 1), [.tmp 22, .tmp 23], none⟩
       (.step ⟨(some 25), .plain (.load false 1), [.tmp 24], none⟩
       (.step ⟨(some 26), .plain (.indexAddr 1), [.tmp 14, .tmp 15], none⟩
       (.step ⟨none, .plain (.store 1), [.tmp 26, .tmp 21], none⟩
       (.step ⟨(some 27), .plain (.indexAddr 1), [.tmp 16, .tmp 17], none⟩
       (.step ⟨none, .plain (.store 1), [.tmp 27, .tmp 25], none⟩
       .done)))))))))))))))) [14, 15, 16, 17, 18, 19, 20, 21, 22, 23, 24, 25, 26, 27]))
    (.ops [⟨(some 10), .plain .mv, [.tmp 2], none⟩,
      ⟨(some 11), .plain (.bin .add), [.tmp 10, .lit (.int .i64 1)], none⟩,
      ⟨(some 12), .plain .mv, [.tmp 3], none⟩,
      ⟨(some 13), .plain (.bin .sub), [.tmp 12, .lit (.int .i64 1)], none⟩,
      ⟨(some 2), .plain .mv, [.tmp 11], none⟩,
      ⟨(some 3), .plain .mv, [.tmp 13], none⟩] [10, 11, 12, 13]))))))
def cr324 : List Res := []
theorem ok324 : FOk Bk.pg.toProgram Bk.imp 324 c324 cr324 Tryz.f324.ntmps := ⟨Tryz.f324, _, Tryz.func324, rfl, by kernel_rfl, by kernel_rfl, by kernel_rfl, rfl⟩

/-- ironbark/digit.product -/
def c169 : SC :=
  (.seq (.ops [⟨(some 2), .plain (.box 3), [.tmp 0], none⟩,
    ⟨(some 3), .plain (.box 3), [.tmp 1], none⟩,
    ⟨(some 4), .plain (.alloc [.nilS, (.bool false), (.int .i64 0)]), [], none⟩] [])
  (.seq (.draw (.step ⟨(some 5), .plain (.fieldAddr 0), [.tmp 2], none⟩
    (.step ⟨(some 6), .plain (.load false 1), [.tmp 5], none⟩
    (.step ⟨(some 7), .plain (.fieldAddr 0), [.tmp 3], none⟩
    (.step ⟨(some 8), .plain (.load false 1), [.tmp 7], none⟩
    (.step ⟨(some 9), .call 254, [.tmp 6, .tmp 8], none⟩
    (.step ⟨(some 10), .plain (.fieldAddr 1), [.tmp 2], none⟩
    (.step ⟨(some 11), .plain (.load false 1), [.tmp 10], none⟩
    (.step ⟨(some 12), .plain (.fieldAddr 1), [.tmp 3], none⟩
    (.step ⟨(some 13), .plain (.load false 1), [.tmp 12], none⟩
    (.step ⟨(some 14), .plain (.eqBool true), [.tmp 11, .tmp 13], none⟩
    (.step ⟨(some 15), .plain (.fieldAddr 2), [.tmp 2], none⟩
    (.step ⟨(some 16), .plain (.load false 1), [.tmp 15], none⟩
    (.step ⟨(some 17), .plain (.fieldAddr 2), [.tmp 3], none⟩
    (.step ⟨(some 18), .plain (.load false 1), [.tmp 17], none⟩
    (.step ⟨(some 19), .plain (.bin .add), [.tmp 16, .tmp 18], none⟩
    (.step ⟨(some 20), .plain (.build [.nilS, (.bool false), (.int .i64 0)] [(0, 1), (1, 1), (2, 1)]), [.tmp 9, .tmp 14, .tmp 19], none⟩
    (.step ⟨none, .plain (.store 3), [.tmp 4, .tmp 20], none⟩
    .done))))))))))))))))) [5, 6, 7, 8, 9, 10, 11, 12, 13, 14, 15, 16, 17, 18, 19, 20])
  .ret))
def cr169 : List Res := [(4, some (true, 3))]
theorem ok169 : FOk Bk.pg.toProgram Bk.imp 169 c169 cr169 Tryz.f169.ntmps := ⟨Tryz.f169, _, Tryz.func169, rfl, by kernel_rfl, by kernel_rfl, by kernel_rfl, rfl⟩

/-- ironbark/digit.exact -/
def c165 : SC :=
  (.seq (.ops [⟨(some 1), .plain (.box 4), [.tmp 0], none⟩,
    ⟨(some 2), .plain (.alloc [.nilS, (.bool false), (.int .i64 0)]), [], none⟩] [])
  (.seq (.draw (.step ⟨(some 4), .plain (.fieldAddr 1), [.tmp 1], none⟩
    (.step ⟨(some 5), .plain (.load false 1), [.tmp 4], none⟩
    (.step ⟨(some 6), .plain (.fieldAddr 1), [.tmp 1], none⟩
    (.step ⟨(some 7), .plain (.load false 1), [.tmp 6], none⟩
    (.step ⟨(some 8), .plain (.un .neg), [.tmp 7], none⟩
    (.step ⟨(some 9), .plain .max2, [.tmp 5, .tmp 8], none⟩
    (.step ⟨(some 10), .call 52, [.tmp 9], none⟩
    (.step ⟨(some 11), .plain (.fieldAddr 1), [.tmp 1], none⟩
    (.step ⟨(some 12), .plain (.load false 1), [.tmp 11], none⟩
    (.step ⟨(some 13), .plain (.bin .lss), [.tmp 12, .lit (.int .i64 0)], none⟩
    (.step ⟨(some 14), .plain (.build [.nilS, (.bool false), (.int .i64 0)] [(0, 1), (1, 1)]), [.tmp 10, .tmp 13], none⟩
    (.step ⟨(some 3), .plain (.alloc [.nilS, (.bool false), (.int .i64 0)]), [], none⟩
    (.step ⟨none, .plain (.store 3), [.tmp 3, .tmp 14], none⟩
    .done))))))))))))) [4, 5, 6, 7, 8, 9, 10, 11, 12, 13, 14])
  (.seq (.seq (.ops [⟨(some 15), .plain (.fieldAddr 0), [.tmp 1], none⟩,
    ⟨(some 16), .plain (.load false 1), [.tmp 15], none⟩] [15])
  (.block 0
   (.seq (.ops [⟨(some 21), .plain (.bin .eql), [.tmp 16, .lit (.int .i64 1)], none⟩,
     ⟨(some 20), .plain .mv, [.tmp 21], none⟩] [21])
   (.cond (.tmp 20)
    (.draw (.step ⟨(some 22), .plain (.fieldAddr 0), [.tmp 3], none⟩
      (.step ⟨(some 23), .plain (.load false 1), [.tmp 22], none⟩
      (.step ⟨(some 24), .plain (.fieldAddr 2), [.tmp 1], none⟩
      (.step ⟨(some 25), .plain (.load false 1), [.tmp 24], none⟩
      (.step ⟨(some 26), .call 255, [.lit (.int .i64 5), .tmp 25], none⟩
      (.step ⟨(some 27), .call 254, [.tmp 23, .tmp 26], none⟩
      (.step ⟨(some 28), .plain (.fieldAddr 2), [.tmp 1], none⟩
      (.step ⟨(some 31), .plain (.fieldAddr 0), [.tmp 3], none⟩
      (.or (.step ⟨(some 29), .plain (.load false 1), [.tmp 28], none⟩
      (.step ⟨(some 30), .plain (.un .neg), [.tmp 29], none⟩
      (.step ⟨none, .plain (.store 1), [.tmp 31, .tmp 27], none⟩
      (.step ⟨(some 32), .plain (.fieldAddr 2), [.tmp 3], none⟩
      (.step ⟨none, .plain (.store 1), [.tmp 32, .tmp 30], none⟩
      .done)))))
      (.step ⟨none, .plain (.store 1), [.tmp 31, .tmp 27], none⟩
      (.step ⟨(some 29), .plain (.load false 1), [.tmp 28], none⟩
      (.step ⟨(some 30), .plain (.un .neg), [.tmp 29], none⟩
      (.step ⟨(some 32), .plain (.fieldAddr 2), [.tmp 3], none⟩
      (.step ⟨none, .plain (.store 1), [.tmp 32, .tmp 30], none⟩
      .done)))))))))))))) [22, 23, 24, 25, 26, 27, 28, 31, 29, 30, 32])
    (.seq (.ops [⟨(some 34), .plain (.bin .eql), [.tmp 16, .lit (.int .i64 2)], none⟩,
      ⟨(some 33), .plain .mv, [.tmp 34], none⟩] [34])
    (.cond (.tmp 33)
     (.ops [⟨(some 35), .plain (.fieldAddr 2), [.tmp 1], none⟩,
       ⟨(some 36), .plain (.load false 1), [.tmp 35], none⟩,
       ⟨(some 37), .plain (.un .neg), [.tmp 36], none⟩,
       ⟨(some 38), .plain (.fieldAddr 2), [.tmp 3], none⟩,
       ⟨none, .plain (.store 1), [.tmp 38, .tmp 37], none⟩] [35, 36, 37, 38])
     (.ops [⟨(some 17), .plain (.fieldAddr 2), [.tmp 1], none⟩,
       ⟨(some 18), .plain (.load false 1), [.tmp 17], none⟩,
       ⟨(some 19), .plain (.fieldAddr 2), [.tmp 3], none⟩,
       ⟨none, .plain (.store 1), [.tmp 19, .tmp 18], none⟩] [17, 18, 19])))))))
  (.seq (.ops [⟨(some 39), .plain (.load true 3), [.tmp 3], none⟩,
    ⟨none, .plain (.store 3), [.tmp 2, .tmp 39], none⟩] [39])
  .ret))))
def cr165 : List Res := [(2, some (true, 3))]
theorem ok165 : FOk Bk.pg.toProgram Bk.imp 165 c165 cr165 Tryz.f165.ntmps := ⟨Tryz.f165, _, Tryz.func165, rfl, by kernel_rfl, by kernel_rfl, by kernel_rfl, rfl⟩

/-- ironbark/digit.level -/
def c251 : SC :=
  (.seq (.ops [⟨(some 2), .plain (.box 3), [.tmp 0], none⟩,
    ⟨(some 3), .plain (.box 3), [.tmp 1], none⟩,
    ⟨(some 4), .plain (.alloc [.nilS, (.bool false), (.int .i64 0)]), [], none⟩,
    ⟨(some 5), .plain (.alloc [.nilS, (.bool false), (.int .i64 0)]), [], none⟩] [])
  (.seq (.ops [⟨(some 8), .plain (.fieldAddr 2), [.tmp 2], none⟩,
    ⟨(some 9), .plain (.load false 1), [.tmp 8], none⟩,
    ⟨(some 10), .plain (.fieldAddr 2), [.tmp 3], none⟩,
    ⟨(some 11), .plain (.load false 1), [.tmp 10], none⟩,
    ⟨(some 12), .plain .min2, [.tmp 9, .tmp 11], none⟩,
    ⟨(some 6), .plain (.alloc [(.int .i64 0)]), [], none⟩,
    ⟨none, .plain (.store 1), [.tmp 6, .tmp 12], none⟩] [8, 9, 10, 11, 12])
  (.seq (.ops [⟨(some 13), .plain (.mkFn 323), [.tmp 6], none⟩,
    ⟨(some 7), .plain .mv, [.tmp 13], none⟩] [13])
  (.seq (.draw (.step ⟨(some 14), .plain .mv, [.tmp 7], none⟩
    (.step ⟨(some 15), .plain (.load true 3), [.tmp 2], none⟩
    (.step ⟨(some 16), .callv, [.tmp 14, .tmp 15], none⟩
    (.step ⟨(some 17), .plain .mv, [.tmp 7], none⟩
    (.step ⟨(some 18), .plain (.load true 3), [.tmp 3], none⟩
    (.step ⟨(some 19), .callv, [.tmp 17, .tmp 18], none⟩
    (.step ⟨none, .plain (.store 3), [.tmp 4, .tmp 16], none⟩
    (.step ⟨none, .plain (.store 3), [.tmp 5, .tmp 19], none⟩
    .done)))))))) [14, 15, 16, 17, 18, 19])
  .ret))))
def cr251 : List Res := [(4, some (true, 3)), (5, some (true, 3))]
theorem ok251 : FOk Bk.pg.toProgram Bk.imp 251 c251 cr251 Tryz.f251.ntmps := ⟨Tryz.f251, _, Tryz.func251, rfl, by kernel_rfl, by kernel_rfl, by kernel_rfl, rfl⟩

/-- ironbark/digit.level$1 -/
def c323 : SC :=
  (.seq (.ops [⟨(some 2), .plain (.box 3), [.tmp 0], none⟩,
    ⟨(some 3), .plain (.alloc [.nilS, (.bool false), (.int .i64 0)]), [], none⟩] [])
  (.seq (.ops [⟨(some 4), .plain (.fieldAddr 0), [.tmp 2], none⟩,
    ⟨(some 5), .plain (.load false 1), [.tmp 4], none⟩,
    ⟨(some 6), .plain (.fieldAddr 2), [.tmp 2], none⟩,
    ⟨(some 7), .plain (.load false 1), [.tmp 6], none⟩,
    ⟨(some 8), .plain (.load false 1), [.tmp 1], none⟩,
    ⟨(some 9), .plain (.bin .sub), [.tmp 7, .tmp 8], none⟩,
    ⟨(some 10), .call 243, [.tmp 5, .tmp 9], none⟩,
    ⟨(some 11), .plain (.fieldAddr 0), [.tmp 2], none⟩,
    ⟨none, .plain (.store 1), [.tmp 11, .tmp 10], none⟩] [4, 5, 6, 7, 8, 9, 10, 11])
  (.seq (.ops [⟨(some 12), .plain (.load false 1), [.tmp 1], none⟩,
    ⟨(some 13), .plain (.fieldAddr 2), [.tmp 2], none⟩,
    ⟨none, .plain (.store 1), [.tmp 13, .tmp 12], none⟩] [12, 13])
  (.seq (.ops [⟨(some 14), .plain (.load true 3), [.tmp 2], none⟩,
    ⟨none, .plain (.store 3), [.tmp 3, .tmp 14], none⟩] [14])
  .ret))))
def cr323 : List Res := [(3, some (true, 3))]
theorem ok323 : FOk Bk.pg.toProgram Bk.imp 323 c323 cr323 Tryz.f323.ntmps := ⟨Tryz.f323, _, Tryz.func323, rfl, by kernel_rfl, by kernel_rfl, by kernel_rfl, rfl⟩

/-- (ironbark/digit.long).fixed -/
def c318 : SC :=
  (.seq (.ops [⟨(some 2), .plain (.box 3), [.tmp 0], none⟩,
    ⟨(some 3), .plain (.box 6), [.tmp 1], none⟩,
    ⟨(some 4), .plain (.alloc [(.int .i64 0)]), [], none⟩,
    ⟨(some 5), .plain .mv, [.lit (.bool false)], none⟩] [])
  (.seq (.ops [⟨(some 9), .plain (.fieldAddr 0), [.tmp 2], none⟩,
    ⟨(some 10), .plain (.load false 1), [.tmp 9], none⟩,
    ⟨(some 6), .plain .mv, [.tmp 10], none⟩] [9, 10])
  (.seq (.seq (.ops [⟨(some 11), .plain (.fieldAddr 0), [.tmp 3], none⟩,
    ⟨(some 12), .plain (.load false 1), [.tmp 11], none⟩,
    ⟨(some 13), .plain (.bin .eql), [.tmp 12, .lit (.int .i64 1)], none⟩] [11, 12])
  (.cond (.tmp 13)
   (.ops [⟨(some 14), .plain .mv, [.tmp 6], none⟩,
     ⟨(some 15), .plain (.fieldAddr 2), [.tmp 3], none⟩,
     ⟨(some 16), .plain (.load false 1), [.tmp 15], none⟩,
     ⟨(some 17), .call 255, [.lit (.int .i64 2), .tmp 16], none⟩,
     ⟨(some 18), .call 254, [.tmp 14, .tmp 17], none⟩,
     ⟨(some 6), .plain .mv, [.tmp 18], none⟩] [14, 15, 16, 17, 18])
   .skip))
  (.seq (.ops [⟨(some 19), .plain (.fieldAddr 2), [.tmp 2], none⟩,
    ⟨(some 20), .plain (.load false 1), [.tmp 19], none⟩,
    ⟨(some 7), .plain .mv, [.tmp 20], none⟩] [19, 20])
  (.seq (.seq (.ops [⟨(some 21), .plain (.fieldAddr 0), [.tmp 3], none⟩,
    ⟨(some 22), .plain (.load false 1), [.tmp 21], none⟩,
    ⟨(some 23), .plain (.bin .eql), [.tmp 22, .lit (.int .i64 2)], none⟩] [21, 22])
  (.cond (.tmp 23)
   (.ops [⟨(some 24), .plain .mv, [.tmp 7], none⟩,
     ⟨(some 25), .plain (.fieldAddr 2), [.tmp 3], none⟩,
     ⟨(some 26), .plain (.load false 1), [.tmp 25], none⟩,
     ⟨(some 27), .plain (.bin .add), [.tmp 24, .tmp 26], none⟩,
     ⟨(some 7), .plain .mv, [.tmp 27], none⟩] [24, 25, 26, 27])
   .skip))
  (.seq (.seq (.ops [⟨(some 28), .plain .mv, [.tmp 7], none⟩,
    ⟨(some 29), .plain (.bin .lss), [.tmp 28, .lit (.int .i64 0)], none⟩] [28])
  (.cond (.tmp 29)
   (.ops [⟨(some 30), .plain .mv, [.tmp 6], none⟩,
     ⟨(some 31), .plain .mv, [.tmp 7], none⟩,
     ⟨(some 32), .plain (.un .neg), [.tmp 31], none⟩,
     ⟨(some 33), .call 244, [.tmp 30, .tmp 32], none⟩,
     ⟨(some 6), .plain .mv, [.tmp 33], none⟩] [30, 31, 32, 33])
   (.ops [⟨(some 34), .plain .mv, [.tmp 6], none⟩,
     ⟨(some 35), .plain .mv, [.tmp 7], none⟩,
     ⟨(some 36), .call 243, [.tmp 34, .tmp 35], none⟩,
     ⟨(some 6), .plain .mv, [.tmp 36], none⟩] [34, 35, 36])))
  (.seq (.seq (.ops [⟨(some 37), .plain (.fieldAddr 0), [.tmp 3], none⟩,
    ⟨(some 38), .plain (.load false 1), [.tmp 37], none⟩,
    ⟨(some 39), .plain (.bin .eql), [.tmp 38, .lit (.int .i64 2)], none⟩] [37, 38])
  (.cond (.tmp 39)
   (.seq (.ops [⟨(some 40), .plain .mv, [.tmp 6], none⟩,
     ⟨(some 41), .plain (.len 1), [.tmp 40], none⟩,
     ⟨(some 42), .plain (.fieldAddr 1), [.tmp 3], none⟩,
     ⟨(some 43), .plain (.load false 1), [.tmp 42], none⟩,
     ⟨(some 44), .plain (.bin .gtr), [.tmp 41, .tmp 43], none⟩,
     ⟨(some 5), .plain .mv, [.tmp 44], none⟩] [40, 41, 42, 43, 44])
   (.ops [⟨(some 45), .plain .mv, [.tmp 6], none⟩,
     ⟨(some 46), .plain .mv, [.tmp 6], none⟩,
     ⟨(some 47), .plain (.len 1), [.tmp 46], none⟩,
     ⟨(some 48), .plain (.fieldAddr 1), [.tmp 3], none⟩,
     ⟨(some 49), .plain (.load false 1), [.tmp 48], none⟩,
     ⟨(some 50), .plain .min2, [.tmp 47, .tmp 49], none⟩,
     ⟨(some 51), .plain (.slice false true 1), [.tmp 45, .tmp 50], none⟩,
     ⟨(some 52), .call 245, [.tmp 51], none⟩,
     ⟨none, .plain (.store 1), [.tmp 4, .tmp 52], none⟩] [45, 46, 47, 48, 49, 50, 51, 52]))
   (.seq (.ops [⟨(some 53), .plain .mv, [.tmp 6], none⟩,
     ⟨(some 54), .plain (.fieldAddr 1), [.tmp 3], none⟩,
     ⟨(some 55), .plain (.load false 1), [.tmp 54], none⟩,
     ⟨(some 56), .call 255, [.lit (.int .i64 2), .tmp 55], none⟩,
     ⟨(some 57), .call 257, [.tmp 53, .tmp 56], none⟩,
     ⟨(some 58), .plain (.bin .geq), [.tmp 57, .lit (.int .i64 0)], none⟩,
     ⟨(some 5), .plain .mv, [.tmp 58], none⟩] [53, 54, 55, 56, 57, 58])
   (.seq (.ops [⟨(some 59), .plain .mv, [.tmp 6], none⟩,
     ⟨(some 60), .call 321, [.tmp 59], none⟩] [59])
   (.block 0
    (.rangeF (.tmp 60) [61]
     (.ops [⟨(some 8), .plain .mv, [.tmp 61], none⟩] [])
     (.block 1
      (.draw (.step ⟨(some 62), .plain (.load false 1), [.tmp 4], none⟩
        (.step ⟨(some 63), .plain (.bin .mul), [.tmp 62, .lit (.int .i64 10)], none⟩
        (.step ⟨(some 64), .plain .mv, [.tmp 8], none⟩
        (.step ⟨(some 65), .plain (.convInt .i64), [.tmp 64], none⟩
        (.step ⟨(some 66), .plain (.bin .add), [.tmp 63, .tmp 65], none⟩
        (.step ⟨(some 67), .plain (.fieldAddr 1), [.tmp 3], none⟩
        (.step ⟨(some 68), .plain (.load false 1), [.tmp 67], none⟩
        (.step ⟨(some 69), .plain (.bin .shl), [.lit (.int .i64 1), .tmp 68], none⟩
        (.step ⟨(some 70), .plain (.bin .sub), [.tmp 69, .lit (.int .i64 1)], none⟩
        (.step ⟨(some 71), .plain (.bin .and), [.tmp 66, .tmp 70], none⟩
        (.step ⟨none, .plain (.store 1), [.tmp 4, .tmp 71], none⟩
        .done))))))))))) [62, 63, 64, 65, 66, 67, 68, 69, 70, 71]))))))))
  (.seq (.seq (.ops [⟨(some 72), .plain (.fieldAddr 1), [.tmp 2], none⟩,
    ⟨(some 73), .plain (.load false 1), [.tmp 72], none⟩] [72])
  (.cond (.tmp 73)
   (.ops [⟨(some 74), .plain (.load false 1), [.tmp 4], none⟩,
     ⟨(some 75), .plain (.un .neg), [.tmp 74], none⟩,
     ⟨none, .plain (.store 1), [.tmp 4, .tmp 75], none⟩] [74, 75])
   .skip))
  (.seq (.ops [⟨(some 76), .plain (.load false 1), [.tmp 4], none⟩,
    ⟨(some 77), .plain .mv, [.tmp 5], none⟩,
    ⟨none, .plain (.store 1), [.tmp 4, .tmp 76], none⟩,
    ⟨(some 5), .plain .mv, [.tmp 77], none⟩] [76, 77])
  .ret)))))))))
def cr318 : List Res := [(4, some (false, 1)), (5, none)]
theorem ok318 : FOk Bk.pg.toProgram Bk.imp 318 c318 cr318 Tryz.f318.ntmps := ⟨Tryz.f318, _, Tryz.func318, rfl, by kernel_rfl, by kernel_rfl, by kernel_rfl, rfl⟩

/-- ironbark/digit.fitted -/
def c238 : SC :=
  (.seq (.ops [⟨(some 3), .plain (.box 3), [.tmp 0], none⟩,
    ⟨(some 4), .plain (.box 6), [.tmp 1], none⟩,
    ⟨(some 6), .plain (.alloc [(.int .i64 0), (.int .i64 0), (.int .i64 0), (.str ⟨#[]⟩)]), [], none⟩,
    ⟨(some 7), .plain .mv, [.lit (.int .i64 0)], none⟩] [])
  (.seq (.seq (.ops [⟨(some 10), .plain (.fieldAddr 0), [.tmp 4], none⟩,
    ⟨(some 11), .plain (.load false 1), [.tmp 10], none⟩,
    ⟨(some 12), .plain (.bin .eql), [.tmp 11, .lit (.int .i64 3)], none⟩] [10, 11])
  (.cond (.tmp 12)
   (.seq (.ops [⟨(some 13), .plain (.load true 3), [.tmp 3], none⟩,
     ⟨(some 14), .plain (.fieldAddr 1), [.tmp 4], none⟩,
     ⟨(some 15), .plain (.load false 1), [.tmp 14], none⟩,
     ⟨(some 16), .call 317, [.tmp 13, .tmp 15], none⟩,
     ⟨(some 17), .plain (.extract 0), [.tmp 16], none⟩,
     ⟨(some 18), .plain (.extract 1), [.tmp 16], none⟩,
     ⟨none, .plain (.store 4), [.tmp 6, .tmp 17], none⟩,
     ⟨(some 7), .plain .mv, [.tmp 18], none⟩] [13, 14, 15, 16, 17, 18])
   .ret)
   .skip))
  (.seq (.ops [⟨(some 20), .plain (.load true 3), [.tmp 3], none⟩,
    ⟨(some 21), .plain (.load true 6), [.tmp 4], none⟩,
    ⟨(some 22), .call 318, [.tmp 20, .tmp 21], none⟩,
    ⟨(some 19), .plain .mv, [.tmp 22], none⟩,
    ⟨(some 23), .plain (.extract 0), [.tmp 19], none⟩,
    ⟨(some 24), .plain (.extract 1), [.tmp 19], none⟩,
    ⟨(some 8), .plain .mv, [.tmp 23], none⟩,
    ⟨(some 9), .plain .mv, [.tmp 24], none⟩] [20, 21, 22, 19, 23, 24])
  (.seq (.seq (.ops [⟨(some 25), .plain .mv, [.tmp 9], none⟩,
    ⟨(some 26), .plain (.un .not), [.tmp 25], none⟩] [25])
  (.cond (.tmp 26)
   (.ops [⟨(some 2), .plain .mv, [.lit (.int .i64 0)], none⟩] [])
   .skip))
  (.seq (.ops [⟨(some 27), .plain (.fieldAddr 0), [.tmp 4], none⟩,
    ⟨(some 28), .plain (.load false 1), [.tmp 27], none⟩,
    ⟨(some 29), .plain .mv, [.tmp 8], none⟩,
    ⟨(some 30), .plain (.fieldAddr 2), [.tmp 4], none⟩,
    ⟨(some 31), .plain (.load false 1), [.tmp 30], none⟩,
    ⟨(some 32), .plain (.build [(.int .i64 0), (.int .i64 0), (.int .i64 0), (.str ⟨#[]⟩)] [(0, 1), (1, 1), (2, 1)]), [.tmp 28, .tmp 29, .tmp 31], none⟩,
    ⟨(some 33), .plain .mv, [.tmp 2], none⟩,
    ⟨none, .plain (.store 4), [.tmp 6, .tmp 32], none⟩,
    ⟨(some 7), .plain .mv, [.tmp 33], none⟩] [27, 28, 29, 30, 31, 32, 33])
  .ret)))))
def cr238 : List Res := [(6, some (true, 4)), (7, none)]
theorem ok238 : FOk Bk.pg.toProgram Bk.imp 238 c238 cr238 Tryz.f238.ntmps := ⟨Tryz.f238, _, Tryz.func238, rfl, by kernel_rfl, by kernel_rfl, by kernel_rfl, rfl⟩

/-- ironbark/digit.within -/
def c49 : SC :=
  (.seq (.ops [⟨(some 6), .plain .mv, [.lit (.bool false)], none⟩] [])
  (.seq (.ops [⟨(some 7), .plain .mv, [.tmp 0], none⟩,
    ⟨(some 8), .plain .mv, [.tmp 1], none⟩,
    ⟨(some 9), .plain (.bin .geq), [.tmp 7, .tmp 8], none⟩,
    ⟨(some 10), .plain .mv, [.tmp 9], none⟩,
    ⟨(some 11), .plain .mv, [.tmp 0], (some (10, true))⟩,
    ⟨(some 12), .plain .mv, [.tmp 2], (some (10, true))⟩,
    ⟨(some 13), .plain (.bin .leq), [.tmp 11, .tmp 12], (some (10, true))⟩,
    ⟨(some 14), .plain .pick, [.tmp 10, .tmp 13, .lit (.bool false)], none⟩,
    ⟨(some 6), .plain .mv, [.tmp 14], none⟩] [7, 8, 9, 10, 11, 12, 13, 14])
  .ret))
def cr49 : List Res := [(6, none)]
theorem ok49 : FOk Bk.pg.toProgram Bk.imp 49 c49 cr49 Tryz.f49.ntmps := ⟨Tryz.f49, _, Tryz.func49, rfl, by kernel_rfl, by kernel_rfl, by kernel_rfl, rfl⟩

/-- ironbark/digit.isNumber -/
def c242 : SC :=
  (.seq (.ops [⟨(some 2), .plain .mv, [.lit (.bool false)], none⟩] [])
  (.seq (.ops [⟨(some 3), .plain .mv, [.tmp 0], none⟩,
    ⟨(some 4), .call 49, [.tmp 3, .lit (.int .i64 1), .lit (.int .i64 3)], none⟩,
    ⟨(some 2), .plain .mv, [.tmp 4], none⟩] [3, 4])
  .ret))
def cr242 : List Res := [(2, none)]
theorem ok242 : FOk Bk.pg.toProgram Bk.imp 242 c242 cr242 Tryz.f242.ntmps := ⟨Tryz.f242, _, Tryz.func242, rfl, by kernel_rfl, by kernel_rfl, by kernel_rfl, rfl⟩

end Go.Pm
