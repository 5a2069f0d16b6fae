/- ZkS12: code, resolved. Written by gen.py out of what ShowSC.lean printed. -/
import Derived.Test.YtolfkdphlgkekaaGreatDoorGa
import Derived.Lib.Strings
import Derived.Lib.ItoaNum
import Derived.Lib.Join
namespace Go.Pm
open Go Go.Proofs

/-- ironbark/ironbarkref34.words -/
def c81 : SC :=
  (.seq (.ops [⟨(some 2), .plain .mv, [.lit .nilS], none⟩] [])
  (.seq (.ops [⟨(some 3), .plain .mv, [.lit .nilS], none⟩] [])
  (.seq (.ops [⟨(some 4), .plain .mv, [.lit (.str ⟨#[]⟩)], none⟩] [])
  (.seq (.seq (.ops [⟨(some 5), .plain .mv, [.lit (.int .i64 0)], none⟩] [])
  (.block 0
   (.loop
    (.seq (.seq (.ops [⟨(some 6), .plain .mv, [.tmp 5], none⟩,
      ⟨(some 7), .plain .mv, [.tmp 0], none⟩,
      ⟨(some 8), .plain (.len 0), [.tmp 7], none⟩,
      ⟨(some 9), .plain (.bin .leq), [.tmp 6, .tmp 8], none⟩] [6, 7, 8])
    (.cond (.tmp 9)
     .skip
     (.exit 0)))
    (.seq (.block 1
     (.seq (.seq (.ops [⟨(some 12), .plain .mv, [.tmp 5], none⟩,
       ⟨(some 13), .plain .mv, [.tmp 0], none⟩,
       ⟨(some 14), .plain (.len 0), [.tmp 13], none⟩,
       ⟨(some 15), .plain (.bin .lss), [.tmp 12, .tmp 14], none⟩,
       ⟨(some 16), .plain .mv, [.tmp 15], none⟩,
       ⟨(some 17), .plain .mv, [.tmp 0], (some (16, true))⟩,
       ⟨(some 18), .plain .mv, [.tmp 5], (some (16, true))⟩,
       ⟨(some 19), .plain .index, [.tmp 17, .tmp 18], (some (16, true))⟩,
       ⟨(some 20), .plain (.bin .neq), [.tmp 19, .lit (.int .u8 32)], (some (16, true))⟩,
       ⟨(some 21), .plain .pick, [.tmp 16, .tmp 20, .lit (.bool false)], none⟩] [12, 13, 14, 15, 16, 17, 18, 19, 20])
     (.cond (.tmp 21)
      (.seq (.ops [⟨(some 22), .plain .mv, [.tmp 4], none⟩,
        ⟨(some 23), .plain .mv, [.tmp 0], none⟩,
        ⟨(some 24), .plain .mv, [.tmp 5], none⟩,
        ⟨(some 25), .plain .mv, [.tmp 5], none⟩,
        ⟨(some 26), .plain (.bin .add), [.tmp 25, .lit (.int .i64 1)], none⟩,
        ⟨(some 27), .plain (.slice true true 0), [.tmp 23, .tmp 24, .tmp 26], none⟩,
        ⟨(some 28), .plain (.bin .add), [.tmp 22, .tmp 27], none⟩,
        ⟨(some 4), .plain .mv, [.tmp 28], none⟩] [22, 23, 24, 25, 26, 27, 28])
      (.exit 1))
      .skip))
     (.seq (.seq (.ops [⟨(some 29), .plain .mv, [.tmp 4], none⟩,
       ⟨(some 30), .plain (.bin .eql), [.tmp 29, .lit (.str ⟨#[]⟩)], none⟩] [29])
     (.cond (.tmp 30)
      (.seq (.ops [⟨(some 2), .plain .mv, [.lit .nilS], none⟩] [])
      .ret)
      .skip))
     (.ops [⟨(some 31), .plain .mv, [.tmp 3], none⟩,
       ⟨(some 32), .plain .mv, [.tmp 4], none⟩,
       ⟨(some 33), .plain (.buildRow 9 1 1 [(.str ⟨#[]⟩)] [0]), [.tmp 32], none⟩,
       ⟨(some 34), .plain (.append 9 1 16), [.tmp 31, .tmp 33], none⟩,
       ⟨(some 3), .plain .mv, [.tmp 34], none⟩,
       ⟨(some 4), .plain .mv, [.lit (.str ⟨#[]⟩)], none⟩] [31, 32, 33, 34]))))
    (.ops [⟨(some 10), .plain .mv, [.tmp 5], none⟩,
      ⟨(some 11), .plain (.bin .add), [.tmp 10, .lit (.int .i64 1)], none⟩,
      ⟨(some 5), .plain .mv, [.tmp 11], none⟩] [10, 11]))))))
  (.seq (.ops [⟨(some 35), .plain .mv, [.tmp 3], none⟩,
    ⟨(some 2), .plain .mv, [.tmp 35], none⟩] [35])
  .ret)))))
def cr81 : List Res := [(2, none)]
theorem ok81 : FOk Zk.pg.toProgram Zk.imp 81 c81 cr81 Tryz.f81.ntmps := ⟨Tryz.f81, _, Tryz.func81, rfl, by kernel_rfl, by kernel_rfl, by kernel_rfl, rfl⟩

/-- The figures, one by one. -/
def q84 : SC :=
  (.seq (.ops [⟨(some 5), .plain .mv, [.lit (.int .i64 0)], none⟩] [])
  (.seq (.seq (.ops [⟨(some 6), .plain .mv, [.lit (.int .i64 0)], none⟩] [])
  (.block 0
   (.loop
    (.seq (.seq (.ops [⟨(some 41), .plain .mv, [.tmp 6], none⟩,
      ⟨(some 42), .plain .mv, [.tmp 4], none⟩,
      ⟨(some 43), .plain (.len 0), [.tmp 42], none⟩,
      ⟨(some 44), .plain (.bin .lss), [.tmp 41, .tmp 43], none⟩] [41, 42, 43])
    (.cond (.tmp 44)
     .skip
     (.exit 0)))
    (.seq (.block 1
     (.seq (.seq (.ops [⟨(some 47), .plain .mv, [.tmp 4], none⟩,
       ⟨(some 48), .plain .mv, [.tmp 6], none⟩,
       ⟨(some 49), .plain .index, [.tmp 47, .tmp 48], none⟩,
       ⟨(some 50), .plain (.bin .lss), [.tmp 49, .lit (.int .u8 48)], none⟩,
       ⟨(some 51), .plain .mv, [.tmp 50], none⟩,
       ⟨(some 52), .plain .mv, [.tmp 4], (some (51, false))⟩,
       ⟨(some 53), .plain .mv, [.tmp 6], (some (51, false))⟩,
       ⟨(some 54), .plain .index, [.tmp 52, .tmp 53], (some (51, false))⟩,
       ⟨(some 55), .plain (.bin .gtr), [.tmp 54, .lit (.int .u8 57)], (some (51, false))⟩,
       ⟨(some 56), .plain .pick, [.tmp 51, .lit (.bool true), .tmp 55], none⟩] [47, 48, 49, 50, 51, 52, 53, 54, 55])
     (.cond (.tmp 56)
      (.seq (.ops [⟨(some 2), .plain .mv, [.lit (.int .i64 0)], none⟩,
        ⟨(some 3), .plain .mv, [.lit (.bool false)], none⟩] [])
      .ret)
      .skip))
     (.ops [⟨(some 57), .plain .mv, [.tmp 5], none⟩,
       ⟨(some 58), .plain (.bin .mul), [.tmp 57, .lit (.int .i64 10)], none⟩,
       ⟨(some 59), .plain .mv, [.tmp 4], none⟩,
       ⟨(some 60), .plain .mv, [.tmp 6], none⟩,
       ⟨(some 61), .plain .index, [.tmp 59, .tmp 60], none⟩,
       ⟨(some 62), .plain (.bin .sub), [.tmp 61, .lit (.int .u8 48)], none⟩,
       ⟨(some 63), .plain (.convInt .i64), [.tmp 62], none⟩,
       ⟨(some 64), .plain (.bin .add), [.tmp 58, .tmp 63], none⟩,
       ⟨(some 5), .plain .mv, [.tmp 64], none⟩] [57, 58, 59, 60, 61, 62, 63, 64])))
    (.ops [⟨(some 45), .plain .mv, [.tmp 6], none⟩,
      ⟨(some 46), .plain (.bin .add), [.tmp 45, .lit (.int .i64 1)], none⟩,
      ⟨(some 6), .plain .mv, [.tmp 46], none⟩] [45, 46]))))))
  (.seq (.seq (.ops [⟨(some 65), .plain .mv, [.tmp 0], none⟩,
    ⟨(some 66), .plain (.len 0), [.tmp 65], none⟩,
    ⟨(some 67), .plain .mv, [.tmp 4], none⟩,
    ⟨(some 68), .plain (.len 0), [.tmp 67], none⟩,
    ⟨(some 69), .plain (.bin .gtr), [.tmp 66, .tmp 68], none⟩] [65, 66, 67, 68])
  (.cond (.tmp 69)
   (.ops [⟨(some 70), .plain .mv, [.tmp 5], none⟩,
     ⟨(some 71), .plain (.un .neg), [.tmp 70], none⟩,
     ⟨(some 5), .plain .mv, [.tmp 71], none⟩] [70, 71])
   .skip))
  (.seq (.ops [⟨(some 72), .plain .mv, [.tmp 5], none⟩,
    ⟨(some 2), .plain .mv, [.tmp 72], none⟩,
    ⟨(some 3), .plain .mv, [.lit (.bool true)], none⟩] [72])
  .ret))))
/-- Behind the sign. -/
def r84 : SC :=
  (.seq (.seq (.ops [⟨(some 18), .plain .mv, [.tmp 4], none⟩,
    ⟨(some 19), .plain (.len 0), [.tmp 18], none⟩,
    ⟨(some 20), .plain (.bin .lss), [.tmp 19, .lit (.int .i64 1)], none⟩,
    ⟨(some 21), .plain .mv, [.tmp 20], none⟩,
    ⟨(some 22), .plain .mv, [.tmp 4], (some (21, false))⟩,
    ⟨(some 23), .plain (.len 0), [.tmp 22], (some (21, false))⟩,
    ⟨(some 24), .plain (.bin .gtr), [.tmp 23, .lit (.int .i64 10)], (some (21, false))⟩,
    ⟨(some 25), .plain .pick, [.tmp 21, .lit (.bool true), .tmp 24], none⟩,
    ⟨(some 26), .plain .mv, [.tmp 25], none⟩,
    ⟨(some 27), .plain .mv, [.tmp 4], (some (26, false))⟩,
    ⟨(some 28), .plain .index, [.tmp 27, .lit (.int .i64 0)], (some (26, false))⟩,
    ⟨(some 29), .plain (.bin .eql), [.tmp 28, .lit (.int .u8 48)], (some (26, false))⟩,
    ⟨(some 30), .plain .mv, [.tmp 29], (some (26, false))⟩,
    ⟨(some 31), .plain .mv, [.tmp 4], (some (30, true))⟩,
    ⟨(some 32), .plain (.len 0), [.tmp 31], (some (30, true))⟩,
    ⟨(some 33), .plain (.bin .gtr), [.tmp 32, .lit (.int .i64 1)], (some (30, true))⟩,
    ⟨(some 34), .plain .mv, [.tmp 33], (some (30, true))⟩,
    ⟨(some 35), .plain .mv, [.tmp 0], (some (34, false))⟩,
    ⟨(some 36), .plain (.len 0), [.tmp 35], (some (34, false))⟩,
    ⟨(some 37), .plain (.bin .gtr), [.tmp 36, .lit (.int .i64 1)], (some (34, false))⟩,
    ⟨(some 38), .plain .pick, [.tmp 34, .lit (.bool true), .tmp 37], (some (30, true))⟩,
    ⟨(some 39), .plain .pick, [.tmp 30, .tmp 38, .lit (.bool false)], (some (26, false))⟩,
    ⟨(some 40), .plain .pick, [.tmp 26, .lit (.bool true), .tmp 39], none⟩] [18, 19, 20, 21, 22, 23, 24, 25, 26, 27, 28, 29, 30, 31, 32, 33, 34, 35, 36, 37, 38, 39])
  (.cond (.tmp 40)
   (.seq (.ops [⟨(some 2), .plain .mv, [.lit (.int .i64 0)], none⟩,
     ⟨(some 3), .plain .mv, [.lit (.bool false)], none⟩] [])
   .ret)
   .skip))
  q84)
/-- ironbark/ironbarkref34.number -/
def c84 : SC :=
  (.seq (.ops [⟨(some 2), .plain .mv, [.lit (.int .i64 0)], none⟩,
    ⟨(some 3), .plain .mv, [.lit (.bool false)], none⟩] [])
  (.seq (.ops [⟨(some 7), .plain .mv, [.tmp 0], none⟩,
    ⟨(some 4), .plain .mv, [.tmp 7], none⟩] [7])
  (.seq (.seq (.ops [⟨(some 8), .plain .mv, [.tmp 4], none⟩,
    ⟨(some 9), .plain (.len 0), [.tmp 8], none⟩,
    ⟨(some 10), .plain (.bin .gtr), [.tmp 9, .lit (.int .i64 0)], none⟩,
    ⟨(some 11), .plain .mv, [.tmp 10], none⟩,
    ⟨(some 12), .plain .mv, [.tmp 4], (some (11, true))⟩,
    ⟨(some 13), .plain .index, [.tmp 12, .lit (.int .i64 0)], (some (11, true))⟩,
    ⟨(some 14), .plain (.bin .eql), [.tmp 13, .lit (.int .u8 45)], (some (11, true))⟩,
    ⟨(some 15), .plain .pick, [.tmp 11, .tmp 14, .lit (.bool false)], none⟩] [8, 9, 10, 11, 12, 13, 14])
  (.cond (.tmp 15)
   (.ops [⟨(some 16), .plain .mv, [.tmp 4], none⟩,
     ⟨(some 17), .plain (.slice true false 0), [.tmp 16, .lit (.int .i64 1)], none⟩,
     ⟨(some 4), .plain .mv, [.tmp 17], none⟩] [16, 17])
   .skip))
  r84)))
def cr84 : List Res := [(2, none), (3, none)]
theorem ok84 : FOk Zk.pg.toProgram Zk.imp 84 c84 cr84 Tryz.f84.ntmps := ⟨Tryz.f84, _, Tryz.func84, rfl, by kernel_rfl, by kernel_rfl, by kernel_rfl, rfl⟩

/-- (*ironbark/ironbarkref34.reading).line -/
def c28 : SC :=
  (.seq (.ops [⟨(some 4), .plain .mv, [.lit (.bool false)], none⟩] [])
  (.seq (.ops [⟨(some 20), .plain .mv, [.tmp 1], none⟩,
    ⟨(some 21), .call 81, [.tmp 20], none⟩,
    ⟨(some 5), .plain .mv, [.tmp 21], none⟩] [20, 21])
  (.seq (.seq (.ops [⟨(some 22), .plain .mv, [.tmp 5], none⟩,
    ⟨(some 23), .plain (.len 1), [.tmp 22], none⟩,
    ⟨(some 24), .plain (.bin .eql), [.tmp 23, .lit (.int .i64 0)], none⟩,
    ⟨(some 25), .plain .mv, [.tmp 24], none⟩,
    ⟨(some 26), .plain .mv, [.tmp 0], (some (25, false))⟩,
    ⟨(some 27), .plain .nilCheck, [.tmp 26], (some (25, false))⟩,
    ⟨(some 28), .plain (.fieldAddr 5), [.tmp 27], (some (25, false))⟩,
    ⟨(some 29), .plain (.load false 1), [.tmp 28], (some (25, false))⟩,
    ⟨(some 30), .plain (.bin .eql), [.tmp 29, .lit (.int .i64 6)], (some (25, false))⟩,
    ⟨(some 31), .plain .pick, [.tmp 25, .lit (.bool true), .tmp 30], none⟩] [22, 23, 24, 25, 26, 27, 28, 29, 30])
  (.cond (.tmp 31)
   (.seq (.ops [⟨(some 4), .plain .mv, [.lit (.bool false)], none⟩] [])
   .ret)
   .skip))
  (.seq (.block 0
   (.seq (.ops [⟨(some 33), .plain .mv, [.tmp 5], none⟩,
     ⟨(some 34), .plain (.indexAddr 1), [.tmp 33, .lit (.int .i64 0)], none⟩,
     ⟨(some 35), .plain (.load false 1), [.tmp 34], none⟩,
     ⟨(some 36), .plain (.bin .eql), [.tmp 35, .lit (.str ⟨#[79, 66, 74, 69, 67, 84]⟩)], none⟩,
     ⟨(some 37), .plain .mv, [.tmp 36], none⟩,
     ⟨(some 38), .plain .mv, [.tmp 5], (some (37, true))⟩,
     ⟨(some 39), .plain (.len 1), [.tmp 38], (some (37, true))⟩,
     ⟨(some 40), .plain (.bin .eql), [.tmp 39, .lit (.int .i64 2)], (some (37, true))⟩,
     ⟨(some 41), .plain .pick, [.tmp 37, .tmp 40, .lit (.bool false)], none⟩,
     ⟨(some 42), .plain .mv, [.tmp 41], none⟩,
     ⟨(some 43), .plain .mv, [.tmp 0], (some (42, true))⟩,
     ⟨(some 44), .plain .nilCheck, [.tmp 43], (some (42, true))⟩,
     ⟨(some 45), .plain (.fieldAddr 5), [.tmp 44], (some (42, true))⟩,
     ⟨(some 46), .plain (.load false 1), [.tmp 45], (some (42, true))⟩,
     ⟨(some 47), .plain (.bin .eql), [.tmp 46, .lit (.int .i64 0)], (some (42, true))⟩,
     ⟨(some 48), .plain .pick, [.tmp 42, .tmp 47, .lit (.bool false)], none⟩,
     ⟨(some 49), .plain .mv, [.tmp 48], none⟩,
     ⟨(some 50), .plain .mv, [.tmp 5], (some (49, true))⟩,
     ⟨(some 51), .plain (.indexAddr 1), [.tmp 50, .lit (.int .i64 1)], (some (49, true))⟩,
     ⟨(some 52), .plain (.load false 1), [.tmp 51], (some (49, true))⟩,
     ⟨(some 53), .call 82, [.tmp 52], (some (49, true))⟩,
     ⟨(some 54), .plain .pick, [.tmp 49, .tmp 53, .lit (.bool false)], none⟩,
     ⟨(some 32), .plain .mv, [.tmp 54], none⟩] [33, 34, 35, 36, 37, 38, 39, 40, 41, 42, 43, 44, 45, 46, 47, 48, 49, 50, 51, 52, 53, 54])
   (.cond (.tmp 32)
    (.seq (.ops [⟨(some 55), .plain .mv, [.tmp 0], none⟩,
      ⟨(some 56), .plain .mv, [.tmp 0], none⟩,
      ⟨(some 57), .plain .mv, [.tmp 0], none⟩,
      ⟨(some 58), .plain .mv, [.tmp 5], none⟩,
      ⟨(some 59), .plain (.indexAddr 1), [.tmp 58, .lit (.int .i64 1)], none⟩,
      ⟨(some 60), .plain (.load false 1), [.tmp 59], none⟩,
      ⟨(some 61), .plain .nilCheck, [.tmp 55], none⟩,
      ⟨(some 62), .plain (.fieldAddr 0), [.tmp 61], none⟩,
      ⟨(some 63), .plain (.fieldAddr 0), [.tmp 62], none⟩,
      ⟨none, .plain (.store 1), [.tmp 63, .tmp 60], none⟩,
      ⟨(some 64), .plain .nilCheck, [.tmp 56], none⟩,
      ⟨(some 65), .plain (.fieldAddr 5), [.tmp 64], none⟩,
      ⟨none, .plain (.store 1), [.tmp 65, .lit (.int .i64 1)], none⟩,
      ⟨(some 66), .plain .nilCheck, [.tmp 57], none⟩,
      ⟨(some 67), .plain (.fieldAddr 6), [.tmp 66], none⟩,
      ⟨none, .plain (.store 1), [.tmp 67, .lit (.bool true)], none⟩] [55, 56, 57, 58, 59, 60, 61, 62, 63, 64, 65, 66, 67])
    (.seq (.ops [⟨(some 4), .plain .mv, [.lit (.bool true)], none⟩] [])
    .ret))
    (.seq (.ops [⟨(some 69), .plain .mv, [.tmp 0], none⟩,
      ⟨(some 70), .plain .nilCheck, [.tmp 69], none⟩,
      ⟨(some 71), .plain (.fieldAddr 5), [.tmp 70], none⟩,
      ⟨(some 72), .plain (.load false 1), [.tmp 71], none⟩,
      ⟨(some 73), .plain (.bin .eql), [.tmp 72, .lit (.int .i64 0)], none⟩,
      ⟨(some 68), .plain .mv, [.tmp 73], none⟩] [69, 70, 71, 72, 73])
    (.cond (.tmp 68)
     (.seq (.ops [⟨(some 4), .plain .mv, [.lit (.bool false)], none⟩] [])
     .ret)
     (.seq (.ops [⟨(some 75), .plain .mv, [.tmp 5], none⟩,
       ⟨(some 76), .plain (.indexAddr 1), [.tmp 75, .lit (.int .i64 0)], none⟩,
       ⟨(some 77), .plain (.load false 1), [.tmp 76], none⟩,
       ⟨(some 78), .plain (.bin .eql), [.tmp 77, .lit (.str ⟨#[67, 79, 68, 69]⟩)], none⟩,
       ⟨(some 79), .plain .mv, [.tmp 78], none⟩,
       ⟨(some 80), .plain .mv, [.tmp 5], (some (79, true))⟩,
       ⟨(some 81), .plain (.len 1), [.tmp 80], (some (79, true))⟩,
       ⟨(some 82), .plain (.bin .eql), [.tmp 81, .lit (.int .i64 2)], (some (79, true))⟩,
       ⟨(some 83), .plain .pick, [.tmp 79, .tmp 82, .lit (.bool false)], none⟩,
       ⟨(some 84), .plain .mv, [.tmp 83], none⟩,
       ⟨(some 85), .plain .mv, [.tmp 0], (some (84, true))⟩,
       ⟨(some 86), .plain .nilCheck, [.tmp 85], (some (84, true))⟩,
       ⟨(some 87), .plain (.fieldAddr 5), [.tmp 86], (some (84, true))⟩,
       ⟨(some 88), .plain (.load false 1), [.tmp 87], (some (84, true))⟩,
       ⟨(some 89), .plain (.bin .leq), [.tmp 88, .lit (.int .i64 2)], (some (84, true))⟩,
       ⟨(some 90), .plain .pick, [.tmp 84, .tmp 89, .lit (.bool false)], none⟩,
       ⟨(some 91), .plain .mv, [.tmp 90], none⟩,
       ⟨(some 92), .plain .mv, [.tmp 0], (some (91, true))⟩,
       ⟨(some 93), .plain .nilCheck, [.tmp 92], (some (91, true))⟩,
       ⟨(some 94), .plain (.fieldAddr 6), [.tmp 93], (some (91, true))⟩,
       ⟨(some 95), .plain (.load false 1), [.tmp 94], (some (91, true))⟩,
       ⟨(some 96), .plain .pick, [.tmp 91, .tmp 95, .lit (.bool false)], none⟩,
       ⟨(some 74), .plain .mv, [.tmp 96], none⟩] [75, 76, 77, 78, 79, 80, 81, 82, 83, 84, 85, 86, 87, 88, 89, 90, 91, 92, 93, 94, 95, 96])
     (.cond (.tmp 74)
      (.seq (.ops [⟨(some 97), .plain .mv, [.tmp 5], none⟩,
        ⟨(some 98), .plain (.indexAddr 1), [.tmp 97, .lit (.int .i64 1)], none⟩,
        ⟨(some 99), .plain (.load false 1), [.tmp 98], none⟩,
        ⟨(some 6), .plain .mv, [.tmp 99], none⟩] [97, 98, 99])
      (.seq (.seq (.ops [⟨(some 100), .plain .mv, [.tmp 6], none⟩,
        ⟨(some 101), .plain (.len 0), [.tmp 100], none⟩,
        ⟨(some 102), .plain (.bin .rem), [.tmp 101, .lit (.int .i64 2)], none⟩,
        ⟨(some 103), .plain (.bin .neq), [.tmp 102, .lit (.int .i64 0)], none⟩,
        ⟨(some 104), .plain .mv, [.tmp 103], none⟩,
        ⟨(some 105), .plain .mv, [.tmp 6], (some (104, false))⟩,
        ⟨(some 106), .plain (.len 0), [.tmp 105], (some (104, false))⟩,
        ⟨(some 107), .plain (.bin .gtr), [.tmp 106, .lit (.int .i64 64)], (some (104, false))⟩,
        ⟨(some 108), .plain .pick, [.tmp 104, .lit (.bool true), .tmp 107], none⟩] [100, 101, 102, 103, 104, 105, 106, 107])
      (.cond (.tmp 108)
       (.seq (.ops [⟨(some 4), .plain .mv, [.lit (.bool false)], none⟩] [])
       .ret)
       .skip))
      (.seq (.seq (.ops [⟨(some 7), .plain .mv, [.lit (.int .i64 0)], none⟩] [])
      (.block 1
       (.loop
        (.seq (.seq (.ops [⟨(some 109), .plain .mv, [.tmp 7], none⟩,
          ⟨(some 110), .plain .mv, [.tmp 6], none⟩,
          ⟨(some 111), .plain (.len 0), [.tmp 110], none⟩,
          ⟨(some 112), .plain (.bin .lss), [.tmp 109, .tmp 111], none⟩] [109, 110, 111])
        (.cond (.tmp 112)
         .skip
         (.exit 1)))
        (.seq (.block 2
         (.seq (.draw (.step ⟨(some 115), .plain .mv, [.tmp 6], none⟩
           (.step ⟨(some 116), .plain .mv, [.tmp 7], none⟩
           (.step ⟨(some 117), .plain .index, [.tmp 115, .tmp 116], none⟩
           (.step ⟨(some 118), .call 83, [.tmp 117], none⟩
           (.step ⟨(some 119), .plain .mv, [.tmp 6], none⟩
           (.step ⟨(some 120), .plain .mv, [.tmp 7], none⟩
           (.step ⟨(some 121), .plain (.bin .add), [.tmp 120, .lit (.int .i64 1)], none⟩
           (.step ⟨(some 122), .plain .index, [.tmp 119, .tmp 121], none⟩
           (.step ⟨(some 123), .call 83, [.tmp 122], none⟩
           (.step ⟨(some 8), .plain .mv, [.tmp 118], none⟩
           (.step ⟨(some 9), .plain .mv, [.tmp 123], none⟩
           .done))))))))))) [115, 116, 117, 118, 119, 120, 121, 122, 123])
         (.seq (.seq (.ops [⟨(some 124), .plain .mv, [.tmp 8], none⟩,
           ⟨(some 125), .plain (.bin .lss), [.tmp 124, .lit (.int .i64 0)], none⟩,
           ⟨(some 126), .plain .mv, [.tmp 125], none⟩,
           ⟨(some 127), .plain .mv, [.tmp 9], (some (126, false))⟩,
           ⟨(some 128), .plain (.bin .lss), [.tmp 127, .lit (.int .i64 0)], (some (126, false))⟩,
           ⟨(some 129), .plain .pick, [.tmp 126, .lit (.bool true), .tmp 128], none⟩] [124, 125, 126, 127, 128])
         (.cond (.tmp 129)
          (.seq (.ops [⟨(some 4), .plain .mv, [.lit (.bool false)], none⟩] [])
          .ret)
          .skip))
         (.draw (.step ⟨(some 130), .plain .mv, [.tmp 0], none⟩
           (.step ⟨(some 131), .plain .nilCheck, [.tmp 130], none⟩
           (.step ⟨(some 132), .plain (.fieldAddr 0), [.tmp 131], none⟩
           (.step ⟨(some 133), .plain (.fieldAddr 1), [.tmp 132], none⟩
           (.step ⟨(some 134), .plain (.load false 1), [.tmp 133], none⟩
           (.step ⟨(some 135), .plain .mv, [.tmp 8], none⟩
           (.step ⟨(some 136), .plain (.bin .mul), [.lit (.int .i64 16), .tmp 135], none⟩
           (.step ⟨(some 137), .plain .mv, [.tmp 9], none⟩
           (.step ⟨(some 138), .plain (.bin .add), [.tmp 136, .tmp 137], none⟩
           (.step ⟨(some 139), .plain (.convInt .u8), [.tmp 138], none⟩
           (.step ⟨(some 140), .plain (.buildRow 5 1 1 [(.int .u8 0)] [0]), [.tmp 139], none⟩
           (.step ⟨(some 141), .plain .bytesToStr, [.tmp 140], none⟩
           (.step ⟨(some 142), .plain (.bin .add), [.tmp 134, .tmp 141], none⟩
           (.step ⟨(some 143), .plain .nilCheck, [.tmp 130], none⟩
           (.step ⟨(some 144), .plain (.fieldAddr 0), [.tmp 143], none⟩
           (.step ⟨(some 145), .plain (.fieldAddr 1), [.tmp 144], none⟩
           (.step ⟨none, .plain (.store 1), [.tmp 145, .tmp 142], none⟩
           .done))))))))))))))))) [130, 131, 132, 133, 134, 135, 136, 137, 138, 139, 140, 141, 142, 143, 144, 145]))))
        (.ops [⟨(some 113), .plain .mv, [.tmp 7], none⟩,
          ⟨(some 114), .plain (.bin .add), [.tmp 113, .lit (.int .i64 2)], none⟩,
          ⟨(some 7), .plain .mv, [.tmp 114], none⟩] [113, 114]))))))
      (.seq (.ops [⟨(some 146), .plain .mv, [.tmp 0], none⟩,
        ⟨(some 147), .plain .mv, [.tmp 0], none⟩,
        ⟨(some 148), .plain .mv, [.tmp 6], none⟩,
        ⟨(some 149), .plain (.len 0), [.tmp 148], none⟩,
        ⟨(some 150), .plain (.bin .eql), [.tmp 149, .lit (.int .i64 64)], none⟩,
        ⟨(some 151), .plain .nilCheck, [.tmp 146], none⟩,
        ⟨(some 152), .plain (.fieldAddr 5), [.tmp 151], none⟩,
        ⟨none, .plain (.store 1), [.tmp 152, .lit (.int .i64 2)], none⟩,
        ⟨(some 153), .plain .nilCheck, [.tmp 147], none⟩,
        ⟨(some 154), .plain (.fieldAddr 6), [.tmp 153], none⟩,
        ⟨none, .plain (.store 1), [.tmp 154, .tmp 150], none⟩] [146, 147, 148, 149, 150, 151, 152, 153, 154])
      (.seq (.ops [⟨(some 4), .plain .mv, [.lit (.bool true)], none⟩] [])
      .ret)))))
      (.seq (.ops [⟨(some 156), .plain .mv, [.tmp 5], none⟩,
        ⟨(some 157), .plain (.indexAddr 1), [.tmp 156, .lit (.int .i64 0)], none⟩,
        ⟨(some 158), .plain (.load false 1), [.tmp 157], none⟩,
        ⟨(some 159), .plain (.bin .eql), [.tmp 158, .lit (.str ⟨#[68, 69, 70]⟩)], none⟩,
        ⟨(some 160), .plain .mv, [.tmp 159], none⟩,
        ⟨(some 161), .plain .mv, [.tmp 5], (some (160, true))⟩,
        ⟨(some 162), .plain (.len 1), [.tmp 161], (some (160, true))⟩,
        ⟨(some 163), .plain (.bin .eql), [.tmp 162, .lit (.int .i64 3)], (some (160, true))⟩,
        ⟨(some 164), .plain .pick, [.tmp 160, .tmp 163, .lit (.bool false)], none⟩,
        ⟨(some 165), .plain .mv, [.tmp 164], none⟩,
        ⟨(some 166), .plain .mv, [.tmp 0], (some (165, true))⟩,
        ⟨(some 167), .plain .nilCheck, [.tmp 166], (some (165, true))⟩,
        ⟨(some 168), .plain (.fieldAddr 5), [.tmp 167], (some (165, true))⟩,
        ⟨(some 169), .plain (.load false 1), [.tmp 168], (some (165, true))⟩,
        ⟨(some 170), .plain (.bin .leq), [.tmp 169, .lit (.int .i64 3)], (some (165, true))⟩,
        ⟨(some 171), .plain .pick, [.tmp 165, .tmp 170, .lit (.bool false)], none⟩,
        ⟨(some 172), .plain .mv, [.tmp 171], none⟩,
        ⟨(some 173), .plain .mv, [.tmp 5], (some (172, true))⟩,
        ⟨(some 174), .plain (.indexAddr 1), [.tmp 173, .lit (.int .i64 1)], (some (172, true))⟩,
        ⟨(some 175), .plain (.load false 1), [.tmp 174], (some (172, true))⟩,
        ⟨(some 176), .call 82, [.tmp 175], (some (172, true))⟩,
        ⟨(some 177), .plain .pick, [.tmp 172, .tmp 176, .lit (.bool false)], none⟩,
        ⟨(some 155), .plain .mv, [.tmp 177], none⟩] [156, 157, 158, 159, 160, 161, 162, 163, 164, 165, 166, 167, 168, 169, 170, 171, 172, 173, 174, 175, 176, 177])
      (.cond (.tmp 155)
       (.seq (.ops [⟨(some 179), .plain .mv, [.tmp 5], none⟩,
         ⟨(some 180), .plain (.indexAddr 1), [.tmp 179, .lit (.int .i64 2)], none⟩,
         ⟨(some 181), .plain (.load false 1), [.tmp 180], none⟩,
         ⟨(some 182), .call 84, [.tmp 181], none⟩,
         ⟨(some 178), .plain .mv, [.tmp 182], none⟩,
         ⟨(some 183), .plain (.extract 0), [.tmp 178], none⟩,
         ⟨(some 184), .plain (.extract 1), [.tmp 178], none⟩,
         ⟨(some 10), .plain .mv, [.tmp 183], none⟩,
         ⟨(some 11), .plain .mv, [.tmp 184], none⟩] [179, 180, 181, 182, 178, 183, 184])
       (.seq (.draw (.step ⟨(some 185), .plain .mv, [.tmp 0], none⟩
         (.step ⟨(some 186), .plain .mv, [.tmp 0], none⟩
         (.step ⟨(some 187), .plain .mv, [.tmp 0], none⟩
         (.step ⟨(some 188), .plain .nilCheck, [.tmp 187], none⟩
         (.step ⟨(some 189), .plain (.fieldAddr 0), [.tmp 188], none⟩
         (.step ⟨(some 190), .plain (.fieldAddr 2), [.tmp 189], none⟩
         (.step ⟨(some 191), .plain (.load false 1), [.tmp 190], none⟩
         (.step ⟨(some 192), .plain .mv, [.tmp 5], none⟩
         (.step ⟨(some 193), .plain (.indexAddr 1), [.tmp 192, .lit (.int .i64 1)], none⟩
         (.step ⟨(some 194), .plain (.load false 1), [.tmp 193], none⟩
         (.step ⟨(some 195), .plain .mv, [.tmp 10], none⟩
         (.step ⟨(some 196), .plain (.build [(.str ⟨#[]⟩), (.int .i64 0)] [(0, 1), (1, 1)]), [.tmp 194, .tmp 195], none⟩
         (.step ⟨(some 197), .plain (.buildRow 65 2 1 [(.str ⟨#[]⟩), (.int .i64 0)] [0]), [.tmp 196], none⟩
         (.step ⟨(some 198), .plain (.append 65 2 24), [.tmp 191, .tmp 197], none⟩
         (.step ⟨(some 199), .plain .nilCheck, [.tmp 185], none⟩
         (.step ⟨(some 200), .plain (.fieldAddr 0), [.tmp 199], none⟩
         (.step ⟨(some 201), .plain (.fieldAddr 2), [.tmp 200], none⟩
         (.step ⟨none, .plain (.store 1), [.tmp 201, .tmp 198], none⟩
         (.step ⟨(some 202), .plain .nilCheck, [.tmp 186], none⟩
         (.step ⟨(some 203), .plain (.fieldAddr 5), [.tmp 202], none⟩
         (.step ⟨none, .plain (.store 1), [.tmp 203, .lit (.int .i64 3)], none⟩
         .done))))))))))))))))))))) [185, 186, 187, 188, 189, 190, 191, 192, 193, 194, 195, 196, 197, 198, 199, 200, 201, 202, 203])
       (.seq (.ops [⟨(some 204), .plain .mv, [.tmp 11], none⟩,
         ⟨(some 4), .plain .mv, [.tmp 204], none⟩] [204])
       .ret)))
       (.seq (.ops [⟨(some 206), .plain .mv, [.tmp 5], none⟩,
         ⟨(some 207), .plain (.indexAddr 1), [.tmp 206, .lit (.int .i64 0)], none⟩,
         ⟨(some 208), .plain (.load false 1), [.tmp 207], none⟩,
         ⟨(some 209), .plain (.bin .eql), [.tmp 208, .lit (.str ⟨#[82, 69, 70]⟩)], none⟩,
         ⟨(some 210), .plain .mv, [.tmp 209], none⟩,
         ⟨(some 211), .plain .mv, [.tmp 5], (some (210, true))⟩,
         ⟨(some 212), .plain (.len 1), [.tmp 211], (some (210, true))⟩,
         ⟨(some 213), .plain (.bin .eql), [.tmp 212, .lit (.int .i64 4)], (some (210, true))⟩,
         ⟨(some 214), .plain .pick, [.tmp 210, .tmp 213, .lit (.bool false)], none⟩,
         ⟨(some 215), .plain .mv, [.tmp 214], none⟩,
         ⟨(some 216), .plain .mv, [.tmp 0], (some (215, true))⟩,
         ⟨(some 217), .plain .nilCheck, [.tmp 216], (some (215, true))⟩,
         ⟨(some 218), .plain (.fieldAddr 5), [.tmp 217], (some (215, true))⟩,
         ⟨(some 219), .plain (.load false 1), [.tmp 218], (some (215, true))⟩,
         ⟨(some 220), .plain (.bin .leq), [.tmp 219, .lit (.int .i64 4)], (some (215, true))⟩,
         ⟨(some 221), .plain .pick, [.tmp 215, .tmp 220, .lit (.bool false)], none⟩,
         ⟨(some 222), .plain .mv, [.tmp 221], none⟩,
         ⟨(some 223), .plain .mv, [.tmp 5], (some (222, true))⟩,
         ⟨(some 224), .plain (.indexAddr 1), [.tmp 223, .lit (.int .i64 2)], (some (222, true))⟩,
         ⟨(some 225), .plain (.load false 1), [.tmp 224], (some (222, true))⟩,
         ⟨(some 226), .call 82, [.tmp 225], (some (222, true))⟩,
         ⟨(some 227), .plain .pick, [.tmp 222, .tmp 226, .lit (.bool false)], none⟩,
         ⟨(some 205), .plain .mv, [.tmp 227], none⟩] [206, 207, 208, 209, 210, 211, 212, 213, 214, 215, 216, 217, 218, 219, 220, 221, 222, 223, 224, 225, 226, 227])
       (.cond (.tmp 205)
        (.seq (.ops [⟨(some 229), .plain .mv, [.tmp 5], none⟩,
          ⟨(some 230), .plain (.indexAddr 1), [.tmp 229, .lit (.int .i64 1)], none⟩,
          ⟨(some 231), .plain (.load false 1), [.tmp 230], none⟩,
          ⟨(some 232), .call 84, [.tmp 231], none⟩,
          ⟨(some 228), .plain .mv, [.tmp 232], none⟩,
          ⟨(some 233), .plain (.extract 0), [.tmp 228], none⟩,
          ⟨(some 234), .plain (.extract 1), [.tmp 228], none⟩,
          ⟨(some 12), .plain .mv, [.tmp 233], none⟩,
          ⟨(some 13), .plain .mv, [.tmp 234], none⟩] [229, 230, 231, 232, 228, 233, 234])
        (.seq (.ops [⟨(some 236), .plain .mv, [.tmp 5], none⟩,
          ⟨(some 237), .plain (.indexAddr 1), [.tmp 236, .lit (.int .i64 3)], none⟩,
          ⟨(some 238), .plain (.load false 1), [.tmp 237], none⟩,
          ⟨(some 239), .call 84, [.tmp 238], none⟩,
          ⟨(some 235), .plain .mv, [.tmp 239], none⟩,
          ⟨(some 240), .plain (.extract 0), [.tmp 235], none⟩,
          ⟨(some 241), .plain (.extract 1), [.tmp 235], none⟩,
          ⟨(some 14), .plain .mv, [.tmp 240], none⟩,
          ⟨(some 15), .plain .mv, [.tmp 241], none⟩] [236, 237, 238, 239, 235, 240, 241])
        (.seq (.draw (.step ⟨(some 242), .plain .mv, [.tmp 0], none⟩
          (.step ⟨(some 243), .plain .mv, [.tmp 0], none⟩
          (.step ⟨(some 244), .plain .mv, [.tmp 0], none⟩
          (.step ⟨(some 245), .plain .nilCheck, [.tmp 244], none⟩
          (.step ⟨(some 246), .plain (.fieldAddr 0), [.tmp 245], none⟩
          (.step ⟨(some 247), .plain (.fieldAddr 3), [.tmp 246], none⟩
          (.step ⟨(some 248), .plain (.load false 1), [.tmp 247], none⟩
          (.step ⟨(some 249), .plain .mv, [.tmp 12], none⟩
          (.step ⟨(some 250), .plain .mv, [.tmp 5], none⟩
          (.step ⟨(some 251), .plain (.indexAddr 1), [.tmp 250, .lit (.int .i64 2)], none⟩
          (.step ⟨(some 252), .plain (.load false 1), [.tmp 251], none⟩
          (.step ⟨(some 253), .plain .mv, [.tmp 14], none⟩
          (.step ⟨(some 254), .plain (.build [(.int .i64 0), (.str ⟨#[]⟩), (.int .i64 0)] [(0, 1), (1, 1), (2, 1)]), [.tmp 249, .tmp 252, .tmp 253], none⟩
          (.step ⟨(some 255), .plain (.buildRow 77 3 1 [(.int .i64 0), (.str ⟨#[]⟩), (.int .i64 0)] [0]), [.tmp 254], none⟩
          (.step ⟨(some 256), .plain (.append 77 3 32), [.tmp 248, .tmp 255], none⟩
          (.step ⟨(some 257), .plain .nilCheck, [.tmp 242], none⟩
          (.step ⟨(some 258), .plain (.fieldAddr 0), [.tmp 257], none⟩
          (.step ⟨(some 259), .plain (.fieldAddr 3), [.tmp 258], none⟩
          (.step ⟨none, .plain (.store 1), [.tmp 259, .tmp 256], none⟩
          (.step ⟨(some 260), .plain .nilCheck, [.tmp 243], none⟩
          (.step ⟨(some 261), .plain (.fieldAddr 5), [.tmp 260], none⟩
          (.step ⟨none, .plain (.store 1), [.tmp 261, .lit (.int .i64 4)], none⟩
          .done)))))))))))))))))))))) [242, 243, 244, 245, 246, 247, 248, 249, 250, 251, 252, 253, 254, 255, 256, 257, 258, 259, 260, 261])
        (.seq (.ops [⟨(some 262), .plain .mv, [.tmp 13], none⟩,
          ⟨(some 263), .plain .mv, [.tmp 262], none⟩,
          ⟨(some 264), .plain .mv, [.tmp 15], (some (263, true))⟩,
          ⟨(some 265), .plain .pick, [.tmp 263, .tmp 264, .lit (.bool false)], none⟩,
          ⟨(some 4), .plain .mv, [.tmp 265], none⟩] [262, 263, 264, 265])
        .ret))))
        (.seq (.ops [⟨(some 267), .plain .mv, [.tmp 5], none⟩,
          ⟨(some 268), .plain (.indexAddr 1), [.tmp 267, .lit (.int .i64 0)], none⟩,
          ⟨(some 269), .plain (.load false 1), [.tmp 268], none⟩,
          ⟨(some 270), .plain (.bin .eql), [.tmp 269, .lit (.str ⟨#[76, 73, 78, 69]⟩)], none⟩,
          ⟨(some 271), .plain .mv, [.tmp 270], none⟩,
          ⟨(some 272), .plain .mv, [.tmp 5], (some (271, true))⟩,
          ⟨(some 273), .plain (.len 1), [.tmp 272], (some (271, true))⟩,
          ⟨(some 274), .plain (.bin .eql), [.tmp 273, .lit (.int .i64 3)], (some (271, true))⟩,
          ⟨(some 275), .plain .pick, [.tmp 271, .tmp 274, .lit (.bool false)], none⟩,
          ⟨(some 276), .plain .mv, [.tmp 275], none⟩,
          ⟨(some 277), .plain .mv, [.tmp 0], (some (276, true))⟩,
          ⟨(some 278), .plain .nilCheck, [.tmp 277], (some (276, true))⟩,
          ⟨(some 279), .plain (.fieldAddr 5), [.tmp 278], (some (276, true))⟩,
          ⟨(some 280), .plain (.load false 1), [.tmp 279], (some (276, true))⟩,
          ⟨(some 281), .plain (.bin .leq), [.tmp 280, .lit (.int .i64 5)], (some (276, true))⟩,
          ⟨(some 282), .plain .pick, [.tmp 276, .tmp 281, .lit (.bool false)], none⟩,
          ⟨(some 266), .plain .mv, [.tmp 282], none⟩] [267, 268, 269, 270, 271, 272, 273, 274, 275, 276, 277, 278, 279, 280, 281, 282])
        (.cond (.tmp 266)
         (.seq (.ops [⟨(some 284), .plain .mv, [.tmp 5], none⟩,
           ⟨(some 285), .plain (.indexAddr 1), [.tmp 284, .lit (.int .i64 1)], none⟩,
           ⟨(some 286), .plain (.load false 1), [.tmp 285], none⟩,
           ⟨(some 287), .call 84, [.tmp 286], none⟩,
           ⟨(some 283), .plain .mv, [.tmp 287], none⟩,
           ⟨(some 288), .plain (.extract 0), [.tmp 283], none⟩,
           ⟨(some 289), .plain (.extract 1), [.tmp 283], none⟩,
           ⟨(some 16), .plain .mv, [.tmp 288], none⟩,
           ⟨(some 17), .plain .mv, [.tmp 289], none⟩] [284, 285, 286, 287, 283, 288, 289])
         (.seq (.ops [⟨(some 291), .plain .mv, [.tmp 5], none⟩,
           ⟨(some 292), .plain (.indexAddr 1), [.tmp 291, .lit (.int .i64 2)], none⟩,
           ⟨(some 293), .plain (.load false 1), [.tmp 292], none⟩,
           ⟨(some 294), .call 84, [.tmp 293], none⟩,
           ⟨(some 290), .plain .mv, [.tmp 294], none⟩,
           ⟨(some 295), .plain (.extract 0), [.tmp 290], none⟩,
           ⟨(some 296), .plain (.extract 1), [.tmp 290], none⟩,
           ⟨(some 18), .plain .mv, [.tmp 295], none⟩,
           ⟨(some 19), .plain .mv, [.tmp 296], none⟩] [291, 292, 293, 294, 290, 295, 296])
         (.seq (.ops [⟨(some 297), .plain .mv, [.tmp 0], none⟩,
           ⟨(some 298), .plain .mv, [.tmp 0], none⟩,
           ⟨(some 299), .plain .mv, [.tmp 0], none⟩,
           ⟨(some 300), .plain .nilCheck, [.tmp 299], none⟩,
           ⟨(some 301), .plain (.fieldAddr 0), [.tmp 300], none⟩,
           ⟨(some 302), .plain (.fieldAddr 4), [.tmp 301], none⟩,
           ⟨(some 303), .plain (.load false 1), [.tmp 302], none⟩,
           ⟨(some 304), .plain .mv, [.tmp 16], none⟩,
           ⟨(some 305), .plain .mv, [.tmp 18], none⟩,
           ⟨(some 306), .plain (.build [(.int .i64 0), (.int .i64 0)] [(0, 1), (1, 1)]), [.tmp 304, .tmp 305], none⟩,
           ⟨(some 307), .plain (.buildRow 79 2 1 [(.int .i64 0), (.int .i64 0)] [0]), [.tmp 306], none⟩,
           ⟨(some 308), .plain (.append 79 2 16), [.tmp 303, .tmp 307], none⟩,
           ⟨(some 309), .plain .nilCheck, [.tmp 297], none⟩,
           ⟨(some 310), .plain (.fieldAddr 0), [.tmp 309], none⟩,
           ⟨(some 311), .plain (.fieldAddr 4), [.tmp 310], none⟩,
           ⟨none, .plain (.store 1), [.tmp 311, .tmp 308], none⟩,
           ⟨(some 312), .plain .nilCheck, [.tmp 298], none⟩,
           ⟨(some 313), .plain (.fieldAddr 5), [.tmp 312], none⟩,
           ⟨none, .plain (.store 1), [.tmp 313, .lit (.int .i64 5)], none⟩] [297, 298, 299, 300, 301, 302, 303, 304, 305, 306, 307, 308, 309, 310, 311, 312, 313])
         (.seq (.ops [⟨(some 314), .plain .mv, [.tmp 17], none⟩,
           ⟨(some 315), .plain .mv, [.tmp 314], none⟩,
           ⟨(some 316), .plain .mv, [.tmp 19], (some (315, true))⟩,
           ⟨(some 317), .plain .pick, [.tmp 315, .tmp 316, .lit (.bool false)], none⟩,
           ⟨(some 4), .plain .mv, [.tmp 317], none⟩] [314, 315, 316, 317])
         .ret))))
         (.seq (.ops [⟨(some 319), .plain .mv, [.tmp 5], none⟩,
           ⟨(some 320), .plain (.indexAddr 1), [.tmp 319, .lit (.int .i64 0)], none⟩,
           ⟨(some 321), .plain (.load false 1), [.tmp 320], none⟩,
           ⟨(some 322), .plain (.bin .eql), [.tmp 321, .lit (.str ⟨#[69, 78, 68]⟩)], none⟩,
           ⟨(some 323), .plain .mv, [.tmp 322], none⟩,
           ⟨(some 324), .plain .mv, [.tmp 5], (some (323, true))⟩,
           ⟨(some 325), .plain (.len 1), [.tmp 324], (some (323, true))⟩,
           ⟨(some 326), .plain (.bin .eql), [.tmp 325, .lit (.int .i64 1)], (some (323, true))⟩,
           ⟨(some 327), .plain .pick, [.tmp 323, .tmp 326, .lit (.bool false)], none⟩,
           ⟨(some 318), .plain .mv, [.tmp 327], none⟩] [319, 320, 321, 322, 323, 324, 325, 326, 327])
         (.cond (.tmp 318)
          (.seq (.ops [⟨(some 328), .plain .mv, [.tmp 0], none⟩,
            ⟨(some 329), .plain .nilCheck, [.tmp 328], none⟩,
            ⟨(some 330), .plain (.fieldAddr 5), [.tmp 329], none⟩,
            ⟨none, .plain (.store 1), [.tmp 330, .lit (.int .i64 6)], none⟩] [328, 329, 330])
          (.seq (.ops [⟨(some 4), .plain .mv, [.lit (.bool true)], none⟩] [])
          .ret))
          .skip)))))))))))))))
  (.seq (.ops [⟨(some 4), .plain .mv, [.lit (.bool false)], none⟩] [])
  .ret)))))
def cr28 : List Res := [(4, none)]
theorem ok28 : FOk Zk.pg.toProgram Zk.imp 28 c28 cr28 Tryz.f28.ntmps := ⟨Tryz.f28, _, Tryz.func28, rfl, by kernel_rfl, by kernel_rfl, by kernel_rfl, rfl⟩

/-- ironbark/ironbarkref34.Read -/
def c8 : SC :=
  (.seq (.ops [⟨(some 2), .plain (.alloc [(.str ⟨#[]⟩), (.str ⟨#[]⟩), .nilS, .nilS, .nilS]), [], none⟩,
    ⟨(some 3), .plain .mv, [.lit (.int .i64 0)], none⟩,
    ⟨(some 4), .plain .mv, [.lit (.int .i64 0)], none⟩] [])
  (.seq (.seq (.ops [⟨(some 9), .plain .mv, [.tmp 0], none⟩,
    ⟨(some 10), .plain (.len 0), [.tmp 9], none⟩,
    ⟨(some 11), .plain (.bin .gtr), [.tmp 10, .lit (.int .i64 200000)], none⟩] [9, 10])
  (.cond (.tmp 11)
   (.seq (.ops [⟨(some 12), .plain (.build [(.str ⟨#[]⟩), (.str ⟨#[]⟩), .nilS, .nilS, .nilS] []), [], none⟩,
     ⟨none, .plain (.store 5), [.tmp 2, .tmp 12], none⟩,
     ⟨(some 3), .plain .mv, [.lit (.int .i64 0)], none⟩,
     ⟨(some 4), .plain .mv, [.lit (.int .i64 3)], none⟩] [12])
   .ret)
   .skip))
  (.seq (.ops [⟨(some 13), .plain (.build [(.str ⟨#[]⟩), (.str ⟨#[]⟩), .nilS, .nilS, .nilS, (.int .i64 0), (.bool false)] []), [], none⟩,
    ⟨(some 14), .plain (.box 7), [.tmp 13], none⟩,
    ⟨(some 5), .plain .mv, [.tmp 14], none⟩] [13, 14])
  (.seq (.ops [⟨(some 6), .plain .mv, [.lit (.int .i64 0)], none⟩,
    ⟨(some 7), .plain .mv, [.lit (.int .i64 0)], none⟩] [])
  (.seq (.seq (.ops [⟨(some 8), .plain .mv, [.lit (.int .i64 0)], none⟩] [])
  (.block 0
   (.loop
    (.seq (.seq (.ops [⟨(some 15), .plain .mv, [.tmp 8], none⟩,
      ⟨(some 16), .plain .mv, [.tmp 0], none⟩,
      ⟨(some 17), .plain (.len 0), [.tmp 16], none⟩,
      ⟨(some 18), .plain (.bin .lss), [.tmp 15, .tmp 17], none⟩] [15, 16, 17])
    (.cond (.tmp 18)
     .skip
     (.exit 0)))
    (.seq (.block 1
     (.seq (.seq (.ops [⟨(some 21), .plain .mv, [.tmp 0], none⟩,
       ⟨(some 22), .plain .mv, [.tmp 8], none⟩,
       ⟨(some 23), .plain .index, [.tmp 21, .tmp 22], none⟩,
       ⟨(some 24), .plain (.bin .neq), [.tmp 23, .lit (.int .u8 10)], none⟩] [21, 22, 23])
     (.cond (.tmp 24)
      (.exit 1)
      .skip))
     (.seq (.seq (.ops [⟨(some 25), .plain .mv, [.tmp 5], none⟩,
       ⟨(some 26), .plain .mv, [.tmp 0], none⟩,
       ⟨(some 27), .plain .mv, [.tmp 7], none⟩,
       ⟨(some 28), .plain .mv, [.tmp 8], none⟩,
       ⟨(some 29), .plain (.slice true true 0), [.tmp 26, .tmp 27, .tmp 28], none⟩,
       ⟨(some 30), .call 28, [.tmp 25, .tmp 29], none⟩,
       ⟨(some 31), .plain (.un .not), [.tmp 30], none⟩] [25, 26, 27, 28, 29, 30])
     (.cond (.tmp 31)
      (.seq (.ops [⟨(some 32), .plain (.build [(.str ⟨#[]⟩), (.str ⟨#[]⟩), .nilS, .nilS, .nilS] []), [], none⟩,
        ⟨(some 33), .plain .mv, [.tmp 6], none⟩,
        ⟨none, .plain (.store 5), [.tmp 2, .tmp 32], none⟩,
        ⟨(some 3), .plain .mv, [.tmp 33], none⟩,
        ⟨(some 4), .plain .mv, [.lit (.int .i64 2)], none⟩] [32, 33])
      .ret)
      .skip))
     (.ops [⟨(some 34), .plain .mv, [.tmp 6], none⟩,
       ⟨(some 35), .plain (.bin .add), [.tmp 34, .lit (.int .i64 1)], none⟩,
       ⟨(some 36), .plain .mv, [.tmp 8], none⟩,
       ⟨(some 37), .plain (.bin .add), [.tmp 36, .lit (.int .i64 1)], none⟩,
       ⟨(some 6), .plain .mv, [.tmp 35], none⟩,
       ⟨(some 7), .plain .mv, [.tmp 37], none⟩] [34, 35, 36, 37]))))
    (.ops [⟨(some 19), .plain .mv, [.tmp 8], none⟩,
      ⟨(some 20), .plain (.bin .add), [.tmp 19, .lit (.int .i64 1)], none⟩,
      ⟨(some 8), .plain .mv, [.tmp 20], none⟩] [19, 20]))))))
  (.seq (.seq (.ops [⟨(some 38), .plain .mv, [.tmp 7], none⟩,
    ⟨(some 39), .plain .mv, [.tmp 0], none⟩,
    ⟨(some 40), .plain (.len 0), [.tmp 39], none⟩,
    ⟨(some 41), .plain (.bin .lss), [.tmp 38, .tmp 40], none⟩,
    ⟨(some 42), .plain .mv, [.tmp 41], none⟩,
    ⟨(some 43), .plain .mv, [.tmp 5], (some (42, false))⟩,
    ⟨(some 44), .plain .nilCheck, [.tmp 43], (some (42, false))⟩,
    ⟨(some 45), .plain (.fieldAddr 5), [.tmp 44], (some (42, false))⟩,
    ⟨(some 46), .plain (.load false 1), [.tmp 45], (some (42, false))⟩,
    ⟨(some 47), .plain (.bin .neq), [.tmp 46, .lit (.int .i64 6)], (some (42, false))⟩,
    ⟨(some 48), .plain .pick, [.tmp 42, .lit (.bool true), .tmp 47], none⟩] [38, 39, 40, 41, 42, 43, 44, 45, 46, 47])
  (.cond (.tmp 48)
   (.seq (.ops [⟨(some 49), .plain (.build [(.str ⟨#[]⟩), (.str ⟨#[]⟩), .nilS, .nilS, .nilS] []), [], none⟩,
     ⟨(some 50), .plain .mv, [.tmp 6], none⟩,
     ⟨none, .plain (.store 5), [.tmp 2, .tmp 49], none⟩,
     ⟨(some 3), .plain .mv, [.tmp 50], none⟩,
     ⟨(some 4), .plain .mv, [.lit (.int .i64 2)], none⟩] [49, 50])
   .ret)
   .skip))
  (.seq (.seq (.ops [⟨(some 51), .plain .mv, [.tmp 5], none⟩,
    ⟨(some 52), .plain .nilCheck, [.tmp 51], none⟩,
    ⟨(some 53), .plain (.fieldAddr 0), [.tmp 52], none⟩,
    ⟨(some 54), .plain (.load true 5), [.tmp 53], none⟩,
    ⟨(some 55), .call 29, [.tmp 54], none⟩,
    ⟨(some 56), .plain (.un .not), [.tmp 55], none⟩] [51, 52, 53, 54, 55])
  (.cond (.tmp 56)
   (.seq (.ops [⟨(some 57), .plain (.build [(.str ⟨#[]⟩), (.str ⟨#[]⟩), .nilS, .nilS, .nilS] []), [], none⟩,
     ⟨(some 58), .plain .mv, [.tmp 6], none⟩,
     ⟨none, .plain (.store 5), [.tmp 2, .tmp 57], none⟩,
     ⟨(some 3), .plain .mv, [.tmp 58], none⟩,
     ⟨(some 4), .plain .mv, [.lit (.int .i64 1)], none⟩] [57, 58])
   .ret)
   .skip))
  (.seq (.ops [⟨(some 59), .plain .mv, [.tmp 5], none⟩,
    ⟨(some 60), .plain .nilCheck, [.tmp 59], none⟩,
    ⟨(some 61), .plain (.fieldAddr 0), [.tmp 60], none⟩,
    ⟨(some 62), .plain (.load true 5), [.tmp 61], none⟩,
    ⟨none, .plain (.store 5), [.tmp 2, .tmp 62], none⟩,
    ⟨(some 3), .plain .mv, [.lit (.int .i64 0)], none⟩,
    ⟨(some 4), .plain .mv, [.lit (.int .i64 0)], none⟩] [59, 60, 61, 62])
  .ret))))))))
def cr8 : List Res := [(2, some (true, 5)), (3, none), (4, none)]
theorem ok8 : FOk Zk.pg.toProgram Zk.imp 8 c8 cr8 Tryz.f8.ntmps := ⟨Tryz.f8, _, Tryz.func8, rfl, by kernel_rfl, by kernel_rfl, by kernel_rfl, rfl⟩

/-- ironbark/ironbarkref34.SameDeck -/
def c9 : SC :=
  (.seq (.ops [⟨(some 2), .plain (.box 5), [.tmp 0], none⟩,
    ⟨(some 3), .plain (.box 5), [.tmp 1], none⟩,
    ⟨(some 4), .plain .mv, [.lit (.bool false)], none⟩] [])
  (.seq (.seq (.ops [⟨(some 6), .plain (.fieldAddr 3), [.tmp 2], none⟩,
    ⟨(some 7), .plain (.load false 1), [.tmp 6], none⟩,
    ⟨(some 8), .plain (.len 1), [.tmp 7], none⟩,
    ⟨(some 9), .plain (.fieldAddr 3), [.tmp 3], none⟩,
    ⟨(some 10), .plain (.load false 1), [.tmp 9], none⟩,
    ⟨(some 11), .plain (.len 1), [.tmp 10], none⟩,
    ⟨(some 12), .plain (.bin .neq), [.tmp 8, .tmp 11], none⟩] [6, 7, 8, 9, 10, 11])
  (.cond (.tmp 12)
   (.seq (.ops [⟨(some 4), .plain .mv, [.lit (.bool false)], none⟩] [])
   .ret)
   .skip))
  (.seq (.seq (.ops [⟨(some 5), .plain .mv, [.lit (.int .i64 0)], none⟩] [])
  (.block 0
   (.loop
    (.seq (.seq (.ops [⟨(some 13), .plain .mv, [.tmp 5], none⟩,
      ⟨(some 14), .plain (.fieldAddr 3), [.tmp 2], none⟩,
      ⟨(some 15), .plain (.load false 1), [.tmp 14], none⟩,
      ⟨(some 16), .plain (.len 1), [.tmp 15], none⟩,
      ⟨(some 17), .plain (.bin .lss), [.tmp 13, .tmp 16], none⟩] [13, 14, 15, 16])
    (.cond (.tmp 17)
     .skip
     (.exit 0)))
    (.seq (.block 1
     (.seq (.draw (.step ⟨(some 20), .plain (.fieldAddr 3), [.tmp 2], none⟩
       (.step ⟨(some 21), .plain (.load false 1), [.tmp 20], none⟩
       (.step ⟨(some 22), .plain .mv, [.tmp 5], none⟩
       (.step ⟨(some 23), .plain (.indexAddr 3), [.tmp 21, .tmp 22], none⟩
       (.step ⟨(some 24), .plain (.load true 3), [.tmp 23], none⟩
       (.step ⟨(some 25), .plain (.fieldAddr 3), [.tmp 3], none⟩
       (.step ⟨(some 26), .plain (.load false 1), [.tmp 25], none⟩
       (.step ⟨(some 27), .plain .mv, [.tmp 5], none⟩
       (.step ⟨(some 28), .plain (.indexAddr 3), [.tmp 26, .tmp 27], none⟩
       (.step ⟨(some 29), .plain (.load true 3), [.tmp 28], none⟩
       (.step ⟨(some 30), .plain (.eqAgg true [.int, .str, .int]), [.tmp 24, .tmp 29], none⟩
       .done))))))))))) [20, 21, 22, 23, 24, 25, 26, 27, 28, 29])
     (.cond (.tmp 30)
      (.seq (.ops [⟨(some 4), .plain .mv, [.lit (.bool false)], none⟩] [])
      .ret)
      .skip)))
    (.ops [⟨(some 18), .plain .mv, [.tmp 5], none⟩,
      ⟨(some 19), .plain (.bin .add), [.tmp 18, .lit (.int .i64 1)], none⟩,
      ⟨(some 5), .plain .mv, [.tmp 19], none⟩] [18, 19]))))))
  (.seq (.ops [⟨(some 31), .plain (.fieldAddr 0), [.tmp 2], none⟩,
    ⟨(some 32), .plain (.load false 1), [.tmp 31], none⟩,
    ⟨(some 33), .plain (.fieldAddr 0), [.tmp 3], none⟩,
    ⟨(some 34), .plain (.load false 1), [.tmp 33], none⟩,
    ⟨(some 35), .plain (.bin .eql), [.tmp 32, .tmp 34], none⟩,
    ⟨(some 36), .plain .mv, [.tmp 35], none⟩,
    ⟨(some 37), .plain (.fieldAddr 1), [.tmp 2], (some (36, true))⟩,
    ⟨(some 38), .plain (.load false 1), [.tmp 37], (some (36, true))⟩,
    ⟨(some 39), .plain (.fieldAddr 1), [.tmp 3], (some (36, true))⟩,
    ⟨(some 40), .plain (.load false 1), [.tmp 39], (some (36, true))⟩,
    ⟨(some 41), .plain (.bin .eql), [.tmp 38, .tmp 40], (some (36, true))⟩,
    ⟨(some 42), .plain .pick, [.tmp 36, .tmp 41, .lit (.bool false)], none⟩,
    ⟨(some 43), .plain .mv, [.tmp 42], none⟩,
    ⟨(some 44), .plain (.fieldAddr 2), [.tmp 2], (some (43, true))⟩,
    ⟨(some 45), .plain (.load false 1), [.tmp 44], (some (43, true))⟩,
    ⟨(some 46), .plain (.fieldAddr 2), [.tmp 3], (some (43, true))⟩,
    ⟨(some 47), .plain (.load false 1), [.tmp 46], (some (43, true))⟩,
    ⟨(some 48), .call 30, [.tmp 45, .tmp 47], (some (43, true))⟩,
    ⟨(some 49), .plain .pick, [.tmp 43, .tmp 48, .lit (.bool false)], none⟩,
    ⟨(some 50), .plain .mv, [.tmp 49], none⟩,
    ⟨(some 51), .plain (.fieldAddr 4), [.tmp 2], (some (50, true))⟩,
    ⟨(some 52), .plain (.load false 1), [.tmp 51], (some (50, true))⟩,
    ⟨(some 53), .plain (.fieldAddr 4), [.tmp 3], (some (50, true))⟩,
    ⟨(some 54), .plain (.load false 1), [.tmp 53], (some (50, true))⟩,
    ⟨(some 55), .call 31, [.tmp 52, .tmp 54], (some (50, true))⟩,
    ⟨(some 56), .plain .pick, [.tmp 50, .tmp 55, .lit (.bool false)], none⟩,
    ⟨(some 4), .plain .mv, [.tmp 56], none⟩] [31, 32, 33, 34, 35, 36, 37, 38, 39, 40, 41, 42, 43, 44, 45, 46, 47, 48, 49, 50, 51, 52, 53, 54, 55, 56])
  .ret))))
def cr9 : List Res := [(4, none)]
theorem ok9 : FOk Zk.pg.toProgram Zk.imp 9 c9 cr9 Tryz.f9.ntmps := ⟨Tryz.f9, _, Tryz.func9, rfl, by kernel_rfl, by kernel_rfl, by kernel_rfl, rfl⟩

/-- ironbark/ironbarklaw34.LinkReads -/
def c3 : SC :=
  (.seq (.ops [⟨(some 2), .plain .mv, [.lit (.bool false)], none⟩] [])
  (.seq (.seq (.ops [⟨(some 9), .call 6, [], none⟩,
    ⟨(some 10), .plain (.un .not), [.tmp 9], none⟩] [9])
  (.cond (.tmp 10)
   (.seq (.ops [⟨(some 2), .plain .mv, [.lit (.bool false)], none⟩] [])
   .ret)
   .skip))
  (.seq (.seq (.ops [⟨(some 11), .plain .mv, [.tmp 0], none⟩,
    ⟨(some 12), .plain (.len 0), [.tmp 11], none⟩,
    ⟨(some 13), .plain (.bin .gtr), [.tmp 12, .lit (.int .i64 4000)], none⟩,
    ⟨(some 14), .plain .mv, [.tmp 13], none⟩,
    ⟨(some 15), .plain .mv, [.tmp 0], (some (14, true))⟩,
    ⟨(some 16), .plain (.len 0), [.tmp 15], (some (14, true))⟩,
    ⟨(some 17), .plain (.bin .leq), [.tmp 16, .lit (.int .i64 200000)], (some (14, true))⟩,
    ⟨(some 18), .plain .pick, [.tmp 14, .tmp 17, .lit (.bool false)], none⟩,
    ⟨(some 19), .plain .mv, [.tmp 18], none⟩,
    ⟨(some 20), .plain .mv, [.tmp 0], (some (19, false))⟩,
    ⟨(some 21), .plain (.len 0), [.tmp 20], (some (19, false))⟩,
    ⟨(some 22), .plain (.bin .gtr), [.tmp 21, .lit (.int .i64 200005)], (some (19, false))⟩,
    ⟨(some 23), .plain .pick, [.tmp 19, .lit (.bool true), .tmp 22], none⟩] [11, 12, 13, 14, 15, 16, 17, 18, 19, 20, 21, 22])
  (.cond (.tmp 23)
   (.seq (.ops [⟨(some 2), .plain .mv, [.lit (.bool true)], none⟩] [])
   .ret)
   .skip))
  (.seq (.ops [⟨(some 25), .plain .mv, [.tmp 0], none⟩,
    ⟨(some 26), .call 7, [.tmp 25], none⟩,
    ⟨(some 24), .plain .mv, [.tmp 26], none⟩,
    ⟨(some 27), .plain (.extract 0), [.tmp 24], none⟩,
    ⟨(some 28), .plain (.extract 1), [.tmp 24], none⟩,
    ⟨(some 29), .plain (.extract 2), [.tmp 24], none⟩,
    ⟨(some 3), .plain (.alloc [(.str ⟨#[]⟩), (.str ⟨#[]⟩), .nilS, .nilS, .nilS]), [], none⟩,
    ⟨none, .plain (.store 5), [.tmp 3, .tmp 27], none⟩,
    ⟨(some 4), .plain .mv, [.tmp 28], none⟩,
    ⟨(some 5), .plain .mv, [.tmp 29], none⟩] [25, 26, 24, 27, 28, 29])
  (.seq (.ops [⟨(some 31), .plain .mv, [.tmp 0], none⟩,
    ⟨(some 32), .call 8, [.tmp 31], none⟩,
    ⟨(some 30), .plain .mv, [.tmp 32], none⟩,
    ⟨(some 33), .plain (.extract 0), [.tmp 30], none⟩,
    ⟨(some 34), .plain (.extract 1), [.tmp 30], none⟩,
    ⟨(some 35), .plain (.extract 2), [.tmp 30], none⟩,
    ⟨(some 6), .plain (.alloc [(.str ⟨#[]⟩), (.str ⟨#[]⟩), .nilS, .nilS, .nilS]), [], none⟩,
    ⟨none, .plain (.store 5), [.tmp 6, .tmp 33], none⟩,
    ⟨(some 7), .plain .mv, [.tmp 34], none⟩,
    ⟨(some 8), .plain .mv, [.tmp 35], none⟩] [31, 32, 30, 33, 34, 35])
  (.seq (.ops [⟨(some 36), .plain (.load true 5), [.tmp 3], none⟩,
    ⟨(some 37), .plain (.load true 5), [.tmp 6], none⟩,
    ⟨(some 38), .call 9, [.tmp 36, .tmp 37], none⟩,
    ⟨(some 39), .plain .mv, [.tmp 38], none⟩,
    ⟨(some 40), .plain .mv, [.tmp 4], (some (39, true))⟩,
    ⟨(some 41), .plain .mv, [.tmp 7], (some (39, true))⟩,
    ⟨(some 42), .plain (.bin .eql), [.tmp 40, .tmp 41], (some (39, true))⟩,
    ⟨(some 43), .plain .pick, [.tmp 39, .tmp 42, .lit (.bool false)], none⟩,
    ⟨(some 44), .plain .mv, [.tmp 43], none⟩,
    ⟨(some 45), .plain .mv, [.tmp 5], (some (44, true))⟩,
    ⟨(some 46), .plain .mv, [.tmp 8], (some (44, true))⟩,
    ⟨(some 47), .plain (.bin .eql), [.tmp 45, .tmp 46], (some (44, true))⟩,
    ⟨(some 48), .plain .pick, [.tmp 44, .tmp 47, .lit (.bool false)], none⟩,
    ⟨(some 2), .plain .mv, [.tmp 48], none⟩] [36, 37, 38, 39, 40, 41, 42, 43, 44, 45, 46, 47, 48])
  .ret))))))
def cr3 : List Res := [(2, none)]
theorem ok3 : FOk Zk.pg.toProgram Zk.imp 3 c3 cr3 Tryz.f3.ntmps := ⟨Tryz.f3, _, Tryz.func3, rfl, by kernel_rfl, by kernel_rfl, by kernel_rfl, rfl⟩

end Go.Pm

/- ZkS13: code, resolved. Written by gen.py out of what ShowSC.lean printed. -/
namespace Go.Pm
open Go Go.Proofs

/-- ironbark/ironbarkref34.named -/
def c82 : SC :=
  (.seq (.ops [⟨(some 2), .plain .mv, [.lit (.bool false)], none⟩] [])
  (.seq (.seq (.ops [⟨(some 3), .plain .mv, [.lit (.int .i64 0)], none⟩] [])
  (.block 0
   (.loop
    (.seq (.seq (.ops [⟨(some 4), .plain .mv, [.tmp 3], none⟩,
      ⟨(some 5), .plain .mv, [.tmp 0], none⟩,
      ⟨(some 6), .plain (.len 0), [.tmp 5], none⟩,
      ⟨(some 7), .plain (.bin .lss), [.tmp 4, .tmp 6], none⟩] [4, 5, 6])
    (.cond (.tmp 7)
     .skip
     (.exit 0)))
    (.seq (.block 1
     (.seq (.ops [⟨(some 10), .plain .mv, [.tmp 0], none⟩,
       ⟨(some 11), .plain .mv, [.tmp 3], none⟩,
       ⟨(some 12), .plain .index, [.tmp 10, .tmp 11], none⟩,
       ⟨(some 13), .plain (.bin .lss), [.tmp 12, .lit (.int .u8 33)], none⟩,
       ⟨(some 14), .plain .mv, [.tmp 13], none⟩,
       ⟨(some 15), .plain .mv, [.tmp 0], (some (14, false))⟩,
       ⟨(some 16), .plain .mv, [.tmp 3], (some (14, false))⟩,
       ⟨(some 17), .plain .index, [.tmp 15, .tmp 16], (some (14, false))⟩,
       ⟨(some 18), .plain (.bin .gtr), [.tmp 17, .lit (.int .u8 126)], (some (14, false))⟩,
       ⟨(some 19), .plain .pick, [.tmp 14, .lit (.bool true), .tmp 18], none⟩] [10, 11, 12, 13, 14, 15, 16, 17, 18])
     (.cond (.tmp 19)
      (.seq (.ops [⟨(some 2), .plain .mv, [.lit (.bool false)], none⟩] [])
      .ret)
      .skip)))
    (.ops [⟨(some 8), .plain .mv, [.tmp 3], none⟩,
      ⟨(some 9), .plain (.bin .add), [.tmp 8, .lit (.int .i64 1)], none⟩,
      ⟨(some 3), .plain .mv, [.tmp 9], none⟩] [8, 9]))))))
  (.seq (.ops [⟨(some 20), .plain .mv, [.tmp 0], none⟩,
    ⟨(some 21), .plain (.bin .neq), [.tmp 20, .lit (.str ⟨#[]⟩)], none⟩,
    ⟨(some 2), .plain .mv, [.tmp 21], none⟩] [20, 21])
  .ret)))
def cr82 : List Res := [(2, none)]
theorem ok82 : FOk Zk.pg.toProgram Zk.imp 82 c82 cr82 Tryz.f82.ntmps := ⟨Tryz.f82, _, Tryz.func82, rfl, by kernel_rfl, by kernel_rfl, by kernel_rfl, rfl⟩

/-- ironbark/ironbarkref34.digit -/
def c83 : SC :=
  (.seq (.ops [⟨(some 2), .plain .mv, [.lit (.int .i64 0)], none⟩] [])
  (.seq (.block 0
   (.seq (.ops [⟨(some 4), .plain .mv, [.tmp 0], none⟩,
     ⟨(some 5), .plain (.bin .geq), [.tmp 4, .lit (.int .u8 48)], none⟩,
     ⟨(some 6), .plain .mv, [.tmp 5], none⟩,
     ⟨(some 7), .plain .mv, [.tmp 0], (some (6, true))⟩,
     ⟨(some 8), .plain (.bin .leq), [.tmp 7, .lit (.int .u8 57)], (some (6, true))⟩,
     ⟨(some 9), .plain .pick, [.tmp 6, .tmp 8, .lit (.bool false)], none⟩,
     ⟨(some 3), .plain .mv, [.tmp 9], none⟩] [4, 5, 6, 7, 8, 9])
   (.cond (.tmp 3)
    (.seq (.ops [⟨(some 10), .plain .mv, [.tmp 0], none⟩,
      ⟨(some 11), .plain (.bin .sub), [.tmp 10, .lit (.int .u8 48)], none⟩,
      ⟨(some 12), .plain (.convInt .i64), [.tmp 11], none⟩,
      ⟨(some 2), .plain .mv, [.tmp 12], none⟩] [10, 11, 12])
    .ret)
    (.seq (.ops [⟨(some 14), .plain .mv, [.tmp 0], none⟩,
      ⟨(some 15), .plain (.bin .geq), [.tmp 14, .lit (.int .u8 65)], none⟩,
      ⟨(some 16), .plain .mv, [.tmp 15], none⟩,
      ⟨(some 17), .plain .mv, [.tmp 0], (some (16, true))⟩,
      ⟨(some 18), .plain (.bin .leq), [.tmp 17, .lit (.int .u8 70)], (some (16, true))⟩,
      ⟨(some 19), .plain .pick, [.tmp 16, .tmp 18, .lit (.bool false)], none⟩,
      ⟨(some 13), .plain .mv, [.tmp 19], none⟩] [14, 15, 16, 17, 18, 19])
    (.cond (.tmp 13)
     (.seq (.ops [⟨(some 20), .plain .mv, [.tmp 0], none⟩,
       ⟨(some 21), .plain (.bin .sub), [.tmp 20, .lit (.int .u8 65)], none⟩,
       ⟨(some 22), .plain (.convInt .i64), [.tmp 21], none⟩,
       ⟨(some 23), .plain (.bin .add), [.tmp 22, .lit (.int .i64 10)], none⟩,
       ⟨(some 2), .plain .mv, [.tmp 23], none⟩] [20, 21, 22, 23])
     .ret)
     .skip)))))
  (.seq (.ops [⟨(some 2), .plain .mv, [.lit (.int .i64 (-1))], none⟩] [])
  .ret)))
def cr83 : List Res := [(2, none)]
theorem ok83 : FOk Zk.pg.toProgram Zk.imp 83 c83 cr83 Tryz.f83.ntmps := ⟨Tryz.f83, _, Tryz.func83, rfl, by kernel_rfl, by kernel_rfl, by kernel_rfl, rfl⟩

end Go.Pm

/- ZkR6: contracts: the reference's words, figures, numbers, names. -/
namespace Go.Pm
open Go Go.Proofs
attribute [-simp] List.getElem?_map

/-- A name's word. -/
def namedF (s : ByteArray) : Bool := !(eqS s ⟨#[]⟩) && s.data.toList.all chOk

theorem call82 (s : ByteArray) (hs : s.size ≤ 1048576) : PCalls Zk.pg 82 [.str s] fun out => out = .ret (.bool (namedF s)) := by
  refine ok82.pcalls (by simp) ?_
  simp [c82]
  refine wpS_loop (ι := Nat) (fun i => [(0, .str s), (3, .int .i64 i)]) (fun _ => Mem.empty) (fun i => s.size - i) (fun i => i ≤ s.size ∧ ∀ j, j < i → chOk (byteAt s j) = true) 0 (by simp) (Env.le_of (by simp)) rfl ?_
  intro i ⟨hi, hall⟩
  have hw : IntKind.i64.wrap (i + 1) = i + 1 := wrap64 (by omega) (by omega)
  have bad : ltI ↑i ↑s.size = true → chOk (byteAt s i) = false → namedF s = false := fun h1 h2 => by
    cases hn : namedF s with
    | false => rfl
    | true =>
      simp only [namedF, Bool.and_eq_true] at hn
      have := (all_bytes s).1 hn.2 i (by have := ltI_t.1 h1; omega)
      rw [h2] at this; cases this
  simp
  refine br_cond rfl (fun h => ?_) (fun h => ?_)
  · have hlt : i < s.size := by have := ltI_t.1 h; omega
    have next : chOk (byteAt s i) = true → ∀ j, j < i + 1 → chOk (byteAt s j) = true := upto hall
    simp [h, idxS]
    refine br_guard_f rfl (fun h1 => ?_) (fun h1 => ?_)
    · simp [h1, cr82, postP_ret, bad h (by simp [chOk, h1])]
    · simp [h1, h, idxS]
      refine br_cond rfl (fun h2 => ?_) (fun h2 => ?_)
      · simp [cr82, postP_ret, bad h (by simp [chOk, h2])]
      · simp [h2, hw]
        exact ⟨i + 1, ⟨by omega, next (by simp [chOk, h1, h2])⟩, by omega, Env.le_of (by simp), Mem.le_of rfl (by simp)⟩
  · have hA : s.data.toList.all chOk = true := (all_bytes s).2 fun j hj => hall j (by have := ltI_f.1 h; omega)
    simp [h, cr82, postP_ret, namedF, hA]

theorem u8w {n : Int} (h0 : 0 ≤ n) (h1 : n < 256) : IntKind.u8.wrap n = n := by
  rw [IntKind.wrap_u8]; omega

theorem call83 (c : UInt8) : PCalls Zk.pg 83 [.int .u8 c.toNat] fun out => out = .ret (.int .i64 (digitF c)) := by
  refine ok83.pcalls (by simp) ?_
  have hc := c.toNat_lt
  simp [c83]
  have w1 : 48 ≤ c.toNat → IntKind.i64.wrap (IntKind.u8.wrap ((c.toNat : Int) - 48)) = (c.toNat : Int) - 48 := fun h => by rw [u8w (by omega) (by omega), wrap64 (by omega) (by omega)]
  have w2 : 65 ≤ c.toNat → IntKind.i64.wrap (IntKind.i64.wrap (IntKind.u8.wrap ((c.toNat : Int) - 65)) + 10) = (c.toNat : Int) - 65 + 10 := fun h => by rw [u8w (by omega) (by omega), wrap64 (n := (c.toNat : Int) - 65) (by omega) (by omega), wrap64 (by omega) (by omega)]
  refine br_guard_t rfl (fun h1 => ?_) (fun h1 => ?_)
  · have g1 := leI_t.1 h1
    simp [h1]
    refine br_cond rfl (fun h2 => ?_) (fun h2 => ?_)
    · have g2 := leI_t.1 h2
      simp [cr83, postP_ret, w1 (by omega), digitF]
      omega
    · have g2 := leI_f.1 h2
      simp
      refine br_guard_t rfl (fun h3 => ?_) (fun h3 => ?_)
      · have g3 := leI_t.1 h3
        simp [h3]
        refine br_cond rfl (fun h4 => ?_) (fun h4 => ?_)
        · have g4 := leI_t.1 h4
          simp [cr83, postP_ret, w2 (by omega), digitF]
          omega
        · have g4 := leI_f.1 h4
          simp [cr83, postP_ret, digitF]
          omega
      · have g3 := leI_f.1 h3
        simp [h3, cr83, postP_ret, digitF]
        omega
  · have g1 := leI_f.1 h1
    simp [h1]
    refine br_guard_t rfl (fun h3 => ?_) (fun h3 => ?_)
    · have g3 := leI_t.1 h3; omega
    · simp [h3, cr83, postP_ret, digitF]
      omega
end Go.Pm

/- ZkR8: contracts: the reference's words of a line, numbers. -/
namespace Go.Pm
open Go Go.Proofs
attribute [-simp] List.getElem?_map

/-- The words of a line; none, if one is empty. -/
def wordsF (s : ByteArray) : Option (List ByteArray) := if (splW [] s.data.toList).all (fun x => decide (x ≠ [])) then some ((splW [] s.data.toList).map mkB) else none
def wordsAV (s : ByteArray) : AV := match wordsF s with
  | some l => .list true 1 (l.map fun x => [.str x])
  | none => .nilS

theorem mkB_append (a b : List UInt8) : mkB a ++ mkB b = mkB (a ++ b) := by
  apply ByteArray.ext
  rw [ByteArray.data_append]
  apply Array.ext'
  simp [mkB]
theorem byteAt_eq {s : ByteArray} {i : Nat} (h : i < s.data.toList.length) : s.data.toList[i] = byteAt s i := by
  unfold byteAt
  rw [List.getD, List.getElem?_eq_getElem h]; rfl
theorem drop_byte {s : ByteArray} {i : Nat} (h : i < s.size) : s.data.toList.drop i = byteAt s i :: s.data.toList.drop (i + 1) := by
  have h1 : i < s.data.toList.length := by simpa using h
  rw [List.drop_eq_getElem_cons h1, byteAt_eq h1]
theorem extract_one {s : ByteArray} {i : Nat} (h : i < s.size) : s.extract i (i + 1) = mkB [byteAt s i] := by
  rw [← mkB_data (s.extract i (i + 1)), Lib.extract_data, drop_byte h, show i + 1 - i = 1 by omega]
  rfl
theorem eqI_u8 {a : UInt8} {n : Nat} (h : n < 256) : eqI a.toNat n = decide (a = UInt8.ofNat n) := by
  by_cases e : a = UInt8.ofNat n
  · subst e
    have : (UInt8.ofNat n).toNat = n := by simp; omega
    rw [this]; simp [eqI]
  · have : a.toNat ≠ n := fun h' => e (by rw [← h']; simp)
    simp [eqI, e]; omega

theorem u8_eq' {a b : UInt8} (h : a.toNat = b.toNat) : a = b := UInt8.toNat.inj h
theorem nil_of_eqS {a : List UInt8} (h : eqS (mkB a) ⟨#[]⟩ = true) : a = [] := by
  have := congrArg (fun x : ByteArray => x.data.toList) (eqS_t.1 h)
  simpa using this
theorem all_snoc {l : List (List UInt8)} {a : List UInt8} (h : ∀ x ∈ l, x ≠ []) (ha : a ≠ []) : ∀ x ∈ l ++ [a], x ≠ [] := fun x hx => by
  rcases List.mem_append.1 hx with hx | hx
  · exact h x hx
  · rw [List.mem_singleton.1 hx]; exact ha
theorem permMk : ∀ l : List (List UInt8), permLL (l.map fun x => [AV.str (mkB x)]) = true
  | [] => rfl
  | x :: l => by simp [permLL, permL, AV.perm, permMk l]
theorem no_words {s : ByteArray} (h : [] ∈ splW [] s.data.toList) : wordsAV s = .nilS := by
  unfold wordsAV wordsF
  rw [if_neg]
  intro e
  have := List.all_eq_true.1 e _ h
  simp at this

set_option maxHeartbeats 1000000 in
theorem call81 (s : ByteArray) (hs : s.size ≤ 1048576) : PCalls Zk.pg 81 [.str s] fun out => out = .ret (wordsAV s) := by
  refine ok81.pcalls (by simp) ?_
  obtain ⟨L, hL⟩ : ∃ L, L = s.data.toList := ⟨_, rfl⟩
  have hlen : L.length = s.size := by rw [hL]; simp
  simp [c81]
  refine wpS_loopS (ι := (Nat × List (List UInt8) × List UInt8) × Nat × Nat) (fun g => [(0, .str s), (3, .row 0 g.2.1 1 0 g.1.2.1.length), (4, .str (mkB g.1.2.2)), (5, .int .i64 g.1.1)])
    (fun g => ⟨[(g.2.1, .row 9 1 (g.1.2.1.map fun x => [.str (mkB x)]))], g.2.2⟩) (fun g => s.size + 1 - g.1.1)
    (fun g => ((g.1.1 ≤ s.size ∧ splW [] L = g.1.2.1 ++ splW g.1.2.2 (L.drop g.1.1)) ∨ (g.1.1 = s.size + 1 ∧ splW [] L = g.1.2.1)) ∧ (∀ x ∈ g.1.2.1, x ≠ []) ∧ g.1.2.1.length ≤ g.1.1 ∧ g.1.2.2.length ≤ g.1.1)
    ((0, [], []), 0, 1) ⟨.inl ⟨Nat.zero_le _, by simp⟩, by simp, by simp, by simp⟩ (Sim.trans (Sim.of_le (Env.le_of (by simp [mkB])) (Mem.le_of rfl (by simp))) (Sim.nil_env 3 9 (sz := 1) (by decide) (by simp))) ?_
  rintro ⟨⟨i, out, acc⟩, g, nx⟩ ⟨hsp, hall, hol, hal⟩
  simp only at hsp hall hol hal
  have hi : i ≤ s.size + 1 := by rcases hsp with h | h <;> omega
  have hw : IntKind.i64.wrap ((i : Int) + 1) = i + 1 := wrap64 (by omega) (by omega)
  simp
  refine br_cond rfl (fun h1 => ?_) (fun h1 => ?_)
  · have hle : i ≤ s.size := by have := leI_t.1 h1; omega
    have hsp := (hsp.resolve_right (fun h => by omega)).2
    simp
    refine br_guard_t rfl (fun h2 => ?_) (fun h2 => ?_)
    · have hlt : i < s.size := by have := ltI_t.1 h2; omega
      simp [h2, idxS]
      have hcut : L.drop i = byteAt s i :: L.drop (i + 1) := by rw [hL]; exact drop_byte hlt
      rw [hcut] at hsp
      refine br_cond rfl (fun h3 => ?_) (fun h3 => ?_)
      · have hne : byteAt s i ≠ 32 := fun e => by rw [e] at h3; simp [eqI] at h3
        have hsz : (mkB acc).size + (mkB [byteAt s i]).size ≤ 9223372036854775807 := by simp [mkB, ByteArray.size]; omega
        have hb1 : (i : Int) ≤ i + 1 := by omega
        have hb2 : (i : Int) + 1 ≤ s.size := by omega
        have hb3 : ((i : Int) + 1).toNat = i + 1 := by omega
        simp only [splW, hne, if_false] at hsp
        simp [hw, sliceA, boundsA, hb1, hb2, hb3, extract_one hlt, hsz, mkB_append]
        exact ⟨i + 1, out, acc ++ [byteAt s i], ⟨.inl ⟨by omega, hsp⟩, hall, by omega, by simp; omega⟩, by omega, g, nx, Sim.of_le (Env.le_of (by simp)) (Mem.le_of rfl (by simp))⟩
      · have he : byteAt s i = 32 := by
          have := eqI_t.1 (show eqI (byteAt s i).toNat 32 = true by simpa using h3)
          exact u8_eq' (by show (byteAt s i).toNat = 32; omega)
        simp only [splW, he, if_true] at hsp
        simp
        refine br_cond rfl (fun h4 => ?_) (fun h4 => ?_)
        · have hacc := nil_of_eqS h4
          have hno : wordsAV s = .nilS := no_words (by rw [← hL, hsp, hacc]; simp)
          simp [cr81, postP_ret, hno]
        · have hacc : acc ≠ [] := fun e => by rw [e, eqS_t.2 (show mkB [] = ⟨#[]⟩ from rfl)] at h4; cases h4
          have hd1 : (out.length + 1) * 16 ≤ 140737488355328 := by omega
          have hd2 : out.length + 1 ≤ 9223372036854775807 := by omega
          simp [appendA, hd1, hd2, hw]
          exact ⟨i + 1, out ++ [acc], [], ⟨.inl ⟨by omega, by rw [hsp]; simp⟩, all_snoc hall hacc, by simp; omega, by simp⟩, by omega, nx + 1, nx + 2, Sim.of_le (Env.le_of (by simp [mkB])) (Mem.le_of rfl (by simp))⟩
    · have hie : i = s.size := by have := ltI_f.1 h2; omega
      have hcut : L.drop i = [] := List.drop_of_length_le (by omega)
      rw [hcut] at hsp
      simp only [splW] at hsp
      simp [h2]
      refine br_cond rfl (fun h4 => ?_) (fun h4 => ?_)
      · have hacc := nil_of_eqS h4
        have hno : wordsAV s = .nilS := no_words (by rw [← hL, hsp, hacc]; simp)
        simp [cr81, postP_ret, hno]
      · have hacc : acc ≠ [] := fun e => by rw [e, eqS_t.2 (show mkB [] = ⟨#[]⟩ from rfl)] at h4; cases h4
        have hd1 : (out.length + 1) * 16 ≤ 140737488355328 := by omega
        have hd2 : out.length + 1 ≤ 9223372036854775807 := by omega
        simp [appendA, hd1, hd2, hw]
        exact ⟨i + 1, out ++ [acc], [], ⟨.inr ⟨by omega, hsp⟩, all_snoc hall hacc, by simp; omega, by simp⟩, by omega, nx + 1, nx + 2, Sim.of_le (Env.le_of (by simp [mkB])) (Mem.le_of rfl (by simp))⟩
  · have hfin : splW [] L = out := by
      rcases hsp with h | h
      · have := leI_f.1 h1; omega
      · exact h.2
    have hyes : wordsAV s = .list true 1 (out.map fun x => [.str (mkB x)]) := by
      unfold wordsAV wordsF
      rw [← hL, hfin, if_pos (List.all_eq_true.2 fun x hx => by simpa using hall x hx)]
      simp
    have ht : (out.map fun x => [AV.str (mkB x)]).take out.length = out.map fun x => [AV.str (mkB x)] := List.take_of_length_le (by simp)
    simp [cr81, postP_ret, hyes, ht, permMk]
end Go.Pm

/- ZkT1: contracts: hexadecimal figures; decimal numbers. -/
namespace Go.Pm
open Go Go.Proofs
attribute [-simp] List.getElem?_map

/-- A hexadecimal figure; two of them. -/
def hexC (n : Nat) : UInt8 := ([48, 49, 50, 51, 52, 53, 54, 55, 56, 57, 65, 66, 67, 68, 69, 70] : List UInt8).getD n 48
def hex2 (b : UInt8) : List UInt8 := [hexC (b.toNat / 16), hexC (b.toNat % 16)]
abbrev figL : ByteArray := ⟨#[48, 49, 50, 51, 52, 53, 54, 55, 56, 57, 65, 66, 67, 68, 69, 70]⟩
theorem fig_at {n : Nat} (h : n < 16) : figL[n]? = some (hexC n) := by
  have : n = 0 ∨ n = 1 ∨ n = 2 ∨ n = 3 ∨ n = 4 ∨ n = 5 ∨ n = 6 ∨ n = 7 ∨ n = 8 ∨ n = 9 ∨ n = 10 ∨ n = 11 ∨ n = 12 ∨ n = 13 ∨ n = 14 ∨ n = 15 := by omega
  rcases this with rfl | rfl | rfl | rfl | rfl | rfl | rfl | rfl | rfl | rfl | rfl | rfl | rfl | rfl | rfl | rfl <;> rfl
theorem binA_and {k : IntKind} {a b : Int} : binA .and (.int k a) (.int k b) = some (.int k (k.wrap (BitVec.ofInt k.bits a &&& BitVec.ofInt k.bits b).toNat)) := by simp [binA, binInt]
theorem and_low : ((List.range 256).all fun n => IntKind.i64.wrap (BitVec.ofInt IntKind.i64.bits ((n : Int).fdiv (2 ^ (min 0 IntKind.i64.bits))) &&& BitVec.ofInt IntKind.i64.bits 15).toNat == ((n % 16 : Nat) : Int)) = true := by kernel_rfl
theorem and_high : ((List.range 256).all fun n => IntKind.i64.wrap (BitVec.ofInt IntKind.i64.bits ((n : Int).fdiv (2 ^ (min 4 IntKind.i64.bits))) &&& BitVec.ofInt IntKind.i64.bits 15).toNat == ((n / 16 : Nat) : Int)) = true := by kernel_rfl

set_option maxHeartbeats 1000000 in
theorem call62 (b : UInt8) : PCalls Zk.pg 62 [.int .i64 b.toNat, .int .i64 2] fun out => out = .ret (.str (mkB (hex2 b))) := by
  refine ok62.pcalls (by simp) ?_
  have hb := b.toNat_lt
  have a0 := List.all_eq_true.1 and_low b.toNat (List.mem_range.2 hb)
  have a1 := List.all_eq_true.1 and_high b.toNat (List.mem_range.2 hb)
  rw [beq_iff_eq] at a0 a1
  obtain ⟨m0, hm0⟩ : ∃ m, m = b.toNat % 16 := ⟨_, rfl⟩
  obtain ⟨m1, hm1⟩ : ∃ m, m = b.toNat / 16 := ⟨_, rfl⟩
  have hex : hex2 b = [hexC m1, hexC m0] := by rw [hm0, hm1]; rfl
  have f0 := fig_at (n := m0) (by omega)
  have f1 := fig_at (n := m1) (by omega)
  rw [← hm0] at a0
  rw [← hm1] at a1
  simp at a0 a1
  rw [hex]
  simp [c62]
  refine wpS_loop (ι := Nat) (fun i => [(0, .int .i64 b.toNat), (1, .int .i64 2), (5, .row 0 0 1 0 2), (10, .int .i64 2), (11, .int .i64 i)])
    (fun i => ⟨[(0, .row 5 1 (if i = 0 then [[.int .u8 0], [.int .u8 0]] else if i = 1 then [[.int .u8 0], [.int .u8 (hexC m0).toNat]] else [[.int .u8 (hexC m1).toNat], [.int .u8 (hexC m0).toNat]]))], 1⟩) (fun i => 2 - i) (fun i => i ≤ 2) 0 (by omega) (Env.le_of (by simp)) (by simp) ?_
  intro i hi
  have h3 : i = 0 ∨ i = 1 ∨ i = 2 := by omega
  have q02 : ltI 0 2 = true := rfl
  have q12 : ltI 1 2 = true := rfl
  have q22 : ltI 2 2 = false := rfl
  have v0 : IntKind.i64.wrap 0 = 0 := rfl
  have v1 : IntKind.i64.wrap 1 = 1 := rfl
  have v2 : IntKind.i64.wrap 2 = 2 := rfl
  have v4 : IntKind.i64.wrap 4 = 4 := rfl
  rcases h3 with rfl | rfl | rfl
  · simp [q02, v0, v1, v2, v4, binA_and, a0, f0]
    exact ⟨1, by omega, by omega, Env.le_of (by simp [v1]), Mem.le_of rfl (by simp)⟩
  · simp [q12, v0, v1, v2, v4, binA_and, a1, f1]
    exact ⟨2, by omega, by omega, Env.le_of (by simp [v2]), Mem.le_of rfl (by simp)⟩
  · have e0 : UInt8.ofNat (hexC m0).toNat = hexC m0 := by simp
    have e1 : UInt8.ofNat (hexC m1).toNat = hexC m1 := by simp
    simp [q22, byteOf, cr62, postP_ret, mkB]

set_option maxHeartbeats 1000000 in
theorem call66 (b : UInt8) : PCalls Zk.pg 66 [.int .i64 b.toNat, .int .i64 2] fun out => out = .ret (.str (mkB (hex2 b))) := by
  refine ok66.pcalls (by simp) ?_
  have hb := b.toNat_lt
  obtain ⟨bn, hbn⟩ : ∃ bn, bn = b.toNat := ⟨_, rfl⟩
  obtain ⟨m0, hm0⟩ : ∃ m, m = bn % 16 := ⟨_, rfl⟩
  obtain ⟨m1, hm1⟩ : ∃ m, m = bn / 16 := ⟨_, rfl⟩
  have hex : hex2 b = [hexC m1, hexC m0] := by rw [hm0, hm1, hbn]; rfl
  rw [← hbn] at hb ⊢
  have s0 : figL.extract m0 (m0 + 1) = mkB [hexC m0] := by
    rw [extract_one (by show m0 < 16; omega)]
    congr 2
    have := fig_at (n := m0) (by omega)
    rw [idxS (i := m0) (ltI_t.2 (by show (m0 : Int) < (16 : Nat); omega))] at this
    exact Option.some.inj this
  have s1 : figL.extract m1 (m1 + 1) = mkB [hexC m1] := by
    rw [extract_one (by show m1 < 16; omega)]
    congr 2
    have := fig_at (n := m1) (by omega)
    rw [idxS (i := m1) (ltI_t.2 (by show (m1 : Int) < (16 : Nat); omega))] at this
    exact Option.some.inj this
  have r0 : (bn : Int).tmod 16 = (m0 : Int) := by rw [Int.tmod_eq_emod_of_nonneg (by omega)]; omega
  have d0 : IntKind.i64.wrap ((bn : Int) / 16) = (m1 : Int) := by rw [wrap64 (by omega) (by omega)]; omega
  have r1 : (m1 : Int).tmod 16 = (m1 : Int) := by rw [Int.tmod_eq_emod_of_nonneg (by omega)]; omega
  have d1 : IntKind.i64.wrap ((m1 : Int) / 16) = 0 := by rw [wrap64 (by omega) (by omega)]; omega
  have y0 : IntKind.i64.wrap ((m0 : Int) + 1) = m0 + 1 := wrap64 (by omega) (by omega)
  have y1 : IntKind.i64.wrap ((m1 : Int) + 1) = m1 + 1 := wrap64 (by omega) (by omega)
  have z0 : (m0 : Int) + 1 ≤ 16 ∧ ((m0 : Int) + 1).toNat = m0 + 1 ∧ (m0 : Int) ≤ m0 + 1 := ⟨by omega, by omega, by omega⟩
  have z1 : (m1 : Int) + 1 ≤ 16 ∧ ((m1 : Int) + 1).toNat = m1 + 1 ∧ (m1 : Int) ≤ m1 + 1 := ⟨by omega, by omega, by omega⟩
  have hs16 : figL.size = 16 := rfl
  rw [hex]
  simp [c66]
  refine wpS_loop (ι := Nat) (fun i => [(0, .int .i64 ((if i = 0 then bn else if i = 1 then m1 else 0 : Nat) : Int)), (1, .int .i64 2), (5, .str (mkB (if i = 0 then [] else if i = 1 then [hexC m0] else [hexC m1, hexC m0]))), (6, .int .i64 i)]) (fun _ => Mem.empty) (fun i => 2 - i) (fun i => i ≤ 2) 0 (by omega) (Env.le_of (by simp [mkB])) rfl ?_
  intro i hi
  have h3 : i = 0 ∨ i = 1 ∨ i = 2 := by omega
  have q02 : ltI 0 2 = true := rfl
  have q12 : ltI 1 2 = true := rfl
  have q22 : ltI 2 2 = false := rfl
  have w1 : IntKind.i64.wrap 1 = 1 := rfl
  have w2 : IntKind.i64.wrap 2 = 2 := rfl
  have ms : ∀ l : List UInt8, (mkB l).size = l.length := fun _ => rfl
  rcases h3 with rfl | rfl | rfl
  · simp [q02, w1, sliceA, boundsA, r0, d0, y0, z0, hs16, s0, mkB_append, ms]
    exact ⟨1, by omega, by omega, Env.le_of (by simp [d0]), Mem.le_of rfl (by simp)⟩
  · simp [q12, w2, sliceA, boundsA, r1, d1, y1, z1, hs16, s1, mkB_append, ms]
    exact ⟨2, by omega, by omega, Env.le_of (by simp [d1]), Mem.le_of rfl (by simp)⟩
  · simp [q22, cr66, postP_ret]

theorem decs_len : ∀ (k u : Nat), u < 10 ^ k → 1 ≤ k → (Lib.decDigits u).length ≤ k
  | 0, _, _, h => by omega
  | k + 1, u, h, _ => by
    by_cases hu : u < 10
    · rw [Lib.decDigits_one hu]; simp
    · have hk : 1 ≤ k := by
        rcases Nat.eq_zero_or_pos k with e | e
        · subst e; omega
        · exact e
      rw [Lib.decDigits, dif_neg hu, List.length_append]
      have := decs_len k (u / 10) (by rw [Nat.pow_succ] at h; omega) hk
      simp only [List.length_cons, List.length_nil]; omega

set_option maxHeartbeats 1000000 in
theorem call67n : ∀ u : Nat, u ≤ 9223372036854775807 → PCalls Zk.pg 67 [.int .i64 u] fun out => out = .ret (.str (mkB (Lib.decDigits u))) := by
  intro u
  induction u using Nat.strongRecOn with
  | _ u ih =>
    intro hu
    refine ok67.pcalls (by simp) ?_
    have q0 : ltI (u : Int) 0 = false := ltI_f.2 (by omega)
    simp [c67, q0]
    refine br_cond rfl (fun h => ?_) (fun h => ?_)
    · have h10 : u < 10 := by have := ltI_t.1 h; omega
      have w1 : IntKind.i64.wrap (48 + (u : Int)) = 48 + u := wrap64 (by omega) (by omega)
      have w2 : IntKind.u8.wrap (48 + (u : Int)) = 48 + u := by rw [IntKind.wrap_u8]; omega
      have e : ({ data := #[UInt8.ofNat (48 + (u : Int)).toNat] } : ByteArray) = mkB (Lib.decDigits u) := by
        rw [Lib.decDigits_one h10]
        have : (48 + (u : Int)).toNat = 48 + u := by omega
        rw [this]; rfl
      simp [w1, w2, byteOf, cr67, postP_ret, e]
    · have h10 : ¬ u < 10 := by have := ltI_f.1 h; omega
      have hq : (u : Int).tdiv 10 = ((u / 10 : Nat) : Int) := by rw [Int.tdiv_eq_ediv_of_nonneg (by omega)]; omega
      have wq : IntKind.i64.wrap ((u / 10 : Nat) : Int) = ((u / 10 : Nat) : Int) := wrap64 (by omega) (by omega)
      have wq' : IntKind.i64.wrap ((u : Int) / 10) = ((u / 10 : Nat) : Int) := by rw [wrap64 (by omega) (by omega)]; omega
      have hr : (u : Int).tmod 10 = ((u % 10 : Nat) : Int) := by rw [Int.tmod_eq_emod_of_nonneg (by omega)]; omega
      have x1 : IntKind.i64.wrap (48 + ((u : Int) % 10)) = 48 + ((u % 10 : Nat) : Int) := by rw [wrap64 (by omega) (by omega)]; omega
      have x2 : IntKind.u8.wrap (48 + ((u : Int) % 10)) = 48 + ((u % 10 : Nat) : Int) := by rw [IntKind.wrap_u8]; omega
      simp [hq, wq']
      refine xdcall_p rfl (ih (u / 10) (by omega) (by omega)) (by simp) ?_
      have hl := decs_len 19 (u / 10) (by omega) (by omega)
      have hsz : (mkB (Lib.decDigits (u / 10))).size + 1 ≤ 9223372036854775807 := by rw [show (mkB (Lib.decDigits (u / 10))).size = (Lib.decDigits (u / 10)).length from rfl]; omega
      have e : mkB (Lib.decDigits (u / 10)) ++ ({ data := #[UInt8.ofNat (48 + (u : Int) % 10).toNat] } : ByteArray) = mkB (Lib.decDigits u) := by
        conv => rhs; rw [Lib.decDigits, dif_neg h10]
        have : (48 + (u : Int) % 10).toNat = 48 + u % 10 := by omega
        rw [this, ← mkB_append]; rfl
      have hsz : (mkB (Lib.decDigits (u / 10))).size + ({ data := #[UInt8.ofNat (48 + (u : Int) % 10).toNat] } : ByteArray).size ≤ 9223372036854775807 := by
        show (Lib.decDigits (u / 10)).length + 1 ≤ _
        omega
      simp [hr, x1, x2, byteOf, hsz, e, cr67, postP_ret]

/-- Decimal. -/
theorem call67 {n : Int} (h0 : -9223372036854775807 ≤ n) (h1 : n ≤ 9223372036854775807) : PCalls Zk.pg 67 [.int .i64 n] fun out => out = .ret (.str (mkB (Lib.itoa n))) := by
  by_cases hn : n < 0
  · refine ok67.pcalls (by simp) ?_
    obtain ⟨u, hu⟩ : ∃ u : Nat, n = -(u : Int) := ⟨n.natAbs, by omega⟩
    have q0 : ltI n 0 = true := ltI_t.2 hn
    have w0 : IntKind.i64.wrap (-n) = (u : Int) := by rw [wrap64 (by omega) (by omega)]; omega
    have hl := decs_len 19 u (by omega) (by omega)
    have hsz : ({ data := #[45] } : ByteArray).size + (mkB (Lib.decDigits u)).size ≤ 9223372036854775807 := by
      show 1 + (Lib.decDigits u).length ≤ _
      omega
    have e : ({ data := #[45] } : ByteArray) ++ mkB (Lib.decDigits u) = mkB (Lib.itoa n) := by
      unfold Lib.itoa
      rw [if_pos hn, show n.natAbs = u by omega]
      exact mkB_append [45] _
    simp [c67, q0, w0]
    refine xcall_p (call67n u (by omega)) rfl ?_
    simp [hsz, e, cr67, postP_ret]
  · obtain ⟨u, rfl⟩ : ∃ u : Nat, n = (u : Int) := ⟨n.toNat, by omega⟩
    have := call67n u (by omega)
    have e : Lib.itoa (u : Int) = Lib.decDigits u := by unfold Lib.itoa; rw [if_neg (by omega)]; simp
    rw [e]
    exact this
end Go.Pm

/- ZkX0: plain: an object's text; what a valid object has. -/
namespace Go.Pm
open Go Go.Proofs

def wOBJ : ByteArray := ⟨#[79, 66, 74, 69, 67, 84]⟩
def wCODE : ByteArray := ⟨#[67, 79, 68, 69]⟩
def wDEF : ByteArray := ⟨#[68, 69, 70]⟩
def wREF : ByteArray := ⟨#[82, 69, 70]⟩
def wLINE : ByteArray := ⟨#[76, 73, 78, 69]⟩
def wEND : ByteArray := ⟨#[69, 78, 68]⟩
def hexs (l : List UInt8) : List UInt8 := l.flatMap hex2
def chunk (l : List UInt8) (k : Nat) : List UInt8 := (l.drop (32 * k)).take 32
def nChunks (l : List UInt8) : Nat := (l.length + 31) / 32
def itB (n : Int) : ByteArray := mkB (Lib.itoa n)
def codeP (l : List UInt8) (k : Nat) : List ByteArray := [wCODE, mkB (hexs (chunk l k))]
def defP (d : DDef) : List ByteArray := [wDEF, d.name, itB d.at_]
def refP (d : DRef) : List ByteArray := [wREF, itB d.at_, d.name, itB d.plus]
def lineP (d : DLine) : List ByteArray := [wLINE, itB d.at_, itB d.stmt]
/-- The lines of an object's text, as parts; the text of some lines. -/
def partsD (o : Deck) : List (List ByteArray) := [wOBJ, o.name] :: ((List.range (nChunks o.code.data.toList)).map (codeP o.code.data.toList) ++ o.defs.map defP ++ o.refs.map refP ++ o.lines.map lineP ++ [[wEND]])
def lineOf (ps : List ByteArray) : List UInt8 := Lib.join (ps.map (·.data.toList)) [32] ++ [10]
def textOf (l : List (List ByteArray)) : List UInt8 := l.flatMap lineOf
theorem textOf_snoc (l : List (List ByteArray)) (ps : List ByteArray) : textOf (l ++ [ps]) = textOf l ++ lineOf ps := by simp [textOf]

structure Deck.Txt (o : Deck) : Prop where
  name : nameOk o.name = true
  code : o.code.size ≤ 20000
  even : o.code.size % 2 = 0
  defs : ∀ d ∈ o.defs, nameOk d.name = true ∧ 0 ≤ d.at_ ∧ d.at_ ≤ 20000
  refs : ∀ d ∈ o.refs, nameOk d.name = true ∧ 0 ≤ d.at_ ∧ d.at_ ≤ 20000 ∧ -1000000000 ≤ d.plus ∧ d.plus ≤ 1000000000
  lines : ∀ d ∈ o.lines, 0 ≤ d.at_ ∧ d.at_ ≤ 20000 ∧ 0 ≤ d.stmt ∧ d.stmt ≤ 1000000000

theorem mem_ix {α : Type} [Inhabited α] {l : List α} {x : α} (h : x ∈ l) : ∃ i, i < l.length ∧ ix l i = x := by
  obtain ⟨i, hi, rfl⟩ := List.getElem_of_mem h
  exact ⟨i, hi, by simp [ix, List.getD, hi]⟩
theorem within_t {n a b : Int} (h : withinF n a b = true) : a ≤ n ∧ n ≤ b := by
  unfold withinF at h
  rw [Bool.and_eq_true] at h
  exact ⟨leI_t.1 h.1, leI_t.1 h.2⟩

theorem deckOk_txt {o : Deck} (h : deckOk o = true) : o.Txt := by
  unfold deckOk at h
  simp only [Bool.and_eq_true, Bool.not_eq_true'] at h
  obtain ⟨⟨⟨⟨⟨h1, h2⟩, h3⟩, h4⟩, h5⟩, h6⟩ := h
  have hc := ltI_f.1 h2
  have hev := eqI_t.1 h3
  rw [Int.tmod_eq_emod_of_nonneg (by omega)] at hev
  refine ⟨h1, by omega, by omega, fun d hd => ?_, fun d hd => ?_, fun d hd => ?_⟩
  · obtain ⟨i, hi, rfl⟩ := mem_ix hd
    have := List.all_eq_true.1 h4 i (List.mem_range.2 hi)
    unfold defOk at this
    simp only [Bool.and_eq_true] at this
    have hw := within_t this.1.1.2
    exact ⟨this.1.1.1, hw.1, by omega⟩
  · obtain ⟨i, hi, rfl⟩ := mem_ix hd
    have := List.all_eq_true.1 h5 i (List.mem_range.2 hi)
    unfold refOk at this
    simp only [Bool.and_eq_true] at this
    have hw := within_t this.1.1.1.2
    have hp := within_t this.1.2
    exact ⟨this.1.1.1.1, hw.1, by omega, hp.1, hp.2⟩
  · obtain ⟨i, hi, rfl⟩ := mem_ix hd
    have := List.all_eq_true.1 h6 i (List.mem_range.2 hi)
    unfold lineOk at this
    simp only [Bool.and_eq_true] at this
    have hw := within_t this.1.1.1
    have hp := within_t this.1.2
    exact ⟨hw.1, by omega, hp.1, hp.2⟩
end Go.Pm

/- ZkR9: contracts: the reference's numbers. -/
namespace Go.Pm
open Go Go.Proofs
attribute [-simp] List.getElem?_map

theorem len_data (s : ByteArray) : s.data.toList.length = s.size := by simp
theorem mkB_size (l : List UInt8) : (mkB l).size = l.length := rfl
def numRAV (s : ByteArray) : AV := match numRL s.data.toList with
  | some n => .tuple [.int .i64 n, .bool true]
  | none => .tuple [.int .i64 0, .bool false]

theorem take_byte {s : ByteArray} {i : Nat} (h : i < s.size) : s.data.toList.take (i + 1) = s.data.toList.take i ++ [byteAt s i] := by
  have h1 : i < s.data.toList.length := by simpa using h
  rw [List.take_add_one, List.getElem?_eq_getElem h1, byteAt_eq h1]
  rfl
theorem valFrom_snoc (l : List UInt8) (c : UInt8) : valFrom 0 (l ++ [c]) = valFrom 0 l * 10 + (c.toNat - 48) := by unfold valFrom; rw [List.foldl_append]; rfl
theorem extract_tail (s : ByteArray) : s.extract 1 s.size = mkB s.data.toList.tail := by
  rw [← mkB_data (s.extract 1 s.size), Lib.extract_data]
  congr 1
  rw [List.drop_one]
  exact List.take_of_length_le (by simp)
theorem head_byte {s : ByteArray} (h : 0 < s.size) : s.data.toList.head? = some (byteAt s 0) := by
  have h1 : 0 < s.data.toList.length := by simpa using h
  rw [List.head?_eq_getElem?, List.getElem?_eq_getElem h1, byteAt_eq h1]

/-- The part behind the sign, walked. -/
structure NumT (s t : ByteArray) : Prop where
  data : t.data.toList = tailN s.data.toList
theorem NumT.none_of {s t : ByteArray} (h : NumT s t) (hc : t.size < 1 ∨ 10 < t.size ∨ ((0 < t.size ∧ (byteAt t 0) = 48) ∧ (1 < t.size ∨ 1 < s.size))) : numRAV s = .tuple [.int .i64 0, .bool false] := by
  have hsz : t.size = (tailN s.data.toList).length := by rw [← h.data]; simp
  have hss : s.size = s.data.toList.length := by simp
  unfold numRAV numRL
  rw [if_pos]
  rcases hc with hc | hc | ⟨⟨h0, hb⟩, hc⟩
  · exact .inl (by omega)
  · exact .inr (.inl (by omega))
  · refine .inr (.inr ⟨?_, by omega⟩)
    rw [← h.data, head_byte h0, hb]
theorem NumT.bad_digit {s t : ByteArray} (h : NumT s t) {i : Nat} (hi : i < t.size) (hd : isDig (byteAt t i) = false) : numRAV s = .tuple [.int .i64 0, .bool false] := by
  unfold numRAV
  have : numRL s.data.toList = none := by
    unfold numRL
    split
    · rfl
    · rw [if_neg]
      intro ha
      rw [← h.data] at ha
      have hm : byteAt t i ∈ t.data.toList := by
        have h1 : i < t.data.toList.length := by simpa using hi
        rw [← byteAt_eq h1]; exact List.getElem_mem h1
      have := List.all_eq_true.1 ha _ hm
      rw [hd] at this; cases this
  rw [this]
theorem NumT.ok {s t : ByteArray} (h : NumT s t) (hc : ¬ (t.size < 1 ∨ 10 < t.size ∨ ((0 < t.size ∧ (byteAt t 0) = 48) ∧ (1 < t.size ∨ 1 < s.size)))) (hd : t.data.toList.all isDig = true) :
    numRAV s = .tuple [.int .i64 (if t.size < s.size then -(valFrom 0 t.data.toList : Int) else valFrom 0 t.data.toList), .bool true] := by
  have hsz : t.size = (tailN s.data.toList).length := by rw [← h.data]; simp
  have hss : s.size = s.data.toList.length := by simp
  have : numRL s.data.toList = some (if t.size < s.size then -(valFrom 0 t.data.toList : Int) else valFrom 0 t.data.toList) := by
    unfold numRL
    rw [if_neg, ← h.data, if_pos hd]
    · have e : t.data.toList.length = t.size := by simp
      rw [e, ← hss]
    · rintro (h1 | h1 | ⟨h1, h2⟩)
      · exact hc (.inl (by omega))
      · exact hc (.inr (.inl (by omega)))
      · by_cases h0 : 0 < t.size
        · refine hc (.inr (.inr ⟨⟨h0, ?_⟩, by omega⟩))
          rw [← h.data, head_byte h0] at h1
          injection h1
        · exact hc (.inl (by omega))
  unfold numRAV
  rw [this]

theorem dig_iff (c : UInt8) : isDig c = (!ltI c.toNat 48 && !ltI 57 c.toNat) := by
  unfold isDig ltI
  by_cases h1 : 48 ≤ c.toNat <;> by_cases h2 : c.toNat ≤ 57 <;> simp [h1, h2] <;> omega

set_option maxHeartbeats 2000000 in
theorem loop84 {s t : ByteArray} {c c2 : Bool} (hT : NumT s t) (hts : t.size ≤ s.size) (ht10 : t.size ≤ 10)
    (hc : ¬ (t.size < 1 ∨ 10 < t.size ∨ ((0 < t.size ∧ (byteAt t 0) = 48) ∧ (1 < t.size ∨ 1 < s.size)))) :
    wpS Zk.pg Zk.imp q84 [] (postP cr84 fun out => out = .ret (numRAV s)) [(0, .str s), (2, .int .i64 0), (3, .bool false), (4, .str t), (15, .bool c), (40, .bool c2)] Mem.empty := by
  simp [q84]
  refine wpS_loop (ι := Nat) (fun i => [(0, .str s), (4, .str t), (5, .int .i64 (valFrom 0 (t.data.toList.take i))), (6, .int .i64 i)]) (fun _ => Mem.empty) (fun i => t.size - i)
    (fun i => i ≤ t.size ∧ (t.data.toList.take i).all isDig = true) 0 ⟨Nat.zero_le _, by simp⟩ (Env.le_of (by simp [valFrom])) rfl ?_
  rintro i ⟨hi, hall⟩
  have hw : IntKind.i64.wrap ((i : Int) + 1) = i + 1 := wrap64 (by omega) (by omega)
  have hv : valFrom 0 (t.data.toList.take i) < 10000000000 := by
    have h := val_lt _ 0 hall
    have hl : (t.data.toList.take i).length ≤ 10 := by simp; omega
    have hp : 10 ^ (t.data.toList.take i).length ≤ 10 ^ 10 := Nat.pow_le_pow_right (by decide) hl
    omega
  obtain ⟨v, hve⟩ : ∃ v, v = valFrom 0 (t.data.toList.take i) := ⟨_, rfl⟩
  rw [← hve] at hv
  simp only [← hve]
  simp
  refine br_cond rfl (fun h1 => ?_) (fun h1 => ?_)
  · have hlt : i < t.size := by have := ltI_t.1 h1; omega
    simp [h1, idxS]
    refine br_guard_f rfl (fun h2 => ?_) (fun h2 => ?_)
    · simp [h2, cr84, postP_ret, hT.bad_digit hlt (by simp [dig_iff, h2]), AV.perm, permL]
    · simp [h1, h2, idxS]
      refine br_cond rfl (fun h3 => ?_) (fun h3 => ?_)
      · simp [cr84, postP_ret, hT.bad_digit hlt (by simp [dig_iff, h3]), AV.perm, permL]
      · have hd : isDig (byteAt t i) = true := by simp [dig_iff, h2, h3]
        have g2 := ltI_f.1 h2
        have g3 := ltI_f.1 h3
        have w1 : IntKind.i64.wrap (v * 10) = v * 10 := wrap64 (by omega) (by omega)
        have w2 : IntKind.u8.wrap ((byteAt t i).toNat - 48) = (byteAt t i).toNat - 48 := u8w (by omega) (by omega)
        have w3 : IntKind.i64.wrap (((byteAt t i).toNat : Int) - 48) = (byteAt t i).toNat - 48 := wrap64 (by omega) (by omega)
        have w4 : IntKind.i64.wrap ((v : Int) * 10 + ((byteAt t i).toNat - 48)) = v * 10 + ((byteAt t i).toNat - 48) := wrap64 (by omega) (by omega)
        have hnext : valFrom 0 (t.data.toList.take (i + 1)) = v * 10 + ((byteAt t i).toNat - 48) := by rw [take_byte hlt, valFrom_snoc, ← hve]
        have hcast : ((valFrom 0 (t.data.toList.take (i + 1)) : Nat) : Int) = v * 10 + ((byteAt t i).toNat - 48) := by rw [hnext]; omega
        simp [h1, idxS, w1, w2, w3, w4, hw]
        refine ⟨i + 1, ⟨by omega, ?_⟩, by omega, Env.le_of (by simp [hcast]), Mem.le_of rfl (by simp)⟩
        intro y hy
        rw [take_byte hlt] at hy
        rcases List.mem_append.1 hy with hy | hy
        · exact List.all_eq_true.1 hall y hy
        · rw [List.mem_singleton.1 hy]; exact hd
  · have hie : i = t.size := by have := ltI_f.1 h1; omega
    have htake : t.data.toList.take i = t.data.toList := List.take_of_length_le (by simp; omega)
    rw [htake] at hall hve
    have hok := hT.ok hc hall
    rw [← hve] at hok
    simp
    refine br_cond rfl (fun h2 => ?_) (fun h2 => ?_)
    · have g := ltI_t.1 h2
      have wn : IntKind.i64.wrap (-(v : Int)) = -v := wrap64 (by omega) (by omega)
      rw [if_pos (by omega)] at hok
      simp [wn, cr84, postP_ret, hok, AV.perm, permL]
    · have g := ltI_f.1 h2
      rw [if_neg (by omega)] at hok
      simp [cr84, postP_ret, hok, AV.perm, permL]

set_option maxHeartbeats 2000000 in
theorem tail84 {s t : ByteArray} {c : Bool} (hT : NumT s t) (hts : t.size ≤ s.size) :
    wpS Zk.pg Zk.imp r84 [] (postP cr84 fun out => out = .ret (numRAV s)) [(0, .str s), (2, .int .i64 0), (3, .bool false), (4, .str t), (15, .bool c)] Mem.empty := by
  simp [r84]
  refine br_guard_f rfl (fun g1 => ?_) (fun g1 => ?_)
  · have := ltI_t.1 g1
    simp [g1, cr84, postP_ret, hT.none_of (.inl (by omega)), AV.perm, permL]
  have k1 := ltI_f.1 g1
  simp [g1]
  refine br_guard_f rfl (fun g2 => ?_) (fun g2 => ?_)
  · have := ltI_t.1 g2
    simp [g2, cr84, postP_ret, hT.none_of (.inr (.inl (by omega))), AV.perm, permL]
  have k2 := ltI_f.1 g2
  have ht0 : t[0]? = some (byteAt t 0) := idxS (i := 0) (ltI_t.2 (by omega))
  simp [g2, ht0]
  refine br_guard_t rfl (fun g3 => ?_) (fun g3 => ?_)
  · have hb : byteAt t 0 = 48 := u8_eq' (by have := eqI_t.1 g3; show (byteAt t 0).toNat = 48; omega)
    simp [g3]
    refine br_guard_f rfl (fun g4 => ?_) (fun g4 => ?_)
    · have := ltI_t.1 g4
      simp [g4, cr84, postP_ret, hT.none_of (.inr (.inr ⟨⟨by omega, hb⟩, .inl (by omega)⟩)), AV.perm, permL]
    · have k4 := ltI_f.1 g4
      simp [g4]
      refine br_cond rfl (fun g5 => ?_) (fun g5 => ?_)
      · have := ltI_t.1 g5
        simp [g5, cr84, postP_ret, hT.none_of (.inr (.inr ⟨⟨by omega, hb⟩, .inr (by omega)⟩)), AV.perm, permL]
      · have k5 := ltI_f.1 g5
        simp
        exact loop84 hT hts (by omega) (by omega)
  · have hb : byteAt t 0 ≠ 48 := fun e => by rw [e] at g3; simp [eqI] at g3
    simp [g3]
    refine loop84 hT hts (by omega) ?_
    rintro (h | h | ⟨⟨_, h⟩, _⟩)
    · omega
    · omega
    · exact hb h
set_option maxHeartbeats 2000000 in
theorem call84 (s : ByteArray) (hs : s.size ≤ 1048576) : PCalls Zk.pg 84 [.str s] fun out => out = .ret (numRAV s) := by
  refine ok84.pcalls (by simp) ?_
  simp [c84]
  have same : tailN s.data.toList = s.data.toList → ∀ c, wpS Zk.pg Zk.imp r84 [] (postP cr84 fun out => out = .ret (numRAV s)) [(0, .str s), (2, .int .i64 0), (3, .bool false), (4, .str s), (15, .bool c)] Mem.empty := fun h c => tail84 ⟨h.symm⟩ (Nat.le_refl _)
  refine br_guard_t rfl (fun h1 => ?_) (fun h1 => ?_)
  · have h0 : 0 < s.size := by have := ltI_t.1 h1; omega
    have hi0 : s[0]? = some (byteAt s 0) := idxS (i := 0) h1
    simp [h1, hi0]
    refine br_cond rfl (fun h2 => ?_) (fun h2 => ?_)
    · have hb : byteAt s 0 = 45 := u8_eq' (by have := eqI_t.1 h2; show (byteAt s 0).toNat = 45; omega)
      have ht : tailN s.data.toList = s.data.toList.tail := by unfold tailN; rw [head_byte h0, hb, if_pos rfl]
      have h1s : (1 : Int) ≤ s.size := by omega
      simp [sliceA, boundsA, h1s, extract_tail]
      exact tail84 ⟨by rw [ht]; simp⟩ (by rw [mkB_size, List.length_tail, len_data]; omega)
    · simp
      refine same ?_ _
      unfold tailN
      rw [head_byte h0, if_neg]
      intro e
      injection e with e
      rw [e] at h2
      simp [eqI] at h2
  · simp [h1]
    refine same ?_ _
    have h0 : s.data.toList = [] := List.eq_nil_of_length_eq_zero (by rw [len_data]; have := ltI_f.1 h1; omega)
    rw [h0]; rfl
end Go.Pm

/- ZkS2: code, resolved. Written by gen.py out of what ShowSC.lean printed. -/
namespace Go.Pm
open Go Go.Proofs

/-- ironbark/ironbarkref34.Valid -/
def c29 : SC :=
  (.seq (.ops [⟨(some 1), .plain (.box 5), [.tmp 0], none⟩,
    ⟨(some 2), .plain .mv, [.lit (.bool false)], none⟩] [])
  (.seq (.ops [⟨(some 11), .plain (.fieldAddr 1), [.tmp 1], none⟩,
    ⟨(some 12), .plain (.load false 1), [.tmp 11], none⟩,
    ⟨(some 13), .plain (.len 0), [.tmp 12], none⟩,
    ⟨(some 3), .plain .mv, [.tmp 13], none⟩] [11, 12, 13])
  (.seq (.seq (.ops [⟨(some 14), .plain (.fieldAddr 0), [.tmp 1], none⟩,
    ⟨(some 15), .plain (.load false 1), [.tmp 14], none⟩,
    ⟨(some 16), .call 85, [.tmp 15], none⟩,
    ⟨(some 17), .plain (.un .not), [.tmp 16], none⟩,
    ⟨(some 18), .plain .mv, [.tmp 17], none⟩,
    ⟨(some 19), .plain .mv, [.tmp 3], (some (18, false))⟩,
    ⟨(some 20), .plain (.bin .gtr), [.tmp 19, .lit (.int .i64 20000)], (some (18, false))⟩,
    ⟨(some 21), .plain .pick, [.tmp 18, .lit (.bool true), .tmp 20], none⟩,
    ⟨(some 22), .plain .mv, [.tmp 21], none⟩,
    ⟨(some 23), .plain .mv, [.tmp 3], (some (22, false))⟩,
    ⟨(some 24), .plain (.bin .rem), [.tmp 23, .lit (.int .i64 2)], (some (22, false))⟩,
    ⟨(some 25), .plain (.bin .neq), [.tmp 24, .lit (.int .i64 0)], (some (22, false))⟩,
    ⟨(some 26), .plain .pick, [.tmp 22, .lit (.bool true), .tmp 25], none⟩] [14, 15, 16, 17, 18, 19, 20, 21, 22, 23, 24, 25])
  (.cond (.tmp 26)
   (.seq (.ops [⟨(some 2), .plain .mv, [.lit (.bool false)], none⟩] [])
   .ret)
   .skip))
  (.seq (.seq (.ops [⟨(some 4), .plain .mv, [.lit (.int .i64 0)], none⟩] [])
  (.block 0
   (.loop
    (.seq (.seq (.ops [⟨(some 27), .plain .mv, [.tmp 4], none⟩,
      ⟨(some 28), .plain (.fieldAddr 2), [.tmp 1], none⟩,
      ⟨(some 29), .plain (.load false 1), [.tmp 28], none⟩,
      ⟨(some 30), .plain (.len 1), [.tmp 29], none⟩,
      ⟨(some 31), .plain (.bin .lss), [.tmp 27, .tmp 30], none⟩] [27, 28, 29, 30])
    (.cond (.tmp 31)
     .skip
     (.exit 0)))
    (.seq (.block 1
     (.seq (.seq (.ops [⟨(some 34), .plain (.fieldAddr 2), [.tmp 1], none⟩,
       ⟨(some 35), .plain (.load false 1), [.tmp 34], none⟩,
       ⟨(some 36), .plain .mv, [.tmp 4], none⟩,
       ⟨(some 37), .plain (.indexAddr 2), [.tmp 35, .tmp 36], none⟩,
       ⟨(some 38), .plain (.fieldAddr 0), [.tmp 37], none⟩,
       ⟨(some 39), .plain (.load false 1), [.tmp 38], none⟩,
       ⟨(some 40), .call 85, [.tmp 39], none⟩,
       ⟨(some 41), .plain (.un .not), [.tmp 40], none⟩,
       ⟨(some 42), .plain .mv, [.tmp 41], none⟩,
       ⟨(some 43), .plain (.fieldAddr 2), [.tmp 1], (some (42, false))⟩,
       ⟨(some 44), .plain (.load false 1), [.tmp 43], (some (42, false))⟩,
       ⟨(some 45), .plain .mv, [.tmp 4], (some (42, false))⟩,
       ⟨(some 46), .plain (.indexAddr 2), [.tmp 44, .tmp 45], (some (42, false))⟩,
       ⟨(some 47), .plain (.fieldAddr 1), [.tmp 46], (some (42, false))⟩,
       ⟨(some 48), .plain (.load false 1), [.tmp 47], (some (42, false))⟩,
       ⟨(some 49), .plain .mv, [.tmp 3], (some (42, false))⟩,
       ⟨(some 50), .call 86, [.tmp 48, .lit (.int .i64 0), .tmp 49], (some (42, false))⟩,
       ⟨(some 51), .plain (.un .not), [.tmp 50], (some (42, false))⟩,
       ⟨(some 52), .plain .pick, [.tmp 42, .lit (.bool true), .tmp 51], none⟩,
       ⟨(some 53), .plain .mv, [.tmp 52], none⟩,
       ⟨(some 54), .plain (.fieldAddr 2), [.tmp 1], (some (53, false))⟩,
       ⟨(some 55), .plain (.load false 1), [.tmp 54], (some (53, false))⟩,
       ⟨(some 56), .plain .mv, [.tmp 4], (some (53, false))⟩,
       ⟨(some 57), .plain (.indexAddr 2), [.tmp 55, .tmp 56], (some (53, false))⟩,
       ⟨(some 58), .plain (.fieldAddr 1), [.tmp 57], (some (53, false))⟩,
       ⟨(some 59), .plain (.load false 1), [.tmp 58], (some (53, false))⟩,
       ⟨(some 60), .plain (.bin .rem), [.tmp 59, .lit (.int .i64 2)], (some (53, false))⟩,
       ⟨(some 61), .plain (.bin .neq), [.tmp 60, .lit (.int .i64 0)], (some (53, false))⟩,
       ⟨(some 62), .plain .pick, [.tmp 53, .lit (.bool true), .tmp 61], none⟩] [34, 35, 36, 37, 38, 39, 40, 41, 42, 43, 44, 45, 46, 47, 48, 49, 50, 51, 52, 53, 54, 55, 56, 57, 58, 59, 60, 61])
     (.cond (.tmp 62)
      (.seq (.ops [⟨(some 2), .plain .mv, [.lit (.bool false)], none⟩] [])
      .ret)
      .skip))
     (.seq (.ops [⟨(some 5), .plain .mv, [.lit (.int .i64 0)], none⟩] [])
     (.block 2
      (.loop
       (.seq (.seq (.ops [⟨(some 63), .plain .mv, [.tmp 5], none⟩,
         ⟨(some 64), .plain .mv, [.tmp 4], none⟩,
         ⟨(some 65), .plain (.bin .lss), [.tmp 63, .tmp 64], none⟩] [63, 64])
       (.cond (.tmp 65)
        .skip
        (.exit 2)))
       (.seq (.block 3
        (.seq (.draw (.step ⟨(some 68), .plain (.fieldAddr 2), [.tmp 1], none⟩
          (.step ⟨(some 69), .plain (.load false 1), [.tmp 68], none⟩
          (.step ⟨(some 70), .plain .mv, [.tmp 5], none⟩
          (.step ⟨(some 71), .plain (.indexAddr 2), [.tmp 69, .tmp 70], none⟩
          (.step ⟨(some 72), .plain (.fieldAddr 0), [.tmp 71], none⟩
          (.step ⟨(some 73), .plain (.load false 1), [.tmp 72], none⟩
          (.step ⟨(some 74), .plain (.fieldAddr 2), [.tmp 1], none⟩
          (.step ⟨(some 75), .plain (.load false 1), [.tmp 74], none⟩
          (.step ⟨(some 76), .plain .mv, [.tmp 4], none⟩
          (.step ⟨(some 77), .plain (.indexAddr 2), [.tmp 75, .tmp 76], none⟩
          (.step ⟨(some 78), .plain (.fieldAddr 0), [.tmp 77], none⟩
          (.step ⟨(some 79), .plain (.load false 1), [.tmp 78], none⟩
          (.step ⟨(some 80), .plain (.bin .eql), [.tmp 73, .tmp 79], none⟩
          .done))))))))))))) [68, 69, 70, 71, 72, 73, 74, 75, 76, 77, 78, 79])
        (.cond (.tmp 80)
         (.seq (.ops [⟨(some 2), .plain .mv, [.lit (.bool false)], none⟩] [])
         .ret)
         .skip)))
       (.ops [⟨(some 66), .plain .mv, [.tmp 5], none⟩,
         ⟨(some 67), .plain (.bin .add), [.tmp 66, .lit (.int .i64 1)], none⟩,
         ⟨(some 5), .plain .mv, [.tmp 67], none⟩] [66, 67]))))))))
    (.ops [⟨(some 32), .plain .mv, [.tmp 4], none⟩,
      ⟨(some 33), .plain (.bin .add), [.tmp 32, .lit (.int .i64 1)], none⟩,
      ⟨(some 4), .plain .mv, [.tmp 33], none⟩] [32, 33]))))))
  (.seq (.seq (.ops [⟨(some 6), .plain .mv, [.lit (.int .i64 0)], none⟩] [])
  (.block 4
   (.loop
    (.seq (.seq (.ops [⟨(some 81), .plain .mv, [.tmp 6], none⟩,
      ⟨(some 82), .plain (.fieldAddr 3), [.tmp 1], none⟩,
      ⟨(some 83), .plain (.load false 1), [.tmp 82], none⟩,
      ⟨(some 84), .plain (.len 1), [.tmp 83], none⟩,
      ⟨(some 85), .plain (.bin .lss), [.tmp 81, .tmp 84], none⟩] [81, 82, 83, 84])
    (.cond (.tmp 85)
     .skip
     (.exit 4)))
    (.seq (.block 5
     (.seq (.ops [⟨(some 88), .plain (.fieldAddr 3), [.tmp 1], none⟩,
       ⟨(some 89), .plain (.load false 1), [.tmp 88], none⟩,
       ⟨(some 90), .plain .mv, [.tmp 6], none⟩,
       ⟨(some 91), .plain (.indexAddr 3), [.tmp 89, .tmp 90], none⟩,
       ⟨(some 92), .plain (.load true 3), [.tmp 91], none⟩,
       ⟨(some 7), .plain (.alloc [(.int .i64 0), (.str ⟨#[]⟩), (.int .i64 0)]), [], none⟩,
       ⟨none, .plain (.store 3), [.tmp 7, .tmp 92], none⟩] [88, 89, 90, 91, 92])
     (.seq (.seq (.ops [⟨(some 93), .plain (.fieldAddr 1), [.tmp 7], none⟩,
       ⟨(some 94), .plain (.load false 1), [.tmp 93], none⟩,
       ⟨(some 95), .call 85, [.tmp 94], none⟩,
       ⟨(some 96), .plain (.un .not), [.tmp 95], none⟩,
       ⟨(some 97), .plain .mv, [.tmp 96], none⟩,
       ⟨(some 98), .plain (.fieldAddr 0), [.tmp 7], (some (97, false))⟩,
       ⟨(some 99), .plain (.load false 1), [.tmp 98], (some (97, false))⟩,
       ⟨(some 100), .plain .mv, [.tmp 3], (some (97, false))⟩,
       ⟨(some 101), .plain (.bin .sub), [.tmp 100, .lit (.int .i64 4)], (some (97, false))⟩,
       ⟨(some 102), .call 86, [.tmp 99, .lit (.int .i64 0), .tmp 101], (some (97, false))⟩,
       ⟨(some 103), .plain (.un .not), [.tmp 102], (some (97, false))⟩,
       ⟨(some 104), .plain .pick, [.tmp 97, .lit (.bool true), .tmp 103], none⟩,
       ⟨(some 105), .plain .mv, [.tmp 104], none⟩,
       ⟨(some 106), .plain (.fieldAddr 0), [.tmp 7], (some (105, false))⟩,
       ⟨(some 107), .plain (.load false 1), [.tmp 106], (some (105, false))⟩,
       ⟨(some 108), .plain (.bin .rem), [.tmp 107, .lit (.int .i64 4)], (some (105, false))⟩,
       ⟨(some 109), .plain (.bin .neq), [.tmp 108, .lit (.int .i64 0)], (some (105, false))⟩,
       ⟨(some 110), .plain .pick, [.tmp 105, .lit (.bool true), .tmp 109], none⟩,
       ⟨(some 111), .plain .mv, [.tmp 110], none⟩,
       ⟨(some 112), .plain (.fieldAddr 2), [.tmp 7], (some (111, false))⟩,
       ⟨(some 113), .plain (.load false 1), [.tmp 112], (some (111, false))⟩,
       ⟨(some 114), .call 86, [.tmp 113, .lit (.int .i64 (-1000000000)), .lit (.int .i64 1000000000)], (some (111, false))⟩,
       ⟨(some 115), .plain (.un .not), [.tmp 114], (some (111, false))⟩,
       ⟨(some 116), .plain .pick, [.tmp 111, .lit (.bool true), .tmp 115], none⟩] [93, 94, 95, 96, 97, 98, 99, 100, 101, 102, 103, 104, 105, 106, 107, 108, 109, 110, 111, 112, 113, 114, 115])
     (.cond (.tmp 116)
      (.seq (.ops [⟨(some 2), .plain .mv, [.lit (.bool false)], none⟩] [])
      .ret)
      .skip))
     (.seq (.ops [⟨(some 8), .plain .mv, [.lit (.int .i64 0)], none⟩] [])
     (.block 6
      (.loop
       (.seq (.seq (.ops [⟨(some 117), .plain .mv, [.tmp 8], none⟩,
         ⟨(some 118), .plain .mv, [.tmp 6], none⟩,
         ⟨(some 119), .plain (.bin .lss), [.tmp 117, .tmp 118], none⟩] [117, 118])
       (.cond (.tmp 119)
        .skip
        (.exit 6)))
       (.seq (.block 7
        (.seq (.draw (.step ⟨(some 122), .plain (.fieldAddr 3), [.tmp 1], none⟩
          (.step ⟨(some 123), .plain (.load false 1), [.tmp 122], none⟩
          (.step ⟨(some 124), .plain .mv, [.tmp 8], none⟩
          (.step ⟨(some 125), .plain (.indexAddr 3), [.tmp 123, .tmp 124], none⟩
          (.step ⟨(some 126), .plain (.fieldAddr 0), [.tmp 125], none⟩
          (.step ⟨(some 127), .plain (.load false 1), [.tmp 126], none⟩
          (.step ⟨(some 128), .plain (.fieldAddr 0), [.tmp 7], none⟩
          (.step ⟨(some 129), .plain (.load false 1), [.tmp 128], none⟩
          (.step ⟨(some 130), .plain (.bin .eql), [.tmp 127, .tmp 129], none⟩
          .done))))))))) [122, 123, 124, 125, 126, 127, 128, 129])
        (.cond (.tmp 130)
         (.seq (.ops [⟨(some 2), .plain .mv, [.lit (.bool false)], none⟩] [])
         .ret)
         .skip)))
       (.ops [⟨(some 120), .plain .mv, [.tmp 8], none⟩,
         ⟨(some 121), .plain (.bin .add), [.tmp 120, .lit (.int .i64 1)], none⟩,
         ⟨(some 8), .plain .mv, [.tmp 121], none⟩] [120, 121])))))))))
    (.ops [⟨(some 86), .plain .mv, [.tmp 6], none⟩,
      ⟨(some 87), .plain (.bin .add), [.tmp 86, .lit (.int .i64 1)], none⟩,
      ⟨(some 6), .plain .mv, [.tmp 87], none⟩] [86, 87]))))))
  (.seq (.seq (.ops [⟨(some 9), .plain .mv, [.lit (.int .i64 0)], none⟩] [])
  (.block 8
   (.loop
    (.seq (.seq (.ops [⟨(some 131), .plain .mv, [.tmp 9], none⟩,
      ⟨(some 132), .plain (.fieldAddr 4), [.tmp 1], none⟩,
      ⟨(some 133), .plain (.load false 1), [.tmp 132], none⟩,
      ⟨(some 134), .plain (.len 1), [.tmp 133], none⟩,
      ⟨(some 135), .plain (.bin .lss), [.tmp 131, .tmp 134], none⟩] [131, 132, 133, 134])
    (.cond (.tmp 135)
     .skip
     (.exit 8)))
    (.seq (.block 9
     (.seq (.ops [⟨(some 138), .plain (.fieldAddr 4), [.tmp 1], none⟩,
       ⟨(some 139), .plain (.load false 1), [.tmp 138], none⟩,
       ⟨(some 140), .plain .mv, [.tmp 9], none⟩,
       ⟨(some 141), .plain (.indexAddr 2), [.tmp 139, .tmp 140], none⟩,
       ⟨(some 142), .plain (.load true 2), [.tmp 141], none⟩,
       ⟨(some 10), .plain (.alloc [(.int .i64 0), (.int .i64 0)]), [], none⟩,
       ⟨none, .plain (.store 2), [.tmp 10, .tmp 142], none⟩] [138, 139, 140, 141, 142])
     (.seq (.draw (.step ⟨(some 143), .plain (.fieldAddr 0), [.tmp 10], none⟩
       (.step ⟨(some 144), .plain (.load false 1), [.tmp 143], none⟩
       (.step ⟨(some 145), .plain .mv, [.tmp 3], none⟩
       (.step ⟨(some 146), .plain (.bin .sub), [.tmp 145, .lit (.int .i64 1)], none⟩
       (.step ⟨(some 147), .call 86, [.tmp 144, .lit (.int .i64 0), .tmp 146], none⟩
       (.step ⟨(some 148), .plain (.un .not), [.tmp 147], none⟩
       (.step ⟨(some 149), .plain .mv, [.tmp 148], none⟩
       (.step ⟨(some 150), .plain (.fieldAddr 0), [.tmp 10], (some (149, false))⟩
       (.step ⟨(some 151), .plain (.load false 1), [.tmp 150], (some (149, false))⟩
       (.step ⟨(some 152), .plain (.bin .rem), [.tmp 151, .lit (.int .i64 2)], (some (149, false))⟩
       (.step ⟨(some 153), .plain (.bin .neq), [.tmp 152, .lit (.int .i64 0)], (some (149, false))⟩
       (.step ⟨(some 154), .plain .pick, [.tmp 149, .lit (.bool true), .tmp 153], none⟩
       (.step ⟨(some 155), .plain .mv, [.tmp 154], none⟩
       (.step ⟨(some 156), .plain (.fieldAddr 1), [.tmp 10], (some (155, false))⟩
       (.step ⟨(some 157), .plain (.load false 1), [.tmp 156], (some (155, false))⟩
       (.step ⟨(some 158), .call 86, [.tmp 157, .lit (.int .i64 0), .lit (.int .i64 1000000000)], (some (155, false))⟩
       (.step ⟨(some 159), .plain (.un .not), [.tmp 158], (some (155, false))⟩
       (.step ⟨(some 160), .plain .pick, [.tmp 155, .lit (.bool true), .tmp 159], none⟩
       (.step ⟨(some 161), .plain .mv, [.tmp 160], none⟩
       (.step ⟨(some 162), .plain .mv, [.tmp 9], (some (161, false))⟩
       (.step ⟨(some 163), .plain (.bin .gtr), [.tmp 162, .lit (.int .i64 0)], (some (161, false))⟩
       (.step ⟨(some 164), .plain .mv, [.tmp 163], (some (161, false))⟩
       (.step ⟨(some 165), .plain (.fieldAddr 4), [.tmp 1], (some (164, true))⟩
       (.step ⟨(some 166), .plain (.load false 1), [.tmp 165], (some (164, true))⟩
       (.step ⟨(some 167), .plain .mv, [.tmp 9], (some (164, true))⟩
       (.step ⟨(some 168), .plain (.bin .sub), [.tmp 167, .lit (.int .i64 1)], (some (164, true))⟩
       (.step ⟨(some 169), .plain (.indexAddr 2), [.tmp 166, .tmp 168], (some (164, true))⟩
       (.step ⟨(some 170), .plain (.fieldAddr 0), [.tmp 169], (some (164, true))⟩
       (.step ⟨(some 171), .plain (.load false 1), [.tmp 170], (some (164, true))⟩
       (.step ⟨(some 172), .plain (.fieldAddr 0), [.tmp 10], (some (164, true))⟩
       (.step ⟨(some 173), .plain (.load false 1), [.tmp 172], (some (164, true))⟩
       (.step ⟨(some 174), .plain (.bin .geq), [.tmp 171, .tmp 173], (some (164, true))⟩
       (.step ⟨(some 175), .plain .pick, [.tmp 164, .tmp 174, .lit (.bool false)], (some (161, false))⟩
       (.step ⟨(some 176), .plain .pick, [.tmp 161, .lit (.bool true), .tmp 175], none⟩
       .done)))))))))))))))))))))))))))))))))) [143, 144, 145, 146, 147, 148, 149, 150, 151, 152, 153, 154, 155, 156, 157, 158, 159, 160, 161, 162, 163, 164, 165, 166, 167, 168, 169, 170, 171, 172, 173, 174, 175])
     (.cond (.tmp 176)
      (.seq (.ops [⟨(some 2), .plain .mv, [.lit (.bool false)], none⟩] [])
      .ret)
      .skip))))
    (.ops [⟨(some 136), .plain .mv, [.tmp 9], none⟩,
      ⟨(some 137), .plain (.bin .add), [.tmp 136, .lit (.int .i64 1)], none⟩,
      ⟨(some 9), .plain .mv, [.tmp 137], none⟩] [136, 137]))))))
  (.seq (.ops [⟨(some 2), .plain .mv, [.lit (.bool true)], none⟩] [])
  .ret)))))))
def cr29 : List Res := [(2, none)]
theorem ok29 : FOk Zk.pg.toProgram Zk.imp 29 c29 cr29 Tryz.f29.ntmps := ⟨Tryz.f29, _, Tryz.func29, rfl, by kernel_rfl, by kernel_rfl, by kernel_rfl, rfl⟩

/-- ironbark/link.Valid -/
def c27 : SC :=
  (.seq (.ops [⟨(some 1), .plain (.box 5), [.tmp 0], none⟩,
    ⟨(some 2), .plain .mv, [.lit (.bool false)], none⟩] [])
  (.seq (.ops [⟨(some 13), .plain (.fieldAddr 1), [.tmp 1], none⟩,
    ⟨(some 14), .plain (.load false 1), [.tmp 13], none⟩,
    ⟨(some 15), .plain (.len 0), [.tmp 14], none⟩,
    ⟨(some 3), .plain .mv, [.tmp 15], none⟩] [13, 14, 15])
  (.seq (.seq (.ops [⟨(some 16), .plain (.fieldAddr 0), [.tmp 1], none⟩,
    ⟨(some 17), .plain (.load false 1), [.tmp 16], none⟩,
    ⟨(some 18), .call 80, [.tmp 17], none⟩,
    ⟨(some 19), .plain (.un .not), [.tmp 18], none⟩,
    ⟨(some 20), .plain .mv, [.tmp 19], none⟩,
    ⟨(some 21), .plain .mv, [.tmp 3], (some (20, false))⟩,
    ⟨(some 22), .plain (.bin .gtr), [.tmp 21, .lit (.int .i64 20000)], (some (20, false))⟩,
    ⟨(some 23), .plain .pick, [.tmp 20, .lit (.bool true), .tmp 22], none⟩,
    ⟨(some 24), .plain .mv, [.tmp 23], none⟩,
    ⟨(some 25), .plain .mv, [.tmp 3], (some (24, false))⟩,
    ⟨(some 26), .plain (.bin .rem), [.tmp 25, .lit (.int .i64 2)], (some (24, false))⟩,
    ⟨(some 27), .plain (.bin .neq), [.tmp 26, .lit (.int .i64 0)], (some (24, false))⟩,
    ⟨(some 28), .plain .pick, [.tmp 24, .lit (.bool true), .tmp 27], none⟩] [16, 17, 18, 19, 20, 21, 22, 23, 24, 25, 26, 27])
  (.cond (.tmp 28)
   (.seq (.ops [⟨(some 2), .plain .mv, [.lit (.bool false)], none⟩] [])
   .ret)
   .skip))
  (.seq (.ops [⟨(some 29), .plain .mkMap, [], none⟩,
    ⟨(some 30), .plain .mkMap, [], none⟩,
    ⟨(some 4), .plain .mv, [.tmp 29], none⟩,
    ⟨(some 5), .plain .mv, [.tmp 30], none⟩] [29, 30])
  (.seq (.seq (.ops [⟨(some 31), .plain (.fieldAddr 2), [.tmp 1], none⟩,
    ⟨(some 32), .plain (.load false 1), [.tmp 31], none⟩,
    ⟨(some 33), .plain (.len 1), [.tmp 32], none⟩,
    ⟨(some 34), .plain .mv, [.lit (.int .i64 0)], none⟩] [31])
  (.block 0
   (.loop
    (.seq (.ops [⟨(some 35), .plain (.bin .lss), [.tmp 34, .tmp 33], none⟩] [])
    (.seq (.cond (.tmp 35)
     .skip
     (.exit 0))
    (.seq (.block 1
     (.seq (.ops [⟨(some 36), .plain (.indexAddr 2), [.tmp 32, .tmp 34], none⟩,
       ⟨(some 37), .plain (.load true 2), [.tmp 36], none⟩,
       ⟨(some 7), .plain (.alloc [(.str ⟨#[]⟩), (.int .i64 0)]), [], none⟩,
       ⟨none, .plain (.store 2), [.tmp 7, .tmp 37], none⟩] [36, 37])
     (.seq (.seq (.ops [⟨(some 38), .plain (.fieldAddr 0), [.tmp 7], none⟩,
       ⟨(some 39), .plain (.load false 1), [.tmp 38], none⟩,
       ⟨(some 40), .call 80, [.tmp 39], none⟩,
       ⟨(some 41), .plain (.un .not), [.tmp 40], none⟩,
       ⟨(some 42), .plain .mv, [.tmp 41], none⟩,
       ⟨(some 43), .plain .mv, [.tmp 4], (some (42, false))⟩,
       ⟨(some 44), .plain (.fieldAddr 0), [.tmp 7], (some (42, false))⟩,
       ⟨(some 45), .plain (.load false 1), [.tmp 44], (some (42, false))⟩,
       ⟨(some 46), .plain (.lookup .str (.bool false) false), [.tmp 43, .tmp 45], (some (42, false))⟩,
       ⟨(some 47), .plain .pick, [.tmp 42, .lit (.bool true), .tmp 46], none⟩,
       ⟨(some 48), .plain .mv, [.tmp 47], none⟩,
       ⟨(some 49), .plain (.fieldAddr 1), [.tmp 7], (some (48, false))⟩,
       ⟨(some 50), .plain (.load false 1), [.tmp 49], (some (48, false))⟩,
       ⟨(some 51), .plain (.bin .lss), [.tmp 50, .lit (.int .i64 0)], (some (48, false))⟩,
       ⟨(some 52), .plain .pick, [.tmp 48, .lit (.bool true), .tmp 51], none⟩,
       ⟨(some 53), .plain .mv, [.tmp 52], none⟩,
       ⟨(some 54), .plain (.fieldAddr 1), [.tmp 7], (some (53, false))⟩,
       ⟨(some 55), .plain (.load false 1), [.tmp 54], (some (53, false))⟩,
       ⟨(some 56), .plain .mv, [.tmp 3], (some (53, false))⟩,
       ⟨(some 57), .plain (.bin .gtr), [.tmp 55, .tmp 56], (some (53, false))⟩,
       ⟨(some 58), .plain .pick, [.tmp 53, .lit (.bool true), .tmp 57], none⟩,
       ⟨(some 59), .plain .mv, [.tmp 58], none⟩,
       ⟨(some 60), .plain (.fieldAddr 1), [.tmp 7], (some (59, false))⟩,
       ⟨(some 61), .plain (.load false 1), [.tmp 60], (some (59, false))⟩,
       ⟨(some 62), .plain (.bin .rem), [.tmp 61, .lit (.int .i64 2)], (some (59, false))⟩,
       ⟨(some 63), .plain (.bin .neq), [.tmp 62, .lit (.int .i64 0)], (some (59, false))⟩,
       ⟨(some 64), .plain .pick, [.tmp 59, .lit (.bool true), .tmp 63], none⟩] [38, 39, 40, 41, 42, 43, 44, 45, 46, 47, 48, 49, 50, 51, 52, 53, 54, 55, 56, 57, 58, 59, 60, 61, 62, 63])
     (.cond (.tmp 64)
      (.seq (.ops [⟨(some 2), .plain .mv, [.lit (.bool false)], none⟩] [])
      .ret)
      .skip))
     (.ops [⟨(some 65), .plain .mv, [.tmp 4], none⟩,
       ⟨(some 66), .plain (.fieldAddr 0), [.tmp 7], none⟩,
       ⟨(some 67), .plain (.load false 1), [.tmp 66], none⟩,
       ⟨none, .plain (.mapUpdate .str), [.tmp 65, .tmp 67, .lit (.bool true)], none⟩] [65, 66, 67]))))
    (.ops [⟨(some 68), .plain (.bin .add), [.tmp 34, .lit (.int .i64 1)], none⟩,
      ⟨(some 34), .plain .mv, [.tmp 68], none⟩] [68])))))))
  (.seq (.seq (.ops [⟨(some 69), .plain (.fieldAddr 3), [.tmp 1], none⟩,
    ⟨(some 70), .plain (.load false 1), [.tmp 69], none⟩,
    ⟨(some 71), .plain (.len 1), [.tmp 70], none⟩,
    ⟨(some 72), .plain .mv, [.lit (.int .i64 0)], none⟩] [69])
  (.block 2
   (.loop
    (.seq (.ops [⟨(some 73), .plain (.bin .lss), [.tmp 72, .tmp 71], none⟩] [])
    (.seq (.cond (.tmp 73)
     .skip
     (.exit 2))
    (.seq (.block 3
     (.seq (.ops [⟨(some 74), .plain (.indexAddr 3), [.tmp 70, .tmp 72], none⟩,
       ⟨(some 75), .plain (.load true 3), [.tmp 74], none⟩,
       ⟨(some 9), .plain (.alloc [(.int .i64 0), (.str ⟨#[]⟩), (.int .i64 0)]), [], none⟩,
       ⟨none, .plain (.store 3), [.tmp 9, .tmp 75], none⟩] [74, 75])
     (.seq (.seq (.ops [⟨(some 76), .plain (.fieldAddr 1), [.tmp 9], none⟩,
       ⟨(some 77), .plain (.load false 1), [.tmp 76], none⟩,
       ⟨(some 78), .call 80, [.tmp 77], none⟩,
       ⟨(some 79), .plain (.un .not), [.tmp 78], none⟩,
       ⟨(some 80), .plain .mv, [.tmp 79], none⟩,
       ⟨(some 81), .plain .mv, [.tmp 5], (some (80, false))⟩,
       ⟨(some 82), .plain (.fieldAddr 0), [.tmp 9], (some (80, false))⟩,
       ⟨(some 83), .plain (.load false 1), [.tmp 82], (some (80, false))⟩,
       ⟨(some 84), .plain (.lookup .int (.bool false) false), [.tmp 81, .tmp 83], (some (80, false))⟩,
       ⟨(some 85), .plain .pick, [.tmp 80, .lit (.bool true), .tmp 84], none⟩,
       ⟨(some 86), .plain .mv, [.tmp 85], none⟩,
       ⟨(some 87), .plain (.fieldAddr 0), [.tmp 9], (some (86, false))⟩,
       ⟨(some 88), .plain (.load false 1), [.tmp 87], (some (86, false))⟩,
       ⟨(some 89), .plain (.bin .lss), [.tmp 88, .lit (.int .i64 0)], (some (86, false))⟩,
       ⟨(some 90), .plain .pick, [.tmp 86, .lit (.bool true), .tmp 89], none⟩,
       ⟨(some 91), .plain .mv, [.tmp 90], none⟩,
       ⟨(some 92), .plain (.fieldAddr 0), [.tmp 9], (some (91, false))⟩,
       ⟨(some 93), .plain (.load false 1), [.tmp 92], (some (91, false))⟩,
       ⟨(some 94), .plain .mv, [.tmp 3], (some (91, false))⟩,
       ⟨(some 95), .plain (.bin .sub), [.tmp 94, .lit (.int .i64 4)], (some (91, false))⟩,
       ⟨(some 96), .plain (.bin .gtr), [.tmp 93, .tmp 95], (some (91, false))⟩,
       ⟨(some 97), .plain .pick, [.tmp 91, .lit (.bool true), .tmp 96], none⟩,
       ⟨(some 98), .plain .mv, [.tmp 97], none⟩,
       ⟨(some 99), .plain (.fieldAddr 0), [.tmp 9], (some (98, false))⟩,
       ⟨(some 100), .plain (.load false 1), [.tmp 99], (some (98, false))⟩,
       ⟨(some 101), .plain (.bin .rem), [.tmp 100, .lit (.int .i64 4)], (some (98, false))⟩,
       ⟨(some 102), .plain (.bin .neq), [.tmp 101, .lit (.int .i64 0)], (some (98, false))⟩,
       ⟨(some 103), .plain .pick, [.tmp 98, .lit (.bool true), .tmp 102], none⟩,
       ⟨(some 104), .plain .mv, [.tmp 103], none⟩,
       ⟨(some 105), .plain (.fieldAddr 2), [.tmp 9], (some (104, false))⟩,
       ⟨(some 106), .plain (.load false 1), [.tmp 105], (some (104, false))⟩,
       ⟨(some 107), .plain (.bin .gtr), [.tmp 106, .lit (.int .i64 1000000000)], (some (104, false))⟩,
       ⟨(some 108), .plain .pick, [.tmp 104, .lit (.bool true), .tmp 107], none⟩,
       ⟨(some 109), .plain .mv, [.tmp 108], none⟩,
       ⟨(some 110), .plain (.fieldAddr 2), [.tmp 9], (some (109, false))⟩,
       ⟨(some 111), .plain (.load false 1), [.tmp 110], (some (109, false))⟩,
       ⟨(some 112), .plain (.bin .lss), [.tmp 111, .lit (.int .i64 (-1000000000))], (some (109, false))⟩,
       ⟨(some 113), .plain .pick, [.tmp 109, .lit (.bool true), .tmp 112], none⟩] [76, 77, 78, 79, 80, 81, 82, 83, 84, 85, 86, 87, 88, 89, 90, 91, 92, 93, 94, 95, 96, 97, 98, 99, 100, 101, 102, 103, 104, 105, 106, 107, 108, 109, 110, 111, 112])
     (.cond (.tmp 113)
      (.seq (.ops [⟨(some 2), .plain .mv, [.lit (.bool false)], none⟩] [])
      .ret)
      .skip))
     (.ops [⟨(some 114), .plain .mv, [.tmp 5], none⟩,
       ⟨(some 115), .plain (.fieldAddr 0), [.tmp 9], none⟩,
       ⟨(some 116), .plain (.load false 1), [.tmp 115], none⟩,
       ⟨none, .plain (.mapUpdate .int), [.tmp 114, .tmp 116, .lit (.bool true)], none⟩] [114, 115, 116]))))
    (.ops [⟨(some 117), .plain (.bin .add), [.tmp 72, .lit (.int .i64 1)], none⟩,
      ⟨(some 72), .plain .mv, [.tmp 117], none⟩] [117])))))))
  (.seq (.ops [⟨(some 10), .plain .mv, [.lit (.int .i64 (-1))], none⟩] [])
  (.seq (.seq (.ops [⟨(some 118), .plain (.fieldAddr 4), [.tmp 1], none⟩,
    ⟨(some 119), .plain (.load false 1), [.tmp 118], none⟩,
    ⟨(some 120), .plain (.len 1), [.tmp 119], none⟩,
    ⟨(some 121), .plain .mv, [.lit (.int .i64 0)], none⟩] [118])
  (.block 4
   (.loop
    (.seq (.ops [⟨(some 122), .plain (.bin .lss), [.tmp 121, .tmp 120], none⟩] [])
    (.seq (.cond (.tmp 122)
     .skip
     (.exit 4))
    (.seq (.block 5
     (.seq (.ops [⟨(some 123), .plain (.indexAddr 2), [.tmp 119, .tmp 121], none⟩,
       ⟨(some 124), .plain (.load true 2), [.tmp 123], none⟩,
       ⟨(some 12), .plain (.alloc [(.int .i64 0), (.int .i64 0)]), [], none⟩,
       ⟨none, .plain (.store 2), [.tmp 12, .tmp 124], none⟩] [123, 124])
     (.seq (.seq (.ops [⟨(some 125), .plain (.fieldAddr 0), [.tmp 12], none⟩,
       ⟨(some 126), .plain (.load false 1), [.tmp 125], none⟩,
       ⟨(some 127), .plain .mv, [.tmp 10], none⟩,
       ⟨(some 128), .plain (.bin .leq), [.tmp 126, .tmp 127], none⟩,
       ⟨(some 129), .plain .mv, [.tmp 128], none⟩,
       ⟨(some 130), .plain (.fieldAddr 0), [.tmp 12], (some (129, false))⟩,
       ⟨(some 131), .plain (.load false 1), [.tmp 130], (some (129, false))⟩,
       ⟨(some 132), .plain .mv, [.tmp 3], (some (129, false))⟩,
       ⟨(some 133), .plain (.bin .geq), [.tmp 131, .tmp 132], (some (129, false))⟩,
       ⟨(some 134), .plain .pick, [.tmp 129, .lit (.bool true), .tmp 133], none⟩,
       ⟨(some 135), .plain .mv, [.tmp 134], none⟩,
       ⟨(some 136), .plain (.fieldAddr 0), [.tmp 12], (some (135, false))⟩,
       ⟨(some 137), .plain (.load false 1), [.tmp 136], (some (135, false))⟩,
       ⟨(some 138), .plain (.bin .rem), [.tmp 137, .lit (.int .i64 2)], (some (135, false))⟩,
       ⟨(some 139), .plain (.bin .neq), [.tmp 138, .lit (.int .i64 0)], (some (135, false))⟩,
       ⟨(some 140), .plain .pick, [.tmp 135, .lit (.bool true), .tmp 139], none⟩,
       ⟨(some 141), .plain .mv, [.tmp 140], none⟩,
       ⟨(some 142), .plain (.fieldAddr 1), [.tmp 12], (some (141, false))⟩,
       ⟨(some 143), .plain (.load false 1), [.tmp 142], (some (141, false))⟩,
       ⟨(some 144), .plain (.bin .lss), [.tmp 143, .lit (.int .i64 0)], (some (141, false))⟩,
       ⟨(some 145), .plain .pick, [.tmp 141, .lit (.bool true), .tmp 144], none⟩,
       ⟨(some 146), .plain .mv, [.tmp 145], none⟩,
       ⟨(some 147), .plain (.fieldAddr 1), [.tmp 12], (some (146, false))⟩,
       ⟨(some 148), .plain (.load false 1), [.tmp 147], (some (146, false))⟩,
       ⟨(some 149), .plain (.bin .gtr), [.tmp 148, .lit (.int .i64 1000000000)], (some (146, false))⟩,
       ⟨(some 150), .plain .pick, [.tmp 146, .lit (.bool true), .tmp 149], none⟩] [125, 126, 127, 128, 129, 130, 131, 132, 133, 134, 135, 136, 137, 138, 139, 140, 141, 142, 143, 144, 145, 146, 147, 148, 149])
     (.cond (.tmp 150)
      (.seq (.ops [⟨(some 2), .plain .mv, [.lit (.bool false)], none⟩] [])
      .ret)
      .skip))
     (.ops [⟨(some 151), .plain (.fieldAddr 0), [.tmp 12], none⟩,
       ⟨(some 152), .plain (.load false 1), [.tmp 151], none⟩,
       ⟨(some 10), .plain .mv, [.tmp 152], none⟩] [151, 152]))))
    (.ops [⟨(some 153), .plain (.bin .add), [.tmp 121, .lit (.int .i64 1)], none⟩,
      ⟨(some 121), .plain .mv, [.tmp 153], none⟩] [153])))))))
  (.seq (.ops [⟨(some 2), .plain .mv, [.lit (.bool true)], none⟩] [])
  .ret)))))))))
def cr27 : List Res := [(2, none)]
theorem ok27 : FOk Zk.pg.toProgram Zk.imp 27 c27 cr27 Tryz.f27.ntmps := ⟨Tryz.f27, _, Tryz.func27, rfl, by kernel_rfl, by kernel_rfl, by kernel_rfl, rfl⟩

end Go.Pm

/- ZkC3: contracts: the document's Valid. -/
namespace Go.Pm
open Go Go.Proofs
attribute [-simp] List.getElem?_map

set_option maxHeartbeats 4000000 in
theorem call29 (o : Deck) (hs : o.Small) : PCalls Zk.pg 29 [.agg o.av] fun out => out = .ret (.bool (deckOk o)) := by
  refine ok29.pcalls (by simp) ?_
  simp [c29, Deck.av]
  refine xcall_p (call85 o.name hs.name) rfl ?_
  simp
  refine br_guard_f rfl (fun h1 => ?_) (fun h1 => ?_) <;> simp at h1
  · simp [h1, cr29, deckOk]
  simp [h1]
  refine br_guard_f rfl (fun h2 => ?_) (fun h2 => ?_)
  · simp [h2, cr29, deckOk]
  simp [h2]
  refine br_cond rfl (fun h3 => ?_) (fun h3 => ?_) <;> simp at h3
  · simp [h3, cr29, deckOk]
  simp
  have dl := hs.defs
  have rl := hs.refs
  have ll := hs.lines
  have cl := hs.code
  -- the names
  refine wpS_loop (ι := Nat) (fun i => [(1, .ptr 0 0 0), (2, .bool false), (3, .int .i64 o.code.size), (4, .int .i64 i)]) (fun _ => ⟨[(0, .cells o.av)], 1⟩) (fun i => o.defs.length - i) (fun i => i ≤ o.defs.length ∧ ∀ j, j < i → defOk o.code.size o.defs j = true) 0 (by simp) (Env.le_of (by simp)) (by simp [Deck.av]) ?_
  intro i ⟨hi, hall⟩
  have hw : IntKind.i64.wrap (i + 1) = i + 1 := wrap64 (by omega) (by omega)
  simp [Deck.av]
  refine br_cond rfl (fun h4 => ?_) (fun h4 => ?_)
  · have hlt : i < o.defs.length := by have := ltI_t.1 h4; omega
    have bad : defOk o.code.size o.defs i = false → deckOk o = false := fun h => by simp [deckOk, all_f hlt h]
    simp [h4, idxM, DDef.av]
    refine xcall_p (call85 (ix o.defs i).name (hs.dname _ (ix_mem hlt))) rfl ?_
    simp
    refine br_guard_f rfl (fun h5 => ?_) (fun h5 => ?_) <;> simp at h5
    · simp [h5, cr29, bad (by simp [defOk, h5])]
    simp [h5, h4, idxM, DDef.av]
    refine xcall_p (call86 (ix o.defs i).at_ 0 o.code.size) rfl ?_
    simp
    refine br_guard_f rfl (fun h6 => ?_) (fun h6 => ?_) <;> simp at h6
    · simp [h6, cr29, bad (by simp [defOk, h6])]
    simp [h6, h4, idxM, DDef.av]
    refine br_cond rfl (fun h7 => ?_) (fun h7 => ?_) <;> simp at h7
    · simp [cr29, bad (by simp [defOk, h7])]
    simp
    refine wpS_loop (ι := Nat) (fun k => [(1, .ptr 0 0 0), (2, .bool false), (3, .int .i64 o.code.size), (4, .int .i64 i), (5, .int .i64 k)]) (fun _ => ⟨[(0, .cells o.av)], 1⟩) (fun k => i - k) (fun k => k ≤ i ∧ ∀ j, j < k → eqS (ix o.defs j).name (ix o.defs i).name = false) 0 (by simp) (Env.le_of (by simp)) (by simp [Deck.av]) ?_
    intro k ⟨hk, hkall⟩
    have hwk : IntKind.i64.wrap (k + 1) = k + 1 := wrap64 (by omega) (by omega)
    simp [Deck.av]
    refine br_cond rfl (fun h8 => ?_) (fun h8 => ?_)
    · have hki : k < i := by have := ltI_t.1 h8; omega
      have h9 : ltI ↑k ↑o.defs.length = true := ltN (by omega)
      simp [h9, h8, h4, idxM, DDef.av]
      refine br_cond rfl (fun h10 => ?_) (fun h10 => ?_)
      · simp [cr29, bad (by simp only [defOk, all_f (p := fun k => !eqS (ix o.defs k).name (ix o.defs i).name) hki (by simp [h10]), Bool.and_false])]
      · simp [hwk]
        exact ⟨k + 1, ⟨by omega, upto hkall h10⟩, by omega, Env.le_of (by simp), Mem.le_of rfl (by simp)⟩
    · simp [h8, hw]
      have hki : k = i := by have := ltI_f.1 h8; omega
      have hka : ∀ j, j < i → _ := fun j hj => hkall j (hki ▸ hj)
      refine ⟨i + 1, ⟨by omega, upto hall ?_⟩, by omega, Env.le_of (by simp), Mem.le_of rfl (by simp)⟩
      simp only [defOk, h5, h6, h7, all_t (n := i) (p := fun k => !eqS (ix o.defs k).name (ix o.defs i).name) (fun j hj => by simp [hka j hj]), Bool.and_self]
  clear hw
  have hid : i = o.defs.length := by have := ltI_f.1 h4; omega
  have hD : (List.range o.defs.length).all (defOk o.code.size o.defs) = true := all_t (by rw [← hid]; exact hall)
  clear hall hi
  simp [h4]
  clear h4 hid
  -- the places
  refine wpS_loop (ι := Nat × Nat) (fun s => [(1, .ptr 0 0 0), (2, .bool false), (3, .int .i64 o.code.size), (6, .int .i64 s.1)]) (fun s => ⟨[(0, .cells o.av)], s.2⟩) (fun s => o.refs.length - s.1) (fun s => s.1 ≤ o.refs.length ∧ ∀ j, j < s.1 → refOk o.code.size o.refs j = true) (0, 1) (by simp) (Env.le_of (by simp)) (by simp [Deck.av]) ?_
  intro ⟨i, nx⟩ ⟨hi, hall⟩
  simp only at hi hall
  have hw : IntKind.i64.wrap (i + 1) = i + 1 := wrap64 (by omega) (by omega)
  have hw4 : IntKind.i64.wrap ((o.code.size : Int) - 4) = (o.code.size : Int) - 4 := wrap64 (by omega) (by omega)
  simp [Deck.av]
  refine br_cond rfl (fun h4 => ?_) (fun h4 => ?_)
  · have hlt : i < o.refs.length := by have := ltI_t.1 h4; omega
    have bad : refOk o.code.size o.refs i = false → deckOk o = false := fun h => by simp [deckOk, all_f hlt h]
    simp [h4, idxM, DRef.av]
    refine xcall_p (call85 (ix o.refs i).name (hs.rname _ (ix_mem hlt))) rfl ?_
    simp
    refine br_guard_f rfl (fun h5 => ?_) (fun h5 => ?_) <;> simp at h5
    · simp [h5, cr29, bad (by simp [refOk, h5])]
    simp [h5, hw4]
    refine xcall_p (call86 (ix o.refs i).at_ 0 (o.code.size - 4)) rfl ?_
    simp
    refine br_guard_f rfl (fun h6 => ?_) (fun h6 => ?_) <;> simp at h6
    · simp [h6, cr29, bad (by simp [refOk, h6])]
    simp [h6]
    refine br_guard_f rfl (fun h7 => ?_) (fun h7 => ?_) <;> simp at h7
    · simp [h7, cr29, bad (by simp [refOk, h7])]
    simp [h7]
    refine xcall_p (call86 (ix o.refs i).plus (-1000000000) 1000000000) rfl ?_
    simp
    refine br_cond rfl (fun h11 => ?_) (fun h11 => ?_) <;> simp at h11
    · simp [cr29, bad (by simp [refOk, h11])]
    simp
    refine wpS_loop (ι := Nat) (fun k => [(1, .ptr 0 0 0), (2, .bool false), (3, .int .i64 o.code.size), (6, .int .i64 i), (7, .ptr 1 nx 0), (8, .int .i64 k)]) (fun _ => ⟨[(0, .cells o.av), (nx, .cells (ix o.refs i).av)], nx + 1⟩) (fun k => i - k) (fun k => k ≤ i ∧ ∀ j, j < k → eqI (ix o.refs j).at_ (ix o.refs i).at_ = false) 0 (by simp) (Env.le_of (by simp)) (by simp [Deck.av, DRef.av]) ?_
    intro k ⟨hk, hkall⟩
    have hwk : IntKind.i64.wrap (k + 1) = k + 1 := wrap64 (by omega) (by omega)
    simp [Deck.av, DRef.av]
    refine br_cond rfl (fun h8 => ?_) (fun h8 => ?_)
    · have hki : k < i := by have := ltI_t.1 h8; omega
      have h9 : ltI ↑k ↑o.refs.length = true := ltN (by omega)
      simp [h9, h8, idxM, DRef.av]
      refine br_cond rfl (fun h10 => ?_) (fun h10 => ?_)
      · simp [cr29, bad (by simp only [refOk, all_f (p := fun k => !eqI (ix o.refs k).at_ (ix o.refs i).at_) hki (by simp [h10]), Bool.and_false])]
      · simp [hwk]
        exact ⟨k + 1, ⟨by omega, upto hkall h10⟩, by omega, Env.le_of (by simp), Mem.le_of rfl (by simp)⟩
    · simp [h8, hw]
      have hki : k = i := by have := ltI_f.1 h8; omega
      have hka : ∀ j, j < i → _ := fun j hj => hkall j (hki ▸ hj)
      refine ⟨i + 1, ⟨by omega, upto hall ?_⟩, by omega, Env.le_of (by simp), nx + 1, Mem.le_of rfl (by simp)⟩
      simp only [refOk, h5, h6, h7, h11, all_t (n := i) (p := fun k => !eqI (ix o.refs k).at_ (ix o.refs i).at_) (fun j hj => by simp [hka j hj]), Bool.and_self]
  clear hw
  have hid : i = o.refs.length := by have := ltI_f.1 h4; omega
  have hR : (List.range o.refs.length).all (refOk o.code.size o.refs) = true := all_t (by rw [← hid]; exact hall)
  clear hall hi
  simp [h4]
  clear h4 hid
  -- the lines
  refine wpS_loop (ι := Nat × Nat) (fun s => [(1, .ptr 0 0 0), (2, .bool false), (3, .int .i64 o.code.size), (9, .int .i64 s.1)]) (fun s => ⟨[(0, .cells o.av)], s.2⟩) (fun s => o.lines.length - s.1) (fun s => s.1 ≤ o.lines.length ∧ ∀ j, j < s.1 → lineOk o.code.size o.lines j = true) (0, nx) (by simp) (Env.le_of (by simp)) (by simp [Deck.av]) ?_
  intro ⟨i, nx⟩ ⟨hi, hall⟩
  simp only at hi hall
  have hw : IntKind.i64.wrap (i + 1) = i + 1 := wrap64 (by omega) (by omega)
  have hw1 : IntKind.i64.wrap ((o.code.size : Int) - 1) = (o.code.size : Int) - 1 := wrap64 (by omega) (by omega)
  simp [Deck.av]
  refine br_cond rfl (fun h4 => ?_) (fun h4 => ?_)
  · have hlt : i < o.lines.length := by have := ltI_t.1 h4; omega
    have bad : lineOk o.code.size o.lines i = false → deckOk o = false := fun h => by simp [deckOk, all_f hlt h]
    have good : lineOk o.code.size o.lines i = true → ∀ j, j < i + 1 → lineOk o.code.size o.lines j = true := upto hall
    simp [h4, idxM, DLine.av, hw1]
    refine xdcall_p rfl (call86 (ix o.lines i).at_ 0 (o.code.size - 1)) rfl ?_
    simp
    refine br_dguard_f rfl (fun h5 => ?_) (fun h5 => ?_) <;> simp at h5
    · simp [h5, cr29, bad (by simp [lineOk, h5])]
    simp [h5]
    refine br_dguard_f rfl (fun h6 => ?_) (fun h6 => ?_) <;> simp at h6
    · simp [h6, cr29, bad (by simp [lineOk, h6])]
    simp [h6]
    refine xdcall_p rfl (call86 (ix o.lines i).stmt 0 1000000000) rfl ?_
    simp
    refine br_dguard_f rfl (fun h7 => ?_) (fun h7 => ?_) <;> simp at h7
    · simp [h7, cr29, bad (by simp [lineOk, h7])]
    simp [h7]
    refine br_dguard_t rfl (fun h8 => ?_) (fun h8 => ?_)
    · have h0 := ltI_t.1 h8
      have hwm : IntKind.i64.wrap (i - 1) = ((i - 1 : Nat) : Int) := by rw [wrap64 (by omega) (by omega)]; omega
      have h9 : ltI ↑(i - 1) ↑o.lines.length = true := ltN (by omega)
      simp [h8, hwm, h9, idxM, DLine.av]
      refine br_cond rfl (fun h10 => ?_) (fun h10 => ?_)
      · simp [cr29, bad (by simp [lineOk, h8, h10])]
      · simp [hw]
        exact ⟨i + 1, ⟨by omega, good (by simp [lineOk, h5, h6, h7, h10])⟩, by omega, Env.le_of (by simp), nx + 1, Mem.le_of rfl (by simp)⟩
    · simp [h8, hw]
      exact ⟨i + 1, ⟨by omega, good (by simp [lineOk, h5, h6, h7, h8])⟩, by omega, Env.le_of (by simp), nx + 1, Mem.le_of rfl (by simp)⟩
  have hid : i = o.lines.length := by have := ltI_f.1 h4; omega
  have hL : (List.range o.lines.length).all (lineOk o.code.size o.lines) = true := all_t (by rw [← hid]; exact hall)
  simp [h4, cr29, deckOk, h1, h2, h3, hD, hR, hL]
end Go.Pm

/- ZkC4: contracts: the linker's Valid. -/
namespace Go.Pm
open Go Go.Proofs
attribute [-simp] List.getElem?_map

theorem beq_eqS (a b : ByteArray) : (a == b) = eqS b a := by
  unfold eqS
  rw [← beq_toListBytes]
  cases h : (a == b) with
  | true => rw [beq_bytes] at h; subst h; exact ((beq_bytes a a).2 rfl).symm
  | false =>
    cases h2 : (b == a) with
    | false => rfl
    | true => rw [beq_bytes] at h2; subst h2; rw [(beq_bytes b b).2 rfl] at h; cases h

theorem eqI_comm (a b : Int) : eqI a b = eqI b a := by simp only [eqI, Bool.beq_comm]

/-- A set of texts, or of numbers, as a map. -/
def setS (l : List ByteArray) : List (AV × AV) := l.map fun s => (.str s, .bool true)
def setI (l : List Int) : List (AV × AV) := l.map fun s => (.int .i64 s, .bool true)

def hasS (l : List ByteArray) (s : ByteArray) : Bool := l.any fun x => eqS x s
def hasI (l : List Int) (s : Int) : Bool := l.any fun x => eqI x s
def optB (c : Bool) : Option AV := if c = true then some (.bool true) else none

theorem findS (s : ByteArray) : ∀ l : List ByteArray, findA (.str s) (setS l) = some (optB (hasS l s))
  | [] => rfl
  | x :: l => by
    have ih := findS s l
    unfold setS at ih ⊢
    rw [List.map_cons, findA]
    unfold hasS optB at ih ⊢
    simp only [keyEq, beq_eqS, List.any_cons]
    rcases Bool.eq_false_or_eq_true (eqS x s) with h | h
    · simp [h]
    · simpa [h] using ih
theorem updS (s : ByteArray) : ∀ l : List ByteArray, hasS l s = false → updA (.str s) (.bool true) (setS l) = some (setS (l ++ [s]))
  | [], _ => rfl
  | x :: l, h => by
    simp only [hasS, List.any_cons, Bool.or_eq_false_iff] at h
    have ih := updS s l h.2
    unfold setS at ih ⊢
    rw [List.map_cons, updA]
    simp only [keyEq, beq_eqS, h.1]
    rw [ih]; rfl
theorem findI (s : Int) : ∀ l : List Int, findA (.int .i64 s) (setI l) = some (optB (hasI l s))
  | [] => rfl
  | x :: l => by
    have ih := findI s l
    unfold setI at ih ⊢
    rw [List.map_cons, findA]
    unfold hasI optB at ih ⊢
    simp only [keyEq, if_true, List.any_cons]
    rw [show (s == x) = eqI x s from eqI_comm s x]
    rcases Bool.eq_false_or_eq_true (eqI x s) with h | h
    · simp [h]
    · simpa [h] using ih
theorem updI (s : Int) : ∀ l : List Int, hasI l s = false → updA (.int .i64 s) (.bool true) (setI l) = some (setI (l ++ [s]))
  | [], _ => rfl
  | x :: l, h => by
    simp only [hasI, List.any_cons, Bool.or_eq_false_iff] at h
    have ih := updI s l h.2
    unfold setI at ih ⊢
    rw [List.map_cons, updA]
    simp only [keyEq, if_true]
    rw [show (s == x) = eqI x s from eqI_comm s x, h.1]
    simp only []
    rw [ih]; rfl
theorem getD_b (c : Bool) : (optB c).getD (AV.bool false) = AV.bool c := by cases c <;> rfl
theorem any_all {n : Nat} {p : Nat → Bool} : ((List.range n).any p) = !((List.range n).all fun k => !p k) := by
  rw [List.not_all_eq_any_not]; simp

theorem hasS_range {n : Nat} {g : Nat → ByteArray} {s : ByteArray} : hasS ((List.range n).map g) s = !((List.range n).all fun k => !eqS (g k) s) := by
  unfold hasS; rw [List.any_map, Function.comp_def, any_all]
theorem hasI_range {n : Nat} {g : Nat → Int} {s : Int} : hasI ((List.range n).map g) s = !((List.range n).all fun k => !eqI (g k) s) := by
  unfold hasI; rw [List.any_map, Function.comp_def, any_all]

attribute [simp] lookA isKey findS findI getD_b

/-- A line behind the last one. -/
def lastAt (ds : List DLine) (i : Nat) : Int := if i = 0 then -1 else (ix ds (i - 1)).at_

theorem lineOk_next {n : Int} {ds : List DLine} {i : Nat} (hall : ∀ j, j < i → lineOk n ds j = true) :
    lineOk n ds i = (!leI (ix ds i).at_ (lastAt ds i) && !leI n (ix ds i).at_ && eqI ((ix ds i).at_.tmod 2) 0 && !ltI (ix ds i).stmt 0 && !ltI 1000000000 (ix ds i).stmt) := by
  have hz : i ≠ 0 → 0 ≤ (ix ds (i - 1)).at_ := fun h => by
    have h1 := hall (i - 1) (by omega)
    simp only [lineOk, withinF, Bool.and_eq_true] at h1
    exact leI_t.1 h1.1.1.1.1
  rw [Bool.eq_iff_iff]
  simp only [lineOk, withinF, Bool.and_eq_true, Bool.not_eq_true', Bool.and_eq_false_iff, leI_t, leI_f, ltI_f, lastAt]
  rcases Nat.eq_zero_or_pos i with h0 | h0
  · subst h0
    simp only [if_true]
    constructor
    · rintro ⟨⟨⟨⟨a, b⟩, c⟩, d, e⟩, f⟩; exact ⟨⟨⟨⟨by omega, by omega⟩, c⟩, d⟩, e⟩
    · rintro ⟨⟨⟨⟨a, b⟩, c⟩, d⟩, e⟩; exact ⟨⟨⟨⟨by omega, by omega⟩, c⟩, d, e⟩, .inl (by omega)⟩
  · have := hz (by omega)
    rw [if_neg (by omega)]
    constructor
    · rintro ⟨⟨⟨⟨a, b⟩, c⟩, d, e⟩, f⟩; exact ⟨⟨⟨⟨by rcases f with f | f <;> omega, by omega⟩, c⟩, d⟩, e⟩
    · rintro ⟨⟨⟨⟨a, b⟩, c⟩, d⟩, e⟩; exact ⟨⟨⟨⟨by omega, by omega⟩, c⟩, d, e⟩, .inr (by omega)⟩

set_option maxHeartbeats 4000000 in
theorem call27 (o : Deck) (hs : o.Small) : PCalls Zk.pg 27 [.agg o.av] fun out => out = .ret (.bool (deckOk o)) := by
  refine ok27.pcalls (by simp) ?_
  simp [c27, Deck.av]
  refine xcall_p (call80 o.name hs.name) rfl ?_
  simp
  refine br_guard_f rfl (fun h1 => ?_) (fun h1 => ?_) <;> simp at h1
  · simp [h1, cr27, deckOk]
  simp [h1]
  refine br_guard_f rfl (fun h2 => ?_) (fun h2 => ?_)
  · simp [h2, cr27, deckOk]
  simp [h2]
  refine br_cond rfl (fun h3 => ?_) (fun h3 => ?_) <;> simp at h3
  · simp [h3, cr27, deckOk]
  simp
  have dl := hs.defs
  have rl := hs.refs
  have ll := hs.lines
  have cl := hs.code
  -- the names
  refine wpS_loop (ι := Nat × Nat) (fun s => [(1, .ptr 0 0 0), (2, .bool false), (3, .int .i64 o.code.size), (4, .map 1 1), (5, .map 2 2), (32, .list true 2 (o.defs.map DDef.av)), (33, .int .i64 o.defs.length), (34, .int .i64 s.1)])
    (fun s => ⟨[(0, .cells o.av), (1, .map (setS ((List.range s.1).map fun j => (ix o.defs j).name))), (2, .map [])], s.2⟩) (fun s => o.defs.length - s.1) (fun s => s.1 ≤ o.defs.length ∧ ∀ j, j < s.1 → defOk o.code.size o.defs j = true) (0, 3) (by simp) (Env.le_of (by simp)) (by simp [Deck.av, setS]) ?_
  intro ⟨i, nx⟩ ⟨hi, hall⟩
  simp only at hi hall
  have hw : IntKind.i64.wrap (i + 1) = i + 1 := wrap64 (by omega) (by omega)
  simp [Deck.av]
  refine br_cond rfl (fun h4 => ?_) (fun h4 => ?_)
  · have hlt : i < o.defs.length := by have := ltI_t.1 h4; omega
    have bad : defOk o.code.size o.defs i = false → deckOk o = false := fun h => by simp [deckOk, all_f hlt h]
    simp [h4, idxM, DDef.av]
    refine xcall_p (call80 (ix o.defs i).name (hs.dname _ (ix_mem hlt))) rfl ?_
    simp
    refine br_guard_f rfl (fun h5 => ?_) (fun h5 => ?_) <;> simp at h5
    · simp [h5, cr27, bad (by simp [defOk, h5])]
    have goodn : (((List.range i).all fun k => !eqS (ix o.defs k).name (ix o.defs i).name) = true) → leI 0 (ix o.defs i).at_ = true → leI (ix o.defs i).at_ o.code.size = true → eqI ((ix o.defs i).at_.tmod 2) 0 = true → ∀ j, j < i + 1 → defOk o.code.size o.defs j = true :=
      fun a b c d => upto hall (by simp only [defOk, h5, a, withinF, b, c, d, Bool.and_self])
    simp [h5]
    refine br_guard_f rfl (fun h6 => ?_) (fun h6 => ?_) <;> have h6' := h6 <;> rw [hasS_range] at h6' <;> simp only [Bool.not_eq_true', Bool.not_eq_false'] at h6'
    · simp [h6, cr27, bad (by simp only [defOk, h6', Bool.and_false])]
    simp [h6]
    refine br_guard_f rfl (fun h7 => ?_) (fun h7 => ?_)
    · simp [h7, cr27, bad (by simp [defOk, withinF, leI_f.2 (ltI_t.1 h7)])]
    have h7' := leI_t.2 (ltI_f.1 h7)
    simp [h7]
    refine br_guard_f rfl (fun h8 => ?_) (fun h8 => ?_)
    · simp [h8, cr27, bad (by simp [defOk, withinF, leI_f.2 (ltI_t.1 h8)])]
    have h8' := leI_t.2 (ltI_f.1 h8)
    simp [h8]
    refine br_cond rfl (fun h9 => ?_) (fun h9 => ?_) <;> simp at h9
    · simp [cr27, bad (by simp [defOk, h9])]
    have hu : updA (.str (ix o.defs i).name) (.bool true) (setS ((List.range i).map fun j => (ix o.defs j).name)) = some (setS ((List.range (i + 1)).map fun j => (ix o.defs j).name)) := by
      rw [updS _ _ h6, List.range_succ, List.map_append]; rfl
    simp [hu, hw]
    exact ⟨i + 1, ⟨by omega, goodn h6' h7' h8' h9⟩, by omega, Env.le_of (by simp), nx + 1, Mem.le_of rfl (by simp)⟩
  clear hw
  have hid : i = o.defs.length := by have := ltI_f.1 h4; omega
  have hD : (List.range o.defs.length).all (defOk o.code.size o.defs) = true := all_t (by rw [← hid]; exact hall)
  clear hall hi
  simp [h4]
  clear h4 hid
  -- the places
  refine wpS_loop (ι := Nat × Nat) (fun s => [(1, .ptr 0 0 0), (2, .bool false), (3, .int .i64 o.code.size), (5, .map 2 2), (70, .list true 3 (o.refs.map DRef.av)), (71, .int .i64 o.refs.length), (72, .int .i64 s.1)])
    (fun s => ⟨[(0, .cells o.av), (1, .map (setS ((List.range i).map fun j => (ix o.defs j).name))), (2, .map (setI ((List.range s.1).map fun j => (ix o.refs j).at_)))], s.2⟩) (fun s => o.refs.length - s.1) (fun s => s.1 ≤ o.refs.length ∧ ∀ j, j < s.1 → refOk o.code.size o.refs j = true) (0, nx) (by simp) (Env.le_of (by simp)) (by simp [Deck.av, setI]) ?_
  intro ⟨i', nx⟩ ⟨hi, hall⟩
  simp only at hi hall
  have hw : IntKind.i64.wrap (i' + 1) = i' + 1 := wrap64 (by omega) (by omega)
  have hw4 : IntKind.i64.wrap ((o.code.size : Int) - 4) = (o.code.size : Int) - 4 := wrap64 (by omega) (by omega)
  simp [Deck.av]
  refine br_cond rfl (fun h4 => ?_) (fun h4 => ?_)
  · have hlt : i' < o.refs.length := by have := ltI_t.1 h4; omega
    have bad : refOk o.code.size o.refs i' = false → deckOk o = false := fun h => by simp [deckOk, all_f hlt h]
    simp [h4, idxM, DRef.av]
    refine xcall_p (call80 (ix o.refs i').name (hs.rname _ (ix_mem hlt))) rfl ?_
    simp
    refine br_guard_f rfl (fun h5 => ?_) (fun h5 => ?_) <;> simp at h5
    · simp [h5, cr27, bad (by simp [refOk, h5])]
    simp [h5]
    refine br_guard_f rfl (fun h6 => ?_) (fun h6 => ?_) <;> have h6' := h6 <;> rw [hasI_range] at h6' <;> simp only [Bool.not_eq_true', Bool.not_eq_false'] at h6'
    · simp [h6, cr27, bad (by simp only [refOk, h6', Bool.and_false])]
    simp [h6]
    refine br_guard_f rfl (fun h7 => ?_) (fun h7 => ?_)
    · simp [h7, cr27, bad (by simp [refOk, withinF, leI_f.2 (ltI_t.1 h7)])]
    have h7' := leI_t.2 (ltI_f.1 h7)
    simp [h7, hw4]
    refine br_guard_f rfl (fun h8 => ?_) (fun h8 => ?_)
    · simp [h8, cr27, bad (by simp [refOk, withinF, leI_f.2 (ltI_t.1 h8)])]
    have h8' := leI_t.2 (ltI_f.1 h8)
    simp [h8]
    refine br_guard_f rfl (fun h9 => ?_) (fun h9 => ?_) <;> simp at h9
    · simp [h9, cr27, bad (by simp [refOk, h9])]
    simp [h9]
    refine br_guard_f rfl (fun h10 => ?_) (fun h10 => ?_)
    · simp [h10, cr27, bad (by simp [refOk, withinF, leI_f.2 (ltI_t.1 h10)])]
    have h10' := leI_t.2 (ltI_f.1 h10)
    simp [h10]
    refine br_cond rfl (fun h11 => ?_) (fun h11 => ?_)
    · simp [cr27, bad (by simp [refOk, withinF, leI_f.2 (ltI_t.1 h11)])]
    have h11' := leI_t.2 (ltI_f.1 h11)
    have hu : updA (.int .i64 (ix o.refs i').at_) (.bool true) (setI ((List.range i').map fun j => (ix o.refs j).at_)) = some (setI ((List.range (i' + 1)).map fun j => (ix o.refs j).at_)) := by
      rw [updI _ _ h6, List.range_succ, List.map_append]; rfl
    have good : ∀ j, j < i' + 1 → refOk o.code.size o.refs j = true := upto hall (by simp only [refOk, h5, withinF, h6', h7', h8', h9, h10', h11', Bool.and_self])
    simp [hu, hw]
    exact ⟨i' + 1, ⟨by omega, good⟩, by omega, Env.le_of (by simp), nx + 1, Mem.le_of rfl (by simp)⟩
  clear hw
  have hid : i' = o.refs.length := by have := ltI_f.1 h4; omega
  have hR : (List.range o.refs.length).all (refOk o.code.size o.refs) = true := all_t (by rw [← hid]; exact hall)
  clear hall hi
  simp [h4]
  clear h4 hid
  -- the lines
  refine wpS_loop (ι := Nat × Nat) (fun s => [(1, .ptr 0 0 0), (2, .bool false), (3, .int .i64 o.code.size), (10, .int .i64 (lastAt o.lines s.1)), (119, .list true 2 (o.lines.map DLine.av)), (120, .int .i64 o.lines.length), (121, .int .i64 s.1)])
    (fun s => ⟨[(0, .cells o.av), (1, .map (setS ((List.range i).map fun j => (ix o.defs j).name))), (2, .map (setI ((List.range i').map fun j => (ix o.refs j).at_)))], s.2⟩) (fun s => o.lines.length - s.1) (fun s => s.1 ≤ o.lines.length ∧ ∀ j, j < s.1 → lineOk o.code.size o.lines j = true) (0, nx) (by simp) (Env.le_of (by simp [lastAt])) (by simp [Deck.av]) ?_
  intro ⟨k, nx⟩ ⟨hi, hall⟩
  simp only at hi hall
  have hw : IntKind.i64.wrap (k + 1) = k + 1 := wrap64 (by omega) (by omega)
  simp [Deck.av]
  refine br_cond rfl (fun h4 => ?_) (fun h4 => ?_)
  · have hlt : k < o.lines.length := by have := ltI_t.1 h4; omega
    have bad : lineOk o.code.size o.lines k = false → deckOk o = false := fun h => by simp [deckOk, all_f hlt h]
    have hn := lineOk_next hall
    simp [h4, idxM, DLine.av]
    refine br_guard_f rfl (fun h5 => ?_) (fun h5 => ?_)
    · simp [h5, cr27, bad (by rw [hn]; simp [h5])]
    simp [h5]
    refine br_guard_f rfl (fun h6 => ?_) (fun h6 => ?_)
    · simp [h6, cr27, bad (by rw [hn]; simp [h6])]
    simp [h6]
    refine br_guard_f rfl (fun h7 => ?_) (fun h7 => ?_) <;> simp at h7
    · simp [h7, cr27, bad (by rw [hn]; simp [h7])]
    simp [h7]
    refine br_guard_f rfl (fun h8 => ?_) (fun h8 => ?_)
    · simp [h8, cr27, bad (by rw [hn]; simp [h8])]
    simp [h8]
    refine br_cond rfl (fun h9 => ?_) (fun h9 => ?_)
    · simp [cr27, bad (by rw [hn]; simp [h9])]
    simp [hw]
    exact ⟨k + 1, ⟨by omega, upto hall (by rw [hn]; simp [h5, h6, h7, h8, h9])⟩, by omega, Env.le_of (by simp [lastAt]), nx + 1, Mem.le_of rfl (by simp)⟩
  have hid : k = o.lines.length := by have := ltI_f.1 h4; omega
  have hL : (List.range o.lines.length).all (lineOk o.code.size o.lines) = true := all_t (by rw [← hid]; exact hall)
  simp [h4, cr27, deckOk, h1, h2, h3, hD, hR, hL]
end Go.Pm
