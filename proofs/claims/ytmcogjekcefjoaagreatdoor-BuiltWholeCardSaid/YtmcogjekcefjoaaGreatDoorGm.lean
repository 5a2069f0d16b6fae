/- BkS7: code, resolved. Printed by ShowSC.lean and genok.py. -/
import Derived.Test.YtmcogjekcefjoaaGreatDoorGa
import Derived.Test.YtmcogjekcefjoaaGreatDoorPmT
import Derived.Test.YtmcogjekcefjoaaGreatDoorGl
import Derived.Test.YtmcogjekcefjoaaGreatDoorGk
namespace Go.Pm
open Go Go.Proofs

/-- ironbark/ironbarklaw08.BuiltNames -/
def c7 : SC :=
  (.seq (.ops [⟨(some 2), .plain .mv, [.lit (.bool false)], none⟩] [])
  (.seq (.seq (.ops [⟨(some 12), .plain .mv, [.tmp 0], none⟩,
    ⟨(some 13), .plain (.len 0), [.tmp 12], none⟩,
    ⟨(some 14), .plain (.bin .gtr), [.tmp 13, .lit (.int .i64 300)], none⟩] [12, 13])
  (.cond (.tmp 14)
   (.seq (.ops [⟨(some 15), .call 8, [], none⟩,
     ⟨(some 2), .plain .mv, [.tmp 15], none⟩] [15])
   .ret)
   .skip))
  (.seq (.ops [⟨(some 17), .plain .mv, [.tmp 0], none⟩,
    ⟨(some 18), .call 18, [.tmp 17], none⟩,
    ⟨(some 16), .plain .mv, [.tmp 18], none⟩,
    ⟨(some 19), .plain (.extract 0), [.tmp 16], none⟩,
    ⟨(some 20), .plain (.extract 1), [.tmp 16], none⟩,
    ⟨(some 21), .plain (.extract 2), [.tmp 16], none⟩,
    ⟨(some 3), .plain .mv, [.tmp 19], none⟩,
    ⟨(some 4), .plain .mv, [.tmp 20], none⟩,
    ⟨(some 5), .plain .mv, [.tmp 21], none⟩] [17, 18, 16, 19, 20, 21])
  (.seq (.ops [⟨(some 23), .plain .mv, [.tmp 0], none⟩,
    ⟨(some 24), .call 19, [.tmp 23], none⟩,
    ⟨(some 22), .plain .mv, [.tmp 24], none⟩,
    ⟨(some 25), .plain (.extract 0), [.tmp 22], none⟩,
    ⟨(some 26), .plain (.extract 1), [.tmp 22], none⟩,
    ⟨(some 27), .plain (.extract 2), [.tmp 22], none⟩,
    ⟨(some 6), .plain .mv, [.tmp 25], none⟩,
    ⟨(some 7), .plain .mv, [.tmp 26], none⟩,
    ⟨(some 8), .plain .mv, [.tmp 27], none⟩] [23, 24, 22, 25, 26, 27])
  (.seq (.ops [⟨(some 28), .call 20, [], none⟩,
    ⟨(some 29), .call 21, [], none⟩,
    ⟨(some 9), .plain .mv, [.tmp 28], none⟩,
    ⟨(some 10), .plain .mv, [.tmp 29], none⟩] [28, 29])
  (.seq (.seq (.ops [⟨(some 30), .plain .mv, [.tmp 0], none⟩,
    ⟨(some 31), .call 22, [.tmp 30], none⟩,
    ⟨(some 32), .plain .mv, [.tmp 0], none⟩,
    ⟨(some 33), .call 23, [.tmp 32], none⟩,
    ⟨(some 34), .plain (.eqBool true), [.tmp 31, .tmp 33], none⟩,
    ⟨(some 35), .plain .mv, [.tmp 34], none⟩,
    ⟨(some 36), .plain .mv, [.tmp 3], (some (35, false))⟩,
    ⟨(some 37), .plain .mv, [.tmp 6], (some (35, false))⟩,
    ⟨(some 38), .plain (.bin .neq), [.tmp 36, .tmp 37], (some (35, false))⟩,
    ⟨(some 39), .plain .pick, [.tmp 35, .lit (.bool true), .tmp 38], none⟩,
    ⟨(some 40), .plain .mv, [.tmp 39], none⟩,
    ⟨(some 41), .plain .mv, [.tmp 4], (some (40, false))⟩,
    ⟨(some 42), .plain .mv, [.tmp 7], (some (40, false))⟩,
    ⟨(some 43), .plain (.bin .neq), [.tmp 41, .tmp 42], (some (40, false))⟩,
    ⟨(some 44), .plain .pick, [.tmp 40, .lit (.bool true), .tmp 43], none⟩,
    ⟨(some 45), .plain .mv, [.tmp 44], none⟩,
    ⟨(some 46), .plain .mv, [.tmp 5], (some (45, false))⟩,
    ⟨(some 47), .plain .mv, [.tmp 8], (some (45, false))⟩,
    ⟨(some 48), .plain (.bin .neq), [.tmp 46, .tmp 47], (some (45, false))⟩,
    ⟨(some 49), .plain .pick, [.tmp 45, .lit (.bool true), .tmp 48], none⟩,
    ⟨(some 50), .plain .mv, [.tmp 49], none⟩,
    ⟨(some 51), .plain .mv, [.tmp 9], (some (50, false))⟩,
    ⟨(some 52), .plain (.len 1), [.tmp 51], (some (50, false))⟩,
    ⟨(some 53), .plain .mv, [.tmp 10], (some (50, false))⟩,
    ⟨(some 54), .plain (.len 1), [.tmp 53], (some (50, false))⟩,
    ⟨(some 55), .plain (.bin .neq), [.tmp 52, .tmp 54], (some (50, false))⟩,
    ⟨(some 56), .plain .pick, [.tmp 50, .lit (.bool true), .tmp 55], none⟩] [30, 31, 32, 33, 34, 35, 36, 37, 38, 39, 40, 41, 42, 43, 44, 45, 46, 47, 48, 49, 50, 51, 52, 53, 54, 55])
  (.cond (.tmp 56)
   (.seq (.ops [⟨(some 2), .plain .mv, [.lit (.bool false)], none⟩] [])
   .ret)
   .skip))
  (.seq (.seq (.ops [⟨(some 11), .plain .mv, [.lit (.int .i64 0)], none⟩] [])
  (.block 0
   (.loop
    (.seq (.seq (.ops [⟨(some 57), .plain .mv, [.tmp 11], none⟩,
      ⟨(some 58), .plain .mv, [.tmp 9], none⟩,
      ⟨(some 59), .plain (.len 1), [.tmp 58], none⟩,
      ⟨(some 60), .plain (.bin .lss), [.tmp 57, .tmp 59], none⟩] [57, 58, 59])
    (.cond (.tmp 60)
     .skip
     (.exit 0)))
    (.seq (.block 1
     (.seq (.draw (.step ⟨(some 63), .plain .mv, [.tmp 9], none⟩
       (.step ⟨(some 64), .plain .mv, [.tmp 11], none⟩
       (.step ⟨(some 65), .plain (.indexAddr 1), [.tmp 63, .tmp 64], none⟩
       (.step ⟨(some 66), .plain (.load false 1), [.tmp 65], none⟩
       (.step ⟨(some 67), .plain .mv, [.tmp 10], none⟩
       (.step ⟨(some 68), .plain .mv, [.tmp 11], none⟩
       (.step ⟨(some 69), .plain (.indexAddr 1), [.tmp 67, .tmp 68], none⟩
       (.step ⟨(some 70), .plain (.load false 1), [.tmp 69], none⟩
       (.step ⟨(some 71), .plain (.bin .neq), [.tmp 66, .tmp 70], none⟩
       .done))))))))) [63, 64, 65, 66, 67, 68, 69, 70])
     (.cond (.tmp 71)
      (.seq (.ops [⟨(some 2), .plain .mv, [.lit (.bool false)], none⟩] [])
      .ret)
      .skip)))
    (.ops [⟨(some 61), .plain .mv, [.tmp 11], none⟩,
      ⟨(some 62), .plain (.bin .add), [.tmp 61, .lit (.int .i64 1)], none⟩,
      ⟨(some 11), .plain .mv, [.tmp 62], none⟩] [61, 62]))))))
  (.seq (.ops [⟨(some 72), .call 8, [], none⟩,
    ⟨(some 2), .plain .mv, [.tmp 72], none⟩] [72])
  .ret))))))))
def cr7 : List Res := [(2, none)]
theorem ok7 : FOk Bk.pg.toProgram Bk.imp 7 c7 cr7 Tryz.f7.ntmps := ⟨Tryz.f7, _, Tryz.func7, rfl, by kernel_rfl, by kernel_rfl, by kernel_rfl, rfl⟩

/-- ironbark/built.Arguments -/
def c18 : SC :=
  (.seq (.ops [⟨(some 2), .plain .mv, [.lit (.int .i64 0)], none⟩,
    ⟨(some 3), .plain .mv, [.lit (.int .i64 0)], none⟩,
    ⟨(some 4), .plain .mv, [.lit (.int .i64 0)], none⟩] [])
  (.seq (.ops [⟨(some 8), .call 27, [], none⟩,
    ⟨(some 9), .plain .mv, [.tmp 0], none⟩,
    ⟨(some 10), .plain (.lookup .str (.agg [(.int .i64 0), (.int .i64 0), (.const .nilFunc), (.const .nilFunc)]) true), [.tmp 8, .tmp 9], none⟩,
    ⟨(some 7), .plain .mv, [.tmp 10], none⟩,
    ⟨(some 11), .plain (.extract 0), [.tmp 7], none⟩,
    ⟨(some 12), .plain (.extract 1), [.tmp 7], none⟩,
    ⟨(some 5), .plain (.alloc [(.int .i64 0), (.int .i64 0), (.const .nilFunc), (.const .nilFunc)]), [], none⟩,
    ⟨none, .plain (.store 4), [.tmp 5, .tmp 11], none⟩,
    ⟨(some 6), .plain .mv, [.tmp 12], none⟩] [8, 9, 10, 7, 11, 12])
  (.seq (.seq (.ops [⟨(some 13), .plain .mv, [.tmp 6], none⟩,
    ⟨(some 14), .plain (.un .not), [.tmp 13], none⟩] [13])
  (.cond (.tmp 14)
   (.seq (.ops [⟨(some 2), .plain .mv, [.lit (.int .i64 0)], none⟩,
     ⟨(some 3), .plain .mv, [.lit (.int .i64 0)], none⟩,
     ⟨(some 4), .plain .mv, [.lit (.int .i64 5)], none⟩] [])
   .ret)
   .skip))
  (.seq (.draw (.step ⟨(some 15), .plain (.fieldAddr 0), [.tmp 5], none⟩
    (.step ⟨(some 16), .plain (.load false 1), [.tmp 15], none⟩
    (.step ⟨(some 17), .plain (.fieldAddr 1), [.tmp 5], none⟩
    (.step ⟨(some 18), .plain (.load false 1), [.tmp 17], none⟩
    (.step ⟨(some 2), .plain .mv, [.tmp 16], none⟩
    (.step ⟨(some 3), .plain .mv, [.tmp 18], none⟩
    (.step ⟨(some 4), .plain .mv, [.lit (.int .i64 0)], none⟩
    .done))))))) [15, 16, 17, 18])
  .ret))))
def cr18 : List Res := [(2, none), (3, none), (4, none)]
theorem ok18 : FOk Bk.pg.toProgram Bk.imp 18 c18 cr18 Tryz.f18.ntmps := ⟨Tryz.f18, _, Tryz.func18, rfl, by kernel_rfl, by kernel_rfl, by kernel_rfl, rfl⟩

/-- ironbark/ironbarkref08.Arguments -/
def c19 : SC :=
  (.seq (.ops [⟨(some 2), .plain .mv, [.lit (.int .i64 0)], none⟩,
    ⟨(some 3), .plain .mv, [.lit (.int .i64 0)], none⟩,
    ⟨(some 4), .plain .mv, [.lit (.int .i64 0)], none⟩] [])
  (.seq (.seq (.ops [⟨(some 5), .plain .mv, [.tmp 0], none⟩,
    ⟨(some 6), .call 23, [.tmp 5], none⟩,
    ⟨(some 7), .plain (.un .not), [.tmp 6], none⟩] [5, 6])
  (.cond (.tmp 7)
   (.seq (.ops [⟨(some 2), .plain .mv, [.lit (.int .i64 0)], none⟩,
     ⟨(some 3), .plain .mv, [.lit (.int .i64 0)], none⟩,
     ⟨(some 4), .plain .mv, [.lit (.int .i64 5)], none⟩] [])
   .ret)
   .skip))
  (.seq (.seq (.ops [⟨(some 8), .plain .mv, [.tmp 0], none⟩] [])
  (.block 0
   (.seq (.seq (.ops [⟨(some 10), .plain (.bin .eql), [.tmp 8, .lit (.str ⟨#[65, 68, 68]⟩)], none⟩,
     ⟨(some 9), .plain .mv, [.tmp 10], none⟩] [10])
   (.cond (.tmp 9)
    .skip
    (.seq (.ops [⟨(some 11), .plain (.bin .eql), [.tmp 8, .lit (.str ⟨#[83, 85, 66, 84, 82, 65, 67, 84]⟩)], none⟩,
      ⟨(some 9), .plain .mv, [.tmp 11], none⟩] [11])
    (.cond (.tmp 9)
     .skip
     (.seq (.ops [⟨(some 12), .plain (.bin .eql), [.tmp 8, .lit (.str ⟨#[77, 85, 76, 84, 73, 80, 76, 89]⟩)], none⟩,
       ⟨(some 9), .plain .mv, [.tmp 12], none⟩] [12])
     (.cond (.tmp 9)
      .skip
      (.ops [⟨(some 13), .plain (.bin .eql), [.tmp 8, .lit (.str ⟨#[68, 73, 86, 73, 68, 69]⟩)], none⟩,
        ⟨(some 9), .plain .mv, [.tmp 13], none⟩] [13])))))))
   (.cond (.tmp 9)
    (.seq (.ops [⟨(some 2), .plain .mv, [.lit (.int .i64 3)], none⟩,
      ⟨(some 3), .plain .mv, [.lit (.int .i64 4)], none⟩,
      ⟨(some 4), .plain .mv, [.lit (.int .i64 0)], none⟩] [])
    .ret)
    (.seq (.seq (.ops [⟨(some 15), .plain (.bin .eql), [.tmp 8, .lit (.str ⟨#[66, 73, 78, 65, 82, 89]⟩)], none⟩,
      ⟨(some 14), .plain .mv, [.tmp 15], none⟩] [15])
    (.cond (.tmp 14)
     .skip
     (.seq (.ops [⟨(some 16), .plain (.bin .eql), [.tmp 8, .lit (.str ⟨#[68, 69, 67, 73, 77, 65, 76]⟩)], none⟩,
       ⟨(some 14), .plain .mv, [.tmp 16], none⟩] [16])
     (.cond (.tmp 14)
      .skip
      (.ops [⟨(some 17), .plain (.bin .eql), [.tmp 8, .lit (.str ⟨#[70, 73, 88, 69, 68]⟩)], none⟩,
        ⟨(some 14), .plain .mv, [.tmp 17], none⟩] [17])))))
    (.cond (.tmp 14)
     (.seq (.ops [⟨(some 2), .plain .mv, [.lit (.int .i64 1)], none⟩,
       ⟨(some 3), .plain .mv, [.lit (.int .i64 3)], none⟩,
       ⟨(some 4), .plain .mv, [.lit (.int .i64 0)], none⟩] [])
     .ret)
     (.seq (.seq (.ops [⟨(some 19), .plain (.bin .eql), [.tmp 8, .lit (.str ⟨#[70, 76, 79, 65, 84]⟩)], none⟩,
       ⟨(some 18), .plain .mv, [.tmp 19], none⟩] [19])
     (.cond (.tmp 18)
      .skip
      (.seq (.ops [⟨(some 20), .plain (.bin .eql), [.tmp 8, .lit (.str ⟨#[67, 72, 65, 82]⟩)], none⟩,
        ⟨(some 18), .plain .mv, [.tmp 20], none⟩] [20])
      (.cond (.tmp 18)
       .skip
       (.ops [⟨(some 21), .plain (.bin .eql), [.tmp 8, .lit (.str ⟨#[66, 73, 84]⟩)], none⟩,
         ⟨(some 18), .plain .mv, [.tmp 21], none⟩] [21])))))
     (.cond (.tmp 18)
      (.seq (.ops [⟨(some 2), .plain .mv, [.lit (.int .i64 1)], none⟩,
        ⟨(some 3), .plain .mv, [.lit (.int .i64 2)], none⟩,
        ⟨(some 4), .plain .mv, [.lit (.int .i64 0)], none⟩] [])
      .ret)
      (.seq (.ops [⟨(some 23), .plain (.bin .eql), [.tmp 8, .lit (.str ⟨#[83, 85, 66, 83, 84, 82]⟩)], none⟩,
        ⟨(some 22), .plain .mv, [.tmp 23], none⟩] [23])
      (.cond (.tmp 22)
       (.seq (.ops [⟨(some 2), .plain .mv, [.lit (.int .i64 2)], none⟩,
         ⟨(some 3), .plain .mv, [.lit (.int .i64 3)], none⟩,
         ⟨(some 4), .plain .mv, [.lit (.int .i64 0)], none⟩] [])
       .ret)
       (.seq (.seq (.ops [⟨(some 25), .plain (.bin .eql), [.tmp 8, .lit (.str ⟨#[77, 65, 88]⟩)], none⟩,
         ⟨(some 24), .plain .mv, [.tmp 25], none⟩] [25])
       (.cond (.tmp 24)
        .skip
        (.ops [⟨(some 26), .plain (.bin .eql), [.tmp 8, .lit (.str ⟨#[77, 73, 78]⟩)], none⟩,
          ⟨(some 24), .plain .mv, [.tmp 26], none⟩] [26])))
       (.cond (.tmp 24)
        (.seq (.ops [⟨(some 2), .plain .mv, [.lit (.int .i64 1)], none⟩,
          ⟨(some 3), .plain .mv, [.lit (.int .i64 20)], none⟩,
          ⟨(some 4), .plain .mv, [.lit (.int .i64 0)], none⟩] [])
        .ret)
        (.seq (.seq (.ops [⟨(some 28), .plain (.bin .eql), [.tmp 8, .lit (.str ⟨#[84, 82, 65, 78, 83, 76, 65, 84, 69]⟩)], none⟩,
          ⟨(some 27), .plain .mv, [.tmp 28], none⟩] [28])
        (.cond (.tmp 27)
         .skip
         (.ops [⟨(some 29), .plain (.bin .eql), [.tmp 8, .lit (.str ⟨#[66, 79, 79, 76]⟩)], none⟩,
           ⟨(some 27), .plain .mv, [.tmp 29], none⟩] [29])))
        (.cond (.tmp 27)
         (.seq (.ops [⟨(some 2), .plain .mv, [.lit (.int .i64 3)], none⟩,
           ⟨(some 3), .plain .mv, [.lit (.int .i64 3)], none⟩,
           ⟨(some 4), .plain .mv, [.lit (.int .i64 0)], none⟩] [])
         .ret)
         (.seq (.seq (.ops [⟨(some 31), .plain (.bin .eql), [.tmp 8, .lit (.str ⟨#[77, 79, 68]⟩)], none⟩,
           ⟨(some 30), .plain .mv, [.tmp 31], none⟩] [31])
         (.cond (.tmp 30)
          .skip
          (.seq (.ops [⟨(some 32), .plain (.bin .eql), [.tmp 8, .lit (.str ⟨#[82, 79, 85, 78, 68]⟩)], none⟩,
            ⟨(some 30), .plain .mv, [.tmp 32], none⟩] [32])
          (.cond (.tmp 30)
           .skip
           (.seq (.ops [⟨(some 33), .plain (.bin .eql), [.tmp 8, .lit (.str ⟨#[73, 78, 68, 69, 88]⟩)], none⟩,
             ⟨(some 30), .plain .mv, [.tmp 33], none⟩] [33])
           (.cond (.tmp 30)
            .skip
            (.seq (.ops [⟨(some 34), .plain (.bin .eql), [.tmp 8, .lit (.str ⟨#[86, 69, 82, 73, 70, 89]⟩)], none⟩,
              ⟨(some 30), .plain .mv, [.tmp 34], none⟩] [34])
            (.cond (.tmp 30)
             .skip
             (.seq (.ops [⟨(some 35), .plain (.bin .eql), [.tmp 8, .lit (.str ⟨#[82, 69, 80, 69, 65, 84]⟩)], none⟩,
               ⟨(some 30), .plain .mv, [.tmp 35], none⟩] [35])
             (.cond (.tmp 30)
              .skip
              (.ops [⟨(some 36), .plain (.bin .eql), [.tmp 8, .lit (.str ⟨#[67, 79, 80, 89]⟩)], none⟩,
                ⟨(some 30), .plain .mv, [.tmp 36], none⟩] [36])))))))))))
         (.cond (.tmp 30)
          (.seq (.ops [⟨(some 2), .plain .mv, [.lit (.int .i64 2)], none⟩,
            ⟨(some 3), .plain .mv, [.lit (.int .i64 2)], none⟩,
            ⟨(some 4), .plain .mv, [.lit (.int .i64 0)], none⟩] [])
          .ret)
          .skip))))))))))))))))
  (.seq (.ops [⟨(some 2), .plain .mv, [.lit (.int .i64 1)], none⟩,
    ⟨(some 3), .plain .mv, [.lit (.int .i64 1)], none⟩,
    ⟨(some 4), .plain .mv, [.lit (.int .i64 0)], none⟩] [])
  .ret))))
def cr19 : List Res := [(2, none), (3, none), (4, none)]
theorem ok19 : FOk Bk.pg.toProgram Bk.imp 19 c19 cr19 Tryz.f19.ntmps := ⟨Tryz.f19, _, Tryz.func19, rfl, by kernel_rfl, by kernel_rfl, by kernel_rfl, rfl⟩

/-- ironbark/built.Names -/
def c20 : SC :=
  (.seq (.ops [⟨(some 0), .plain .mv, [.lit .nilS], none⟩] [])
  (.seq (.ops [⟨(some 1), .call 27, [], none⟩,
    ⟨(some 2), .call 41, [.tmp 1], none⟩,
    ⟨(some 3), .call 40, [.tmp 2], none⟩,
    ⟨(some 0), .plain .mv, [.tmp 3], none⟩] [1, 2, 3])
  .ret))
def cr20 : List Res := [(0, none)]
theorem ok20 : FOk Bk.pg.toProgram Bk.imp 20 c20 cr20 Tryz.f20.ntmps := ⟨Tryz.f20, _, Tryz.func20, rfl, by kernel_rfl, by kernel_rfl, by kernel_rfl, rfl⟩

/-- ironbark/ironbarkref08.Names -/
def c21 : SC :=
  (.seq (.ops [⟨(some 0), .plain .mv, [.lit .nilS], none⟩] [])
  (.seq (.ops [⟨(some 1), .call 42, [], none⟩,
    ⟨(some 0), .plain .mv, [.tmp 1], none⟩] [1])
  .ret))
def cr21 : List Res := [(0, none)]
theorem ok21 : FOk Bk.pg.toProgram Bk.imp 21 c21 cr21 Tryz.f21.ntmps := ⟨Tryz.f21, _, Tryz.func21, rfl, by kernel_rfl, by kernel_rfl, by kernel_rfl, rfl⟩

/-- ironbark/built.Is -/
def c22 : SC :=
  (.seq (.ops [⟨(some 2), .plain .mv, [.lit (.bool false)], none⟩] [])
  (.seq (.ops [⟨(some 6), .call 27, [], none⟩,
    ⟨(some 7), .plain .mv, [.tmp 0], none⟩,
    ⟨(some 8), .plain (.lookup .str (.agg [(.int .i64 0), (.int .i64 0), (.const .nilFunc), (.const .nilFunc)]) true), [.tmp 6, .tmp 7], none⟩,
    ⟨(some 5), .plain .mv, [.tmp 8], none⟩,
    ⟨(some 9), .plain (.extract 0), [.tmp 5], none⟩,
    ⟨(some 10), .plain (.extract 1), [.tmp 5], none⟩,
    ⟨(some 3), .plain (.alloc [(.int .i64 0), (.int .i64 0), (.const .nilFunc), (.const .nilFunc)]), [], none⟩,
    ⟨none, .plain (.store 4), [.tmp 3, .tmp 9], none⟩,
    ⟨(some 4), .plain .mv, [.tmp 10], none⟩] [6, 7, 8, 5, 9, 10, 3])
  (.seq (.ops [⟨(some 11), .plain .mv, [.tmp 4], none⟩,
    ⟨(some 2), .plain .mv, [.tmp 11], none⟩] [11])
  .ret)))
def cr22 : List Res := [(2, none)]
theorem ok22 : FOk Bk.pg.toProgram Bk.imp 22 c22 cr22 Tryz.f22.ntmps := ⟨Tryz.f22, _, Tryz.func22, rfl, by kernel_rfl, by kernel_rfl, by kernel_rfl, rfl⟩

/-- ironbark/ironbarkref08.Is -/
def c23 : SC :=
  (.seq (.ops [⟨(some 2), .plain .mv, [.lit (.bool false)], none⟩] [])
  (.seq (.ops [⟨(some 5), .call 42, [], none⟩,
    ⟨(some 3), .plain .mv, [.tmp 5], none⟩] [5])
  (.seq (.seq (.ops [⟨(some 4), .plain .mv, [.lit (.int .i64 0)], none⟩] [])
  (.block 0
   (.loop
    (.seq (.seq (.ops [⟨(some 6), .plain .mv, [.tmp 4], none⟩,
      ⟨(some 7), .plain .mv, [.tmp 3], none⟩,
      ⟨(some 8), .plain (.len 1), [.tmp 7], none⟩,
      ⟨(some 9), .plain (.bin .lss), [.tmp 6, .tmp 8], none⟩] [6, 7, 8])
    (.cond (.tmp 9)
     .skip
     (.exit 0)))
    (.seq (.block 1
     (.seq (.ops [⟨(some 12), .plain .mv, [.tmp 3], none⟩,
       ⟨(some 13), .plain .mv, [.tmp 4], none⟩,
       ⟨(some 14), .plain (.indexAddr 1), [.tmp 12, .tmp 13], none⟩,
       ⟨(some 15), .plain (.load false 1), [.tmp 14], none⟩,
       ⟨(some 16), .plain .mv, [.tmp 0], none⟩,
       ⟨(some 17), .plain (.bin .eql), [.tmp 15, .tmp 16], none⟩] [12, 13, 14, 15, 16])
     (.cond (.tmp 17)
      (.seq (.ops [⟨(some 2), .plain .mv, [.lit (.bool true)], none⟩] [])
      .ret)
      .skip)))
    (.ops [⟨(some 10), .plain .mv, [.tmp 4], none⟩,
      ⟨(some 11), .plain (.bin .add), [.tmp 10, .lit (.int .i64 1)], none⟩,
      ⟨(some 4), .plain .mv, [.tmp 11], none⟩] [10, 11]))))))
  (.seq (.ops [⟨(some 2), .plain .mv, [.lit (.bool false)], none⟩] [])
  .ret))))
def cr23 : List Res := [(2, none)]
theorem ok23 : FOk Bk.pg.toProgram Bk.imp 23 c23 cr23 Tryz.f23.ntmps := ⟨Tryz.f23, _, Tryz.func23, rfl, by kernel_rfl, by kernel_rfl, by kernel_rfl, rfl⟩

/-- slices.Sorted -/
def c40 : SC :=
  (.seq (.ops [⟨(some 2), .plain .mv, [.lit .nilS], none⟩] [])
  (.seq (.ops [⟨(some 4), .plain .mv, [.tmp 0], none⟩,
    ⟨(some 5), .call 58, [.tmp 4], none⟩,
    ⟨(some 3), .plain .mv, [.tmp 5], none⟩] [4, 5])
  (.seq (.ops [⟨(some 6), .plain .mv, [.tmp 3], none⟩,
    ⟨(some 7), .call 59, [.tmp 6], none⟩] [6, 7])
  (.seq (.ops [⟨(some 8), .plain .mv, [.tmp 3], none⟩,
    ⟨(some 2), .plain .mv, [.tmp 8], none⟩] [8])
  .ret))))
def cr40 : List Res := [(2, none)]
theorem ok40 : FOk Bk.pg.toProgram Bk.imp 40 c40 cr40 Tryz.f40.ntmps := ⟨Tryz.f40, _, Tryz.func40, rfl, by kernel_rfl, by kernel_rfl, by kernel_rfl, rfl⟩

/-- maps.Keys -/
def c41 : SC :=
  (.seq (.ops [⟨(some 1), .plain (.box 1), [.tmp 0], none⟩,
    ⟨(some 2), .plain .mv, [.lit (.const .nilFunc)], none⟩] [])
  (.seq (.ops [⟨(some 3), .plain (.mkFn 60), [.tmp 1], none⟩,
    ⟨(some 2), .plain .mv, [.tmp 3], none⟩] [3])
  .ret))
def cr41 : List Res := [(2, none)]
theorem ok41 : FOk Bk.pg.toProgram Bk.imp 41 c41 cr41 Tryz.f41.ntmps := ⟨Tryz.f41, _, Tryz.func41, rfl, by kernel_rfl, by kernel_rfl, by kernel_rfl, rfl⟩

/-- ironbark/ironbarkref08.names -/
def c42 : SC :=
  (.seq (.ops [⟨(some 0), .plain .mv, [.lit .nilS], none⟩] [])
  (.seq (.ops [⟨(some 1), .plain (.buildRow 9 1 31 [(.str ⟨#[]⟩)] [0, 1, 2, 3, 4, 5, 6, 7, 8, 9, 10, 11, 12, 13, 14, 15, 16, 17, 18, 19, 20, 21, 22, 23, 24, 25, 26, 27, 28, 29, 30]), [.lit (.str ⟨#[65, 66, 83]⟩), .lit (.str ⟨#[65, 68, 68]⟩), .lit (.str ⟨#[66, 73, 78, 65, 82, 89]⟩), .lit (.str ⟨#[66, 73, 84]⟩), .lit (.str ⟨#[66, 79, 79, 76]⟩), .lit (.str ⟨#[67, 69, 73, 76]⟩), .lit (.str ⟨#[67, 72, 65, 82]⟩), .lit (.str ⟨#[67, 79, 80, 89]⟩), .lit (.str ⟨#[68, 69, 67, 73, 77, 65, 76]⟩), .lit (.str ⟨#[68, 73, 86, 73, 68, 69]⟩), .lit (.str ⟨#[70, 73, 88, 69, 68]⟩), .lit (.str ⟨#[70, 76, 79, 65, 84]⟩), .lit (.str ⟨#[70, 76, 79, 79, 82]⟩), .lit (.str ⟨#[72, 73, 71, 72]⟩), .lit (.str ⟨#[73, 78, 68, 69, 88]⟩), .lit (.str ⟨#[76, 69, 78, 71, 84, 72]⟩), .lit (.str ⟨#[76, 79, 87]⟩), .lit (.str ⟨#[77, 65, 88]⟩), .lit (.str ⟨#[77, 73, 78]⟩), .lit (.str ⟨#[77, 79, 68]⟩), .lit (.str ⟨#[77, 85, 76, 84, 73, 80, 76, 89]⟩), .lit (.str ⟨#[82, 69, 80, 69, 65, 84]⟩), .lit (.str ⟨#[82, 69, 86, 69, 82, 83, 69]⟩), .lit (.str ⟨#[82, 79, 85, 78, 68]⟩), .lit (.str ⟨#[83, 73, 71, 78]⟩), .lit (.str ⟨#[83, 84, 82, 73, 78, 71]⟩), .lit (.str ⟨#[83, 85, 66, 83, 84, 82]⟩), .lit (.str ⟨#[83, 85, 66, 84, 82, 65, 67, 84]⟩), .lit (.str ⟨#[84, 82, 65, 78, 83, 76, 65, 84, 69]⟩), .lit (.str ⟨#[84, 82, 85, 78, 67]⟩), .lit (.str ⟨#[86, 69, 82, 73, 70, 89]⟩)], none⟩,
    ⟨(some 0), .plain .mv, [.tmp 1], none⟩] [1])
  .ret))
def cr42 : List Res := [(0, none)]
theorem ok42 : FOk Bk.pg.toProgram Bk.imp 42 c42 cr42 Tryz.f42.ntmps := ⟨Tryz.f42, _, Tryz.func42, rfl, by kernel_rfl, by kernel_rfl, by kernel_rfl, rfl⟩

/-- slices.Collect -/
def c58 : SC :=
  (.seq (.ops [⟨(some 2), .plain .mv, [.lit .nilS], none⟩] [])
  (.seq (.ops [⟨(some 3), .plain .mv, [.tmp 0], none⟩,
    ⟨(some 4), .call 155, [.lit .nilS, .tmp 3], none⟩,
    ⟨(some 2), .plain .mv, [.tmp 4], none⟩] [3, 4])
  .ret))
def cr58 : List Res := [(2, none)]
theorem ok58 : FOk Bk.pg.toProgram Bk.imp 58 c58 cr58 Tryz.f58.ntmps := ⟨Tryz.f58, _, Tryz.func58, rfl, by kernel_rfl, by kernel_rfl, by kernel_rfl, rfl⟩

/-- maps.Keys$1 -/
def c60 : SC :=
  (.seq (.ops [⟨(some 4), .plain (.load false 1), [.tmp 1], none⟩,
    ⟨(some 5), .many .rangeM, [.tmp 4], none⟩] [4])
  (.block 0
   (.loop
    (.seq (.ops [⟨(some 6), .many .next, [.tmp 5], none⟩,
      ⟨(some 7), .plain (.extract 0), [.tmp 6], none⟩] [6])
    (.seq (.cond (.tmp 7)
     .skip
     (.exit 0))
    (.block 1
     (.seq (.ops [⟨(some 8), .many .entry, [.tmp 5], none⟩,
       ⟨(some 9), .plain (.extract 0), [.tmp 8], none⟩,
       ⟨(some 3), .plain .mv, [.tmp 9], none⟩] [8, 9])
     (.seq (.ops [⟨(some 10), .plain .mv, [.tmp 0], none⟩,
       ⟨(some 11), .plain .mv, [.tmp 3], none⟩,
       ⟨(some 12), .callv, [.tmp 10, .tmp 11], none⟩,
       ⟨(some 13), .plain (.un .not), [.tmp 12], none⟩] [10, 11, 12])
     (.cond (.tmp 13)
      .ret
      .skip)))))))))
def cr60 : List Res := []
theorem ok60 : FOk Bk.pg.toProgram Bk.imp 60 c60 cr60 Tryz.f60.ntmps := ⟨Tryz.f60, _, Tryz.func60, rfl, by kernel_rfl, by kernel_rfl, by kernel_rfl, rfl⟩

/-- slices.AppendSeq -/
def c155 : SC :=
  (.seq (.ops [⟨(some 2), .plain (.box 1), [.tmp 0], none⟩,
    ⟨(some 4), .plain .mv, [.lit .nilS], none⟩] [])
  (.seq (.seq (.ops [⟨(some 6), .plain .mv, [.tmp 1], none⟩] [])
  (.block 0
   (.rangeF (.tmp 6) [7]
    (.ops [⟨(some 5), .plain .mv, [.tmp 7], none⟩] [])
    (.block 1
     (.ops [⟨(some 8), .plain (.load false 1), [.tmp 2], none⟩,
       ⟨(some 9), .plain .mv, [.tmp 5], none⟩,
       ⟨(some 10), .plain (.buildRow 9 1 1 [(.str ⟨#[]⟩)] [0]), [.tmp 9], none⟩,
       ⟨(some 11), .plain (.append 9 1 16), [.tmp 8, .tmp 10], none⟩,
       ⟨none, .plain (.store 1), [.tmp 2, .tmp 11], none⟩] [8, 9, 10, 11])))))
  (.seq (.ops [⟨(some 12), .plain (.load false 1), [.tmp 2], none⟩,
    ⟨(some 4), .plain .mv, [.tmp 12], none⟩] [12])
  .ret)))
def cr155 : List Res := [(4, none)]
theorem ok155 : FOk Bk.pg.toProgram Bk.imp 155 c155 cr155 Tryz.f155.ntmps := ⟨Tryz.f155, _, Tryz.func155, rfl, by kernel_rfl, by kernel_rfl, by kernel_rfl, rfl⟩

end Go.Pm

/- BkT3: contracts: the table, all its rows; the functions' names. -/
namespace Go.Pm
open Go Go.Proofs
attribute [-simp] List.getElem?_map
attribute [simp] nilCheckA postA_norm

def tabL : List (ByteArray × RKey) := l46 (l45 (l44 []))

theorem call27N {S : List (Nat × AObj)} {nx : Nat} : ACalls Bk.pg 27 [] ⟨S, nx⟩ fun out m' => out = .ret (.map S.length nx) ∧ ∃ L' nx', m' = ⟨S ++ [(nx, .map L')], nx'⟩ ∧ TabN tabL L' := by
  refine ok27.acalls (by simp) ?_
  simp [c27]
  refine xcall_r (call44N (S := S) (g := nx) (nx := nx + 1) tabN_nil) ?_ ?_
  · rintro v m' ⟨hv, L1, n1, rfl, h1⟩
    cases hv
    simp
    refine xcall_r (call45N (S := S) (g := nx) (nx := n1) h1) ?_ ?_
    · rintro v m' ⟨hv, L2, n2, rfl, h2⟩
      cases hv
      simp
      refine xcall_r (call46N (S := S) (g := nx) (nx := n2) h2) ?_ ?_
      · rintro v m' ⟨hv, L3, n3, rfl, h3⟩
        cases hv
        simp [cr27, postA_ret]
        exact h3
      · rintro v m' ⟨hv, _⟩
        cases hv
    · rintro v m' ⟨hv, _⟩
      cases hv
  · rintro v m' ⟨hv, _⟩
    cases hv

/-- The functions' names, ascending. -/
def names31 : List ByteArray := [⟨#[65, 66, 83]⟩, ⟨#[65, 68, 68]⟩, ⟨#[66, 73, 78, 65, 82, 89]⟩, ⟨#[66, 73, 84]⟩, ⟨#[66, 79, 79, 76]⟩, ⟨#[67, 69, 73, 76]⟩, ⟨#[67, 72, 65, 82]⟩, ⟨#[67, 79, 80, 89]⟩, ⟨#[68, 69, 67, 73, 77, 65, 76]⟩, ⟨#[68, 73, 86, 73, 68, 69]⟩, ⟨#[70, 73, 88, 69, 68]⟩, ⟨#[70, 76, 79, 65, 84]⟩, ⟨#[70, 76, 79, 79, 82]⟩, ⟨#[72, 73, 71, 72]⟩, ⟨#[73, 78, 68, 69, 88]⟩, ⟨#[76, 69, 78, 71, 84, 72]⟩, ⟨#[76, 79, 87]⟩, ⟨#[77, 65, 88]⟩, ⟨#[77, 73, 78]⟩, ⟨#[77, 79, 68]⟩, ⟨#[77, 85, 76, 84, 73, 80, 76, 89]⟩, ⟨#[82, 69, 80, 69, 65, 84]⟩, ⟨#[82, 69, 86, 69, 82, 83, 69]⟩, ⟨#[82, 79, 85, 78, 68]⟩, ⟨#[83, 73, 71, 78]⟩, ⟨#[83, 84, 82, 73, 78, 71]⟩, ⟨#[83, 85, 66, 83, 84, 82]⟩, ⟨#[83, 85, 66, 84, 82, 65, 67, 84]⟩, ⟨#[84, 82, 65, 78, 83, 76, 65, 84, 69]⟩, ⟨#[84, 82, 85, 78, 67]⟩, ⟨#[86, 69, 82, 73, 70, 89]⟩]
def txR (ms : List ByteArray) : List (List AV) := ms.map fun s => [AV.str s]

theorem tabL_keys : (tabL.map Prod.fst).Perm names31 := by decide
theorem tabL_in {k : ByteArray} {r : RKey} (h : lkF tabL k = some r) : k ∈ names31 := tabL_keys.mem_iff.1 (lkF_mem h)
theorem names_in : names31.all (fun k => (lkF tabL k).isSome) = true := by decide
theorem tabL_out {k : ByteArray} (h : lkF tabL k = none) : k ∉ names31 := fun hk => by
  have := List.all_eq_true.1 names_in k hk
  rw [h] at this
  cases this

theorem call42 {m : Mem} : ACalls Bk.pg 42 [] m fun out m' => out = .ret (.row m.store.length m.next 1 0 31) ∧ m' = m.new (.row 9 1 (txR names31)) := by
  refine ok42.acalls (by simp) ?_
  simp [c42, cr42, postA_ret, Mem.new, txR, names31]
  rfl

def isN (k : ByteArray) : Bool := names31.any (· == k)

theorem eqS_tt {a b : ByteArray} : eqS a b = true ↔ a = b := by
  unfold eqS
  rw [← beq_toListBytes, beq_bytes]

theorem eqS_lit (a b : List UInt8) : eqS ⟨⟨a⟩⟩ ⟨⟨b⟩⟩ = decide (a = b) := by
  rw [Bool.eq_iff_iff, eqS_tt, decide_eq_true_eq]
  exact ⟨fun h => by injection h with h; injection h, fun h => by rw [h]⟩

theorem isN_t {k : ByteArray} : isN k = true ↔ k ∈ names31 := by
  unfold isN
  rw [List.any_eq_true]
  exact ⟨fun ⟨x, hx, he⟩ => (beq_bytes x k).1 he ▸ hx, fun h => ⟨k, h, beqB_t k⟩⟩

theorem call23 {k : ByteArray} : PCalls Bk.pg 23 [.str k] fun out => out = .ret (.bool (isN k)) := by
  refine ok23.pcalls (by simp) ?_
  simp [c23]
  refine xcall_a call42 ?_
  simp [Mem.new, Mem.empty]
  refine wpS_loopS (ι := Nat) (fun i => [(0, .str k), (3, .row 0 0 1 0 31), (4, .int .i64 (i : Nat))]) (fun _ => ⟨[(0, .row 9 1 (txR names31))], 1⟩) (fun i => 31 - i) (fun i => i ≤ 31 ∧ ∀ j < i, names31[j]? ≠ some k) 0 ⟨by omega, fun j hj => by omega⟩ (Sim.of_le (Env.le_of (by simp)) (Mem.le_of rfl (by simp))) ?_
  rintro i ⟨hi, hno⟩
  have hwi : IntKind.i64.wrap ((i : Int) + 1) = (i : Int) + 1 := wrap64 (by omega) (by omega)
  have hlen : names31.length = 31 := rfl
  simp
  refine br_cond rfl (fun h1 => ?_) (fun h1 => ?_)
  · have hlt : i < 31 := by have := ltI_t.1 h1; omega
    obtain ⟨n, hn⟩ : ∃ n, names31[i]? = some n := ⟨_, List.getElem?_eq_getElem (by omega)⟩
    have ht : (txR names31)[i]? = some [.str n] := by unfold txR; rw [List.getElem?_map, hn]; rfl
    simp [h1, ht]
    refine br_cond rfl (fun h2 => ?_) (fun h2 => ?_)
    · have e := eqS_tt.1 h2
      subst e
      have : isN n = true := isN_t.2 (List.mem_of_getElem? hn)
      simp [cr23, this]
    · simp [hwi]
      refine ⟨i + 1, ⟨by omega, fun j hj => ?_⟩, by omega, Sim.of_le (Env.le_of (by simp)) (Mem.le_refl _)⟩
      by_cases hji : j = i
      · subst hji
        rw [hn]
        intro e
        injection e with e
        rw [e, eqS_r] at h2
        cases h2
      · exact hno j (by omega)
  · have h31 : i = 31 := by have := ltI_f.1 h1; omega
    subst h31
    have : isN k = false := by
      cases h : isN k with
      | false => rfl
      | true =>
        obtain ⟨j, hj, he⟩ := List.getElem_of_mem (isN_t.1 h)
        exact absurd (by rw [List.getElem?_eq_getElem hj, he]) (hno j (by omega))
    simp [cr23, this]

set_option maxHeartbeats 4000000 in
theorem call19 {k : ByteArray} : PCalls Bk.pg 19 [.str k] fun out => out = .ret (match lkF tabL k with | none => .tuple [.int .i64 0, .int .i64 0, .int .i64 5] | some (a, b, _) => .tuple [.int .i64 a, .int .i64 b, .int .i64 0]) := by
  cases hk : lkF tabL k with
  | none =>
    have hN : isN k = false := by
      cases h : isN k with
      | false => rfl
      | true => exact absurd (isN_t.1 h) (tabL_out hk)
    refine ok19.pcalls (by simp) ?_
    have c23 := call23 (k := k)
    rw [hN] at c23
    simp [c19]
    refine xcall_p c23 (by simp) ?_
    simp [cr19]
  | some r =>
    obtain ⟨a, b, o⟩ := r
    have hm := tabL_in hk
    have hN : isN k = true := isN_t.2 hm
    refine ok19.pcalls (by simp) ?_
    have c23 := call23 (k := k)
    rw [hN] at c23
    simp [c19]
    refine xcall_p c23 (by simp) ?_
    simp
    simp only [names31, List.mem_cons, List.not_mem_nil, or_false] at hm
    rcases hm with rfl | rfl | rfl | rfl | rfl | rfl | rfl | rfl | rfl | rfl | rfl | rfl | rfl | rfl | rfl | rfl | rfl | rfl | rfl | rfl | rfl | rfl | rfl | rfl | rfl | rfl | rfl | rfl | rfl | rfl | rfl
    all_goals
      simp [tabL, l44, l45, l46, lkF] at hk
      obtain ⟨rfl, rfl, _⟩ := hk
      simp [cr19, eqS_lit]
end Go.Pm
