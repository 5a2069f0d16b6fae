/- BkS2: code, resolved. Printed by ShowSC.lean and genok.py. -/
import Derived.Test.YtmcogjekcefjoaaGreatDoorGa
namespace Go.Pm
open Go Go.Proofs

/-- ironbark/digit.Valid -/
def c31 : SC :=
  (.seq (.ops [⟨(some 1), .plain (.box 6), [.tmp 0], none⟩,
    ⟨(some 2), .plain .mv, [.lit (.bool false)], none⟩] [])
  (.seq (.ops [⟨(some 4), .call 48, [], none⟩,
    ⟨(some 3), .plain .mv, [.tmp 4], none⟩] [4])
  (.seq (.draw (.step ⟨(some 5), .plain (.fieldAddr 0), [.tmp 1], none⟩
    (.step ⟨(some 6), .plain (.load false 1), [.tmp 5], none⟩
    (.step ⟨(some 7), .plain .mv, [.tmp 3], none⟩
    (.step ⟨(some 8), .plain (.len 1), [.tmp 7], none⟩
    (.step ⟨(some 9), .plain (.bin .sub), [.tmp 8, .lit (.int .i64 1)], none⟩
    (.step ⟨(some 10), .call 49, [.tmp 6, .lit (.int .i64 0), .tmp 9], none⟩
    (.step ⟨(some 11), .plain .mv, [.tmp 10], none⟩
    (.step ⟨(some 12), .plain .mv, [.tmp 3], (some (11, true))⟩
    (.step ⟨(some 13), .plain (.fieldAddr 0), [.tmp 1], (some (11, true))⟩
    (.step ⟨(some 14), .plain (.load false 1), [.tmp 13], (some (11, true))⟩
    (.step ⟨(some 15), .plain (.indexAddr 1), [.tmp 12, .tmp 14], (some (11, true))⟩
    (.step ⟨(some 16), .plain (.load false 1), [.tmp 15], (some (11, true))⟩
    (.step ⟨(some 17), .plain (.load true 6), [.tmp 1], (some (11, true))⟩
    (.step ⟨(some 18), .callv, [.tmp 16, .tmp 17], (some (11, true))⟩
    (.step ⟨(some 19), .plain .pick, [.tmp 11, .tmp 18, .lit (.bool false)], none⟩
    (.step ⟨(some 2), .plain .mv, [.tmp 19], none⟩
    .done)))))))))))))))) [5, 6, 7, 8, 9, 10, 11, 12, 13, 14, 15, 16, 17, 18, 19])
  .ret)))
def cr31 : List Res := [(2, none)]
theorem ok31 : FOk Bk.pg.toProgram Bk.imp 31 c31 cr31 Tryz.f31.ntmps := ⟨Tryz.f31, _, Tryz.func31, rfl, by kernel_rfl, by kernel_rfl, by kernel_rfl, rfl⟩

/-- ironbark/digit.rules -/
def c48 : SC :=
  (.seq (.ops [⟨(some 0), .plain .mv, [.lit .nilS], none⟩] [])
  (.seq (.ops [⟨(some 1), .plain .mv, [.lit (.fn 127 [])], none⟩] [])
  (.seq (.ops [⟨(some 2), .plain .mv, [.lit (.fn 129 [])], none⟩] [])
  (.seq (.ops [⟨(some 3), .plain .mv, [.lit (.fn 130 [])], none⟩] [])
  (.seq (.ops [⟨(some 4), .plain .mv, [.lit (.fn 131 [])], none⟩] [])
  (.seq (.ops [⟨(some 5), .plain .mv, [.lit (.fn 132 [])], none⟩] [])
  (.seq (.ops [⟨(some 6), .plain .mv, [.tmp 5], none⟩,
    ⟨(some 7), .plain .mv, [.tmp 1], none⟩,
    ⟨(some 8), .callv, [.tmp 7, .lit (.int .i64 31), .lit (.int .i64 31)], none⟩,
    ⟨(some 9), .plain .mv, [.tmp 1], none⟩,
    ⟨(some 10), .callv, [.tmp 9, .lit (.int .i64 15), .lit (.int .i64 31)], none⟩,
    ⟨(some 11), .plain .mv, [.tmp 1], none⟩,
    ⟨(some 12), .callv, [.tmp 11, .lit (.int .i64 15), .lit (.int .i64 0)], none⟩,
    ⟨(some 13), .plain .mv, [.tmp 2], none⟩,
    ⟨(some 14), .plain .mv, [.tmp 2], none⟩,
    ⟨(some 15), .plain .mv, [.tmp 4], none⟩,
    ⟨(some 16), .plain .mv, [.tmp 3], none⟩,
    ⟨(some 17), .plain .mv, [.tmp 3], none⟩,
    ⟨(some 18), .plain .mv, [.tmp 3], none⟩,
    ⟨(some 19), .plain (.buildRow 64 1 10 [(.const .nilFunc)] [0, 1, 2, 3, 4, 5, 6, 7, 8, 9]), [.tmp 6, .tmp 8, .tmp 10, .tmp 12, .tmp 13, .tmp 14, .tmp 15, .tmp 16, .tmp 17, .tmp 18], none⟩,
    ⟨(some 0), .plain .mv, [.tmp 19], none⟩] [6, 7, 8, 9, 10, 11, 12, 13, 14, 15, 16, 17, 18, 19])
  .ret)))))))
def cr48 : List Res := [(0, none)]
theorem ok48 : FOk Bk.pg.toProgram Bk.imp 48 c48 cr48 Tryz.f48.ntmps := ⟨Tryz.f48, _, Tryz.func48, rfl, by kernel_rfl, by kernel_rfl, by kernel_rfl, rfl⟩

/-- ironbark/digit.rules$1 -/
def c127 : SC :=
  (.seq (.ops [⟨(some 2), .plain (.box 1), [.tmp 0], none⟩,
    ⟨(some 3), .plain (.box 1), [.tmp 1], none⟩,
    ⟨(some 4), .plain .mv, [.lit (.const .nilFunc)], none⟩] [])
  (.seq (.ops [⟨(some 5), .plain (.mkFn 128), [.tmp 2, .tmp 3], none⟩,
    ⟨(some 4), .plain .mv, [.tmp 5], none⟩] [5])
  .ret))
def cr127 : List Res := [(4, none)]
theorem ok127 : FOk Bk.pg.toProgram Bk.imp 127 c127 cr127 Tryz.f127.ntmps := ⟨Tryz.f127, _, Tryz.func127, rfl, by kernel_rfl, by kernel_rfl, by kernel_rfl, rfl⟩

/-- ironbark/digit.rules$1$1 -/
def c128 : SC :=
  (.seq (.ops [⟨(some 3), .plain (.box 6), [.tmp 0], none⟩,
    ⟨(some 4), .plain .mv, [.lit (.bool false)], none⟩] [])
  (.seq (.ops [⟨(some 5), .plain (.fieldAddr 1), [.tmp 3], none⟩,
    ⟨(some 6), .plain (.load false 1), [.tmp 5], none⟩,
    ⟨(some 7), .plain (.load false 1), [.tmp 1], none⟩,
    ⟨(some 8), .call 49, [.tmp 6, .lit (.int .i64 1), .tmp 7], none⟩,
    ⟨(some 9), .plain .mv, [.tmp 8], none⟩,
    ⟨(some 10), .plain (.fieldAddr 2), [.tmp 3], (some (9, true))⟩,
    ⟨(some 11), .plain (.load false 1), [.tmp 10], (some (9, true))⟩,
    ⟨(some 12), .plain (.load false 1), [.tmp 2], (some (9, true))⟩,
    ⟨(some 13), .call 49, [.tmp 11, .lit (.int .i64 0), .tmp 12], (some (9, true))⟩,
    ⟨(some 14), .plain .pick, [.tmp 9, .tmp 13, .lit (.bool false)], none⟩,
    ⟨(some 15), .plain .mv, [.tmp 14], none⟩,
    ⟨(some 16), .plain (.fieldAddr 3), [.tmp 3], (some (15, true))⟩,
    ⟨(some 17), .plain (.load false 1), [.tmp 16], (some (15, true))⟩,
    ⟨(some 18), .plain (.bin .eql), [.tmp 17, .lit (.int .i64 0)], (some (15, true))⟩,
    ⟨(some 19), .plain .pick, [.tmp 15, .tmp 18, .lit (.bool false)], none⟩,
    ⟨(some 20), .plain .mv, [.tmp 19], none⟩,
    ⟨(some 21), .plain (.fieldAddr 4), [.tmp 3], (some (20, true))⟩,
    ⟨(some 22), .plain (.load false 1), [.tmp 21], (some (20, true))⟩,
    ⟨(some 23), .plain (.un .not), [.tmp 22], (some (20, true))⟩,
    ⟨(some 24), .plain .pick, [.tmp 20, .tmp 23, .lit (.bool false)], none⟩,
    ⟨(some 25), .plain .mv, [.tmp 24], none⟩,
    ⟨(some 26), .plain (.fieldAddr 5), [.tmp 3], (some (25, true))⟩,
    ⟨(some 27), .plain (.load false 1), [.tmp 26], (some (25, true))⟩,
    ⟨(some 28), .plain (.bin .eql), [.tmp 27, .lit (.str ⟨#[]⟩)], (some (25, true))⟩,
    ⟨(some 29), .plain .pick, [.tmp 25, .tmp 28, .lit (.bool false)], none⟩,
    ⟨(some 4), .plain .mv, [.tmp 29], none⟩] [5, 6, 7, 8, 9, 10, 11, 12, 13, 14, 15, 16, 17, 18, 19, 20, 21, 22, 23, 24, 25, 26, 27, 28, 29])
  .ret))
def cr128 : List Res := [(4, none)]
theorem ok128 : FOk Bk.pg.toProgram Bk.imp 128 c128 cr128 Tryz.f128.ntmps := ⟨Tryz.f128, _, Tryz.func128, rfl, by kernel_rfl, by kernel_rfl, by kernel_rfl, rfl⟩

/-- ironbark/digit.rules$2 -/
def c129 : SC :=
  (.seq (.ops [⟨(some 1), .plain (.box 6), [.tmp 0], none⟩,
    ⟨(some 2), .plain .mv, [.lit (.bool false)], none⟩] [])
  (.seq (.ops [⟨(some 3), .plain (.fieldAddr 1), [.tmp 1], none⟩,
    ⟨(some 4), .plain (.load false 1), [.tmp 3], none⟩,
    ⟨(some 5), .plain (.bin .eql), [.tmp 4, .lit (.int .i64 0)], none⟩,
    ⟨(some 6), .plain .mv, [.tmp 5], none⟩,
    ⟨(some 7), .plain (.fieldAddr 2), [.tmp 1], (some (6, true))⟩,
    ⟨(some 8), .plain (.load false 1), [.tmp 7], (some (6, true))⟩,
    ⟨(some 9), .plain (.bin .eql), [.tmp 8, .lit (.int .i64 0)], (some (6, true))⟩,
    ⟨(some 10), .plain .pick, [.tmp 6, .tmp 9, .lit (.bool false)], none⟩,
    ⟨(some 11), .plain .mv, [.tmp 10], none⟩,
    ⟨(some 12), .plain (.fieldAddr 3), [.tmp 1], (some (11, true))⟩,
    ⟨(some 13), .plain (.load false 1), [.tmp 12], (some (11, true))⟩,
    ⟨(some 14), .call 49, [.tmp 13, .lit (.int .i64 0), .lit (.int .i64 250)], (some (11, true))⟩,
    ⟨(some 15), .plain .pick, [.tmp 11, .tmp 14, .lit (.bool false)], none⟩,
    ⟨(some 16), .plain .mv, [.tmp 15], none⟩,
    ⟨(some 17), .plain (.fieldAddr 5), [.tmp 1], (some (16, true))⟩,
    ⟨(some 18), .plain (.load false 1), [.tmp 17], (some (16, true))⟩,
    ⟨(some 19), .plain (.bin .eql), [.tmp 18, .lit (.str ⟨#[]⟩)], (some (16, true))⟩,
    ⟨(some 20), .plain .pick, [.tmp 16, .tmp 19, .lit (.bool false)], none⟩,
    ⟨(some 2), .plain .mv, [.tmp 20], none⟩] [3, 4, 5, 6, 7, 8, 9, 10, 11, 12, 13, 14, 15, 16, 17, 18, 19, 20])
  .ret))
def cr129 : List Res := [(2, none)]
theorem ok129 : FOk Bk.pg.toProgram Bk.imp 129 c129 cr129 Tryz.f129.ntmps := ⟨Tryz.f129, _, Tryz.func129, rfl, by kernel_rfl, by kernel_rfl, by kernel_rfl, rfl⟩

/-- ironbark/digit.rules$3 -/
def c130 : SC :=
  (.seq (.ops [⟨(some 1), .plain (.box 6), [.tmp 0], none⟩,
    ⟨(some 2), .plain .mv, [.lit (.bool false)], none⟩] [])
  (.seq (.ops [⟨(some 3), .plain (.load true 6), [.tmp 1], none⟩,
    ⟨(some 4), .plain (.fieldAddr 0), [.tmp 1], none⟩,
    ⟨(some 5), .plain (.load false 1), [.tmp 4], none⟩,
    ⟨(some 6), .plain (.build [(.int .i64 0), (.int .i64 0), (.int .i64 0), (.int .i64 0), (.bool false), (.str ⟨#[]⟩)] [(0, 1)]), [.tmp 5], none⟩,
    ⟨(some 7), .plain (.eqAgg false [.int, .int, .int, .int, .bool, .str]), [.tmp 3, .tmp 6], none⟩,
    ⟨(some 2), .plain .mv, [.tmp 7], none⟩] [3, 4, 5, 6, 7])
  .ret))
def cr130 : List Res := [(2, none)]
theorem ok130 : FOk Bk.pg.toProgram Bk.imp 130 c130 cr130 Tryz.f130.ntmps := ⟨Tryz.f130, _, Tryz.func130, rfl, by kernel_rfl, by kernel_rfl, by kernel_rfl, rfl⟩

/-- ironbark/digit.rules$4 -/
def c131 : SC :=
  (.seq (.ops [⟨(some 1), .plain (.box 6), [.tmp 0], none⟩,
    ⟨(some 2), .plain .mv, [.lit (.bool false)], none⟩] [])
  (.seq (.ops [⟨(some 3), .plain (.fieldAddr 5), [.tmp 1], none⟩,
    ⟨(some 4), .plain (.load false 1), [.tmp 3], none⟩,
    ⟨(some 5), .plain (.len 0), [.tmp 4], none⟩,
    ⟨(some 6), .call 49, [.tmp 5, .lit (.int .i64 1), .lit (.int .i64 80)], none⟩,
    ⟨(some 7), .plain .mv, [.tmp 6], none⟩,
    ⟨(some 8), .plain (.load true 6), [.tmp 1], (some (7, true))⟩,
    ⟨(some 9), .plain (.fieldAddr 0), [.tmp 1], (some (7, true))⟩,
    ⟨(some 10), .plain (.load false 1), [.tmp 9], (some (7, true))⟩,
    ⟨(some 11), .plain (.fieldAddr 5), [.tmp 1], (some (7, true))⟩,
    ⟨(some 12), .plain (.load false 1), [.tmp 11], (some (7, true))⟩,
    ⟨(some 13), .plain (.build [(.int .i64 0), (.int .i64 0), (.int .i64 0), (.int .i64 0), (.bool false), (.str ⟨#[]⟩)] [(0, 1), (5, 1)]), [.tmp 10, .tmp 12], (some (7, true))⟩,
    ⟨(some 14), .plain (.eqAgg false [.int, .int, .int, .int, .bool, .str]), [.tmp 8, .tmp 13], (some (7, true))⟩,
    ⟨(some 15), .plain .pick, [.tmp 7, .tmp 14, .lit (.bool false)], none⟩,
    ⟨(some 2), .plain .mv, [.tmp 15], none⟩] [3, 4, 5, 6, 7, 8, 9, 10, 11, 12, 13, 14, 15])
  .ret))
def cr131 : List Res := [(2, none)]
theorem ok131 : FOk Bk.pg.toProgram Bk.imp 131 c131 cr131 Tryz.f131.ntmps := ⟨Tryz.f131, _, Tryz.func131, rfl, by kernel_rfl, by kernel_rfl, by kernel_rfl, rfl⟩

/-- ironbark/digit.rules$5 -/
def c132 : SC :=
  (.seq (.ops [⟨(some 1), .plain (.box 6), [.tmp 0], none⟩,
    ⟨(some 2), .plain .mv, [.lit (.bool false)], none⟩] [1])
  (.seq (.ops [⟨(some 2), .plain .mv, [.lit (.bool false)], none⟩] [])
  .ret))
def cr132 : List Res := [(2, none)]
theorem ok132 : FOk Bk.pg.toProgram Bk.imp 132 c132 cr132 Tryz.f132.ntmps := ⟨Tryz.f132, _, Tryz.func132, rfl, by kernel_rfl, by kernel_rfl, by kernel_rfl, rfl⟩

/-- ironbark/digit.Right -/
def c51 : SC :=
  (.seq (.ops [⟨(some 1), .plain (.box 4), [.tmp 0], none⟩,
    ⟨(some 2), .plain .mv, [.lit (.bool false)], none⟩] [])
  (.seq (.seq (.ops [⟨(some 3), .plain (.fieldAddr 0), [.tmp 1], none⟩,
    ⟨(some 4), .plain (.load false 1), [.tmp 3], none⟩] [3])
  (.block 0
   (.seq (.ops [⟨(some 6), .plain (.bin .eql), [.tmp 4, .lit (.int .i64 1)], none⟩,
     ⟨(some 5), .plain .mv, [.tmp 6], none⟩] [6])
   (.cond (.tmp 5)
    (.seq (.ops [⟨(some 7), .plain (.fieldAddr 3), [.tmp 1], none⟩,
      ⟨(some 8), .plain (.load false 1), [.tmp 7], none⟩,
      ⟨(some 9), .plain (.bin .eql), [.tmp 8, .lit (.str ⟨#[]⟩)], none⟩,
      ⟨(some 10), .plain .mv, [.tmp 9], none⟩,
      ⟨(some 11), .plain (.fieldAddr 2), [.tmp 1], (some (10, true))⟩,
      ⟨(some 12), .plain (.load false 1), [.tmp 11], (some (10, true))⟩,
      ⟨(some 13), .call 49, [.tmp 12, .lit (.int .i64 0), .lit (.int .i64 31)], (some (10, true))⟩,
      ⟨(some 14), .plain .pick, [.tmp 10, .tmp 13, .lit (.bool false)], none⟩,
      ⟨(some 15), .plain .mv, [.tmp 14], none⟩,
      ⟨(some 16), .plain (.fieldAddr 1), [.tmp 1], (some (15, true))⟩,
      ⟨(some 17), .plain (.load false 1), [.tmp 16], (some (15, true))⟩,
      ⟨(some 18), .call 49, [.tmp 17, .lit (.int .i64 (-2147483647)), .lit (.int .i64 2147483647)], (some (15, true))⟩,
      ⟨(some 19), .plain .pick, [.tmp 15, .tmp 18, .lit (.bool false)], none⟩,
      ⟨(some 2), .plain .mv, [.tmp 19], none⟩] [7, 8, 9, 10, 11, 12, 13, 14, 15, 16, 17, 18, 19])
    .ret)
    (.seq (.ops [⟨(some 21), .plain (.bin .eql), [.tmp 4, .lit (.int .i64 2)], none⟩,
      ⟨(some 20), .plain .mv, [.tmp 21], none⟩] [21])
    (.cond (.tmp 20)
     (.seq (.ops [⟨(some 22), .plain (.fieldAddr 3), [.tmp 1], none⟩,
       ⟨(some 23), .plain (.load false 1), [.tmp 22], none⟩,
       ⟨(some 24), .plain (.bin .eql), [.tmp 23, .lit (.str ⟨#[]⟩)], none⟩,
       ⟨(some 25), .plain .mv, [.tmp 24], none⟩,
       ⟨(some 26), .plain (.fieldAddr 2), [.tmp 1], (some (25, true))⟩,
       ⟨(some 27), .plain (.load false 1), [.tmp 26], (some (25, true))⟩,
       ⟨(some 28), .call 49, [.tmp 27, .lit (.int .i64 0), .lit (.int .i64 31)], (some (25, true))⟩,
       ⟨(some 29), .plain .pick, [.tmp 25, .tmp 28, .lit (.bool false)], none⟩,
       ⟨(some 30), .plain .mv, [.tmp 29], none⟩,
       ⟨(some 31), .plain (.fieldAddr 1), [.tmp 1], (some (30, true))⟩,
       ⟨(some 32), .plain (.load false 1), [.tmp 31], (some (30, true))⟩,
       ⟨(some 33), .call 49, [.tmp 32, .lit (.int .i64 (-999999999999999)), .lit (.int .i64 999999999999999)], (some (30, true))⟩,
       ⟨(some 34), .plain .pick, [.tmp 30, .tmp 33, .lit (.bool false)], none⟩,
       ⟨(some 2), .plain .mv, [.tmp 34], none⟩] [22, 23, 24, 25, 26, 27, 28, 29, 30, 31, 32, 33, 34])
     .ret)
     (.seq (.ops [⟨(some 36), .plain (.bin .eql), [.tmp 4, .lit (.int .i64 3)], none⟩,
       ⟨(some 35), .plain .mv, [.tmp 36], none⟩] [36])
     (.cond (.tmp 35)
      (.seq (.seq (.ops [⟨(some 37), .plain (.fieldAddr 3), [.tmp 1], none⟩,
        ⟨(some 38), .plain (.load false 1), [.tmp 37], none⟩,
        ⟨(some 39), .plain (.bin .neq), [.tmp 38, .lit (.str ⟨#[]⟩)], none⟩,
        ⟨(some 40), .plain .mv, [.tmp 39], none⟩,
        ⟨(some 41), .plain (.fieldAddr 1), [.tmp 1], (some (40, false))⟩,
        ⟨(some 42), .plain (.load false 1), [.tmp 41], (some (40, false))⟩,
        ⟨(some 43), .call 49, [.tmp 42, .lit (.int .i64 (-999999999999999)), .lit (.int .i64 999999999999999)], (some (40, false))⟩,
        ⟨(some 44), .plain (.un .not), [.tmp 43], (some (40, false))⟩,
        ⟨(some 45), .plain .pick, [.tmp 40, .lit (.bool true), .tmp 44], none⟩,
        ⟨(some 46), .plain .mv, [.tmp 45], none⟩,
        ⟨(some 47), .plain (.fieldAddr 2), [.tmp 1], (some (46, false))⟩,
        ⟨(some 48), .plain (.load false 1), [.tmp 47], (some (46, false))⟩,
        ⟨(some 49), .call 49, [.tmp 48, .lit (.int .i64 (-1000)), .lit (.int .i64 1000)], (some (46, false))⟩,
        ⟨(some 50), .plain (.un .not), [.tmp 49], (some (46, false))⟩,
        ⟨(some 51), .plain .pick, [.tmp 46, .lit (.bool true), .tmp 50], none⟩] [37, 38, 39, 40, 41, 42, 43, 44, 45, 46, 47, 48, 49, 50])
      (.cond (.tmp 51)
       (.seq (.ops [⟨(some 2), .plain .mv, [.lit (.bool false)], none⟩] [])
       .ret)
       .skip))
      (.seq (.seq (.ops [⟨(some 52), .plain (.fieldAddr 1), [.tmp 1], none⟩,
        ⟨(some 53), .plain (.load false 1), [.tmp 52], none⟩,
        ⟨(some 54), .plain (.bin .eql), [.tmp 53, .lit (.int .i64 0)], none⟩] [52, 53])
      (.cond (.tmp 54)
       (.seq (.ops [⟨(some 55), .plain (.fieldAddr 2), [.tmp 1], none⟩,
         ⟨(some 56), .plain (.load false 1), [.tmp 55], none⟩,
         ⟨(some 57), .plain (.bin .eql), [.tmp 56, .lit (.int .i64 0)], none⟩,
         ⟨(some 2), .plain .mv, [.tmp 57], none⟩] [55, 56, 57])
       .ret)
       .skip))
      (.seq (.draw (.step ⟨(some 58), .plain (.fieldAddr 1), [.tmp 1], none⟩
        (.step ⟨(some 59), .plain (.load false 1), [.tmp 58], none⟩
        (.step ⟨(some 60), .plain (.bin .rem), [.tmp 59, .lit (.int .i64 10)], none⟩
        (.step ⟨(some 61), .plain (.bin .neq), [.tmp 60, .lit (.int .i64 0)], none⟩
        (.step ⟨(some 62), .plain .mv, [.tmp 61], none⟩
        (.step ⟨(some 63), .plain (.fieldAddr 1), [.tmp 1], (some (62, true))⟩
        (.step ⟨(some 64), .plain (.load false 1), [.tmp 63], (some (62, true))⟩
        (.step ⟨(some 65), .plain (.fieldAddr 1), [.tmp 1], (some (62, true))⟩
        (.step ⟨(some 66), .plain (.load false 1), [.tmp 65], (some (62, true))⟩
        (.step ⟨(some 67), .plain (.un .neg), [.tmp 66], (some (62, true))⟩
        (.step ⟨(some 68), .plain .max2, [.tmp 64, .tmp 67], (some (62, true))⟩
        (.step ⟨(some 69), .call 52, [.tmp 68], (some (62, true))⟩
        (.step ⟨(some 70), .plain (.len 1), [.tmp 69], (some (62, true))⟩
        (.step ⟨(some 71), .plain (.fieldAddr 2), [.tmp 1], (some (62, true))⟩
        (.step ⟨(some 72), .plain (.load false 1), [.tmp 71], (some (62, true))⟩
        (.step ⟨(some 73), .plain (.bin .add), [.tmp 70, .tmp 72], (some (62, true))⟩
        (.step ⟨(some 74), .plain (.bin .sub), [.tmp 73, .lit (.int .i64 1)], (some (62, true))⟩
        (.step ⟨(some 75), .call 49, [.tmp 74, .lit (.int .i64 (-75)), .lit (.int .i64 75)], (some (62, true))⟩
        (.step ⟨(some 76), .plain .pick, [.tmp 62, .tmp 75, .lit (.bool false)], none⟩
        (.step ⟨(some 2), .plain .mv, [.tmp 76], none⟩
        .done)))))))))))))))))))) [58, 59, 60, 61, 62, 63, 64, 65, 66, 67, 68, 69, 70, 71, 72, 73, 74, 75, 76])
      .ret)))
      (.seq (.seq (.ops [⟨(some 78), .plain (.bin .eql), [.tmp 4, .lit (.int .i64 4)], none⟩,
        ⟨(some 77), .plain .mv, [.tmp 78], none⟩] [78])
      (.cond (.tmp 77)
       .skip
       (.ops [⟨(some 79), .plain (.bin .eql), [.tmp 4, .lit (.int .i64 6)], none⟩,
         ⟨(some 77), .plain .mv, [.tmp 79], none⟩] [79])))
      (.cond (.tmp 77)
       (.seq (.ops [⟨(some 80), .plain (.fieldAddr 1), [.tmp 1], none⟩,
         ⟨(some 81), .plain (.load false 1), [.tmp 80], none⟩,
         ⟨(some 82), .plain (.bin .eql), [.tmp 81, .lit (.int .i64 0)], none⟩,
         ⟨(some 83), .plain .mv, [.tmp 82], none⟩,
         ⟨(some 84), .plain (.fieldAddr 2), [.tmp 1], (some (83, true))⟩,
         ⟨(some 85), .plain (.load false 1), [.tmp 84], (some (83, true))⟩,
         ⟨(some 86), .plain (.bin .eql), [.tmp 85, .lit (.int .i64 0)], (some (83, true))⟩,
         ⟨(some 87), .plain .pick, [.tmp 83, .tmp 86, .lit (.bool false)], none⟩,
         ⟨(some 88), .plain .mv, [.tmp 87], none⟩,
         ⟨(some 89), .plain (.fieldAddr 3), [.tmp 1], (some (88, true))⟩,
         ⟨(some 90), .plain (.load false 1), [.tmp 89], (some (88, true))⟩,
         ⟨(some 91), .plain (.len 0), [.tmp 90], (some (88, true))⟩,
         ⟨(some 92), .plain (.bin .leq), [.tmp 91, .lit (.int .i64 250)], (some (88, true))⟩,
         ⟨(some 93), .plain .pick, [.tmp 88, .tmp 92, .lit (.bool false)], none⟩,
         ⟨(some 2), .plain .mv, [.tmp 93], none⟩] [80, 81, 82, 83, 84, 85, 86, 87, 88, 89, 90, 91, 92, 93])
       .ret)
       (.seq (.ops [⟨(some 95), .plain (.bin .eql), [.tmp 4, .lit (.int .i64 5)], none⟩,
         ⟨(some 94), .plain .mv, [.tmp 95], none⟩] [95])
       (.cond (.tmp 94)
        (.seq (.ops [⟨(some 96), .plain (.fieldAddr 1), [.tmp 1], none⟩,
          ⟨(some 97), .plain (.load false 1), [.tmp 96], none⟩,
          ⟨(some 98), .plain (.bin .eql), [.tmp 97, .lit (.int .i64 0)], none⟩,
          ⟨(some 99), .plain .mv, [.tmp 98], none⟩,
          ⟨(some 100), .plain (.fieldAddr 2), [.tmp 1], (some (99, true))⟩,
          ⟨(some 101), .plain (.load false 1), [.tmp 100], (some (99, true))⟩,
          ⟨(some 102), .plain (.bin .eql), [.tmp 101, .lit (.int .i64 0)], (some (99, true))⟩,
          ⟨(some 103), .plain .pick, [.tmp 99, .tmp 102, .lit (.bool false)], none⟩,
          ⟨(some 104), .plain .mv, [.tmp 103], none⟩,
          ⟨(some 105), .plain (.fieldAddr 3), [.tmp 1], (some (104, true))⟩,
          ⟨(some 106), .plain (.load false 1), [.tmp 105], (some (104, true))⟩,
          ⟨(some 107), .plain (.len 0), [.tmp 106], (some (104, true))⟩,
          ⟨(some 108), .plain (.bin .leq), [.tmp 107, .lit (.int .i64 250)], (some (104, true))⟩,
          ⟨(some 109), .plain .pick, [.tmp 104, .tmp 108, .lit (.bool false)], none⟩,
          ⟨(some 110), .plain .mv, [.tmp 109], none⟩,
          ⟨(some 111), .plain (.fieldAddr 3), [.tmp 1], (some (110, true))⟩,
          ⟨(some 112), .plain (.load false 1), [.tmp 111], (some (110, true))⟩,
          ⟨(some 113), .call 134, [.tmp 112, .lit (.str ⟨#[48, 49]⟩)], (some (110, true))⟩,
          ⟨(some 114), .plain (.bin .eql), [.tmp 113, .lit (.str ⟨#[]⟩)], (some (110, true))⟩,
          ⟨(some 115), .plain .pick, [.tmp 110, .tmp 114, .lit (.bool false)], none⟩,
          ⟨(some 2), .plain .mv, [.tmp 115], none⟩] [96, 97, 98, 99, 100, 101, 102, 103, 104, 105, 106, 107, 108, 109, 110, 111, 112, 113, 114, 115])
        .ret)
        (.seq (.ops [⟨(some 117), .plain (.bin .eql), [.tmp 4, .lit (.int .i64 7)], none⟩,
          ⟨(some 116), .plain .mv, [.tmp 117], none⟩] [117])
        (.cond (.tmp 116)
         (.seq (.ops [⟨(some 118), .plain (.fieldAddr 3), [.tmp 1], none⟩,
           ⟨(some 119), .plain (.load false 1), [.tmp 118], none⟩,
           ⟨(some 120), .plain (.bin .eql), [.tmp 119, .lit (.str ⟨#[]⟩)], none⟩,
           ⟨(some 121), .plain .mv, [.tmp 120], none⟩,
           ⟨(some 122), .plain (.fieldAddr 2), [.tmp 1], (some (121, true))⟩,
           ⟨(some 123), .plain (.load false 1), [.tmp 122], (some (121, true))⟩,
           ⟨(some 124), .plain (.bin .eql), [.tmp 123, .lit (.int .i64 0)], (some (121, true))⟩,
           ⟨(some 125), .plain .pick, [.tmp 121, .tmp 124, .lit (.bool false)], none⟩,
           ⟨(some 126), .plain .mv, [.tmp 125], none⟩,
           ⟨(some 127), .plain (.fieldAddr 1), [.tmp 1], (some (126, true))⟩,
           ⟨(some 128), .plain (.load false 1), [.tmp 127], (some (126, true))⟩,
           ⟨(some 129), .call 49, [.tmp 128, .lit (.int .i64 0), .lit (.int .i64 1000000000)], (some (126, true))⟩,
           ⟨(some 130), .plain .pick, [.tmp 126, .tmp 129, .lit (.bool false)], none⟩,
           ⟨(some 2), .plain .mv, [.tmp 130], none⟩] [118, 119, 120, 121, 122, 123, 124, 125, 126, 127, 128, 129, 130])
         .ret)
         (.seq (.seq (.ops [⟨(some 132), .plain (.bin .eql), [.tmp 4, .lit (.int .i64 8)], none⟩,
           ⟨(some 131), .plain .mv, [.tmp 132], none⟩] [132])
         (.cond (.tmp 131)
          .skip
          (.ops [⟨(some 133), .plain (.bin .eql), [.tmp 4, .lit (.int .i64 9)], none⟩,
            ⟨(some 131), .plain .mv, [.tmp 133], none⟩] [133])))
         (.cond (.tmp 131)
          (.seq (.ops [⟨(some 134), .plain (.fieldAddr 3), [.tmp 1], none⟩,
            ⟨(some 135), .plain (.load false 1), [.tmp 134], none⟩,
            ⟨(some 136), .plain (.bin .eql), [.tmp 135, .lit (.str ⟨#[]⟩)], none⟩,
            ⟨(some 137), .plain .mv, [.tmp 136], none⟩,
            ⟨(some 138), .plain (.fieldAddr 1), [.tmp 1], (some (137, true))⟩,
            ⟨(some 139), .plain (.load false 1), [.tmp 138], (some (137, true))⟩,
            ⟨(some 140), .call 49, [.tmp 139, .lit (.int .i64 0), .lit (.int .i64 1000000000)], (some (137, true))⟩,
            ⟨(some 141), .plain .pick, [.tmp 137, .tmp 140, .lit (.bool false)], none⟩,
            ⟨(some 142), .plain .mv, [.tmp 141], none⟩,
            ⟨(some 143), .plain (.fieldAddr 2), [.tmp 1], (some (142, true))⟩,
            ⟨(some 144), .plain (.load false 1), [.tmp 143], (some (142, true))⟩,
            ⟨(some 145), .call 49, [.tmp 144, .lit (.int .i64 0), .lit (.int .i64 1000000000)], (some (142, true))⟩,
            ⟨(some 146), .plain .pick, [.tmp 142, .tmp 145, .lit (.bool false)], none⟩,
            ⟨(some 2), .plain .mv, [.tmp 146], none⟩] [134, 135, 136, 137, 138, 139, 140, 141, 142, 143, 144, 145, 146])
          .ret)
          .skip))))))))))))))))
  (.seq (.ops [⟨(some 2), .plain .mv, [.lit (.bool false)], none⟩] [])
  .ret)))
def cr51 : List Res := [(2, none)]
theorem ok51 : FOk Bk.pg.toProgram Bk.imp 51 c51 cr51 Tryz.f51.ntmps := ⟨Tryz.f51, _, Tryz.func51, rfl, by kernel_rfl, by kernel_rfl, by kernel_rfl, rfl⟩

/-- ironbark/digit.Has -/
def c33 : SC :=
  (.seq (.ops [⟨(some 2), .plain (.box 6), [.tmp 0], none⟩,
    ⟨(some 3), .plain (.box 4), [.tmp 1], none⟩,
    ⟨(some 4), .plain .mv, [.lit (.bool false)], none⟩] [])
  (.seq (.seq (.ops [⟨(some 6), .plain (.load true 6), [.tmp 2], none⟩,
    ⟨(some 7), .call 31, [.tmp 6], none⟩,
    ⟨(some 8), .plain (.un .not), [.tmp 7], none⟩,
    ⟨(some 9), .plain .mv, [.tmp 8], none⟩,
    ⟨(some 10), .plain (.load true 4), [.tmp 3], (some (9, false))⟩,
    ⟨(some 11), .call 51, [.tmp 10], (some (9, false))⟩,
    ⟨(some 12), .plain (.un .not), [.tmp 11], (some (9, false))⟩,
    ⟨(some 13), .plain .pick, [.tmp 9, .lit (.bool true), .tmp 12], none⟩,
    ⟨(some 14), .plain .mv, [.tmp 13], none⟩,
    ⟨(some 15), .plain (.fieldAddr 0), [.tmp 2], (some (14, false))⟩,
    ⟨(some 16), .plain (.load false 1), [.tmp 15], (some (14, false))⟩,
    ⟨(some 17), .plain (.fieldAddr 0), [.tmp 3], (some (14, false))⟩,
    ⟨(some 18), .plain (.load false 1), [.tmp 17], (some (14, false))⟩,
    ⟨(some 19), .plain (.bin .neq), [.tmp 16, .tmp 18], (some (14, false))⟩,
    ⟨(some 20), .plain .pick, [.tmp 14, .lit (.bool true), .tmp 19], none⟩] [6, 7, 8, 9, 10, 11, 12, 13, 14, 15, 16, 17, 18, 19])
  (.cond (.tmp 20)
   (.seq (.ops [⟨(some 4), .plain .mv, [.lit (.bool false)], none⟩] [])
   .ret)
   .skip))
  (.seq (.ops [⟨(some 21), .plain (.fieldAddr 1), [.tmp 3], none⟩,
    ⟨(some 22), .plain (.load false 1), [.tmp 21], none⟩,
    ⟨(some 23), .plain (.fieldAddr 1), [.tmp 3], none⟩,
    ⟨(some 24), .plain (.load false 1), [.tmp 23], none⟩,
    ⟨(some 25), .plain (.un .neg), [.tmp 24], none⟩,
    ⟨(some 26), .plain .max2, [.tmp 22, .tmp 25], none⟩,
    ⟨(some 5), .plain .mv, [.tmp 26], none⟩] [21, 22, 23, 24, 25, 26])
  (.seq (.seq (.ops [⟨(some 27), .plain (.fieldAddr 0), [.tmp 2], none⟩,
    ⟨(some 28), .plain (.load false 1), [.tmp 27], none⟩] [27])
  (.block 0
   (.seq (.ops [⟨(some 30), .plain (.bin .eql), [.tmp 28, .lit (.int .i64 1)], none⟩,
     ⟨(some 29), .plain .mv, [.tmp 30], none⟩] [30])
   (.cond (.tmp 29)
    (.seq (.ops [⟨(some 31), .plain (.fieldAddr 2), [.tmp 3], none⟩,
      ⟨(some 32), .plain (.load false 1), [.tmp 31], none⟩,
      ⟨(some 33), .plain (.fieldAddr 2), [.tmp 2], none⟩,
      ⟨(some 34), .plain (.load false 1), [.tmp 33], none⟩,
      ⟨(some 35), .plain (.bin .eql), [.tmp 32, .tmp 34], none⟩,
      ⟨(some 36), .plain .mv, [.tmp 35], none⟩,
      ⟨(some 37), .plain .mv, [.tmp 5], (some (36, true))⟩,
      ⟨(some 38), .plain (.fieldAddr 1), [.tmp 2], (some (36, true))⟩,
      ⟨(some 39), .plain (.load false 1), [.tmp 38], (some (36, true))⟩,
      ⟨(some 40), .plain (.bin .shl), [.lit (.int .i64 1), .tmp 39], (some (36, true))⟩,
      ⟨(some 41), .plain (.bin .lss), [.tmp 37, .tmp 40], (some (36, true))⟩,
      ⟨(some 42), .plain .pick, [.tmp 36, .tmp 41, .lit (.bool false)], none⟩,
      ⟨(some 4), .plain .mv, [.tmp 42], none⟩] [31, 32, 33, 34, 35, 36, 37, 38, 39, 40, 41, 42])
    .ret)
    (.seq (.ops [⟨(some 44), .plain (.bin .eql), [.tmp 28, .lit (.int .i64 2)], none⟩,
      ⟨(some 43), .plain .mv, [.tmp 44], none⟩] [44])
    (.cond (.tmp 43)
     (.seq (.draw (.step ⟨(some 45), .plain (.fieldAddr 2), [.tmp 3], none⟩
       (.step ⟨(some 46), .plain (.load false 1), [.tmp 45], none⟩
       (.step ⟨(some 47), .plain (.fieldAddr 2), [.tmp 2], none⟩
       (.step ⟨(some 48), .plain (.load false 1), [.tmp 47], none⟩
       (.step ⟨(some 49), .plain (.bin .eql), [.tmp 46, .tmp 48], none⟩
       (.step ⟨(some 50), .plain .mv, [.tmp 49], none⟩
       (.step ⟨(some 51), .plain .mv, [.tmp 5], (some (50, true))⟩
       (.step ⟨(some 52), .call 52, [.tmp 51], (some (50, true))⟩
       (.step ⟨(some 53), .plain (.len 1), [.tmp 52], (some (50, true))⟩
       (.step ⟨(some 54), .plain (.fieldAddr 1), [.tmp 2], (some (50, true))⟩
       (.step ⟨(some 55), .plain (.load false 1), [.tmp 54], (some (50, true))⟩
       (.step ⟨(some 56), .plain (.bin .leq), [.tmp 53, .tmp 55], (some (50, true))⟩
       (.step ⟨(some 57), .plain .pick, [.tmp 50, .tmp 56, .lit (.bool false)], none⟩
       (.step ⟨(some 4), .plain .mv, [.tmp 57], none⟩
       .done)))))))))))))) [45, 46, 47, 48, 49, 50, 51, 52, 53, 54, 55, 56, 57])
     .ret)
     (.seq (.ops [⟨(some 59), .plain (.bin .eql), [.tmp 28, .lit (.int .i64 3)], none⟩,
       ⟨(some 58), .plain .mv, [.tmp 59], none⟩] [59])
     (.cond (.tmp 58)
      (.seq (.draw (.step ⟨(some 60), .plain .mv, [.tmp 5], none⟩
        (.step ⟨(some 61), .call 52, [.tmp 60], none⟩
        (.step ⟨(some 62), .plain (.len 1), [.tmp 61], none⟩
        (.step ⟨(some 63), .plain (.fieldAddr 1), [.tmp 2], none⟩
        (.step ⟨(some 64), .plain (.load false 1), [.tmp 63], none⟩
        (.step ⟨(some 65), .plain (.bin .leq), [.tmp 62, .tmp 64], none⟩
        (.step ⟨(some 4), .plain .mv, [.tmp 65], none⟩
        .done))))))) [60, 61, 62, 63, 64, 65])
      .ret)
      (.seq (.seq (.ops [⟨(some 67), .plain (.bin .eql), [.tmp 28, .lit (.int .i64 4)], none⟩,
        ⟨(some 66), .plain .mv, [.tmp 67], none⟩] [67])
      (.cond (.tmp 66)
       .skip
       (.ops [⟨(some 68), .plain (.bin .eql), [.tmp 28, .lit (.int .i64 5)], none⟩,
         ⟨(some 66), .plain .mv, [.tmp 68], none⟩] [68])))
      (.cond (.tmp 66)
       (.seq (.ops [⟨(some 69), .plain (.fieldAddr 3), [.tmp 3], none⟩,
         ⟨(some 70), .plain (.load false 1), [.tmp 69], none⟩,
         ⟨(some 71), .plain (.len 0), [.tmp 70], none⟩,
         ⟨(some 72), .plain (.fieldAddr 3), [.tmp 2], none⟩,
         ⟨(some 73), .plain (.load false 1), [.tmp 72], none⟩,
         ⟨(some 74), .plain (.bin .eql), [.tmp 71, .tmp 73], none⟩,
         ⟨(some 75), .plain .mv, [.tmp 74], none⟩,
         ⟨(some 76), .plain (.fieldAddr 4), [.tmp 2], (some (75, false))⟩,
         ⟨(some 77), .plain (.load false 1), [.tmp 76], (some (75, false))⟩,
         ⟨(some 78), .plain .mv, [.tmp 77], (some (75, false))⟩,
         ⟨(some 79), .plain (.fieldAddr 3), [.tmp 3], (some (78, true))⟩,
         ⟨(some 80), .plain (.load false 1), [.tmp 79], (some (78, true))⟩,
         ⟨(some 81), .plain (.len 0), [.tmp 80], (some (78, true))⟩,
         ⟨(some 82), .plain (.fieldAddr 3), [.tmp 2], (some (78, true))⟩,
         ⟨(some 83), .plain (.load false 1), [.tmp 82], (some (78, true))⟩,
         ⟨(some 84), .plain (.bin .lss), [.tmp 81, .tmp 83], (some (78, true))⟩,
         ⟨(some 85), .plain .pick, [.tmp 78, .tmp 84, .lit (.bool false)], (some (75, false))⟩,
         ⟨(some 86), .plain .pick, [.tmp 75, .lit (.bool true), .tmp 85], none⟩,
         ⟨(some 4), .plain .mv, [.tmp 86], none⟩] [69, 70, 71, 72, 73, 74, 75, 76, 77, 78, 79, 80, 81, 82, 83, 84, 85, 86])
       .ret)
       .skip))))))))))
  (.seq (.ops [⟨(some 4), .plain .mv, [.lit (.bool true)], none⟩] [])
  .ret)))))
def cr33 : List Res := [(4, none)]
theorem ok33 : FOk Bk.pg.toProgram Bk.imp 33 c33 cr33 Tryz.f33.ntmps := ⟨Tryz.f33, _, Tryz.func33, rfl, by kernel_rfl, by kernel_rfl, by kernel_rfl, rfl⟩

/-- ironbark/digit.Zero -/
def c138 : SC :=
  (.seq (.ops [⟨(some 1), .plain (.box 6), [.tmp 0], none⟩,
    ⟨(some 2), .plain (.alloc [(.int .i64 0), (.int .i64 0), (.int .i64 0), (.str ⟨#[]⟩)]), [], none⟩,
    ⟨(some 3), .plain .mv, [.lit (.int .i64 0)], none⟩] [])
  (.seq (.ops [⟨(some 5), .plain (.fieldAddr 0), [.tmp 1], none⟩,
    ⟨(some 6), .plain (.load false 1), [.tmp 5], none⟩,
    ⟨(some 7), .plain (.build [(.int .i64 0), (.int .i64 0), (.int .i64 0), (.str ⟨#[]⟩)] [(0, 1)]), [.tmp 6], none⟩,
    ⟨(some 4), .plain (.alloc [(.int .i64 0), (.int .i64 0), (.int .i64 0), (.str ⟨#[]⟩)]), [], none⟩,
    ⟨none, .plain (.store 4), [.tmp 4, .tmp 7], none⟩] [5, 6, 7])
  (.seq (.block 0
   (.seq (.ops [⟨(some 9), .plain (.load true 6), [.tmp 1], none⟩,
     ⟨(some 10), .call 31, [.tmp 9], none⟩,
     ⟨(some 11), .plain (.un .not), [.tmp 10], none⟩,
     ⟨(some 8), .plain .mv, [.tmp 11], none⟩] [9, 10, 11])
   (.cond (.tmp 8)
    (.seq (.ops [⟨(some 12), .plain (.build [(.int .i64 0), (.int .i64 0), (.int .i64 0), (.str ⟨#[]⟩)] []), [], none⟩,
      ⟨none, .plain (.store 4), [.tmp 2, .tmp 12], none⟩,
      ⟨(some 3), .plain .mv, [.lit (.int .i64 13)], none⟩] [12])
    .ret)
    (.seq (.ops [⟨(some 14), .plain (.fieldAddr 0), [.tmp 1], none⟩,
      ⟨(some 15), .plain (.load false 1), [.tmp 14], none⟩,
      ⟨(some 16), .call 210, [.tmp 15], none⟩,
      ⟨(some 17), .plain (.bin .gtr), [.tmp 16, .lit (.int .i64 0)], none⟩,
      ⟨(some 13), .plain .mv, [.tmp 17], none⟩] [14, 15, 16, 17])
    (.cond (.tmp 13)
     (.ops [⟨(some 18), .plain (.fieldAddr 2), [.tmp 1], none⟩,
       ⟨(some 19), .plain (.load false 1), [.tmp 18], none⟩,
       ⟨(some 20), .plain (.fieldAddr 2), [.tmp 4], none⟩,
       ⟨none, .plain (.store 1), [.tmp 20, .tmp 19], none⟩] [18, 19, 20])
     (.seq (.ops [⟨(some 22), .plain (.fieldAddr 0), [.tmp 1], none⟩,
       ⟨(some 23), .plain (.load false 1), [.tmp 22], none⟩,
       ⟨(some 24), .plain (.bin .eql), [.tmp 23, .lit (.int .i64 3)], none⟩,
       ⟨(some 21), .plain .mv, [.tmp 24], none⟩] [22, 23, 24])
     (.cond (.tmp 21)
      .skip
      (.seq (.ops [⟨(some 26), .plain (.fieldAddr 0), [.tmp 1], none⟩,
        ⟨(some 27), .plain (.load false 1), [.tmp 26], none⟩,
        ⟨(some 28), .plain (.bin .eql), [.tmp 27, .lit (.int .i64 4)], none⟩,
        ⟨(some 29), .plain .mv, [.tmp 28], none⟩,
        ⟨(some 30), .plain (.fieldAddr 4), [.tmp 1], (some (29, true))⟩,
        ⟨(some 31), .plain (.load false 1), [.tmp 30], (some (29, true))⟩,
        ⟨(some 32), .plain (.un .not), [.tmp 31], (some (29, true))⟩,
        ⟨(some 33), .plain .pick, [.tmp 29, .tmp 32, .lit (.bool false)], none⟩,
        ⟨(some 25), .plain .mv, [.tmp 33], none⟩] [26, 27, 28, 29, 30, 31, 32, 33])
      (.cond (.tmp 25)
       (.ops [⟨(some 34), .plain (.fieldAddr 3), [.tmp 1], none⟩,
         ⟨(some 35), .plain (.load false 1), [.tmp 34], none⟩,
         ⟨(some 36), .call 136, [.lit (.str ⟨#[32]⟩), .tmp 35], none⟩,
         ⟨(some 37), .plain (.fieldAddr 3), [.tmp 4], none⟩,
         ⟨none, .plain (.store 1), [.tmp 37, .tmp 36], none⟩] [34, 35, 36, 37])
       (.seq (.ops [⟨(some 39), .plain (.fieldAddr 0), [.tmp 1], none⟩,
         ⟨(some 40), .plain (.load false 1), [.tmp 39], none⟩,
         ⟨(some 41), .plain (.bin .eql), [.tmp 40, .lit (.int .i64 5)], none⟩,
         ⟨(some 42), .plain .mv, [.tmp 41], none⟩,
         ⟨(some 43), .plain (.fieldAddr 4), [.tmp 1], (some (42, true))⟩,
         ⟨(some 44), .plain (.load false 1), [.tmp 43], (some (42, true))⟩,
         ⟨(some 45), .plain (.un .not), [.tmp 44], (some (42, true))⟩,
         ⟨(some 46), .plain .pick, [.tmp 42, .tmp 45, .lit (.bool false)], none⟩,
         ⟨(some 38), .plain .mv, [.tmp 46], none⟩] [39, 40, 41, 42, 43, 44, 45, 46])
       (.cond (.tmp 38)
        (.ops [⟨(some 47), .plain (.fieldAddr 3), [.tmp 1], none⟩,
          ⟨(some 48), .plain (.load false 1), [.tmp 47], none⟩,
          ⟨(some 49), .call 136, [.lit (.str ⟨#[48]⟩), .tmp 48], none⟩,
          ⟨(some 50), .plain (.fieldAddr 3), [.tmp 4], none⟩,
          ⟨none, .plain (.store 1), [.tmp 50, .tmp 49], none⟩] [47, 48, 49, 50])
        (.seq (.ops [⟨(some 52), .plain (.fieldAddr 0), [.tmp 1], none⟩,
          ⟨(some 53), .plain (.load false 1), [.tmp 52], none⟩,
          ⟨(some 54), .plain (.bin .neq), [.tmp 53, .lit (.int .i64 4)], none⟩,
          ⟨(some 55), .plain .mv, [.tmp 54], none⟩,
          ⟨(some 56), .plain (.fieldAddr 0), [.tmp 1], (some (55, true))⟩,
          ⟨(some 57), .plain (.load false 1), [.tmp 56], (some (55, true))⟩,
          ⟨(some 58), .plain (.bin .neq), [.tmp 57, .lit (.int .i64 5)], (some (55, true))⟩,
          ⟨(some 59), .plain .pick, [.tmp 55, .tmp 58, .lit (.bool false)], none⟩,
          ⟨(some 51), .plain .mv, [.tmp 59], none⟩] [52, 53, 54, 55, 56, 57, 58, 59])
        (.cond (.tmp 51)
         (.seq (.ops [⟨(some 60), .plain (.build [(.int .i64 0), (.int .i64 0), (.int .i64 0), (.str ⟨#[]⟩)] []), [], none⟩,
           ⟨none, .plain (.store 4), [.tmp 2, .tmp 60], none⟩,
           ⟨(some 3), .plain .mv, [.lit (.int .i64 10)], none⟩] [60])
         .ret)
         .skip)))))))))))))
  (.seq (.ops [⟨(some 61), .plain (.load true 4), [.tmp 4], none⟩,
    ⟨none, .plain (.store 4), [.tmp 2, .tmp 61], none⟩,
    ⟨(some 3), .plain .mv, [.lit (.int .i64 0)], none⟩] [61])
  .ret))))
def cr138 : List Res := [(2, some (true, 4)), (3, none)]
theorem ok138 : FOk Bk.pg.toProgram Bk.imp 138 c138 cr138 Tryz.f138.ntmps := ⟨Tryz.f138, _, Tryz.func138, rfl, by kernel_rfl, by kernel_rfl, by kernel_rfl, rfl⟩

/-- ironbark/digit.asked -/
def c160 : SC :=
  (.seq (.ops [⟨(some 4), .plain .mv, [.lit (.int .i64 0)], none⟩] [])
  (.seq (.seq (.ops [⟨(some 9), .plain .mv, [.tmp 1], none⟩,
    ⟨(some 10), .plain (.len 1), [.tmp 9], none⟩,
    ⟨(some 11), .plain .mv, [.lit (.int .i64 0)], none⟩] [])
  (.block 0
   (.loop
    (.seq (.ops [⟨(some 12), .plain (.bin .lss), [.tmp 11, .tmp 10], none⟩] [])
    (.seq (.cond (.tmp 12)
     .skip
     (.exit 0))
    (.seq (.block 1
     (.seq (.ops [⟨(some 13), .plain (.indexAddr 4), [.tmp 9, .tmp 11], none⟩,
       ⟨(some 14), .plain (.load true 4), [.tmp 13], none⟩,
       ⟨(some 6), .plain (.alloc [(.int .i64 0), (.int .i64 0), (.int .i64 0), (.str ⟨#[]⟩)]), [], none⟩,
       ⟨none, .plain (.store 4), [.tmp 6, .tmp 14], none⟩] [13, 14])
     (.seq (.ops [⟨(some 15), .plain (.load true 4), [.tmp 6], none⟩,
       ⟨(some 16), .call 51, [.tmp 15], none⟩,
       ⟨(some 17), .plain (.un .not), [.tmp 16], none⟩] [15, 16])
     (.cond (.tmp 17)
      (.seq (.ops [⟨(some 4), .plain .mv, [.lit (.int .i64 1)], none⟩] [])
      .ret)
      .skip))))
    (.ops [⟨(some 18), .plain (.bin .add), [.tmp 11, .lit (.int .i64 1)], none⟩,
      ⟨(some 11), .plain .mv, [.tmp 18], none⟩] [18])))))))
  (.seq (.seq (.ops [⟨(some 19), .plain .mv, [.tmp 0], none⟩,
    ⟨(some 20), .plain (.eqNil true true), [.tmp 19, .lit (.const (.pointer none))], none⟩,
    ⟨(some 21), .plain .mv, [.tmp 20], none⟩,
    ⟨(some 22), .plain .mv, [.tmp 0], (some (21, true))⟩,
    ⟨(some 23), .plain .nilCheck, [.tmp 22], (some (21, true))⟩,
    ⟨(some 24), .plain (.load true 6), [.tmp 23], (some (21, true))⟩,
    ⟨(some 25), .call 31, [.tmp 24], (some (21, true))⟩,
    ⟨(some 26), .plain (.un .not), [.tmp 25], (some (21, true))⟩,
    ⟨(some 27), .plain .pick, [.tmp 21, .tmp 26, .lit (.bool false)], none⟩] [19, 20, 21, 22, 23, 24, 25, 26])
  (.cond (.tmp 27)
   (.seq (.ops [⟨(some 4), .plain .mv, [.lit (.int .i64 13)], none⟩] [])
   .ret)
   .skip))
  (.seq (.seq (.ops [⟨(some 28), .plain .mv, [.tmp 1], none⟩,
    ⟨(some 29), .plain (.len 1), [.tmp 28], none⟩,
    ⟨(some 30), .plain .mv, [.lit (.int .i64 0)], none⟩] [])
  (.block 2
   (.loop
    (.seq (.ops [⟨(some 31), .plain (.bin .lss), [.tmp 30, .tmp 29], none⟩] [])
    (.seq (.cond (.tmp 31)
     .skip
     (.exit 2))
    (.seq (.block 3
     (.seq (.ops [⟨(some 32), .plain (.indexAddr 4), [.tmp 28, .tmp 30], none⟩,
       ⟨(some 33), .plain (.load true 4), [.tmp 32], none⟩,
       ⟨(some 8), .plain (.alloc [(.int .i64 0), (.int .i64 0), (.int .i64 0), (.str ⟨#[]⟩)]), [], none⟩,
       ⟨none, .plain (.store 4), [.tmp 8, .tmp 33], none⟩] [32, 33])
     (.seq (.ops [⟨(some 34), .plain (.fieldAddr 0), [.tmp 8], none⟩,
       ⟨(some 35), .plain (.load false 1), [.tmp 34], none⟩,
       ⟨(some 36), .call 242, [.tmp 35], none⟩,
       ⟨(some 37), .plain (.un .not), [.tmp 36], none⟩] [34, 35, 36])
     (.cond (.tmp 37)
      (.seq (.ops [⟨(some 4), .plain .mv, [.lit (.int .i64 10)], none⟩] [])
      .ret)
      .skip))))
    (.ops [⟨(some 38), .plain (.bin .add), [.tmp 30, .lit (.int .i64 1)], none⟩,
      ⟨(some 30), .plain .mv, [.tmp 38], none⟩] [38])))))))
  (.seq (.seq (.ops [⟨(some 39), .plain .mv, [.tmp 0], none⟩,
    ⟨(some 40), .plain (.eqNil true true), [.tmp 39, .lit (.const (.pointer none))], none⟩,
    ⟨(some 41), .plain .mv, [.tmp 40], none⟩,
    ⟨(some 42), .plain .mv, [.tmp 0], (some (41, true))⟩,
    ⟨(some 43), .plain .nilCheck, [.tmp 42], (some (41, true))⟩,
    ⟨(some 44), .plain (.fieldAddr 0), [.tmp 43], (some (41, true))⟩,
    ⟨(some 45), .plain (.load false 1), [.tmp 44], (some (41, true))⟩,
    ⟨(some 46), .call 242, [.tmp 45], (some (41, true))⟩,
    ⟨(some 47), .plain (.un .not), [.tmp 46], (some (41, true))⟩,
    ⟨(some 48), .plain .pick, [.tmp 41, .tmp 47, .lit (.bool false)], none⟩] [39, 40, 41, 42, 43, 44, 45, 46, 47])
  (.cond (.tmp 48)
   (.seq (.ops [⟨(some 4), .plain .mv, [.lit (.int .i64 10)], none⟩] [])
   .ret)
   .skip))
  (.seq (.ops [⟨(some 4), .plain .mv, [.lit (.int .i64 0)], none⟩] [])
  .ret))))))
def cr160 : List Res := [(4, none)]
theorem ok160 : FOk Bk.pg.toProgram Bk.imp 160 c160 cr160 Tryz.f160.ntmps := ⟨Tryz.f160, _, Tryz.func160, rfl, by kernel_rfl, by kernel_rfl, by kernel_rfl, rfl⟩

/-- ironbark/digit.Fit -/
def c158 : SC :=
  (.seq (.ops [⟨(some 2), .plain (.box 4), [.tmp 0], none⟩,
    ⟨(some 3), .plain (.box 6), [.tmp 1], none⟩,
    ⟨(some 4), .plain (.alloc [(.int .i64 0), (.int .i64 0), (.int .i64 0), (.str ⟨#[]⟩)]), [], none⟩,
    ⟨(some 5), .plain .mv, [.lit (.int .i64 0)], none⟩,
    ⟨(some 6), .plain .mv, [.lit (.int .i64 0)], none⟩] [])
  (.seq (.seq (.ops [⟨(some 10), .plain (.load true 4), [.tmp 2], none⟩,
    ⟨(some 11), .plain (.buildRow 24 4 1 [(.int .i64 0), (.int .i64 0), (.int .i64 0), (.str ⟨#[]⟩)] [0]), [.tmp 10], none⟩,
    ⟨(some 12), .call 160, [.tmp 3, .tmp 11], none⟩,
    ⟨(some 7), .plain .mv, [.tmp 12], none⟩] [10, 11, 12])
  (.seq (.ops [⟨(some 13), .plain .mv, [.tmp 7], none⟩,
    ⟨(some 14), .plain (.bin .neq), [.tmp 13, .lit (.int .i64 0)], none⟩] [13])
  (.cond (.tmp 14)
   (.seq (.ops [⟨(some 15), .plain (.build [(.int .i64 0), (.int .i64 0), (.int .i64 0), (.str ⟨#[]⟩)] []), [], none⟩,
     ⟨(some 16), .plain .mv, [.tmp 7], none⟩,
     ⟨none, .plain (.store 4), [.tmp 4, .tmp 15], none⟩,
     ⟨(some 5), .plain .mv, [.lit (.int .i64 0)], none⟩,
     ⟨(some 6), .plain .mv, [.tmp 16], none⟩] [15, 16])
   .ret)
   .skip)))
  (.seq (.draw (.step ⟨(some 18), .plain (.load true 4), [.tmp 2], none⟩
    (.step ⟨(some 19), .call 165, [.tmp 18], none⟩
    (.step ⟨(some 20), .plain (.load true 6), [.tmp 3], none⟩
    (.step ⟨(some 21), .call 238, [.tmp 19, .tmp 20, .lit (.int .i64 4)], none⟩
    (.step ⟨(some 17), .plain .mv, [.tmp 21], none⟩
    (.step ⟨(some 22), .plain (.extract 0), [.tmp 17], none⟩
    (.step ⟨(some 23), .plain (.extract 1), [.tmp 17], none⟩
    (.step ⟨(some 8), .plain (.alloc [(.int .i64 0), (.int .i64 0), (.int .i64 0), (.str ⟨#[]⟩)]), [], none⟩
    (.step ⟨none, .plain (.store 4), [.tmp 8, .tmp 22], none⟩
    (.step ⟨(some 9), .plain .mv, [.tmp 23], none⟩
    .done)))))))))) [18, 19, 20, 21, 17, 22, 23])
  (.seq (.ops [⟨(some 24), .plain (.load true 4), [.tmp 8], none⟩,
    ⟨(some 25), .plain .mv, [.tmp 9], none⟩,
    ⟨none, .plain (.store 4), [.tmp 4, .tmp 24], none⟩,
    ⟨(some 5), .plain .mv, [.tmp 25], none⟩,
    ⟨(some 6), .plain .mv, [.lit (.int .i64 0)], none⟩] [24, 25])
  .ret))))
def cr158 : List Res := [(4, some (true, 4)), (5, none), (6, none)]
theorem ok158 : FOk Bk.pg.toProgram Bk.imp 158 c158 cr158 Tryz.f158.ntmps := ⟨Tryz.f158, _, Tryz.func158, rfl, by kernel_rfl, by kernel_rfl, by kernel_rfl, rfl⟩

/-- ironbark/digit.Modulo -/
def c164 : SC :=
  (.seq (.ops [⟨(some 3), .plain (.box 4), [.tmp 0], none⟩,
    ⟨(some 4), .plain (.box 4), [.tmp 1], none⟩,
    ⟨(some 5), .plain (.box 6), [.tmp 2], none⟩,
    ⟨(some 6), .plain (.alloc [(.int .i64 0), (.int .i64 0), (.int .i64 0), (.str ⟨#[]⟩)]), [], none⟩,
    ⟨(some 7), .plain .mv, [.lit (.int .i64 0)], none⟩,
    ⟨(some 8), .plain .mv, [.lit (.int .i64 0)], none⟩] [])
  (.seq (.seq (.ops [⟨(some 14), .plain (.load true 4), [.tmp 3], none⟩,
    ⟨(some 15), .plain (.load true 4), [.tmp 4], none⟩,
    ⟨(some 16), .plain (.buildRow 24 4 2 [(.int .i64 0), (.int .i64 0), (.int .i64 0), (.str ⟨#[]⟩)] [0, 1]), [.tmp 14, .tmp 15], none⟩,
    ⟨(some 17), .call 160, [.tmp 5, .tmp 16], none⟩,
    ⟨(some 9), .plain .mv, [.tmp 17], none⟩] [14, 15, 16, 17])
  (.seq (.ops [⟨(some 18), .plain .mv, [.tmp 9], none⟩,
    ⟨(some 19), .plain (.bin .neq), [.tmp 18, .lit (.int .i64 0)], none⟩] [18])
  (.cond (.tmp 19)
   (.seq (.ops [⟨(some 20), .plain (.build [(.int .i64 0), (.int .i64 0), (.int .i64 0), (.str ⟨#[]⟩)] []), [], none⟩,
     ⟨(some 21), .plain .mv, [.tmp 9], none⟩,
     ⟨none, .plain (.store 4), [.tmp 6, .tmp 20], none⟩,
     ⟨(some 7), .plain .mv, [.lit (.int .i64 0)], none⟩,
     ⟨(some 8), .plain .mv, [.tmp 21], none⟩] [20, 21])
   .ret)
   .skip)))
  (.seq (.seq (.ops [⟨(some 22), .plain (.fieldAddr 1), [.tmp 4], none⟩,
    ⟨(some 23), .plain (.load false 1), [.tmp 22], none⟩,
    ⟨(some 24), .plain (.bin .eql), [.tmp 23, .lit (.int .i64 0)], none⟩] [22, 23])
  (.cond (.tmp 24)
   (.seq (.ops [⟨(some 26), .plain (.load true 6), [.tmp 5], none⟩,
     ⟨(some 27), .call 138, [.tmp 26], none⟩,
     ⟨(some 25), .plain .mv, [.tmp 27], none⟩,
     ⟨(some 28), .plain (.extract 0), [.tmp 25], none⟩,
     ⟨(some 29), .plain (.extract 1), [.tmp 25], none⟩,
     ⟨none, .plain (.store 4), [.tmp 6, .tmp 28], none⟩] [26, 27, 25, 28, 29])
   (.seq (.ops [⟨(some 30), .plain (.load true 4), [.tmp 6], none⟩,
     ⟨none, .plain (.store 4), [.tmp 6, .tmp 30], none⟩,
     ⟨(some 7), .plain .mv, [.lit (.int .i64 9)], none⟩,
     ⟨(some 8), .plain .mv, [.lit (.int .i64 0)], none⟩] [30])
   .ret))
   .skip))
  (.seq (.draw (.step ⟨(some 32), .plain (.load true 4), [.tmp 3], none⟩
    (.step ⟨(some 33), .call 165, [.tmp 32], none⟩
    (.step ⟨(some 34), .plain (.load true 4), [.tmp 4], none⟩
    (.step ⟨(some 35), .call 165, [.tmp 34], none⟩
    (.step ⟨(some 36), .call 251, [.tmp 33, .tmp 35], none⟩
    (.step ⟨(some 31), .plain .mv, [.tmp 36], none⟩
    (.step ⟨(some 37), .plain (.extract 0), [.tmp 31], none⟩
    (.step ⟨(some 38), .plain (.extract 1), [.tmp 31], none⟩
    (.or (.step ⟨(some 10), .plain (.alloc [.nilS, (.bool false), (.int .i64 0)]), [], none⟩
    (.step ⟨(some 11), .plain (.alloc [.nilS, (.bool false), (.int .i64 0)]), [], none⟩
    (.step ⟨none, .plain (.store 3), [.tmp 10, .tmp 37], none⟩
    (.step ⟨none, .plain (.store 3), [.tmp 11, .tmp 38], none⟩
    .done))))
    (.step ⟨(some 11), .plain (.alloc [.nilS, (.bool false), (.int .i64 0)]), [], none⟩
    (.step ⟨(some 10), .plain (.alloc [.nilS, (.bool false), (.int .i64 0)]), [], none⟩
    (.step ⟨none, .plain (.store 3), [.tmp 10, .tmp 37], none⟩
    (.step ⟨none, .plain (.store 3), [.tmp 11, .tmp 38], none⟩
    .done))))))))))))) [32, 33, 34, 35, 36, 31, 37, 38])
  (.seq (.draw (.step ⟨(some 39), .plain (.fieldAddr 0), [.tmp 10], none⟩
    (.step ⟨(some 40), .plain (.load false 1), [.tmp 39], none⟩
    (.step ⟨(some 41), .plain (.fieldAddr 0), [.tmp 11], none⟩
    (.step ⟨(some 42), .plain (.load false 1), [.tmp 41], none⟩
    (.step ⟨(some 43), .call 252, [.tmp 40, .tmp 42], none⟩
    (.step ⟨(some 44), .plain (.build [.nilS, (.bool false), (.int .i64 0)] [(0, 1)]), [.tmp 43], none⟩
    (.step ⟨(some 45), .plain (.fieldAddr 0), [.tmp 11], none⟩
    (.step ⟨(some 46), .plain (.load false 1), [.tmp 45], none⟩
    (.step ⟨(some 47), .plain (.build [.nilS, (.bool false), (.int .i64 0)] [(0, 1)]), [.tmp 46], none⟩
    (.step ⟨(some 48), .call 169, [.tmp 44, .tmp 47], none⟩
    (.step ⟨(some 12), .plain (.alloc [.nilS, (.bool false), (.int .i64 0)]), [], none⟩
    (.step ⟨none, .plain (.store 3), [.tmp 12, .tmp 48], none⟩
    .done)))))))))))) [39, 40, 41, 42, 43, 44, 45, 46, 47, 48])
  (.seq (.draw (.step ⟨(some 49), .plain (.fieldAddr 0), [.tmp 10], none⟩
    (.step ⟨(some 50), .plain (.load false 1), [.tmp 49], none⟩
    (.step ⟨(some 51), .plain (.fieldAddr 0), [.tmp 12], none⟩
    (.step ⟨(some 52), .plain (.load false 1), [.tmp 51], none⟩
    (.step ⟨(some 53), .call 253, [.tmp 50, .tmp 52], none⟩
    (.step ⟨(some 54), .plain (.fieldAddr 2), [.tmp 10], none⟩
    (.step ⟨(some 55), .plain (.load false 1), [.tmp 54], none⟩
    (.step ⟨(some 56), .plain (.build [.nilS, (.bool false), (.int .i64 0)] [(0, 1), (2, 1)]), [.tmp 53, .tmp 55], none⟩
    (.step ⟨(some 13), .plain (.alloc [.nilS, (.bool false), (.int .i64 0)]), [], none⟩
    (.step ⟨none, .plain (.store 3), [.tmp 13, .tmp 56], none⟩
    .done)))))))))) [49, 50, 51, 52, 53, 54, 55, 56])
  (.seq (.seq (.ops [⟨(some 57), .plain (.fieldAddr 0), [.tmp 13], none⟩,
    ⟨(some 58), .plain (.load false 1), [.tmp 57], none⟩,
    ⟨(some 59), .plain (.len 1), [.tmp 58], none⟩,
    ⟨(some 60), .plain (.bin .gtr), [.tmp 59, .lit (.int .i64 0)], none⟩,
    ⟨(some 61), .plain .mv, [.tmp 60], none⟩,
    ⟨(some 62), .plain (.fieldAddr 1), [.tmp 10], (some (61, true))⟩,
    ⟨(some 63), .plain (.load false 1), [.tmp 62], (some (61, true))⟩,
    ⟨(some 64), .plain (.fieldAddr 1), [.tmp 11], (some (61, true))⟩,
    ⟨(some 65), .plain (.load false 1), [.tmp 64], (some (61, true))⟩,
    ⟨(some 66), .plain (.eqBool true), [.tmp 63, .tmp 65], (some (61, true))⟩,
    ⟨(some 67), .plain .pick, [.tmp 61, .tmp 66, .lit (.bool false)], none⟩] [57, 58, 59, 60, 61, 62, 63, 64, 65, 66])
  (.cond (.tmp 67)
   (.ops [⟨(some 68), .plain (.fieldAddr 0), [.tmp 11], none⟩,
     ⟨(some 69), .plain (.load false 1), [.tmp 68], none⟩,
     ⟨(some 70), .plain (.fieldAddr 0), [.tmp 13], none⟩,
     ⟨(some 71), .plain (.load false 1), [.tmp 70], none⟩,
     ⟨(some 72), .call 253, [.tmp 69, .tmp 71], none⟩,
     ⟨(some 73), .plain (.fieldAddr 0), [.tmp 13], none⟩,
     ⟨none, .plain (.store 1), [.tmp 73, .tmp 72], none⟩] [68, 69, 70, 71, 72, 73])
   .skip))
  (.seq (.ops [⟨(some 74), .plain (.fieldAddr 1), [.tmp 11], none⟩,
    ⟨(some 75), .plain (.load false 1), [.tmp 74], none⟩,
    ⟨(some 76), .plain (.fieldAddr 1), [.tmp 13], none⟩,
    ⟨none, .plain (.store 1), [.tmp 76, .tmp 75], none⟩] [74, 75, 76])
  (.seq (.ops [⟨(some 78), .plain (.load true 3), [.tmp 13], none⟩,
    ⟨(some 79), .plain (.load true 6), [.tmp 5], none⟩,
    ⟨(some 80), .call 238, [.tmp 78, .tmp 79, .lit (.int .i64 4)], none⟩,
    ⟨(some 77), .plain .mv, [.tmp 80], none⟩,
    ⟨(some 81), .plain (.extract 0), [.tmp 77], none⟩,
    ⟨(some 82), .plain (.extract 1), [.tmp 77], none⟩,
    ⟨none, .plain (.store 4), [.tmp 6, .tmp 81], none⟩,
    ⟨(some 7), .plain .mv, [.tmp 82], none⟩] [78, 79, 80, 77, 81, 82])
  (.seq (.ops [⟨(some 83), .plain (.load true 4), [.tmp 6], none⟩,
    ⟨(some 84), .plain .mv, [.tmp 7], none⟩,
    ⟨none, .plain (.store 4), [.tmp 6, .tmp 83], none⟩,
    ⟨(some 7), .plain .mv, [.tmp 84], none⟩,
    ⟨(some 8), .plain .mv, [.lit (.int .i64 0)], none⟩] [83, 84])
  .ret))))))))))
def cr164 : List Res := [(6, some (true, 4)), (7, none), (8, none)]
theorem ok164 : FOk Bk.pg.toProgram Bk.imp 164 c164 cr164 Tryz.f164.ntmps := ⟨Tryz.f164, _, Tryz.func164, rfl, by kernel_rfl, by kernel_rfl, by kernel_rfl, rfl⟩

/-- ironbark/digit.base -/
def c210 : SC :=
  (.seq (.ops [⟨(some 2), .plain .mv, [.lit (.int .i64 0)], none⟩] [])
  (.seq (.seq (.ops [⟨(some 3), .plain .mv, [.tmp 0], none⟩] [])
  (.block 0
   (.seq (.ops [⟨(some 5), .plain (.bin .eql), [.tmp 3, .lit (.int .i64 1)], none⟩,
     ⟨(some 4), .plain .mv, [.tmp 5], none⟩] [5])
   (.cond (.tmp 4)
    (.seq (.ops [⟨(some 2), .plain .mv, [.lit (.int .i64 2)], none⟩] [])
    .ret)
    (.seq (.ops [⟨(some 7), .plain (.bin .eql), [.tmp 3, .lit (.int .i64 2)], none⟩,
      ⟨(some 6), .plain .mv, [.tmp 7], none⟩] [7])
    (.cond (.tmp 6)
     (.seq (.ops [⟨(some 2), .plain .mv, [.lit (.int .i64 10)], none⟩] [])
     .ret)
     .skip))))))
  (.seq (.ops [⟨(some 2), .plain .mv, [.lit (.int .i64 0)], none⟩] [])
  .ret)))
def cr210 : List Res := [(2, none)]
theorem ok210 : FOk Bk.pg.toProgram Bk.imp 210 c210 cr210 Tryz.f210.ntmps := ⟨Tryz.f210, _, Tryz.func210, rfl, by kernel_rfl, by kernel_rfl, by kernel_rfl, rfl⟩

end Go.Pm
