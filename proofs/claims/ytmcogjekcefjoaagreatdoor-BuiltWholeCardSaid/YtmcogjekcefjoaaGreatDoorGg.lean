/- BkS3: code, resolved. Printed by ShowSC.lean and genok.py. -/
import Derived.Test.YtmcogjekcefjoaaGreatDoorGa
import Derived.Test.YtmcogjekcefjoaaGreatDoorGf
import Derived.Test.YtmcogjekcefjoaaGreatDoorPmT
namespace Go.Pm
open Go Go.Proofs

/-- ironbark/conv.Convert -/
def c137 : SC :=
  (.seq (.ops [⟨(some 3), .plain (.box 4), [.tmp 0], none⟩,
    ⟨(some 4), .plain (.box 6), [.tmp 1], none⟩,
    ⟨(some 5), .plain (.box 6), [.tmp 2], none⟩,
    ⟨(some 6), .plain (.alloc [(.int .i64 0), (.int .i64 0), (.int .i64 0), (.str ⟨#[]⟩)]), [], none⟩,
    ⟨(some 7), .plain (.alloc [(.int .i64 0), (.str ⟨#[]⟩), (.int .i64 0), (.str ⟨#[]⟩), (.int .i64 0)]), [], none⟩,
    ⟨(some 8), .plain .mv, [.lit (.int .i64 0)], none⟩] [])
  (.seq (.seq (.ops [⟨(some 12), .plain (.load true 4), [.tmp 3], none⟩,
    ⟨(some 13), .plain (.load true 6), [.tmp 4], none⟩,
    ⟨(some 14), .plain (.load true 6), [.tmp 5], none⟩,
    ⟨(some 15), .plain (.buildRow 32 6 1 [(.int .i64 0), (.int .i64 0), (.int .i64 0), (.int .i64 0), (.bool false), (.str ⟨#[]⟩)] [0]), [.tmp 14], none⟩,
    ⟨(some 16), .call 207, [.tmp 12, .tmp 13, .tmp 15], none⟩,
    ⟨(some 9), .plain .mv, [.tmp 16], none⟩] [12, 13, 14, 15, 16])
  (.seq (.ops [⟨(some 17), .plain .mv, [.tmp 9], none⟩,
    ⟨(some 18), .plain (.bin .neq), [.tmp 17, .lit (.int .i64 0)], none⟩] [17])
  (.cond (.tmp 18)
   (.seq (.ops [⟨(some 19), .plain (.build [(.int .i64 0), (.int .i64 0), (.int .i64 0), (.str ⟨#[]⟩)] []), [], none⟩,
     ⟨(some 20), .plain (.build [(.int .i64 0), (.str ⟨#[]⟩), (.int .i64 0), (.str ⟨#[]⟩), (.int .i64 0)] []), [], none⟩,
     ⟨(some 21), .plain .mv, [.tmp 9], none⟩,
     ⟨none, .plain (.store 4), [.tmp 6, .tmp 19], none⟩,
     ⟨none, .plain (.store 5), [.tmp 7, .tmp 20], none⟩,
     ⟨(some 8), .plain .mv, [.tmp 21], none⟩] [19, 20, 21])
   .ret)
   .skip)))
  (.seq (.draw (.step ⟨(some 23), .call 208, [], none⟩
    (.step ⟨(some 24), .plain (.fieldAddr 0), [.tmp 4], none⟩
    (.step ⟨(some 25), .plain (.load false 1), [.tmp 24], none⟩
    (.step ⟨(some 26), .call 209, [.tmp 25], none⟩
    (.step ⟨(some 27), .plain (.indexAgg 3 3 true), [.tmp 23, .tmp 26], none⟩
    (.step ⟨(some 28), .plain (.fieldAddr 0), [.tmp 5], none⟩
    (.step ⟨(some 29), .plain (.load false 1), [.tmp 28], none⟩
    (.step ⟨(some 30), .call 209, [.tmp 29], none⟩
    (.step ⟨(some 31), .plain (.indexAgg 3 1 false), [.tmp 27, .tmp 30], none⟩
    (.step ⟨(some 32), .plain (.load true 4), [.tmp 3], none⟩
    (.step ⟨(some 33), .plain (.load true 6), [.tmp 4], none⟩
    (.step ⟨(some 34), .plain (.load true 6), [.tmp 5], none⟩
    (.step ⟨(some 35), .callv, [.tmp 31, .tmp 32, .tmp 33, .tmp 34], none⟩
    (.step ⟨(some 22), .plain .mv, [.tmp 35], none⟩
    (.step ⟨(some 36), .plain (.extract 0), [.tmp 22], none⟩
    (.step ⟨(some 37), .plain (.extract 1), [.tmp 22], none⟩
    (.or (.step ⟨(some 10), .plain (.alloc [(.int .i64 0), (.int .i64 0), (.int .i64 0), (.str ⟨#[]⟩)]), [], none⟩
    (.step ⟨(some 11), .plain (.alloc [(.int .i64 0), (.str ⟨#[]⟩), (.int .i64 0), (.str ⟨#[]⟩), (.int .i64 0)]), [], none⟩
    (.step ⟨none, .plain (.store 4), [.tmp 10, .tmp 36], none⟩
    (.step ⟨none, .plain (.store 5), [.tmp 11, .tmp 37], none⟩
    .done))))
    (.step ⟨(some 11), .plain (.alloc [(.int .i64 0), (.str ⟨#[]⟩), (.int .i64 0), (.str ⟨#[]⟩), (.int .i64 0)]), [], none⟩
    (.step ⟨(some 10), .plain (.alloc [(.int .i64 0), (.int .i64 0), (.int .i64 0), (.str ⟨#[]⟩)]), [], none⟩
    (.step ⟨none, .plain (.store 4), [.tmp 10, .tmp 36], none⟩
    (.step ⟨none, .plain (.store 5), [.tmp 11, .tmp 37], none⟩
    .done))))))))))))))))))))) [23, 24, 25, 26, 27, 28, 29, 30, 31, 32, 33, 34, 35, 22, 36, 37])
  (.seq (.draw (.step ⟨(some 38), .plain (.load true 4), [.tmp 10], none⟩
    (.or (.step ⟨(some 39), .plain (.load true 5), [.tmp 11], none⟩
    (.step ⟨none, .plain (.store 4), [.tmp 6, .tmp 38], none⟩
    (.step ⟨none, .plain (.store 5), [.tmp 7, .tmp 39], none⟩
    (.step ⟨(some 8), .plain .mv, [.lit (.int .i64 0)], none⟩
    .done))))
    (.step ⟨none, .plain (.store 4), [.tmp 6, .tmp 38], none⟩
    (.step ⟨(some 39), .plain (.load true 5), [.tmp 11], none⟩
    (.step ⟨none, .plain (.store 5), [.tmp 7, .tmp 39], none⟩
    (.step ⟨(some 8), .plain .mv, [.lit (.int .i64 0)], none⟩
    .done)))))) [38, 39])
  .ret))))
def cr137 : List Res := [(6, some (true, 4)), (7, some (true, 5)), (8, none)]
theorem ok137 : FOk Bk.pg.toProgram Bk.imp 137 c137 cr137 Tryz.f137.ntmps := ⟨Tryz.f137, _, Tryz.func137, rfl, by kernel_rfl, by kernel_rfl, by kernel_rfl, rfl⟩

/-- ironbark/conv.ways -/
def c208 : SC :=
  (.seq (.ops [⟨(some 0), .plain (.alloc [(.const .nilFunc), (.const .nilFunc), (.const .nilFunc), (.const .nilFunc), (.const .nilFunc), (.const .nilFunc), (.const .nilFunc), (.const .nilFunc), (.const .nilFunc)]), [], none⟩] [])
  (.seq (.ops [⟨(some 1), .plain (.alloc [(.const .nilFunc)]), [], none⟩,
    ⟨none, .plain (.store 1), [.tmp 1, .lit (.fn 285 [])], none⟩] [])
  (.seq (.ops [⟨(some 2), .plain (.alloc [(.const .nilFunc)]), [], none⟩,
    ⟨none, .plain (.store 1), [.tmp 2, .lit (.fn 287 [])], none⟩] [])
  (.seq (.ops [⟨(some 3), .plain (.load false 1), [.tmp 1], none⟩,
    ⟨(some 4), .plain (.mkFn 288), [.tmp 2], none⟩,
    ⟨(some 5), .plain (.mkFn 291), [.tmp 2], none⟩,
    ⟨(some 6), .plain (.build [(.const .nilFunc), (.const .nilFunc), (.const .nilFunc)] [(0, 1), (1, 1), (2, 1)]), [.tmp 3, .tmp 4, .tmp 5], none⟩,
    ⟨(some 7), .plain (.mkFn 293), [.tmp 1], none⟩,
    ⟨(some 8), .plain (.load false 1), [.tmp 2], none⟩,
    ⟨(some 9), .plain (.mkFn 296), [.tmp 2], none⟩,
    ⟨(some 10), .plain (.build [(.const .nilFunc), (.const .nilFunc), (.const .nilFunc)] [(0, 1), (1, 1), (2, 1)]), [.tmp 7, .tmp 8, .tmp 9], none⟩,
    ⟨(some 11), .plain (.mkFn 297), [.tmp 1], none⟩,
    ⟨(some 12), .plain (.load false 1), [.tmp 2], none⟩,
    ⟨(some 13), .plain (.load false 1), [.tmp 2], none⟩,
    ⟨(some 14), .plain (.build [(.const .nilFunc), (.const .nilFunc), (.const .nilFunc)] [(0, 1), (1, 1), (2, 1)]), [.tmp 11, .tmp 12, .tmp 13], none⟩,
    ⟨(some 15), .plain (.build [(.const .nilFunc), (.const .nilFunc), (.const .nilFunc), (.const .nilFunc), (.const .nilFunc), (.const .nilFunc), (.const .nilFunc), (.const .nilFunc), (.const .nilFunc)] [(0, 3), (3, 3), (6, 3)]), [.tmp 6, .tmp 10, .tmp 14], none⟩,
    ⟨none, .plain (.store 9), [.tmp 0, .tmp 15], none⟩] [3, 4, 5, 6, 7, 8, 9, 10, 11, 12, 13, 14, 15])
  .ret))))
def cr208 : List Res := [(0, some (true, 9))]
theorem ok208 : FOk Bk.pg.toProgram Bk.imp 208 c208 cr208 Tryz.f208.ntmps := ⟨Tryz.f208, _, Tryz.func208, rfl, by kernel_rfl, by kernel_rfl, by kernel_rfl, rfl⟩

/-- ironbark/conv.asked -/
def c207 : SC :=
  (.seq (.ops [⟨(some 3), .plain (.box 4), [.tmp 0], none⟩,
    ⟨(some 4), .plain (.box 6), [.tmp 1], none⟩,
    ⟨(some 6), .plain .mv, [.lit (.int .i64 0)], none⟩] [])
  (.seq (.block 0
   (.seq (.ops [⟨(some 10), .plain (.load true 4), [.tmp 3], none⟩,
     ⟨(some 11), .call 51, [.tmp 10], none⟩,
     ⟨(some 12), .plain (.un .not), [.tmp 11], none⟩,
     ⟨(some 9), .plain .mv, [.tmp 12], none⟩] [10, 11, 12])
   (.cond (.tmp 9)
    (.seq (.ops [⟨(some 6), .plain .mv, [.lit (.int .i64 1)], none⟩] [])
    .ret)
    (.seq (.ops [⟨(some 14), .plain (.fieldAddr 0), [.tmp 3], none⟩,
      ⟨(some 15), .plain (.load false 1), [.tmp 14], none⟩,
      ⟨(some 16), .plain (.bin .eql), [.tmp 15, .lit (.int .i64 4)], none⟩,
      ⟨(some 17), .plain .mv, [.tmp 16], none⟩,
      ⟨(some 18), .plain (.fieldAddr 0), [.tmp 3], (some (17, false))⟩,
      ⟨(some 19), .plain (.load false 1), [.tmp 18], (some (17, false))⟩,
      ⟨(some 20), .plain (.bin .eql), [.tmp 19, .lit (.int .i64 5)], (some (17, false))⟩,
      ⟨(some 21), .plain .pick, [.tmp 17, .lit (.bool true), .tmp 20], none⟩,
      ⟨(some 22), .plain .mv, [.tmp 21], none⟩,
      ⟨(some 23), .plain (.load true 4), [.tmp 3], (some (22, true))⟩,
      ⟨(some 24), .call 284, [.tmp 23], (some (22, true))⟩,
      ⟨(some 25), .plain (.un .not), [.tmp 24], (some (22, true))⟩,
      ⟨(some 26), .plain .pick, [.tmp 22, .tmp 25, .lit (.bool false)], none⟩,
      ⟨(some 13), .plain .mv, [.tmp 26], none⟩] [14, 15, 16, 17, 18, 19, 20, 21, 22, 23, 24, 25, 26])
    (.cond (.tmp 13)
     (.seq (.ops [⟨(some 6), .plain .mv, [.lit (.int .i64 1)], none⟩] [])
     .ret)
     (.seq (.ops [⟨(some 28), .plain (.load true 6), [.tmp 4], none⟩,
       ⟨(some 29), .call 31, [.tmp 28], none⟩,
       ⟨(some 30), .plain (.un .not), [.tmp 29], none⟩,
       ⟨(some 31), .plain .mv, [.tmp 30], none⟩,
       ⟨(some 32), .plain (.load true 6), [.tmp 4], (some (31, false))⟩,
       ⟨(some 33), .plain (.load true 4), [.tmp 3], (some (31, false))⟩,
       ⟨(some 34), .call 33, [.tmp 32, .tmp 33], (some (31, false))⟩,
       ⟨(some 35), .plain (.un .not), [.tmp 34], (some (31, false))⟩,
       ⟨(some 36), .plain .pick, [.tmp 31, .lit (.bool true), .tmp 35], none⟩,
       ⟨(some 27), .plain .mv, [.tmp 36], none⟩] [28, 29, 30, 31, 32, 33, 34, 35, 36])
     (.cond (.tmp 27)
      (.seq (.ops [⟨(some 6), .plain .mv, [.lit (.int .i64 13)], none⟩] [])
      .ret)
      .skip)))))))
  (.seq (.seq (.ops [⟨(some 37), .plain .mv, [.tmp 2], none⟩,
    ⟨(some 38), .plain (.len 1), [.tmp 37], none⟩,
    ⟨(some 39), .plain .mv, [.lit (.int .i64 0)], none⟩] [])
  (.block 1
   (.loop
    (.seq (.ops [⟨(some 40), .plain (.bin .lss), [.tmp 39, .tmp 38], none⟩] [])
    (.seq (.cond (.tmp 40)
     .skip
     (.exit 1))
    (.seq (.block 2
     (.seq (.ops [⟨(some 41), .plain (.indexAddr 6), [.tmp 37, .tmp 39], none⟩,
       ⟨(some 42), .plain (.load true 6), [.tmp 41], none⟩,
       ⟨(some 8), .plain (.alloc [(.int .i64 0), (.int .i64 0), (.int .i64 0), (.int .i64 0), (.bool false), (.str ⟨#[]⟩)]), [], none⟩,
       ⟨none, .plain (.store 6), [.tmp 8, .tmp 42], none⟩] [41, 42])
     (.seq (.ops [⟨(some 43), .plain (.load true 6), [.tmp 8], none⟩,
       ⟨(some 44), .call 31, [.tmp 43], none⟩,
       ⟨(some 45), .plain (.un .not), [.tmp 44], none⟩] [43, 44])
     (.cond (.tmp 45)
      (.seq (.ops [⟨(some 6), .plain .mv, [.lit (.int .i64 13)], none⟩] [])
      .ret)
      .skip))))
    (.ops [⟨(some 46), .plain (.bin .add), [.tmp 39, .lit (.int .i64 1)], none⟩,
      ⟨(some 39), .plain .mv, [.tmp 46], none⟩] [46])))))))
  (.seq (.seq (.ops [⟨(some 47), .plain .mv, [.tmp 2], none⟩,
    ⟨(some 48), .plain (.load true 6), [.tmp 4], none⟩,
    ⟨(some 49), .plain (.buildRow 32 6 1 [(.int .i64 0), (.int .i64 0), (.int .i64 0), (.int .i64 0), (.bool false), (.str ⟨#[]⟩)] [0]), [.tmp 48], none⟩,
    ⟨(some 50), .plain (.append 32 6 56), [.tmp 47, .tmp 49], none⟩,
    ⟨(some 51), .call 264, [.tmp 50], none⟩,
    ⟨(some 52), .plain (.un .not), [.tmp 51], none⟩] [47, 48, 49, 50, 51])
  (.cond (.tmp 52)
   (.seq (.ops [⟨(some 6), .plain .mv, [.lit (.int .i64 10)], none⟩] [])
   .ret)
   .skip))
  (.seq (.ops [⟨(some 6), .plain .mv, [.lit (.int .i64 0)], none⟩] [])
  .ret)))))
def cr207 : List Res := [(6, none)]
theorem ok207 : FOk Bk.pg.toProgram Bk.imp 207 c207 cr207 Tryz.f207.ntmps := ⟨Tryz.f207, _, Tryz.func207, rfl, by kernel_rfl, by kernel_rfl, by kernel_rfl, rfl⟩

/-- ironbark/conv.group -/
def c209 : SC :=
  (.seq (.ops [⟨(some 2), .plain .mv, [.lit (.int .i64 0)], none⟩] [])
  (.seq (.seq (.ops [⟨(some 3), .plain .mv, [.tmp 0], none⟩] [])
  (.block 0
   (.seq (.ops [⟨(some 5), .plain (.bin .eql), [.tmp 3, .lit (.int .i64 4)], none⟩,
     ⟨(some 4), .plain .mv, [.tmp 5], none⟩] [5])
   (.cond (.tmp 4)
    (.seq (.ops [⟨(some 2), .plain .mv, [.lit (.int .i64 1)], none⟩] [])
    .ret)
    (.seq (.ops [⟨(some 7), .plain (.bin .eql), [.tmp 3, .lit (.int .i64 5)], none⟩,
      ⟨(some 6), .plain .mv, [.tmp 7], none⟩] [7])
    (.cond (.tmp 6)
     (.seq (.ops [⟨(some 2), .plain .mv, [.lit (.int .i64 2)], none⟩] [])
     .ret)
     .skip))))))
  (.seq (.ops [⟨(some 2), .plain .mv, [.lit (.int .i64 0)], none⟩] [])
  .ret)))
def cr209 : List Res := [(2, none)]
theorem ok209 : FOk Bk.pg.toProgram Bk.imp 209 c209 cr209 Tryz.f209.ntmps := ⟨Tryz.f209, _, Tryz.func209, rfl, by kernel_rfl, by kernel_rfl, by kernel_rfl, rfl⟩

/-- ironbark/conv.ways$1 -/
def c285 : SC :=
  (.seq (.ops [⟨(some 3), .plain (.box 4), [.tmp 0], none⟩,
    ⟨(some 4), .plain (.box 6), [.tmp 1], none⟩,
    ⟨(some 5), .plain (.box 6), [.tmp 2], none⟩,
    ⟨(some 6), .plain (.alloc [(.int .i64 0), (.int .i64 0), (.int .i64 0), (.str ⟨#[]⟩)]), [], none⟩,
    ⟨(some 7), .plain (.alloc [(.int .i64 0), (.str ⟨#[]⟩), (.int .i64 0), (.str ⟨#[]⟩), (.int .i64 0)]), [], none⟩] [4])
  (.seq (.ops [⟨(some 12), .plain (.load true 4), [.tmp 3], none⟩,
    ⟨(some 13), .plain (.load true 6), [.tmp 5], none⟩,
    ⟨(some 14), .call 158, [.tmp 12, .tmp 13], none⟩,
    ⟨(some 11), .plain .mv, [.tmp 14], none⟩,
    ⟨(some 15), .plain (.extract 0), [.tmp 11], none⟩,
    ⟨(some 16), .plain (.extract 1), [.tmp 11], none⟩,
    ⟨(some 17), .plain (.extract 2), [.tmp 11], none⟩,
    ⟨(some 8), .plain (.alloc [(.int .i64 0), (.int .i64 0), (.int .i64 0), (.str ⟨#[]⟩)]), [], none⟩,
    ⟨none, .plain (.store 4), [.tmp 8, .tmp 15], none⟩,
    ⟨(some 9), .plain .mv, [.tmp 16], none⟩,
    ⟨(some 10), .plain .mv, [.tmp 17], none⟩] [12, 13, 14, 11, 15, 16, 17, 10])
  (.seq (.draw (.step ⟨(some 18), .plain (.load true 4), [.tmp 8], none⟩
    (.step ⟨(some 19), .plain .mv, [.tmp 9], none⟩
    (.step ⟨(some 20), .call 286, [.tmp 19], none⟩
    (.step ⟨none, .plain (.store 4), [.tmp 6, .tmp 18], none⟩
    (.step ⟨none, .plain (.store 5), [.tmp 7, .tmp 20], none⟩
    .done))))) [18, 19, 20])
  .ret)))
def cr285 : List Res := [(6, some (true, 4)), (7, some (true, 5))]
theorem ok285 : FOk Bk.pg.toProgram Bk.imp 285 c285 cr285 Tryz.f285.ntmps := ⟨Tryz.f285, _, Tryz.func285, rfl, by kernel_rfl, by kernel_rfl, by kernel_rfl, rfl⟩

/-- ironbark/conv.raised -/
def c286 : SC :=
  (.seq (.ops [⟨(some 2), .plain (.alloc [(.int .i64 0), (.str ⟨#[]⟩), (.int .i64 0), (.str ⟨#[]⟩), (.int .i64 0)]), [], none⟩] [])
  (.seq (.ops [⟨(some 3), .plain .mv, [.tmp 0], none⟩,
    ⟨(some 4), .plain (.build [(.int .i64 0), (.str ⟨#[]⟩), (.int .i64 0), (.str ⟨#[]⟩), (.int .i64 0)] [(0, 1)]), [.tmp 3], none⟩,
    ⟨none, .plain (.store 5), [.tmp 2, .tmp 4], none⟩] [3, 4])
  .ret))
def cr286 : List Res := [(2, some (true, 5))]
theorem ok286 : FOk Bk.pg.toProgram Bk.imp 286 c286 cr286 Tryz.f286.ntmps := ⟨Tryz.f286, _, Tryz.func286, rfl, by kernel_rfl, by kernel_rfl, by kernel_rfl, rfl⟩

/-- ironbark/conv.known -/
def c264 : SC :=
  (.seq (.ops [⟨(some 2), .plain .mv, [.lit (.bool false)], none⟩] [])
  (.seq (.seq (.ops [⟨(some 5), .plain .mv, [.tmp 0], none⟩,
    ⟨(some 6), .plain (.len 1), [.tmp 5], none⟩,
    ⟨(some 7), .plain .mv, [.lit (.int .i64 0)], none⟩] [])
  (.block 0
   (.loop
    (.seq (.ops [⟨(some 8), .plain (.bin .lss), [.tmp 7, .tmp 6], none⟩] [])
    (.seq (.cond (.tmp 8)
     .skip
     (.exit 0))
    (.seq (.block 1
     (.seq (.ops [⟨(some 9), .plain (.indexAddr 6), [.tmp 5, .tmp 7], none⟩,
       ⟨(some 10), .plain (.load true 6), [.tmp 9], none⟩,
       ⟨(some 4), .plain (.alloc [(.int .i64 0), (.int .i64 0), (.int .i64 0), (.int .i64 0), (.bool false), (.str ⟨#[]⟩)]), [], none⟩,
       ⟨none, .plain (.store 6), [.tmp 4, .tmp 10], none⟩] [9, 10])
     (.seq (.ops [⟨(some 11), .plain (.fieldAddr 0), [.tmp 4], none⟩,
       ⟨(some 12), .plain (.load false 1), [.tmp 11], none⟩,
       ⟨(some 13), .plain (.bin .lss), [.tmp 12, .lit (.int .i64 1)], none⟩,
       ⟨(some 14), .plain .mv, [.tmp 13], none⟩,
       ⟨(some 15), .plain (.fieldAddr 0), [.tmp 4], (some (14, false))⟩,
       ⟨(some 16), .plain (.load false 1), [.tmp 15], (some (14, false))⟩,
       ⟨(some 17), .plain (.bin .gtr), [.tmp 16, .lit (.int .i64 5)], (some (14, false))⟩,
       ⟨(some 18), .plain .pick, [.tmp 14, .lit (.bool true), .tmp 17], none⟩] [11, 12, 13, 14, 15, 16, 17])
     (.cond (.tmp 18)
      (.seq (.ops [⟨(some 2), .plain .mv, [.lit (.bool false)], none⟩] [])
      .ret)
      .skip))))
    (.ops [⟨(some 19), .plain (.bin .add), [.tmp 7, .lit (.int .i64 1)], none⟩,
      ⟨(some 7), .plain .mv, [.tmp 19], none⟩] [19])))))))
  (.seq (.ops [⟨(some 2), .plain .mv, [.lit (.bool true)], none⟩] [])
  .ret)))
def cr264 : List Res := [(2, none)]
theorem ok264 : FOk Bk.pg.toProgram Bk.imp 264 c264 cr264 Tryz.f264.ntmps := ⟨Tryz.f264, _, Tryz.func264, rfl, by kernel_rfl, by kernel_rfl, by kernel_rfl, rfl⟩

/-- ironbark/rule.Number -/
def c159 : SC :=
  (.seq (.ops [⟨(some 1), .plain (.box 6), [.tmp 0], none⟩,
    ⟨(some 2), .plain (.alloc [(.int .i64 0), (.int .i64 0), (.int .i64 0), (.int .i64 0), (.bool false), (.str ⟨#[]⟩)]), [], none⟩,
    ⟨(some 3), .plain .mv, [.lit (.int .i64 0)], none⟩] [])
  (.seq (.ops [⟨(some 4), .plain (.mkFn 240), [.tmp 1], none⟩,
    ⟨(some 5), .call 239, [.tmp 4], none⟩,
    ⟨(some 6), .plain (.extract 0), [.tmp 5], none⟩,
    ⟨(some 7), .plain (.extract 1), [.tmp 5], none⟩,
    ⟨none, .plain (.store 6), [.tmp 2, .tmp 6], none⟩,
    ⟨(some 3), .plain .mv, [.tmp 7], none⟩] [4, 5, 6, 7])
  .ret))
def cr159 : List Res := [(2, some (true, 6)), (3, none)]
theorem ok159 : FOk Bk.pg.toProgram Bk.imp 159 c159 cr159 Tryz.f159.ntmps := ⟨Tryz.f159, _, Tryz.func159, rfl, by kernel_rfl, by kernel_rfl, by kernel_rfl, rfl⟩

/-- ironbark/rule.Number$1 -/
def c240 : SC :=
  (.seq (.ops [⟨(some 1), .plain (.alloc [(.int .i64 0), (.int .i64 0), (.int .i64 0), (.int .i64 0), (.bool false), (.str ⟨#[]⟩)]), [], none⟩] [])
  (.seq (.ops [⟨(some 2), .plain (.load true 6), [.tmp 0], none⟩,
    ⟨(some 3), .call 31, [.tmp 2], none⟩,
    ⟨(some 4), .call 241, [.tmp 3, .lit (.int .i64 13)], none⟩] [2, 3, 4])
  (.seq (.seq (.ops [⟨(some 5), .plain (.fieldAddr 0), [.tmp 0], none⟩,
    ⟨(some 6), .plain (.load false 1), [.tmp 5], none⟩] [5])
  (.block 0
   (.seq (.ops [⟨(some 8), .plain (.bin .eql), [.tmp 6, .lit (.int .i64 4)], none⟩,
     ⟨(some 7), .plain .mv, [.tmp 8], none⟩] [8])
   (.cond (.tmp 7)
    (.seq (.ops [⟨(some 9), .plain (.build [(.int .i64 0), (.int .i64 0), (.int .i64 0), (.int .i64 0), (.bool false), (.str ⟨#[]⟩)] [(0, 1), (1, 1)]), [.lit (.int .i64 2), .lit (.int .i64 15)], none⟩,
      ⟨none, .plain (.store 6), [.tmp 1, .tmp 9], none⟩] [9])
    .ret)
    (.seq (.ops [⟨(some 11), .plain (.bin .eql), [.tmp 6, .lit (.int .i64 5)], none⟩,
      ⟨(some 10), .plain .mv, [.tmp 11], none⟩] [11])
    (.cond (.tmp 10)
     (.seq (.ops [⟨(some 12), .plain (.build [(.int .i64 0), (.int .i64 0), (.int .i64 0), (.int .i64 0), (.bool false), (.str ⟨#[]⟩)] [(0, 1), (1, 1)]), [.lit (.int .i64 1), .lit (.int .i64 31)], none⟩,
       ⟨none, .plain (.store 6), [.tmp 1, .tmp 12], none⟩] [12])
     .ret)
     .skip))))))
  (.seq (.ops [⟨(some 13), .plain (.fieldAddr 0), [.tmp 0], none⟩,
    ⟨(some 14), .plain (.load false 1), [.tmp 13], none⟩,
    ⟨(some 15), .plain (.bin .leq), [.tmp 14, .lit (.int .i64 3)], none⟩,
    ⟨(some 16), .call 241, [.tmp 15, .lit (.int .i64 10)], none⟩] [13, 14, 15, 16])
  (.seq (.ops [⟨(some 17), .plain (.load true 6), [.tmp 0], none⟩,
    ⟨none, .plain (.store 6), [.tmp 1, .tmp 17], none⟩] [17])
  .ret)))))
def cr240 : List Res := [(1, some (true, 6))]
theorem ok240 : FOk Bk.pg.toProgram Bk.imp 240 c240 cr240 Tryz.f240.ntmps := ⟨Tryz.f240, _, Tryz.func240, rfl, by kernel_rfl, by kernel_rfl, by kernel_rfl, rfl⟩

/-- ironbark/rule.must -/
def c241 : SC :=
  (.seq (.ops [⟨(some 4), .plain .mv, [.tmp 0], none⟩,
    ⟨(some 5), .plain (.un .not), [.tmp 4], none⟩] [4])
  (.cond (.tmp 5)
   (.ops [⟨(some 6), .plain .mv, [.tmp 1], none⟩,
     ⟨(some 7), .plain (.build [(.int .i64 0)] [(0, 1)]), [.tmp 6], none⟩,
     ⟨(some 8), .plain (.mkIface 271), [.tmp 7], none⟩,
     ⟨none, .panic, [.tmp 8], none⟩] [6, 7, 8])
   .skip))
def cr241 : List Res := []
theorem ok241 : FOk Bk.pg.toProgram Bk.imp 241 c241 cr241 Tryz.f241.ntmps := ⟨Tryz.f241, _, Tryz.func241, rfl, by kernel_rfl, by kernel_rfl, by kernel_rfl, rfl⟩

/-- ironbark/rule.Common -/
def c163 : SC :=
  (.seq (.ops [⟨(some 1), .plain (.box 1), [.tmp 0], none⟩,
    ⟨(some 2), .plain (.alloc [(.int .i64 0), (.int .i64 0), (.int .i64 0), (.int .i64 0), (.bool false), (.str ⟨#[]⟩)]), [], none⟩,
    ⟨(some 3), .plain .mv, [.lit (.int .i64 0)], none⟩] [])
  (.seq (.ops [⟨(some 4), .plain (.mkFn 247), [.tmp 1], none⟩,
    ⟨(some 5), .call 239, [.tmp 4], none⟩,
    ⟨(some 6), .plain (.extract 0), [.tmp 5], none⟩,
    ⟨(some 7), .plain (.extract 1), [.tmp 5], none⟩,
    ⟨none, .plain (.store 6), [.tmp 2, .tmp 6], none⟩,
    ⟨(some 3), .plain .mv, [.tmp 7], none⟩] [4, 5, 6, 7])
  .ret))
def cr163 : List Res := [(2, some (true, 6)), (3, none)]
theorem ok163 : FOk Bk.pg.toProgram Bk.imp 163 c163 cr163 Tryz.f163.ntmps := ⟨Tryz.f163, _, Tryz.func163, rfl, by kernel_rfl, by kernel_rfl, by kernel_rfl, rfl⟩

/-- ironbark/rule.Common$1 -/
def c247 : SC :=
  (.seq (.ops [⟨(some 1), .plain (.alloc [(.int .i64 0), (.int .i64 0), (.int .i64 0), (.int .i64 0), (.bool false), (.str ⟨#[]⟩)]), [], none⟩] [])
  (.seq (.ops [⟨(some 2), .plain (.load false 1), [.tmp 0], none⟩,
    ⟨(some 3), .call 248, [.tmp 2], none⟩] [2, 3])
  (.seq (.ops [⟨(some 4), .plain (.load false 1), [.tmp 0], none⟩,
    ⟨(some 5), .plain (.len 1), [.tmp 4], none⟩,
    ⟨(some 6), .plain (.bin .gtr), [.tmp 5, .lit (.int .i64 0)], none⟩,
    ⟨(some 7), .call 241, [.tmp 6, .lit (.int .i64 8)], none⟩] [4, 5, 6, 7])
  (.seq (.draw (.step ⟨(some 8), .plain (.load false 1), [.tmp 0], none⟩
    (.step ⟨(some 9), .plain (.slice true false 6), [.tmp 8, .lit (.int .i64 1)], none⟩
    (.step ⟨(some 10), .plain (.load false 1), [.tmp 0], none⟩
    (.step ⟨(some 11), .plain (.indexAddr 6), [.tmp 10, .lit (.int .i64 0)], none⟩
    (.step ⟨(some 12), .plain (.load true 6), [.tmp 11], none⟩
    (.step ⟨(some 13), .call 249, [.tmp 9, .tmp 12, .lit (.fn 250 [])], none⟩
    (.step ⟨none, .plain (.store 6), [.tmp 1, .tmp 13], none⟩
    .done))))))) [8, 9, 10, 11, 12, 13])
  .ret))))
def cr247 : List Res := [(1, some (true, 6))]
theorem ok247 : FOk Bk.pg.toProgram Bk.imp 247 c247 cr247 Tryz.f247.ntmps := ⟨Tryz.f247, _, Tryz.func247, rfl, by kernel_rfl, by kernel_rfl, by kernel_rfl, rfl⟩

/-- ironbark/rule.valid -/
def c248 : SC :=
  (.seq (.seq (.ops [⟨(some 6), .plain .mv, [.tmp 0], none⟩,
    ⟨(some 7), .plain (.len 1), [.tmp 6], none⟩,
    ⟨(some 8), .plain .mv, [.lit (.int .i64 0)], none⟩] [])
  (.block 0
   (.loop
    (.seq (.ops [⟨(some 9), .plain (.bin .lss), [.tmp 8, .tmp 7], none⟩] [])
    (.seq (.cond (.tmp 9)
     .skip
     (.exit 0))
    (.seq (.block 1
     (.seq (.ops [⟨(some 10), .plain (.indexAddr 6), [.tmp 6, .tmp 8], none⟩,
       ⟨(some 11), .plain (.load true 6), [.tmp 10], none⟩,
       ⟨(some 3), .plain (.alloc [(.int .i64 0), (.int .i64 0), (.int .i64 0), (.int .i64 0), (.bool false), (.str ⟨#[]⟩)]), [], none⟩,
       ⟨none, .plain (.store 6), [.tmp 3, .tmp 11], none⟩] [10, 11])
     (.ops [⟨(some 12), .plain (.load true 6), [.tmp 3], none⟩,
       ⟨(some 13), .call 31, [.tmp 12], none⟩,
       ⟨(some 14), .call 241, [.tmp 13, .lit (.int .i64 13)], none⟩] [12, 13, 14])))
    (.ops [⟨(some 15), .plain (.bin .add), [.tmp 8, .lit (.int .i64 1)], none⟩,
      ⟨(some 8), .plain .mv, [.tmp 15], none⟩] [15])))))))
  (.seq (.ops [⟨(some 16), .plain .mv, [.tmp 0], none⟩,
    ⟨(some 17), .plain (.len 1), [.tmp 16], none⟩,
    ⟨(some 18), .plain .mv, [.lit (.int .i64 0)], none⟩] [])
  (.block 2
   (.loop
    (.seq (.ops [⟨(some 19), .plain (.bin .lss), [.tmp 18, .tmp 17], none⟩] [])
    (.seq (.cond (.tmp 19)
     .skip
     (.exit 2))
    (.seq (.block 3
     (.seq (.ops [⟨(some 20), .plain (.indexAddr 6), [.tmp 16, .tmp 18], none⟩,
       ⟨(some 21), .plain (.load true 6), [.tmp 20], none⟩,
       ⟨(some 5), .plain (.alloc [(.int .i64 0), (.int .i64 0), (.int .i64 0), (.int .i64 0), (.bool false), (.str ⟨#[]⟩)]), [], none⟩,
       ⟨none, .plain (.store 6), [.tmp 5, .tmp 21], none⟩] [20, 21])
     (.ops [⟨(some 22), .plain (.fieldAddr 0), [.tmp 5], none⟩,
       ⟨(some 23), .plain (.load false 1), [.tmp 22], none⟩,
       ⟨(some 24), .plain (.bin .geq), [.tmp 23, .lit (.int .i64 1)], none⟩,
       ⟨(some 25), .plain .mv, [.tmp 24], none⟩,
       ⟨(some 26), .plain (.fieldAddr 0), [.tmp 5], (some (25, true))⟩,
       ⟨(some 27), .plain (.load false 1), [.tmp 26], (some (25, true))⟩,
       ⟨(some 28), .plain (.bin .leq), [.tmp 27, .lit (.int .i64 3)], (some (25, true))⟩,
       ⟨(some 29), .plain .pick, [.tmp 25, .tmp 28, .lit (.bool false)], none⟩,
       ⟨(some 30), .call 241, [.tmp 29, .lit (.int .i64 10)], none⟩] [22, 23, 24, 25, 26, 27, 28, 29, 30])))
    (.ops [⟨(some 31), .plain (.bin .add), [.tmp 18, .lit (.int .i64 1)], none⟩,
      ⟨(some 18), .plain .mv, [.tmp 31], none⟩] [31]))))))))
def cr248 : List Res := []
theorem ok248 : FOk Bk.pg.toProgram Bk.imp 248 c248 cr248 Tryz.f248.ntmps := ⟨Tryz.f248, _, Tryz.func248, rfl, by kernel_rfl, by kernel_rfl, by kernel_rfl, rfl⟩

/-- ironbark/rule.fold -/
def c249 : SC :=
  (.seq (.ops [⟨(some 4), .plain (.box 6), [.tmp 1], none⟩,
    ⟨(some 6), .plain (.alloc [(.int .i64 0), (.int .i64 0), (.int .i64 0), (.int .i64 0), (.bool false), (.str ⟨#[]⟩)]), [], none⟩] [])
  (.seq (.seq (.ops [⟨(some 9), .plain .mv, [.tmp 0], none⟩,
    ⟨(some 10), .plain (.len 1), [.tmp 9], none⟩,
    ⟨(some 11), .plain .mv, [.lit (.int .i64 0)], none⟩] [])
  (.block 0
   (.loop
    (.seq (.ops [⟨(some 12), .plain (.bin .lss), [.tmp 11, .tmp 10], none⟩] [])
    (.seq (.cond (.tmp 12)
     .skip
     (.exit 0))
    (.seq (.block 1
     (.seq (.ops [⟨(some 13), .plain (.indexAddr 6), [.tmp 9, .tmp 11], none⟩,
       ⟨(some 14), .plain (.load true 6), [.tmp 13], none⟩,
       ⟨(some 8), .plain (.alloc [(.int .i64 0), (.int .i64 0), (.int .i64 0), (.int .i64 0), (.bool false), (.str ⟨#[]⟩)]), [], none⟩,
       ⟨none, .plain (.store 6), [.tmp 8, .tmp 14], none⟩] [13, 14])
     (.ops [⟨(some 15), .plain .mv, [.tmp 2], none⟩,
       ⟨(some 16), .plain (.load true 6), [.tmp 4], none⟩,
       ⟨(some 17), .plain (.load true 6), [.tmp 8], none⟩,
       ⟨(some 18), .callv, [.tmp 15, .tmp 16, .tmp 17], none⟩,
       ⟨none, .plain (.store 6), [.tmp 4, .tmp 18], none⟩] [15, 16, 17, 18])))
    (.ops [⟨(some 19), .plain (.bin .add), [.tmp 11, .lit (.int .i64 1)], none⟩,
      ⟨(some 11), .plain .mv, [.tmp 19], none⟩] [19])))))))
  (.seq (.ops [⟨(some 20), .plain (.load true 6), [.tmp 4], none⟩,
    ⟨none, .plain (.store 6), [.tmp 6, .tmp 20], none⟩] [20])
  .ret)))
def cr249 : List Res := [(6, some (true, 6))]
theorem ok249 : FOk Bk.pg.toProgram Bk.imp 249 c249 cr249 Tryz.f249.ntmps := ⟨Tryz.f249, _, Tryz.func249, rfl, by kernel_rfl, by kernel_rfl, by kernel_rfl, rfl⟩

/-- ironbark/rule.common -/
def c250 : SC :=
  (.seq (.ops [⟨(some 2), .plain (.box 6), [.tmp 0], none⟩,
    ⟨(some 3), .plain (.box 6), [.tmp 1], none⟩,
    ⟨(some 4), .plain (.alloc [(.int .i64 0), (.int .i64 0), (.int .i64 0), (.int .i64 0), (.bool false), (.str ⟨#[]⟩)]), [], none⟩] [])
  (.seq (.ops [⟨(some 10), .plain (.load true 6), [.tmp 2], none⟩,
    ⟨(some 11), .plain (.load true 6), [.tmp 3], none⟩,
    ⟨(some 12), .call 322, [.tmp 10, .tmp 11], none⟩,
    ⟨(some 9), .plain .mv, [.tmp 12], none⟩,
    ⟨(some 13), .plain (.extract 0), [.tmp 9], none⟩,
    ⟨(some 14), .plain (.extract 1), [.tmp 9], none⟩,
    ⟨(some 15), .plain (.extract 2), [.tmp 9], none⟩,
    ⟨(some 5), .plain (.alloc [(.int .i64 0), (.int .i64 0), (.int .i64 0), (.int .i64 0), (.bool false), (.str ⟨#[]⟩)]), [], none⟩,
    ⟨(some 6), .plain (.alloc [(.int .i64 0), (.int .i64 0), (.int .i64 0), (.int .i64 0), (.bool false), (.str ⟨#[]⟩)]), [], none⟩,
    ⟨none, .plain (.store 6), [.tmp 5, .tmp 13], none⟩,
    ⟨none, .plain (.store 6), [.tmp 6, .tmp 14], none⟩,
    ⟨(some 7), .plain .mv, [.tmp 15], none⟩] [10, 11, 12, 9, 13, 14, 15])
  (.seq (.seq (.ops [⟨(some 16), .plain (.load true 6), [.tmp 5], none⟩,
    ⟨(some 17), .plain (.load true 6), [.tmp 6], none⟩,
    ⟨(some 18), .plain (.eqAgg false [.int, .int, .int, .int, .bool, .str]), [.tmp 16, .tmp 17], none⟩] [16, 17])
  (.cond (.tmp 18)
   (.seq (.ops [⟨(some 19), .plain (.load true 6), [.tmp 5], none⟩,
     ⟨none, .plain (.store 6), [.tmp 4, .tmp 19], none⟩] [19])
   .ret)
   .skip))
  (.seq (.seq (.ops [⟨(some 20), .plain (.fieldAddr 0), [.tmp 5], none⟩,
    ⟨(some 21), .plain (.load false 1), [.tmp 20], none⟩,
    ⟨(some 22), .plain (.bin .eql), [.tmp 21, .lit (.int .i64 3)], none⟩] [20, 21])
  (.cond (.tmp 22)
   (.seq (.ops [⟨(some 23), .plain (.fieldAddr 1), [.tmp 5], none⟩,
     ⟨(some 24), .plain (.load false 1), [.tmp 23], none⟩,
     ⟨(some 25), .plain (.fieldAddr 1), [.tmp 6], none⟩,
     ⟨(some 26), .plain (.load false 1), [.tmp 25], none⟩,
     ⟨(some 27), .plain .max2, [.tmp 24, .tmp 26], none⟩,
     ⟨(some 28), .plain (.build [(.int .i64 0), (.int .i64 0), (.int .i64 0), (.int .i64 0), (.bool false), (.str ⟨#[]⟩)] [(0, 1), (1, 1)]), [.lit (.int .i64 3), .tmp 27], none⟩,
     ⟨none, .plain (.store 6), [.tmp 4, .tmp 28], none⟩] [23, 24, 25, 26, 27, 28])
   .ret)
   .skip))
  (.seq (.ops [⟨(some 29), .plain (.fieldAddr 2), [.tmp 5], none⟩,
    ⟨(some 30), .plain (.load false 1), [.tmp 29], none⟩,
    ⟨(some 31), .plain (.fieldAddr 2), [.tmp 6], none⟩,
    ⟨(some 32), .plain (.load false 1), [.tmp 31], none⟩,
    ⟨(some 33), .plain .max2, [.tmp 30, .tmp 32], none⟩,
    ⟨(some 8), .plain .mv, [.tmp 33], none⟩] [29, 30, 31, 32, 33])
  (.seq (.ops [⟨(some 34), .plain (.fieldAddr 0), [.tmp 5], none⟩,
    ⟨(some 35), .plain (.load false 1), [.tmp 34], none⟩,
    ⟨(some 36), .plain .mv, [.tmp 7], none⟩,
    ⟨(some 37), .plain (.fieldAddr 1), [.tmp 5], none⟩,
    ⟨(some 38), .plain (.load false 1), [.tmp 37], none⟩,
    ⟨(some 39), .plain (.fieldAddr 2), [.tmp 5], none⟩,
    ⟨(some 40), .plain (.load false 1), [.tmp 39], none⟩,
    ⟨(some 41), .plain (.bin .sub), [.tmp 38, .tmp 40], none⟩,
    ⟨(some 42), .plain (.fieldAddr 1), [.tmp 6], none⟩,
    ⟨(some 43), .plain (.load false 1), [.tmp 42], none⟩,
    ⟨(some 44), .plain (.fieldAddr 2), [.tmp 6], none⟩,
    ⟨(some 45), .plain (.load false 1), [.tmp 44], none⟩,
    ⟨(some 46), .plain (.bin .sub), [.tmp 43, .tmp 45], none⟩,
    ⟨(some 47), .plain .max2, [.tmp 41, .tmp 46], none⟩,
    ⟨(some 48), .plain .mv, [.tmp 8], none⟩,
    ⟨(some 49), .plain (.bin .add), [.tmp 47, .tmp 48], none⟩,
    ⟨(some 50), .plain .max2, [.lit (.int .i64 1), .tmp 49], none⟩,
    ⟨(some 51), .plain .min2, [.tmp 36, .tmp 50], none⟩,
    ⟨(some 52), .plain .mv, [.tmp 8], none⟩,
    ⟨(some 53), .plain (.build [(.int .i64 0), (.int .i64 0), (.int .i64 0), (.int .i64 0), (.bool false), (.str ⟨#[]⟩)] [(0, 1), (1, 1), (2, 1)]), [.tmp 35, .tmp 51, .tmp 52], none⟩,
    ⟨none, .plain (.store 6), [.tmp 4, .tmp 53], none⟩] [34, 35, 36, 37, 38, 39, 40, 41, 42, 43, 44, 45, 46, 47, 48, 49, 50, 51, 52, 53])
  .ret))))))
def cr250 : List Res := [(4, some (true, 6))]
theorem ok250 : FOk Bk.pg.toProgram Bk.imp 250 c250 cr250 Tryz.f250.ntmps := ⟨Tryz.f250, _, Tryz.func250, rfl, by kernel_rfl, by kernel_rfl, by kernel_rfl, rfl⟩

/-- ironbark/rule.together -/
def c322 : SC :=
  (.seq (.ops [⟨(some 2), .plain (.box 6), [.tmp 0], none⟩,
    ⟨(some 3), .plain (.box 6), [.tmp 1], none⟩,
    ⟨(some 4), .plain (.alloc [(.int .i64 0), (.int .i64 0), (.int .i64 0), (.int .i64 0), (.bool false), (.str ⟨#[]⟩)]), [], none⟩,
    ⟨(some 5), .plain (.alloc [(.int .i64 0), (.int .i64 0), (.int .i64 0), (.int .i64 0), (.bool false), (.str ⟨#[]⟩)]), [], none⟩,
    ⟨(some 6), .plain .mv, [.lit (.int .i64 0)], none⟩] [])
  (.seq (.block 0
   (.seq (.ops [⟨(some 8), .plain (.fieldAddr 0), [.tmp 2], none⟩,
     ⟨(some 9), .plain (.load false 1), [.tmp 8], none⟩,
     ⟨(some 10), .plain (.bin .eql), [.tmp 9, .lit (.int .i64 3)], none⟩,
     ⟨(some 11), .plain .mv, [.tmp 10], none⟩,
     ⟨(some 12), .plain (.fieldAddr 0), [.tmp 3], (some (11, false))⟩,
     ⟨(some 13), .plain (.load false 1), [.tmp 12], (some (11, false))⟩,
     ⟨(some 14), .plain (.bin .eql), [.tmp 13, .lit (.int .i64 3)], (some (11, false))⟩,
     ⟨(some 15), .plain .pick, [.tmp 11, .lit (.bool true), .tmp 14], none⟩,
     ⟨(some 7), .plain .mv, [.tmp 15], none⟩] [8, 9, 10, 11, 12, 13, 14, 15])
   (.cond (.tmp 7)
    (.seq (.draw (.step ⟨(some 16), .plain (.load true 6), [.tmp 2], none⟩
      (.step ⟨(some 17), .call 263, [.tmp 16], none⟩
      (.step ⟨(some 18), .plain (.load true 6), [.tmp 3], none⟩
      (.step ⟨(some 19), .call 263, [.tmp 18], none⟩
      (.step ⟨none, .plain (.store 6), [.tmp 4, .tmp 17], none⟩
      (.step ⟨none, .plain (.store 6), [.tmp 5, .tmp 19], none⟩
      (.step ⟨(some 6), .plain .mv, [.lit (.int .i64 15)], none⟩
      .done))))))) [16, 17, 18, 19])
    .ret)
    (.seq (.ops [⟨(some 21), .plain (.fieldAddr 0), [.tmp 2], none⟩,
      ⟨(some 22), .plain (.load false 1), [.tmp 21], none⟩,
      ⟨(some 23), .plain (.bin .eql), [.tmp 22, .lit (.int .i64 1)], none⟩,
      ⟨(some 24), .plain .mv, [.tmp 23], none⟩,
      ⟨(some 25), .plain (.fieldAddr 0), [.tmp 3], (some (24, false))⟩,
      ⟨(some 26), .plain (.load false 1), [.tmp 25], (some (24, false))⟩,
      ⟨(some 27), .plain (.bin .eql), [.tmp 26, .lit (.int .i64 1)], (some (24, false))⟩,
      ⟨(some 28), .plain .pick, [.tmp 24, .lit (.bool true), .tmp 27], none⟩,
      ⟨(some 20), .plain .mv, [.tmp 28], none⟩] [21, 22, 23, 24, 25, 26, 27, 28])
    (.cond (.tmp 20)
     (.seq (.draw (.step ⟨(some 29), .plain (.load true 6), [.tmp 2], none⟩
       (.step ⟨(some 30), .call 261, [.tmp 29], none⟩
       (.step ⟨(some 31), .plain (.load true 6), [.tmp 3], none⟩
       (.step ⟨(some 32), .call 261, [.tmp 31], none⟩
       (.step ⟨none, .plain (.store 6), [.tmp 4, .tmp 30], none⟩
       (.step ⟨none, .plain (.store 6), [.tmp 5, .tmp 32], none⟩
       (.step ⟨(some 6), .plain .mv, [.lit (.int .i64 31)], none⟩
       .done))))))) [29, 30, 31, 32])
     .ret)
     .skip)))))
  (.seq (.draw (.step ⟨(some 33), .plain (.load true 6), [.tmp 2], none⟩
    (.or (.step ⟨(some 34), .plain (.load true 6), [.tmp 3], none⟩
    (.step ⟨none, .plain (.store 6), [.tmp 4, .tmp 33], none⟩
    (.step ⟨none, .plain (.store 6), [.tmp 5, .tmp 34], none⟩
    (.step ⟨(some 6), .plain .mv, [.lit (.int .i64 15)], none⟩
    .done))))
    (.step ⟨none, .plain (.store 6), [.tmp 4, .tmp 33], none⟩
    (.step ⟨(some 34), .plain (.load true 6), [.tmp 3], none⟩
    (.step ⟨none, .plain (.store 6), [.tmp 5, .tmp 34], none⟩
    (.step ⟨(some 6), .plain .mv, [.lit (.int .i64 15)], none⟩
    .done)))))) [33, 34])
  .ret)))
def cr322 : List Res := [(4, some (true, 6)), (5, some (true, 6)), (6, none)]
theorem ok322 : FOk Bk.pg.toProgram Bk.imp 322 c322 cr322 Tryz.f322.ntmps := ⟨Tryz.f322, _, Tryz.func322, rfl, by kernel_rfl, by kernel_rfl, by kernel_rfl, rfl⟩

/-- ironbark/rule.binary -/
def c261 : SC :=
  (.seq (.ops [⟨(some 1), .plain (.box 6), [.tmp 0], none⟩,
    ⟨(some 2), .plain (.alloc [(.int .i64 0), (.int .i64 0), (.int .i64 0), (.int .i64 0), (.bool false), (.str ⟨#[]⟩)]), [], none⟩] [])
  (.seq (.ops [⟨(some 3), .plain (.fieldAddr 0), [.tmp 1], none⟩,
    ⟨(some 4), .plain (.load false 1), [.tmp 3], none⟩,
    ⟨(some 5), .plain (.bin .neq), [.tmp 4, .lit (.int .i64 3)], none⟩,
    ⟨(some 6), .call 241, [.tmp 5, .lit (.int .i64 10)], none⟩] [3, 4, 5, 6])
  (.seq (.seq (.ops [⟨(some 7), .plain (.fieldAddr 0), [.tmp 1], none⟩,
    ⟨(some 8), .plain (.load false 1), [.tmp 7], none⟩,
    ⟨(some 9), .plain (.bin .eql), [.tmp 8, .lit (.int .i64 1)], none⟩] [7, 8])
  (.cond (.tmp 9)
   (.seq (.ops [⟨(some 10), .plain (.load true 6), [.tmp 1], none⟩,
     ⟨none, .plain (.store 6), [.tmp 2, .tmp 10], none⟩] [10])
   .ret)
   .skip))
  (.seq (.ops [⟨(some 11), .plain (.fieldAddr 1), [.tmp 1], none⟩,
    ⟨(some 12), .plain (.load false 1), [.tmp 11], none⟩,
    ⟨(some 13), .plain (.bin .mul), [.lit (.int .i64 10), .tmp 12], none⟩,
    ⟨(some 14), .plain (.bin .add), [.tmp 13, .lit (.int .i64 2)], none⟩,
    ⟨(some 15), .plain (.bin .quo), [.tmp 14, .lit (.int .i64 3)], none⟩,
    ⟨(some 16), .plain (.bin .add), [.tmp 15, .lit (.int .i64 1)], none⟩,
    ⟨(some 17), .plain .min2, [.lit (.int .i64 31), .tmp 16], none⟩,
    ⟨(some 18), .plain (.fieldAddr 2), [.tmp 1], none⟩,
    ⟨(some 19), .plain (.load false 1), [.tmp 18], none⟩,
    ⟨(some 20), .plain (.bin .mul), [.lit (.int .i64 10), .tmp 19], none⟩,
    ⟨(some 21), .plain (.bin .add), [.tmp 20, .lit (.int .i64 2)], none⟩,
    ⟨(some 22), .plain (.bin .quo), [.tmp 21, .lit (.int .i64 3)], none⟩,
    ⟨(some 23), .plain .min2, [.lit (.int .i64 31), .tmp 22], none⟩,
    ⟨(some 24), .plain (.build [(.int .i64 0), (.int .i64 0), (.int .i64 0), (.int .i64 0), (.bool false), (.str ⟨#[]⟩)] [(0, 1), (1, 1), (2, 1)]), [.lit (.int .i64 1), .tmp 17, .tmp 23], none⟩,
    ⟨none, .plain (.store 6), [.tmp 2, .tmp 24], none⟩] [11, 12, 13, 14, 15, 16, 17, 18, 19, 20, 21, 22, 23, 24])
  .ret))))
def cr261 : List Res := [(2, some (true, 6))]
theorem ok261 : FOk Bk.pg.toProgram Bk.imp 261 c261 cr261 Tryz.f261.ntmps := ⟨Tryz.f261, _, Tryz.func261, rfl, by kernel_rfl, by kernel_rfl, by kernel_rfl, rfl⟩

end Go.Pm

/- BkC11: contracts: numbers turned into other types. -/
namespace Go.Pm
open Go Go.Proofs
attribute [-simp] List.getElem?_map

/-- What is raised, with nothing but the condition. -/
def rz (c : Int) : List AV := [.int .i64 c, .str ⟨#[]⟩, .int .i64 0, .str ⟨#[]⟩, .int .i64 0]

theorem call286 {c : Int} : PCalls Bk.pg 286 [.int .i64 c] fun out => out = .ret (.agg (rz c)) := by
  refine ok286.pcalls (by simp) ?_
  simp [c286, cr286, rz]

theorem call285 {k1 n q1 k2 : Int} {kx px qx : Int} {p2 q2 : Nat} (hr : RightN k1 n q1) (hv : ValidN k2 p2 q2) :
    PCalls Bk.pg 285 [.agg (vlN k1 n q1), .agg (tyN kx px qx), .agg (tyN k2 p2 q2)] fun out => out = .ret (.tuple [.agg (vlN k2 (fitN k1 n q1 k2 p2 q2) q2), .agg (rz (if fitL k1 n q1 k2 p2 q2 then 4 else 0))]) := by
  refine ok285.pcalls (by simp) ?_
  have c1 := call158 hr hv
  have c2 := call286 (c := if fitL k1 n q1 k2 p2 q2 then 4 else 0)
  obtain ⟨F, hF⟩ : ∃ F, F = fitN k1 n q1 k2 p2 q2 := ⟨_, rfl⟩
  obtain ⟨L, hL⟩ : ∃ L, L = fitL k1 n q1 k2 p2 q2 := ⟨_, rfl⟩
  rw [← hF, ← hL] at c1 ⊢
  rw [← hL] at c2
  simp only [vlN, vl, tyN, ty, rz] at c1 c2 ⊢
  simp [c285]
  refine xcall_p c1 (by simp) ?_
  simp
  refine xdcall_p rfl c2 (by simp) ?_
  simp [cr285]

theorem call209 {k : Int} (hk : k = 1 ∨ k = 2) : PCalls Bk.pg 209 [.int .i64 k] fun out => out = .ret (.int .i64 0) := by
  refine ok209.pcalls (by simp) ?_
  have z4 : eqI k 4 = false := by
    cases h : eqI k 4 with
    | false => rfl
    | true => have := eqI_t.1 h; omega
  have z5 : eqI k 5 = false := by
    cases h : eqI k 5 with
    | false => rfl
    | true => have := eqI_t.1 h; omega
  simp [c209, cr209, z4, z5]

/-- Values of which less is said. -/
inductive AnyL : List AV → List AV → Prop
  | nil : AnyL [] []
  | keep {x : AV} {xs ys : List AV} : AnyL xs ys → AnyL (x :: xs) (x :: ys)
  | any {x : AV} {xs ys : List AV} : AnyL xs ys → AnyL (x :: xs) (.any :: ys)
theorem AnyL.refl : ∀ xs : List AV, AnyL xs xs
  | [] => .nil
  | _ :: xs => .keep (AnyL.refl xs)
theorem VRs.any {σ : Sig} {K : Bool → Nat → Prop} {w : World} {xs ys : List AV} (h : AnyL xs ys) : ∀ {us : List Value}, VRs σ K w xs us → VRs σ K w ys us := by
  induction h with
  | nil => exact fun h => h
  | keep _ ih =>
    intro us h
    rw [VRs] at h ⊢
    obtain ⟨u, us', h1, h2, h3⟩ := h
    exact ⟨u, us', h1, h2, ih h3⟩
  | any _ ih =>
    intro us h
    rw [VRs] at h ⊢
    obtain ⟨u, us', h1, h2, h3⟩ := h
    exact ⟨u, us', h1, by rw [VR]; trivial, ih h3⟩
theorem SimO.any {m : Mem} {xs ys : List AV} (h : AnyL xs ys) : SimO (.ret (.agg ys)) m (.ret (.agg xs)) m := by
  intro β σ K w e hr ho
  refine ⟨σ, List.prefix_refl _, hr, ?_⟩
  obtain ⟨u, h1, h2⟩ := ho
  refine ⟨u, h1, ?_⟩
  rw [VR] at h2 ⊢
  obtain ⟨us, h3, h4⟩ := h2
  exact ⟨us, h3, h4.any h⟩

/-- The table of ways: from numbers to numbers. -/
theorem call208 : PCalls Bk.pg 208 [] fun out => out = .ret (.agg [.fn 285 [], .any, .any, .any, .any, .any, .any, .any, .any]) := by
  refine pcalls_of_acalls 1 (ACalls.sim (R := fun out m => out = .ret (.agg [.fn 285 [], .fn 288 [.ptr 2 2 0], .fn 291 [.ptr 2 2 0], .fn 293 [.ptr 1 1 0], .fn 287 [], .fn 296 [.ptr 2 2 0], .fn 297 [.ptr 1 1 0], .fn 287 [], .fn 287 []])) (ok208.acalls (by simp) ?_) ?_)
  · have one : Value.nilFunc.oneCell' = true := rfl
    simp [c208, cr208, postA_ret, one]
  · rintro out m rfl
    exact ⟨.ret (.agg [.fn 285 [], .any, .any, .any, .any, .any, .any, .any, .any]), m, ⟨_, rfl, rfl⟩, SimO.any (.keep (.any (.any (.any (.any (.any (.any (.any (.any .nil)))))))))⟩
end Go.Pm

/- BkC12: contracts: Convert, of numbers. -/
namespace Go.Pm
open Go Go.Proofs
attribute [-simp] List.getElem?_map
attribute [simp] nilCheckA postA_norm

theorem call264 {ts : List (Int × Int × Int)} (h : ∀ t ∈ ts, t.1 = 1 ∨ t.1 = 2) (hl : ts.length ≤ 1000) : PCalls Bk.pg 264 [.list true 6 (ts.map fun t => tyN t.1 t.2.1 t.2.2)] fun out => out = .ret (.bool true) := by
  refine ok264.pcalls (by simp) ?_
  simp [c264]
  refine wpS_loopS (ι := Nat × Nat) (fun s => [(5, .list true 6 (ts.map fun t => tyN t.1 t.2.1 t.2.2)), (6, .int .i64 ts.length), (7, .int .i64 (s.1 : Nat))]) (fun s => ⟨[], s.2⟩) (fun s => ts.length - s.1) (fun s => s.1 ≤ ts.length) (0, 0) (Nat.zero_le _) (Sim.of_le (Env.le_of (by simp)) (Mem.le_of rfl (by simp))) ?_
  rintro ⟨i, nx⟩ hi
  simp only at hi
  have hwi : IntKind.i64.wrap ((i : Int) + 1) = (i : Int) + 1 := wrap64 (by omega) (by omega)
  simp
  refine br_cond rfl (fun h1 => ?_) (fun h1 => ?_)
  · have hlt : i < ts.length := by have := ltI_t.1 h1; omega
    have hx := idxM (f := fun t : Int × Int × Int => tyN t.1 t.2.1 t.2.2) h1
    have hk := h _ (ix_mem hlt)
    obtain ⟨x, hxx⟩ : ∃ x, x = ix ts i := ⟨_, rfl⟩
    rw [← hxx] at hx hk
    have z1 : ltI x.1 1 = false := ltI_f.2 (by omega)
    have z2 : ltI 5 x.1 = false := ltI_f.2 (by omega)
    simp only [tyN, ty] at hx ⊢
    simp [hx, z1, z2, hwi]
    exact ⟨i + 1, by omega, by omega, _, Sim.of_le (Env.le_of (by simp)) (Mem.le_of rfl (by simp))⟩
  · simp [cr264]

theorem call207 {k1 p1 q1 n k2 p2 q2 : Int} {o0 o1 o2 o3 o4 : Nat × AObj} (h : HasN k1 p1 q1 n) (hv : ValidN k2 p2 q2) :
    ACalls Bk.pg 207 [.agg (vlN k1 n q1), .agg (tyN k1 p1 q1), .row 5 5 6 0 1] ⟨[o0, o1, o2, o3, o4, (5, .row 32 6 [tyN k2 p2 q2])], 6⟩ fun out m' => out = .ret (.int .i64 0) ∧ ∃ x nx', m' = ⟨[o0, o1, o2, o3, o4, x], nx'⟩ := by
  refine ACalls.forget (ok207.acalls (by simp) ?_)
  have c1 := call51 h.2.1
  have c2 := call31 h.1.1 h.1.2
  have c3 := call33 h
  have c4 := call31 hv.1 hv.2
  have hk1 : k1 = 1 ∨ k1 = 2 := by have := h.1.1; omega
  have hk2 : k2 = 1 ∨ k2 = 2 := by have := hv.1; omega
  have c5 := call264 (ts := [(k2, p2, q2), (k1, p1, q1)]) (fun t ht => by
    rcases List.mem_cons.1 ht with rfl | ht
    · exact hk2
    · rw [List.mem_singleton.1 ht]; exact hk1) (by simp)
  have z4 : eqI k1 4 = false := by
    cases h : eqI k1 4 with
    | false => rfl
    | true => have := eqI_t.1 h; omega
  have z5 : eqI k1 5 = false := by
    cases h : eqI k1 5 with
    | false => rfl
    | true => have := eqI_t.1 h; omega
  have z01 : ltI 0 1 = true := rfl
  have z11 : ltI 1 1 = false := rfl
  have w1 : IntKind.i64.wrap 1 = 1 := rfl
  simp only [vlN, vl, tyN, ty, List.map_cons, List.map_nil] at c1 c2 c3 c4 c5 ⊢
  simp [c207]
  refine xcall_p c1 (by simp) ?_
  simp [z4, z5]
  refine xcall_p c2 (by simp) ?_
  simp
  refine xcall_p c3 (by simp) ?_
  simp
  refine wpS_loopS (ι := Nat × Nat) (fun s => [(2, .row 5 5 6 0 1), (4, .ptr 7 7 0), (37, .row 5 5 6 0 1), (38, .int .i64 1), (39, .int .i64 (s.1 : Nat))]) (fun s => ⟨[o0, o1, o2, o3, o4, (5, .row 32 6 [tyN k2 p2 q2]), (6, .cells (vlN k1 n q1)), (7, .cells (tyN k1 p1 q1))], s.2⟩) (fun s => 1 - s.1) (fun s => s.1 ≤ 1) (0, 8) (by decide) (Sim.of_le (Env.le_of (by simp)) (Mem.le_of rfl (by simp [vlN, vl, tyN, ty]))) ?_
  rintro ⟨i, nx⟩ hi
  simp only at hi
  have hi' : i = 0 ∨ i = 1 := by omega
  rcases hi' with rfl | rfl
  · simp [z01, vlN, vl, tyN, ty]
    refine xcall_p c4 (by simp) ?_
    simp [w1]
    exact ⟨1, by omega, by omega, _, Sim.of_le (Env.le_of (by simp)) (Mem.le_of rfl (by simp))⟩
  · simp [z11, vlN, vl, tyN, ty]
    simp [appendA, appendN, elsOf, Mem.turn]
    refine xcall_r (PCalls.keep (pos := 5) (g := nx + 1) (e := 32) (n := 2) (els := [[AV.int .i64 k2, .int .i64 p2, .int .i64 q2, .int .i64 0, .bool false, .str ⟨#[]⟩], [.int .i64 k1, .int .i64 p1, .int .i64 q1, .int .i64 0, .bool false, .str ⟨#[]⟩]]) (h := c5) (hp := rfl) (hn := by simp) (hr := by simp)) ?_ ?_
    · rintro v m' ⟨hv', rfl⟩
      cases hv'
      simp [cr207, Mem.turn]
      exact ⟨⟨[o0, o1, o2, o3, o4, (nx + 2, .hole)], nx + 3⟩, Mem.le_of rfl (by simp), _, _, _, rfl⟩
    · rintro v m' ⟨hv', _⟩
      cases hv'

/-- A number turned into another type. -/
theorem call137 {k1 p1 q1 n k2 : Int} {p2 q2 : Nat} (h : HasN k1 p1 q1 n) (hv : ValidN k2 p2 q2) :
    PCalls Bk.pg 137 [.agg (vlN k1 n q1), .agg (tyN k1 p1 q1), .agg (tyN k2 p2 q2)] fun out => out = .ret (.tuple [.agg (vlN k2 (fitN k1 n q1 k2 p2 q2) q2), .agg (rz (if fitL k1 n q1 k2 p2 q2 then 4 else 0)), .int .i64 0]) := by
  refine ok137.pcalls (by simp) ?_
  have c1 := fun o0 o1 o2 o3 o4 => call207 (o0 := o0) (o1 := o1) (o2 := o2) (o3 := o3) (o4 := o4) h hv
  have hk1 : k1 = 1 ∨ k1 = 2 := by have := h.1.1; omega
  have hk2 : k2 = 1 ∨ k2 = 2 := by have := hv.1; omega
  have c2 := call209 hk1
  have c3 := call209 hk2
  have c4 := call285 (k1 := k1) (n := n) (q1 := q1) (k2 := k2) (kx := k1) (px := p1) (qx := q1) (p2 := p2) (q2 := q2) h.2.1 hv
  have z : eqI 0 0 = true := rfl
  obtain ⟨F, hF⟩ : ∃ F, F = fitN k1 n q1 k2 p2 q2 := ⟨_, rfl⟩
  obtain ⟨L, hL⟩ : ∃ L, L = fitL k1 n q1 k2 p2 q2 := ⟨_, rfl⟩
  rw [← hF, ← hL] at c4 ⊢
  simp only [vlN, vl, tyN, ty, rz] at c1 c4 ⊢
  simp [c137]
  refine xcall_r (c1 _ _ _ _ _) ?_ ?_
  rotate_left
  · rintro v m' ⟨hv', _⟩
    cases hv'
  rintro v m' ⟨hv', x, nx, rfl⟩
  cases hv'
  simp [z]
  refine xdcall_p rfl call208 (by simp) ?_
  simp
  refine xdcall_p rfl c2 (by simp) ?_
  simp
  refine xdcall_p rfl c3 (by simp) ?_
  simp
  rw [xdops_callv rfl rfl]
  refine ⟨_, _, ?_, c4, ?_⟩
  · simp
  · simp
    refine ⟨?_, ?_⟩
    all_goals
      simp [cr137]
end Go.Pm

/- BkS5: code, resolved. Printed by ShowSC.lean and genok.py. -/
namespace Go.Pm
open Go Go.Proofs

/-- ironbark/built.safe, its front -/
def cx25 : SC :=
  (.seq (.ops [⟨(some 2), .plain (.alloc [(.int .i64 0)]), [], none⟩] [])
  .skip)
/-- ironbark/built.safe, behind what it defers -/
def cy25 : SC :=
  (.seq (.ops [⟨(some 4), .plain .mv, [.tmp 0], none⟩,
    ⟨(some 5), .callv, [.tmp 4], none⟩] [4, 5])
  (.seq (.ops [⟨none, .plain (.store 1), [.tmp 2, .lit (.int .i64 0)], none⟩] [])
  .ret))
def cr25 : List Res := [(2, some (false, 1))]
theorem ok25 : FOkE Bk.pg.toProgram Bk.imp 25 cx25 3 43 [.tmp 2] cy25 cr25 Tryz.f25.ntmps := ⟨Tryz.f25, _, _, _, _, Tryz.func25, rfl, by kernel_rfl, rfl, by kernel_rfl, by kernel_rfl, by kernel_rfl, by kernel_rfl, rfl, by decide, rfl⟩

/-- ironbark/built.safe$1, behind its recover -/
def c43 : SC :=
  (.seq (.ops [⟨(some 5), .plain .mv, [.tmp 1], none⟩,
    ⟨(some 6), .plain (.eqNil false true), [.tmp 5, .lit (.const .nilIface)], none⟩] [5])
  (.cond (.tmp 6)
   (.seq (.ops [⟨(some 8), .plain .mv, [.tmp 1], none⟩,
     ⟨(some 9), .plain (.typeAssert 78 (.agg [(.int .i64 0)])), [.tmp 8], none⟩,
     ⟨(some 7), .plain .mv, [.tmp 9], none⟩,
     ⟨(some 10), .plain (.extract 0), [.tmp 7], none⟩,
     ⟨(some 11), .plain (.extract 1), [.tmp 7], none⟩,
     ⟨(some 2), .plain (.alloc [(.int .i64 0)]), [], none⟩,
     ⟨none, .plain (.store 1), [.tmp 2, .tmp 10], none⟩,
     ⟨(some 3), .plain .mv, [.tmp 11], none⟩] [8, 9, 7, 10, 11])
   (.seq (.seq (.ops [⟨(some 12), .plain .mv, [.tmp 3], none⟩,
     ⟨(some 13), .plain (.un .not), [.tmp 12], none⟩] [12])
   (.cond (.tmp 13)
    (.ops [⟨(some 14), .plain .mv, [.tmp 1], none⟩,
      ⟨none, .panic, [.tmp 14], none⟩] [14])
    .skip))
   (.ops [⟨(some 15), .plain (.fieldAddr 0), [.tmp 2], none⟩,
     ⟨(some 16), .plain (.load false 1), [.tmp 15], none⟩,
     ⟨none, .plain (.store 1), [.tmp 0, .tmp 16], none⟩] [15, 16])))
   .skip))
theorem ok43 : FOkR2 Bk.pg.toProgram Bk.imp 43 4 1 c43 Tryz.f43.ntmps := ⟨Tryz.f43, _, _, Tryz.func43, rfl, by kernel_rfl, rfl, by kernel_rfl, by kernel_rfl, rfl, by decide, by decide, rfl⟩

/-- ironbark/rule.safe, its front -/
def cx239 : SC :=
  (.seq (.ops [⟨(some 2), .plain (.alloc [(.int .i64 0), (.int .i64 0), (.int .i64 0), (.int .i64 0), (.bool false), (.str ⟨#[]⟩)]), [], none⟩,
    ⟨(some 3), .plain (.alloc [(.int .i64 0)]), [], none⟩] [])
  .skip)
/-- ironbark/rule.safe, behind what it defers -/
def cy239 : SC :=
  (.seq (.ops [⟨(some 5), .plain .mv, [.tmp 0], none⟩,
    ⟨(some 6), .callv, [.tmp 5], none⟩,
    ⟨none, .plain (.store 6), [.tmp 2, .tmp 6], none⟩,
    ⟨none, .plain (.store 1), [.tmp 3, .lit (.int .i64 0)], none⟩] [5, 6])
  .ret)
def cr239 : List Res := [(2, some (true, 6)), (3, some (false, 1))]
theorem ok239 : FOkE Bk.pg.toProgram Bk.imp 239 cx239 4 319 [.tmp 2, .tmp 3] cy239 cr239 Tryz.f239.ntmps := ⟨Tryz.f239, _, _, _, _, Tryz.func239, rfl, by kernel_rfl, rfl, by kernel_rfl, by kernel_rfl, by kernel_rfl, by kernel_rfl, rfl, by decide, rfl⟩

/-- ironbark/rule.safe$1, behind its recover -/
def c319 : SC :=
  (.seq (.ops [⟨(some 7), .plain .mv, [.tmp 2], none⟩,
    ⟨(some 8), .plain (.eqNil false true), [.tmp 7, .lit (.const .nilIface)], none⟩] [7])
  (.cond (.tmp 8)
   (.seq (.ops [⟨(some 10), .plain .mv, [.tmp 2], none⟩,
     ⟨(some 11), .plain (.typeAssert 271 (.agg [(.int .i64 0)])), [.tmp 10], none⟩,
     ⟨(some 9), .plain .mv, [.tmp 11], none⟩,
     ⟨(some 12), .plain (.extract 0), [.tmp 9], none⟩,
     ⟨(some 13), .plain (.extract 1), [.tmp 9], none⟩,
     ⟨(some 3), .plain (.alloc [(.int .i64 0)]), [], none⟩,
     ⟨none, .plain (.store 1), [.tmp 3, .tmp 12], none⟩,
     ⟨(some 4), .plain .mv, [.tmp 13], none⟩] [10, 11, 9, 12, 13])
   (.seq (.seq (.ops [⟨(some 14), .plain .mv, [.tmp 4], none⟩,
     ⟨(some 15), .plain (.un .not), [.tmp 14], none⟩] [14])
   (.cond (.tmp 15)
    (.ops [⟨(some 16), .plain .mv, [.tmp 2], none⟩,
      ⟨none, .panic, [.tmp 16], none⟩] [16])
    .skip))
   (.seq (.ops [⟨(some 5), .plain (.alloc [(.int .i64 0), (.int .i64 0), (.int .i64 0), (.int .i64 0), (.bool false), (.str ⟨#[]⟩)]), [], none⟩] [])
   (.draw (.step ⟨(some 17), .plain (.load true 6), [.tmp 5], none⟩
     (.step ⟨(some 18), .plain (.fieldAddr 0), [.tmp 3], none⟩
     (.or (.step ⟨(some 19), .plain (.load false 1), [.tmp 18], none⟩
     (.step ⟨none, .plain (.store 6), [.tmp 0, .tmp 17], none⟩
     (.step ⟨none, .plain (.store 1), [.tmp 1, .tmp 19], none⟩
     .done)))
     (.step ⟨none, .plain (.store 6), [.tmp 0, .tmp 17], none⟩
     (.step ⟨(some 19), .plain (.load false 1), [.tmp 18], none⟩
     (.step ⟨none, .plain (.store 1), [.tmp 1, .tmp 19], none⟩
     .done)))))) [17, 18, 19]))))
   .skip))
theorem ok319 : FOkR2 Bk.pg.toProgram Bk.imp 319 6 2 c319 Tryz.f319.ntmps := ⟨Tryz.f319, _, _, Tryz.func319, rfl, by kernel_rfl, rfl, by kernel_rfl, by kernel_rfl, rfl, by decide, by decide, rfl⟩

end Go.Pm

/- BkC13: contracts: the rules of types: a number's type, the common type of two alike. -/
namespace Go.Pm
open Go Go.Proofs
attribute [-simp] List.getElem?_map
attribute [simp] nilCheckA postA_norm

theorem call241 {e : Int} : PCalls Bk.pg 241 [.bool true, .int .i64 e] fun out => out = .ret (.tuple []) := by
  refine pcalls_of_acalls 1 (ok241.acalls (by simp) ?_)
  simp [c241, cr241, permOD, permD, mapO]

theorem call319 {x y : AV} {m : Mem} : DCalls Bk.pg 319 [x, y] none m fun m' => m' = m := by
  refine ok319.dcalls (by simp) ?_
  simp [c319, postR_norm]

/-- (A function that is done safely, and does not panic.) -/
theorem call239 {f : FuncId} {caps : List AV} {k p q : Int} {m : Mem}
    (h : ∀ x y : AObj, ACalls Bk.pg f caps ⟨m.store ++ [(m.next, x), (m.next + 1, y)], m.next + 2⟩ fun out m' => out = .ret (.agg (tyN k p q)) ∧ ∃ nx, m' = ⟨m.store ++ [(m.next, x), (m.next + 1, y)], nx⟩) :
    ACalls Bk.pg 239 [.fn f caps] m fun out m' => out = .ret (.tuple [.agg (tyN k p q), .int .i64 0]) ∧ ∃ nx, m' = ⟨m.store, nx⟩ := by
  refine ACalls.forget (ok239.acalls (by simp) ?_)
  simp [cx239, cy239]
  refine xcall_r (h _ _) ?_ ?_
  · rintro v m' ⟨hv, nx, rfl⟩
    cases hv
    simp [tyN, ty, postF_ret]
    refine ⟨_, call319, ?_⟩
    rintro m' rfl
    simp [cr239]
    exact ⟨⟨m.store, _⟩, Mem.le_of rfl (by simp), _, rfl⟩
  · rintro v m' ⟨hv, _⟩
    cases hv

theorem call240 {k p q : Int} {S : List (Nat × AObj)} {nx tp tg : Nat} (h : ValidN k p q) (ht : S[tp]? = some (tg, .cells (tyN k p q))) :
    ACalls Bk.pg 240 [.ptr tp tg 0] ⟨S, nx⟩ fun out m' => out = .ret (.agg (tyN k p q)) ∧ ∃ nx', m' = ⟨S, nx'⟩ := by
  refine ACalls.forget (ok240.acalls (by simp) ?_)
  have c1 := call31 h.1 h.2
  have hk : k = 1 ∨ k = 2 := by have := h.1; omega
  have z4 : eqI k 4 = false := by
    cases h : eqI k 4 with
    | false => rfl
    | true => have := eqI_t.1 h; omega
  have z5 : eqI k 5 = false := by
    cases h : eqI k 5 with
    | false => rfl
    | true => have := eqI_t.1 h; omega
  have z3 : leI k 3 = true := leI_t.2 (by omega)
  have tl := (List.getElem?_eq_some_iff.1 ht).1
  have k1 : ∀ x, (S ++ [x])[tp]? = some (tg, .cells (tyN k p q)) := fun x => by rw [List.getElem?_append_left tl]; exact ht
  simp only [tyN, ty] at c1 k1 ⊢
  simp [c240, k1]
  refine xcall_p c1 (by simp) ?_
  simp
  refine xcall_p (call241 (e := 13)) (by simp) ?_
  simp [k1, z4, z5, z3]
  refine xcall_p (call241 (e := 10)) (by simp) ?_
  simp [k1, cr240]
  exact ⟨⟨S, _⟩, Mem.le_of rfl (by simp), _, rfl⟩

/-- A number's type is a number's type. -/
theorem call159 {k p q : Int} (h : ValidN k p q) : PCalls Bk.pg 159 [.agg (tyN k p q)] fun out => out = .ret (.tuple [.agg (tyN k p q), .int .i64 0]) := by
  refine ok159.pcalls (by simp) ?_
  have c1 := fun (m : Mem) (hm : m.store[0]? = some (0, .cells (tyN k p q))) => call239 (f := 240) (caps := [.ptr 0 0 0]) (k := k) (p := p) (q := q) (m := m) (fun x y => call240 (tp := 0) (tg := 0) h (by
    have := (List.getElem?_eq_some_iff.1 hm).1
    rw [List.getElem?_append_left this]; exact hm))
  simp only [tyN, ty] at c1 ⊢
  simp [c159]
  refine xcall_r (c1 _ rfl) ?_ ?_
  · rintro v m' ⟨hv, nx, rfl⟩
    cases hv
    simp [cr159]
  · rintro v m' ⟨hv, _⟩
    cases hv

/-- Two types that are alike, brought together. -/
theorem call261 {p q : Int} : PCalls Bk.pg 261 [.agg (tyN 1 p q)] fun out => out = .ret (.agg (tyN 1 p q)) := by
  refine ok261.pcalls (by simp) ?_
  have z3 : eqI 1 3 = false := rfl
  have z1 : eqI 1 1 = true := rfl
  simp only [tyN, ty]
  simp [c261, z3]
  refine xcall_p (call241 (e := 10)) (by simp) ?_
  simp [cr261, z1]
theorem call322 {k p q : Int} (hk : k = 1 ∨ k = 2) : PCalls Bk.pg 322 [.agg (tyN k p q), .agg (tyN k p q)] fun out => out = .ret (.tuple [.agg (tyN k p q), .agg (tyN k p q), .int .i64 (if k = 1 then 31 else 15)]) := by
  refine ok322.pcalls (by simp) ?_
  have z13 : eqI 1 3 = false := rfl
  have z11 : eqI 1 1 = true := rfl
  have z23 : eqI 2 3 = false := rfl
  have z21 : eqI 2 1 = false := rfl
  rcases hk with rfl | rfl
  · have c1 := call261 (p := p) (q := q)
    simp only [tyN, ty] at c1 ⊢
    simp [c322, z13, z11]
    refine xdcall_p rfl c1 (by simp) ?_
    simp
    refine xdcall_p rfl c1 (by simp) ?_
    simp [cr322]
  · simp only [tyN, ty]
    simp [c322, z23, z21, cr322]
theorem call250 {k p q : Int} (hk : k = 1 ∨ k = 2) : PCalls Bk.pg 250 [.agg (tyN k p q), .agg (tyN k p q)] fun out => out = .ret (.agg (tyN k p q)) := by
  refine ok250.pcalls (by simp) ?_
  have c1 := call322 (p := p) (q := q) hk
  have zz : ∀ x : Int, eqI x x = true := fun x => eqI_t.2 rfl
  have zs : ((⟨#[]⟩ : ByteArray) == ⟨#[]⟩) = true := by decide
  simp only [tyN, ty] at c1 ⊢
  simp [c250]
  refine xcall_p c1 (by simp) ?_
  simp [zz, zs, cr250, scalarsEq, scalarEq]
end Go.Pm
