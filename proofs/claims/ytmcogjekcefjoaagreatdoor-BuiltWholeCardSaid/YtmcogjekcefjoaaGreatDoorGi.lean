/- BkS4: code, resolved. Printed by ShowSC.lean and genok.py. -/
import Derived.Test.YtmcogjekcefjoaaGreatDoorGa
import Derived.Test.YtmcogjekcefjoaaGreatDoorPmT
namespace Go.Pm
open Go Go.Proofs

/-- ironbark/built.table -/
def c27 : SC :=
  (.seq (.ops [⟨(some 0), .plain .mv, [.lit (.const (.map none))], none⟩] [])
  (.seq (.ops [⟨(some 2), .plain .mkMap, [], none⟩,
    ⟨(some 1), .plain .mv, [.tmp 2], none⟩] [2])
  (.seq (.ops [⟨(some 3), .plain .mv, [.tmp 1], none⟩,
    ⟨(some 4), .call 44, [.tmp 3], none⟩] [3, 4])
  (.seq (.ops [⟨(some 5), .plain .mv, [.tmp 1], none⟩,
    ⟨(some 6), .call 45, [.tmp 5], none⟩] [5, 6])
  (.seq (.ops [⟨(some 7), .plain .mv, [.tmp 1], none⟩,
    ⟨(some 8), .call 46, [.tmp 7], none⟩] [7, 8])
  (.seq (.ops [⟨(some 9), .plain .mv, [.tmp 1], none⟩,
    ⟨(some 0), .plain .mv, [.tmp 9], none⟩] [9])
  .ret))))))
def cr27 : List Res := [(0, none)]
theorem ok27 : FOk Bk.pg.toProgram Bk.imp 27 c27 cr27 Tryz.f27.ntmps := ⟨Tryz.f27, _, Tryz.func27, rfl, by kernel_rfl, by kernel_rfl, by kernel_rfl, rfl⟩

/-- ironbark/built.numeric -/
def c44 : SC :=
  (.seq (.ops [⟨(some 11), .plain .mv, [.tmp 0], none⟩,
    ⟨(some 12), .plain (.build [(.int .i64 0), (.int .i64 0), (.const .nilFunc), (.const .nilFunc)] [(0, 1), (1, 1), (2, 1), (3, 1)]), [.lit (.int .i64 1), .lit (.int .i64 1), .lit (.fn 61 []), .lit (.fn 62 [])], none⟩,
    ⟨none, .plain (.mapUpdate .str), [.tmp 11, .lit (.str ⟨#[65, 66, 83]⟩), .tmp 12], none⟩] [11, 12])
  (.seq (.ops [⟨(some 13), .plain .mv, [.tmp 0], none⟩,
    ⟨(some 14), .plain (.build [(.int .i64 0), (.int .i64 0), (.const .nilFunc), (.const .nilFunc)] [(0, 1), (1, 1), (2, 1), (3, 1)]), [.lit (.int .i64 1), .lit (.int .i64 1), .lit (.fn 65 []), .lit (.fn 68 [])], none⟩,
    ⟨none, .plain (.mapUpdate .str), [.tmp 13, .lit (.str ⟨#[83, 73, 71, 78]⟩), .tmp 14], none⟩] [13, 14])
  (.seq (.seq (.ops [⟨(some 15), .plain .mkMap, [], none⟩,
    ⟨none, .plain (.mapUpdate .str), [.tmp 15, .lit (.str ⟨#[70, 76, 79, 79, 82]⟩), .lit (.int .i64 (-1))], none⟩,
    ⟨none, .plain (.mapUpdate .str), [.tmp 15, .lit (.str ⟨#[67, 69, 73, 76]⟩), .lit (.int .i64 1)], none⟩,
    ⟨none, .plain (.mapUpdate .str), [.tmp 15, .lit (.str ⟨#[84, 82, 85, 78, 67]⟩), .lit (.int .i64 0)], none⟩,
    ⟨(some 16), .plain .mv, [.tmp 15], none⟩,
    ⟨(some 17), .many .rangeM, [.tmp 16], none⟩] [15, 16])
  (.block 0
   (.loop
    (.seq (.ops [⟨(some 18), .many .next, [.tmp 17], none⟩,
      ⟨(some 19), .plain (.extract 0), [.tmp 18], none⟩] [18])
    (.seq (.cond (.tmp 19)
     .skip
     (.exit 0))
    (.block 1
     (.seq (.ops [⟨(some 20), .many .entry, [.tmp 17], none⟩,
       ⟨(some 21), .plain (.extract 0), [.tmp 20], none⟩,
       ⟨(some 22), .plain (.extract 1), [.tmp 20], none⟩,
       ⟨(some 3), .plain (.alloc [(.int .i64 0)]), [], none⟩,
       ⟨(some 2), .plain .mv, [.tmp 21], none⟩,
       ⟨none, .plain (.store 1), [.tmp 3, .tmp 22], none⟩] [20, 21, 22])
     (.ops [⟨(some 23), .plain .mv, [.tmp 0], none⟩,
       ⟨(some 24), .plain .mv, [.tmp 2], none⟩,
       ⟨(some 25), .plain (.mkFn 71), [.tmp 3], none⟩,
       ⟨(some 26), .plain (.build [(.int .i64 0), (.int .i64 0), (.const .nilFunc), (.const .nilFunc)] [(0, 1), (1, 1), (2, 1), (3, 1)]), [.lit (.int .i64 1), .lit (.int .i64 1), .lit (.fn 70 []), .tmp 25], none⟩,
       ⟨none, .plain (.mapUpdate .str), [.tmp 23, .tmp 24, .tmp 26], none⟩] [23, 24, 25, 26]))))))))
  (.seq (.ops [⟨(some 27), .plain .mv, [.tmp 0], none⟩,
    ⟨(some 28), .plain (.build [(.int .i64 0), (.int .i64 0), (.const .nilFunc), (.const .nilFunc)] [(0, 1), (1, 1), (2, 1), (3, 1)]), [.lit (.int .i64 2), .lit (.int .i64 2), .lit (.fn 73 []), .lit (.fn 74 [])], none⟩,
    ⟨none, .plain (.mapUpdate .str), [.tmp 27, .lit (.str ⟨#[82, 79, 85, 78, 68]⟩), .tmp 28], none⟩] [27, 28])
  (.seq (.ops [⟨(some 29), .plain .mv, [.tmp 0], none⟩,
    ⟨(some 30), .plain (.build [(.int .i64 0), (.int .i64 0), (.const .nilFunc), (.const .nilFunc)] [(0, 1), (1, 1), (2, 1), (3, 1)]), [.lit (.int .i64 2), .lit (.int .i64 2), .lit (.fn 75 []), .lit (.fn 76 [])], none⟩,
    ⟨none, .plain (.mapUpdate .str), [.tmp 29, .lit (.str ⟨#[77, 79, 68]⟩), .tmp 30], none⟩] [29, 30])
  (.seq (.seq (.ops [⟨(some 31), .plain .mkMap, [], none⟩,
    ⟨none, .plain (.mapUpdate .str), [.tmp 31, .lit (.str ⟨#[77, 65, 88]⟩), .lit (.int .i64 1)], none⟩,
    ⟨none, .plain (.mapUpdate .str), [.tmp 31, .lit (.str ⟨#[77, 73, 78]⟩), .lit (.int .i64 (-1))], none⟩,
    ⟨(some 32), .plain .mv, [.tmp 31], none⟩,
    ⟨(some 33), .many .rangeM, [.tmp 32], none⟩] [31, 32])
  (.block 2
   (.loop
    (.seq (.ops [⟨(some 34), .many .next, [.tmp 33], none⟩,
      ⟨(some 35), .plain (.extract 0), [.tmp 34], none⟩] [34])
    (.seq (.cond (.tmp 35)
     .skip
     (.exit 2))
    (.block 3
     (.seq (.ops [⟨(some 36), .many .entry, [.tmp 33], none⟩,
       ⟨(some 37), .plain (.extract 0), [.tmp 36], none⟩,
       ⟨(some 38), .plain (.extract 1), [.tmp 36], none⟩,
       ⟨(some 5), .plain (.alloc [(.int .i64 0)]), [], none⟩,
       ⟨(some 4), .plain .mv, [.tmp 37], none⟩,
       ⟨none, .plain (.store 1), [.tmp 5, .tmp 38], none⟩] [36, 37, 38])
     (.ops [⟨(some 39), .plain .mv, [.tmp 0], none⟩,
       ⟨(some 40), .plain .mv, [.tmp 4], none⟩,
       ⟨(some 41), .plain (.mkFn 77), [.tmp 5], none⟩,
       ⟨(some 42), .plain (.build [(.int .i64 0), (.int .i64 0), (.const .nilFunc), (.const .nilFunc)] [(0, 1), (1, 1), (2, 1), (3, 1)]), [.lit (.int .i64 1), .lit (.int .i64 20), .lit (.fn 75 []), .tmp 41], none⟩,
       ⟨none, .plain (.mapUpdate .str), [.tmp 39, .tmp 40, .tmp 42], none⟩] [39, 40, 41, 42]))))))))
  (.seq (.seq (.ops [⟨(some 43), .plain .mkMap, [], none⟩,
    ⟨none, .plain (.mapUpdate .str), [.tmp 43, .lit (.str ⟨#[65, 68, 68]⟩), .lit (.fn 79 [])], none⟩,
    ⟨none, .plain (.mapUpdate .str), [.tmp 43, .lit (.str ⟨#[83, 85, 66, 84, 82, 65, 67, 84]⟩), .lit (.fn 80 [])], none⟩,
    ⟨none, .plain (.mapUpdate .str), [.tmp 43, .lit (.str ⟨#[77, 85, 76, 84, 73, 80, 76, 89]⟩), .lit (.fn 81 [])], none⟩,
    ⟨none, .plain (.mapUpdate .str), [.tmp 43, .lit (.str ⟨#[68, 73, 86, 73, 68, 69]⟩), .lit (.fn 82 [])], none⟩,
    ⟨(some 44), .plain .mv, [.tmp 43], none⟩,
    ⟨(some 45), .many .rangeM, [.tmp 44], none⟩] [43, 44])
  (.block 4
   (.loop
    (.seq (.ops [⟨(some 46), .many .next, [.tmp 45], none⟩,
      ⟨(some 47), .plain (.extract 0), [.tmp 46], none⟩] [46])
    (.seq (.cond (.tmp 47)
     .skip
     (.exit 4))
    (.block 5
     (.seq (.ops [⟨(some 48), .many .entry, [.tmp 45], none⟩,
       ⟨(some 49), .plain (.extract 0), [.tmp 48], none⟩,
       ⟨(some 50), .plain (.extract 1), [.tmp 48], none⟩,
       ⟨(some 7), .plain (.alloc [(.const .nilFunc)]), [], none⟩,
       ⟨(some 6), .plain .mv, [.tmp 49], none⟩,
       ⟨none, .plain (.store 1), [.tmp 7, .tmp 50], none⟩] [48, 49, 50])
     (.ops [⟨(some 51), .plain .mv, [.tmp 0], none⟩,
       ⟨(some 52), .plain .mv, [.tmp 6], none⟩,
       ⟨(some 53), .plain (.mkFn 84), [.tmp 7], none⟩,
       ⟨(some 54), .plain (.build [(.int .i64 0), (.int .i64 0), (.const .nilFunc), (.const .nilFunc)] [(0, 1), (1, 1), (2, 1), (3, 1)]), [.lit (.int .i64 3), .lit (.int .i64 4), .lit (.fn 83 []), .tmp 53], none⟩,
       ⟨none, .plain (.mapUpdate .str), [.tmp 51, .tmp 52, .tmp 54], none⟩] [51, 52, 53, 54]))))))))
  (.seq (.ops [⟨(some 55), .plain .mkMap, [], none⟩,
    ⟨none, .plain (.mapUpdate .str), [.tmp 55, .lit (.str ⟨#[70, 73, 88, 69, 68]⟩), .lit (.int .i64 0)], none⟩,
    ⟨none, .plain (.mapUpdate .str), [.tmp 55, .lit (.str ⟨#[66, 73, 78, 65, 82, 89]⟩), .lit (.int .i64 1)], none⟩,
    ⟨none, .plain (.mapUpdate .str), [.tmp 55, .lit (.str ⟨#[68, 69, 67, 73, 77, 65, 76]⟩), .lit (.int .i64 2)], none⟩,
    ⟨none, .plain (.mapUpdate .str), [.tmp 55, .lit (.str ⟨#[70, 76, 79, 65, 84]⟩), .lit (.int .i64 3)], none⟩,
    ⟨(some 56), .plain .mv, [.tmp 55], none⟩,
    ⟨(some 57), .many .rangeM, [.tmp 56], none⟩] [55, 56])
  (.block 6
   (.loop
    (.seq (.ops [⟨(some 58), .many .next, [.tmp 57], none⟩,
      ⟨(some 59), .plain (.extract 0), [.tmp 58], none⟩] [58])
    (.seq (.cond (.tmp 59)
     .skip
     (.exit 6))
    (.block 7
     (.seq (.ops [⟨(some 60), .many .entry, [.tmp 57], none⟩,
       ⟨(some 61), .plain (.extract 0), [.tmp 60], none⟩,
       ⟨(some 62), .plain (.extract 1), [.tmp 60], none⟩,
       ⟨(some 9), .plain (.alloc [(.int .i64 0)]), [], none⟩,
       ⟨(some 8), .plain .mv, [.tmp 61], none⟩,
       ⟨none, .plain (.store 1), [.tmp 9, .tmp 62], none⟩] [60, 61, 62])
     (.seq (.ops [⟨(some 10), .plain .mv, [.lit (.int .i64 3)], none⟩] [])
     (.seq (.seq (.ops [⟨(some 63), .plain (.load false 1), [.tmp 9], none⟩,
       ⟨(some 64), .plain (.bin .eql), [.tmp 63, .lit (.int .i64 3)], none⟩] [63])
     (.cond (.tmp 64)
      (.ops [⟨(some 10), .plain .mv, [.lit (.int .i64 2)], none⟩] [])
      .skip))
     (.ops [⟨(some 65), .plain .mv, [.tmp 0], none⟩,
       ⟨(some 66), .plain .mv, [.tmp 8], none⟩,
       ⟨(some 67), .plain .mv, [.tmp 10], none⟩,
       ⟨(some 68), .plain (.mkFn 87), [.tmp 9], none⟩,
       ⟨(some 69), .plain (.build [(.int .i64 0), (.int .i64 0), (.const .nilFunc), (.const .nilFunc)] [(0, 1), (1, 1), (2, 1), (3, 1)]), [.lit (.int .i64 1), .tmp 67, .tmp 68, .lit (.fn 89 [])], none⟩,
       ⟨none, .plain (.mapUpdate .str), [.tmp 65, .tmp 66, .tmp 69], none⟩] [65, 66, 67, 68, 69])))))))))))))))))
def cr44 : List Res := []
theorem ok44 : FOk Bk.pg.toProgram Bk.imp 44 c44 cr44 Tryz.f44.ntmps := ⟨Tryz.f44, _, Tryz.func44, rfl, by kernel_rfl, by kernel_rfl, by kernel_rfl, rfl⟩

/-- ironbark/built.textual -/
def c45 : SC :=
  (.seq (.ops [⟨(some 2), .plain .mv, [.lit (.fn 90 [])], none⟩] [])
  (.seq (.ops [⟨(some 3), .plain (.alloc [(.const .nilFunc)]), [], none⟩,
    ⟨none, .plain (.store 1), [.tmp 3, .lit (.fn 92 [])], none⟩] [])
  (.seq (.ops [⟨(some 4), .plain .mv, [.tmp 0], none⟩,
    ⟨(some 5), .plain .mv, [.tmp 2], none⟩,
    ⟨(some 6), .plain (.build [(.int .i64 0), (.int .i64 0), (.const .nilFunc), (.const .nilFunc)] [(0, 1), (1, 1), (2, 1), (3, 1)]), [.lit (.int .i64 1), .lit (.int .i64 1), .tmp 5, .lit (.fn 94 [])], none⟩,
    ⟨none, .plain (.mapUpdate .str), [.tmp 4, .lit (.str ⟨#[76, 69, 78, 71, 84, 72]⟩), .tmp 6], none⟩] [4, 5, 6])
  (.seq (.ops [⟨(some 7), .plain .mv, [.tmp 0], none⟩,
    ⟨(some 8), .plain (.build [(.int .i64 0), (.int .i64 0), (.const .nilFunc), (.const .nilFunc)] [(0, 1), (1, 1), (2, 1), (3, 1)]), [.lit (.int .i64 2), .lit (.int .i64 3), .lit (.fn 95 []), .lit (.fn 96 [])], none⟩,
    ⟨none, .plain (.mapUpdate .str), [.tmp 7, .lit (.str ⟨#[83, 85, 66, 83, 84, 82]⟩), .tmp 8], none⟩] [7, 8])
  (.seq (.ops [⟨(some 9), .plain .mv, [.tmp 0], none⟩,
    ⟨(some 10), .plain .mv, [.tmp 2], none⟩,
    ⟨(some 11), .plain (.mkFn 97), [.tmp 3], none⟩,
    ⟨(some 12), .plain (.build [(.int .i64 0), (.int .i64 0), (.const .nilFunc), (.const .nilFunc)] [(0, 1), (1, 1), (2, 1), (3, 1)]), [.lit (.int .i64 2), .lit (.int .i64 2), .tmp 10, .tmp 11], none⟩,
    ⟨none, .plain (.mapUpdate .str), [.tmp 9, .lit (.str ⟨#[73, 78, 68, 69, 88]⟩), .tmp 12], none⟩] [9, 10, 11, 12])
  (.ops [⟨(some 13), .plain .mv, [.tmp 0], none⟩,
    ⟨(some 14), .plain .mv, [.tmp 2], none⟩,
    ⟨(some 15), .plain (.mkFn 99), [.tmp 3], none⟩,
    ⟨(some 16), .plain (.build [(.int .i64 0), (.int .i64 0), (.const .nilFunc), (.const .nilFunc)] [(0, 1), (1, 1), (2, 1), (3, 1)]), [.lit (.int .i64 2), .lit (.int .i64 2), .tmp 14, .tmp 15], none⟩,
    ⟨none, .plain (.mapUpdate .str), [.tmp 13, .lit (.str ⟨#[86, 69, 82, 73, 70, 89]⟩), .tmp 16], none⟩] [13, 14, 15, 16]))))))
def cr45 : List Res := []
theorem ok45 : FOk Bk.pg.toProgram Bk.imp 45 c45 cr45 Tryz.f45.ntmps := ⟨Tryz.f45, _, Tryz.func45, rfl, by kernel_rfl, by kernel_rfl, by kernel_rfl, rfl⟩

/-- ironbark/built.changing -/
def c46 : SC :=
  (.seq (.ops [⟨(some 2), .plain .mv, [.lit (.fn 101 [])], none⟩] [])
  (.seq (.ops [⟨(some 8), .plain .mv, [.tmp 0], none⟩,
    ⟨(some 9), .plain (.build [(.int .i64 0), (.int .i64 0), (.const .nilFunc), (.const .nilFunc)] [(0, 1), (1, 1), (2, 1), (3, 1)]), [.lit (.int .i64 3), .lit (.int .i64 3), .lit (.fn 102 []), .lit (.fn 103 [])], none⟩,
    ⟨none, .plain (.mapUpdate .str), [.tmp 8, .lit (.str ⟨#[84, 82, 65, 78, 83, 76, 65, 84, 69]⟩), .tmp 9], none⟩] [8, 9])
  (.seq (.ops [⟨(some 3), .plain .mv, [.lit (.fn 106 [])], none⟩] [])
  (.seq (.ops [⟨(some 10), .plain .mv, [.tmp 0], none⟩,
    ⟨(some 11), .plain .mv, [.tmp 3], none⟩,
    ⟨(some 12), .plain (.build [(.int .i64 0), (.int .i64 0), (.const .nilFunc), (.const .nilFunc)] [(0, 1), (1, 1), (2, 1), (3, 1)]), [.lit (.int .i64 2), .lit (.int .i64 2), .tmp 11, .lit (.fn 108 [])], none⟩,
    ⟨none, .plain (.mapUpdate .str), [.tmp 10, .lit (.str ⟨#[82, 69, 80, 69, 65, 84]⟩), .tmp 12], none⟩] [10, 11, 12])
  (.seq (.ops [⟨(some 13), .plain .mv, [.tmp 0], none⟩,
    ⟨(some 14), .plain .mv, [.tmp 3], none⟩,
    ⟨(some 15), .plain (.build [(.int .i64 0), (.int .i64 0), (.const .nilFunc), (.const .nilFunc)] [(0, 1), (1, 1), (2, 1), (3, 1)]), [.lit (.int .i64 2), .lit (.int .i64 2), .tmp 14, .lit (.fn 110 [])], none⟩,
    ⟨none, .plain (.mapUpdate .str), [.tmp 13, .lit (.str ⟨#[67, 79, 80, 89]⟩), .tmp 15], none⟩] [13, 14, 15])
  (.seq (.ops [⟨(some 16), .plain .mv, [.tmp 0], none⟩,
    ⟨(some 17), .plain .mv, [.tmp 2], none⟩,
    ⟨(some 18), .plain (.build [(.int .i64 0), (.int .i64 0), (.const .nilFunc), (.const .nilFunc)] [(0, 1), (1, 1), (2, 1), (3, 1)]), [.lit (.int .i64 1), .lit (.int .i64 1), .tmp 17, .lit (.fn 111 [])], none⟩,
    ⟨none, .plain (.mapUpdate .str), [.tmp 16, .lit (.str ⟨#[82, 69, 86, 69, 82, 83, 69]⟩), .tmp 18], none⟩] [16, 17, 18])
  (.seq (.ops [⟨(some 19), .plain .mv, [.tmp 0], none⟩,
    ⟨(some 20), .plain .mv, [.tmp 2], none⟩,
    ⟨(some 21), .plain (.build [(.int .i64 0), (.int .i64 0), (.const .nilFunc), (.const .nilFunc)] [(0, 1), (1, 1), (2, 1), (3, 1)]), [.lit (.int .i64 1), .lit (.int .i64 1), .tmp 20, .lit (.fn 113 [])], none⟩,
    ⟨none, .plain (.mapUpdate .str), [.tmp 19, .lit (.str ⟨#[83, 84, 82, 73, 78, 71]⟩), .tmp 21], none⟩] [19, 20, 21])
  (.seq (.ops [⟨(some 22), .plain .mv, [.tmp 0], none⟩,
    ⟨(some 23), .plain (.build [(.int .i64 0), (.int .i64 0), (.const .nilFunc), (.const .nilFunc)] [(0, 1), (1, 1), (2, 1), (3, 1)]), [.lit (.int .i64 3), .lit (.int .i64 3), .lit (.fn 114 []), .lit (.fn 115 [])], none⟩,
    ⟨none, .plain (.mapUpdate .str), [.tmp 22, .lit (.str ⟨#[66, 79, 79, 76]⟩), .tmp 23], none⟩] [22, 23])
  (.seq (.seq (.ops [⟨(some 24), .plain .mkMap, [], none⟩,
    ⟨none, .plain (.mapUpdate .str), [.tmp 24, .lit (.str ⟨#[67, 72, 65, 82]⟩), .lit (.int .i64 4)], none⟩,
    ⟨none, .plain (.mapUpdate .str), [.tmp 24, .lit (.str ⟨#[66, 73, 84]⟩), .lit (.int .i64 5)], none⟩,
    ⟨(some 25), .plain .mv, [.tmp 24], none⟩,
    ⟨(some 26), .many .rangeM, [.tmp 25], none⟩] [24, 25])
  (.block 0
   (.loop
    (.seq (.ops [⟨(some 27), .many .next, [.tmp 26], none⟩,
      ⟨(some 28), .plain (.extract 0), [.tmp 27], none⟩] [27])
    (.seq (.cond (.tmp 28)
     .skip
     (.exit 0))
    (.block 1
     (.seq (.ops [⟨(some 29), .many .entry, [.tmp 26], none⟩,
       ⟨(some 30), .plain (.extract 0), [.tmp 29], none⟩,
       ⟨(some 31), .plain (.extract 1), [.tmp 29], none⟩,
       ⟨(some 5), .plain (.alloc [(.int .i64 0)]), [], none⟩,
       ⟨(some 4), .plain .mv, [.tmp 30], none⟩,
       ⟨none, .plain (.store 1), [.tmp 5, .tmp 31], none⟩] [29, 30, 31])
     (.ops [⟨(some 32), .plain .mv, [.tmp 0], none⟩,
       ⟨(some 33), .plain .mv, [.tmp 4], none⟩,
       ⟨(some 34), .plain (.mkFn 118), [.tmp 5], none⟩,
       ⟨(some 35), .plain (.build [(.int .i64 0), (.int .i64 0), (.const .nilFunc), (.const .nilFunc)] [(0, 1), (1, 1), (2, 1), (3, 1)]), [.lit (.int .i64 1), .lit (.int .i64 2), .tmp 34, .lit (.fn 121 [])], none⟩,
       ⟨none, .plain (.mapUpdate .str), [.tmp 32, .tmp 33, .tmp 35], none⟩] [32, 33, 34, 35]))))))))
  (.seq (.ops [⟨(some 36), .plain .mkMap, [], none⟩,
    ⟨none, .plain (.mapUpdate .str), [.tmp 36, .lit (.str ⟨#[72, 73, 71, 72]⟩), .lit (.fn 123 [])], none⟩,
    ⟨none, .plain (.mapUpdate .str), [.tmp 36, .lit (.str ⟨#[76, 79, 87]⟩), .lit (.fn 124 [])], none⟩,
    ⟨(some 37), .plain .mv, [.tmp 36], none⟩,
    ⟨(some 38), .many .rangeM, [.tmp 37], none⟩] [36, 37])
  (.block 2
   (.loop
    (.seq (.ops [⟨(some 39), .many .next, [.tmp 38], none⟩,
      ⟨(some 40), .plain (.extract 0), [.tmp 39], none⟩] [39])
    (.seq (.cond (.tmp 40)
     .skip
     (.exit 2))
    (.block 3
     (.seq (.ops [⟨(some 41), .many .entry, [.tmp 38], none⟩,
       ⟨(some 42), .plain (.extract 0), [.tmp 41], none⟩,
       ⟨(some 43), .plain (.extract 1), [.tmp 41], none⟩,
       ⟨(some 7), .plain (.alloc [(.const .nilFunc)]), [], none⟩,
       ⟨(some 6), .plain .mv, [.tmp 42], none⟩,
       ⟨none, .plain (.store 1), [.tmp 7, .tmp 43], none⟩] [41, 42, 43])
     (.ops [⟨(some 44), .plain .mv, [.tmp 0], none⟩,
       ⟨(some 45), .plain .mv, [.tmp 6], none⟩,
       ⟨(some 46), .plain (.mkFn 126), [.tmp 7], none⟩,
       ⟨(some 47), .plain (.build [(.int .i64 0), (.int .i64 0), (.const .nilFunc), (.const .nilFunc)] [(0, 1), (1, 1), (2, 1), (3, 1)]), [.lit (.int .i64 1), .lit (.int .i64 1), .lit (.fn 125 []), .tmp 46], none⟩,
       ⟨none, .plain (.mapUpdate .str), [.tmp 44, .tmp 45, .tmp 47], none⟩] [44, 45, 46, 47])))))))))))))))))
def cr46 : List Res := []
theorem ok46 : FOk Bk.pg.toProgram Bk.imp 46 c46 cr46 Tryz.f46.ntmps := ⟨Tryz.f46, _, Tryz.func46, rfl, by kernel_rfl, by kernel_rfl, by kernel_rfl, rfl⟩

/-- ironbark/built.within -/
def c29 : SC :=
  (.seq (.ops [⟨(some 6), .plain .mv, [.lit (.bool false)], none⟩] [])
  (.seq (.ops [⟨(some 7), .plain .mv, [.tmp 0], none⟩,
    ⟨(some 8), .plain .mv, [.tmp 1], none⟩,
    ⟨(some 9), .plain (.bin .geq), [.tmp 7, .tmp 8], none⟩,
    ⟨(some 10), .plain .mv, [.tmp 9], none⟩,
    ⟨(some 11), .plain .mv, [.tmp 0], (some (10, true))⟩,
    ⟨(some 12), .plain .mv, [.tmp 2], (some (10, true))⟩,
    ⟨(some 13), .plain (.bin .leq), [.tmp 11, .tmp 12], (some (10, true))⟩,
    ⟨(some 14), .plain .pick, [.tmp 10, .tmp 13, .lit (.bool false)], none⟩,
    ⟨(some 6), .plain .mv, [.tmp 14], none⟩] [7, 8, 9, 10, 11, 12, 13, 14])
  .ret))
def cr29 : List Res := [(6, none)]
theorem ok29 : FOk Bk.pg.toProgram Bk.imp 29 c29 cr29 Tryz.f29.ntmps := ⟨Tryz.f29, _, Tryz.func29, rfl, by kernel_rfl, by kernel_rfl, by kernel_rfl, rfl⟩

/-- ironbark/built.must -/
def c28 : SC :=
  (.seq (.ops [⟨(some 4), .plain .mv, [.tmp 0], none⟩,
    ⟨(some 5), .plain (.un .not), [.tmp 4], none⟩] [4])
  (.cond (.tmp 5)
   (.ops [⟨(some 6), .plain .mv, [.tmp 1], none⟩,
     ⟨(some 7), .plain (.build [(.int .i64 0)] [(0, 1)]), [.tmp 6], none⟩,
     ⟨(some 8), .plain (.mkIface 78), [.tmp 7], none⟩,
     ⟨none, .panic, [.tmp 8], none⟩] [6, 7, 8])
   .skip))
def cr28 : List Res := []
theorem ok28 : FOk Bk.pg.toProgram Bk.imp 28 c28 cr28 Tryz.f28.ntmps := ⟨Tryz.f28, _, Tryz.func28, rfl, by kernel_rfl, by kernel_rfl, by kernel_rfl, rfl⟩

/-- ironbark/built.arguments -/
def c30 : SC :=
  (.seq (.ops [⟨(some 1), .plain (.box 1), [.tmp 0], none⟩,
    ⟨(some 2), .plain .mv, [.lit (.const .nilFunc)], none⟩] [])
  (.seq (.ops [⟨(some 3), .plain (.mkFn 47), [.tmp 1], none⟩,
    ⟨(some 2), .plain .mv, [.tmp 3], none⟩] [3])
  .ret))
def cr30 : List Res := [(2, none)]
theorem ok30 : FOk Bk.pg.toProgram Bk.imp 30 c30 cr30 Tryz.f30.ntmps := ⟨Tryz.f30, _, Tryz.func30, rfl, by kernel_rfl, by kernel_rfl, by kernel_rfl, rfl⟩

/-- ironbark/built.arguments$1 -/
def c47 : SC :=
  (.seq (.ops [⟨(some 4), .plain (.load false 1), [.tmp 1], none⟩,
    ⟨(some 5), .plain .mv, [.lit (.int .i64 0)], none⟩] [])
  (.block 0
   (.loop
    (.seq (.ops [⟨(some 6), .plain (.bin .lss), [.tmp 5, .tmp 4], none⟩] [])
    (.seq (.cond (.tmp 6)
     .skip
     (.exit 0))
    (.seq (.block 1
     (.seq (.ops [⟨(some 7), .plain .mv, [.tmp 5], none⟩,
       ⟨(some 3), .plain .mv, [.tmp 7], none⟩] [7])
     (.seq (.ops [⟨(some 8), .plain .mv, [.tmp 0], none⟩,
       ⟨(some 9), .plain .mv, [.tmp 3], none⟩,
       ⟨(some 10), .callv, [.tmp 8, .tmp 9], none⟩,
       ⟨(some 11), .plain (.un .not), [.tmp 10], none⟩] [8, 9, 10])
     (.cond (.tmp 11)
      .ret
      .skip))))
    (.ops [⟨(some 12), .plain (.bin .add), [.tmp 5, .lit (.int .i64 1)], none⟩,
      ⟨(some 5), .plain .mv, [.tmp 12], none⟩] [12])))))))
def cr47 : List Res := []
theorem ok47 : FOk Bk.pg.toProgram Bk.imp 47 c47 cr47 Tryz.f47.ntmps := ⟨Tryz.f47, _, Tryz.func47, rfl, by kernel_rfl, by kernel_rfl, by kernel_rfl, rfl⟩

/-- ironbark/built.valid -/
def c32 : SC :=
  (.seq (.ops [⟨(some 1), .plain (.box 4), [.tmp 0], none⟩,
    ⟨(some 2), .plain .mv, [.lit (.bool false)], none⟩] [])
  (.seq (.seq (.ops [⟨(some 3), .plain (.fieldAddr 0), [.tmp 1], none⟩,
    ⟨(some 4), .plain (.load false 1), [.tmp 3], none⟩,
    ⟨(some 5), .plain (.bin .eql), [.tmp 4, .lit (.int .i64 4)], none⟩,
    ⟨(some 6), .plain .mv, [.tmp 5], none⟩,
    ⟨(some 7), .plain (.fieldAddr 0), [.tmp 1], (some (6, false))⟩,
    ⟨(some 8), .plain (.load false 1), [.tmp 7], (some (6, false))⟩,
    ⟨(some 9), .plain (.bin .eql), [.tmp 8, .lit (.int .i64 5)], (some (6, false))⟩,
    ⟨(some 10), .plain .pick, [.tmp 6, .lit (.bool true), .tmp 9], none⟩] [3, 4, 5, 6, 7, 8, 9])
  (.cond (.tmp 10)
   (.seq (.ops [⟨(some 11), .plain (.load true 4), [.tmp 1], none⟩,
     ⟨(some 12), .call 50, [.tmp 11], none⟩,
     ⟨(some 2), .plain .mv, [.tmp 12], none⟩] [11, 12])
   .ret)
   .skip))
  (.seq (.ops [⟨(some 13), .plain (.load true 4), [.tmp 1], none⟩,
    ⟨(some 14), .call 51, [.tmp 13], none⟩,
    ⟨(some 2), .plain .mv, [.tmp 14], none⟩] [13, 14])
  .ret)))
def cr32 : List Res := [(2, none)]
theorem ok32 : FOk Bk.pg.toProgram Bk.imp 32 c32 cr32 Tryz.f32.ntmps := ⟨Tryz.f32, _, Tryz.func32, rfl, by kernel_rfl, by kernel_rfl, by kernel_rfl, rfl⟩

/-- ironbark/built.kind -/
def c34 : SC :=
  (.seq (.ops [⟨(some 2), .plain (.box 4), [.tmp 0], none⟩,
    ⟨(some 3), .plain (.box 1), [.tmp 1], none⟩,
    ⟨(some 4), .plain .mv, [.lit (.int .i64 0)], none⟩] [])
  (.seq (.seq (.ops [⟨(some 12), .plain (.buildRow 3 1 2 [(.int .i64 0)] [0, 1]), [.lit (.int .i64 1), .lit (.int .i64 0)], none⟩,
    ⟨(some 13), .plain (.len 1), [.tmp 12], none⟩,
    ⟨(some 14), .plain .mv, [.lit (.int .i64 0)], none⟩] [])
  (.block 0
   (.loop
    (.seq (.ops [⟨(some 15), .plain (.bin .lss), [.tmp 14, .tmp 13], none⟩] [])
    (.seq (.cond (.tmp 15)
     .skip
     (.exit 0))
    (.seq (.block 1
     (.seq (.ops [⟨(some 16), .plain (.indexAddr 1), [.tmp 12, .tmp 14], none⟩,
       ⟨(some 17), .plain (.load false 1), [.tmp 16], none⟩,
       ⟨(some 6), .plain .mv, [.tmp 17], none⟩] [16, 17])
     (.seq (.ops [⟨(some 18), .plain (.load false 1), [.tmp 3], none⟩,
       ⟨(some 19), .plain (.len 1), [.tmp 18], none⟩,
       ⟨(some 20), .plain (.mkRow 24 [(.int .i64 0), (.int .i64 0), (.int .i64 0), (.str ⟨#[]⟩)] 40), [.tmp 19, .tmp 19], none⟩,
       ⟨(some 7), .plain (.alloc [.nilS]), [], none⟩,
       ⟨none, .plain (.store 1), [.tmp 7, .tmp 20], none⟩] [18, 19, 20])
     (.seq (.seq (.ops [⟨(some 21), .plain (.load false 1), [.tmp 3], none⟩,
       ⟨(some 22), .plain (.len 1), [.tmp 21], none⟩,
       ⟨(some 23), .plain .mv, [.lit (.int .i64 0)], none⟩] [])
     (.block 2
      (.loop
       (.seq (.ops [⟨(some 24), .plain (.bin .lss), [.tmp 23, .tmp 22], none⟩] [])
       (.seq (.cond (.tmp 24)
        .skip
        (.exit 2))
       (.seq (.block 3
        (.seq (.ops [⟨(some 25), .plain .mv, [.tmp 23], none⟩,
          ⟨(some 26), .plain (.indexAddr 6), [.tmp 21, .tmp 23], none⟩,
          ⟨(some 27), .plain (.load true 6), [.tmp 26], none⟩,
          ⟨(some 9), .plain (.alloc [(.int .i64 0), (.int .i64 0), (.int .i64 0), (.int .i64 0), (.bool false), (.str ⟨#[]⟩)]), [], none⟩,
          ⟨(some 8), .plain .mv, [.tmp 25], none⟩,
          ⟨none, .plain (.store 6), [.tmp 9, .tmp 27], none⟩] [25, 26, 27])
        (.draw (.step ⟨(some 28), .plain (.load false 1), [.tmp 7], none⟩
          (.step ⟨(some 29), .plain .mv, [.tmp 8], none⟩
          (.step ⟨(some 30), .plain (.load true 6), [.tmp 9], none⟩
          (.step ⟨(some 31), .plain .mv, [.tmp 6], none⟩
          (.step ⟨(some 32), .call 53, [.tmp 30, .tmp 31], none⟩
          (.step ⟨(some 33), .plain (.indexAddr 4), [.tmp 28, .tmp 29], none⟩
          (.step ⟨none, .plain (.store 4), [.tmp 33, .tmp 32], none⟩
          .done))))))) [28, 29, 30, 31, 32, 33])))
       (.ops [⟨(some 34), .plain (.bin .add), [.tmp 23, .lit (.int .i64 1)], none⟩,
         ⟨(some 23), .plain .mv, [.tmp 34], none⟩] [34])))))))
     (.seq (.ops [⟨(some 10), .plain (.alloc [(.int .i64 0), (.int .i64 0), (.int .i64 0), (.int .i64 0), (.bool false), (.str ⟨#[]⟩)]), [], none⟩] [])
     (.seq (.ops [⟨(some 35), .plain (.mkFn 54), [.tmp 2, .tmp 3, .tmp 7, .tmp 10], none⟩,
       ⟨(some 36), .call 25, [.tmp 35], none⟩,
       ⟨(some 11), .plain .mv, [.tmp 36], none⟩] [35, 36])
     (.seq (.ops [⟨(some 37), .plain .mv, [.tmp 11], none⟩,
       ⟨(some 38), .plain (.bin .eql), [.tmp 37, .lit (.int .i64 0)], none⟩] [37])
     (.cond (.tmp 38)
      (.seq (.ops [⟨(some 39), .plain (.fieldAddr 0), [.tmp 10], none⟩,
        ⟨(some 40), .plain (.load false 1), [.tmp 39], none⟩,
        ⟨(some 4), .plain .mv, [.tmp 40], none⟩] [39, 40])
      .ret)
      (.seq (.ops [⟨(some 41), .plain .mv, [.tmp 11], none⟩,
        ⟨(some 42), .plain (.bin .eql), [.tmp 41, .lit (.int .i64 10)], none⟩] [41])
      (.cond (.tmp 42)
       (.ops [⟨(some 43), .plain .mv, [.tmp 11], none⟩,
         ⟨(some 44), .plain (.build [(.int .i64 0)] [(0, 1)]), [.tmp 43], none⟩,
         ⟨(some 45), .plain (.mkIface 78), [.tmp 44], none⟩,
         ⟨none, .panic, [.tmp 45], none⟩] [43, 44, 45])
       .skip))))))))))
    (.ops [⟨(some 46), .plain (.bin .add), [.tmp 14, .lit (.int .i64 1)], none⟩,
      ⟨(some 14), .plain .mv, [.tmp 46], none⟩] [46])))))))
  (.seq (.ops [⟨(some 4), .plain .mv, [.lit (.int .i64 0)], none⟩] [])
  .ret)))
def cr34 : List Res := [(4, none)]
theorem ok34 : FOk Bk.pg.toProgram Bk.imp 34 c34 cr34 Tryz.f34.ntmps := ⟨Tryz.f34, _, Tryz.func34, rfl, by kernel_rfl, by kernel_rfl, by kernel_rfl, rfl⟩

/-- ironbark/built.kind$1 -/
def c54 : SC :=
  (.ops [⟨(some 4), .plain (.fieldAddr 2), [.tmp 0], none⟩,
    ⟨(some 5), .plain (.load false 1), [.tmp 4], none⟩,
    ⟨(some 6), .plain (.load false 1), [.tmp 1], none⟩,
    ⟨(some 7), .plain (.load false 1), [.tmp 2], none⟩,
    ⟨(some 8), .plain (.build [.nilS, .nilS] [(0, 1), (1, 1)]), [.tmp 6, .tmp 7], none⟩,
    ⟨(some 9), .callv, [.tmp 5, .tmp 8], none⟩,
    ⟨none, .plain (.store 6), [.tmp 3, .tmp 9], none⟩] [4, 5, 6, 7, 8, 9])
def cr54 : List Res := []
theorem ok54 : FOk Bk.pg.toProgram Bk.imp 54 c54 cr54 Tryz.f54.ntmps := ⟨Tryz.f54, _, Tryz.func54, rfl, by kernel_rfl, by kernel_rfl, by kernel_rfl, rfl⟩

/-- ironbark/built.sample -/
def c53 : SC :=
  (.seq (.ops [⟨(some 2), .plain (.box 6), [.tmp 0], none⟩,
    ⟨(some 4), .plain (.alloc [(.int .i64 0), (.int .i64 0), (.int .i64 0), (.str ⟨#[]⟩)]), [], none⟩] [])
  (.seq (.seq (.ops [⟨(some 14), .plain .mv, [.tmp 1], none⟩,
    ⟨(some 15), .call 135, [.tmp 14], none⟩,
    ⟨(some 5), .plain .mv, [.tmp 15], none⟩] [14, 15])
  (.seq (.ops [⟨(some 16), .plain (.fieldAddr 0), [.tmp 2], none⟩,
    ⟨(some 17), .plain (.load false 1), [.tmp 16], none⟩,
    ⟨(some 18), .plain (.bin .eql), [.tmp 17, .lit (.int .i64 4)], none⟩,
    ⟨(some 19), .plain .mv, [.tmp 18], none⟩,
    ⟨(some 20), .plain (.fieldAddr 0), [.tmp 2], (some (19, false))⟩,
    ⟨(some 21), .plain (.load false 1), [.tmp 20], (some (19, false))⟩,
    ⟨(some 22), .plain (.bin .eql), [.tmp 21, .lit (.int .i64 5)], (some (19, false))⟩,
    ⟨(some 23), .plain .pick, [.tmp 19, .lit (.bool true), .tmp 22], none⟩,
    ⟨(some 24), .plain .mv, [.tmp 23], none⟩,
    ⟨(some 25), .plain (.fieldAddr 3), [.tmp 2], (some (24, true))⟩,
    ⟨(some 26), .plain (.load false 1), [.tmp 25], (some (24, true))⟩,
    ⟨(some 27), .plain (.bin .gtr), [.tmp 26, .lit (.int .i64 0)], (some (24, true))⟩,
    ⟨(some 28), .plain .pick, [.tmp 24, .tmp 27, .lit (.bool false)], none⟩] [16, 17, 18, 19, 20, 21, 22, 23, 24, 25, 26, 27])
  (.cond (.tmp 28)
   (.seq (.seq (.ops [⟨(some 29), .plain (.fieldAddr 0), [.tmp 2], none⟩,
     ⟨(some 30), .plain (.load false 1), [.tmp 29], none⟩,
     ⟨(some 31), .plain (.bin .eql), [.tmp 30, .lit (.int .i64 5)], none⟩] [29, 30])
   (.cond (.tmp 31)
    (.seq (.draw (.step ⟨(some 32), .plain (.fieldAddr 0), [.tmp 2], none⟩
      (.step ⟨(some 33), .plain (.load false 1), [.tmp 32], none⟩
      (.step ⟨(some 34), .plain (.fieldAddr 3), [.tmp 2], none⟩
      (.step ⟨(some 35), .plain (.load false 1), [.tmp 34], none⟩
      (.step ⟨(some 36), .plain (.bin .sub), [.tmp 35, .lit (.int .i64 1)], none⟩
      (.step ⟨(some 37), .call 136, [.lit (.str ⟨#[48]⟩), .tmp 36], none⟩
      (.step ⟨(some 38), .plain .mv, [.tmp 5], none⟩
      (.step ⟨(some 39), .plain (.bin .add), [.tmp 37, .tmp 38], none⟩
      (.step ⟨(some 40), .plain (.build [(.int .i64 0), (.int .i64 0), (.int .i64 0), (.str ⟨#[]⟩)] [(0, 1), (3, 1)]), [.tmp 33, .tmp 39], none⟩
      (.step ⟨none, .plain (.store 4), [.tmp 4, .tmp 40], none⟩
      .done)))))))))) [32, 33, 34, 35, 36, 37, 38, 39, 40])
    .ret)
    .skip))
   (.seq (.draw (.step ⟨(some 41), .plain (.fieldAddr 0), [.tmp 2], none⟩
     (.step ⟨(some 42), .plain (.load false 1), [.tmp 41], none⟩
     (.step ⟨(some 43), .plain .mv, [.tmp 5], none⟩
     (.step ⟨(some 44), .plain (.fieldAddr 3), [.tmp 2], none⟩
     (.step ⟨(some 45), .plain (.load false 1), [.tmp 44], none⟩
     (.step ⟨(some 46), .plain (.bin .sub), [.tmp 45, .lit (.int .i64 1)], none⟩
     (.step ⟨(some 47), .call 136, [.lit (.str ⟨#[32]⟩), .tmp 46], none⟩
     (.step ⟨(some 48), .plain (.bin .add), [.tmp 43, .tmp 47], none⟩
     (.step ⟨(some 49), .plain (.build [(.int .i64 0), (.int .i64 0), (.int .i64 0), (.str ⟨#[]⟩)] [(0, 1), (3, 1)]), [.tmp 42, .tmp 48], none⟩
     (.step ⟨none, .plain (.store 4), [.tmp 4, .tmp 49], none⟩
     .done)))))))))) [41, 42, 43, 44, 45, 46, 47, 48, 49])
   .ret))
   .skip)))
  (.seq (.ops [⟨(some 51), .plain .mv, [.tmp 1], none⟩,
    ⟨(some 52), .plain (.build [(.int .i64 0), (.int .i64 0), (.int .i64 0), (.str ⟨#[]⟩)] [(0, 1), (1, 1)]), [.lit (.int .i64 1), .tmp 51], none⟩,
    ⟨(some 53), .plain (.build [(.int .i64 0), (.int .i64 0), (.int .i64 0), (.int .i64 0), (.bool false), (.str ⟨#[]⟩)] [(0, 1), (1, 1)]), [.lit (.int .i64 1), .lit (.int .i64 1)], none⟩,
    ⟨(some 54), .plain (.load true 6), [.tmp 2], none⟩,
    ⟨(some 55), .call 137, [.tmp 52, .tmp 53, .tmp 54], none⟩,
    ⟨(some 50), .plain .mv, [.tmp 55], none⟩,
    ⟨(some 56), .plain (.extract 0), [.tmp 50], none⟩,
    ⟨(some 57), .plain (.extract 1), [.tmp 50], none⟩,
    ⟨(some 58), .plain (.extract 2), [.tmp 50], none⟩,
    ⟨(some 6), .plain (.alloc [(.int .i64 0), (.int .i64 0), (.int .i64 0), (.str ⟨#[]⟩)]), [], none⟩,
    ⟨(some 7), .plain (.alloc [(.int .i64 0), (.str ⟨#[]⟩), (.int .i64 0), (.str ⟨#[]⟩), (.int .i64 0)]), [], none⟩,
    ⟨none, .plain (.store 4), [.tmp 6, .tmp 56], none⟩,
    ⟨none, .plain (.store 5), [.tmp 7, .tmp 57], none⟩,
    ⟨(some 8), .plain .mv, [.tmp 58], none⟩] [51, 52, 53, 54, 55, 50, 56, 57, 58, 7])
  (.seq (.seq (.ops [⟨(some 59), .plain .mv, [.tmp 8], none⟩,
    ⟨(some 60), .plain (.bin .neq), [.tmp 59, .lit (.int .i64 0)], none⟩] [59])
  (.cond (.tmp 60)
   (.seq (.ops [⟨(some 61), .plain (.build [(.int .i64 0), (.int .i64 0), (.int .i64 0), (.str ⟨#[]⟩)] []), [], none⟩,
     ⟨none, .plain (.store 4), [.tmp 4, .tmp 61], none⟩] [61])
   .ret)
   .skip))
  (.seq (.seq (.draw (.step ⟨(some 63), .plain (.load true 4), [.tmp 6], none⟩
    (.step ⟨(some 64), .plain (.load true 6), [.tmp 2], none⟩
    (.step ⟨(some 65), .call 67, [], none⟩
    (.step ⟨(some 66), .call 137, [.tmp 63, .tmp 64, .tmp 65], none⟩
    (.step ⟨(some 62), .plain .mv, [.tmp 66], none⟩
    (.step ⟨(some 67), .plain (.extract 0), [.tmp 62], none⟩
    (.step ⟨(some 68), .plain (.extract 1), [.tmp 62], none⟩
    (.step ⟨(some 69), .plain (.extract 2), [.tmp 62], none⟩
    (.or (.step ⟨(some 9), .plain (.alloc [(.int .i64 0), (.int .i64 0), (.int .i64 0), (.str ⟨#[]⟩)]), [], none⟩
    (.step ⟨(some 10), .plain (.alloc [(.int .i64 0), (.str ⟨#[]⟩), (.int .i64 0), (.str ⟨#[]⟩), (.int .i64 0)]), [], none⟩
    (.step ⟨none, .plain (.store 4), [.tmp 9, .tmp 67], none⟩
    (.step ⟨none, .plain (.store 5), [.tmp 10, .tmp 68], none⟩
    (.step ⟨(some 11), .plain .mv, [.tmp 69], none⟩
    .done)))))
    (.step ⟨(some 10), .plain (.alloc [(.int .i64 0), (.str ⟨#[]⟩), (.int .i64 0), (.str ⟨#[]⟩), (.int .i64 0)]), [], none⟩
    (.step ⟨(some 9), .plain (.alloc [(.int .i64 0), (.int .i64 0), (.int .i64 0), (.str ⟨#[]⟩)]), [], none⟩
    (.step ⟨none, .plain (.store 4), [.tmp 9, .tmp 67], none⟩
    (.step ⟨none, .plain (.store 5), [.tmp 10, .tmp 68], none⟩
    (.step ⟨(some 11), .plain .mv, [.tmp 69], none⟩
    .done)))))))))))))) [63, 64, 65, 66, 62, 67, 68, 69, 11])
  (.seq (.ops [⟨(some 70), .plain (.fieldAddr 0), [.tmp 10], none⟩,
    ⟨(some 71), .plain (.load false 1), [.tmp 70], none⟩,
    ⟨(some 72), .plain (.bin .eql), [.tmp 71, .lit (.int .i64 0)], none⟩,
    ⟨(some 73), .plain .mv, [.tmp 72], none⟩,
    ⟨(some 74), .plain (.fieldAddr 1), [.tmp 9], (some (73, true))⟩,
    ⟨(some 75), .plain (.load false 1), [.tmp 74], (some (73, true))⟩,
    ⟨(some 76), .plain .mv, [.tmp 1], (some (73, true))⟩,
    ⟨(some 77), .plain (.bin .eql), [.tmp 75, .tmp 76], (some (73, true))⟩,
    ⟨(some 78), .plain .pick, [.tmp 73, .tmp 77, .lit (.bool false)], none⟩] [70, 71, 72, 73, 74, 75, 76, 77])
  (.cond (.tmp 78)
   (.seq (.ops [⟨(some 79), .plain (.load true 4), [.tmp 6], none⟩,
     ⟨none, .plain (.store 4), [.tmp 4, .tmp 79], none⟩] [79])
   .ret)
   .skip)))
  (.seq (.ops [⟨(some 81), .plain (.load true 6), [.tmp 2], none⟩,
    ⟨(some 82), .call 138, [.tmp 81], none⟩,
    ⟨(some 80), .plain .mv, [.tmp 82], none⟩,
    ⟨(some 83), .plain (.extract 0), [.tmp 80], none⟩,
    ⟨(some 84), .plain (.extract 1), [.tmp 80], none⟩,
    ⟨(some 12), .plain (.alloc [(.int .i64 0), (.int .i64 0), (.int .i64 0), (.str ⟨#[]⟩)]), [], none⟩,
    ⟨none, .plain (.store 4), [.tmp 12, .tmp 83], none⟩,
    ⟨(some 13), .plain .mv, [.tmp 84], none⟩] [81, 82, 80, 83, 84, 13])
  (.seq (.ops [⟨(some 85), .plain (.load true 4), [.tmp 12], none⟩,
    ⟨none, .plain (.store 4), [.tmp 4, .tmp 85], none⟩] [85])
  .ret)))))))
def cr53 : List Res := [(4, some (true, 4))]
theorem ok53 : FOk Bk.pg.toProgram Bk.imp 53 c53 cr53 Tryz.f53.ntmps := ⟨Tryz.f53, _, Tryz.func53, rfl, by kernel_rfl, by kernel_rfl, by kernel_rfl, rfl⟩

/-- ironbark/built.Call -/
def c9 : SC :=
  (.seq (.ops [⟨(some 4), .plain (.box 1), [.tmp 0], none⟩,
    ⟨(some 5), .plain (.box 1), [.tmp 1], none⟩,
    ⟨(some 6), .plain (.box 1), [.tmp 2], none⟩,
    ⟨(some 7), .plain (.box 6), [.tmp 3], none⟩,
    ⟨(some 8), .plain (.alloc [(.int .i64 0), (.int .i64 0), (.int .i64 0), (.str ⟨#[]⟩)]), [], none⟩,
    ⟨(some 9), .plain (.alloc [(.int .i64 0), (.str ⟨#[]⟩), (.int .i64 0), (.str ⟨#[]⟩), (.int .i64 0)]), [], none⟩,
    ⟨(some 10), .plain .mv, [.lit (.int .i64 0)], none⟩] [])
  (.seq (.ops [⟨(some 11), .plain (.mkFn 26), [.tmp 4, .tmp 5, .tmp 6, .tmp 7, .tmp 9, .tmp 8], none⟩,
    ⟨(some 12), .call 25, [.tmp 11], none⟩,
    ⟨(some 10), .plain .mv, [.tmp 12], none⟩] [11, 12])
  (.seq (.seq (.ops [⟨(some 13), .plain .mv, [.tmp 10], none⟩,
    ⟨(some 14), .plain (.bin .neq), [.tmp 13, .lit (.int .i64 0)], none⟩] [13])
  (.cond (.tmp 14)
   (.seq (.ops [⟨(some 15), .plain (.build [(.int .i64 0), (.int .i64 0), (.int .i64 0), (.str ⟨#[]⟩)] []), [], none⟩,
     ⟨(some 16), .plain (.build [(.int .i64 0), (.str ⟨#[]⟩), (.int .i64 0), (.str ⟨#[]⟩), (.int .i64 0)] []), [], none⟩,
     ⟨(some 17), .plain .mv, [.tmp 10], none⟩,
     ⟨none, .plain (.store 4), [.tmp 8, .tmp 15], none⟩,
     ⟨none, .plain (.store 5), [.tmp 9, .tmp 16], none⟩,
     ⟨(some 10), .plain .mv, [.tmp 17], none⟩] [15, 16, 17])
   .ret)
   .skip))
  (.seq (.draw (.step ⟨(some 18), .plain (.load true 4), [.tmp 8], none⟩
    (.or (.step ⟨(some 19), .plain (.load true 5), [.tmp 9], none⟩
    (.step ⟨none, .plain (.store 4), [.tmp 8, .tmp 18], none⟩
    (.step ⟨none, .plain (.store 5), [.tmp 9, .tmp 19], none⟩
    (.step ⟨(some 10), .plain .mv, [.lit (.int .i64 0)], none⟩
    .done))))
    (.step ⟨none, .plain (.store 4), [.tmp 8, .tmp 18], none⟩
    (.step ⟨(some 19), .plain (.load true 5), [.tmp 9], none⟩
    (.step ⟨none, .plain (.store 5), [.tmp 9, .tmp 19], none⟩
    (.step ⟨(some 10), .plain .mv, [.lit (.int .i64 0)], none⟩
    .done)))))) [18, 19])
  .ret))))
def cr9 : List Res := [(8, some (true, 4)), (9, some (true, 5)), (10, none)]
theorem ok9 : FOk Bk.pg.toProgram Bk.imp 9 c9 cr9 Tryz.f9.ntmps := ⟨Tryz.f9, _, Tryz.func9, rfl, by kernel_rfl, by kernel_rfl, by kernel_rfl, rfl⟩

/-- ironbark/built.Call$1 -/
def c26 : SC :=
  (.seq (.draw (.step ⟨(some 13), .call 27, [], none⟩
    (.step ⟨(some 14), .plain (.load false 1), [.tmp 0], none⟩
    (.step ⟨(some 15), .plain (.lookup .str (.agg [(.int .i64 0), (.int .i64 0), (.const .nilFunc), (.const .nilFunc)]) true), [.tmp 13, .tmp 14], none⟩
    (.step ⟨(some 12), .plain .mv, [.tmp 15], none⟩
    (.step ⟨(some 16), .plain (.extract 0), [.tmp 12], none⟩
    (.step ⟨(some 17), .plain (.extract 1), [.tmp 12], none⟩
    (.step ⟨(some 6), .plain (.alloc [(.int .i64 0), (.int .i64 0), (.const .nilFunc), (.const .nilFunc)]), [], none⟩
    (.step ⟨none, .plain (.store 4), [.tmp 6, .tmp 16], none⟩
    (.step ⟨(some 7), .plain .mv, [.tmp 17], none⟩
    .done))))))))) [13, 14, 15, 12, 16, 17])
  (.seq (.ops [⟨(some 18), .plain .mv, [.tmp 7], none⟩,
    ⟨(some 19), .call 28, [.tmp 18, .lit (.int .i64 5)], none⟩] [18, 19])
  (.seq (.ops [⟨(some 20), .plain (.load false 1), [.tmp 1], none⟩,
    ⟨(some 21), .plain (.len 1), [.tmp 20], none⟩,
    ⟨(some 22), .plain (.fieldAddr 0), [.tmp 6], none⟩,
    ⟨(some 23), .plain (.load false 1), [.tmp 22], none⟩,
    ⟨(some 24), .plain (.fieldAddr 1), [.tmp 6], none⟩,
    ⟨(some 25), .plain (.load false 1), [.tmp 24], none⟩,
    ⟨(some 26), .call 29, [.tmp 21, .tmp 23, .tmp 25], none⟩,
    ⟨(some 27), .plain .mv, [.tmp 26], none⟩,
    ⟨(some 28), .plain (.load false 1), [.tmp 1], (some (27, true))⟩,
    ⟨(some 29), .plain (.len 1), [.tmp 28], (some (27, true))⟩,
    ⟨(some 30), .plain (.load false 1), [.tmp 2], (some (27, true))⟩,
    ⟨(some 31), .plain (.len 1), [.tmp 30], (some (27, true))⟩,
    ⟨(some 32), .plain (.bin .eql), [.tmp 29, .tmp 31], (some (27, true))⟩,
    ⟨(some 33), .plain .pick, [.tmp 27, .tmp 32, .lit (.bool false)], none⟩,
    ⟨(some 34), .call 28, [.tmp 33, .lit (.int .i64 11)], none⟩] [20, 21, 22, 23, 24, 25, 26, 27, 28, 29, 30, 31, 32, 33, 34])
  (.seq (.seq (.ops [⟨(some 35), .plain (.load false 1), [.tmp 2], none⟩,
    ⟨(some 36), .plain (.len 1), [.tmp 35], none⟩,
    ⟨(some 37), .call 30, [.tmp 36], none⟩] [35, 36])
  (.block 0
   (.rangeF (.tmp 37) [38]
    (.ops [⟨(some 8), .plain .mv, [.tmp 38], none⟩] [])
    (.block 1
     (.ops [⟨(some 39), .plain (.load false 1), [.tmp 2], none⟩,
       ⟨(some 40), .plain .mv, [.tmp 8], none⟩,
       ⟨(some 41), .plain (.indexAddr 6), [.tmp 39, .tmp 40], none⟩,
       ⟨(some 42), .plain (.load true 6), [.tmp 41], none⟩,
       ⟨(some 43), .call 31, [.tmp 42], none⟩,
       ⟨(some 44), .call 28, [.tmp 43, .lit (.int .i64 13)], none⟩] [39, 40, 41, 42, 43, 44])))))
  (.seq (.seq (.ops [⟨(some 45), .plain (.load false 1), [.tmp 2], none⟩,
    ⟨(some 46), .plain (.len 1), [.tmp 45], none⟩,
    ⟨(some 47), .call 30, [.tmp 46], none⟩] [45, 46])
  (.block 2
   (.rangeF (.tmp 47) [48]
    (.ops [⟨(some 9), .plain .mv, [.tmp 48], none⟩] [])
    (.block 3
     (.draw (.step ⟨(some 49), .plain (.load false 1), [.tmp 1], none⟩
       (.step ⟨(some 50), .plain .mv, [.tmp 9], none⟩
       (.step ⟨(some 51), .plain (.indexAddr 4), [.tmp 49, .tmp 50], none⟩
       (.step ⟨(some 52), .plain (.load true 4), [.tmp 51], none⟩
       (.step ⟨(some 53), .call 32, [.tmp 52], none⟩
       (.step ⟨(some 54), .plain .mv, [.tmp 53], none⟩
       (.step ⟨(some 55), .plain (.load false 1), [.tmp 2], (some (54, true))⟩
       (.step ⟨(some 56), .plain .mv, [.tmp 9], (some (54, true))⟩
       (.step ⟨(some 57), .plain (.indexAddr 6), [.tmp 55, .tmp 56], (some (54, true))⟩
       (.step ⟨(some 58), .plain (.load true 6), [.tmp 57], (some (54, true))⟩
       (.step ⟨(some 59), .plain (.load false 1), [.tmp 1], (some (54, true))⟩
       (.step ⟨(some 60), .plain .mv, [.tmp 9], (some (54, true))⟩
       (.step ⟨(some 61), .plain (.indexAddr 4), [.tmp 59, .tmp 60], (some (54, true))⟩
       (.step ⟨(some 62), .plain (.load true 4), [.tmp 61], (some (54, true))⟩
       (.step ⟨(some 63), .call 33, [.tmp 58, .tmp 62], (some (54, true))⟩
       (.step ⟨(some 64), .plain .pick, [.tmp 54, .tmp 63, .lit (.bool false)], none⟩
       (.step ⟨(some 65), .call 28, [.tmp 64, .lit (.int .i64 1)], none⟩
       .done))))))))))))))))) [49, 50, 51, 52, 53, 54, 55, 56, 57, 58, 59, 60, 61, 62, 63, 64, 65])))))
  (.seq (.ops [⟨(some 66), .plain (.load true 4), [.tmp 6], none⟩,
    ⟨(some 67), .plain (.load false 1), [.tmp 2], none⟩,
    ⟨(some 68), .call 34, [.tmp 66, .tmp 67], none⟩,
    ⟨(some 10), .plain .mv, [.tmp 68], none⟩] [66, 67, 68])
  (.seq (.ops [⟨(some 69), .plain (.load true 6), [.tmp 3], none⟩,
    ⟨(some 70), .call 31, [.tmp 69], none⟩,
    ⟨(some 71), .call 28, [.tmp 70, .lit (.int .i64 13)], none⟩] [69, 70, 71])
  (.seq (.ops [⟨(some 72), .plain .mv, [.tmp 10], none⟩,
    ⟨(some 73), .plain (.fieldAddr 0), [.tmp 3], none⟩,
    ⟨(some 74), .plain (.load false 1), [.tmp 73], none⟩,
    ⟨(some 75), .plain (.bin .eql), [.tmp 72, .tmp 74], none⟩,
    ⟨(some 76), .call 28, [.tmp 75, .lit (.int .i64 10)], none⟩] [72, 73, 74, 75, 76])
  (.seq (.ops [⟨(some 77), .plain (.load false 1), [.tmp 2], none⟩,
    ⟨(some 78), .plain (.build [.nilS, .nilS] [(0, 1)]), [.tmp 77], none⟩,
    ⟨(some 79), .plain (.load false 1), [.tmp 1], none⟩,
    ⟨(some 80), .plain (.load true 6), [.tmp 3], none⟩,
    ⟨(some 81), .plain (.build [.nilS, .nilS, .nilS, (.int .i64 0), (.int .i64 0), (.int .i64 0), (.int .i64 0), (.bool false), (.str ⟨#[]⟩), (.const .nilFunc)] [(0, 2), (2, 1), (3, 6)]), [.tmp 78, .tmp 79, .tmp 80], none⟩,
    ⟨(some 11), .plain (.alloc [.nilS, .nilS, .nilS, (.int .i64 0), (.int .i64 0), (.int .i64 0), (.int .i64 0), (.bool false), (.str ⟨#[]⟩), (.const .nilFunc)]), [], none⟩,
    ⟨none, .plain (.store 10), [.tmp 11, .tmp 81], none⟩] [77, 78, 79, 80, 81])
  (.seq (.ops [⟨(some 82), .plain (.mkFn 35), [.tmp 4], none⟩,
    ⟨(some 83), .plain (.fieldAddr 9), [.tmp 11], none⟩,
    ⟨none, .plain (.store 1), [.tmp 83, .tmp 82], none⟩] [82, 83])
  (.ops [⟨(some 84), .plain (.fieldAddr 3), [.tmp 6], none⟩,
    ⟨(some 85), .plain (.load false 1), [.tmp 84], none⟩,
    ⟨(some 86), .plain (.load true 10), [.tmp 11], none⟩,
    ⟨(some 87), .callv, [.tmp 85, .tmp 86], none⟩,
    ⟨none, .plain (.store 4), [.tmp 5, .tmp 87], none⟩] [84, 85, 86, 87])))))))))))
def cr26 : List Res := []
theorem ok26 : FOk Bk.pg.toProgram Bk.imp 26 c26 cr26 Tryz.f26.ntmps := ⟨Tryz.f26, _, Tryz.func26, rfl, by kernel_rfl, by kernel_rfl, by kernel_rfl, rfl⟩

/-- ironbark/built.Call$1$1 -/
def c35 : SC :=
  (.seq (.ops [⟨(some 2), .plain (.box 5), [.tmp 0], none⟩] [])
  (.seq (.ops [⟨(some 3), .plain (.fieldAddr 0), [.tmp 1], none⟩,
    ⟨(some 4), .plain (.load false 1), [.tmp 3], none⟩,
    ⟨(some 5), .plain (.bin .eql), [.tmp 4, .lit (.int .i64 0)], none⟩] [3, 4])
  (.cond (.tmp 5)
   (.ops [⟨(some 6), .plain (.load true 5), [.tmp 2], none⟩,
     ⟨none, .plain (.store 5), [.tmp 1, .tmp 6], none⟩] [6])
   .skip)))
def cr35 : List Res := []
theorem ok35 : FOk Bk.pg.toProgram Bk.imp 35 c35 cr35 Tryz.f35.ntmps := ⟨Tryz.f35, _, Tryz.func35, rfl, by kernel_rfl, by kernel_rfl, by kernel_rfl, rfl⟩

/-- (ironbark/built.asking).common -/
def c75 : SC :=
  (.seq (.ops [⟨(some 1), .plain (.box 2), [.tmp 0], none⟩,
    ⟨(some 2), .plain (.alloc [(.int .i64 0), (.int .i64 0), (.int .i64 0), (.int .i64 0), (.bool false), (.str ⟨#[]⟩)]), [], none⟩] [])
  (.seq (.ops [⟨(some 3), .plain .mv, [.lit .nilS], none⟩] [])
  (.seq (.seq (.ops [⟨(some 7), .plain (.fieldAddr 0), [.tmp 1], none⟩,
    ⟨(some 8), .plain (.load false 1), [.tmp 7], none⟩,
    ⟨(some 9), .plain (.len 1), [.tmp 8], none⟩,
    ⟨(some 10), .plain .mv, [.lit (.int .i64 0)], none⟩] [7, 8])
  (.block 0
   (.loop
    (.seq (.ops [⟨(some 11), .plain (.bin .lss), [.tmp 10, .tmp 9], none⟩] [])
    (.seq (.cond (.tmp 11)
     .skip
     (.exit 0))
    (.seq (.block 1
     (.seq (.ops [⟨(some 12), .plain .mv, [.tmp 10], none⟩,
       ⟨(some 4), .plain .mv, [.tmp 12], none⟩] [12])
     (.ops [⟨(some 13), .plain .mv, [.tmp 3], none⟩,
       ⟨(some 14), .plain (.load true 2), [.tmp 1], none⟩,
       ⟨(some 15), .plain .mv, [.tmp 4], none⟩,
       ⟨(some 16), .call 66, [.tmp 14, .tmp 15], none⟩,
       ⟨(some 17), .plain (.buildRow 32 6 1 [(.int .i64 0), (.int .i64 0), (.int .i64 0), (.int .i64 0), (.bool false), (.str ⟨#[]⟩)] [0]), [.tmp 16], none⟩,
       ⟨(some 18), .plain (.append 32 6 56), [.tmp 13, .tmp 17], none⟩,
       ⟨(some 3), .plain .mv, [.tmp 18], none⟩] [13, 14, 15, 16, 17, 18])))
    (.ops [⟨(some 19), .plain (.bin .add), [.tmp 10, .lit (.int .i64 1)], none⟩,
      ⟨(some 10), .plain .mv, [.tmp 19], none⟩] [19])))))))
  (.seq (.ops [⟨(some 21), .plain .mv, [.tmp 3], none⟩,
    ⟨(some 22), .call 163, [.tmp 21], none⟩,
    ⟨(some 20), .plain .mv, [.tmp 22], none⟩,
    ⟨(some 23), .plain (.extract 0), [.tmp 20], none⟩,
    ⟨(some 24), .plain (.extract 1), [.tmp 20], none⟩,
    ⟨(some 5), .plain (.alloc [(.int .i64 0), (.int .i64 0), (.int .i64 0), (.int .i64 0), (.bool false), (.str ⟨#[]⟩)]), [], none⟩,
    ⟨none, .plain (.store 6), [.tmp 5, .tmp 23], none⟩,
    ⟨(some 6), .plain .mv, [.tmp 24], none⟩] [21, 22, 20, 23, 24, 6])
  (.seq (.ops [⟨(some 25), .plain (.load true 6), [.tmp 5], none⟩,
    ⟨none, .plain (.store 6), [.tmp 2, .tmp 25], none⟩] [25])
  .ret)))))
def cr75 : List Res := [(2, some (true, 6))]
theorem ok75 : FOk Bk.pg.toProgram Bk.imp 75 c75 cr75 Tryz.f75.ntmps := ⟨Tryz.f75, _, Tryz.func75, rfl, by kernel_rfl, by kernel_rfl, by kernel_rfl, rfl⟩

/-- ironbark/built.mod -/
def c76 : SC :=
  (.seq (.ops [⟨(some 1), .plain (.box 10), [.tmp 0], none⟩,
    ⟨(some 2), .plain (.alloc [(.int .i64 0), (.int .i64 0), (.int .i64 0), (.str ⟨#[]⟩)]), [], none⟩] [])
  (.seq (.draw (.step ⟨(some 8), .plain (.load true 10), [.tmp 1], none⟩
    (.step ⟨(some 9), .call 63, [.tmp 8, .lit (.int .i64 0)], none⟩
    (.step ⟨(some 10), .plain (.load true 10), [.tmp 1], none⟩
    (.step ⟨(some 11), .call 63, [.tmp 10, .lit (.int .i64 1)], none⟩
    (.or (.step ⟨(some 3), .plain (.alloc [(.int .i64 0), (.int .i64 0), (.int .i64 0), (.str ⟨#[]⟩)]), [], none⟩
    (.step ⟨(some 4), .plain (.alloc [(.int .i64 0), (.int .i64 0), (.int .i64 0), (.str ⟨#[]⟩)]), [], none⟩
    (.step ⟨none, .plain (.store 4), [.tmp 3, .tmp 9], none⟩
    (.step ⟨none, .plain (.store 4), [.tmp 4, .tmp 11], none⟩
    .done))))
    (.step ⟨(some 4), .plain (.alloc [(.int .i64 0), (.int .i64 0), (.int .i64 0), (.str ⟨#[]⟩)]), [], none⟩
    (.step ⟨(some 3), .plain (.alloc [(.int .i64 0), (.int .i64 0), (.int .i64 0), (.str ⟨#[]⟩)]), [], none⟩
    (.step ⟨none, .plain (.store 4), [.tmp 3, .tmp 9], none⟩
    (.step ⟨none, .plain (.store 4), [.tmp 4, .tmp 11], none⟩
    .done))))))))) [8, 9, 10, 11])
  (.seq (.ops [⟨(some 13), .plain (.load true 4), [.tmp 3], none⟩,
    ⟨(some 14), .plain (.load true 4), [.tmp 4], none⟩,
    ⟨(some 15), .plain (.fieldAddr 3), [.tmp 1], none⟩,
    ⟨(some 16), .plain (.load true 6), [.tmp 15], none⟩,
    ⟨(some 17), .call 164, [.tmp 13, .tmp 14, .tmp 16], none⟩,
    ⟨(some 12), .plain .mv, [.tmp 17], none⟩,
    ⟨(some 18), .plain (.extract 0), [.tmp 12], none⟩,
    ⟨(some 19), .plain (.extract 1), [.tmp 12], none⟩,
    ⟨(some 20), .plain (.extract 2), [.tmp 12], none⟩,
    ⟨(some 5), .plain (.alloc [(.int .i64 0), (.int .i64 0), (.int .i64 0), (.str ⟨#[]⟩)]), [], none⟩,
    ⟨none, .plain (.store 4), [.tmp 5, .tmp 18], none⟩,
    ⟨(some 6), .plain .mv, [.tmp 19], none⟩,
    ⟨(some 7), .plain .mv, [.tmp 20], none⟩] [13, 14, 15, 16, 17, 12, 18, 19, 20, 7])
  (.seq (.ops [⟨(some 21), .plain (.load true 10), [.tmp 1], none⟩,
    ⟨(some 22), .plain .mv, [.tmp 6], none⟩,
    ⟨(some 23), .call 86, [.tmp 21, .tmp 22], none⟩] [21, 22, 23])
  (.seq (.ops [⟨(some 24), .plain (.load true 4), [.tmp 5], none⟩,
    ⟨none, .plain (.store 4), [.tmp 2, .tmp 24], none⟩] [24])
  .ret)))))
def cr76 : List Res := [(2, some (true, 4))]
theorem ok76 : FOk Bk.pg.toProgram Bk.imp 76 c76 cr76 Tryz.f76.ntmps := ⟨Tryz.f76, _, Tryz.func76, rfl, by kernel_rfl, by kernel_rfl, by kernel_rfl, rfl⟩

/-- (ironbark/built.calling).num -/
def c63 : SC :=
  (.seq (.ops [⟨(some 2), .plain (.box 10), [.tmp 0], none⟩,
    ⟨(some 4), .plain (.alloc [(.int .i64 0), (.int .i64 0), (.int .i64 0), (.str ⟨#[]⟩)]), [], none⟩] [])
  (.seq (.draw (.step ⟨(some 5), .plain (.load true 10), [.tmp 2], none⟩
    (.step ⟨(some 6), .plain .mv, [.tmp 1], none⟩
    (.step ⟨(some 7), .plain (.fieldAddr 0), [.tmp 2], none⟩
    (.step ⟨(some 8), .plain (.load true 2), [.tmp 7], none⟩
    (.step ⟨(some 9), .plain .mv, [.tmp 1], none⟩
    (.step ⟨(some 10), .call 66, [.tmp 8, .tmp 9], none⟩
    (.step ⟨(some 11), .call 116, [.tmp 5, .tmp 6, .tmp 10], none⟩
    (.step ⟨none, .plain (.store 4), [.tmp 4, .tmp 11], none⟩
    .done)))))))) [5, 6, 7, 8, 9, 10, 11])
  .ret))
def cr63 : List Res := [(4, some (true, 4))]
theorem ok63 : FOk Bk.pg.toProgram Bk.imp 63 c63 cr63 Tryz.f63.ntmps := ⟨Tryz.f63, _, Tryz.func63, rfl, by kernel_rfl, by kernel_rfl, by kernel_rfl, rfl⟩

/-- (ironbark/built.calling).to -/
def c116 : SC :=
  (.seq (.ops [⟨(some 3), .plain (.box 10), [.tmp 0], none⟩,
    ⟨(some 5), .plain (.box 6), [.tmp 2], none⟩,
    ⟨(some 6), .plain (.alloc [(.int .i64 0), (.int .i64 0), (.int .i64 0), (.str ⟨#[]⟩)]), [], none⟩] [])
  (.seq (.draw (.step ⟨(some 11), .plain (.fieldAddr 2), [.tmp 3], none⟩
    (.step ⟨(some 12), .plain (.load false 1), [.tmp 11], none⟩
    (.step ⟨(some 13), .plain .mv, [.tmp 1], none⟩
    (.step ⟨(some 14), .plain (.indexAddr 4), [.tmp 12, .tmp 13], none⟩
    (.step ⟨(some 15), .plain (.load true 4), [.tmp 14], none⟩
    (.step ⟨(some 16), .plain (.fieldAddr 0), [.tmp 3], none⟩
    (.step ⟨(some 17), .plain (.fieldAddr 0), [.tmp 16], none⟩
    (.step ⟨(some 18), .plain (.load false 1), [.tmp 17], none⟩
    (.step ⟨(some 19), .plain .mv, [.tmp 1], none⟩
    (.step ⟨(some 20), .plain (.indexAddr 6), [.tmp 18, .tmp 19], none⟩
    (.step ⟨(some 21), .plain (.load true 6), [.tmp 20], none⟩
    (.step ⟨(some 22), .plain (.load true 6), [.tmp 5], none⟩
    (.step ⟨(some 23), .call 137, [.tmp 15, .tmp 21, .tmp 22], none⟩
    (.step ⟨(some 10), .plain .mv, [.tmp 23], none⟩
    (.step ⟨(some 24), .plain (.extract 0), [.tmp 10], none⟩
    (.step ⟨(some 25), .plain (.extract 1), [.tmp 10], none⟩
    (.step ⟨(some 26), .plain (.extract 2), [.tmp 10], none⟩
    (.or (.step ⟨(some 7), .plain (.alloc [(.int .i64 0), (.int .i64 0), (.int .i64 0), (.str ⟨#[]⟩)]), [], none⟩
    (.step ⟨(some 8), .plain (.alloc [(.int .i64 0), (.str ⟨#[]⟩), (.int .i64 0), (.str ⟨#[]⟩), (.int .i64 0)]), [], none⟩
    (.step ⟨none, .plain (.store 4), [.tmp 7, .tmp 24], none⟩
    (.step ⟨none, .plain (.store 5), [.tmp 8, .tmp 25], none⟩
    (.step ⟨(some 9), .plain .mv, [.tmp 26], none⟩
    .done)))))
    (.step ⟨(some 8), .plain (.alloc [(.int .i64 0), (.str ⟨#[]⟩), (.int .i64 0), (.str ⟨#[]⟩), (.int .i64 0)]), [], none⟩
    (.step ⟨(some 7), .plain (.alloc [(.int .i64 0), (.int .i64 0), (.int .i64 0), (.str ⟨#[]⟩)]), [], none⟩
    (.step ⟨none, .plain (.store 4), [.tmp 7, .tmp 24], none⟩
    (.step ⟨none, .plain (.store 5), [.tmp 8, .tmp 25], none⟩
    (.step ⟨(some 9), .plain .mv, [.tmp 26], none⟩
    .done))))))))))))))))))))))) [11, 12, 13, 14, 15, 16, 17, 18, 19, 20, 21, 22, 23, 10, 24, 25, 26, 9])
  (.seq (.ops [⟨(some 27), .plain (.fieldAddr 9), [.tmp 3], none⟩,
    ⟨(some 28), .plain (.load false 1), [.tmp 27], none⟩,
    ⟨(some 29), .plain (.load true 5), [.tmp 8], none⟩,
    ⟨(some 30), .callv, [.tmp 28, .tmp 29], none⟩] [27, 28, 29, 30])
  (.seq (.ops [⟨(some 31), .plain (.load true 4), [.tmp 7], none⟩,
    ⟨none, .plain (.store 4), [.tmp 6, .tmp 31], none⟩] [31])
  .ret))))
def cr116 : List Res := [(6, some (true, 4))]
theorem ok116 : FOk Bk.pg.toProgram Bk.imp 116 c116 cr116 Tryz.f116.ntmps := ⟨Tryz.f116, _, Tryz.func116, rfl, by kernel_rfl, by kernel_rfl, by kernel_rfl, rfl⟩

/-- (ironbark/built.asking).number -/
def c66 : SC :=
  (.seq (.ops [⟨(some 2), .plain (.box 2), [.tmp 0], none⟩,
    ⟨(some 4), .plain (.alloc [(.int .i64 0), (.int .i64 0), (.int .i64 0), (.int .i64 0), (.bool false), (.str ⟨#[]⟩)]), [], none⟩] [])
  (.seq (.ops [⟨(some 8), .plain (.fieldAddr 0), [.tmp 2], none⟩,
    ⟨(some 9), .plain (.load false 1), [.tmp 8], none⟩,
    ⟨(some 10), .plain .mv, [.tmp 1], none⟩,
    ⟨(some 11), .plain (.indexAddr 6), [.tmp 9, .tmp 10], none⟩,
    ⟨(some 12), .plain (.load true 6), [.tmp 11], none⟩,
    ⟨(some 13), .call 159, [.tmp 12], none⟩,
    ⟨(some 7), .plain .mv, [.tmp 13], none⟩,
    ⟨(some 14), .plain (.extract 0), [.tmp 7], none⟩,
    ⟨(some 15), .plain (.extract 1), [.tmp 7], none⟩,
    ⟨(some 5), .plain (.alloc [(.int .i64 0), (.int .i64 0), (.int .i64 0), (.int .i64 0), (.bool false), (.str ⟨#[]⟩)]), [], none⟩,
    ⟨none, .plain (.store 6), [.tmp 5, .tmp 14], none⟩,
    ⟨(some 6), .plain .mv, [.tmp 15], none⟩] [8, 9, 10, 11, 12, 13, 7, 14, 15])
  (.seq (.ops [⟨(some 16), .plain .mv, [.tmp 6], none⟩,
    ⟨(some 17), .plain (.bin .eql), [.tmp 16, .lit (.int .i64 0)], none⟩,
    ⟨(some 18), .call 28, [.tmp 17, .lit (.int .i64 10)], none⟩] [16, 17, 18])
  (.seq (.ops [⟨(some 19), .plain (.load true 6), [.tmp 5], none⟩,
    ⟨none, .plain (.store 6), [.tmp 4, .tmp 19], none⟩] [19])
  .ret))))
def cr66 : List Res := [(4, some (true, 6))]
theorem ok66 : FOk Bk.pg.toProgram Bk.imp 66 c66 cr66 Tryz.f66.ntmps := ⟨Tryz.f66, _, Tryz.func66, rfl, by kernel_rfl, by kernel_rfl, by kernel_rfl, rfl⟩

/-- (ironbark/built.calling).cond -/
def c86 : SC :=
  (.seq (.ops [⟨(some 2), .plain (.box 10), [.tmp 0], none⟩] [])
  (.ops [⟨(some 4), .plain (.fieldAddr 9), [.tmp 2], none⟩,
    ⟨(some 5), .plain (.load false 1), [.tmp 4], none⟩,
    ⟨(some 6), .plain .mv, [.tmp 1], none⟩,
    ⟨(some 7), .plain (.build [(.int .i64 0), (.str ⟨#[]⟩), (.int .i64 0), (.str ⟨#[]⟩), (.int .i64 0)] [(0, 1)]), [.tmp 6], none⟩,
    ⟨(some 8), .callv, [.tmp 5, .tmp 7], none⟩] [4, 5, 6, 7, 8]))
def cr86 : List Res := []
theorem ok86 : FOk Bk.pg.toProgram Bk.imp 86 c86 cr86 Tryz.f86.ntmps := ⟨Tryz.f86, _, Tryz.func86, rfl, by kernel_rfl, by kernel_rfl, by kernel_rfl, rfl⟩

/-- ironbark/ironbarklaw08.BuiltMod -/
def c3 : SC :=
  (.seq (.ops [⟨(some 4), .plain .mv, [.lit (.bool false)], none⟩] [])
  (.seq (.seq (.ops [⟨(some 8), .plain .mv, [.tmp 0], none⟩,
    ⟨(some 9), .plain (.bin .leq), [.tmp 8, .lit (.int .i64 (-1000000000))], none⟩,
    ⟨(some 10), .plain .mv, [.tmp 9], none⟩,
    ⟨(some 11), .plain .mv, [.tmp 0], (some (10, false))⟩,
    ⟨(some 12), .plain (.bin .geq), [.tmp 11, .lit (.int .i64 1000000000)], (some (10, false))⟩,
    ⟨(some 13), .plain .pick, [.tmp 10, .lit (.bool true), .tmp 12], none⟩,
    ⟨(some 14), .plain .mv, [.tmp 13], none⟩,
    ⟨(some 15), .plain .mv, [.tmp 1], (some (14, false))⟩,
    ⟨(some 16), .plain (.bin .leq), [.tmp 15, .lit (.int .i64 (-1000000000))], (some (14, false))⟩,
    ⟨(some 17), .plain .pick, [.tmp 14, .lit (.bool true), .tmp 16], none⟩,
    ⟨(some 18), .plain .mv, [.tmp 17], none⟩,
    ⟨(some 19), .plain .mv, [.tmp 1], (some (18, false))⟩,
    ⟨(some 20), .plain (.bin .geq), [.tmp 19, .lit (.int .i64 1000000000)], (some (18, false))⟩,
    ⟨(some 21), .plain .pick, [.tmp 18, .lit (.bool true), .tmp 20], none⟩] [8, 9, 10, 11, 12, 13, 14, 15, 16, 17, 18, 19, 20])
  (.cond (.tmp 21)
   (.seq (.ops [⟨(some 22), .call 8, [], none⟩,
     ⟨(some 4), .plain .mv, [.tmp 22], none⟩] [22])
   .ret)
   .skip))
  (.seq (.ops [⟨(some 24), .plain .mv, [.tmp 0], none⟩,
    ⟨(some 25), .plain (.build [(.int .i64 0), (.int .i64 0), (.int .i64 0), (.str ⟨#[]⟩)] [(0, 1), (1, 1)]), [.lit (.int .i64 1), .tmp 24], none⟩,
    ⟨(some 26), .plain .mv, [.tmp 1], none⟩,
    ⟨(some 27), .plain (.build [(.int .i64 0), (.int .i64 0), (.int .i64 0), (.str ⟨#[]⟩)] [(0, 1), (1, 1)]), [.lit (.int .i64 1), .tmp 26], none⟩,
    ⟨(some 28), .plain (.buildRow 24 4 2 [(.int .i64 0), (.int .i64 0), (.int .i64 0), (.str ⟨#[]⟩)] [0, 1]), [.tmp 25, .tmp 27], none⟩,
    ⟨(some 29), .call 10, [], none⟩,
    ⟨(some 30), .call 10, [], none⟩,
    ⟨(some 31), .plain (.buildRow 32 6 2 [(.int .i64 0), (.int .i64 0), (.int .i64 0), (.int .i64 0), (.bool false), (.str ⟨#[]⟩)] [0, 1]), [.tmp 29, .tmp 30], none⟩,
    ⟨(some 32), .call 10, [], none⟩,
    ⟨(some 33), .call 9, [.lit (.str ⟨#[77, 79, 68]⟩), .tmp 28, .tmp 31, .tmp 32], none⟩,
    ⟨(some 23), .plain .mv, [.tmp 33], none⟩,
    ⟨(some 34), .plain (.extract 0), [.tmp 23], none⟩,
    ⟨(some 35), .plain (.extract 1), [.tmp 23], none⟩,
    ⟨(some 36), .plain (.extract 2), [.tmp 23], none⟩,
    ⟨(some 5), .plain (.alloc [(.int .i64 0), (.int .i64 0), (.int .i64 0), (.str ⟨#[]⟩)]), [], none⟩,
    ⟨(some 6), .plain (.alloc [(.int .i64 0), (.str ⟨#[]⟩), (.int .i64 0), (.str ⟨#[]⟩), (.int .i64 0)]), [], none⟩,
    ⟨none, .plain (.store 4), [.tmp 5, .tmp 34], none⟩,
    ⟨none, .plain (.store 5), [.tmp 6, .tmp 35], none⟩,
    ⟨(some 7), .plain .mv, [.tmp 36], none⟩] [24, 25, 26, 27, 28, 29, 30, 31, 32, 33, 23, 34, 35, 36])
  (.seq (.seq (.ops [⟨(some 37), .plain .mv, [.tmp 7], none⟩,
    ⟨(some 38), .plain (.bin .neq), [.tmp 37, .lit (.int .i64 0)], none⟩] [37])
  (.cond (.tmp 38)
   (.seq (.ops [⟨(some 4), .plain .mv, [.lit (.bool false)], none⟩] [])
   .ret)
   .skip))
  (.seq (.seq (.ops [⟨(some 39), .plain .mv, [.tmp 1], none⟩,
    ⟨(some 40), .plain (.bin .eql), [.tmp 39, .lit (.int .i64 0)], none⟩] [39])
  (.cond (.tmp 40)
   (.seq (.ops [⟨(some 41), .plain (.fieldAddr 0), [.tmp 6], none⟩,
     ⟨(some 42), .plain (.load false 1), [.tmp 41], none⟩,
     ⟨(some 43), .plain (.bin .eql), [.tmp 42, .lit (.int .i64 9)], none⟩,
     ⟨(some 44), .plain .mv, [.tmp 43], none⟩,
     ⟨(some 45), .call 8, [], (some (44, true))⟩,
     ⟨(some 46), .plain .pick, [.tmp 44, .tmp 45, .lit (.bool false)], none⟩,
     ⟨(some 4), .plain .mv, [.tmp 46], none⟩] [41, 42, 43, 44, 45, 46])
   .ret)
   .skip))
  (.seq (.ops [⟨(some 47), .plain (.fieldAddr 0), [.tmp 6], none⟩,
    ⟨(some 48), .plain (.load false 1), [.tmp 47], none⟩,
    ⟨(some 49), .plain (.bin .eql), [.tmp 48, .lit (.int .i64 0)], none⟩,
    ⟨(some 50), .plain .mv, [.tmp 49], none⟩,
    ⟨(some 51), .plain (.fieldAddr 1), [.tmp 5], (some (50, true))⟩,
    ⟨(some 52), .plain (.load false 1), [.tmp 51], (some (50, true))⟩,
    ⟨(some 53), .plain (.bin .eql), [.tmp 52, .lit (.int .i64 0)], (some (50, true))⟩,
    ⟨(some 54), .plain .mv, [.tmp 53], (some (50, true))⟩,
    ⟨(some 55), .plain (.fieldAddr 1), [.tmp 5], (some (54, false))⟩,
    ⟨(some 56), .plain (.load false 1), [.tmp 55], (some (54, false))⟩,
    ⟨(some 57), .plain (.bin .lss), [.tmp 56, .lit (.int .i64 0)], (some (54, false))⟩,
    ⟨(some 58), .plain .mv, [.tmp 1], (some (54, false))⟩,
    ⟨(some 59), .plain (.bin .lss), [.tmp 58, .lit (.int .i64 0)], (some (54, false))⟩,
    ⟨(some 60), .plain (.eqBool false), [.tmp 57, .tmp 59], (some (54, false))⟩,
    ⟨(some 61), .plain .pick, [.tmp 54, .lit (.bool true), .tmp 60], (some (50, true))⟩,
    ⟨(some 62), .plain .pick, [.tmp 50, .tmp 61, .lit (.bool false)], none⟩,
    ⟨(some 63), .plain .mv, [.tmp 62], none⟩,
    ⟨(some 64), .plain (.fieldAddr 1), [.tmp 5], (some (63, true))⟩,
    ⟨(some 65), .plain (.load false 1), [.tmp 64], (some (63, true))⟩,
    ⟨(some 66), .plain .mv, [.tmp 1], (some (63, true))⟩,
    ⟨(some 67), .plain .mv, [.tmp 1], (some (63, true))⟩,
    ⟨(some 68), .plain (.un .neg), [.tmp 67], (some (63, true))⟩,
    ⟨(some 69), .plain .max2, [.tmp 66, .tmp 68], (some (63, true))⟩,
    ⟨(some 70), .plain (.bin .lss), [.tmp 65, .tmp 69], (some (63, true))⟩,
    ⟨(some 71), .plain .pick, [.tmp 63, .tmp 70, .lit (.bool false)], none⟩,
    ⟨(some 72), .plain .mv, [.tmp 71], none⟩,
    ⟨(some 73), .plain .mv, [.tmp 1], (some (72, true))⟩,
    ⟨(some 74), .plain .mv, [.tmp 1], (some (72, true))⟩,
    ⟨(some 75), .plain (.un .neg), [.tmp 74], (some (72, true))⟩,
    ⟨(some 76), .plain .max2, [.tmp 73, .tmp 75], (some (72, true))⟩,
    ⟨(some 77), .plain (.un .neg), [.tmp 76], (some (72, true))⟩,
    ⟨(some 78), .plain (.fieldAddr 1), [.tmp 5], (some (72, true))⟩,
    ⟨(some 79), .plain (.load false 1), [.tmp 78], (some (72, true))⟩,
    ⟨(some 80), .plain (.bin .lss), [.tmp 77, .tmp 79], (some (72, true))⟩,
    ⟨(some 81), .plain .pick, [.tmp 72, .tmp 80, .lit (.bool false)], none⟩,
    ⟨(some 82), .plain .mv, [.tmp 81], none⟩,
    ⟨(some 83), .plain .mv, [.tmp 0], (some (82, true))⟩,
    ⟨(some 84), .plain (.fieldAddr 1), [.tmp 5], (some (82, true))⟩,
    ⟨(some 85), .plain (.load false 1), [.tmp 84], (some (82, true))⟩,
    ⟨(some 86), .plain (.bin .sub), [.tmp 83, .tmp 85], (some (82, true))⟩,
    ⟨(some 87), .plain .mv, [.tmp 1], (some (82, true))⟩,
    ⟨(some 88), .plain (.bin .rem), [.tmp 86, .tmp 87], (some (82, true))⟩,
    ⟨(some 89), .plain (.bin .eql), [.tmp 88, .lit (.int .i64 0)], (some (82, true))⟩,
    ⟨(some 90), .plain .pick, [.tmp 82, .tmp 89, .lit (.bool false)], none⟩,
    ⟨(some 91), .plain .mv, [.tmp 90], none⟩,
    ⟨(some 92), .call 8, [], (some (91, true))⟩,
    ⟨(some 93), .plain .pick, [.tmp 91, .tmp 92, .lit (.bool false)], none⟩,
    ⟨(some 4), .plain .mv, [.tmp 93], none⟩] [47, 48, 49, 50, 51, 52, 53, 54, 55, 56, 57, 58, 59, 60, 61, 62, 63, 64, 65, 66, 67, 68, 69, 70, 71, 72, 73, 74, 75, 76, 77, 78, 79, 80, 81, 82, 83, 84, 85, 86, 87, 88, 89, 90, 91, 92, 93])
  .ret))))))
def cr3 : List Res := [(4, none)]
theorem ok3 : FOk Bk.pg.toProgram Bk.imp 3 c3 cr3 Tryz.f3.ntmps := ⟨Tryz.f3, _, Tryz.func3, rfl, by kernel_rfl, by kernel_rfl, by kernel_rfl, rfl⟩

/-- ironbark/ironbarklaw08.awake -/
def c8 : SC :=
  (.seq (.ops [⟨(some 0), .plain .mv, [.lit (.bool false)], none⟩] [])
  (.seq (.ops [⟨(some 5), .plain (.build [(.int .i64 0), (.int .i64 0), (.int .i64 0), (.str ⟨#[]⟩)] [(0, 1), (1, 1)]), [.lit (.int .i64 2), .lit (.int .i64 (-7))], none⟩,
    ⟨(some 6), .plain (.build [(.int .i64 0), (.int .i64 0), (.int .i64 0), (.str ⟨#[]⟩)] [(0, 1), (1, 1)]), [.lit (.int .i64 2), .lit (.int .i64 3)], none⟩,
    ⟨(some 7), .plain (.buildRow 24 4 2 [(.int .i64 0), (.int .i64 0), (.int .i64 0), (.str ⟨#[]⟩)] [0, 1]), [.tmp 5, .tmp 6], none⟩,
    ⟨(some 8), .call 24, [], none⟩,
    ⟨(some 9), .call 24, [], none⟩,
    ⟨(some 10), .plain (.buildRow 32 6 2 [(.int .i64 0), (.int .i64 0), (.int .i64 0), (.int .i64 0), (.bool false), (.str ⟨#[]⟩)] [0, 1]), [.tmp 8, .tmp 9], none⟩,
    ⟨(some 11), .call 24, [], none⟩,
    ⟨(some 12), .call 9, [.lit (.str ⟨#[77, 79, 68]⟩), .tmp 7, .tmp 10, .tmp 11], none⟩,
    ⟨(some 4), .plain .mv, [.tmp 12], none⟩,
    ⟨(some 13), .plain (.extract 0), [.tmp 4], none⟩,
    ⟨(some 14), .plain (.extract 1), [.tmp 4], none⟩,
    ⟨(some 15), .plain (.extract 2), [.tmp 4], none⟩,
    ⟨(some 1), .plain (.alloc [(.int .i64 0), (.int .i64 0), (.int .i64 0), (.str ⟨#[]⟩)]), [], none⟩,
    ⟨(some 2), .plain (.alloc [(.int .i64 0), (.str ⟨#[]⟩), (.int .i64 0), (.str ⟨#[]⟩), (.int .i64 0)]), [], none⟩,
    ⟨none, .plain (.store 4), [.tmp 1, .tmp 13], none⟩,
    ⟨none, .plain (.store 5), [.tmp 2, .tmp 14], none⟩,
    ⟨(some 3), .plain .mv, [.tmp 15], none⟩] [5, 6, 7, 8, 9, 10, 11, 12, 4, 13, 14, 15])
  (.seq (.ops [⟨(some 16), .plain .mv, [.tmp 3], none⟩,
    ⟨(some 17), .plain (.bin .eql), [.tmp 16, .lit (.int .i64 0)], none⟩,
    ⟨(some 18), .plain .mv, [.tmp 17], none⟩,
    ⟨(some 19), .plain (.fieldAddr 0), [.tmp 2], (some (18, true))⟩,
    ⟨(some 20), .plain (.load false 1), [.tmp 19], (some (18, true))⟩,
    ⟨(some 21), .plain (.bin .eql), [.tmp 20, .lit (.int .i64 0)], (some (18, true))⟩,
    ⟨(some 22), .plain .pick, [.tmp 18, .tmp 21, .lit (.bool false)], none⟩,
    ⟨(some 23), .plain .mv, [.tmp 22], none⟩,
    ⟨(some 24), .plain (.load true 4), [.tmp 1], (some (23, true))⟩,
    ⟨(some 25), .plain (.build [(.int .i64 0), (.int .i64 0), (.int .i64 0), (.str ⟨#[]⟩)] [(0, 1), (1, 1)]), [.lit (.int .i64 2), .lit (.int .i64 2)], (some (23, true))⟩,
    ⟨(some 26), .plain (.eqAgg false [.int, .int, .int, .str]), [.tmp 24, .tmp 25], (some (23, true))⟩,
    ⟨(some 27), .plain .pick, [.tmp 23, .tmp 26, .lit (.bool false)], none⟩,
    ⟨(some 0), .plain .mv, [.tmp 27], none⟩] [16, 17, 18, 19, 20, 21, 22, 23, 24, 25, 26, 27])
  .ret)))
def cr8 : List Res := [(0, none)]
theorem ok8 : FOk Bk.pg.toProgram Bk.imp 8 c8 cr8 Tryz.f8.ntmps := ⟨Tryz.f8, _, Tryz.func8, rfl, by kernel_rfl, by kernel_rfl, by kernel_rfl, rfl⟩

/-- ironbark/ironbarklaw08.bin -/
def c10 : SC :=
  (.seq (.ops [⟨(some 0), .plain (.alloc [(.int .i64 0), (.int .i64 0), (.int .i64 0), (.int .i64 0), (.bool false), (.str ⟨#[]⟩)]), [], none⟩] [])
  (.seq (.ops [⟨(some 1), .plain (.build [(.int .i64 0), (.int .i64 0), (.int .i64 0), (.int .i64 0), (.bool false), (.str ⟨#[]⟩)] [(0, 1), (1, 1)]), [.lit (.int .i64 1), .lit (.int .i64 31)], none⟩,
    ⟨none, .plain (.store 6), [.tmp 0, .tmp 1], none⟩] [1])
  .ret))
def cr10 : List Res := [(0, some (true, 6))]
theorem ok10 : FOk Bk.pg.toProgram Bk.imp 10 c10 cr10 Tryz.f10.ntmps := ⟨Tryz.f10, _, Tryz.func10, rfl, by kernel_rfl, by kernel_rfl, by kernel_rfl, rfl⟩

/-- ironbark/ironbarklaw08.dec -/
def c24 : SC :=
  (.seq (.ops [⟨(some 0), .plain (.alloc [(.int .i64 0), (.int .i64 0), (.int .i64 0), (.int .i64 0), (.bool false), (.str ⟨#[]⟩)]), [], none⟩] [])
  (.seq (.ops [⟨(some 1), .plain (.build [(.int .i64 0), (.int .i64 0), (.int .i64 0), (.int .i64 0), (.bool false), (.str ⟨#[]⟩)] [(0, 1), (1, 1)]), [.lit (.int .i64 2), .lit (.int .i64 15)], none⟩,
    ⟨none, .plain (.store 6), [.tmp 0, .tmp 1], none⟩] [1])
  .ret))
def cr24 : List Res := [(0, some (true, 6))]
theorem ok24 : FOk Bk.pg.toProgram Bk.imp 24 c24 cr24 Tryz.f24.ntmps := ⟨Tryz.f24, _, Tryz.func24, rfl, by kernel_rfl, by kernel_rfl, by kernel_rfl, rfl⟩

/-- ironbark/built.whole -/
def c67 : SC :=
  (.seq (.ops [⟨(some 0), .plain (.alloc [(.int .i64 0), (.int .i64 0), (.int .i64 0), (.int .i64 0), (.bool false), (.str ⟨#[]⟩)]), [], none⟩] [])
  (.seq (.ops [⟨(some 1), .plain (.build [(.int .i64 0), (.int .i64 0), (.int .i64 0), (.int .i64 0), (.bool false), (.str ⟨#[]⟩)] [(0, 1), (1, 1)]), [.lit (.int .i64 1), .lit (.int .i64 31)], none⟩,
    ⟨none, .plain (.store 6), [.tmp 0, .tmp 1], none⟩] [1])
  .ret))
def cr67 : List Res := [(0, some (true, 6))]
theorem ok67 : FOk Bk.pg.toProgram Bk.imp 67 c67 cr67 Tryz.f67.ntmps := ⟨Tryz.f67, _, Tryz.func67, rfl, by kernel_rfl, by kernel_rfl, by kernel_rfl, rfl⟩

/-- strconv.Itoa -/
def c135 : SC :=
  (.seq (.ops [⟨(some 2), .plain .mv, [.lit (.str ⟨#[]⟩)], none⟩] [])
  (.seq (.ops [⟨(some 3), .plain .mv, [.tmp 0], none⟩,
    ⟨(some 4), .call 200, [.tmp 3], none⟩,
    ⟨(some 2), .plain .mv, [.tmp 4], none⟩] [3, 4])
  .ret))
def cr135 : List Res := [(2, none)]
theorem ok135 : FOk Bk.pg.toProgram Bk.imp 135 c135 cr135 Tryz.f135.ntmps := ⟨Tryz.f135, _, Tryz.func135, rfl, by kernel_rfl, by kernel_rfl, by kernel_rfl, rfl⟩

/-- internal/strconv.Itoa -/
def c200 : SC :=
  (.seq (.ops [⟨(some 2), .plain .mv, [.lit (.str ⟨#[]⟩)], none⟩] [])
  (.seq (.ops [⟨(some 3), .plain .mv, [.tmp 0], none⟩,
    ⟨(some 4), .call 278, [.tmp 3, .lit (.int .i64 10)], none⟩,
    ⟨(some 2), .plain .mv, [.tmp 4], none⟩] [3, 4])
  .ret))
def cr200 : List Res := [(2, none)]
theorem ok200 : FOk Bk.pg.toProgram Bk.imp 200 c200 cr200 Tryz.f200.ntmps := ⟨Tryz.f200, _, Tryz.func200, rfl, by kernel_rfl, by kernel_rfl, by kernel_rfl, rfl⟩

end Go.Pm
