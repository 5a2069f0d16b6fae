/- BkS4: code, resolved. Printed by ShowSC.lean and genok.py. -/
import Derived.Test.YtmcogjekcefjoaaGreatDoorGa
import Derived.Test.YtmcogjekcefjoaaGreatDoorPmT
import Derived.Test.YtmcogjekcefjoaaGreatDoorGb
import Derived.Test.YtmcogjekcefjoaaGreatDoorPmU
import Derived.Test.YtmcogjekcefjoaaGreatDoorPmV
set_option linter.unusedSimpArgs false
set_option linter.unusedVariables false
namespace Go.Pm
open Go Go.Proofs
def c27 : SC :=
 (.seq (.ops [⟨some 0, .plain .mv, [.lit (.const (.map none))], none⟩] []) (.seq (.ops [⟨some 2, .plain .mkMap, [], none⟩, ⟨some 1, .plain .mv, [.tmp 2], none⟩] [2]) (.seq (.ops [⟨some 3, .plain .mv, [.tmp 1], none⟩, ⟨some 4, .call 44, [.tmp 3], none⟩] [3, 4]) (.seq (.ops [⟨some 5, .plain .mv, [.tmp 1], none⟩, ⟨some 6, .call 45, [.tmp 5], none⟩] [5, 6]) (.seq (.ops [⟨some 7, .plain .mv, [.tmp 1], none⟩, ⟨some 8, .call 46, [.tmp 7], none⟩] [7, 8]) (.seq (.ops [⟨some 9, .plain .mv, [.tmp 1], none⟩, ⟨some 0, .plain .mv, [.tmp 9], none⟩] [9]) .ret))))))
def cr27 : List Res := [(0, none)]
theorem ok27 : FOk Bk.pg.toProgram Bk.imp 27 c27 cr27 Tryz.f27.ntmps := ⟨Tryz.f27, _, Tryz.func27, rfl, by kernel_rfl, by kernel_rfl, by kernel_rfl, rfl⟩
def c44 : SC :=
 (.seq (.ops [⟨some 11, .plain .mv, [.tmp 0], none⟩, ⟨some 12, .plain (.build [(.int .i64 0), (.int .i64 0), (.const .nilFunc), (.const .nilFunc)] [(0, 1), (1, 1), (2, 1), (3, 1)]), [.lit (.int .i64 1), .lit (.int .i64 1), .lit (.fn 61 []), .lit (.fn 62 [])], none⟩, ⟨none, .plain (.mapUpdate .str), [.tmp 11, .lit (.str ⟨#[65, 66, 83]⟩), .tmp 12], none⟩] [11, 12]) (.seq (.ops [⟨some 13, .plain .mv, [.tmp 0], none⟩, ⟨some 14, .plain (.build [(.int .i64 0), (.int .i64 0), (.const .nilFunc), (.const .nilFunc)] [(0, 1), (1, 1), (2, 1), (3, 1)]), [.lit (.int .i64 1), .lit (.int .i64 1), .lit (.fn 65 []), .lit (.fn 68 [])], none⟩, ⟨none, .plain (.mapUpdate .str), [.tmp 13, .lit (.str ⟨#[83, 73, 71, 78]⟩), .tmp 14], none⟩] [13, 14]) (.seq (.seq (.ops [⟨some 15, .plain .mkMap, [], none⟩, ⟨none, .plain (.mapUpdate .str), [.tmp 15, .lit (.str ⟨#[70, 76, 79, 79, 82]⟩), .lit (.int .i64 (-1))], none⟩, ⟨none, .plain (.mapUpdate .str), [.tmp 15, .lit (.str ⟨#[67, 69, 73, 76]⟩), .lit (.int .i64 1)], none⟩, ⟨none, .plain (.mapUpdate .str), [.tmp 15, .lit (.str ⟨#[84, 82, 85, 78, 67]⟩), .lit (.int .i64 0)], none⟩, ⟨some 16, .plain .mv, [.tmp 15], none⟩, ⟨some 17, .many .rangeM, [.tmp 16], none⟩] [15, 16]) (.block 0 (.loop (.seq (.ops [⟨some 18, .many .next, [.tmp 17], none⟩, ⟨some 19, .plain (.extract 0), [.tmp 18], none⟩] [18]) (.seq (.cond (.tmp 19) .skip (.exit 0)) (.block 1 (.seq (.ops [⟨some 20, .many .entry, [.tmp 17], none⟩, ⟨some 21, .plain (.extract 0), [.tmp 20], none⟩, ⟨some 22, .plain (.extract 1), [.tmp 20], none⟩, ⟨some 3, .plain (.alloc [(.int .i64 0)]), [], none⟩, ⟨some 2, .plain .mv, [.tmp 21], none⟩, ⟨none, .plain (.store 1), [.tmp 3, .tmp 22], none⟩] [20, 21, 22]) (.ops [⟨some 23, .plain .mv, [.tmp 0], none⟩, ⟨some 24, .plain .mv, [.tmp 2], none⟩, ⟨some 25, .plain (.mkFn 71), [.tmp 3], none⟩, ⟨some 26, .plain (.build [(.int .i64 0), (.int .i64 0), (.const .nilFunc), (.const .nilFunc)] [(0, 1), (1, 1), (2, 1), (3, 1)]), [.lit (.int .i64 1), .lit (.int .i64 1), .lit (.fn 70 []), .tmp 25], none⟩, ⟨none, .plain (.mapUpdate .str), [.tmp 23, .tmp 24, .tmp 26], none⟩] [23, 24, 25, 26])))))))) (.seq (.ops [⟨some 27, .plain .mv, [.tmp 0], none⟩, ⟨some 28, .plain (.build [(.int .i64 0), (.int .i64 0), (.const .nilFunc), (.const .nilFunc)] [(0, 1), (1, 1), (2, 1), (3, 1)]), [.lit (.int .i64 2), .lit (.int .i64 2), .lit (.fn 73 []), .lit (.fn 74 [])], none⟩, ⟨none, .plain (.mapUpdate .str), [.tmp 27, .lit (.str ⟨#[82, 79, 85, 78, 68]⟩), .tmp 28], none⟩] [27, 28]) (.seq (.ops [⟨some 29, .plain .mv, [.tmp 0], none⟩, ⟨some 30, .plain (.build [(.int .i64 0), (.int .i64 0), (.const .nilFunc), (.const .nilFunc)] [(0, 1), (1, 1), (2, 1), (3, 1)]), [.lit (.int .i64 2), .lit (.int .i64 2), .lit (.fn 75 []), .lit (.fn 76 [])], none⟩, ⟨none, .plain (.mapUpdate .str), [.tmp 29, .lit (.str ⟨#[77, 79, 68]⟩), .tmp 30], none⟩] [29, 30]) (.seq (.seq (.ops [⟨some 31, .plain .mkMap, [], none⟩, ⟨none, .plain (.mapUpdate .str), [.tmp 31, .lit (.str ⟨#[77, 65, 88]⟩), .lit (.int .i64 1)], none⟩, ⟨none, .plain (.mapUpdate .str), [.tmp 31, .lit (.str ⟨#[77, 73, 78]⟩), .lit (.int .i64 (-1))], none⟩, ⟨some 32, .plain .mv, [.tmp 31], none⟩, ⟨some 33, .many .rangeM, [.tmp 32], none⟩] [31, 32]) (.block 2 (.loop (.seq (.ops [⟨some 34, .many .next, [.tmp 33], none⟩, ⟨some 35, .plain (.extract 0), [.tmp 34], none⟩] [34]) (.seq (.cond (.tmp 35) .skip (.exit 2)) (.block 3 (.seq (.ops [⟨some 36, .many .entry, [.tmp 33], none⟩, ⟨some 37, .plain (.extract 0), [.tmp 36], none⟩, ⟨some 38, .plain (.extract 1), [.tmp 36], none⟩, ⟨some 5, .plain (.alloc [(.int .i64 0)]), [], none⟩, ⟨some 4, .plain .mv, [.tmp 37], none⟩, ⟨none, .plain (.store 1), [.tmp 5, .tmp 38], none⟩] [36, 37, 38]) (.ops [⟨some 39, .plain .mv, [.tmp 0], none⟩, ⟨some 40, .plain .mv, [.tmp 4], none⟩, ⟨some 41, .plain (.mkFn 77), [.tmp 5], none⟩, ⟨some 42, .plain (.build [(.int .i64 0), (.int .i64 0), (.const .nilFunc), (.const .nilFunc)] [(0, 1), (1, 1), (2, 1), (3, 1)]), [.lit (.int .i64 1), .lit (.int .i64 20), .lit (.fn 75 []), .tmp 41], none⟩, ⟨none, .plain (.mapUpdate .str), [.tmp 39, .tmp 40, .tmp 42], none⟩] [39, 40, 41, 42])))))))) (.seq (.seq (.ops [⟨some 43, .plain .mkMap, [], none⟩, ⟨none, .plain (.mapUpdate .str), [.tmp 43, .lit (.str ⟨#[65, 68, 68]⟩), .lit (.fn 79 [])], none⟩, ⟨none, .plain (.mapUpdate .str), [.tmp 43, .lit (.str ⟨#[83, 85, 66, 84, 82, 65, 67, 84]⟩), .lit (.fn 80 [])], none⟩, ⟨none, .plain (.mapUpdate .str), [.tmp 43, .lit (.str ⟨#[77, 85, 76, 84, 73, 80, 76, 89]⟩), .lit (.fn 81 [])], none⟩, ⟨none, .plain (.mapUpdate .str), [.tmp 43, .lit (.str ⟨#[68, 73, 86, 73, 68, 69]⟩), .lit (.fn 82 [])], none⟩, ⟨some 44, .plain .mv, [.tmp 43], none⟩, ⟨some 45, .many .rangeM, [.tmp 44], none⟩] [43, 44]) (.block 4 (.loop (.seq (.ops [⟨some 46, .many .next, [.tmp 45], none⟩, ⟨some 47, .plain (.extract 0), [.tmp 46], none⟩] [46]) (.seq (.cond (.tmp 47) .skip (.exit 4)) (.block 5 (.seq (.ops [⟨some 48, .many .entry, [.tmp 45], none⟩, ⟨some 49, .plain (.extract 0), [.tmp 48], none⟩, ⟨some 50, .plain (.extract 1), [.tmp 48], none⟩, ⟨some 7, .plain (.alloc [(.const .nilFunc)]), [], none⟩, ⟨some 6, .plain .mv, [.tmp 49], none⟩, ⟨none, .plain (.store 1), [.tmp 7, .tmp 50], none⟩] [48, 49, 50]) (.ops [⟨some 51, .plain .mv, [.tmp 0], none⟩, ⟨some 52, .plain .mv, [.tmp 6], none⟩, ⟨some 53, .plain (.mkFn 84), [.tmp 7], none⟩, ⟨some 54, .plain (.build [(.int .i64 0), (.int .i64 0), (.const .nilFunc), (.const .nilFunc)] [(0, 1), (1, 1), (2, 1), (3, 1)]), [.lit (.int .i64 3), .lit (.int .i64 4), .lit (.fn 83 []), .tmp 53], none⟩, ⟨none, .plain (.mapUpdate .str), [.tmp 51, .tmp 52, .tmp 54], none⟩] [51, 52, 53, 54])))))))) (.seq (.ops [⟨some 55, .plain .mkMap, [], none⟩, ⟨none, .plain (.mapUpdate .str), [.tmp 55, .lit (.str ⟨#[70, 73, 88, 69, 68]⟩), .lit (.int .i64 0)], none⟩, ⟨none, .plain (.mapUpdate .str), [.tmp 55, .lit (.str ⟨#[66, 73, 78, 65, 82, 89]⟩), .lit (.int .i64 1)], none⟩, ⟨none, .plain (.mapUpdate .str), [.tmp 55, .lit (.str ⟨#[68, 69, 67, 73, 77, 65, 76]⟩), .lit (.int .i64 2)], none⟩, ⟨none, .plain (.mapUpdate .str), [.tmp 55, .lit (.str ⟨#[70, 76, 79, 65, 84]⟩), .lit (.int .i64 3)], none⟩, ⟨some 56, .plain .mv, [.tmp 55], none⟩, ⟨some 57, .many .rangeM, [.tmp 56], none⟩] [55, 56]) (.block 6 (.loop (.seq (.ops [⟨some 58, .many .next, [.tmp 57], none⟩, ⟨some 59, .plain (.extract 0), [.tmp 58], none⟩] [58]) (.seq (.cond (.tmp 59) .skip (.exit 6)) (.block 7 (.seq (.ops [⟨some 60, .many .entry, [.tmp 57], none⟩, ⟨some 61, .plain (.extract 0), [.tmp 60], none⟩, ⟨some 62, .plain (.extract 1), [.tmp 60], none⟩, ⟨some 9, .plain (.alloc [(.int .i64 0)]), [], none⟩, ⟨some 8, .plain .mv, [.tmp 61], none⟩, ⟨none, .plain (.store 1), [.tmp 9, .tmp 62], none⟩] [60, 61, 62]) (.seq (.ops [⟨some 10, .plain .mv, [.lit (.int .i64 3)], none⟩] []) (.seq (.seq (.ops [⟨some 63, .plain (.load false 1), [.tmp 9], none⟩, ⟨some 64, .plain (.bin .eql), [.tmp 63, .lit (.int .i64 3)], none⟩] [63]) (.cond (.tmp 64) (.ops [⟨some 10, .plain .mv, [.lit (.int .i64 2)], none⟩] []) .skip)) (.ops [⟨some 65, .plain .mv, [.tmp 0], none⟩, ⟨some 66, .plain .mv, [.tmp 8], none⟩, ⟨some 67, .plain .mv, [.tmp 10], none⟩, ⟨some 68, .plain (.mkFn 87), [.tmp 9], none⟩, ⟨some 69, .plain (.build [(.int .i64 0), (.int .i64 0), (.const .nilFunc), (.const .nilFunc)] [(0, 1), (1, 1), (2, 1), (3, 1)]), [.lit (.int .i64 1), .tmp 67, .tmp 68, .lit (.fn 89 [])], none⟩, ⟨none, .plain (.mapUpdate .str), [.tmp 65, .tmp 66, .tmp 69], none⟩] [65, 66, 67, 68, 69])))))))))))))))))
def cr44 : List Res := []
theorem ok44 : FOk Bk.pg.toProgram Bk.imp 44 c44 cr44 Tryz.f44.ntmps := ⟨Tryz.f44, _, Tryz.func44, rfl, by kernel_rfl, by kernel_rfl, by kernel_rfl, rfl⟩
def c45 : SC :=
 (.seq (.ops [⟨some 2, .plain .mv, [.lit (.fn 90 [])], none⟩] []) (.seq (.ops [⟨some 3, .plain (.alloc [(.const .nilFunc)]), [], none⟩, ⟨none, .plain (.store 1), [.tmp 3, .lit (.fn 92 [])], none⟩] []) (.seq (.ops [⟨some 4, .plain .mv, [.tmp 0], none⟩, ⟨some 5, .plain .mv, [.tmp 2], none⟩, ⟨some 6, .plain (.build [(.int .i64 0), (.int .i64 0), (.const .nilFunc), (.const .nilFunc)] [(0, 1), (1, 1), (2, 1), (3, 1)]), [.lit (.int .i64 1), .lit (.int .i64 1), .tmp 5, .lit (.fn 94 [])], none⟩, ⟨none, .plain (.mapUpdate .str), [.tmp 4, .lit (.str ⟨#[76, 69, 78, 71, 84, 72]⟩), .tmp 6], none⟩] [4, 5, 6]) (.seq (.ops [⟨some 7, .plain .mv, [.tmp 0], none⟩, ⟨some 8, .plain (.build [(.int .i64 0), (.int .i64 0), (.const .nilFunc), (.const .nilFunc)] [(0, 1), (1, 1), (2, 1), (3, 1)]), [.lit (.int .i64 2), .lit (.int .i64 3), .lit (.fn 95 []), .lit (.fn 96 [])], none⟩, ⟨none, .plain (.mapUpdate .str), [.tmp 7, .lit (.str ⟨#[83, 85, 66, 83, 84, 82]⟩), .tmp 8], none⟩] [7, 8]) (.seq (.ops [⟨some 9, .plain .mv, [.tmp 0], none⟩, ⟨some 10, .plain .mv, [.tmp 2], none⟩, ⟨some 11, .plain (.mkFn 97), [.tmp 3], none⟩, ⟨some 12, .plain (.build [(.int .i64 0), (.int .i64 0), (.const .nilFunc), (.const .nilFunc)] [(0, 1), (1, 1), (2, 1), (3, 1)]), [.lit (.int .i64 2), .lit (.int .i64 2), .tmp 10, .tmp 11], none⟩, ⟨none, .plain (.mapUpdate .str), [.tmp 9, .lit (.str ⟨#[73, 78, 68, 69, 88]⟩), .tmp 12], none⟩] [9, 10, 11, 12]) (.ops [⟨some 13, .plain .mv, [.tmp 0], none⟩, ⟨some 14, .plain .mv, [.tmp 2], none⟩, ⟨some 15, .plain (.mkFn 99), [.tmp 3], none⟩, ⟨some 16, .plain (.build [(.int .i64 0), (.int .i64 0), (.const .nilFunc), (.const .nilFunc)] [(0, 1), (1, 1), (2, 1), (3, 1)]), [.lit (.int .i64 2), .lit (.int .i64 2), .tmp 14, .tmp 15], none⟩, ⟨none, .plain (.mapUpdate .str), [.tmp 13, .lit (.str ⟨#[86, 69, 82, 73, 70, 89]⟩), .tmp 16], none⟩] [13, 14, 15, 16]))))))
def cr45 : List Res := []
theorem ok45 : FOk Bk.pg.toProgram Bk.imp 45 c45 cr45 Tryz.f45.ntmps := ⟨Tryz.f45, _, Tryz.func45, rfl, by kernel_rfl, by kernel_rfl, by kernel_rfl, rfl⟩
def c46 : SC :=
 (.seq (.ops [⟨some 2, .plain .mv, [.lit (.fn 101 [])], none⟩] []) (.seq (.ops [⟨some 8, .plain .mv, [.tmp 0], none⟩, ⟨some 9, .plain (.build [(.int .i64 0), (.int .i64 0), (.const .nilFunc), (.const .nilFunc)] [(0, 1), (1, 1), (2, 1), (3, 1)]), [.lit (.int .i64 3), .lit (.int .i64 3), .lit (.fn 102 []), .lit (.fn 103 [])], none⟩, ⟨none, .plain (.mapUpdate .str), [.tmp 8, .lit (.str ⟨#[84, 82, 65, 78, 83, 76, 65, 84, 69]⟩), .tmp 9], none⟩] [8, 9]) (.seq (.ops [⟨some 3, .plain .mv, [.lit (.fn 106 [])], none⟩] []) (.seq (.ops [⟨some 10, .plain .mv, [.tmp 0], none⟩, ⟨some 11, .plain .mv, [.tmp 3], none⟩, ⟨some 12, .plain (.build [(.int .i64 0), (.int .i64 0), (.const .nilFunc), (.const .nilFunc)] [(0, 1), (1, 1), (2, 1), (3, 1)]), [.lit (.int .i64 2), .lit (.int .i64 2), .tmp 11, .lit (.fn 108 [])], none⟩, ⟨none, .plain (.mapUpdate .str), [.tmp 10, .lit (.str ⟨#[82, 69, 80, 69, 65, 84]⟩), .tmp 12], none⟩] [10, 11, 12]) (.seq (.ops [⟨some 13, .plain .mv, [.tmp 0], none⟩, ⟨some 14, .plain .mv, [.tmp 3], none⟩, ⟨some 15, .plain (.build [(.int .i64 0), (.int .i64 0), (.const .nilFunc), (.const .nilFunc)] [(0, 1), (1, 1), (2, 1), (3, 1)]), [.lit (.int .i64 2), .lit (.int .i64 2), .tmp 14, .lit (.fn 110 [])], none⟩, ⟨none, .plain (.mapUpdate .str), [.tmp 13, .lit (.str ⟨#[67, 79, 80, 89]⟩), .tmp 15], none⟩] [13, 14, 15]) (.seq (.ops [⟨some 16, .plain .mv, [.tmp 0], none⟩, ⟨some 17, .plain .mv, [.tmp 2], none⟩, ⟨some 18, .plain (.build [(.int .i64 0), (.int .i64 0), (.const .nilFunc), (.const .nilFunc)] [(0, 1), (1, 1), (2, 1), (3, 1)]), [.lit (.int .i64 1), .lit (.int .i64 1), .tmp 17, .lit (.fn 111 [])], none⟩, ⟨none, .plain (.mapUpdate .str), [.tmp 16, .lit (.str ⟨#[82, 69, 86, 69, 82, 83, 69]⟩), .tmp 18], none⟩] [16, 17, 18]) (.seq (.ops [⟨some 19, .plain .mv, [.tmp 0], none⟩, ⟨some 20, .plain .mv, [.tmp 2], none⟩, ⟨some 21, .plain (.build [(.int .i64 0), (.int .i64 0), (.const .nilFunc), (.const .nilFunc)] [(0, 1), (1, 1), (2, 1), (3, 1)]), [.lit (.int .i64 1), .lit (.int .i64 1), .tmp 20, .lit (.fn 113 [])], none⟩, ⟨none, .plain (.mapUpdate .str), [.tmp 19, .lit (.str ⟨#[83, 84, 82, 73, 78, 71]⟩), .tmp 21], none⟩] [19, 20, 21]) (.seq (.ops [⟨some 22, .plain .mv, [.tmp 0], none⟩, ⟨some 23, .plain (.build [(.int .i64 0), (.int .i64 0), (.const .nilFunc), (.const .nilFunc)] [(0, 1), (1, 1), (2, 1), (3, 1)]), [.lit (.int .i64 3), .lit (.int .i64 3), .lit (.fn 114 []), .lit (.fn 115 [])], none⟩, ⟨none, .plain (.mapUpdate .str), [.tmp 22, .lit (.str ⟨#[66, 79, 79, 76]⟩), .tmp 23], none⟩] [22, 23]) (.seq (.seq (.ops [⟨some 24, .plain .mkMap, [], none⟩, ⟨none, .plain (.mapUpdate .str), [.tmp 24, .lit (.str ⟨#[67, 72, 65, 82]⟩), .lit (.int .i64 4)], none⟩, ⟨none, .plain (.mapUpdate .str), [.tmp 24, .lit (.str ⟨#[66, 73, 84]⟩), .lit (.int .i64 5)], none⟩, ⟨some 25, .plain .mv, [.tmp 24], none⟩, ⟨some 26, .many .rangeM, [.tmp 25], none⟩] [24, 25]) (.block 0 (.loop (.seq (.ops [⟨some 27, .many .next, [.tmp 26], none⟩, ⟨some 28, .plain (.extract 0), [.tmp 27], none⟩] [27]) (.seq (.cond (.tmp 28) .skip (.exit 0)) (.block 1 (.seq (.ops [⟨some 29, .many .entry, [.tmp 26], none⟩, ⟨some 30, .plain (.extract 0), [.tmp 29], none⟩, ⟨some 31, .plain (.extract 1), [.tmp 29], none⟩, ⟨some 5, .plain (.alloc [(.int .i64 0)]), [], none⟩, ⟨some 4, .plain .mv, [.tmp 30], none⟩, ⟨none, .plain (.store 1), [.tmp 5, .tmp 31], none⟩] [29, 30, 31]) (.ops [⟨some 32, .plain .mv, [.tmp 0], none⟩, ⟨some 33, .plain .mv, [.tmp 4], none⟩, ⟨some 34, .plain (.mkFn 118), [.tmp 5], none⟩, ⟨some 35, .plain (.build [(.int .i64 0), (.int .i64 0), (.const .nilFunc), (.const .nilFunc)] [(0, 1), (1, 1), (2, 1), (3, 1)]), [.lit (.int .i64 1), .lit (.int .i64 2), .tmp 34, .lit (.fn 121 [])], none⟩, ⟨none, .plain (.mapUpdate .str), [.tmp 32, .tmp 33, .tmp 35], none⟩] [32, 33, 34, 35])))))))) (.seq (.ops [⟨some 36, .plain .mkMap, [], none⟩, ⟨none, .plain (.mapUpdate .str), [.tmp 36, .lit (.str ⟨#[72, 73, 71, 72]⟩), .lit (.fn 123 [])], none⟩, ⟨none, .plain (.mapUpdate .str), [.tmp 36, .lit (.str ⟨#[76, 79, 87]⟩), .lit (.fn 124 [])], none⟩, ⟨some 37, .plain .mv, [.tmp 36], none⟩, ⟨some 38, .many .rangeM, [.tmp 37], none⟩] [36, 37]) (.block 2 (.loop (.seq (.ops [⟨some 39, .many .next, [.tmp 38], none⟩, ⟨some 40, .plain (.extract 0), [.tmp 39], none⟩] [39]) (.seq (.cond (.tmp 40) .skip (.exit 2)) (.block 3 (.seq (.ops [⟨some 41, .many .entry, [.tmp 38], none⟩, ⟨some 42, .plain (.extract 0), [.tmp 41], none⟩, ⟨some 43, .plain (.extract 1), [.tmp 41], none⟩, ⟨some 7, .plain (.alloc [(.const .nilFunc)]), [], none⟩, ⟨some 6, .plain .mv, [.tmp 42], none⟩, ⟨none, .plain (.store 1), [.tmp 7, .tmp 43], none⟩] [41, 42, 43]) (.ops [⟨some 44, .plain .mv, [.tmp 0], none⟩, ⟨some 45, .plain .mv, [.tmp 6], none⟩, ⟨some 46, .plain (.mkFn 126), [.tmp 7], none⟩, ⟨some 47, .plain (.build [(.int .i64 0), (.int .i64 0), (.const .nilFunc), (.const .nilFunc)] [(0, 1), (1, 1), (2, 1), (3, 1)]), [.lit (.int .i64 1), .lit (.int .i64 1), .lit (.fn 125 []), .tmp 46], none⟩, ⟨none, .plain (.mapUpdate .str), [.tmp 44, .tmp 45, .tmp 47], none⟩] [44, 45, 46, 47])))))))))))))))))
def cr46 : List Res := []
theorem ok46 : FOk Bk.pg.toProgram Bk.imp 46 c46 cr46 Tryz.f46.ntmps := ⟨Tryz.f46, _, Tryz.func46, rfl, by kernel_rfl, by kernel_rfl, by kernel_rfl, rfl⟩
def c29 : SC :=
 (.seq (.ops [⟨some 6, .plain .mv, [.lit (.bool false)], none⟩] []) (.seq (.ops [⟨some 7, .plain .mv, [.tmp 0], none⟩, ⟨some 8, .plain .mv, [.tmp 1], none⟩, ⟨some 9, .plain (.bin .geq), [.tmp 7, .tmp 8], none⟩, ⟨some 10, .plain .mv, [.tmp 9], none⟩, ⟨some 11, .plain .mv, [.tmp 0], (some (10, true))⟩, ⟨some 12, .plain .mv, [.tmp 2], (some (10, true))⟩, ⟨some 13, .plain (.bin .leq), [.tmp 11, .tmp 12], (some (10, true))⟩, ⟨some 14, .plain .pick, [.tmp 10, .tmp 13, .lit (.bool false)], none⟩, ⟨some 6, .plain .mv, [.tmp 14], none⟩] [7, 8, 9, 10, 11, 12, 13, 14]) .ret))
def cr29 : List Res := [(6, none)]
theorem ok29 : FOk Bk.pg.toProgram Bk.imp 29 c29 cr29 Tryz.f29.ntmps := ⟨Tryz.f29, _, Tryz.func29, rfl, by kernel_rfl, by kernel_rfl, by kernel_rfl, rfl⟩
def c28 : SC :=
 (.seq (.ops [⟨some 4, .plain .mv, [.tmp 0], none⟩, ⟨some 5, .plain (.un .not), [.tmp 4], none⟩] [4]) (.cond (.tmp 5) (.ops [⟨some 6, .plain .mv, [.tmp 1], none⟩, ⟨some 7, .plain (.build [(.int .i64 0)] [(0, 1)]), [.tmp 6], none⟩, ⟨some 8, .plain (.mkIface 78), [.tmp 7], none⟩, ⟨none, .panic, [.tmp 8], none⟩] [6, 7, 8]) .skip))
def cr28 : List Res := []
theorem ok28 : FOk Bk.pg.toProgram Bk.imp 28 c28 cr28 Tryz.f28.ntmps := ⟨Tryz.f28, _, Tryz.func28, rfl, by kernel_rfl, by kernel_rfl, by kernel_rfl, rfl⟩
def c30 : SC :=
 (.seq (.ops [⟨some 1, .plain (.box 1), [.tmp 0], none⟩, ⟨some 2, .plain .mv, [.lit (.const .nilFunc)], none⟩] []) (.seq (.ops [⟨some 3, .plain (.mkFn 47), [.tmp 1], none⟩, ⟨some 2, .plain .mv, [.tmp 3], none⟩] [3]) .ret))
def cr30 : List Res := [(2, none)]
theorem ok30 : FOk Bk.pg.toProgram Bk.imp 30 c30 cr30 Tryz.f30.ntmps := ⟨Tryz.f30, _, Tryz.func30, rfl, by kernel_rfl, by kernel_rfl, by kernel_rfl, rfl⟩
def c47 : SC :=
 (.seq (.ops [⟨some 4, .plain (.load false 1), [.tmp 1], none⟩, ⟨some 5, .plain .mv, [.lit (.int .i64 0)], none⟩] []) (.block 0 (.loop (.seq (.ops [⟨some 6, .plain (.bin .lss), [.tmp 5, .tmp 4], none⟩] []) (.seq (.cond (.tmp 6) .skip (.exit 0)) (.seq (.block 1 (.seq (.ops [⟨some 7, .plain .mv, [.tmp 5], none⟩, ⟨some 3, .plain .mv, [.tmp 7], none⟩] [7]) (.seq (.ops [⟨some 8, .plain .mv, [.tmp 0], none⟩, ⟨some 9, .plain .mv, [.tmp 3], none⟩, ⟨some 10, .callv, [.tmp 8, .tmp 9], none⟩, ⟨some 11, .plain (.un .not), [.tmp 10], none⟩] [8, 9, 10]) (.cond (.tmp 11) .ret .skip)))) (.ops [⟨some 12, .plain (.bin .add), [.tmp 5, .lit (.int .i64 1)], none⟩, ⟨some 5, .plain .mv, [.tmp 12], none⟩] [12])))))))
def cr47 : List Res := []
theorem ok47 : FOk Bk.pg.toProgram Bk.imp 47 c47 cr47 Tryz.f47.ntmps := ⟨Tryz.f47, _, Tryz.func47, rfl, by kernel_rfl, by kernel_rfl, by kernel_rfl, rfl⟩
def c32 : SC :=
 (.seq (.ops [⟨some 1, .plain (.box 4), [.tmp 0], none⟩, ⟨some 2, .plain .mv, [.lit (.bool false)], none⟩] []) (.seq (.seq (.ops [⟨some 3, .plain (.fieldAddr 0), [.tmp 1], none⟩, ⟨some 4, .plain (.load false 1), [.tmp 3], none⟩, ⟨some 5, .plain (.bin .eql), [.tmp 4, .lit (.int .i64 4)], none⟩, ⟨some 6, .plain .mv, [.tmp 5], none⟩, ⟨some 7, .plain (.fieldAddr 0), [.tmp 1], (some (6, false))⟩, ⟨some 8, .plain (.load false 1), [.tmp 7], (some (6, false))⟩, ⟨some 9, .plain (.bin .eql), [.tmp 8, .lit (.int .i64 5)], (some (6, false))⟩, ⟨some 10, .plain .pick, [.tmp 6, .lit (.bool true), .tmp 9], none⟩] [3, 4, 5, 6, 7, 8, 9]) (.cond (.tmp 10) (.seq (.ops [⟨some 11, .plain (.load true 4), [.tmp 1], none⟩, ⟨some 12, .call 50, [.tmp 11], none⟩, ⟨some 2, .plain .mv, [.tmp 12], none⟩] [11, 12]) .ret) .skip)) (.seq (.ops [⟨some 13, .plain (.load true 4), [.tmp 1], none⟩, ⟨some 14, .call 51, [.tmp 13], none⟩, ⟨some 2, .plain .mv, [.tmp 14], none⟩] [13, 14]) .ret)))
def cr32 : List Res := [(2, none)]
theorem ok32 : FOk Bk.pg.toProgram Bk.imp 32 c32 cr32 Tryz.f32.ntmps := ⟨Tryz.f32, _, Tryz.func32, rfl, by kernel_rfl, by kernel_rfl, by kernel_rfl, rfl⟩
def c34 : SC :=
 (.seq (.ops [⟨some 2, .plain (.box 4), [.tmp 0], none⟩, ⟨some 3, .plain (.box 1), [.tmp 1], none⟩, ⟨some 4, .plain .mv, [.lit (.int .i64 0)], none⟩] []) (.seq (.seq (.ops [⟨some 12, .plain (.buildRow 3 1 2 [(.int .i64 0)] [0, 1]), [.lit (.int .i64 1), .lit (.int .i64 0)], none⟩, ⟨some 13, .plain (.len 1), [.tmp 12], none⟩, ⟨some 14, .plain .mv, [.lit (.int .i64 0)], none⟩] []) (.block 0 (.loop (.seq (.ops [⟨some 15, .plain (.bin .lss), [.tmp 14, .tmp 13], none⟩] []) (.seq (.cond (.tmp 15) .skip (.exit 0)) (.seq (.block 1 (.seq (.ops [⟨some 16, .plain (.indexAddr 1), [.tmp 12, .tmp 14], none⟩, ⟨some 17, .plain (.load false 1), [.tmp 16], none⟩, ⟨some 6, .plain .mv, [.tmp 17], none⟩] [16, 17]) (.seq (.ops [⟨some 18, .plain (.load false 1), [.tmp 3], none⟩, ⟨some 19, .plain (.len 1), [.tmp 18], none⟩, ⟨some 20, .plain (.mkRow 24 [(.int .i64 0), (.int .i64 0), (.int .i64 0), (.str ⟨#[]⟩)] 40), [.tmp 19, .tmp 19], none⟩, ⟨some 7, .plain (.alloc [.nilS]), [], none⟩, ⟨none, .plain (.store 1), [.tmp 7, .tmp 20], none⟩] [18, 19, 20]) (.seq (.seq (.ops [⟨some 21, .plain (.load false 1), [.tmp 3], none⟩, ⟨some 22, .plain (.len 1), [.tmp 21], none⟩, ⟨some 23, .plain .mv, [.lit (.int .i64 0)], none⟩] []) (.block 2 (.loop (.seq (.ops [⟨some 24, .plain (.bin .lss), [.tmp 23, .tmp 22], none⟩] []) (.seq (.cond (.tmp 24) .skip (.exit 2)) (.seq (.block 3 (.seq (.ops [⟨some 25, .plain .mv, [.tmp 23], none⟩, ⟨some 26, .plain (.indexAddr 6), [.tmp 21, .tmp 23], none⟩, ⟨some 27, .plain (.load true 6), [.tmp 26], none⟩, ⟨some 9, .plain (.alloc [(.int .i64 0), (.int .i64 0), (.int .i64 0), (.int .i64 0), (.bool false), (.str ⟨#[]⟩)]), [], none⟩, ⟨some 8, .plain .mv, [.tmp 25], none⟩, ⟨none, .plain (.store 6), [.tmp 9, .tmp 27], none⟩] [25, 26, 27]) (.draw (.step ⟨some 28, .plain (.load false 1), [.tmp 7], none⟩ (.step ⟨some 29, .plain .mv, [.tmp 8], none⟩ (.step ⟨some 30, .plain (.load true 6), [.tmp 9], none⟩ (.step ⟨some 31, .plain .mv, [.tmp 6], none⟩ (.step ⟨some 32, .call 53, [.tmp 30, .tmp 31], none⟩ (.step ⟨some 33, .plain (.indexAddr 4), [.tmp 28, .tmp 29], none⟩ (.step ⟨none, .plain (.store 4), [.tmp 33, .tmp 32], none⟩ .done))))))) [28, 29, 30, 31, 32, 33]))) (.ops [⟨some 34, .plain (.bin .add), [.tmp 23, .lit (.int .i64 1)], none⟩, ⟨some 23, .plain .mv, [.tmp 34], none⟩] [34]))))))) (.seq (.ops [⟨some 10, .plain (.alloc [(.int .i64 0), (.int .i64 0), (.int .i64 0), (.int .i64 0), (.bool false), (.str ⟨#[]⟩)]), [], none⟩] []) (.seq (.ops [⟨some 35, .plain (.mkFn 54), [.tmp 2, .tmp 3, .tmp 7, .tmp 10], none⟩, ⟨some 36, .call 25, [.tmp 35], none⟩, ⟨some 11, .plain .mv, [.tmp 36], none⟩] [35, 36]) (.seq (.ops [⟨some 37, .plain .mv, [.tmp 11], none⟩, ⟨some 38, .plain (.bin .eql), [.tmp 37, .lit (.int .i64 0)], none⟩] [37]) (.cond (.tmp 38) (.seq (.ops [⟨some 39, .plain (.fieldAddr 0), [.tmp 10], none⟩, ⟨some 40, .plain (.load false 1), [.tmp 39], none⟩, ⟨some 4, .plain .mv, [.tmp 40], none⟩] [39, 40]) .ret) (.seq (.ops [⟨some 41, .plain .mv, [.tmp 11], none⟩, ⟨some 42, .plain (.bin .eql), [.tmp 41, .lit (.int .i64 10)], none⟩] [41]) (.cond (.tmp 42) (.ops [⟨some 43, .plain .mv, [.tmp 11], none⟩, ⟨some 44, .plain (.build [(.int .i64 0)] [(0, 1)]), [.tmp 43], none⟩, ⟨some 45, .plain (.mkIface 78), [.tmp 44], none⟩, ⟨none, .panic, [.tmp 45], none⟩] [43, 44, 45]) .skip)))))))))) (.ops [⟨some 46, .plain (.bin .add), [.tmp 14, .lit (.int .i64 1)], none⟩, ⟨some 14, .plain .mv, [.tmp 46], none⟩] [46]))))))) (.seq (.ops [⟨some 4, .plain .mv, [.lit (.int .i64 0)], none⟩] []) .ret)))
def cr34 : List Res := [(4, none)]
theorem ok34 : FOk Bk.pg.toProgram Bk.imp 34 c34 cr34 Tryz.f34.ntmps := ⟨Tryz.f34, _, Tryz.func34, rfl, by kernel_rfl, by kernel_rfl, by kernel_rfl, rfl⟩
def c54 : SC :=
 (.ops [⟨some 4, .plain (.fieldAddr 2), [.tmp 0], none⟩, ⟨some 5, .plain (.load false 1), [.tmp 4], none⟩, ⟨some 6, .plain (.load false 1), [.tmp 1], none⟩, ⟨some 7, .plain (.load false 1), [.tmp 2], none⟩, ⟨some 8, .plain (.build [.nilS, .nilS] [(0, 1), (1, 1)]), [.tmp 6, .tmp 7], none⟩, ⟨some 9, .callv, [.tmp 5, .tmp 8], none⟩, ⟨none, .plain (.store 6), [.tmp 3, .tmp 9], none⟩] [4, 5, 6, 7, 8, 9])
def cr54 : List Res := []
theorem ok54 : FOk Bk.pg.toProgram Bk.imp 54 c54 cr54 Tryz.f54.ntmps := ⟨Tryz.f54, _, Tryz.func54, rfl, by kernel_rfl, by kernel_rfl, by kernel_rfl, rfl⟩
def c53 : SC :=
 let s0 : DT := (.step ⟨none, .plain (.store 4), [.tmp 9, .tmp 67], none⟩ (.step ⟨none, .plain (.store 5), [.tmp 10, .tmp 68], none⟩ (.step ⟨some 11, .plain .mv, [.tmp 69], none⟩ .done)))
 (.seq (.ops [⟨some 2, .plain (.box 6), [.tmp 0], none⟩, ⟨some 4, .plain (.alloc [(.int .i64 0), (.int .i64 0), (.int .i64 0), (.str ⟨#[]⟩)]), [], none⟩] []) (.seq (.seq (.ops [⟨some 14, .plain .mv, [.tmp 1], none⟩, ⟨some 15, .call 135, [.tmp 14], none⟩, ⟨some 5, .plain .mv, [.tmp 15], none⟩] [14, 15]) (.seq (.ops [⟨some 16, .plain (.fieldAddr 0), [.tmp 2], none⟩, ⟨some 17, .plain (.load false 1), [.tmp 16], none⟩, ⟨some 18, .plain (.bin .eql), [.tmp 17, .lit (.int .i64 4)], none⟩, ⟨some 19, .plain .mv, [.tmp 18], none⟩, ⟨some 20, .plain (.fieldAddr 0), [.tmp 2], (some (19, false))⟩, ⟨some 21, .plain (.load false 1), [.tmp 20], (some (19, false))⟩, ⟨some 22, .plain (.bin .eql), [.tmp 21, .lit (.int .i64 5)], (some (19, false))⟩, ⟨some 23, .plain .pick, [.tmp 19, .lit (.bool true), .tmp 22], none⟩, ⟨some 24, .plain .mv, [.tmp 23], none⟩, ⟨some 25, .plain (.fieldAddr 3), [.tmp 2], (some (24, true))⟩, ⟨some 26, .plain (.load false 1), [.tmp 25], (some (24, true))⟩, ⟨some 27, .plain (.bin .gtr), [.tmp 26, .lit (.int .i64 0)], (some (24, true))⟩, ⟨some 28, .plain .pick, [.tmp 24, .tmp 27, .lit (.bool false)], none⟩] [16, 17, 18, 19, 20, 21, 22, 23, 24, 25, 26, 27]) (.cond (.tmp 28) (.seq (.seq (.ops [⟨some 29, .plain (.fieldAddr 0), [.tmp 2], none⟩, ⟨some 30, .plain (.load false 1), [.tmp 29], none⟩, ⟨some 31, .plain (.bin .eql), [.tmp 30, .lit (.int .i64 5)], none⟩] [29, 30]) (.cond (.tmp 31) (.seq (.draw (.step ⟨some 32, .plain (.fieldAddr 0), [.tmp 2], none⟩ (.step ⟨some 33, .plain (.load false 1), [.tmp 32], none⟩ (.step ⟨some 34, .plain (.fieldAddr 3), [.tmp 2], none⟩ (.step ⟨some 35, .plain (.load false 1), [.tmp 34], none⟩ (.step ⟨some 36, .plain (.bin .sub), [.tmp 35, .lit (.int .i64 1)], none⟩ (.step ⟨some 37, .call 136, [.lit (.str ⟨#[48]⟩), .tmp 36], none⟩ (.step ⟨some 38, .plain .mv, [.tmp 5], none⟩ (.step ⟨some 39, .plain (.bin .add), [.tmp 37, .tmp 38], none⟩ (.step ⟨some 40, .plain (.build [(.int .i64 0), (.int .i64 0), (.int .i64 0), (.str ⟨#[]⟩)] [(0, 1), (3, 1)]), [.tmp 33, .tmp 39], none⟩ (.step ⟨none, .plain (.store 4), [.tmp 4, .tmp 40], none⟩ .done)))))))))) [32, 33, 34, 35, 36, 37, 38, 39, 40]) .ret) .skip)) (.seq (.draw (.step ⟨some 41, .plain (.fieldAddr 0), [.tmp 2], none⟩ (.step ⟨some 42, .plain (.load false 1), [.tmp 41], none⟩ (.step ⟨some 43, .plain .mv, [.tmp 5], none⟩ (.step ⟨some 44, .plain (.fieldAddr 3), [.tmp 2], none⟩ (.step ⟨some 45, .plain (.load false 1), [.tmp 44], none⟩ (.step ⟨some 46, .plain (.bin .sub), [.tmp 45, .lit (.int .i64 1)], none⟩ (.step ⟨some 47, .call 136, [.lit (.str ⟨#[32]⟩), .tmp 46], none⟩ (.step ⟨some 48, .plain (.bin .add), [.tmp 43, .tmp 47], none⟩ (.step ⟨some 49, .plain (.build [(.int .i64 0), (.int .i64 0), (.int .i64 0), (.str ⟨#[]⟩)] [(0, 1), (3, 1)]), [.tmp 42, .tmp 48], none⟩ (.step ⟨none, .plain (.store 4), [.tmp 4, .tmp 49], none⟩ .done)))))))))) [41, 42, 43, 44, 45, 46, 47, 48, 49]) .ret)) .skip))) (.seq (.ops [⟨some 51, .plain .mv, [.tmp 1], none⟩, ⟨some 52, .plain (.build [(.int .i64 0), (.int .i64 0), (.int .i64 0), (.str ⟨#[]⟩)] [(0, 1), (1, 1)]), [.lit (.int .i64 1), .tmp 51], none⟩, ⟨some 53, .plain (.build [(.int .i64 0), (.int .i64 0), (.int .i64 0), (.int .i64 0), (.bool false), (.str ⟨#[]⟩)] [(0, 1), (1, 1)]), [.lit (.int .i64 1), .lit (.int .i64 1)], none⟩, ⟨some 54, .plain (.load true 6), [.tmp 2], none⟩, ⟨some 55, .call 137, [.tmp 52, .tmp 53, .tmp 54], none⟩, ⟨some 50, .plain .mv, [.tmp 55], none⟩, ⟨some 56, .plain (.extract 0), [.tmp 50], none⟩, ⟨some 57, .plain (.extract 1), [.tmp 50], none⟩, ⟨some 58, .plain (.extract 2), [.tmp 50], none⟩, ⟨some 6, .plain (.alloc [(.int .i64 0), (.int .i64 0), (.int .i64 0), (.str ⟨#[]⟩)]), [], none⟩, ⟨some 7, .plain (.alloc [(.int .i64 0), (.str ⟨#[]⟩), (.int .i64 0), (.str ⟨#[]⟩), (.int .i64 0)]), [], none⟩, ⟨none, .plain (.store 4), [.tmp 6, .tmp 56], none⟩, ⟨none, .plain (.store 5), [.tmp 7, .tmp 57], none⟩, ⟨some 8, .plain .mv, [.tmp 58], none⟩] [51, 52, 53, 54, 55, 50, 56, 57, 58, 7]) (.seq (.seq (.ops [⟨some 59, .plain .mv, [.tmp 8], none⟩, ⟨some 60, .plain (.bin .neq), [.tmp 59, .lit (.int .i64 0)], none⟩] [59]) (.cond (.tmp 60) (.seq (.ops [⟨some 61, .plain (.build [(.int .i64 0), (.int .i64 0), (.int .i64 0), (.str ⟨#[]⟩)] []), [], none⟩, ⟨none, .plain (.store 4), [.tmp 4, .tmp 61], none⟩] [61]) .ret) .skip)) (.seq (.seq (.draw (.step ⟨some 63, .plain (.load true 4), [.tmp 6], none⟩ (.step ⟨some 64, .plain (.load true 6), [.tmp 2], none⟩ (.step ⟨some 65, .call 67, [], none⟩ (.step ⟨some 66, .call 137, [.tmp 63, .tmp 64, .tmp 65], none⟩ (.step ⟨some 62, .plain .mv, [.tmp 66], none⟩ (.step ⟨some 67, .plain (.extract 0), [.tmp 62], none⟩ (.step ⟨some 68, .plain (.extract 1), [.tmp 62], none⟩ (.step ⟨some 69, .plain (.extract 2), [.tmp 62], none⟩ (.or (.step ⟨some 9, .plain (.alloc [(.int .i64 0), (.int .i64 0), (.int .i64 0), (.str ⟨#[]⟩)]), [], none⟩ (.step ⟨some 10, .plain (.alloc [(.int .i64 0), (.str ⟨#[]⟩), (.int .i64 0), (.str ⟨#[]⟩), (.int .i64 0)]), [], none⟩ s0)) (.step ⟨some 10, .plain (.alloc [(.int .i64 0), (.str ⟨#[]⟩), (.int .i64 0), (.str ⟨#[]⟩), (.int .i64 0)]), [], none⟩ (.step ⟨some 9, .plain (.alloc [(.int .i64 0), (.int .i64 0), (.int .i64 0), (.str ⟨#[]⟩)]), [], none⟩ s0))))))))))) [63, 64, 65, 66, 62, 67, 68, 69, 11]) (.seq (.ops [⟨some 70, .plain (.fieldAddr 0), [.tmp 10], none⟩, ⟨some 71, .plain (.load false 1), [.tmp 70], none⟩, ⟨some 72, .plain (.bin .eql), [.tmp 71, .lit (.int .i64 0)], none⟩, ⟨some 73, .plain .mv, [.tmp 72], none⟩, ⟨some 74, .plain (.fieldAddr 1), [.tmp 9], (some (73, true))⟩, ⟨some 75, .plain (.load false 1), [.tmp 74], (some (73, true))⟩, ⟨some 76, .plain .mv, [.tmp 1], (some (73, true))⟩, ⟨some 77, .plain (.bin .eql), [.tmp 75, .tmp 76], (some (73, true))⟩, ⟨some 78, .plain .pick, [.tmp 73, .tmp 77, .lit (.bool false)], none⟩] [70, 71, 72, 73, 74, 75, 76, 77]) (.cond (.tmp 78) (.seq (.ops [⟨some 79, .plain (.load true 4), [.tmp 6], none⟩, ⟨none, .plain (.store 4), [.tmp 4, .tmp 79], none⟩] [79]) .ret) .skip))) (.seq (.ops [⟨some 81, .plain (.load true 6), [.tmp 2], none⟩, ⟨some 82, .call 138, [.tmp 81], none⟩, ⟨some 80, .plain .mv, [.tmp 82], none⟩, ⟨some 83, .plain (.extract 0), [.tmp 80], none⟩, ⟨some 84, .plain (.extract 1), [.tmp 80], none⟩, ⟨some 12, .plain (.alloc [(.int .i64 0), (.int .i64 0), (.int .i64 0), (.str ⟨#[]⟩)]), [], none⟩, ⟨none, .plain (.store 4), [.tmp 12, .tmp 83], none⟩, ⟨some 13, .plain .mv, [.tmp 84], none⟩] [81, 82, 80, 83, 84, 13]) (.seq (.ops [⟨some 85, .plain (.load true 4), [.tmp 12], none⟩, ⟨none, .plain (.store 4), [.tmp 4, .tmp 85], none⟩] [85]) .ret)))))))
def cr53 : List Res := [(4, some (true, 4))]
theorem ok53 : FOk Bk.pg.toProgram Bk.imp 53 c53 cr53 Tryz.f53.ntmps := ⟨Tryz.f53, _, Tryz.func53, rfl, by kernel_rfl, by kernel_rfl, by kernel_rfl, rfl⟩
def c9 : SC :=
 let s0 : DT := (.step ⟨none, .plain (.store 5), [.tmp 9, .tmp 19], none⟩ (.step ⟨some 10, .plain .mv, [.lit (.int .i64 0)], none⟩ .done))
 (.seq (.ops [⟨some 4, .plain (.box 1), [.tmp 0], none⟩, ⟨some 5, .plain (.box 1), [.tmp 1], none⟩, ⟨some 6, .plain (.box 1), [.tmp 2], none⟩, ⟨some 7, .plain (.box 6), [.tmp 3], none⟩, ⟨some 8, .plain (.alloc [(.int .i64 0), (.int .i64 0), (.int .i64 0), (.str ⟨#[]⟩)]), [], none⟩, ⟨some 9, .plain (.alloc [(.int .i64 0), (.str ⟨#[]⟩), (.int .i64 0), (.str ⟨#[]⟩), (.int .i64 0)]), [], none⟩, ⟨some 10, .plain .mv, [.lit (.int .i64 0)], none⟩] []) (.seq (.ops [⟨some 11, .plain (.mkFn 26), [.tmp 4, .tmp 5, .tmp 6, .tmp 7, .tmp 9, .tmp 8], none⟩, ⟨some 12, .call 25, [.tmp 11], none⟩, ⟨some 10, .plain .mv, [.tmp 12], none⟩] [11, 12]) (.seq (.seq (.ops [⟨some 13, .plain .mv, [.tmp 10], none⟩, ⟨some 14, .plain (.bin .neq), [.tmp 13, .lit (.int .i64 0)], none⟩] [13]) (.cond (.tmp 14) (.seq (.ops [⟨some 15, .plain (.build [(.int .i64 0), (.int .i64 0), (.int .i64 0), (.str ⟨#[]⟩)] []), [], none⟩, ⟨some 16, .plain (.build [(.int .i64 0), (.str ⟨#[]⟩), (.int .i64 0), (.str ⟨#[]⟩), (.int .i64 0)] []), [], none⟩, ⟨some 17, .plain .mv, [.tmp 10], none⟩, ⟨none, .plain (.store 4), [.tmp 8, .tmp 15], none⟩, ⟨none, .plain (.store 5), [.tmp 9, .tmp 16], none⟩, ⟨some 10, .plain .mv, [.tmp 17], none⟩] [15, 16, 17]) .ret) .skip)) (.seq (.draw (.step ⟨some 18, .plain (.load true 4), [.tmp 8], none⟩ (.or (.step ⟨some 19, .plain (.load true 5), [.tmp 9], none⟩ (.step ⟨none, .plain (.store 4), [.tmp 8, .tmp 18], none⟩ s0)) (.step ⟨none, .plain (.store 4), [.tmp 8, .tmp 18], none⟩ (.step ⟨some 19, .plain (.load true 5), [.tmp 9], none⟩ s0)))) [18, 19]) .ret))))
def cr9 : List Res := [(8, some (true, 4)), (9, some (true, 5)), (10, none)]
theorem ok9 : FOk Bk.pg.toProgram Bk.imp 9 c9 cr9 Tryz.f9.ntmps := ⟨Tryz.f9, _, Tryz.func9, rfl, by kernel_rfl, by kernel_rfl, by kernel_rfl, rfl⟩
def c26 : SC :=
 (.seq (.draw (.step ⟨some 13, .call 27, [], none⟩ (.step ⟨some 14, .plain (.load false 1), [.tmp 0], none⟩ (.step ⟨some 15, .plain (.lookup .str (.agg [(.int .i64 0), (.int .i64 0), (.const .nilFunc), (.const .nilFunc)]) true), [.tmp 13, .tmp 14], none⟩ (.step ⟨some 12, .plain .mv, [.tmp 15], none⟩ (.step ⟨some 16, .plain (.extract 0), [.tmp 12], none⟩ (.step ⟨some 17, .plain (.extract 1), [.tmp 12], none⟩ (.step ⟨some 6, .plain (.alloc [(.int .i64 0), (.int .i64 0), (.const .nilFunc), (.const .nilFunc)]), [], none⟩ (.step ⟨none, .plain (.store 4), [.tmp 6, .tmp 16], none⟩ (.step ⟨some 7, .plain .mv, [.tmp 17], none⟩ .done))))))))) [13, 14, 15, 12, 16, 17]) (.seq (.ops [⟨some 18, .plain .mv, [.tmp 7], none⟩, ⟨some 19, .call 28, [.tmp 18, .lit (.int .i64 5)], none⟩] [18, 19]) (.seq (.ops [⟨some 20, .plain (.load false 1), [.tmp 1], none⟩, ⟨some 21, .plain (.len 1), [.tmp 20], none⟩, ⟨some 22, .plain (.fieldAddr 0), [.tmp 6], none⟩, ⟨some 23, .plain (.load false 1), [.tmp 22], none⟩, ⟨some 24, .plain (.fieldAddr 1), [.tmp 6], none⟩, ⟨some 25, .plain (.load false 1), [.tmp 24], none⟩, ⟨some 26, .call 29, [.tmp 21, .tmp 23, .tmp 25], none⟩, ⟨some 27, .plain .mv, [.tmp 26], none⟩, ⟨some 28, .plain (.load false 1), [.tmp 1], (some (27, true))⟩, ⟨some 29, .plain (.len 1), [.tmp 28], (some (27, true))⟩, ⟨some 30, .plain (.load false 1), [.tmp 2], (some (27, true))⟩, ⟨some 31, .plain (.len 1), [.tmp 30], (some (27, true))⟩, ⟨some 32, .plain (.bin .eql), [.tmp 29, .tmp 31], (some (27, true))⟩, ⟨some 33, .plain .pick, [.tmp 27, .tmp 32, .lit (.bool false)], none⟩, ⟨some 34, .call 28, [.tmp 33, .lit (.int .i64 11)], none⟩] [20, 21, 22, 23, 24, 25, 26, 27, 28, 29, 30, 31, 32, 33, 34]) (.seq (.seq (.ops [⟨some 35, .plain (.load false 1), [.tmp 2], none⟩, ⟨some 36, .plain (.len 1), [.tmp 35], none⟩, ⟨some 37, .call 30, [.tmp 36], none⟩] [35, 36]) (.block 0 (.rangeF (.tmp 37) [38] (.ops [⟨some 8, .plain .mv, [.tmp 38], none⟩] []) (.block 1 (.ops [⟨some 39, .plain (.load false 1), [.tmp 2], none⟩, ⟨some 40, .plain .mv, [.tmp 8], none⟩, ⟨some 41, .plain (.indexAddr 6), [.tmp 39, .tmp 40], none⟩, ⟨some 42, .plain (.load true 6), [.tmp 41], none⟩, ⟨some 43, .call 31, [.tmp 42], none⟩, ⟨some 44, .call 28, [.tmp 43, .lit (.int .i64 13)], none⟩] [39, 40, 41, 42, 43, 44]))))) (.seq (.seq (.ops [⟨some 45, .plain (.load false 1), [.tmp 2], none⟩, ⟨some 46, .plain (.len 1), [.tmp 45], none⟩, ⟨some 47, .call 30, [.tmp 46], none⟩] [45, 46]) (.block 2 (.rangeF (.tmp 47) [48] (.ops [⟨some 9, .plain .mv, [.tmp 48], none⟩] []) (.block 3 (.draw (.step ⟨some 49, .plain (.load false 1), [.tmp 1], none⟩ (.step ⟨some 50, .plain .mv, [.tmp 9], none⟩ (.step ⟨some 51, .plain (.indexAddr 4), [.tmp 49, .tmp 50], none⟩ (.step ⟨some 52, .plain (.load true 4), [.tmp 51], none⟩ (.step ⟨some 53, .call 32, [.tmp 52], none⟩ (.step ⟨some 54, .plain .mv, [.tmp 53], none⟩ (.step ⟨some 55, .plain (.load false 1), [.tmp 2], (some (54, true))⟩ (.step ⟨some 56, .plain .mv, [.tmp 9], (some (54, true))⟩ (.step ⟨some 57, .plain (.indexAddr 6), [.tmp 55, .tmp 56], (some (54, true))⟩ (.step ⟨some 58, .plain (.load true 6), [.tmp 57], (some (54, true))⟩ (.step ⟨some 59, .plain (.load false 1), [.tmp 1], (some (54, true))⟩ (.step ⟨some 60, .plain .mv, [.tmp 9], (some (54, true))⟩ (.step ⟨some 61, .plain (.indexAddr 4), [.tmp 59, .tmp 60], (some (54, true))⟩ (.step ⟨some 62, .plain (.load true 4), [.tmp 61], (some (54, true))⟩ (.step ⟨some 63, .call 33, [.tmp 58, .tmp 62], (some (54, true))⟩ (.step ⟨some 64, .plain .pick, [.tmp 54, .tmp 63, .lit (.bool false)], none⟩ (.step ⟨some 65, .call 28, [.tmp 64, .lit (.int .i64 1)], none⟩ .done))))))))))))))))) [49, 50, 51, 52, 53, 54, 55, 56, 57, 58, 59, 60, 61, 62, 63, 64, 65]))))) (.seq (.ops [⟨some 66, .plain (.load true 4), [.tmp 6], none⟩, ⟨some 67, .plain (.load false 1), [.tmp 2], none⟩, ⟨some 68, .call 34, [.tmp 66, .tmp 67], none⟩, ⟨some 10, .plain .mv, [.tmp 68], none⟩] [66, 67, 68]) (.seq (.ops [⟨some 69, .plain (.load true 6), [.tmp 3], none⟩, ⟨some 70, .call 31, [.tmp 69], none⟩, ⟨some 71, .call 28, [.tmp 70, .lit (.int .i64 13)], none⟩] [69, 70, 71]) (.seq (.ops [⟨some 72, .plain .mv, [.tmp 10], none⟩, ⟨some 73, .plain (.fieldAddr 0), [.tmp 3], none⟩, ⟨some 74, .plain (.load false 1), [.tmp 73], none⟩, ⟨some 75, .plain (.bin .eql), [.tmp 72, .tmp 74], none⟩, ⟨some 76, .call 28, [.tmp 75, .lit (.int .i64 10)], none⟩] [72, 73, 74, 75, 76]) (.seq (.ops [⟨some 77, .plain (.load false 1), [.tmp 2], none⟩, ⟨some 78, .plain (.build [.nilS, .nilS] [(0, 1)]), [.tmp 77], none⟩, ⟨some 79, .plain (.load false 1), [.tmp 1], none⟩, ⟨some 80, .plain (.load true 6), [.tmp 3], none⟩, ⟨some 81, .plain (.build [.nilS, .nilS, .nilS, (.int .i64 0), (.int .i64 0), (.int .i64 0), (.int .i64 0), (.bool false), (.str ⟨#[]⟩), (.const .nilFunc)] [(0, 2), (2, 1), (3, 6)]), [.tmp 78, .tmp 79, .tmp 80], none⟩, ⟨some 11, .plain (.alloc [.nilS, .nilS, .nilS, (.int .i64 0), (.int .i64 0), (.int .i64 0), (.int .i64 0), (.bool false), (.str ⟨#[]⟩), (.const .nilFunc)]), [], none⟩, ⟨none, .plain (.store 10), [.tmp 11, .tmp 81], none⟩] [77, 78, 79, 80, 81]) (.seq (.ops [⟨some 82, .plain (.mkFn 35), [.tmp 4], none⟩, ⟨some 83, .plain (.fieldAddr 9), [.tmp 11], none⟩, ⟨none, .plain (.store 1), [.tmp 83, .tmp 82], none⟩] [82, 83]) (.ops [⟨some 84, .plain (.fieldAddr 3), [.tmp 6], none⟩, ⟨some 85, .plain (.load false 1), [.tmp 84], none⟩, ⟨some 86, .plain (.load true 10), [.tmp 11], none⟩, ⟨some 87, .callv, [.tmp 85, .tmp 86], none⟩, ⟨none, .plain (.store 4), [.tmp 5, .tmp 87], none⟩] [84, 85, 86, 87])))))))))))
def cr26 : List Res := []
theorem ok26 : FOk Bk.pg.toProgram Bk.imp 26 c26 cr26 Tryz.f26.ntmps := ⟨Tryz.f26, _, Tryz.func26, rfl, by kernel_rfl, by kernel_rfl, by kernel_rfl, rfl⟩
def c35 : SC :=
 (.seq (.ops [⟨some 2, .plain (.box 5), [.tmp 0], none⟩] []) (.seq (.ops [⟨some 3, .plain (.fieldAddr 0), [.tmp 1], none⟩, ⟨some 4, .plain (.load false 1), [.tmp 3], none⟩, ⟨some 5, .plain (.bin .eql), [.tmp 4, .lit (.int .i64 0)], none⟩] [3, 4]) (.cond (.tmp 5) (.ops [⟨some 6, .plain (.load true 5), [.tmp 2], none⟩, ⟨none, .plain (.store 5), [.tmp 1, .tmp 6], none⟩] [6]) .skip)))
def cr35 : List Res := []
theorem ok35 : FOk Bk.pg.toProgram Bk.imp 35 c35 cr35 Tryz.f35.ntmps := ⟨Tryz.f35, _, Tryz.func35, rfl, by kernel_rfl, by kernel_rfl, by kernel_rfl, rfl⟩
def c75 : SC :=
 (.seq (.ops [⟨some 1, .plain (.box 2), [.tmp 0], none⟩, ⟨some 2, .plain (.alloc [(.int .i64 0), (.int .i64 0), (.int .i64 0), (.int .i64 0), (.bool false), (.str ⟨#[]⟩)]), [], none⟩] []) (.seq (.ops [⟨some 3, .plain .mv, [.lit .nilS], none⟩] []) (.seq (.seq (.ops [⟨some 7, .plain (.fieldAddr 0), [.tmp 1], none⟩, ⟨some 8, .plain (.load false 1), [.tmp 7], none⟩, ⟨some 9, .plain (.len 1), [.tmp 8], none⟩, ⟨some 10, .plain .mv, [.lit (.int .i64 0)], none⟩] [7, 8]) (.block 0 (.loop (.seq (.ops [⟨some 11, .plain (.bin .lss), [.tmp 10, .tmp 9], none⟩] []) (.seq (.cond (.tmp 11) .skip (.exit 0)) (.seq (.block 1 (.seq (.ops [⟨some 12, .plain .mv, [.tmp 10], none⟩, ⟨some 4, .plain .mv, [.tmp 12], none⟩] [12]) (.ops [⟨some 13, .plain .mv, [.tmp 3], none⟩, ⟨some 14, .plain (.load true 2), [.tmp 1], none⟩, ⟨some 15, .plain .mv, [.tmp 4], none⟩, ⟨some 16, .call 66, [.tmp 14, .tmp 15], none⟩, ⟨some 17, .plain (.buildRow 32 6 1 [(.int .i64 0), (.int .i64 0), (.int .i64 0), (.int .i64 0), (.bool false), (.str ⟨#[]⟩)] [0]), [.tmp 16], none⟩, ⟨some 18, .plain (.append 32 6 56), [.tmp 13, .tmp 17], none⟩, ⟨some 3, .plain .mv, [.tmp 18], none⟩] [13, 14, 15, 16, 17, 18]))) (.ops [⟨some 19, .plain (.bin .add), [.tmp 10, .lit (.int .i64 1)], none⟩, ⟨some 10, .plain .mv, [.tmp 19], none⟩] [19]))))))) (.seq (.ops [⟨some 21, .plain .mv, [.tmp 3], none⟩, ⟨some 22, .call 163, [.tmp 21], none⟩, ⟨some 20, .plain .mv, [.tmp 22], none⟩, ⟨some 23, .plain (.extract 0), [.tmp 20], none⟩, ⟨some 24, .plain (.extract 1), [.tmp 20], none⟩, ⟨some 5, .plain (.alloc [(.int .i64 0), (.int .i64 0), (.int .i64 0), (.int .i64 0), (.bool false), (.str ⟨#[]⟩)]), [], none⟩, ⟨none, .plain (.store 6), [.tmp 5, .tmp 23], none⟩, ⟨some 6, .plain .mv, [.tmp 24], none⟩] [21, 22, 20, 23, 24, 6]) (.seq (.ops [⟨some 25, .plain (.load true 6), [.tmp 5], none⟩, ⟨none, .plain (.store 6), [.tmp 2, .tmp 25], none⟩] [25]) .ret)))))
def cr75 : List Res := [(2, some (true, 6))]
theorem ok75 : FOk Bk.pg.toProgram Bk.imp 75 c75 cr75 Tryz.f75.ntmps := ⟨Tryz.f75, _, Tryz.func75, rfl, by kernel_rfl, by kernel_rfl, by kernel_rfl, rfl⟩
def c76 : SC :=
 let s0 : DT := (.step ⟨none, .plain (.store 4), [.tmp 3, .tmp 9], none⟩ (.step ⟨none, .plain (.store 4), [.tmp 4, .tmp 11], none⟩ .done))
 (.seq (.ops [⟨some 1, .plain (.box 10), [.tmp 0], none⟩, ⟨some 2, .plain (.alloc [(.int .i64 0), (.int .i64 0), (.int .i64 0), (.str ⟨#[]⟩)]), [], none⟩] []) (.seq (.draw (.step ⟨some 8, .plain (.load true 10), [.tmp 1], none⟩ (.step ⟨some 9, .call 63, [.tmp 8, .lit (.int .i64 0)], none⟩ (.step ⟨some 10, .plain (.load true 10), [.tmp 1], none⟩ (.step ⟨some 11, .call 63, [.tmp 10, .lit (.int .i64 1)], none⟩ (.or (.step ⟨some 3, .plain (.alloc [(.int .i64 0), (.int .i64 0), (.int .i64 0), (.str ⟨#[]⟩)]), [], none⟩ (.step ⟨some 4, .plain (.alloc [(.int .i64 0), (.int .i64 0), (.int .i64 0), (.str ⟨#[]⟩)]), [], none⟩ s0)) (.step ⟨some 4, .plain (.alloc [(.int .i64 0), (.int .i64 0), (.int .i64 0), (.str ⟨#[]⟩)]), [], none⟩ (.step ⟨some 3, .plain (.alloc [(.int .i64 0), (.int .i64 0), (.int .i64 0), (.str ⟨#[]⟩)]), [], none⟩ s0))))))) [8, 9, 10, 11]) (.seq (.ops [⟨some 13, .plain (.load true 4), [.tmp 3], none⟩, ⟨some 14, .plain (.load true 4), [.tmp 4], none⟩, ⟨some 15, .plain (.fieldAddr 3), [.tmp 1], none⟩, ⟨some 16, .plain (.load true 6), [.tmp 15], none⟩, ⟨some 17, .call 164, [.tmp 13, .tmp 14, .tmp 16], none⟩, ⟨some 12, .plain .mv, [.tmp 17], none⟩, ⟨some 18, .plain (.extract 0), [.tmp 12], none⟩, ⟨some 19, .plain (.extract 1), [.tmp 12], none⟩, ⟨some 20, .plain (.extract 2), [.tmp 12], none⟩, ⟨some 5, .plain (.alloc [(.int .i64 0), (.int .i64 0), (.int .i64 0), (.str ⟨#[]⟩)]), [], none⟩, ⟨none, .plain (.store 4), [.tmp 5, .tmp 18], none⟩, ⟨some 6, .plain .mv, [.tmp 19], none⟩, ⟨some 7, .plain .mv, [.tmp 20], none⟩] [13, 14, 15, 16, 17, 12, 18, 19, 20, 7]) (.seq (.ops [⟨some 21, .plain (.load true 10), [.tmp 1], none⟩, ⟨some 22, .plain .mv, [.tmp 6], none⟩, ⟨some 23, .call 86, [.tmp 21, .tmp 22], none⟩] [21, 22, 23]) (.seq (.ops [⟨some 24, .plain (.load true 4), [.tmp 5], none⟩, ⟨none, .plain (.store 4), [.tmp 2, .tmp 24], none⟩] [24]) .ret)))))
def c116 : SC :=
 let s0 : DT := (.step ⟨none, .plain (.store 4), [.tmp 7, .tmp 24], none⟩ (.step ⟨none, .plain (.store 5), [.tmp 8, .tmp 25], none⟩ (.step ⟨some 9, .plain .mv, [.tmp 26], none⟩ .done)))
 (.seq (.ops [⟨some 3, .plain (.box 10), [.tmp 0], none⟩, ⟨some 5, .plain (.box 6), [.tmp 2], none⟩, ⟨some 6, .plain (.alloc [(.int .i64 0), (.int .i64 0), (.int .i64 0), (.str ⟨#[]⟩)]), [], none⟩] []) (.seq (.draw (.step ⟨some 11, .plain (.fieldAddr 2), [.tmp 3], none⟩ (.step ⟨some 12, .plain (.load false 1), [.tmp 11], none⟩ (.step ⟨some 13, .plain .mv, [.tmp 1], none⟩ (.step ⟨some 14, .plain (.indexAddr 4), [.tmp 12, .tmp 13], none⟩ (.step ⟨some 15, .plain (.load true 4), [.tmp 14], none⟩ (.step ⟨some 16, .plain (.fieldAddr 0), [.tmp 3], none⟩ (.step ⟨some 17, .plain (.fieldAddr 0), [.tmp 16], none⟩ (.step ⟨some 18, .plain (.load false 1), [.tmp 17], none⟩ (.step ⟨some 19, .plain .mv, [.tmp 1], none⟩ (.step ⟨some 20, .plain (.indexAddr 6), [.tmp 18, .tmp 19], none⟩ (.step ⟨some 21, .plain (.load true 6), [.tmp 20], none⟩ (.step ⟨some 22, .plain (.load true 6), [.tmp 5], none⟩ (.step ⟨some 23, .call 137, [.tmp 15, .tmp 21, .tmp 22], none⟩ (.step ⟨some 10, .plain .mv, [.tmp 23], none⟩ (.step ⟨some 24, .plain (.extract 0), [.tmp 10], none⟩ (.step ⟨some 25, .plain (.extract 1), [.tmp 10], none⟩ (.step ⟨some 26, .plain (.extract 2), [.tmp 10], none⟩ (.or (.step ⟨some 7, .plain (.alloc [(.int .i64 0), (.int .i64 0), (.int .i64 0), (.str ⟨#[]⟩)]), [], none⟩ (.step ⟨some 8, .plain (.alloc [(.int .i64 0), (.str ⟨#[]⟩), (.int .i64 0), (.str ⟨#[]⟩), (.int .i64 0)]), [], none⟩ s0)) (.step ⟨some 8, .plain (.alloc [(.int .i64 0), (.str ⟨#[]⟩), (.int .i64 0), (.str ⟨#[]⟩), (.int .i64 0)]), [], none⟩ (.step ⟨some 7, .plain (.alloc [(.int .i64 0), (.int .i64 0), (.int .i64 0), (.str ⟨#[]⟩)]), [], none⟩ s0)))))))))))))))))))) [11, 12, 13, 14, 15, 16, 17, 18, 19, 20, 21, 22, 23, 10, 24, 25, 26, 9]) (.seq (.ops [⟨some 27, .plain (.fieldAddr 9), [.tmp 3], none⟩, ⟨some 28, .plain (.load false 1), [.tmp 27], none⟩, ⟨some 29, .plain (.load true 5), [.tmp 8], none⟩, ⟨some 30, .callv, [.tmp 28, .tmp 29], none⟩] [27, 28, 29, 30]) (.seq (.ops [⟨some 31, .plain (.load true 4), [.tmp 7], none⟩, ⟨none, .plain (.store 4), [.tmp 6, .tmp 31], none⟩] [31]) .ret))))
def cr116 : List Res := [(6, some (true, 4))]
theorem ok116 : FOk Bk.pg.toProgram Bk.imp 116 c116 cr116 Tryz.f116.ntmps := ⟨Tryz.f116, _, Tryz.func116, rfl, by kernel_rfl, by kernel_rfl, by kernel_rfl, rfl⟩
def c66 : SC :=
 (.seq (.ops [⟨some 2, .plain (.box 2), [.tmp 0], none⟩, ⟨some 4, .plain (.alloc [(.int .i64 0), (.int .i64 0), (.int .i64 0), (.int .i64 0), (.bool false), (.str ⟨#[]⟩)]), [], none⟩] []) (.seq (.ops [⟨some 8, .plain (.fieldAddr 0), [.tmp 2], none⟩, ⟨some 9, .plain (.load false 1), [.tmp 8], none⟩, ⟨some 10, .plain .mv, [.tmp 1], none⟩, ⟨some 11, .plain (.indexAddr 6), [.tmp 9, .tmp 10], none⟩, ⟨some 12, .plain (.load true 6), [.tmp 11], none⟩, ⟨some 13, .call 159, [.tmp 12], none⟩, ⟨some 7, .plain .mv, [.tmp 13], none⟩, ⟨some 14, .plain (.extract 0), [.tmp 7], none⟩, ⟨some 15, .plain (.extract 1), [.tmp 7], none⟩, ⟨some 5, .plain (.alloc [(.int .i64 0), (.int .i64 0), (.int .i64 0), (.int .i64 0), (.bool false), (.str ⟨#[]⟩)]), [], none⟩, ⟨none, .plain (.store 6), [.tmp 5, .tmp 14], none⟩, ⟨some 6, .plain .mv, [.tmp 15], none⟩] [8, 9, 10, 11, 12, 13, 7, 14, 15]) (.seq (.ops [⟨some 16, .plain .mv, [.tmp 6], none⟩, ⟨some 17, .plain (.bin .eql), [.tmp 16, .lit (.int .i64 0)], none⟩, ⟨some 18, .call 28, [.tmp 17, .lit (.int .i64 10)], none⟩] [16, 17, 18]) (.seq (.ops [⟨some 19, .plain (.load true 6), [.tmp 5], none⟩, ⟨none, .plain (.store 6), [.tmp 4, .tmp 19], none⟩] [19]) .ret))))
def cr66 : List Res := [(4, some (true, 6))]
theorem ok66 : FOk Bk.pg.toProgram Bk.imp 66 c66 cr66 Tryz.f66.ntmps := ⟨Tryz.f66, _, Tryz.func66, rfl, by kernel_rfl, by kernel_rfl, by kernel_rfl, rfl⟩
def c86 : SC :=
 (.seq (.ops [⟨some 2, .plain (.box 10), [.tmp 0], none⟩] []) (.ops [⟨some 4, .plain (.fieldAddr 9), [.tmp 2], none⟩, ⟨some 5, .plain (.load false 1), [.tmp 4], none⟩, ⟨some 6, .plain .mv, [.tmp 1], none⟩, ⟨some 7, .plain (.build [(.int .i64 0), (.str ⟨#[]⟩), (.int .i64 0), (.str ⟨#[]⟩), (.int .i64 0)] [(0, 1)]), [.tmp 6], none⟩, ⟨some 8, .callv, [.tmp 5, .tmp 7], none⟩] [4, 5, 6, 7, 8]))
def cr86 : List Res := []
theorem ok86 : FOk Bk.pg.toProgram Bk.imp 86 c86 cr86 Tryz.f86.ntmps := ⟨Tryz.f86, _, Tryz.func86, rfl, by kernel_rfl, by kernel_rfl, by kernel_rfl, rfl⟩
def c3 : SC :=
 (.seq (.ops [⟨some 4, .plain .mv, [.lit (.bool false)], none⟩] []) (.seq (.seq (.ops [⟨some 8, .plain .mv, [.tmp 0], none⟩, ⟨some 9, .plain (.bin .leq), [.tmp 8, .lit (.int .i64 (-1000000000))], none⟩, ⟨some 10, .plain .mv, [.tmp 9], none⟩, ⟨some 11, .plain .mv, [.tmp 0], (some (10, false))⟩, ⟨some 12, .plain (.bin .geq), [.tmp 11, .lit (.int .i64 1000000000)], (some (10, false))⟩, ⟨some 13, .plain .pick, [.tmp 10, .lit (.bool true), .tmp 12], none⟩, ⟨some 14, .plain .mv, [.tmp 13], none⟩, ⟨some 15, .plain .mv, [.tmp 1], (some (14, false))⟩, ⟨some 16, .plain (.bin .leq), [.tmp 15, .lit (.int .i64 (-1000000000))], (some (14, false))⟩, ⟨some 17, .plain .pick, [.tmp 14, .lit (.bool true), .tmp 16], none⟩, ⟨some 18, .plain .mv, [.tmp 17], none⟩, ⟨some 19, .plain .mv, [.tmp 1], (some (18, false))⟩, ⟨some 20, .plain (.bin .geq), [.tmp 19, .lit (.int .i64 1000000000)], (some (18, false))⟩, ⟨some 21, .plain .pick, [.tmp 18, .lit (.bool true), .tmp 20], none⟩] [8, 9, 10, 11, 12, 13, 14, 15, 16, 17, 18, 19, 20]) (.cond (.tmp 21) (.seq (.ops [⟨some 22, .call 8, [], none⟩, ⟨some 4, .plain .mv, [.tmp 22], none⟩] [22]) .ret) .skip)) (.seq (.ops [⟨some 24, .plain .mv, [.tmp 0], none⟩, ⟨some 25, .plain (.build [(.int .i64 0), (.int .i64 0), (.int .i64 0), (.str ⟨#[]⟩)] [(0, 1), (1, 1)]), [.lit (.int .i64 1), .tmp 24], none⟩, ⟨some 26, .plain .mv, [.tmp 1], none⟩, ⟨some 27, .plain (.build [(.int .i64 0), (.int .i64 0), (.int .i64 0), (.str ⟨#[]⟩)] [(0, 1), (1, 1)]), [.lit (.int .i64 1), .tmp 26], none⟩, ⟨some 28, .plain (.buildRow 24 4 2 [(.int .i64 0), (.int .i64 0), (.int .i64 0), (.str ⟨#[]⟩)] [0, 1]), [.tmp 25, .tmp 27], none⟩, ⟨some 29, .call 10, [], none⟩, ⟨some 30, .call 10, [], none⟩, ⟨some 31, .plain (.buildRow 32 6 2 [(.int .i64 0), (.int .i64 0), (.int .i64 0), (.int .i64 0), (.bool false), (.str ⟨#[]⟩)] [0, 1]), [.tmp 29, .tmp 30], none⟩, ⟨some 32, .call 10, [], none⟩, ⟨some 33, .call 9, [.lit (.str ⟨#[77, 79, 68]⟩), .tmp 28, .tmp 31, .tmp 32], none⟩, ⟨some 23, .plain .mv, [.tmp 33], none⟩, ⟨some 34, .plain (.extract 0), [.tmp 23], none⟩, ⟨some 35, .plain (.extract 1), [.tmp 23], none⟩, ⟨some 36, .plain (.extract 2), [.tmp 23], none⟩, ⟨some 5, .plain (.alloc [(.int .i64 0), (.int .i64 0), (.int .i64 0), (.str ⟨#[]⟩)]), [], none⟩, ⟨some 6, .plain (.alloc [(.int .i64 0), (.str ⟨#[]⟩), (.int .i64 0), (.str ⟨#[]⟩), (.int .i64 0)]), [], none⟩, ⟨none, .plain (.store 4), [.tmp 5, .tmp 34], none⟩, ⟨none, .plain (.store 5), [.tmp 6, .tmp 35], none⟩, ⟨some 7, .plain .mv, [.tmp 36], none⟩] [24, 25, 26, 27, 28, 29, 30, 31, 32, 33, 23, 34, 35, 36]) (.seq (.seq (.ops [⟨some 37, .plain .mv, [.tmp 7], none⟩, ⟨some 38, .plain (.bin .neq), [.tmp 37, .lit (.int .i64 0)], none⟩] [37]) (.cond (.tmp 38) (.seq (.ops [⟨some 4, .plain .mv, [.lit (.bool false)], none⟩] []) .ret) .skip)) (.seq (.seq (.ops [⟨some 39, .plain .mv, [.tmp 1], none⟩, ⟨some 40, .plain (.bin .eql), [.tmp 39, .lit (.int .i64 0)], none⟩] [39]) (.cond (.tmp 40) (.seq (.ops [⟨some 41, .plain (.fieldAddr 0), [.tmp 6], none⟩, ⟨some 42, .plain (.load false 1), [.tmp 41], none⟩, ⟨some 43, .plain (.bin .eql), [.tmp 42, .lit (.int .i64 9)], none⟩, ⟨some 44, .plain .mv, [.tmp 43], none⟩, ⟨some 45, .call 8, [], (some (44, true))⟩, ⟨some 46, .plain .pick, [.tmp 44, .tmp 45, .lit (.bool false)], none⟩, ⟨some 4, .plain .mv, [.tmp 46], none⟩] [41, 42, 43, 44, 45, 46]) .ret) .skip)) (.seq (.ops [⟨some 47, .plain (.fieldAddr 0), [.tmp 6], none⟩, ⟨some 48, .plain (.load false 1), [.tmp 47], none⟩, ⟨some 49, .plain (.bin .eql), [.tmp 48, .lit (.int .i64 0)], none⟩, ⟨some 50, .plain .mv, [.tmp 49], none⟩, ⟨some 51, .plain (.fieldAddr 1), [.tmp 5], (some (50, true))⟩, ⟨some 52, .plain (.load false 1), [.tmp 51], (some (50, true))⟩, ⟨some 53, .plain (.bin .eql), [.tmp 52, .lit (.int .i64 0)], (some (50, true))⟩, ⟨some 54, .plain .mv, [.tmp 53], (some (50, true))⟩, ⟨some 55, .plain (.fieldAddr 1), [.tmp 5], (some (54, false))⟩, ⟨some 56, .plain (.load false 1), [.tmp 55], (some (54, false))⟩, ⟨some 57, .plain (.bin .lss), [.tmp 56, .lit (.int .i64 0)], (some (54, false))⟩, ⟨some 58, .plain .mv, [.tmp 1], (some (54, false))⟩, ⟨some 59, .plain (.bin .lss), [.tmp 58, .lit (.int .i64 0)], (some (54, false))⟩, ⟨some 60, .plain (.eqBool false), [.tmp 57, .tmp 59], (some (54, false))⟩, ⟨some 61, .plain .pick, [.tmp 54, .lit (.bool true), .tmp 60], (some (50, true))⟩, ⟨some 62, .plain .pick, [.tmp 50, .tmp 61, .lit (.bool false)], none⟩, ⟨some 63, .plain .mv, [.tmp 62], none⟩, ⟨some 64, .plain (.fieldAddr 1), [.tmp 5], (some (63, true))⟩, ⟨some 65, .plain (.load false 1), [.tmp 64], (some (63, true))⟩, ⟨some 66, .plain .mv, [.tmp 1], (some (63, true))⟩, ⟨some 67, .plain .mv, [.tmp 1], (some (63, true))⟩, ⟨some 68, .plain (.un .neg), [.tmp 67], (some (63, true))⟩, ⟨some 69, .plain .max2, [.tmp 66, .tmp 68], (some (63, true))⟩, ⟨some 70, .plain (.bin .lss), [.tmp 65, .tmp 69], (some (63, true))⟩, ⟨some 71, .plain .pick, [.tmp 63, .tmp 70, .lit (.bool false)], none⟩, ⟨some 72, .plain .mv, [.tmp 71], none⟩, ⟨some 73, .plain .mv, [.tmp 1], (some (72, true))⟩, ⟨some 74, .plain .mv, [.tmp 1], (some (72, true))⟩, ⟨some 75, .plain (.un .neg), [.tmp 74], (some (72, true))⟩, ⟨some 76, .plain .max2, [.tmp 73, .tmp 75], (some (72, true))⟩, ⟨some 77, .plain (.un .neg), [.tmp 76], (some (72, true))⟩, ⟨some 78, .plain (.fieldAddr 1), [.tmp 5], (some (72, true))⟩, ⟨some 79, .plain (.load false 1), [.tmp 78], (some (72, true))⟩, ⟨some 80, .plain (.bin .lss), [.tmp 77, .tmp 79], (some (72, true))⟩, ⟨some 81, .plain .pick, [.tmp 72, .tmp 80, .lit (.bool false)], none⟩, ⟨some 82, .plain .mv, [.tmp 81], none⟩, ⟨some 83, .plain .mv, [.tmp 0], (some (82, true))⟩, ⟨some 84, .plain (.fieldAddr 1), [.tmp 5], (some (82, true))⟩, ⟨some 85, .plain (.load false 1), [.tmp 84], (some (82, true))⟩, ⟨some 86, .plain (.bin .sub), [.tmp 83, .tmp 85], (some (82, true))⟩, ⟨some 87, .plain .mv, [.tmp 1], (some (82, true))⟩, ⟨some 88, .plain (.bin .rem), [.tmp 86, .tmp 87], (some (82, true))⟩, ⟨some 89, .plain (.bin .eql), [.tmp 88, .lit (.int .i64 0)], (some (82, true))⟩, ⟨some 90, .plain .pick, [.tmp 82, .tmp 89, .lit (.bool false)], none⟩, ⟨some 91, .plain .mv, [.tmp 90], none⟩, ⟨some 92, .call 8, [], (some (91, true))⟩, ⟨some 93, .plain .pick, [.tmp 91, .tmp 92, .lit (.bool false)], none⟩, ⟨some 4, .plain .mv, [.tmp 93], none⟩] [47, 48, 49, 50, 51, 52, 53, 54, 55, 56, 57, 58, 59, 60, 61, 62, 63, 64, 65, 66, 67, 68, 69, 70, 71, 72, 73, 74, 75, 76, 77, 78, 79, 80, 81, 82, 83, 84, 85, 86, 87, 88, 89, 90, 91, 92, 93]) .ret))))))
def c8 : SC :=
 (.seq (.ops [⟨some 0, .plain .mv, [.lit (.bool false)], none⟩] []) (.seq (.ops [⟨some 5, .plain (.build [(.int .i64 0), (.int .i64 0), (.int .i64 0), (.str ⟨#[]⟩)] [(0, 1), (1, 1)]), [.lit (.int .i64 2), .lit (.int .i64 (-7))], none⟩, ⟨some 6, .plain (.build [(.int .i64 0), (.int .i64 0), (.int .i64 0), (.str ⟨#[]⟩)] [(0, 1), (1, 1)]), [.lit (.int .i64 2), .lit (.int .i64 3)], none⟩, ⟨some 7, .plain (.buildRow 24 4 2 [(.int .i64 0), (.int .i64 0), (.int .i64 0), (.str ⟨#[]⟩)] [0, 1]), [.tmp 5, .tmp 6], none⟩, ⟨some 8, .call 24, [], none⟩, ⟨some 9, .call 24, [], none⟩, ⟨some 10, .plain (.buildRow 32 6 2 [(.int .i64 0), (.int .i64 0), (.int .i64 0), (.int .i64 0), (.bool false), (.str ⟨#[]⟩)] [0, 1]), [.tmp 8, .tmp 9], none⟩, ⟨some 11, .call 24, [], none⟩, ⟨some 12, .call 9, [.lit (.str ⟨#[77, 79, 68]⟩), .tmp 7, .tmp 10, .tmp 11], none⟩, ⟨some 4, .plain .mv, [.tmp 12], none⟩, ⟨some 13, .plain (.extract 0), [.tmp 4], none⟩, ⟨some 14, .plain (.extract 1), [.tmp 4], none⟩, ⟨some 15, .plain (.extract 2), [.tmp 4], none⟩, ⟨some 1, .plain (.alloc [(.int .i64 0), (.int .i64 0), (.int .i64 0), (.str ⟨#[]⟩)]), [], none⟩, ⟨some 2, .plain (.alloc [(.int .i64 0), (.str ⟨#[]⟩), (.int .i64 0), (.str ⟨#[]⟩), (.int .i64 0)]), [], none⟩, ⟨none, .plain (.store 4), [.tmp 1, .tmp 13], none⟩, ⟨none, .plain (.store 5), [.tmp 2, .tmp 14], none⟩, ⟨some 3, .plain .mv, [.tmp 15], none⟩] [5, 6, 7, 8, 9, 10, 11, 12, 4, 13, 14, 15]) (.seq (.ops [⟨some 16, .plain .mv, [.tmp 3], none⟩, ⟨some 17, .plain (.bin .eql), [.tmp 16, .lit (.int .i64 0)], none⟩, ⟨some 18, .plain .mv, [.tmp 17], none⟩, ⟨some 19, .plain (.fieldAddr 0), [.tmp 2], (some (18, true))⟩, ⟨some 20, .plain (.load false 1), [.tmp 19], (some (18, true))⟩, ⟨some 21, .plain (.bin .eql), [.tmp 20, .lit (.int .i64 0)], (some (18, true))⟩, ⟨some 22, .plain .pick, [.tmp 18, .tmp 21, .lit (.bool false)], none⟩, ⟨some 23, .plain .mv, [.tmp 22], none⟩, ⟨some 24, .plain (.load true 4), [.tmp 1], (some (23, true))⟩, ⟨some 25, .plain (.build [(.int .i64 0), (.int .i64 0), (.int .i64 0), (.str ⟨#[]⟩)] [(0, 1), (1, 1)]), [.lit (.int .i64 2), .lit (.int .i64 2)], (some (23, true))⟩, ⟨some 26, .plain (.eqAgg false [.int, .int, .int, .str]), [.tmp 24, .tmp 25], (some (23, true))⟩, ⟨some 27, .plain .pick, [.tmp 23, .tmp 26, .lit (.bool false)], none⟩, ⟨some 0, .plain .mv, [.tmp 27], none⟩] [16, 17, 18, 19, 20, 21, 22, 23, 24, 25, 26, 27]) .ret)))
def cr8 : List Res := [(0, none)]
theorem ok8 : FOk Bk.pg.toProgram Bk.imp 8 c8 cr8 Tryz.f8.ntmps := ⟨Tryz.f8, _, Tryz.func8, rfl, by kernel_rfl, by kernel_rfl, by kernel_rfl, rfl⟩
def c10 : SC :=
 (.seq (.ops [⟨some 0, .plain (.alloc [(.int .i64 0), (.int .i64 0), (.int .i64 0), (.int .i64 0), (.bool false), (.str ⟨#[]⟩)]), [], none⟩] []) (.seq (.ops [⟨some 1, .plain (.build [(.int .i64 0), (.int .i64 0), (.int .i64 0), (.int .i64 0), (.bool false), (.str ⟨#[]⟩)] [(0, 1), (1, 1)]), [.lit (.int .i64 1), .lit (.int .i64 31)], none⟩, ⟨none, .plain (.store 6), [.tmp 0, .tmp 1], none⟩] [1]) .ret))
def cr10 : List Res := [(0, some (true, 6))]
theorem ok10 : FOk Bk.pg.toProgram Bk.imp 10 c10 cr10 Tryz.f10.ntmps := ⟨Tryz.f10, _, Tryz.func10, rfl, by kernel_rfl, by kernel_rfl, by kernel_rfl, rfl⟩
def c24 : SC :=
 (.seq (.ops [⟨some 0, .plain (.alloc [(.int .i64 0), (.int .i64 0), (.int .i64 0), (.int .i64 0), (.bool false), (.str ⟨#[]⟩)]), [], none⟩] []) (.seq (.ops [⟨some 1, .plain (.build [(.int .i64 0), (.int .i64 0), (.int .i64 0), (.int .i64 0), (.bool false), (.str ⟨#[]⟩)] [(0, 1), (1, 1)]), [.lit (.int .i64 2), .lit (.int .i64 15)], none⟩, ⟨none, .plain (.store 6), [.tmp 0, .tmp 1], none⟩] [1]) .ret))
def cr24 : List Res := [(0, some (true, 6))]
theorem ok24 : FOk Bk.pg.toProgram Bk.imp 24 c24 cr24 Tryz.f24.ntmps := ⟨Tryz.f24, _, Tryz.func24, rfl, by kernel_rfl, by kernel_rfl, by kernel_rfl, rfl⟩
def c67 : SC :=
 (.seq (.ops [⟨some 0, .plain (.alloc [(.int .i64 0), (.int .i64 0), (.int .i64 0), (.int .i64 0), (.bool false), (.str ⟨#[]⟩)]), [], none⟩] []) (.seq (.ops [⟨some 1, .plain (.build [(.int .i64 0), (.int .i64 0), (.int .i64 0), (.int .i64 0), (.bool false), (.str ⟨#[]⟩)] [(0, 1), (1, 1)]), [.lit (.int .i64 1), .lit (.int .i64 31)], none⟩, ⟨none, .plain (.store 6), [.tmp 0, .tmp 1], none⟩] [1]) .ret))
def cr67 : List Res := [(0, some (true, 6))]
theorem ok67 : FOk Bk.pg.toProgram Bk.imp 67 c67 cr67 Tryz.f67.ntmps := ⟨Tryz.f67, _, Tryz.func67, rfl, by kernel_rfl, by kernel_rfl, by kernel_rfl, rfl⟩
def c135 : SC :=
 (.seq (.ops [⟨some 2, .plain .mv, [.lit (.str ⟨#[]⟩)], none⟩] []) (.seq (.ops [⟨some 3, .plain .mv, [.tmp 0], none⟩, ⟨some 4, .call 200, [.tmp 3], none⟩, ⟨some 2, .plain .mv, [.tmp 4], none⟩] [3, 4]) .ret))
def cr135 : List Res := [(2, none)]
theorem ok135 : FOk Bk.pg.toProgram Bk.imp 135 c135 cr135 Tryz.f135.ntmps := ⟨Tryz.f135, _, Tryz.func135, rfl, by kernel_rfl, by kernel_rfl, by kernel_rfl, rfl⟩
def c200 : SC :=
 (.seq (.ops [⟨some 2, .plain .mv, [.lit (.str ⟨#[]⟩)], none⟩] []) (.seq (.ops [⟨some 3, .plain .mv, [.tmp 0], none⟩, ⟨some 4, .call 278, [.tmp 3, .lit (.int .i64 10)], none⟩, ⟨some 2, .plain .mv, [.tmp 4], none⟩] [3, 4]) .ret))
def cr200 : List Res := [(2, none)]
theorem ok200 : FOk Bk.pg.toProgram Bk.imp 200 c200 cr200 Tryz.f200.ntmps := ⟨Tryz.f200, _, Tryz.func200, rfl, by kernel_rfl, by kernel_rfl, by kernel_rfl, rfl⟩
end Go.Pm

/- BkW2: contracts: strconv.Itoa of 1. -/
namespace Go.Pm
open Go Go.Proofs
attribute [-simp] List.getElem?_map
theorem pcalls_of {P : Prg} {f : FuncId} {xs : List AV} {v : AV} (hf : ∃ fn, P.funcs[f]? = some fn ∧ fn.body.isSome = true ∧ (fn.name == "runtime.NumGoroutine") = false) (hv : v.perm = true)
    (h : ∀ (K : Bool → Nat → Prop) (w : World) (vals : List Value), VRs [] K w xs vals → P.lies w → Calls P f vals.toArray w fun e w' => ∃ u, e = .returned u ∧ w.grownBy w' none ∧ VR [] (fun p b => K p b ∨ w.heap.size ≤ b ∧ b < w'.heap.size) w' v u) : PCalls P f xs fun out => out = .ret v :=
  ⟨hf, fun K w vals _ hx hl => (h K w vals hx hl).mono fun _ w' ⟨u, he, hg, hV⟩ => ⟨fun p b => K p b ∨ w.heap.size ≤ b ∧ b < w'.heap.size, .ret v, rfl, hv, hg, fun _ _ h => .inl h, fun _ _ h => h, u, he, hV⟩⟩
theorem call278 {i : Nat} (hi : i < 100) : PCalls Bk.pg 278 [.int .i64 i, .int .i64 10] fun out => out = .ret (.str ⟨(Lib.decDigits i).toArray⟩) := by
  refine pcalls_of ⟨Tryz.f278, Tryz.func278, by kernel_rfl, by kernel_rfl⟩ rfl fun K w vals hx hl => ?_
  obtain ⟨u, us, rfl, h2, u2, us2, rfl, h3, h4⟩ := hx
  rw [VR] at h2 h3; rw [VRs] at h4; subst h2; subst h3; subst h4
  refine (Tryz.internal_strconv_FormatInt_10_small i hi w).mono ?_
  rintro e w' ⟨rfl, rfl⟩
  exact ⟨_, rfl, ⟨rfl, rfl, rfl, Nat.le_refl _, fun _ _ _ => rfl⟩, by rw [VR]⟩
theorem call135 : PCalls Bk.pg 135 [.int .i64 1] fun out => out = .ret (.str ⟨(Lib.decDigits 1).toArray⟩) := by
  have c1 := call278 (i := 1) (by decide)
  have c2 : PCalls Bk.pg 200 [.int .i64 1] fun out => out = .ret (.str ⟨(Lib.decDigits 1).toArray⟩) := by
    refine ok200.pcalls (by simp) ?_
    generalize (⟨(Lib.decDigits 1).toArray⟩ : ByteArray) = s at c1 ⊢
    simp [c200]
    refine xcall_p c1 (by simp) ?_
    simp [cr200]
  refine ok135.pcalls (by simp) ?_
  generalize (⟨(Lib.decDigits 1).toArray⟩ : ByteArray) = s at c2 ⊢
  simp [c135]
  refine xcall_p c2 (by simp) ?_
  simp [cr135]
end Go.Pm

/- BkC15: contracts: the leaves of the built-in functions. -/
namespace Go.Pm
open Go Go.Proofs
attribute [-simp] List.getElem?_map
attribute [simp] nilCheckA postA_norm
theorem call28 {e : Int} : PCalls Bk.pg 28 [.bool true, .int .i64 e] fun out => out = .ret (.tuple []) := by
  refine pcalls_of_acalls 1 (ok28.acalls (by simp) ?_)
  simp [c28, cr28, permOD, permD, mapO]
theorem call29 {n lo hi : Int} (h : lo ≤ n ∧ n ≤ hi) : PCalls Bk.pg 29 [.int .i64 n, .int .i64 lo, .int .i64 hi] fun out => out = .ret (.bool true) := by
  refine ok29.pcalls (by simp) ?_
  have a1 : leI lo n = true := leI_t.2 h.1
  have a2 : leI n hi = true := leI_t.2 h.2
  simp [c29, cr29, a1, a2]
theorem call67 : PCalls Bk.pg 67 [] fun out => out = .ret (.agg (tyN 1 31 0)) := by
  refine ok67.pcalls (by simp) ?_
  simp [c67, cr67, tyN, ty]
theorem call10 : PCalls Bk.pg 10 [] fun out => out = .ret (.agg (tyN 1 31 0)) := by
  refine ok10.pcalls (by simp) ?_
  simp [c10, cr10, tyN, ty]
theorem call24 : PCalls Bk.pg 24 [] fun out => out = .ret (.agg (tyN 2 15 0)) := by
  refine ok24.pcalls (by simp) ?_
  simp [c24, cr24, tyN, ty]
theorem call32 {k n q : Int} (h : RightN k n q) : PCalls Bk.pg 32 [.agg (vlN k n q)] fun out => out = .ret (.bool true) := by
  refine ok32.pcalls (by simp) ?_
  have c1 := call51 h
  have z4 : eqI k 4 = false := by
    cases h' : eqI k 4 with
    | false => rfl
    | true => have := eqI_t.1 h'; have := h.1; omega
  have z5 : eqI k 5 = false := by
    cases h' : eqI k 5 with
    | false => rfl
    | true => have := eqI_t.1 h'; have := h.1; omega
  simp only [vlN, vl] at c1 ⊢
  simp [c32, z4, z5]
  refine xcall_p c1 (by simp) ?_
  simp [cr32]
def askG (t : List AV) (x : AV) : AV := .agg [.list true 6 [t, t], x]
def Known (x : AV) : Prop := x = .nilS ∨ ∃ els, x = .list false 4 els ∧ norefLL els = true
theorem call66 {k p q i : Int} {x : AV} (h : ValidN k p q) (hi : i = 0 ∨ i = 1) (hx : Known x) : PCalls Bk.pg 66 [askG (tyN k p q) x, .int .i64 i] fun out => out = .ret (.agg (tyN k p q)) := by
  refine ok66.pcalls (by simp) ?_
  have c1 := call159 h
  have z : eqI 0 0 = true := rfl
  have z0 : ltI 0 2 = true := rfl
  have z1 : ltI 1 2 = true := rfl
  have hg : ([tyN k p q, tyN k p q] : List (List AV))[i.toNat]? = some (tyN k p q) := by rcases hi with rfl | rfl <;> rfl
  simp only [tyN, ty] at c1 hg ⊢
  rcases hi with rfl | rfl <;> rcases hx with rfl | ⟨els, rfl, hn⟩
  all_goals
    simp [c66, askG, z0, z1]
    refine xcall_p c1 (by simp) ?_
    simp [z]
    refine xcall_p (call28 (e := 10)) (by simp) ?_
    simp [cr66]
theorem call75 {k p q : Int} {x : AV} (h : ValidN k p q) (hx : Known x) : PCalls Bk.pg 75 [askG (tyN k p q) x] fun out => out = .ret (.agg (tyN k p q)) := by
  refine ok75.pcalls (by simp) ?_
  have c0 := call66 (i := 0) h (.inl rfl) hx
  have c1 := call66 (i := 1) h (.inr rfl) hx
  have c2 := call163 h
  simp only [askG, tyN, ty] at c0 c1 c2 ⊢
  have z02 : ltI 0 2 = true := rfl
  have z12 : ltI 1 2 = true := rfl
  have z22 : ltI 2 2 = false := rfl
  have w1 : IntKind.i64.wrap 1 = 1 := rfl
  have w2 : IntKind.i64.wrap 2 = 2 := rfl
  rcases hx with rfl | ⟨els, rfl, hn⟩
  · simp [c75]
    refine wpS_loopS (ι := Nat × Nat × Nat) (fun s => [(1, .ptr 0 0 0), (2, .ptr 1 1 0), (3, .row 2 s.2.1 6 0 s.1), (9, .int .i64 2), (10, .int .i64 (s.1 : Nat))])
      (fun s => ⟨[(0, .cells [.list true 6 [tyN k p q, tyN k p q], .nilS]), (1, .cells (ty 0 0 0 0 false ⟨#[]⟩)), (s.2.1, .row 32 6 (List.replicate s.1 (tyN k p q)))], s.2.2⟩) (fun s => 2 - s.1) (fun s => s.1 ≤ 2) (0, 2, 3) (by decide)
      (Sim.trans (Sim.of_le (Env.le_of (by simp)) (Mem.le_of rfl (by simp [tyN, ty]))) (Sim.nil_env 3 32 (sz := 6) (by decide) (by simp))) ?_
    rintro ⟨i, g, nx⟩ hi
    simp only at hi
    have hi' : i = 0 ∨ i = 1 ∨ i = 2 := by omega
    rcases hi' with rfl | rfl | rfl
    · simp [z02, tyN, ty]
      refine xcall_p c0 (by simp) ?_
      simp [appendA, appendN, elsOf, Mem.turn, w1]
      exact ⟨1, by omega, by omega, nx + 1, nx + 2, Sim.of_le (Env.le_of (by simp)) (Mem.le_of rfl (by simp))⟩
    · simp [z12, tyN, ty]
      refine xcall_p c1 (by simp) ?_
      simp [appendA, appendN, elsOf, Mem.turn, w2]
      exact ⟨2, by omega, by omega, nx + 1, nx + 2, Sim.of_le (Env.le_of (by simp)) (Mem.le_of rfl (by simp [List.replicate]))⟩
    · simp [z22, tyN, ty]
      refine xcall_r (PCalls.keep (pos := 2) (g := g) (e := 32) (n := 2) (els := [tyN k p q, tyN k p q]) (h := c2) (hp := rfl) (hn := by simp) (hr := by simp [tyN, ty])) ?_ ?_
      · rintro v m' ⟨hv', rfl⟩
        cases hv'
        simp [cr75, Mem.turn]
      · rintro v m' ⟨hv', _⟩
        cases hv'
  · simp [c75]
    refine wpS_loopS (ι := Nat × Nat × Nat) (fun s => [(1, .ptr 0 0 0), (2, .ptr 1 1 0), (3, .row 2 s.2.1 6 0 s.1), (9, .int .i64 2), (10, .int .i64 (s.1 : Nat))])
      (fun s => ⟨[(0, .cells [.list true 6 [tyN k p q, tyN k p q], .list false 4 els]), (1, .cells (ty 0 0 0 0 false ⟨#[]⟩)), (s.2.1, .row 32 6 (List.replicate s.1 (tyN k p q)))], s.2.2⟩) (fun s => 2 - s.1) (fun s => s.1 ≤ 2) (0, 2, 3) (by decide)
      (Sim.trans (Sim.of_le (Env.le_of (by simp)) (Mem.le_of rfl (by simp [tyN, ty]))) (Sim.nil_env 3 32 (sz := 6) (by decide) (by simp))) ?_
    rintro ⟨i, g, nx⟩ hi
    simp only at hi
    have hi' : i = 0 ∨ i = 1 ∨ i = 2 := by omega
    rcases hi' with rfl | rfl | rfl
    · simp [z02, tyN, ty]
      refine xcall_p c0 (by simp [hn]) ?_
      simp [appendA, appendN, elsOf, Mem.turn, w1]
      exact ⟨1, by omega, by omega, nx + 1, nx + 2, Sim.of_le (Env.le_of (by simp)) (Mem.le_of rfl (by simp))⟩
    · simp [z12, tyN, ty]
      refine xcall_p c1 (by simp [hn]) ?_
      simp [appendA, appendN, elsOf, Mem.turn, w2]
      exact ⟨2, by omega, by omega, nx + 1, nx + 2, Sim.of_le (Env.le_of (by simp)) (Mem.le_of rfl (by simp [List.replicate]))⟩
    · simp [z22, tyN, ty]
      refine xcall_r (PCalls.keep (pos := 2) (g := g) (e := 32) (n := 2) (els := [tyN k p q, tyN k p q]) (h := c2) (hp := rfl) (hn := by simp) (hr := by simp [tyN, ty])) ?_ ?_
      · rintro v m' ⟨hv', rfl⟩
        cases hv'
        simp [cr75, Mem.turn]
      · rintro v m' ⟨hv', _⟩
        cases hv'
end Go.Pm

/- BkX2: contracts: strings of characters: valid values and types. -/
namespace Go.Pm
open Go Go.Proofs
attribute [-simp] List.getElem?_map
theorem call133 : PCalls Bk.pg 133 [.int .i64 4] fun out => out = .ret (.iface 170 (.agg [])) := by
  refine ok133.pcalls (by simp) ?_
  have z44 : eqI 4 4 = true := rfl
  simp [c133, z44, cr133]
theorem call418 {b : Int} : PCalls Bk.pg 418 [.agg [], .int .u8 b] fun out => out = .ret (.bool (!ltI b 32 && !ltI 126 b)) := by
  refine ok418.pcalls (by simp) ?_
  have e1 : leI 32 b = !ltI b 32 := by
    cases h : ltI b 32 with
    | true => have := ltI_t.1 h; rw [leI_f.2 (by omega)]; rfl
    | false => have := ltI_f.1 h; rw [leI_t.2 (by omega)]; rfl
  have e2 : leI b 126 = !ltI 126 b := by
    cases h : ltI 126 b with
    | true => have := ltI_t.1 h; rw [leI_f.2 (by omega)]; rfl
    | false => have := ltI_f.1 h; rw [leI_t.2 (by omega)]; rfl
  simp [c418, e1, e2]
  refine br_guard_t rfl (fun h => ?_) (fun h => ?_)
  · simp at h
    simp [h, cr418, e2]
  · simp at h
    simp [h, cr418]
theorem right_meth : methOf Bk.pg.toProgram 170 "ironbark/bits.right" = some 418 := by kernel_rfl
theorem chB_all {s : ByteArray} (h : chB s = true) {i : Nat} (hi : i < s.size) : okC (byteAt s i) = true := by
  simp only [chB, Bool.and_eq_true] at h
  exact (all_okC s).1 h.2 i hi
theorem call50 {s : ByteArray} (h : chB s = true) : PCalls Bk.pg 50 [.agg (vlC s)] fun out => out = .ret (.bool true) := by
  refine ok50.pcalls (by simp) ?_
  have z : eqI 0 0 = true := rfl
  have hs := chB_size h
  have hs' : ltI 250 s.size = false := ltI_f.2 (by omega)
  simp [c50, vlC, vl]
  refine xcall_p call133 (by simp) ?_
  simp [z, hs']
  refine wpS_loop (ι := Nat) (fun i => [(1, .ptr 0 0 0), (3, .iface 170 (.agg [])), (28, .int .i64 s.size), (29, .int .i64 i)]) (fun _ => ⟨[(0, .cells (vlC s))], 1⟩) (fun i => s.size - i) (fun i => i ≤ s.size) 0 (by simp) (Env.le_of (by simp)) rfl ?_
  intro i hi
  have hw : IntKind.i64.wrap (i + 1) = i + 1 := wrap64 (by omega) (by omega)
  simp [vlC, vl]
  refine br_cond rfl (fun h1 => ?_) (fun h1 => ?_)
  · have hi2 := ltI_t.1 h1
    have ho := chB_all h (i := i) (by omega)
    unfold okC at ho
    simp [h1, idxS]
    refine xdops_inv rfl right_meth (by simp) (call418 (b := ((byteAt s i).toNat : Int))) ?_
    simp [ho, hw]
    exact ⟨i + 1, by omega, by omega, Env.le_of (by simp), Mem.le_of rfl (by simp [vlC, vl])⟩
  · simp [h1, cr50]
theorem call272 {n : Int} {v : Bool} (hn : 0 ≤ n ∧ n ≤ 250) : PCalls Bk.pg 272 [.agg (tyC n v)] fun out => out = .ret (.bool true) := by
  refine ok272.pcalls (by simp) ?_
  have z : eqI 0 0 = true := rfl
  have zs : eqS ⟨#[]⟩ ⟨#[]⟩ = true := eqS_r _
  have h1 : leI 0 n = true := leI_t.2 hn.1
  have h2 : leI n 250 = true := leI_t.2 hn.2
  simp [c272, tyC, ty]
  refine xcall_p call133 (by simp) ?_
  simp [z, zs, h1, h2, cr272]
theorem call129 {n : Int} {v : Bool} (hn : 0 ≤ n ∧ n ≤ 250) : PCalls Bk.pg 129 [.agg (tyC n v)] fun out => out = .ret (.bool true) := by
  refine ok129.pcalls (by simp) ?_
  have z : eqI 0 0 = true := rfl
  have zs : eqS ⟨#[]⟩ ⟨#[]⟩ = true := eqS_r _
  have h1 : leI 0 n = true := leI_t.2 hn.1
  have h2 : leI n 250 = true := leI_t.2 hn.2
  simp [c129, tyC, ty, z]
  refine xcall_p (call49 n 0 250) (by simp) ?_
  simp [h1, h2, zs, cr129]
theorem call31C {n : Int} {v : Bool} (hn : 0 ≤ n ∧ n ≤ 250) : PCalls Bk.pg 31 [.agg (tyC n v)] fun out => out = .ret (.bool true) := by
  refine ok31T.pcalls (by simp) ?_
  have c129 := call129 (v := v) hn
  simp only [tyC, ty] at c129 ⊢
  simp [c31]
  refine xcall_a call48 ?_
  have w9 : IntKind.i64.wrap 9 = 9 := rfl
  have z9 : leI 0 4 = true ∧ leI 4 9 = true ∧ ltI 4 10 = true := ⟨rfl, rfl, rfl⟩
  simp [w9, rulesL, cellI]
  refine xdcall_p rfl (call49 4 0 9) (by simp) ?_
  simp [z9]
  refine xdops_callw rfl rfl (c129.acalls (by simp)) ?_
  simp [cr31]
theorem call51C {s : ByteArray} (h : chB s = true) : PCalls Bk.pg 51 [.agg (vlC s)] fun out => out = .ret (.bool true) := by
  refine ok51.pcalls (by simp) ?_
  have hs := chB_size h
  have h1 : leI s.size 250 = true := leI_t.2 (by omega)
  have z : eqI 0 0 = true := rfl
  have z1 : eqI 4 1 = false := rfl
  have z2 : eqI 4 2 = false := rfl
  have z3 : eqI 4 3 = false := rfl
  have z4 : eqI 4 4 = true := rfl
  simp [c51, vlC, vl, z1, z2, z3, z4, z, h1, cr51]
theorem call32C {s : ByteArray} (h : chB s = true) : PCalls Bk.pg 32 [.agg (vlC s)] fun out => out = .ret (.bool true) := by
  refine ok32.pcalls (by simp) ?_
  have c1 := call50 h
  have z4 : eqI 4 4 = true := rfl
  simp only [vlC, vl] at c1 ⊢
  simp [c32, z4]
  refine xcall_p c1 (by simp) ?_
  simp [cr32]
theorem call33C {s : ByteArray} {v : Bool} (h : chB s = true) : PCalls Bk.pg 33 [.agg (tyC s.size v), .agg (vlC s)] fun out => out = .ret (.bool true) := by
  refine ok33.pcalls (by simp) ?_
  have hs := chB_size h
  have c1 := call31C (n := s.size) (v := v) (by omega)
  have c2 := call51C h
  have z : ∀ k : Int, eqI k k = true := fun k => eqI_t.2 rfl
  have w0 : IntKind.i64.wrap (-0) = 0 := rfl
  have z1 : eqI 4 1 = false := rfl
  have z2 : eqI 4 2 = false := rfl
  have z3 : eqI 4 3 = false := rfl
  simp only [tyC, ty, vlC, vl] at c1 c2 ⊢
  simp [c33]
  refine xcall_p c1 (by simp) ?_
  simp
  refine xcall_p c2 (by simp) ?_
  simp [z, z1, z2, z3, w0, cr33]
end Go.Pm

/- BkS6: code, resolved, where what is called writes. Printed by ShowSC3.lean. -/
namespace Go.Pm
open Go Go.Proofs
def Bk.imp116 : List Go.FuncId := [116]
def c63T : SC :=
 (.seq (.ops [⟨some 2, .plain (.box 10), [.tmp 0], none⟩, ⟨some 4, .plain (.alloc [(.int .i64 0), (.int .i64 0), (.int .i64 0), (.str ⟨#[]⟩)]), [], none⟩] []) (.seq (.draw (.step ⟨some 5, .plain (.load true 10), [.tmp 2], none⟩ (.step ⟨some 6, .plain .mv, [.tmp 1], none⟩ (.step ⟨some 7, .plain (.fieldAddr 0), [.tmp 2], none⟩ (.step ⟨some 8, .plain (.load true 2), [.tmp 7], none⟩ (.step ⟨some 9, .plain .mv, [.tmp 1], none⟩ (.step ⟨some 10, .call 66, [.tmp 8, .tmp 9], none⟩ (.step ⟨some 11, .call 116, [.tmp 5, .tmp 6, .tmp 10], none⟩ (.step ⟨none, .plain (.store 4), [.tmp 4, .tmp 11], none⟩ .done)))))))) [5, 6, 7, 8, 9, 10, 11]) .ret))
def cr63T : List Res := [(4, some (true, 4))]
theorem ok63T : FOk Bk.pg.toProgram Bk.imp116 63 c63T cr63T Tryz.f63.ntmps := ⟨Tryz.f63, _, Tryz.func63, rfl, by kernel_rfl, by kernel_rfl, by kernel_rfl, rfl⟩
def Bk.imp63 : List Go.FuncId := [63]
def c76T : SC :=
 let s10 : DT := (.step ⟨none, .plain (.store 4), [.tmp 3, .tmp 9], none⟩ (.step ⟨none, .plain (.store 4), [.tmp 4, .tmp 11], none⟩ .done))
 let s9 : DT := (.step ⟨some 11, .call 63, [.tmp 10, .lit (.int .i64 1)], none⟩ s10)
 let s8 : DT := (.step ⟨some 3, .plain (.alloc [(.int .i64 0), (.int .i64 0), (.int .i64 0), (.str ⟨#[]⟩)]), [], none⟩ s10)
 let s7 : DT := (.step ⟨some 4, .plain (.alloc [(.int .i64 0), (.int .i64 0), (.int .i64 0), (.str ⟨#[]⟩)]), [], none⟩ s10)
 let s6 : DT := (.step ⟨some 9, .call 63, [.tmp 8, .lit (.int .i64 0)], none⟩ s9)
 let s5 : DT := (.or (.step ⟨some 11, .call 63, [.tmp 10, .lit (.int .i64 1)], none⟩ s8) (.step ⟨some 3, .plain (.alloc [(.int .i64 0), (.int .i64 0), (.int .i64 0), (.str ⟨#[]⟩)]), [], none⟩ s9))
 let s4 : DT := (.or (.step ⟨some 11, .call 63, [.tmp 10, .lit (.int .i64 1)], none⟩ s7) (.step ⟨some 4, .plain (.alloc [(.int .i64 0), (.int .i64 0), (.int .i64 0), (.str ⟨#[]⟩)]), [], none⟩ s9))
 let s3 : DT := (.or (.step ⟨some 9, .call 63, [.tmp 8, .lit (.int .i64 0)], none⟩ (.step ⟨some 10, .plain (.load true 10), [.tmp 1], none⟩ s9)) (.step ⟨some 10, .plain (.load true 10), [.tmp 1], none⟩ s6))
 let s2 : DT := (.or (.step ⟨some 9, .call 63, [.tmp 8, .lit (.int .i64 0)], none⟩ s5) (.step ⟨some 3, .plain (.alloc [(.int .i64 0), (.int .i64 0), (.int .i64 0), (.str ⟨#[]⟩)]), [], none⟩ s6))
 let s1 : DT := (.or (.step ⟨some 9, .call 63, [.tmp 8, .lit (.int .i64 0)], none⟩ s4) (.step ⟨some 4, .plain (.alloc [(.int .i64 0), (.int .i64 0), (.int .i64 0), (.str ⟨#[]⟩)]), [], none⟩ s6))
 let s0 : DT := (.or (.step ⟨some 11, .call 63, [.tmp 10, .lit (.int .i64 1)], none⟩ (.or (.step ⟨some 3, .plain (.alloc [(.int .i64 0), (.int .i64 0), (.int .i64 0), (.str ⟨#[]⟩)]), [], none⟩ s7) (.step ⟨some 4, .plain (.alloc [(.int .i64 0), (.int .i64 0), (.int .i64 0), (.str ⟨#[]⟩)]), [], none⟩ s8))) (.or (.step ⟨some 3, .plain (.alloc [(.int .i64 0), (.int .i64 0), (.int .i64 0), (.str ⟨#[]⟩)]), [], none⟩ s4) (.step ⟨some 4, .plain (.alloc [(.int .i64 0), (.int .i64 0), (.int .i64 0), (.str ⟨#[]⟩)]), [], none⟩ s5)))
 (.seq (.ops [⟨some 1, .plain (.box 10), [.tmp 0], none⟩, ⟨some 2, .plain (.alloc [(.int .i64 0), (.int .i64 0), (.int .i64 0), (.str ⟨#[]⟩)]), [], none⟩] []) (.seq (.draw (.step ⟨some 8, .plain (.load true 10), [.tmp 1], none⟩ (.or (.step ⟨some 9, .call 63, [.tmp 8, .lit (.int .i64 0)], none⟩ (.step ⟨some 10, .plain (.load true 10), [.tmp 1], none⟩ s0)) (.or (.step ⟨some 10, .plain (.load true 10), [.tmp 1], none⟩ (.or (.step ⟨some 9, .call 63, [.tmp 8, .lit (.int .i64 0)], none⟩ s0) (.or (.step ⟨some 3, .plain (.alloc [(.int .i64 0), (.int .i64 0), (.int .i64 0), (.str ⟨#[]⟩)]), [], none⟩ s1) (.step ⟨some 4, .plain (.alloc [(.int .i64 0), (.int .i64 0), (.int .i64 0), (.str ⟨#[]⟩)]), [], none⟩ s2)))) (.or (.step ⟨some 3, .plain (.alloc [(.int .i64 0), (.int .i64 0), (.int .i64 0), (.str ⟨#[]⟩)]), [], none⟩ (.or (.step ⟨some 9, .call 63, [.tmp 8, .lit (.int .i64 0)], none⟩ (.step ⟨some 10, .plain (.load true 10), [.tmp 1], none⟩ s4)) (.or (.step ⟨some 10, .plain (.load true 10), [.tmp 1], none⟩ s1) (.step ⟨some 4, .plain (.alloc [(.int .i64 0), (.int .i64 0), (.int .i64 0), (.str ⟨#[]⟩)]), [], none⟩ s3)))) (.step ⟨some 4, .plain (.alloc [(.int .i64 0), (.int .i64 0), (.int .i64 0), (.str ⟨#[]⟩)]), [], none⟩ (.or (.step ⟨some 9, .call 63, [.tmp 8, .lit (.int .i64 0)], none⟩ (.step ⟨some 10, .plain (.load true 10), [.tmp 1], none⟩ s5)) (.or (.step ⟨some 10, .plain (.load true 10), [.tmp 1], none⟩ s2) (.step ⟨some 3, .plain (.alloc [(.int .i64 0), (.int .i64 0), (.int .i64 0), (.str ⟨#[]⟩)]), [], none⟩ s3)))))))) [8, 9, 10, 11]) (.seq (.ops [⟨some 13, .plain (.load true 4), [.tmp 3], none⟩, ⟨some 14, .plain (.load true 4), [.tmp 4], none⟩, ⟨some 15, .plain (.fieldAddr 3), [.tmp 1], none⟩, ⟨some 16, .plain (.load true 6), [.tmp 15], none⟩, ⟨some 17, .call 164, [.tmp 13, .tmp 14, .tmp 16], none⟩, ⟨some 12, .plain .mv, [.tmp 17], none⟩, ⟨some 18, .plain (.extract 0), [.tmp 12], none⟩, ⟨some 19, .plain (.extract 1), [.tmp 12], none⟩, ⟨some 20, .plain (.extract 2), [.tmp 12], none⟩, ⟨some 5, .plain (.alloc [(.int .i64 0), (.int .i64 0), (.int .i64 0), (.str ⟨#[]⟩)]), [], none⟩, ⟨none, .plain (.store 4), [.tmp 5, .tmp 18], none⟩, ⟨some 6, .plain .mv, [.tmp 19], none⟩, ⟨some 7, .plain .mv, [.tmp 20], none⟩] [13, 14, 15, 16, 17, 12, 18, 19, 20, 7]) (.seq (.ops [⟨some 21, .plain (.load true 10), [.tmp 1], none⟩, ⟨some 22, .plain .mv, [.tmp 6], none⟩, ⟨some 23, .call 86, [.tmp 21, .tmp 22], none⟩] [21, 22, 23]) (.seq (.ops [⟨some 24, .plain (.load true 4), [.tmp 5], none⟩, ⟨none, .plain (.store 4), [.tmp 2, .tmp 24], none⟩] [24]) .ret)))))
def cr76T : List Res := [(2, some (true, 4))]
theorem ok76T : FOk Bk.pg.toProgram Bk.imp63 76 c76T cr76T Tryz.f76.ntmps := ⟨Tryz.f76, _, Tryz.func76, rfl, by kernel_rfl, by kernel_rfl, by kernel_rfl, rfl⟩
end Go.Pm

/- BkC16: contracts: numbers in their own types; a sample of a type; what is raised is kept; arguments as numbers. -/
namespace Go.Pm
open Go Go.Proofs
attribute [-simp] List.getElem?_map
attribute [simp] nilCheckA postA_norm
theorem xdcall_a {P : Prg} {imp : List FuncId} {f : FuncId} {xs : List AV} {v : AV} {dst : Option Nat} {t : DT} {d : List Nat} {fs : List Fr} {Q : Post} {e : Env} {m m' : Mem} (hi : imp.contains f = true) (h : ACalls P f xs m fun out m2 => out = .ret v ∧ m2 = m')
    (hk : xdops P imp t d fs Q (e.put dst v) m') : xdcall P imp f xs dst t d fs Q e m := by
  unfold xdcall dact
  simp only [List.map_map, Function.comp_def, Opnd.eval, hi, if_true]
  exact ⟨v, m', by simpa using h, hk.out⟩
theorem sgn_natAbs (n : Int) : sgn (decide (n < 0)) n.natAbs = n := by
  unfold sgn
  by_cases h : n < 0
  · simp [h]; omega
  · simp [h]; omega
theorem fixM_self {k n : Int} {q : Nat} (hk : k = 1 ∨ k = 2) : fixM k q (exN k n q) (-(q : Int)) = n.natAbs := by
  rcases hk with rfl | rfl
  · simp only [fixM, exN, if_true, Int.toNat_natCast]
    split
    · have e1 : (- -(q : Int)).toNat = q := by omega
      rw [e1, Nat.mul_assoc, ← Nat.mul_pow]
      exact Nat.mul_div_cancel _ (Nat.pow_pos (by decide))
    · have e1 : q = 0 := by omega
      subst e1
      simp
  · have e0 : ¬ (2 : Int) = 1 := by decide
    simp only [fixM, exN, e0, if_false]
    have e1 : -(q : Int) + q = 0 := by omega
    rw [e1]
    simp
theorem fit_self {k n : Int} {p q : Nat} (h : HasN k p q n) : fitN k n q k p q = n ∧ fitL k n q k p q = false := by
  obtain ⟨hv, hr, h1, h2⟩ := h
  have hk : k = 1 ∨ k = 2 := by have := hv.1; omega
  have hm := fixM_self (n := n) (q := q) hk
  have hlt : n.natAbs < (if k = 1 then 2 ^ p else 10 ^ p) := by
    rcases hk with rfl | rfl
    · simpa using h1 rfl
    · simpa using h2 rfl
  refine ⟨?_, ?_⟩
  · rw [fitN, fixN, hm, Nat.mod_eq_of_lt hlt, sgn_natAbs]
  · rw [fitL, fixL, hm]
    exact decide_eq_false (by omega)
theorem fit_has {k n q1 k2 : Int} {p2 q2 : Nat} (hv : ValidN k2 p2 q2) : HasN k2 p2 q2 (fitN k n q1 k2 p2 q2) := by
  have hk : k2 = 1 ∨ k2 = 2 := by have := hv.1; omega
  have hab : (fitN k n q1 k2 p2 q2).natAbs = fixN k2 p2 q2 (exN k n q1) (-q1) := by
    unfold fitN sgn
    split <;> omega
  have hlt : fixN k2 p2 q2 (exN k n q1) (-q1) < (if k2 = 1 then 2 ^ p2 else 10 ^ p2) := Nat.mod_lt _ (by split <;> exact Nat.pow_pos (by decide))
  refine ⟨hv, ⟨?_, by have := hv.2; omega⟩, ?_, ?_⟩
  · rcases hk with rfl | rfl
    · rw [if_pos rfl] at hlt
      have : 2 ^ p2 ≤ 2 ^ 31 := Nat.pow_le_pow_right (by decide) (by have := hv.1; omega)
      exact .inl ⟨rfl, by omega, by omega⟩
    · rw [if_neg (by decide)] at hlt
      have : 10 ^ p2 ≤ 10 ^ 15 := Nat.pow_le_pow_right (by decide) (by have := hv.1; omega)
      exact .inr ⟨rfl, by omega, by omega⟩
  · rintro rfl
    rw [if_pos rfl] at hlt
    rw [hab, Int.toNat_natCast]; exact hlt
  · rintro rfl
    rw [if_neg (by decide)] at hlt
    rw [hab, Int.toNat_natCast]; exact hlt
theorem call35 {d : Int} {S : List (Nat × AObj)} {nx rp rg : Nat} (hr : S[rp]? = some (rg, .cells (rz 0))) :
    ACalls Bk.pg 35 [.agg (rz d), .ptr rp rg 0] ⟨S, nx⟩ fun out m' => out = .ret (.tuple []) ∧ m' = ⟨S.set rp (rg, .cells (rz d)), nx + 1⟩ := by
  refine ACalls.forget (ok35.acalls (by simp) ?_)
  have tl := (List.getElem?_eq_some_iff.1 hr).1
  have k1 : ∀ x, (S ++ [x])[rp]? = some (rg, .cells (rz 0)) := fun x => by rw [List.getElem?_append_left tl]; exact hr
  have k2 : ∀ x y, (S ++ [x]).set rp y = S.set rp y ++ [x] := fun x y => List.set_append_left _ _ tl
  have z : eqI 0 0 = true := rfl
  simp only [rz] at k1 ⊢
  simp [c35, k1, z]
  rw [k2]
  simp [cr35]
  exact Mem.le_of rfl (by simp)
end Go.Pm

/- BkC17: contracts: arguments as numbers of their own type; what a rest raises. -/
namespace Go.Pm
open Go Go.Proofs
attribute [-simp] List.getElem?_map
attribute [simp] nilCheckA postA_norm
def callG (k p q n0 n1 k2 p2 q2 : Int) (rp rg : Nat) : List AV :=
  [.list true 6 [tyN k p q, tyN k p q], .nilS, .list true 4 [vlN k n0 q, vlN k n1 q], .int .i64 k2, .int .i64 p2, .int .i64 q2, .int .i64 0, .bool false, .str ⟨#[]⟩, .fn 35 [.ptr rp rg 0]]
def argN (n0 n1 i : Int) : Int := if i = 0 then n0 else n1
theorem set_same {S : List (Nat × AObj)} {i : Nat} {x : Nat × AObj} (h : S[i]? = some x) : S.set i x = S := by
  have hl := (List.getElem?_eq_some_iff.1 h).1
  refine List.ext_getElem? fun j => ?_
  rw [List.getElem?_set]
  split
  · rename_i hj
    subst hj
    exact h.symm
  · rfl
theorem call116 {k n0 n1 i k2 p2 q2 : Int} {p q : Nat} {S : List (Nat × AObj)} {nx rp rg : Nat} (h0 : HasN k p q n0) (h1 : HasN k p q n1) (hi : i = 0 ∨ i = 1) (hr : S[rp]? = some (rg, .cells (rz 0))) :
    ACalls Bk.pg 116 [.agg (callG k p q n0 n1 k2 p2 q2 rp rg), .int .i64 i, .agg (tyN k p q)] ⟨S, nx⟩ fun out m' => out = .ret (.agg (vlN k (argN n0 n1 i) q)) ∧ m' = ⟨S, nx + 6⟩ := by
  refine ACalls.forget (ok116.acalls (by simp) ?_)
  have hn : HasN k p q (argN n0 n1 i) := by unfold argN; split <;> assumption
  have c1 := call137 (k1 := k) (p1 := p) (q1 := q) (n := argN n0 n1 i) (k2 := k) (p2 := p) (q2 := q) hn hn.1
  obtain ⟨f1, f2⟩ := fit_self hn
  rw [f1, f2] at c1
  have tl := (List.getElem?_eq_some_iff.1 hr).1
  have hv : ([vlN k n0 q, vlN k n1 q] : List (List AV))[i.toNat]? = some (vlN k (argN n0 n1 i) q) := by rcases hi with rfl | rfl <;> rfl
  have ht : ([tyN k p q, tyN k p q] : List (List AV))[i.toNat]? = some (tyN k p q) := by rcases hi with rfl | rfl <;> rfl
  have hlt : ltI i 2 = true := ltI_t.2 (by omega)
  obtain ⟨a, ha⟩ : ∃ a, a = argN n0 n1 i := ⟨_, rfl⟩
  rw [← ha] at c1 hv ⊢
  have e4 : (if (false : Bool) = true then (4 : Int) else 0) = 0 := rfl
  rw [e4] at c1
  have c2 := fun (A : List (Nat × AObj)) (x : Nat) => call35 (d := 0) (S := S ++ A) (nx := x) (rp := rp) (rg := rg) (by rw [List.getElem?_append_left tl]; exact hr)
  have c3 : ∀ A, (S ++ A).set rp (rg, .cells (rz 0)) = S ++ A := fun A => set_same (by rw [List.getElem?_append_left tl]; exact hr)
  simp only [c3] at c2
  simp only [vlN, vl, tyN, ty, rz] at c1 c2 hv ht ⊢
  have h0i : 0 ≤ i := by omega
  simp [c116, callG, vlN, vl, tyN, ty, hlt, hv, ht, h0i]
  refine xdcall_p rfl c1 (by simp) ?_
  simp
  refine ⟨?_, ?_⟩
  all_goals
    refine xcall_a (c2 _ _) ?_
    simp [cr116]
    exact Mem.le_of rfl (by simp)
theorem call63 {k n0 n1 i k2 p2 q2 : Int} {p q : Nat} {S : List (Nat × AObj)} {nx rp rg : Nat} (h0 : HasN k p q n0) (h1 : HasN k p q n1) (hi : i = 0 ∨ i = 1) (hr : S[rp]? = some (rg, .cells (rz 0))) :
    ACalls Bk.pg 63 [.agg (callG k p q n0 n1 k2 p2 q2 rp rg), .int .i64 i] ⟨S, nx⟩ fun out m' => out = .ret (.agg (vlN k (argN n0 n1 i) q)) ∧ m' = ⟨S, nx + 8⟩ := by
  refine ACalls.forget (ok63T.acalls (by simp) ?_)
  have c1 := call66 (i := i) (x := .nilS) h0.1 hi (.inl rfl)
  have tl := (List.getElem?_eq_some_iff.1 hr).1
  have c2 := fun (A : List (Nat × AObj)) (x : Nat) => call116 (k2 := k2) (p2 := p2) (q2 := q2) (S := S ++ A) (nx := x) (rp := rp) (rg := rg) h0 h1 hi (by rw [List.getElem?_append_left tl]; exact hr)
  simp only [askG, callG, vlN, vl, tyN, ty] at c1 c2 ⊢
  simp [c63T]
  refine xdcall_p rfl c1 (by simp) ?_
  simp
  refine xdcall_a rfl (c2 _ _) ?_
  simp [cr63T]
  exact Mem.le_of rfl (by simp)
theorem call86 {k p q n0 n1 k2 p2 q2 d : Int} {S : List (Nat × AObj)} {nx rp rg : Nat} (hr : S[rp]? = some (rg, .cells (rz 0))) :
    ACalls Bk.pg 86 [.agg (callG k p q n0 n1 k2 p2 q2 rp rg), .int .i64 d] ⟨S, nx⟩ fun out m' => out = .ret (.tuple []) ∧ m' = ⟨S.set rp (rg, .cells (rz d)), nx + 2⟩ := by
  refine ACalls.forget (ok86.acalls (by simp) ?_)
  have tl := (List.getElem?_eq_some_iff.1 hr).1
  have c2 := fun (A : List (Nat × AObj)) (x : Nat) => call35 (d := d) (S := S ++ A) (nx := x) (rp := rp) (rg := rg) (by rw [List.getElem?_append_left tl]; exact hr)
  have c3 : ∀ A, (S ++ A).set rp (rg, .cells (rz d)) = S.set rp (rg, .cells (rz d)) ++ A := fun A => List.set_append_left _ _ tl
  simp only [c3] at c2
  simp only [callG, vlN, vl, tyN, ty, rz] at c2 ⊢
  simp [c86]
  refine xcall_a (c2 _ _) ?_
  simp [cr86]
  exact Mem.le_of rfl (by simp)
def modV (k n0 q n1 k2 : Int) (p2 q2 : Nat) : Int := if eqI n1 0 then 0 else sgn (decide (n1 < 0)) (fixN k2 p2 q2 (modR (modX k n0 q q) (modY k n1 q q) n0 n1) (modE q q))
def modC (k n0 q n1 k2 : Int) (p2 q2 : Nat) : Int := if eqI n1 0 then 9 else if fixL k2 p2 q2 (modR (modX k n0 q q) (modY k n1 q q) n0 n1) (modE q q) then 4 else 0
theorem call164M {k n0 n1 q k2 : Int} {p2 q2 : Nat} (h0 : RightN k n0 q) (h1 : RightN k n1 q) (hv : ValidN k2 p2 q2) :
    PCalls Bk.pg 164 [.agg (vlN k n0 q), .agg (vlN k n1 q), .agg (tyN k2 p2 q2)] fun out => out = .ret (.tuple [.agg (vlN k2 (modV k n0 q n1 k2 p2 q2) q2), .int .i64 (modC k n0 q n1 k2 p2 q2), .int .i64 0]) := by
  have := call164 h0 h1 hv
  unfold modV modC
  split at this <;> rename_i h
  · rw [if_pos h, if_pos h]; exact this
  · rw [if_neg h, if_neg h]; exact this
set_option maxHeartbeats 8000000 in
theorem call76 {k n0 n1 k2 : Int} {p q p2 q2 : Nat} {S : List (Nat × AObj)} {nx rp rg : Nat} (h0 : HasN k p q n0) (h1 : HasN k p q n1) (hv : ValidN k2 p2 q2) (hr : S[rp]? = some (rg, .cells (rz 0))) :
    ACalls Bk.pg 76 [.agg (callG k p q n0 n1 k2 p2 q2 rp rg)] ⟨S, nx⟩ fun out m' => out = .ret (.agg (vlN k2 (modV k n0 q n1 k2 p2 q2) q2)) ∧ ∃ nx', m' = ⟨S.set rp (rg, .cells (rz (modC k n0 q n1 k2 p2 q2))), nx'⟩ := by
  refine ACalls.forget (ok76T.acalls (by simp) ?_)
  have tl := (List.getElem?_eq_some_iff.1 hr).1
  have ca := fun (A : List (Nat × AObj)) (x : Nat) => call63 (i := 0) (k2 := k2) (p2 := p2) (q2 := q2) (S := S ++ A) (nx := x) (rp := rp) (rg := rg) h0 h1 (.inl rfl) (by rw [List.getElem?_append_left tl]; exact hr)
  have cb := fun (A : List (Nat × AObj)) (x : Nat) => call63 (i := 1) (k2 := k2) (p2 := p2) (q2 := q2) (S := S ++ A) (nx := x) (rp := rp) (rg := rg) h0 h1 (.inr rfl) (by rw [List.getElem?_append_left tl]; exact hr)
  have cm := call164M h0.2.1 h1.2.1 hv
  have cc := fun (A : List (Nat × AObj)) (x : Nat) => call86 (k := k) (p := p) (q := q) (n0 := n0) (n1 := n1) (k2 := k2) (p2 := p2) (q2 := q2) (d := modC k n0 q n1 k2 p2 q2) (S := S ++ A) (nx := x) (rp := rp) (rg := rg) (by rw [List.getElem?_append_left tl]; exact hr)
  obtain ⟨V, hV⟩ : ∃ V, V = modV k n0 q n1 k2 p2 q2 := ⟨_, rfl⟩
  obtain ⟨C, hC⟩ : ∃ C, C = modC k n0 q n1 k2 p2 q2 := ⟨_, rfl⟩
  rw [← hV, ← hC] at cm ⊢
  rw [← hC] at cc
  have c3 : ∀ A, (S ++ A).set rp (rg, .cells (rz C)) = S.set rp (rg, .cells (rz C)) ++ A := fun A => List.set_append_left _ _ tl
  simp only [c3] at cc
  have a0 : argN n0 n1 0 = n0 := rfl
  have a1 : argN n0 n1 1 = n1 := rfl
  rw [a0] at ca
  rw [a1] at cb
  simp only [callG, vlN, vl, tyN, ty] at ca cb cm cc ⊢
  simp [c76T]
  repeat'
    first
    | apply And.intro
    | (refine xdcall_a rfl (ca _ _) ?_; simp)
    | (refine xdcall_a rfl (cb _ _) ?_; simp)
  all_goals
    refine xcall_p cm (by simp) ?_
    simp
    refine xcall_a (cc _ _) ?_
    simp [cr76T]
    exact ⟨⟨S.set rp (rg, .cells (rz C)), _⟩, Mem.le_of rfl (by simp), _, rfl⟩
end Go.Pm

/- BkC18: contracts: a sample of a type; safe; what kind a built-in function tells. -/
namespace Go.Pm
open Go Go.Proofs
attribute [-simp] List.getElem?_map
attribute [simp] nilCheckA postA_norm
def sampN (k : Int) (p q : Nat) : Int :=
  if eqI (if fitL k (fitN 1 1 0 k p q) q 1 31 0 then 4 else 0) 0 && eqI (fitN k (fitN 1 1 0 k p q) q 1 31 0) 1 then fitN 1 1 0 k p q else 0
theorem call53 {k : Int} {p q : Nat} (h : ValidN k p q) : PCalls Bk.pg 53 [.agg (tyN k p q), .int .i64 1] fun out => out = .ret (.agg (vlN k (sampN k p q) q)) := by
  refine ok53.pcalls (by simp) ?_
  have h1 : HasN 1 1 0 1 := ⟨⟨.inl ⟨rfl, by omega, by omega⟩, by omega, by omega⟩, ⟨.inl ⟨rfl, by omega, by omega⟩, by omega, by omega⟩, fun _ => by decide, fun h => by cases h⟩
  have c1 := call137 (k1 := 1) (p1 := 1) (q1 := 0) (n := 1) (k2 := k) (p2 := p) (q2 := q) h1 h
  have h2 := fit_has (n := 1) (k := 1) (q1 := 0) h
  obtain ⟨F, hF⟩ : ∃ F, F = fitN 1 1 0 k p q := ⟨_, rfl⟩
  have hw : ValidN 1 (31 : Nat) (0 : Nat) := ⟨.inl ⟨rfl, by omega, by omega⟩, by omega, by omega⟩
  rw [← hF] at c1 h2
  have c2 := call137 (k1 := k) (p1 := p) (q1 := q) (n := F) (k2 := 1) (p2 := 31) (q2 := 0) h2 hw
  have c3 := call138 h
  have hs : sampN k p q = if eqI (if fitL k F q 1 31 0 then 4 else 0) 0 && eqI (fitN k F q 1 31 0) 1 then F else 0 := by rw [hF]; rfl
  obtain ⟨L1, hL1⟩ : ∃ L, L = fitL 1 1 0 k p q := ⟨_, rfl⟩
  obtain ⟨B, hB⟩ : ∃ B, B = fitN k F q 1 31 0 := ⟨_, rfl⟩
  obtain ⟨C, hC⟩ : ∃ C : Int, C = if fitL k F q 1 31 0 then 4 else 0 := ⟨_, rfl⟩
  rw [← hL1] at c1
  rw [← hB, ← hC] at c2 hs
  have z4 : eqI k 4 = false := by
    cases h' : eqI k 4 with
    | false => rfl
    | true => have := eqI_t.1 h'; have := h.1; omega
  have z5 : eqI k 5 = false := by
    cases h' : eqI k 5 with
    | false => rfl
    | true => have := eqI_t.1 h'; have := h.1; omega
  have z : eqI 0 0 = true := rfl
  simp only [tyN, ty, vlN, vl, rz] at c1 c2 c3 ⊢
  have c67 := call67
  simp only [tyN, ty] at c67
  have c135 := call135
  generalize (⟨(Lib.decDigits 1).toArray⟩ : ByteArray) = s at c135
  simp [c53]
  refine xcall_p c135 (by simp) ?_
  simp [z4, z5]
  refine xcall_p c1 (by simp) ?_
  simp [z]
  refine xdcall_p rfl c67 (by simp) ?_
  simp
  refine xdcall_p rfl c2 (by simp) ?_
  simp
  refine ⟨?_, ?_⟩
  all_goals
    refine br_guard_t rfl (fun h5 => ?_) (fun h5 => ?_)
    · simp [h5]
      refine br_cond rfl (fun h6 => ?_) (fun h6 => ?_)
      · simp [cr53, hs, h5, h6]
      · simp
        refine xcall_p c3 (by simp) ?_
        simp [cr53, hs, h5, h6]
    · simp [h5]
      refine xcall_p c3 (by simp) ?_
      simp [cr53, hs, h5]
theorem call43 {x : AV} {m : Mem} : DCalls Bk.pg 43 [x] none m fun m' => m' = m := by
  refine ok43.dcalls (by simp) ?_
  simp [c43, postR_norm]
theorem call25 {f : FuncId} {caps : List AV} {S : List (Nat × AObj)} {nx : Nat} {Q : List (Nat × AObj) → Prop}
    (h : ACalls Bk.pg f caps ⟨S ++ [(nx, .cells [.int .i64 0])], nx + 1⟩ fun out m' => out = .ret (.tuple []) ∧ ∃ S' nx', m' = ⟨S' ++ [(nx, .cells [.int .i64 0])], nx'⟩ ∧ S'.length = S.length ∧ Q S') :
    ACalls Bk.pg 25 [.fn f caps] ⟨S, nx⟩ fun out m' => out = .ret (.int .i64 0) ∧ ∃ S' nx', m' = ⟨S', nx'⟩ ∧ Q S' := by
  refine ACalls.forget (ok25.acalls (by simp) ?_)
  simp [cx25, cy25]
  refine xcall_r h ?_ ?_
  · rintro v m' ⟨hv, S', nx', rfl, hl, hq⟩
    cases hv
    simp [← hl, postF_ret]
    refine ⟨_, call43, ?_⟩
    rintro m' rfl
    simp [cr25]
    exact ⟨⟨S', _⟩, Mem.le_of rfl (by simp), S', ⟨_, rfl⟩, hq⟩
  · rintro v m' ⟨hv, _⟩
    cases hv
end Go.Pm

/- BkC19: contracts: the kind that a rest has. -/
namespace Go.Pm
open Go Go.Proofs
attribute [-simp] List.getElem?_map
attribute [simp] nilCheckA postA_norm
theorem ACalls.mono {P : Prg} {f : FuncId} {xs : List AV} {m : Mem} {R R' : AOut → Mem → Prop} (h : ACalls P f xs m R) (hR : ∀ out m', R out m' → R' out m') : ACalls P f xs m R' :=
  h.sim fun out m' hr => ⟨out, m', hR _ _ hr, SimO.refl _ _⟩
def rowM : List AV := [.int .i64 2, .int .i64 2, .fn 75 [], .fn 76 []]
theorem call54 {k p q : Int} {T : List (Nat × AObj)} {els : List (List AV)} {o2 : Nat × AObj} {g nx : Nat} (h : ValidN k p q) (hl : els.length = 2) (hn : norefLL els = true) :
    ACalls Bk.pg 54 [.ptr 0 0 0, .ptr 1 1 0, .ptr 4 4 0, .ptr 5 g 0] ⟨[(0, .cells rowM), (1, .cells [.list true 6 [tyN k p q, tyN k p q]]), o2, (3, .row 24 4 els), (4, .cells [.row 3 3 4 0 2]), (g, .cells (ty 0 0 0 0 false ⟨#[]⟩))] ++ T, nx⟩ fun out m' => out = .ret (.tuple []) ∧
      m' = ⟨[(0, .cells rowM), (1, .cells [.list true 6 [tyN k p q, tyN k p q]]), o2, (3, .row 24 4 els), (4, .cells [.row 3 3 4 0 2]), (g, .cells (tyN k p q))] ++ T, nx⟩ := by
  refine ok54.acalls (by simp) ?_
  have c1 := call75 (x := .list false 4 els) h (.inr ⟨els, rfl, hn⟩)
  have htk : els.take 2 = els := List.take_of_length_le (by omega)
  simp only [askG, tyN, ty] at c1 ⊢
  simp [c54, rowM]
  refine xcall_p c1 (by simp [htk, hn, hl]) ?_
  simp [cr54]
theorem call34 {k : Int} {p q : Nat} (h : ValidN k p q) : PCalls Bk.pg 34 [.agg rowM, .list true 6 [tyN k p q, tyN k p q]] fun out => out = .ret (.int .i64 k) := by
  refine ok34.pcalls (by simp) ?_
  have c53 := call53 h
  have z02 : ltI 0 2 = true := rfl
  have z12 : ltI 1 2 = true := rfl
  have z22 : ltI 2 2 = false := rfl
  have z : eqI 0 0 = true := rfl
  have w1 : IntKind.i64.wrap 1 = 1 := rfl
  have w2 : IntKind.i64.wrap 2 = 2 := rfl
  obtain ⟨V, hV⟩ : ∃ V, V = vlN k (sampN k p q) q := ⟨_, rfl⟩
  have hVl : V.length = 4 := by rw [hV]; rfl
  have hVn : norefL V = true := by rw [hV]; rfl
  simp only [tyN, ty, vlN, vl] at c53
  simp [c34, rowM, tyN, ty]
  refine wpS_loopS (ι := Unit) (fun _ => [(2, .ptr 0 0 0), (3, .ptr 1 1 0), (12, .row 2 2 1 0 2), (13, .int .i64 2), (14, .int .i64 0)]) (fun _ => ⟨[(0, .cells rowM), (1, .cells [.list true 6 [tyN k p q, tyN k p q]]), (2, .row 3 1 [[.int .i64 1], [.int .i64 0]])], 3⟩) (fun _ => 0) (fun _ => True) () trivial
    (Sim.of_le (Env.le_of (by simp)) (Mem.le_of rfl (by simp [rowM, tyN, ty]; rfl))) ?_
  rintro _ _
  simp [z02, rowM, tyN, ty]
  refine wpS_loopS (ι := Nat × Nat) (fun s => [(2, .ptr 0 0 0), (3, .ptr 1 1 0), (6, .int .i64 1), (7, .ptr 4 4 0), (12, .row 2 2 1 0 2), (13, .int .i64 2), (14, .int .i64 0), (21, .list true 6 [tyN k p q, tyN k p q]), (22, .int .i64 2), (23, .int .i64 (s.1 : Nat))])
    (fun s => ⟨[(0, .cells rowM), (1, .cells [.list true 6 [tyN k p q, tyN k p q]]), (2, .row 3 1 [[.int .i64 1], [.int .i64 0]]), (3, .row 24 4 (List.replicate s.1 (vlN k (sampN k p q) q) ++ List.replicate (2 - s.1) (vl 0 0 0 ⟨#[]⟩))), (4, .cells [.row 3 3 4 0 2])], s.2⟩) (fun s => 2 - s.1) (fun s => s.1 ≤ 2) (0, 5) (by decide)
    (Sim.of_le (Env.le_of (by simp [tyN, ty])) (Mem.le_of rfl (by simp [rowM, tyN, ty, vl, List.replicate]))) ?_
  rintro ⟨i, nx⟩ hi
  simp only at hi
  have hi' : i = 0 ∨ i = 1 ∨ i = 2 := by omega
  rcases hi' with rfl | rfl | rfl
  · simp [z02, rowM, tyN, ty, List.replicate, vl]
    refine xdcall_p rfl c53 (by simp) ?_
    simp [w1, z02]
    exact ⟨1, by omega, by omega, _, Sim.of_le (Env.le_of (by simp)) (Mem.le_of rfl (by simp [vlN, vl, List.replicate]))⟩
  · simp [z12, rowM, tyN, ty, List.replicate, vl]
    refine xdcall_p rfl c53 (by simp) ?_
    simp [w2, z12]
    exact ⟨2, by omega, by omega, _, Sim.of_le (Env.le_of (by simp)) (Mem.le_of rfl (by simp [vlN, vl, List.replicate]))⟩
  · simp [z22, rowM, tyN, ty, List.replicate]
    have c54 := call54 (T := [(nx + 1, .cells [.int .i64 0])]) (els := [vlN k (sampN k p q) q, vlN k (sampN k p q) q]) (o2 := (2, .row 3 1 [[.int .i64 1], [.int .i64 0]])) (g := nx) (nx := nx + 2) h rfl rfl
    have c25 := call25 (f := 54) (caps := [.ptr 0 0 0, .ptr 1 1 0, .ptr 4 4 0, .ptr 5 nx 0]) (S := [(0, .cells rowM), (1, .cells [.list true 6 [tyN k p q, tyN k p q]]), (2, .row 3 1 [[.int .i64 1], [.int .i64 0]]), (3, .row 24 4 [vlN k (sampN k p q) q, vlN k (sampN k p q) q]), (4, .cells [.row 3 3 4 0 2]), (nx, .cells (ty 0 0 0 0 false ⟨#[]⟩))]) (nx := nx + 1)
      (Q := fun S' => S' = [(0, .cells rowM), (1, .cells [.list true 6 [tyN k p q, tyN k p q]]), (2, .row 3 1 [[.int .i64 1], [.int .i64 0]]), (3, .row 24 4 [vlN k (sampN k p q) q, vlN k (sampN k p q) q]), (4, .cells [.row 3 3 4 0 2]), (nx, .cells (tyN k p q))])
      (c54.mono fun out m' ⟨ho, hm⟩ => ⟨ho, _, nx + 2, hm, rfl, rfl⟩)
    simp only [rowM, tyN, ty] at c25
    refine xcall_r c25 ?_ ?_
    · rintro v m' ⟨hv, S', nx', rfl, rfl⟩
      cases hv
      simp [z, cr34]
    · rintro v m' ⟨hv, _⟩
      cases hv
end Go.Pm

/- BkM1: the table of built-in functions: maps with texts as keys. -/
namespace Go.Pm
open Go Go.Proofs
attribute [-simp] List.getElem?_map
attribute [simp] nilCheckA postA_norm
theorem beqB_t (a : ByteArray) : (a == a) = true := by
  exact (beq_bytes a a).2 rfl
theorem beqB_f {a b : ByteArray} (h : a ≠ b) : (a == b) = false := by
  cases hb : a == b with
  | false => rfl
  | true => exact absurd ((beq_bytes a b).1 hb) h
def nameM : ByteArray := ⟨#[77, 79, 68]⟩
def TabK (L : List (AV × AV)) : Prop := ∀ e ∈ L, ∃ s, e.1 = .str s
def TabM (L : List (AV × AV)) : Prop := TabK L ∧ findA (.str nameM) L = some (some (.agg rowM))
theorem upd_tab (k : ByteArray) (v : AV) : ∀ {L : List (AV × AV)}, TabK L → ∃ L', updA (.str k) v L = some L' ∧ TabK L' ∧ findA (.str k) L' = some (some v) ∧ ∀ k', k' ≠ k → findA (.str k') L' = findA (.str k') L
  | [], _ => ⟨[(.str k, v)], rfl, fun e he => by rw [List.mem_singleton.1 he]; exact ⟨k, rfl⟩, by simp [findA, keyEq, beqB_t], fun k' hk => by simp [findA, keyEq, beqB_f hk]⟩
  | (a, b) :: L, h => by
    obtain ⟨s, hs⟩ := h (a, b) (by simp)
    simp only at hs
    subst hs
    obtain ⟨L', h1, h2, h3, h4⟩ := upd_tab k v (L := L) fun e he => h e (by simp [he])
    by_cases hk : k = s
    · subst hk
      refine ⟨(.str k, v) :: L, by simp [updA, keyEq, beqB_t], fun e he => ?_, by simp [findA, keyEq, beqB_t], fun k' hk' => by simp [findA, keyEq, beqB_f hk']⟩
      rcases List.mem_cons.1 he with rfl | he
      · exact ⟨k, rfl⟩
      · exact h e (by simp [he])
    · refine ⟨(.str s, b) :: L', by simp [updA, keyEq, beqB_f hk, h1], fun e he => ?_, by simp [findA, keyEq, beqB_f hk, h3], fun k' hk' => ?_⟩
      · rcases List.mem_cons.1 he with rfl | he
        · exact ⟨s, rfl⟩
        · exact h2 e he
      · by_cases h5 : k' = s
        · subst h5; simp [findA, keyEq, beqB_t]
        · simp [findA, keyEq, beqB_f h5, h4 k' hk']
theorem take_part {α : Type} (S A : List α) (n : Nat) : (S ++ A).take (S.length + n) = S ++ A.take n := by
  induction S with
  | nil => simp
  | cons x S ih => rw [List.length_cons, Nat.add_right_comm, List.cons_append, List.take_succ_cons, ih]; rfl
theorem next_split {es : List (AV × AV × Nat)} {p p' : AV × AV × Nat → Bool} {f : AV × AV × Nat → AV × Mem} {m : Mem} {Q : AV → Mem → Prop} (h0 : Q (.tuple [.bool false]) m) (h1 : ∀ e ∈ es, p' e = true → Q (f e).1 (f e).2) :
    AllN (if (es.filter p).isEmpty then [(.tuple [.bool false], m)] else (es.filter p').map f) Q := by
  split
  · exact AllN_iff.2 fun v m' hm => by
      rcases List.mem_singleton.1 hm with h
      injection h with h2 h3
      subst h2; subst h3; exact h0
  · refine AllN_iff.2 fun v m' hm => ?_
    obtain ⟨e, he, hf⟩ := List.mem_map.1 hm
    obtain ⟨he1, he2⟩ := List.mem_filter.1 he
    have := h1 e he1 he2
    rw [hf] at this
    exact this
theorem unseen_less {es : List (AV × AV × Nat)} {seen : List Nat} {e : AV × AV × Nat} (he : e ∈ es) (hs : (!seen.contains e.2.2) = true) :
    (es.filter fun x => !(seen ++ [e.2.2]).contains x.2.2).length < (es.filter fun x => !seen.contains x.2.2).length := by
  induction es with
  | nil => cases he
  | cons x es ih =>
    have mono : ∀ l : List (AV × AV × Nat), (l.filter fun x => !(seen ++ [e.2.2]).contains x.2.2).length ≤ (l.filter fun x => !seen.contains x.2.2).length := by
      intro l
      induction l with
      | nil => exact Nat.le_refl _
      | cons y l ihl =>
        simp only [List.filter_cons]
        by_cases h1 : (!seen.contains y.2.2) = true
        · rw [if_pos h1]
          split <;> simp only [List.length_cons] <;> omega
        · have h2 : (!(seen ++ [e.2.2]).contains y.2.2) = false := by
            simp at h1 ⊢
            exact fun h => absurd h1 h
          rw [h2, if_neg h1]
          simpa using ihl
    rcases List.mem_cons.1 he with rfl | he
    · have h2 : (!(seen ++ [e.2.2]).contains e.2.2) = false := by simp
      simp only [List.filter_cons, h2, hs, if_true, List.length_cons]
      have := mono es
      simp only [Bool.false_eq_true, if_false]
      omega
    · have := ih he
      simp only [List.filter_cons]
      by_cases h1 : (!seen.contains x.2.2) = true
      · rw [if_pos h1]
        split <;> simp only [List.length_cons] <;> omega
      · have h2 : (!(seen ++ [e.2.2]).contains x.2.2) = false := by
          simp at h1 ⊢
          exact fun h => absurd h1 h
        rw [h2, if_neg h1]
        simpa using this
theorem find_born {es : List (AV × AV × Nat)} {e : AV × AV × Nat} (he : e ∈ es) : ∃ e', e' ∈ es ∧ es.find? (fun x => x.2.2 == e.2.2) = some e' := by
  cases h : es.find? (fun x => x.2.2 == e.2.2) with
  | none =>
    have := List.find?_eq_none.1 h e he
    simp at this
  | some e' => exact ⟨e', List.mem_of_find?_eq_some h, rfl⟩
theorem zipB_mem : ∀ {kv : List (AV × AV)} {bs : List Nat} {e : AV × AV × Nat}, e ∈ zipB kv bs → (e.1, e.2.1) ∈ kv ∧ e.2.2 ∈ bs
  | [], _, _, h => by simp [zipB] at h
  | _ :: _, [], _, h => by simp [zipB] at h
  | (k, v) :: kv, b :: bs, e, h => by
    simp only [zipB] at h
    rcases List.mem_cons.1 h with rfl | h
    · simp
    · obtain ⟨h1, h2⟩ := zipB_mem h
      exact ⟨by simp [h1], by simp [h2]⟩
theorem born_all {kv : List (AV × AV)} {bs : List Nat} {clock : Nat} (h : BornOk bs clock) : (zipB kv bs).all (fun e => e.2.2 < clock) = true :=
  List.all_eq_true.2 fun e he => decide_eq_true (h.2 _ (zipB_mem he).2)
theorem upd_lit {k : ByteArray} {v : AV} : ∀ {ss : List (ByteArray × AV)}, (ss.all fun x => decide (k ≠ x.1)) = true → updA (.str k) v (ss.map fun x => (AV.str x.1, x.2)) = some ((ss.map fun x => (AV.str x.1, x.2)) ++ [(.str k, v)])
  | [], _ => rfl
  | (s, b) :: ss, h => by
    simp only [List.all_cons, Bool.and_eq_true, decide_eq_true_eq] at h
    have ih := upd_lit (k := k) (v := v) (ss := ss) h.2
    simp only [List.map_cons, updA, keyEq, beqB_f h.1, ih, Option.map_some, List.cons_append]
end Go.Pm

/- BkM2: contracts: the table of built-in functions: numeric, textual, changing. Printed by gentab.py. -/
namespace Go.Pm
open Go Go.Proofs
attribute [-simp] List.getElem?_map
attribute [simp] nilCheckA postA_norm
def rowA (a b : Int) (f g : AV) : AV := .agg [.int .i64 a, .int .i64 b, f, g]
set_option maxHeartbeats 8000000 in
theorem call44 {S : List (Nat × AObj)} {g nx : Nat} {L : List (AV × AV)} (hL : TabK L) :
    ACalls Bk.pg 44 [.map S.length g] ⟨S ++ [(g, .map L)], nx⟩ fun out m' => out = .ret (.tuple []) ∧ ∃ L' nx', m' = ⟨S ++ [(g, .map L')], nx'⟩ ∧ TabM L' := by
  refine ACalls.forget (ok44.acalls (by simp) ?_)
  obtain ⟨L1, u2, t3, f4, g5⟩ := upd_tab ⟨#[65, 66, 83]⟩ (rowA 1 1 (.fn 61 []) (.fn 62 [])) hL
  simp only [rowA] at u2
  obtain ⟨L6, u7, t8, f9, g10⟩ := upd_tab ⟨#[83, 73, 71, 78]⟩ (rowA 1 1 (.fn 65 []) (.fn 68 [])) t3
  simp only [rowA] at u7
  have m11 : updA (.str ⟨#[70, 76, 79, 79, 82]⟩) (.int .i64 (-1)) [] = some [(.str ⟨#[70, 76, 79, 79, 82]⟩, .int .i64 (-1))] := upd_lit (ss := []) (by decide)
  have m12 : updA (.str ⟨#[67, 69, 73, 76]⟩) (.int .i64 1) [(.str ⟨#[70, 76, 79, 79, 82]⟩, .int .i64 (-1))] = some [(.str ⟨#[70, 76, 79, 79, 82]⟩, .int .i64 (-1)), (.str ⟨#[67, 69, 73, 76]⟩, .int .i64 1)] := upd_lit (ss := [(⟨#[70, 76, 79, 79, 82]⟩, .int .i64 (-1))]) (by decide)
  have m13 : updA (.str ⟨#[84, 82, 85, 78, 67]⟩) (.int .i64 0) [(.str ⟨#[70, 76, 79, 79, 82]⟩, .int .i64 (-1)), (.str ⟨#[67, 69, 73, 76]⟩, .int .i64 1)] = some [(.str ⟨#[70, 76, 79, 79, 82]⟩, .int .i64 (-1)), (.str ⟨#[67, 69, 73, 76]⟩, .int .i64 1), (.str ⟨#[84, 82, 85, 78, 67]⟩, .int .i64 0)] := upd_lit (ss := [(⟨#[70, 76, 79, 79, 82]⟩, .int .i64 (-1)), (⟨#[67, 69, 73, 76]⟩, .int .i64 1)]) (by decide)
  simp [c44, isKey, u2, u7, m11, m12, m13]
  intro bs14 cl15 hb16 hl17
  obtain ⟨es18, he19⟩ : ∃ es, es = zipB [(AV.str ⟨#[70, 76, 79, 79, 82]⟩, AV.int .i64 (-1)), (AV.str ⟨#[67, 69, 73, 76]⟩, AV.int .i64 1), (AV.str ⟨#[84, 82, 85, 78, 67]⟩, AV.int .i64 0)] bs14 := ⟨_, rfl⟩
  have ha20 : es18.all (fun e => e.2.2 < cl15) = true := by rw [he19]; exact born_all hb16
  have hk21 : ∀ e ∈ es18, ∃ s x, e.1 = .str s ∧ e.2.1 = .int .i64 x ∧ s ≠ nameM := by
    intro e he
    rw [he19] at he
    have h1 := (zipB_mem he).1
    simp only [List.mem_cons, List.not_mem_nil, or_false, Prod.mk.injEq] at h1
    rcases h1 with ⟨h1, h2⟩ | ⟨h1, h2⟩ | ⟨h1, h2⟩ <;> exact ⟨_, _, h1, h2, by decide⟩
  rw [← he19]
  refine wpS_loopS (ι := List Nat × List (AV × AV) × Nat) (fun _ => [(0, .map S.length g), (17, .ptr (S.length + 2) (nx + 1) 0)]) (fun s => ⟨S ++ [(g, .map s.2.1), (nx, .emap es18 cl15), (nx + 1, .iter (S.length + 1) (nx) cl15 s.1 cl15)], s.2.2⟩)
    (fun s => (es18.filter fun x => !s.1.contains x.2.2).length) (fun s => TabK s.2.1) ([], L6, nx + 2) t8 (Sim.of_le (Env.le_of (by simp)) (Mem.le_of rfl (by simp [take_part]))) ?_
  rintro ⟨seen22, L23, n24⟩ t25
  simp only at t25
  simp [ha20]
  refine next_split ?_ (fun e he hp => ?_)
  rotate_left
  · obtain ⟨e', he', hf⟩ := find_born he
    obtain ⟨s, x, hs, hx, hne⟩ := hk21 e' he'
    obtain ⟨L', u', t', f', g'⟩ := upd_tab s (rowA 1 1 (.fn 70 []) (.fn 71 [.ptr (S.length + 3) (n24) 0])) t25
    simp only [rowA] at u'
    
    have one : Value.nilFunc.oneCell' = true := rfl
    simp [hf, hs, hx, isKey, u', one]
    exact ⟨seen22 ++ [e.2.2], L', t', n24 + 1, by simpa using unseen_less he (by simpa using hp), Sim.of_le (Env.le_of (by simp)) (Mem.le_of rfl (by simp [take_part]))⟩
  obtain ⟨L26, u27, t28, f29, g30⟩ := upd_tab ⟨#[82, 79, 85, 78, 68]⟩ (rowA 2 2 (.fn 73 []) (.fn 74 [])) t25
  simp only [rowA] at u27
  obtain ⟨L31, u32, t33, f34, g35⟩ := upd_tab ⟨#[77, 79, 68]⟩ (rowA 2 2 (.fn 75 []) (.fn 76 [])) t28
  simp only [rowA] at u32
  have t36 : TabM L31 := ⟨t33, f34⟩
  have m37 : updA (.str ⟨#[77, 65, 88]⟩) (.int .i64 1) [] = some [(.str ⟨#[77, 65, 88]⟩, .int .i64 1)] := upd_lit (ss := []) (by decide)
  have m38 : updA (.str ⟨#[77, 73, 78]⟩) (.int .i64 (-1)) [(.str ⟨#[77, 65, 88]⟩, .int .i64 1)] = some [(.str ⟨#[77, 65, 88]⟩, .int .i64 1), (.str ⟨#[77, 73, 78]⟩, .int .i64 (-1))] := upd_lit (ss := [(⟨#[77, 65, 88]⟩, .int .i64 1)]) (by decide)
  simp [isKey, u27, u32, m37, m38]
  intro bs39 cl40 hb41 hl42
  obtain ⟨es43, he44⟩ : ∃ es, es = zipB [(AV.str ⟨#[77, 65, 88]⟩, AV.int .i64 1), (AV.str ⟨#[77, 73, 78]⟩, AV.int .i64 (-1))] bs39 := ⟨_, rfl⟩
  have ha45 : es43.all (fun e => e.2.2 < cl40) = true := by rw [he44]; exact born_all hb41
  have hk46 : ∀ e ∈ es43, ∃ s x, e.1 = .str s ∧ e.2.1 = .int .i64 x ∧ s ≠ nameM := by
    intro e he
    rw [he44] at he
    have h1 := (zipB_mem he).1
    simp only [List.mem_cons, List.not_mem_nil, or_false, Prod.mk.injEq] at h1
    rcases h1 with ⟨h1, h2⟩ | ⟨h1, h2⟩ <;> exact ⟨_, _, h1, h2, by decide⟩
  rw [← he44]
  refine wpS_loopS (ι := List Nat × List (AV × AV) × Nat) (fun _ => [(0, .map S.length g), (33, .ptr (S.length + 4) (n24 + 1) 0)]) (fun s => ⟨S ++ [(g, .map s.2.1), (nx, .emap es18 cl15), (nx + 1, .iter (S.length + 1) (nx) cl15 seen22 cl15), (n24, .emap es43 cl40), (n24 + 1, .iter (S.length + 3) (n24) cl40 s.1 cl40)], s.2.2⟩)
    (fun s => (es43.filter fun x => !s.1.contains x.2.2).length) (fun s => TabM s.2.1) ([], L31, n24 + 2) t36 (Sim.of_le (Env.le_of (by simp)) (Mem.le_of rfl (by simp [take_part]))) ?_
  rintro ⟨seen47, L48, n49⟩ t50
  simp only at t50
  simp [ha45]
  refine next_split ?_ (fun e he hp => ?_)
  rotate_left
  · obtain ⟨e', he', hf⟩ := find_born he
    obtain ⟨s, x, hs, hx, hne⟩ := hk46 e' he'
    obtain ⟨L', u', t', f', g'⟩ := upd_tab s (rowA 1 20 (.fn 75 []) (.fn 77 [.ptr (S.length + 5) (n49) 0])) t50.1
    simp only [rowA] at u'
    have t'' : TabM L' := ⟨t', by rw [g' _ (Ne.symm hne)]; exact t50.2⟩
    
    have one : Value.nilFunc.oneCell' = true := rfl
    simp [hf, hs, hx, isKey, u', one]
    exact ⟨seen47 ++ [e.2.2], L', t'', n49 + 1, by simpa using unseen_less he (by simpa using hp), Sim.of_le (Env.le_of (by simp)) (Mem.le_of rfl (by simp [take_part]))⟩
  have m51 : updA (.str ⟨#[65, 68, 68]⟩) (.fn 79 []) [] = some [(.str ⟨#[65, 68, 68]⟩, .fn 79 [])] := upd_lit (ss := []) (by decide)
  have m52 : updA (.str ⟨#[83, 85, 66, 84, 82, 65, 67, 84]⟩) (.fn 80 []) [(.str ⟨#[65, 68, 68]⟩, .fn 79 [])] = some [(.str ⟨#[65, 68, 68]⟩, .fn 79 []), (.str ⟨#[83, 85, 66, 84, 82, 65, 67, 84]⟩, .fn 80 [])] := upd_lit (ss := [(⟨#[65, 68, 68]⟩, .fn 79 [])]) (by decide)
  have m53 : updA (.str ⟨#[77, 85, 76, 84, 73, 80, 76, 89]⟩) (.fn 81 []) [(.str ⟨#[65, 68, 68]⟩, .fn 79 []), (.str ⟨#[83, 85, 66, 84, 82, 65, 67, 84]⟩, .fn 80 [])] = some [(.str ⟨#[65, 68, 68]⟩, .fn 79 []), (.str ⟨#[83, 85, 66, 84, 82, 65, 67, 84]⟩, .fn 80 []), (.str ⟨#[77, 85, 76, 84, 73, 80, 76, 89]⟩, .fn 81 [])] := upd_lit (ss := [(⟨#[65, 68, 68]⟩, .fn 79 []), (⟨#[83, 85, 66, 84, 82, 65, 67, 84]⟩, .fn 80 [])]) (by decide)
  have m54 : updA (.str ⟨#[68, 73, 86, 73, 68, 69]⟩) (.fn 82 []) [(.str ⟨#[65, 68, 68]⟩, .fn 79 []), (.str ⟨#[83, 85, 66, 84, 82, 65, 67, 84]⟩, .fn 80 []), (.str ⟨#[77, 85, 76, 84, 73, 80, 76, 89]⟩, .fn 81 [])] = some [(.str ⟨#[65, 68, 68]⟩, .fn 79 []), (.str ⟨#[83, 85, 66, 84, 82, 65, 67, 84]⟩, .fn 80 []), (.str ⟨#[77, 85, 76, 84, 73, 80, 76, 89]⟩, .fn 81 []), (.str ⟨#[68, 73, 86, 73, 68, 69]⟩, .fn 82 [])] := upd_lit (ss := [(⟨#[65, 68, 68]⟩, .fn 79 []), (⟨#[83, 85, 66, 84, 82, 65, 67, 84]⟩, .fn 80 []), (⟨#[77, 85, 76, 84, 73, 80, 76, 89]⟩, .fn 81 [])]) (by decide)
  have one : Value.nilFunc.oneCell' = true := rfl
  simp [isKey, m51, m52, m53, m54]
  intro bs55 cl56 hb57 hl58
  obtain ⟨es59, he60⟩ : ∃ es, es = zipB [(AV.str ⟨#[65, 68, 68]⟩, AV.fn 79 []), (AV.str ⟨#[83, 85, 66, 84, 82, 65, 67, 84]⟩, AV.fn 80 []), (AV.str ⟨#[77, 85, 76, 84, 73, 80, 76, 89]⟩, AV.fn 81 []), (AV.str ⟨#[68, 73, 86, 73, 68, 69]⟩, AV.fn 82 [])] bs55 := ⟨_, rfl⟩
  have ha61 : es59.all (fun e => e.2.2 < cl56) = true := by rw [he60]; exact born_all hb57
  have hk62 : ∀ e ∈ es59, ∃ s x, e.1 = .str s ∧ e.2.1 = .fn x [] ∧ s ≠ nameM := by
    intro e he
    rw [he60] at he
    have h1 := (zipB_mem he).1
    simp only [List.mem_cons, List.not_mem_nil, or_false, Prod.mk.injEq] at h1
    rcases h1 with ⟨h1, h2⟩ | ⟨h1, h2⟩ | ⟨h1, h2⟩ | ⟨h1, h2⟩ <;> exact ⟨_, _, h1, h2, by decide⟩
  rw [← he60]
  refine wpS_loopS (ι := List Nat × List (AV × AV) × Nat) (fun _ => [(0, .map S.length g), (45, .ptr (S.length + 6) (n49 + 1) 0)]) (fun s => ⟨S ++ [(g, .map s.2.1), (nx, .emap es18 cl15), (nx + 1, .iter (S.length + 1) (nx) cl15 seen22 cl15), (n24, .emap es43 cl40), (n24 + 1, .iter (S.length + 3) (n24) cl40 seen47 cl40), (n49, .emap es59 cl56), (n49 + 1, .iter (S.length + 5) (n49) cl56 s.1 cl56)], s.2.2⟩)
    (fun s => (es59.filter fun x => !s.1.contains x.2.2).length) (fun s => TabM s.2.1) ([], L48, n49 + 2) t50 (Sim.of_le (Env.le_of (by simp)) (Mem.le_of rfl (by simp [take_part]))) ?_
  rintro ⟨seen63, L64, n65⟩ t66
  simp only at t66
  simp [ha61]
  refine next_split ?_ (fun e he hp => ?_)
  rotate_left
  · obtain ⟨e', he', hf⟩ := find_born he
    obtain ⟨s, x, hs, hx, hne⟩ := hk62 e' he'
    obtain ⟨L', u', t', f', g'⟩ := upd_tab s (rowA 3 4 (.fn 83 []) (.fn 84 [.ptr (S.length + 7) (n65) 0])) t66.1
    simp only [rowA] at u'
    have t'' : TabM L' := ⟨t', by rw [g' _ (Ne.symm hne)]; exact t66.2⟩
    
    have one : Value.nilFunc.oneCell' = true := rfl
    simp [hf, hs, hx, isKey, u', one]
    exact ⟨seen63 ++ [e.2.2], L', t'', n65 + 1, by simpa using unseen_less he (by simpa using hp), Sim.of_le (Env.le_of (by simp)) (Mem.le_of rfl (by simp [take_part]))⟩
  have m67 : updA (.str ⟨#[70, 73, 88, 69, 68]⟩) (.int .i64 0) [] = some [(.str ⟨#[70, 73, 88, 69, 68]⟩, .int .i64 0)] := upd_lit (ss := []) (by decide)
  have m68 : updA (.str ⟨#[66, 73, 78, 65, 82, 89]⟩) (.int .i64 1) [(.str ⟨#[70, 73, 88, 69, 68]⟩, .int .i64 0)] = some [(.str ⟨#[70, 73, 88, 69, 68]⟩, .int .i64 0), (.str ⟨#[66, 73, 78, 65, 82, 89]⟩, .int .i64 1)] := upd_lit (ss := [(⟨#[70, 73, 88, 69, 68]⟩, .int .i64 0)]) (by decide)
  have m69 : updA (.str ⟨#[68, 69, 67, 73, 77, 65, 76]⟩) (.int .i64 2) [(.str ⟨#[70, 73, 88, 69, 68]⟩, .int .i64 0), (.str ⟨#[66, 73, 78, 65, 82, 89]⟩, .int .i64 1)] = some [(.str ⟨#[70, 73, 88, 69, 68]⟩, .int .i64 0), (.str ⟨#[66, 73, 78, 65, 82, 89]⟩, .int .i64 1), (.str ⟨#[68, 69, 67, 73, 77, 65, 76]⟩, .int .i64 2)] := upd_lit (ss := [(⟨#[70, 73, 88, 69, 68]⟩, .int .i64 0), (⟨#[66, 73, 78, 65, 82, 89]⟩, .int .i64 1)]) (by decide)
  have m70 : updA (.str ⟨#[70, 76, 79, 65, 84]⟩) (.int .i64 3) [(.str ⟨#[70, 73, 88, 69, 68]⟩, .int .i64 0), (.str ⟨#[66, 73, 78, 65, 82, 89]⟩, .int .i64 1), (.str ⟨#[68, 69, 67, 73, 77, 65, 76]⟩, .int .i64 2)] = some [(.str ⟨#[70, 73, 88, 69, 68]⟩, .int .i64 0), (.str ⟨#[66, 73, 78, 65, 82, 89]⟩, .int .i64 1), (.str ⟨#[68, 69, 67, 73, 77, 65, 76]⟩, .int .i64 2), (.str ⟨#[70, 76, 79, 65, 84]⟩, .int .i64 3)] := upd_lit (ss := [(⟨#[70, 73, 88, 69, 68]⟩, .int .i64 0), (⟨#[66, 73, 78, 65, 82, 89]⟩, .int .i64 1), (⟨#[68, 69, 67, 73, 77, 65, 76]⟩, .int .i64 2)]) (by decide)
  simp [isKey, m67, m68, m69, m70]
  intro bs71 cl72 hb73 hl74
  obtain ⟨es75, he76⟩ : ∃ es, es = zipB [(AV.str ⟨#[70, 73, 88, 69, 68]⟩, AV.int .i64 0), (AV.str ⟨#[66, 73, 78, 65, 82, 89]⟩, AV.int .i64 1), (AV.str ⟨#[68, 69, 67, 73, 77, 65, 76]⟩, AV.int .i64 2), (AV.str ⟨#[70, 76, 79, 65, 84]⟩, AV.int .i64 3)] bs71 := ⟨_, rfl⟩
  have ha77 : es75.all (fun e => e.2.2 < cl72) = true := by rw [he76]; exact born_all hb73
  have hk78 : ∀ e ∈ es75, ∃ s x, e.1 = .str s ∧ e.2.1 = .int .i64 x ∧ s ≠ nameM := by
    intro e he
    rw [he76] at he
    have h1 := (zipB_mem he).1
    simp only [List.mem_cons, List.not_mem_nil, or_false, Prod.mk.injEq] at h1
    rcases h1 with ⟨h1, h2⟩ | ⟨h1, h2⟩ | ⟨h1, h2⟩ | ⟨h1, h2⟩ <;> exact ⟨_, _, h1, h2, by decide⟩
  rw [← he76]
  refine wpS_loopS (ι := List Nat × List (AV × AV) × Nat) (fun _ => [(0, .map S.length g), (57, .ptr (S.length + 8) (n65 + 1) 0)]) (fun s => ⟨S ++ [(g, .map s.2.1), (nx, .emap es18 cl15), (nx + 1, .iter (S.length + 1) (nx) cl15 seen22 cl15), (n24, .emap es43 cl40), (n24 + 1, .iter (S.length + 3) (n24) cl40 seen47 cl40), (n49, .emap es59 cl56), (n49 + 1, .iter (S.length + 5) (n49) cl56 seen63 cl56), (n65, .emap es75 cl72), (n65 + 1, .iter (S.length + 7) (n65) cl72 s.1 cl72)], s.2.2⟩)
    (fun s => (es75.filter fun x => !s.1.contains x.2.2).length) (fun s => TabM s.2.1) ([], L64, n65 + 2) t66 (Sim.of_le (Env.le_of (by simp)) (Mem.le_of rfl (by simp [take_part]))) ?_
  rintro ⟨seen79, L80, n81⟩ t82
  simp only at t82
  simp [ha77]
  refine next_split ?_ (fun e he hp => ?_)
  rotate_left
  · obtain ⟨e', he', hf⟩ := find_born he
    obtain ⟨s, x, hs, hx, hne⟩ := hk78 e' he'
    simp [hf, hs, hx, isKey]
    refine br_cond rfl (fun h5 => ?_) (fun h5 => ?_)
    · obtain ⟨L', u', t', f', g'⟩ := upd_tab s (rowA 1 2 (.fn 87 [.ptr (S.length + 9) (n81) 0]) (.fn 89 [])) t82.1
      simp only [rowA] at u'
      have t'' : TabM L' := ⟨t', by rw [g' _ (Ne.symm hne)]; exact t82.2⟩
      simp [isKey, u']
      exact ⟨seen79 ++ [e.2.2], L', t'', n81 + 1, by simpa using unseen_less he (by simpa using hp), Sim.of_le (Env.le_of (by simp)) (Mem.le_of rfl (by simp [take_part]))⟩
    · obtain ⟨L', u', t', f', g'⟩ := upd_tab s (rowA 1 3 (.fn 87 [.ptr (S.length + 9) (n81) 0]) (.fn 89 [])) t82.1
      simp only [rowA] at u'
      have t'' : TabM L' := ⟨t', by rw [g' _ (Ne.symm hne)]; exact t82.2⟩
      simp [isKey, u']
      exact ⟨seen79 ++ [e.2.2], L', t'', n81 + 1, by simpa using unseen_less he (by simpa using hp), Sim.of_le (Env.le_of (by simp)) (Mem.le_of rfl (by simp [take_part]))⟩
  simp [cr44]
  exact ⟨⟨S ++ [(g, .map L80)], _⟩, Mem.le_of rfl (by simp [take_part]), _, ⟨_, rfl⟩, t82⟩
set_option maxHeartbeats 8000000 in
theorem call45 {S : List (Nat × AObj)} {g nx : Nat} {L : List (AV × AV)} (hL : TabM L) :
    ACalls Bk.pg 45 [.map S.length g] ⟨S ++ [(g, .map L)], nx⟩ fun out m' => out = .ret (.tuple []) ∧ ∃ L' nx', m' = ⟨S ++ [(g, .map L')], nx'⟩ ∧ TabM L' := by
  refine ACalls.forget (ok45.acalls (by simp) ?_)
  have one : Value.nilFunc.oneCell' = true := rfl
  obtain ⟨L1, u2, t3, f4, g5⟩ := upd_tab ⟨#[76, 69, 78, 71, 84, 72]⟩ (rowA 1 1 (.fn 90 []) (.fn 94 [])) hL.1
  simp only [rowA] at u2
  have t6 : TabM L1 := ⟨t3, by rw [g5 _ (by decide)]; exact hL.2⟩
  obtain ⟨L7, u8, t9, f10, g11⟩ := upd_tab ⟨#[83, 85, 66, 83, 84, 82]⟩ (rowA 2 3 (.fn 95 []) (.fn 96 [])) t6.1
  simp only [rowA] at u8
  have t12 : TabM L7 := ⟨t9, by rw [g11 _ (by decide)]; exact t6.2⟩
  obtain ⟨L13, u14, t15, f16, g17⟩ := upd_tab ⟨#[73, 78, 68, 69, 88]⟩ (rowA 2 2 (.fn 90 []) (.fn 97 [.ptr (S.length + 1) nx 0])) t12.1
  simp only [rowA] at u14
  have t18 : TabM L13 := ⟨t15, by rw [g17 _ (by decide)]; exact t12.2⟩
  obtain ⟨L19, u20, t21, f22, g23⟩ := upd_tab ⟨#[86, 69, 82, 73, 70, 89]⟩ (rowA 2 2 (.fn 90 []) (.fn 99 [.ptr (S.length + 1) nx 0])) t18.1
  simp only [rowA] at u20
  have t24 : TabM L19 := ⟨t21, by rw [g23 _ (by decide)]; exact t18.2⟩
  simp [c45, isKey, u2, u8, u14, u20, one, cr45]
  exact ⟨⟨S ++ [(g, .map L19)], _⟩, Mem.le_of rfl (by simp [take_part]), _, ⟨_, rfl⟩, t24⟩
set_option maxHeartbeats 8000000 in
theorem call46 {S : List (Nat × AObj)} {g nx : Nat} {L : List (AV × AV)} (hL : TabM L) :
    ACalls Bk.pg 46 [.map S.length g] ⟨S ++ [(g, .map L)], nx⟩ fun out m' => out = .ret (.tuple []) ∧ ∃ L' nx', m' = ⟨S ++ [(g, .map L')], nx'⟩ ∧ TabM L' := by
  refine ACalls.forget (ok46.acalls (by simp) ?_)
  have one : Value.nilFunc.oneCell' = true := rfl
  obtain ⟨L1, u2, t3, f4, g5⟩ := upd_tab ⟨#[84, 82, 65, 78, 83, 76, 65, 84, 69]⟩ (rowA 3 3 (.fn 102 []) (.fn 103 [])) hL.1
  simp only [rowA] at u2
  have t6 : TabM L1 := ⟨t3, by rw [g5 _ (by decide)]; exact hL.2⟩
  obtain ⟨L7, u8, t9, f10, g11⟩ := upd_tab ⟨#[82, 69, 80, 69, 65, 84]⟩ (rowA 2 2 (.fn 106 []) (.fn 108 [])) t6.1
  simp only [rowA] at u8
  have t12 : TabM L7 := ⟨t9, by rw [g11 _ (by decide)]; exact t6.2⟩
  obtain ⟨L13, u14, t15, f16, g17⟩ := upd_tab ⟨#[67, 79, 80, 89]⟩ (rowA 2 2 (.fn 106 []) (.fn 110 [])) t12.1
  simp only [rowA] at u14
  have t18 : TabM L13 := ⟨t15, by rw [g17 _ (by decide)]; exact t12.2⟩
  obtain ⟨L19, u20, t21, f22, g23⟩ := upd_tab ⟨#[82, 69, 86, 69, 82, 83, 69]⟩ (rowA 1 1 (.fn 101 []) (.fn 111 [])) t18.1
  simp only [rowA] at u20
  have t24 : TabM L19 := ⟨t21, by rw [g23 _ (by decide)]; exact t18.2⟩
  obtain ⟨L25, u26, t27, f28, g29⟩ := upd_tab ⟨#[83, 84, 82, 73, 78, 71]⟩ (rowA 1 1 (.fn 101 []) (.fn 113 [])) t24.1
  simp only [rowA] at u26
  have t30 : TabM L25 := ⟨t27, by rw [g29 _ (by decide)]; exact t24.2⟩
  obtain ⟨L31, u32, t33, f34, g35⟩ := upd_tab ⟨#[66, 79, 79, 76]⟩ (rowA 3 3 (.fn 114 []) (.fn 115 [])) t30.1
  simp only [rowA] at u32
  have t36 : TabM L31 := ⟨t33, by rw [g35 _ (by decide)]; exact t30.2⟩
  have m37 : updA (.str ⟨#[67, 72, 65, 82]⟩) (.int .i64 4) [] = some [(.str ⟨#[67, 72, 65, 82]⟩, .int .i64 4)] := upd_lit (ss := []) (by decide)
  have m38 : updA (.str ⟨#[66, 73, 84]⟩) (.int .i64 5) [(.str ⟨#[67, 72, 65, 82]⟩, .int .i64 4)] = some [(.str ⟨#[67, 72, 65, 82]⟩, .int .i64 4), (.str ⟨#[66, 73, 84]⟩, .int .i64 5)] := upd_lit (ss := [(⟨#[67, 72, 65, 82]⟩, .int .i64 4)]) (by decide)
  simp [c46, isKey, u2, u8, u14, u20, u26, u32, m37, m38]
  intro bs39 cl40 hb41 hl42
  obtain ⟨es43, he44⟩ : ∃ es, es = zipB [(AV.str ⟨#[67, 72, 65, 82]⟩, AV.int .i64 4), (AV.str ⟨#[66, 73, 84]⟩, AV.int .i64 5)] bs39 := ⟨_, rfl⟩
  have ha45 : es43.all (fun e => e.2.2 < cl40) = true := by rw [he44]; exact born_all hb41
  have hk46 : ∀ e ∈ es43, ∃ s x, e.1 = .str s ∧ e.2.1 = .int .i64 x ∧ s ≠ nameM := by
    intro e he
    rw [he44] at he
    have h1 := (zipB_mem he).1
    simp only [List.mem_cons, List.not_mem_nil, or_false, Prod.mk.injEq] at h1
    rcases h1 with ⟨h1, h2⟩ | ⟨h1, h2⟩ <;> exact ⟨_, _, h1, h2, by decide⟩
  rw [← he44]
  refine wpS_loopS (ι := List Nat × List (AV × AV) × Nat) (fun _ => [(0, .map S.length g), (26, .ptr (S.length + 2) (nx + 1) 0)]) (fun s => ⟨S ++ [(g, .map s.2.1), (nx, .emap es43 cl40), (nx + 1, .iter (S.length + 1) (nx) cl40 s.1 cl40)], s.2.2⟩)
    (fun s => (es43.filter fun x => !s.1.contains x.2.2).length) (fun s => TabM s.2.1) ([], L31, nx + 2) t36 (Sim.of_le (Env.le_of (by simp)) (Mem.le_of rfl (by simp [take_part]))) ?_
  rintro ⟨seen47, L48, n49⟩ t50
  simp only at t50
  simp [ha45]
  refine next_split ?_ (fun e he hp => ?_)
  rotate_left
  · obtain ⟨e', he', hf⟩ := find_born he
    obtain ⟨s, x, hs, hx, hne⟩ := hk46 e' he'
    obtain ⟨L', u', t', f', g'⟩ := upd_tab s (rowA 1 2 (.fn 118 [.ptr (S.length + 3) (n49) 0]) (.fn 121 [])) t50.1
    simp only [rowA] at u'
    have t'' : TabM L' := ⟨t', by rw [g' _ (Ne.symm hne)]; exact t50.2⟩
    
    have one : Value.nilFunc.oneCell' = true := rfl
    simp [hf, hs, hx, isKey, u', one]
    exact ⟨seen47 ++ [e.2.2], L', t'', n49 + 1, by simpa using unseen_less he (by simpa using hp), Sim.of_le (Env.le_of (by simp)) (Mem.le_of rfl (by simp [take_part]))⟩
  have m51 : updA (.str ⟨#[72, 73, 71, 72]⟩) (.fn 123 []) [] = some [(.str ⟨#[72, 73, 71, 72]⟩, .fn 123 [])] := upd_lit (ss := []) (by decide)
  have m52 : updA (.str ⟨#[76, 79, 87]⟩) (.fn 124 []) [(.str ⟨#[72, 73, 71, 72]⟩, .fn 123 [])] = some [(.str ⟨#[72, 73, 71, 72]⟩, .fn 123 []), (.str ⟨#[76, 79, 87]⟩, .fn 124 [])] := upd_lit (ss := [(⟨#[72, 73, 71, 72]⟩, .fn 123 [])]) (by decide)
  simp [isKey, m51, m52]
  intro bs53 cl54 hb55 hl56
  obtain ⟨es57, he58⟩ : ∃ es, es = zipB [(AV.str ⟨#[72, 73, 71, 72]⟩, AV.fn 123 []), (AV.str ⟨#[76, 79, 87]⟩, AV.fn 124 [])] bs53 := ⟨_, rfl⟩
  have ha59 : es57.all (fun e => e.2.2 < cl54) = true := by rw [he58]; exact born_all hb55
  have hk60 : ∀ e ∈ es57, ∃ s x, e.1 = .str s ∧ e.2.1 = .fn x [] ∧ s ≠ nameM := by
    intro e he
    rw [he58] at he
    have h1 := (zipB_mem he).1
    simp only [List.mem_cons, List.not_mem_nil, or_false, Prod.mk.injEq] at h1
    rcases h1 with ⟨h1, h2⟩ | ⟨h1, h2⟩ <;> exact ⟨_, _, h1, h2, by decide⟩
  rw [← he58]
  refine wpS_loopS (ι := List Nat × List (AV × AV) × Nat) (fun _ => [(0, .map S.length g), (38, .ptr (S.length + 4) (n49 + 1) 0)]) (fun s => ⟨S ++ [(g, .map s.2.1), (nx, .emap es43 cl40), (nx + 1, .iter (S.length + 1) (nx) cl40 seen47 cl40), (n49, .emap es57 cl54), (n49 + 1, .iter (S.length + 3) (n49) cl54 s.1 cl54)], s.2.2⟩)
    (fun s => (es57.filter fun x => !s.1.contains x.2.2).length) (fun s => TabM s.2.1) ([], L48, n49 + 2) t50 (Sim.of_le (Env.le_of (by simp)) (Mem.le_of rfl (by simp [take_part]))) ?_
  rintro ⟨seen61, L62, n63⟩ t64
  simp only at t64
  simp [ha59]
  refine next_split ?_ (fun e he hp => ?_)
  rotate_left
  · obtain ⟨e', he', hf⟩ := find_born he
    obtain ⟨s, x, hs, hx, hne⟩ := hk60 e' he'
    obtain ⟨L', u', t', f', g'⟩ := upd_tab s (rowA 1 1 (.fn 125 []) (.fn 126 [.ptr (S.length + 5) (n63) 0])) t64.1
    simp only [rowA] at u'
    have t'' : TabM L' := ⟨t', by rw [g' _ (Ne.symm hne)]; exact t64.2⟩
    
    have one : Value.nilFunc.oneCell' = true := rfl
    simp [hf, hs, hx, isKey, u', one]
    exact ⟨seen61 ++ [e.2.2], L', t'', n63 + 1, by simpa using unseen_less he (by simpa using hp), Sim.of_le (Env.le_of (by simp)) (Mem.le_of rfl (by simp [take_part]))⟩
  simp [cr46]
  exact ⟨⟨S ++ [(g, .map L62)], _⟩, Mem.le_of rfl (by simp [take_part]), _, ⟨_, rfl⟩, t64⟩
end Go.Pm

/- BkM3: contracts: the table; numbers from 0 on. -/
namespace Go.Pm
open Go Go.Proofs
attribute [-simp] List.getElem?_map
attribute [simp] nilCheckA postA_norm
theorem call27 {S : List (Nat × AObj)} {nx : Nat} : ACalls Bk.pg 27 [] ⟨S, nx⟩ fun out m' => out = .ret (.map S.length nx) ∧ ∃ L' nx', m' = ⟨S ++ [(nx, .map L')], nx'⟩ ∧ TabM L' := by
  refine ok27.acalls (by simp) ?_
  have h0 : TabK [] := fun e he => by cases he
  simp [c27]
  refine xcall_r (call44 (S := S) (g := nx) (nx := nx + 1) h0) ?_ ?_
  · rintro v m' ⟨hv, L1, n1, rfl, h1⟩
    cases hv
    simp
    refine xcall_r (call45 (S := S) (g := nx) (nx := n1) h1) ?_ ?_
    · rintro v m' ⟨hv, L2, n2, rfl, h2⟩
      cases hv
      simp
      refine xcall_r (call46 (S := S) (g := nx) (nx := n2) h2) ?_ ?_
      · rintro v m' ⟨hv, L3, n3, rfl, h3⟩
        cases hv
        simp [cr27, postA_ret]
        exact h3
      · rintro v m' ⟨hv, _⟩
        cases hv
    · rintro v m' ⟨hv, _⟩
      cases hv
  · rintro v m' ⟨hv, _⟩
    cases hv
theorem call27P : PCalls Bk.pg 27 [] fun out => out = .ret (.kmap nameM (.agg rowM)) := by
  refine pcalls_of_acalls 1 (ACalls.keepMap (s := nameM) (v := .agg rowM) ((call27 (S := []) (nx := 0)).mono ?_))
  rintro out m' ⟨rfl, L', nx', rfl, h1, h2⟩
  exact ⟨0, 0, L', rfl, rfl, h2, _, rfl, rfl⟩
theorem call30 {n : Int} {m : Mem} : ACalls Bk.pg 30 [.int .i64 n] m fun out m' => out = .ret (.fn 47 [.ptr m.store.length m.next 0]) ∧ m' = m.new (.cells [.int .i64 n]) := by
  refine ok30.acalls (by simp) ?_
  simp [c30, cr30, postA_ret, Mem.new]
theorem call47 {pos gen p g n : Nat} {Inv : Nat → Mem → Prop} {m0 : Mem} (hn : n ≤ 1000)
    (hY : ∀ i m, i < n → Inv i m → YCalls Bk.pg pos gen [.int .i64 (i : Nat)] m fun out m' => out = .ret (.bool true) ∧ Inv (i + 1) m')
    (hc : m0.obj p g = some (.cells [.int .i64 (n : Nat)]))
    (h0 : Inv 0 m0) : ACalls Bk.pg 47 [.yield pos gen, .ptr p g 0] m0 fun out m' => out = .ret (.tuple []) ∧ Inv n m' := by
  refine ok47.acalls (by simp) ?_
  simp only [Mem.obj] at hc
  simp [c47, hc]
  refine wpS_loop (ι := Nat × Mem) (fun s => [(0, .yield pos gen), (1, .ptr p g 0), (4, .int .i64 (n : Nat)), (5, .int .i64 (s.1 : Nat))]) (fun s => s.2) (fun s => n - s.1) (fun s => s.1 ≤ n ∧ Inv s.1 s.2) (0, m0) ⟨Nat.zero_le _, h0⟩ (Env.le_of (by simp)) rfl ?_
  rintro ⟨i, m⟩ ⟨hi, hI⟩
  simp only at hi hI
  have hwi : IntKind.i64.wrap ((i : Int) + 1) = (i : Int) + 1 := wrap64 (by omega) (by omega)
  simp
  refine br_cond rfl (fun h1 => ?_) (fun h1 => ?_)
  · have hlt : i < n := by have := ltI_t.1 h1; omega
    simp
    refine ⟨pos, gen, _, ⟨⟨rfl, rfl⟩, rfl⟩, ycall_r (hY i m hlt hI) ?_ ?_⟩
    · rintro v m' ⟨hv, hI'⟩
      cases hv
      simp [hwi]
      exact ⟨i + 1, m', ⟨by omega, hI'⟩, by omega, Env.le_of (by simp), Mem.le_refl _⟩
    · rintro v m' ⟨hv, _⟩
      cases hv
  · have hk0 : i = n := by have := ltI_f.1 h1; omega
    subst hk0
    simp [cr47, postA_norm]
    exact hI
end Go.Pm

/- BkC20: contracts: what is done safely when a rest is asked for. -/
namespace Go.Pm
open Go Go.Proofs
attribute [-simp] List.getElem?_map
attribute [simp] nilCheckA postA_norm
def a26 : SC := (.ops [⟨(some 8), .plain .mv, [.tmp 38], none⟩] [])
def b26 : SC := (.block 1
     (.ops [⟨(some 39), .plain (.load false 1), [.tmp 2], none⟩,
       ⟨(some 40), .plain .mv, [.tmp 8], none⟩,
       ⟨(some 41), .plain (.indexAddr 6), [.tmp 39, .tmp 40], none⟩,
       ⟨(some 42), .plain (.load true 6), [.tmp 41], none⟩,
       ⟨(some 43), .call 31, [.tmp 42], none⟩,
       ⟨(some 44), .call 28, [.tmp 43, .lit (.int .i64 13)], none⟩] [39, 40, 41, 42, 43, 44]))
def a26b : SC := (.ops [⟨(some 9), .plain .mv, [.tmp 48], none⟩] [])
def b26b : SC := (.block 3
     (.draw (.step ⟨(some 49), .plain (.load false 1), [.tmp 1], none⟩
       (.step ⟨(some 50), .plain .mv, [.tmp 9], none⟩
       (.step ⟨(some 51), .plain (.indexAddr 4), [.tmp 49, .tmp 50], none⟩
       (.step ⟨(some 52), .plain (.load true 4), [.tmp 51], none⟩
       (.step ⟨(some 53), .call 32, [.tmp 52], none⟩
       (.step ⟨(some 54), .plain .mv, [.tmp 53], none⟩
       (.step ⟨(some 55), .plain (.load false 1), [.tmp 2], (some (54, true))⟩
       (.step ⟨(some 56), .plain .mv, [.tmp 9], (some (54, true))⟩
       (.step ⟨(some 57), .plain (.indexAddr 6), [.tmp 55, .tmp 56], (some (54, true))⟩
       (.step ⟨(some 58), .plain (.load true 6), [.tmp 57], (some (54, true))⟩
       (.step ⟨(some 59), .plain (.load false 1), [.tmp 1], (some (54, true))⟩
       (.step ⟨(some 60), .plain .mv, [.tmp 9], (some (54, true))⟩
       (.step ⟨(some 61), .plain (.indexAddr 4), [.tmp 59, .tmp 60], (some (54, true))⟩
       (.step ⟨(some 62), .plain (.load true 4), [.tmp 61], (some (54, true))⟩
       (.step ⟨(some 63), .call 33, [.tmp 58, .tmp 62], (some (54, true))⟩
       (.step ⟨(some 64), .plain .pick, [.tmp 54, .tmp 63, .lit (.bool false)], none⟩
       (.step ⟨(some 65), .call 28, [.tmp 64, .lit (.int .i64 1)], none⟩
       .done))))))))))))))))) [49, 50, 51, 52, 53, 54, 55, 56, 57, 58, 59, 60, 61, 62, 63, 64, 65]))
def e26 : Env := [(0, .ptr 0 0 0), (1, .ptr 1 1 0), (2, .ptr 2 2 0), (3, .ptr 3 3 0), (4, .ptr 5 5 0), (5, .ptr 4 4 0), (6, .ptr 7 7 0), (37, .fn 47 [.ptr 8 8 0])]
def e26b : Env := [(0, .ptr 0 0 0), (1, .ptr 1 1 0), (2, .ptr 2 2 0), (3, .ptr 3 3 0), (4, .ptr 5 5 0), (5, .ptr 4 4 0), (6, .ptr 7 7 0), (47, .fn 47 [.ptr 10 10 0])]
def ok26r : Loop → Prop := loopOk Bk.pg.toProgram Bk.imp [38] a26 b26
def ok26s : Loop → Prop := loopOk Bk.pg.toProgram Bk.imp [48] a26b b26b
def m26 (k p q n0 n1 p2 q2 : Int) : List (Nat × AObj) :=
  [(0, .cells [.str nameM]), (1, .cells [.list true 4 [vlN k n0 q, vlN k n1 q]]), (2, .cells [.list true 6 [tyN k p q, tyN k p q]]), (3, .cells (tyN k p2 q2)), (4, .cells (vl 0 0 0 ⟨#[]⟩)), (5, .cells (rz 0)), (6, .cells [.int .i64 0]), (7, .cells rowM), (8, .cells [.int .i64 2])]
theorem round26 {k p q n0 n1 p2 q2 : Int} {i : Nat} (h : ValidN k p q) (hi : i < 2) :
    YCalls Bk.pg 9 9 [.int .i64 (i : Nat)] ⟨m26 k p q n0 n1 p2 q2 ++ [(9, .loop .ready e26 ok26r)], 10⟩ fun out m' => out = .ret (.bool true) ∧ m' = ⟨m26 k p q n0 n1 p2 q2 ++ [(9, .loop .ready e26 ok26r)], 10⟩ := by
  refine ycalls_S (ps := [38]) (a := a26) (b := b26) (e := e26) rfl rfl ?_
  rw [show loopOk Bk.pg.toProgram Bk.imp [38] a26 b26 = ok26r from rfl]
  have c1 := call31 h.1 h.2
  have hlt : ltI (i : Int) 2 = true := ltI_t.2 (by omega)
  have ht : ([tyN k p q, tyN k p q] : List (List AV))[i]? = some (tyN k p q) := by
    have : i = 0 ∨ i = 1 := by omega
    rcases this with rfl | rfl <;> rfl
  simp only [tyN, ty] at c1 ht
  simp [a26, b26, Env.sets, e26, m26, hlt, tyN, ty, ht]
  refine xcall_p c1 (by simp) ?_
  simp
  refine xcall_p (call28 (e := 13)) (by simp) ?_
  simp
  exact ⟨rfl, _, Mem.le_refl _, rfl, rfl⟩
theorem round26b {k p q n0 n1 p2 q2 : Int} {i : Nat} (h0 : HasN k p q n0) (h1 : HasN k p q n1) (hi : i < 2) :
    YCalls Bk.pg 11 11 [.int .i64 (i : Nat)] ⟨m26 k p q n0 n1 p2 q2 ++ [(9, .hole), (10, .cells [.int .i64 2]), (11, .loop .ready e26b ok26s)], 12⟩ fun out m' => out = .ret (.bool true) ∧ m' = ⟨m26 k p q n0 n1 p2 q2 ++ [(9, .hole), (10, .cells [.int .i64 2]), (11, .loop .ready e26b ok26s)], 12⟩ := by
  refine ycalls_S (ps := [48]) (a := a26b) (b := b26b) (e := e26b) rfl rfl ?_
  rw [show loopOk Bk.pg.toProgram Bk.imp [48] a26b b26b = ok26s from rfl]
  have hn : HasN k p q (if i = 0 then n0 else n1) := by split <;> assumption
  obtain ⟨a, ha⟩ : ∃ a, a = if i = 0 then n0 else n1 := ⟨_, rfl⟩
  rw [← ha] at hn
  have c1 := call32 hn.2.1
  have c2 := call33 hn
  have hlt : ltI (i : Int) 2 = true := ltI_t.2 (by omega)
  have ht : ([tyN k p q, tyN k p q] : List (List AV))[i]? = some (tyN k p q) := by
    have : i = 0 ∨ i = 1 := by omega
    rcases this with rfl | rfl <;> rfl
  have hv : ([vlN k n0 q, vlN k n1 q] : List (List AV))[i]? = some (vlN k a q) := by
    have : i = 0 ∨ i = 1 := by omega
    rcases this with rfl | rfl <;> rw [ha] <;> rfl
  simp only [tyN, ty, vlN, vl] at c1 c2 ht hv
  simp [a26b, b26b, Env.sets, e26b, m26, hlt, tyN, ty, vlN, vl, ht, hv]
  refine xdcall_p rfl c1 (by simp) ?_
  simp [hlt, ht, hv]
  refine xdcall_p rfl c2 (by simp) ?_
  simp
  refine xdcall_p rfl (call28 (e := 1)) (by simp) ?_
  simp
  exact ⟨rfl, _, Mem.le_refl _, rfl, rfl⟩
set_option maxHeartbeats 4000000 in
theorem call26 {k n0 n1 : Int} {p q p2 q2 : Nat} (h0 : HasN k p q n0) (h1 : HasN k p q n1) (hv : ValidN k p2 q2) :
    ACalls Bk.pg 26 [.ptr 0 0 0, .ptr 1 1 0, .ptr 2 2 0, .ptr 3 3 0, .ptr 5 5 0, .ptr 4 4 0] ⟨(m26 k p q n0 n1 p2 q2).take 7, 7⟩ fun out m' => out = .ret (.tuple []) ∧
      ∃ nx', m' = ⟨[(0, .cells [.str nameM]), (1, .cells [.list true 4 [vlN k n0 q, vlN k n1 q]]), (2, .cells [.list true 6 [tyN k p q, tyN k p q]]), (3, .cells (tyN k p2 q2)), (4, .cells (vlN k (modV k n0 q n1 k p2 q2) q2)), (5, .cells (rz (modC k n0 q n1 k p2 q2))), (6, .cells [.int .i64 0])], nx'⟩ := by
  refine ACalls.forget (ok26.acalls (by simp) ?_)
  have z22 : leI 2 2 = true := rfl
  have zz : eqI 2 2 = true := rfl
  have zk : eqI k k = true := eqI_t.2 rfl
  have one : Value.nilFunc.oneCell' = true := rfl
  have c27 := call27P
  have c34 := call34 h0.1
  have c31 := call31 hv.1 hv.2
  have c76 := fun (S : List (Nat × AObj)) (nx : Nat) (hS : S[5]? = some (5, .cells (rz 0))) => call76 (S := S) (nx := nx) (rp := 5) (rg := 5) h0 h1 hv hS
  simp only [rowM, tyN, ty, vlN, vl, rz, callG] at c27 c34 c31 c76 ⊢
  simp [c26, m26, List.take, rz, vl, tyN, ty, vlN]
  refine xdcall_p rfl c27 (by simp) ?_
  simp [isKey, lookA, beqB_t, one]
  refine xcall_p (call28 (e := 5)) (by simp) ?_
  simp
  refine xcall_p (call29 (n := 2) (lo := 2) (hi := 2) ⟨by omega, by omega⟩) (by simp) ?_
  simp [zz]
  refine xcall_p (call28 (e := 11)) (by simp) ?_
  simp
  refine xcall_a call30 ?_
  simp
  refine wpS_rangeS e26 ⟨m26 k p q n0 n1 p2 q2, 9⟩ (Sim.of_le (Env.le_of (by simp [e26])) (Mem.le_of rfl (by simp [m26, rowM, rz, vl, tyN, ty, vlN]))) rfl
    (call47 (pos := 9) (gen := 9) (p := 8) (g := 8) (n := 2) (Inv := fun _ m => m = ⟨m26 k p q n0 n1 p2 q2 ++ [(9, .loop .ready e26 ok26r)], 10⟩) (by omega) ?hY ?hc ?h0) ?hr ?hp
  case hY =>
    rintro i m hi rfl
    exact round26 h0.1 hi
  case hc => rfl
  case h0 => rfl
  case hp =>
    rintro v m' ⟨hv', _⟩
    cases hv'
  case hr =>
    rintro v m' ⟨hv', rfl⟩
    refine ⟨.ready, e26, ok26r, rfl, ?_⟩
    simp [e26, m26]
    refine xcall_a call30 ?_
    simp
    refine wpS_rangeS e26b ⟨m26 k p q n0 n1 p2 q2 ++ [(9, .hole), (10, .cells [.int .i64 2])], 11⟩ (Sim.of_le (Env.le_of (by simp [e26b])) (Mem.le_of rfl (by simp [m26]))) rfl
      (call47 (pos := 11) (gen := 11) (p := 10) (g := 10) (n := 2) (Inv := fun _ m => m = ⟨m26 k p q n0 n1 p2 q2 ++ [(9, .hole), (10, .cells [.int .i64 2]), (11, .loop .ready e26b ok26s)], 12⟩) (by omega) ?hY2 ?hc2 ?h02) ?hr2 ?hp2
    case hY2 =>
      rintro i m hi rfl
      exact round26b h0 h1 hi
    case hc2 => rfl
    case h02 => rfl
    case hp2 =>
      rintro v m' ⟨hv', _⟩
      cases hv'
    case hr2 =>
      rintro v m' ⟨hv', rfl⟩
      refine ⟨.ready, e26b, ok26s, rfl, ?_⟩
      simp [e26b, m26, rowM, tyN, ty, vlN, vl, rz]
      refine xcall_p c34 (by simp) ?_
      simp
      refine xcall_p c31 (by simp) ?_
      simp
      refine xcall_p (call28 (e := 13)) (by simp) ?_
      simp [zk]
      refine xcall_p (call28 (e := 10)) (by simp) ?_
      simp [one]
      refine xcall_r (c76 _ _ rfl) ?_ ?_
      · rintro v m' ⟨hv', nx', rfl⟩
        cases hv'
        simp [cr26]
        refine ⟨⟨_, nx'⟩, ?_, nx', rfl⟩
        exact Mem.le_of rfl (by simp)
      · rintro v m' ⟨hv', _⟩
        cases hv'
end Go.Pm

/- BkC21: contracts: a rest, asked for by its name. -/
namespace Go.Pm
open Go Go.Proofs
attribute [-simp] List.getElem?_map
attribute [simp] nilCheckA postA_norm
theorem VRs_repl {σ σ' : Sig} {K K' : Bool → Nat → Prop} {w : World} {x y : AV} {post : List AV} (hp : σ <+: σ') (hK : ∀ p b, K p b → K' p b) (h : ∀ u, VR σ K w x u → VR σ' K' w y u) : ∀ {pre : List AV} {us : List Value}, VRs σ K w (pre ++ x :: post) us → VRs σ' K' w (pre ++ y :: post) us
  | [], us, hv => by
    rw [List.nil_append, VRs] at hv ⊢
    obtain ⟨u, us', h1, h2, h3⟩ := hv
    exact ⟨u, us', h1, h u h2, VRs.mono hp hK (fun _ _ _ => rfl) _ _ h3⟩
  | z :: pre, us, hv => by
    rw [List.cons_append, VRs] at hv ⊢
    obtain ⟨u, us', h1, h2, h3⟩ := hv
    exact ⟨u, us', h1, VR.mono hp hK (fun _ _ _ => rfl) _ _ h2, VRs_repl hp hK h h3⟩
theorem ACalls.keepRow {P : Prg} {f : FuncId} (pre : List AV) {post : List AV} {pos g e sz n : Nat} {els : List (List AV)} {m : Mem} {R : AOut → Mem → Prop} (h : ACalls P f (pre ++ .list true sz (els.take n) :: post) (m.turn pos .hole) R) (hp : m.store[pos]? = some (g, .row e sz els)) (hn : n ≤ els.length) :
    ACalls P f (pre ++ .row pos g sz 0 n :: post) m R := by
  refine ⟨h.1, fun β K σ w vals hrel hv hβ => ?_⟩
  obtain ⟨K', hK, hrel', hc⟩ := hrel.keep hp
  refine (h.2 β K' _ w vals hrel' (VRs_repl (List.prefix_append _ _) hK (hc n hn) hv) hβ).mono ?_
  rintro e w' ⟨K2, σ2, m', out, i1, i2, i3, i4, i5, i6⟩
  exact ⟨K2, σ2, m', out, i1, i2, (List.prefix_append _ _).trans i3, fun p b hb => i4 p b (hK p b hb), fun p b hb => i5 p b (hK p b hb), i6⟩
theorem call9 {k n0 n1 : Int} {p q p2 q2 : Nat} (h0 : HasN k p q n0) (h1 : HasN k p q n1) (hv : ValidN k p2 q2) :
    PCalls Bk.pg 9 [.str nameM, .list true 4 [vlN k n0 q, vlN k n1 q], .list true 6 [tyN k p q, tyN k p q], .agg (tyN k p2 q2)] fun out => out = .ret (.tuple [.agg (vlN k (modV k n0 q n1 k p2 q2) q2), .agg (rz (modC k n0 q n1 k p2 q2)), .int .i64 0]) := by
  refine ok9.pcalls (by simp) ?_
  obtain ⟨V, hV⟩ : ∃ V, V = modV k n0 q n1 k p2 q2 := ⟨_, rfl⟩
  obtain ⟨C, hC⟩ : ∃ C, C = modC k n0 q n1 k p2 q2 := ⟨_, rfl⟩
  have c26 := call26 h0 h1 hv
  rw [← hV, ← hC] at c26 ⊢
  have c25 := call25 (f := 26) (caps := [.ptr 0 0 0, .ptr 1 1 0, .ptr 2 2 0, .ptr 3 3 0, .ptr 5 5 0, .ptr 4 4 0]) (S := (m26 k p q n0 n1 p2 q2).take 6) (nx := 6)
    (Q := fun S' => S' = [(0, .cells [.str nameM]), (1, .cells [.list true 4 [vlN k n0 q, vlN k n1 q]]), (2, .cells [.list true 6 [tyN k p q, tyN k p q]]), (3, .cells (tyN k p2 q2)), (4, .cells (vlN k V q2)), (5, .cells (rz C))])
    (c26.mono fun out m' ⟨ho, nx', hm⟩ => ⟨ho, [(0, .cells [.str nameM]), (1, .cells [.list true 4 [vlN k n0 q, vlN k n1 q]]), (2, .cells [.list true 6 [tyN k p q, tyN k p q]]), (3, .cells (tyN k p2 q2)), (4, .cells (vlN k V q2)), (5, .cells (rz C))], nx', hm, rfl, rfl⟩)
  have z : eqI 0 0 = true := rfl
  simp only [m26, List.take, rz, vl, tyN, ty, vlN] at c25 ⊢
  simp [c9]
  refine xcall_r c25 ?_ ?_
  · rintro v m' ⟨hv', S', nx', rfl, rfl⟩
    cases hv'
    simp [z, cr9]
  · rintro v m' ⟨hv', _⟩
    cases hv'
end Go.Pm

/- BkL1: plain: what a rest is. -/
namespace Go.Pm
open Go Go.Proofs
def restN (a b : Int) : Nat := if 0 < a.natAbs % b.natAbs ∧ (decide (a < 0) != decide (b < 0)) = true then b.natAbs - a.natAbs % b.natAbs else a.natAbs % b.natAbs
theorem digs_len_pos (n : Nat) : ltI 0 ↑(digs n).length = decide (0 < n) := by
  rcases Nat.eq_zero_or_pos n with rfl | h
  · rw [digs_zero]; rfl
  · rw [digs_pos h, List.length_cons]
    have h1 : decide (0 < n) = true := decide_eq_true h
    rw [h1]
    exact ltI_t.2 (by omega)
theorem modR_rest (a b : Int) : modR a.natAbs b.natAbs a b = restN a b := by
  unfold modR restN
  rw [digs_len_pos]
  by_cases h : 0 < a.natAbs % b.natAbs
  · simp [h]
  · simp [h]
theorem rest_lt {a b : Int} (hb : b ≠ 0) : restN a b < b.natAbs := by
  have h : a.natAbs % b.natAbs < b.natAbs := Nat.mod_lt _ (by omega)
  unfold restN
  split <;> omega
theorem exN_zero {k n : Int} : exN k n 0 = n.natAbs := by
  unfold exN
  split <;> simp
theorem modV_eq {k a b : Int} {p : Nat} (hk : k = 1 ∨ k = 2) (hb : b ≠ 0) (hp : b.natAbs ≤ if k = 1 then 2 ^ p else 10 ^ p) :
    modV k a ((0 : Nat) : Int) b k p 0 = sgn (decide (b < 0)) (restN a b) ∧ modC k a ((0 : Nat) : Int) b k p 0 = 0 := by
  have hz : eqI b 0 = false := by
    cases h : eqI b 0 with
    | false => rfl
    | true => exact absurd (eqI_t.1 h) hb
  have hE : modE ((0 : Nat) : Int) ((0 : Nat) : Int) = 0 := by decide
  have hX : modX k a ((0 : Nat) : Int) ((0 : Nat) : Int) = a.natAbs := by
    unfold modX
    rw [hE, show ((0 : Nat) : Int) = 0 from rfl, exN_zero]
    simp
  have hY : modY k b ((0 : Nat) : Int) ((0 : Nat) : Int) = b.natAbs := by
    unfold modY
    rw [hE, show ((0 : Nat) : Int) = 0 from rfl, exN_zero]
    simp
  have hM : ∀ R : Nat, fixM k 0 R 0 = R := by
    intro R
    rcases hk with rfl | rfl
    · simp [fixM]
    · simp [fixM]
  have hR := rest_lt (a := a) hb
  unfold modV modC
  rw [hz, hX, hY, hE, modR_rest]
  simp only [Bool.false_eq_true, if_false]
  unfold fixN fixL
  rw [hM, Nat.mod_eq_of_lt (by omega)]
  refine ⟨rfl, ?_⟩
  rw [decide_eq_false (by omega)]
  rfl
end Go.Pm

/- BkC22: contracts: the law of rests. -/
namespace Go.Pm
open Go Go.Proofs
attribute [-simp] List.getElem?_map
attribute [simp] nilCheckA postA_norm
theorem call9R {k n0 n1 : Int} {p q p2 q2 : Nat} {pos1 g1 pos2 g2 e1 e2 : Nat} {m : Mem} (h0 : HasN k p q n0) (h1 : HasN k p q n1) (hv : ValidN k p2 q2)
    (hp1 : m.store[pos1]? = some (g1, .row e1 4 [vlN k n0 q, vlN k n1 q])) (hp2 : m.store[pos2]? = some (g2, .row e2 6 [tyN k p q, tyN k p q])) (hne : pos1 ≠ pos2) :
    ACalls Bk.pg 9 [.str nameM, .row pos1 g1 4 0 2, .row pos2 g2 6 0 2, .agg (tyN k p2 q2)] m fun out m' => out = .ret (.tuple [.agg (vlN k (modV k n0 q n1 k p2 q2) q2), .agg (rz (modC k n0 q n1 k p2 q2)), .int .i64 0]) ∧ m' = (m.turn pos1 .hole).turn pos2 .hole := by
  refine ACalls.keepRow [.str nameM] (e := e1) (els := [vlN k n0 q, vlN k n1 q]) ?_ hp1 (by simp)
  refine ACalls.keepRow [.str nameM, .list true 4 [vlN k n0 q, vlN k n1 q]] (e := e2) (els := [tyN k p q, tyN k p q]) ?_ (by simp only [Mem.turn]; rw [List.getElem?_set_ne hne]; exact hp2) (by simp)
  exact (call9 h0 h1 hv).acalls (by simp [vlN, vl, tyN, ty])
theorem has7 : HasN 2 (15 : Nat) (0 : Nat) (-7) := ⟨⟨.inr ⟨rfl, by omega, by omega⟩, by omega, by omega⟩, ⟨.inr ⟨rfl, by omega, by omega⟩, by omega, by omega⟩, (fun h => absurd h (by decide)), (fun _ => by decide)⟩
theorem has3 : HasN 2 (15 : Nat) (0 : Nat) 3 := ⟨⟨.inr ⟨rfl, by omega, by omega⟩, by omega, by omega⟩, ⟨.inr ⟨rfl, by omega, by omega⟩, by omega, by omega⟩, (fun h => absurd h (by decide)), (fun _ => by decide)⟩
theorem call8 : PCalls Bk.pg 8 [] fun out => out = .ret (.bool true) := by
  refine ok8.pcalls (by simp) ?_
  obtain ⟨e1, e2⟩ := modV_eq (k := 2) (a := -7) (b := 3) (p := 15) (.inr rfl) (by decide) (by decide)
  have e3 : sgn (decide ((3 : Int) < 0)) (restN (-7) 3) = 2 := by decide
  rw [e3] at e1
  have c9 := fun (m : Mem) h1 h2 => call9R (m := m) (pos1 := 0) (g1 := 0) (pos2 := 1) (g2 := 1) (e1 := 24) (e2 := 32) has7 has3 has3.1 h1 h2 (by decide)
  rw [e1, e2] at c9
  have c24 := call24
  have z : eqI 0 0 = true := rfl
  have z2 : eqI 2 2 = true := rfl
  have zs : ((⟨#[]⟩ : ByteArray) == ⟨#[]⟩) = true := by decide
  simp only [tyN, ty, vlN, vl, rz, nameM] at c9 c24
  simp [c8]
  refine xcall_p c24 (by simp) ?_
  simp
  refine xcall_p c24 (by simp) ?_
  simp
  refine xcall_p c24 (by simp) ?_
  simp
  refine xcall_a (c9 _ rfl rfl) ?_
  simp [z, z2, zs, scalarsEq, scalarEq, cr8]
end Go.Pm

/- BkT1: the table of built-in functions: what of all its rows is known. -/
namespace Go.Pm
open Go Go.Proofs
attribute [-simp] List.getElem?_map
attribute [simp] nilCheckA postA_norm
abbrev RKey := Int × Int × Option ((FuncId × List AV) × (FuncId × List AV))
def RK : Option RKey → Option (Option AV) → Prop
  | none, r => r = some none
  | some (a, b, none), r => ∃ f cs g ds, r = some (some (rowA a b (.fn f cs) (.fn g ds)))
  | some (a, b, some ((f, cs), (g, ds))), r => r = some (some (rowA a b (.fn f cs) (.fn g ds)))
def lkF : List (ByteArray × RKey) → ByteArray → Option RKey
  | [], _ => none
  | (k', r) :: l, k => if k = k' then some r else lkF l k
def TabN (l : List (ByteArray × RKey)) (L : List (AV × AV)) : Prop := TabK L ∧ (L.map Prod.fst).Nodup ∧ ∀ k, RK (lkF l k) (findA (.str k) L)
def TabI (items l : List (ByteArray × RKey)) (es : List (AV × AV × Nat)) (seen : List Nat) (L : List (AV × AV)) : Prop :=
  TabK L ∧ (L.map Prod.fst).Nodup ∧ (∀ k, lkF items k = none → RK (lkF l k) (findA (.str k) L)) ∧ ∀ e ∈ es, e.2.2 ∈ seen → ∃ s r, e.1 = .str s ∧ lkF items s = some r ∧ RK (some r) (findA (.str s) L)
theorem lkF_app (l' : List (ByteArray × RKey)) (k : ByteArray) : ∀ l, lkF (l ++ l') k = match lkF l k with | some r => some r | none => lkF l' k
  | [] => rfl
  | (k', r) :: l => by
    rw [List.cons_append, lkF, lkF]
    split
    · rfl
    · exact lkF_app l' k l
theorem lkF_mem {k : ByteArray} {r : RKey} : ∀ {l : List (ByteArray × RKey)}, lkF l k = some r → k ∈ l.map Prod.fst
  | [], h => by cases h
  | (k', r') :: l, h => by
    rw [lkF] at h
    rw [List.map_cons]
    split at h
    · rename_i hk
      rw [hk]; exact List.mem_cons_self
    · exact List.mem_cons_of_mem _ (lkF_mem h)
theorem tabN_nil : TabN [] [] := ⟨fun e he => (by cases he), List.nodup_nil, fun k => rfl⟩
theorem upd_keys (k : ByteArray) (v : AV) : ∀ {L L' : List (AV × AV)}, TabK L → updA (.str k) v L = some L' → ∀ e ∈ L', e.1 = .str k ∨ e.1 ∈ L.map Prod.fst
  | [], L', _, h, e, he => by
    simp only [updA, Option.some.injEq] at h
    subst h
    rw [List.mem_singleton.1 he]; exact .inl rfl
  | (a, b) :: L, L', hT, h, e, he => by
    obtain ⟨s, hs⟩ := hT (a, b) (by simp)
    simp only at hs
    subst hs
    by_cases hk : k = s
    · subst hk
      simp only [updA, keyEq, beqB_t, Option.some.injEq] at h
      subst h
      rcases List.mem_cons.1 he with rfl | he
      · exact .inl rfl
      · exact .inr (by simp; exact .inr ⟨_, he⟩)
    · simp only [updA, keyEq, beqB_f hk, Option.map_eq_some_iff] at h
      obtain ⟨L2, h2, rfl⟩ := h
      rcases List.mem_cons.1 he with rfl | he
      · exact .inr (by simp)
      · rcases upd_keys k v (fun e he => hT e (by simp [he])) h2 e he with h | h
        · exact .inl h
        · exact .inr (by rw [List.map_cons]; exact List.mem_cons_of_mem _ h)
theorem upd_nodup (k : ByteArray) (v : AV) : ∀ {L L' : List (AV × AV)}, TabK L → (L.map Prod.fst).Nodup → updA (.str k) v L = some L' → (L'.map Prod.fst).Nodup
  | [], L', _, _, h => by
    simp only [updA, Option.some.injEq] at h
    subst h
    simp
  | (a, b) :: L, L', hT, hn, h => by
    obtain ⟨s, hs⟩ := hT (a, b) (by simp)
    simp only at hs
    subst hs
    rw [List.map_cons, List.nodup_cons] at hn
    by_cases hk : k = s
    · subst hk
      simp only [updA, keyEq, beqB_t, Option.some.injEq] at h
      subst h
      rw [List.map_cons, List.nodup_cons]
      exact hn
    · simp only [updA, keyEq, beqB_f hk, Option.map_eq_some_iff] at h
      obtain ⟨L2, h2, rfl⟩ := h
      have hT2 : TabK L := fun e he => hT e (by simp [he])
      rw [List.map_cons, List.nodup_cons]
      refine ⟨fun hm => ?_, upd_nodup k v hT2 hn.2 h2⟩
      obtain ⟨e, he, hs⟩ := List.mem_map.1 hm
      rcases upd_keys k v hT2 h2 e he with h | h
      · rw [hs] at h
        injection h with h
        exact hk h.symm
      · rw [hs] at h
        exact hn.1 h
theorem upd_tabN (k : ByteArray) (a b : Int) (f : FuncId) (cs : List AV) (g : FuncId) (ds : List AV) {l : List (ByteArray × RKey)} {L : List (AV × AV)} (h : TabN l L) :
    ∃ L', updA (.str k) (rowA a b (.fn f cs) (.fn g ds)) L = some L' ∧ TabN ((k, a, b, some ((f, cs), (g, ds))) :: l) L' := by
  obtain ⟨L', h1, h2, h3, h4⟩ := upd_tab k (rowA a b (.fn f cs) (.fn g ds)) h.1
  refine ⟨L', h1, h2, upd_nodup k _ h.1 h.2.1 h1, fun k' => ?_⟩
  rw [lkF]
  split
  · rename_i hk
    subst hk
    exact h3
  · rename_i hk
    rw [h4 k' hk]
    exact h.2.2 k'
theorem upd_tabN0 (k : ByteArray) (a b : Int) (f : FuncId) (cs : List AV) (g : FuncId) (ds : List AV) {l : List (ByteArray × RKey)} {L : List (AV × AV)} (h : TabN l L) :
    ∃ L', updA (.str k) (rowA a b (.fn f cs) (.fn g ds)) L = some L' ∧ TabN ((k, a, b, none) :: l) L' := by
  obtain ⟨L', h1, h2, h3, h4⟩ := upd_tab k (rowA a b (.fn f cs) (.fn g ds)) h.1
  refine ⟨L', h1, h2, upd_nodup k _ h.1 h.2.1 h1, fun k' => ?_⟩
  rw [lkF]
  split
  · rename_i hk
    subst hk
    exact ⟨f, cs, g, ds, h3⟩
  · rename_i hk
    rw [h4 k' hk]
    exact h.2.2 k'
theorem tabI_start (items : List (ByteArray × RKey)) (es : List (AV × AV × Nat)) {l : List (ByteArray × RKey)} {L : List (AV × AV)} (h : TabN l L) : TabI items l es [] L :=
  ⟨h.1, h.2.1, fun k _ => h.2.2 k, fun e _ hs => by cases hs⟩
theorem tabI_step {items l : List (ByteArray × RKey)} {es : List (AV × AV × Nat)} {seen : List Nat} {L : List (AV × AV)} {e e' : AV × AV × Nat} {s : ByteArray} {a b : Int} (f : FuncId) (cs : List AV) (g : FuncId) (ds : List AV) {o : Option ((FuncId × List AV) × (FuncId × List AV))} (h : TabI items l es seen L)
    (hu : ∀ e1 ∈ es, e1.2.2 = e.2.2 → e1 = e') (hs : e'.1 = .str s) (hr : lkF items s = some (a, b, o)) (ho : o = none ∨ o = some ((f, cs), (g, ds))) :
    ∃ L', updA (.str s) (rowA a b (.fn f cs) (.fn g ds)) L = some L' ∧ TabI items l es (seen ++ [e.2.2]) L' := by
  obtain ⟨L', h1, h2, h3, h4⟩ := upd_tab s (rowA a b (.fn f cs) (.fn g ds)) h.1
  refine ⟨L', h1, h2, upd_nodup s _ h.1 h.2.1 h1, fun k hk => ?_, fun e1 he1 hm => ?_⟩
  · have hne : k ≠ s := fun e => by rw [e, hr] at hk; cases hk
    rw [h4 k hne]
    exact h.2.2.1 k hk
  · have key : ∀ t, e1.1 = .str t → (t = s ∨ (t ≠ s ∧ e1.2.2 ∈ seen)) → ∃ s' r, e1.1 = .str s' ∧ lkF items s' = some r ∧ RK (some r) (findA (.str s') L') := by
      intro t ht hc
      rcases hc with rfl | ⟨hne, hin⟩
      · rcases ho with rfl | rfl
        · exact ⟨t, _, ht, hr, f, cs, g, ds, h3⟩
        · exact ⟨t, _, ht, hr, h3⟩
      · obtain ⟨s', r, i1, i2, i3⟩ := h.2.2.2 e1 he1 hin
        rw [ht] at i1
        injection i1 with i1
        subst i1
        exact ⟨t, r, ht, i2, by rw [h4 t hne]; exact i3⟩
    rcases List.mem_append.1 hm with hm | hm
    · obtain ⟨s', r, i1, i2, i3⟩ := h.2.2.2 e1 he1 hm
      by_cases hss : s' = s
      · exact key s' i1 (.inl hss)
      · exact key s' i1 (.inr ⟨hss, hm⟩)
    · have := hu e1 he1 (List.mem_singleton.1 hm)
      subst this
      exact key s hs (.inl rfl)
theorem tabI_done {items l : List (ByteArray × RKey)} {es : List (AV × AV × Nat)} {seen : List Nat} {L : List (AV × AV)} (h : TabI items l es seen L) (hall : ∀ e ∈ es, e.2.2 ∈ seen) (hes : ∀ k r, lkF items k = some r → ∃ e ∈ es, e.1 = .str k) : TabN (items ++ l) L := by
  refine ⟨h.1, h.2.1, fun k => ?_⟩
  rw [lkF_app]
  cases hi : lkF items k with
  | none => exact h.2.2.1 k hi
  | some r =>
    obtain ⟨e, he, hk⟩ := hes k r hi
    obtain ⟨s, r', i1, i2, i3⟩ := h.2.2.2 e he (hall e he)
    rw [hk] at i1
    injection i1 with i1
    subst i1
    rw [hi] at i2
    injection i2 with i2
    subst i2
    exact i3
theorem zipB_births : ∀ {kv : List (AV × AV)} {bs : List Nat} {e : AV × AV × Nat}, e ∈ zipB kv bs → e.2.2 ∈ bs := fun h => (zipB_mem h).2
theorem zipB_uniq : ∀ {kv : List (AV × AV)} {bs : List Nat}, bs.Pairwise (· < ·) → ∀ e1 ∈ zipB kv bs, ∀ e2 ∈ zipB kv bs, e1.2.2 = e2.2.2 → e1 = e2
  | [], _, _, e1, h1, _, _, _ => by simp [zipB] at h1
  | _ :: _, [], _, e1, h1, _, _, _ => by simp [zipB] at h1
  | (k, v) :: kv, b :: bs, hp, e1, h1, e2, h2, he => by
    rw [List.pairwise_cons] at hp
    simp only [zipB] at h1 h2
    rcases List.mem_cons.1 h1 with rfl | h1 <;> rcases List.mem_cons.1 h2 with rfl | h2
    · rfl
    · have := hp.1 _ (zipB_births h2); simp only at he; omega
    · have := hp.1 _ (zipB_births h1); simp only at he; omega
    · exact zipB_uniq hp.2 e1 h1 e2 h2 he
theorem zipB_all : ∀ {kv : List (AV × AV)} {bs : List Nat}, bs.length = kv.length → ∀ k v, (k, v) ∈ kv → ∃ e ∈ zipB kv bs, e.1 = k
  | [], _, _, k, v, h => by cases h
  | _ :: _, [], hl, _, _, _ => by simp at hl
  | (k', v') :: kv, b :: bs, hl, k, v, h => by
    simp only [zipB]
    rcases List.mem_cons.1 h with h | h
    · injection h with h1 h2
      subst h1
      exact ⟨_, List.mem_cons_self, rfl⟩
    · obtain ⟨e, he, h2⟩ := zipB_all (kv := kv) (bs := bs) (by simpa using hl) k v h
      exact ⟨e, List.mem_cons_of_mem _ he, h2⟩
theorem find_born2 {es : List (AV × AV × Nat)} {e : AV × AV × Nat} (he : e ∈ es) (hu : ∀ e1 ∈ es, ∀ e2 ∈ es, e1.2.2 = e2.2.2 → e1 = e2) : es.find? (fun x => x.2.2 == e.2.2) = some e := by
  obtain ⟨e', h1, h2⟩ := find_born he
  have h3 := List.find?_some h2
  simp only [beq_iff_eq] at h3
  rw [h2, hu e' h1 e he h3]
theorem next_split2 {es : List (AV × AV × Nat)} {p p' : AV × AV × Nat → Bool} {f : AV × AV × Nat → AV × Mem} {m : Mem} {Q : AV → Mem → Prop} (h0 : (∀ e ∈ es, p e = false) → Q (.tuple [.bool false]) m) (h1 : ∀ e ∈ es, p' e = true → Q (f e).1 (f e).2) :
    AllN (if (es.filter p).isEmpty then [(.tuple [.bool false], m)] else (es.filter p').map f) Q := by
  split
  · rename_i he
    have he2 : ∀ e ∈ es, p e = false := by
      intro e hm
      have h2 := List.filter_eq_nil_iff.1 (List.isEmpty_iff.1 he) e hm
      simpa using h2
    exact AllN_iff.2 fun v m' hm => by
      rcases List.mem_singleton.1 hm with h
      injection h with h2 h3
      subst h2; subst h3; exact h0 he2
  · refine AllN_iff.2 fun v m' hm => ?_
    obtain ⟨e, he, hf⟩ := List.mem_map.1 hm
    obtain ⟨he1, he2⟩ := List.mem_filter.1 he
    have := h1 e he1 he2
    rw [hf] at this
    exact this
theorem keep_round {e : Env} {S X : List (Nat × AObj)} {g gc nx pos' : Nat} {k a b c : AV} {f : FuncId} {vs : List AV} {L L1 L2 : List (AV × AV)}
    (h1 : updA k (.agg [a, b, c, .fn f [.ptr pos' gc 0]]) L = some L1) (h2 : updA k (.agg [a, b, c, .fn f [.iptr true vs]]) L = some L2) :
    Sim e ⟨S ++ (g, .map L2) :: X, nx + 1⟩ e ⟨S ++ (g, .map L1) :: (X ++ [(gc, .cells vs)]), nx⟩ := by
  have e1 : (S ++ (g, AObj.map L1) :: (X ++ [(gc, .cells vs)]))[S.length + (X.length + 1)]? = some (gc, .cells vs) := by
    rw [List.getElem?_append_right (by omega)]
    simp
  have e2 : (S ++ (g, AObj.map L1) :: (X ++ [(gc, .cells vs)]))[S.length]? = some (g, .map L1) := by simp
  have hs := Sim.keepRow (e := e) (m := ⟨S ++ (g, .map L1) :: (X ++ [(gc, .cells vs)]), nx⟩) (pos := S.length + (X.length + 1)) (pm := S.length) e1 e2 (by omega) h1 h2
  refine Sim.trans ?_ hs
  refine Sim.of_le (Env.le_refl _) (Mem.le_of rfl ?_)
  simp [Mem.turn, Mem.put, List.set_append]
  rw [take_part, List.take_succ_cons, List.take_left]
end Go.Pm

/- BkT2: contracts: the table of built-in functions, all its rows. Printed by gentab2.py. -/
namespace Go.Pm
open Go Go.Proofs
attribute [-simp] List.getElem?_map
attribute [simp] nilCheckA postA_norm
def l44 (l : List (ByteArray × RKey)) : List (ByteArray × RKey) := [(⟨#[70, 73, 88, 69, 68]⟩, 1, 3, none), (⟨#[66, 73, 78, 65, 82, 89]⟩, 1, 3, none), (⟨#[68, 69, 67, 73, 77, 65, 76]⟩, 1, 3, none), (⟨#[70, 76, 79, 65, 84]⟩, 1, 2, none)] ++ ([(⟨#[65, 68, 68]⟩, 3, 4, none), (⟨#[83, 85, 66, 84, 82, 65, 67, 84]⟩, 3, 4, none), (⟨#[77, 85, 76, 84, 73, 80, 76, 89]⟩, 3, 4, none), (⟨#[68, 73, 86, 73, 68, 69]⟩, 3, 4, none)] ++ ([(⟨#[77, 65, 88]⟩, 1, 20, none), (⟨#[77, 73, 78]⟩, 1, 20, none)] ++ ((⟨#[77, 79, 68]⟩, 2, 2, some ((75, []), (76, []))) :: ((⟨#[82, 79, 85, 78, 68]⟩, 2, 2, some ((73, []), (74, []))) :: ([(⟨#[70, 76, 79, 79, 82]⟩, 1, 1, some ((70, []), (71, [.iptr true [.int .i64 (-1)]]))), (⟨#[67, 69, 73, 76]⟩, 1, 1, some ((70, []), (71, [.iptr true [.int .i64 1]]))), (⟨#[84, 82, 85, 78, 67]⟩, 1, 1, some ((70, []), (71, [.iptr true [.int .i64 0]])))] ++ ((⟨#[83, 73, 71, 78]⟩, 1, 1, some ((65, []), (68, []))) :: ((⟨#[65, 66, 83]⟩, 1, 1, some ((61, []), (62, []))) :: (l))))))))
set_option maxHeartbeats 16000000 in
theorem call44N {S : List (Nat × AObj)} {g nx : Nat} {l : List (ByteArray × RKey)} {L : List (AV × AV)} (hL : TabN l L) :
    ACalls Bk.pg 44 [.map S.length g] ⟨S ++ [(g, .map L)], nx⟩ fun out m' => out = .ret (.tuple []) ∧ ∃ L' nx', m' = ⟨S ++ [(g, .map L')], nx'⟩ ∧ TabN (l44 l) L' := by
  refine ACalls.forget (ok44.acalls (by simp) ?_)
  obtain ⟨L1, u2, t3⟩ := upd_tabN ⟨#[65, 66, 83]⟩ 1 1 61 [] 62 [] hL
  simp only [rowA] at u2
  obtain ⟨L4, u5, t6⟩ := upd_tabN ⟨#[83, 73, 71, 78]⟩ 1 1 65 [] 68 [] t3
  simp only [rowA] at u5
  have m7 : updA (.str ⟨#[70, 76, 79, 79, 82]⟩) (.int .i64 (-1)) [] = some [(.str ⟨#[70, 76, 79, 79, 82]⟩, .int .i64 (-1))] := upd_lit (ss := []) (by decide)
  have m8 : updA (.str ⟨#[67, 69, 73, 76]⟩) (.int .i64 1) [(.str ⟨#[70, 76, 79, 79, 82]⟩, .int .i64 (-1))] = some [(.str ⟨#[70, 76, 79, 79, 82]⟩, .int .i64 (-1)), (.str ⟨#[67, 69, 73, 76]⟩, .int .i64 1)] := upd_lit (ss := [(⟨#[70, 76, 79, 79, 82]⟩, .int .i64 (-1))]) (by decide)
  have m9 : updA (.str ⟨#[84, 82, 85, 78, 67]⟩) (.int .i64 0) [(.str ⟨#[70, 76, 79, 79, 82]⟩, .int .i64 (-1)), (.str ⟨#[67, 69, 73, 76]⟩, .int .i64 1)] = some [(.str ⟨#[70, 76, 79, 79, 82]⟩, .int .i64 (-1)), (.str ⟨#[67, 69, 73, 76]⟩, .int .i64 1), (.str ⟨#[84, 82, 85, 78, 67]⟩, .int .i64 0)] := upd_lit (ss := [(⟨#[70, 76, 79, 79, 82]⟩, .int .i64 (-1)), (⟨#[67, 69, 73, 76]⟩, .int .i64 1)]) (by decide)
  simp [c44, isKey, u2, u5, m7, m8, m9]
  intro bs10 cl11 hb12 hl13
  obtain ⟨es14, he15⟩ : ∃ es, es = zipB [(AV.str ⟨#[70, 76, 79, 79, 82]⟩, AV.int .i64 (-1)), (AV.str ⟨#[67, 69, 73, 76]⟩, AV.int .i64 1), (AV.str ⟨#[84, 82, 85, 78, 67]⟩, AV.int .i64 0)] bs10 := ⟨_, rfl⟩
  have ha16 : es14.all (fun e => e.2.2 < cl11) = true := by rw [he15]; exact born_all hb12
  have hu22 : ∀ e1 ∈ es14, ∀ e2 ∈ es14, e1.2.2 = e2.2.2 → e1 = e2 := by rw [he15]; exact zipB_uniq hb12.1
  have hx23 : ∀ k r, lkF [(⟨#[70, 76, 79, 79, 82]⟩, 1, 1, some ((70, []), (71, [.iptr true [.int .i64 (-1)]]))), (⟨#[67, 69, 73, 76]⟩, 1, 1, some ((70, []), (71, [.iptr true [.int .i64 1]]))), (⟨#[84, 82, 85, 78, 67]⟩, 1, 1, some ((70, []), (71, [.iptr true [.int .i64 0]])))] k = some r → ∃ e ∈ es14, e.1 = .str k := by
    intro k r hr
    have hk : (AV.str k) ∈ ([(AV.str ⟨#[70, 76, 79, 79, 82]⟩, AV.int .i64 (-1)), (AV.str ⟨#[67, 69, 73, 76]⟩, AV.int .i64 1), (AV.str ⟨#[84, 82, 85, 78, 67]⟩, AV.int .i64 0)]).map Prod.fst := List.mem_map_of_mem (f := AV.str) (lkF_mem hr)
    obtain ⟨e, he, hek⟩ := List.mem_map.1 hk
    rw [he15, ← hek]
    exact zipB_all (by simpa using hl13) _ _ he
  have hk17 : ∀ e ∈ es14, ∃ s x, e.1 = .str s ∧ e.2.1 = .int .i64 x ∧ lkF [(⟨#[70, 76, 79, 79, 82]⟩, 1, 1, some ((70, []), (71, [.iptr true [.int .i64 (-1)]]))), (⟨#[67, 69, 73, 76]⟩, 1, 1, some ((70, []), (71, [.iptr true [.int .i64 1]]))), (⟨#[84, 82, 85, 78, 67]⟩, 1, 1, some ((70, []), (71, [.iptr true [.int .i64 0]])))] s = some (1, 1, some ((70, []), (71, [.iptr true [(.int .i64 x)]]))) := by
    intro e he
    rw [he15] at he
    have h1 := (zipB_mem he).1
    simp only [List.mem_cons, List.not_mem_nil, or_false, Prod.mk.injEq] at h1
    rcases h1 with ⟨h1, h2⟩ | ⟨h1, h2⟩ | ⟨h1, h2⟩ <;> exact ⟨_, _, h1, h2, by first | rfl | simp [lkF]⟩
  rw [← he15]
  refine wpS_loopS (ι := List Nat × List (AV × AV) × Nat) (fun _ => [(0, .map S.length g), (17, .ptr (S.length + 2) (nx + 1) 0)]) (fun s => ⟨S ++ [(g, .map s.2.1), (nx, .emap es14 cl11), (nx + 1, .iter (S.length + 1) (nx) cl11 s.1 cl11)], s.2.2⟩)
    (fun s => (es14.filter fun x => !s.1.contains x.2.2).length) (fun s => TabI [(⟨#[70, 76, 79, 79, 82]⟩, 1, 1, some ((70, []), (71, [.iptr true [.int .i64 (-1)]]))), (⟨#[67, 69, 73, 76]⟩, 1, 1, some ((70, []), (71, [.iptr true [.int .i64 1]]))), (⟨#[84, 82, 85, 78, 67]⟩, 1, 1, some ((70, []), (71, [.iptr true [.int .i64 0]])))] ((⟨#[83, 73, 71, 78]⟩, 1, 1, some ((65, []), (68, []))) :: ((⟨#[65, 66, 83]⟩, 1, 1, some ((61, []), (62, []))) :: (l))) es14 s.1 s.2.1) ([], L4, nx + 2) (tabI_start _ _ t6) (Sim.of_le (Env.le_of (by simp)) (Mem.le_of rfl (by simp [take_part]))) ?_
  rintro ⟨seen18, L19, n20⟩ t21
  simp only at t21
  simp [ha16]
  refine next_split2 (fun hd => ?_) (fun e he hp => ?_)
  rotate_left
  · obtain ⟨s, x, hs, hx, hr⟩ := hk17 e he
    have hf := find_born2 he hu22
    obtain ⟨L', u', t'⟩ := tabI_step (e := e) 70 [] 71 [.iptr true [.int .i64 x]] t21 (fun e1 h1 h2 => hu22 e1 h1 e he h2) hs hr (.inr rfl)
    obtain ⟨L1, u1, _⟩ := upd_tab s (rowA 1 1 (.fn 70 []) (.fn 71 [.ptr (S.length + 3) (n20) 0])) t21.1
    simp only [rowA] at u' u1
    simp [hf, hs, hx, isKey, u1]
    refine ⟨seen18 ++ [e.2.2], L', t', n20 + 2, by simpa using unseen_less he (by simpa using hp), Sim.trans (Sim.of_le (Env.le_of (by simp)) (Mem.le_of rfl (by simp [take_part]))) (keep_round u1 u')⟩
  have t24 := tabI_done t21 (fun e he => by simpa using hd e he) hx23
  clear t21
  obtain ⟨L25, u26, t27⟩ := upd_tabN ⟨#[82, 79, 85, 78, 68]⟩ 2 2 73 [] 74 [] t24
  simp only [rowA] at u26
  obtain ⟨L28, u29, t30⟩ := upd_tabN ⟨#[77, 79, 68]⟩ 2 2 75 [] 76 [] t27
  simp only [rowA] at u29
  have m31 : updA (.str ⟨#[77, 65, 88]⟩) (.int .i64 1) [] = some [(.str ⟨#[77, 65, 88]⟩, .int .i64 1)] := upd_lit (ss := []) (by decide)
  have m32 : updA (.str ⟨#[77, 73, 78]⟩) (.int .i64 (-1)) [(.str ⟨#[77, 65, 88]⟩, .int .i64 1)] = some [(.str ⟨#[77, 65, 88]⟩, .int .i64 1), (.str ⟨#[77, 73, 78]⟩, .int .i64 (-1))] := upd_lit (ss := [(⟨#[77, 65, 88]⟩, .int .i64 1)]) (by decide)
  simp [isKey, u26, u29, m31, m32]
  intro bs33 cl34 hb35 hl36
  obtain ⟨es37, he38⟩ : ∃ es, es = zipB [(AV.str ⟨#[77, 65, 88]⟩, AV.int .i64 1), (AV.str ⟨#[77, 73, 78]⟩, AV.int .i64 (-1))] bs33 := ⟨_, rfl⟩
  have ha39 : es37.all (fun e => e.2.2 < cl34) = true := by rw [he38]; exact born_all hb35
  have hu45 : ∀ e1 ∈ es37, ∀ e2 ∈ es37, e1.2.2 = e2.2.2 → e1 = e2 := by rw [he38]; exact zipB_uniq hb35.1
  have hx46 : ∀ k r, lkF [(⟨#[77, 65, 88]⟩, 1, 20, none), (⟨#[77, 73, 78]⟩, 1, 20, none)] k = some r → ∃ e ∈ es37, e.1 = .str k := by
    intro k r hr
    have hk : (AV.str k) ∈ ([(AV.str ⟨#[77, 65, 88]⟩, AV.int .i64 1), (AV.str ⟨#[77, 73, 78]⟩, AV.int .i64 (-1))]).map Prod.fst := List.mem_map_of_mem (f := AV.str) (lkF_mem hr)
    obtain ⟨e, he, hek⟩ := List.mem_map.1 hk
    rw [he38, ← hek]
    exact zipB_all (by simpa using hl36) _ _ he
  have hk40 : ∀ e ∈ es37, ∃ s x, e.1 = .str s ∧ e.2.1 = .int .i64 x ∧ lkF [(⟨#[77, 65, 88]⟩, 1, 20, none), (⟨#[77, 73, 78]⟩, 1, 20, none)] s = some (1, 20, none) := by
    intro e he
    rw [he38] at he
    have h1 := (zipB_mem he).1
    simp only [List.mem_cons, List.not_mem_nil, or_false, Prod.mk.injEq] at h1
    rcases h1 with ⟨h1, h2⟩ | ⟨h1, h2⟩ <;> exact ⟨_, _, h1, h2, by first | rfl | simp [lkF]⟩
  rw [← he38]
  refine wpS_loopS (ι := List Nat × List (AV × AV) × Nat) (fun _ => [(0, .map S.length g), (33, .ptr (S.length + 4) (n20 + 1) 0)]) (fun s => ⟨S ++ [(g, .map s.2.1), (nx, .emap es14 cl11), (nx + 1, .iter (S.length + 1) (nx) cl11 seen18 cl11), (n20, .emap es37 cl34), (n20 + 1, .iter (S.length + 3) (n20) cl34 s.1 cl34)], s.2.2⟩)
    (fun s => (es37.filter fun x => !s.1.contains x.2.2).length) (fun s => TabI [(⟨#[77, 65, 88]⟩, 1, 20, none), (⟨#[77, 73, 78]⟩, 1, 20, none)] ((⟨#[77, 79, 68]⟩, 2, 2, some ((75, []), (76, []))) :: ((⟨#[82, 79, 85, 78, 68]⟩, 2, 2, some ((73, []), (74, []))) :: ([(⟨#[70, 76, 79, 79, 82]⟩, 1, 1, some ((70, []), (71, [.iptr true [.int .i64 (-1)]]))), (⟨#[67, 69, 73, 76]⟩, 1, 1, some ((70, []), (71, [.iptr true [.int .i64 1]]))), (⟨#[84, 82, 85, 78, 67]⟩, 1, 1, some ((70, []), (71, [.iptr true [.int .i64 0]])))] ++ ((⟨#[83, 73, 71, 78]⟩, 1, 1, some ((65, []), (68, []))) :: ((⟨#[65, 66, 83]⟩, 1, 1, some ((61, []), (62, []))) :: (l)))))) es37 s.1 s.2.1) ([], L28, n20 + 2) (tabI_start _ _ t30) (Sim.of_le (Env.le_of (by simp)) (Mem.le_of rfl (by simp [take_part]))) ?_
  rintro ⟨seen41, L42, n43⟩ t44
  simp only at t44
  simp [ha39]
  refine next_split2 (fun hd => ?_) (fun e he hp => ?_)
  rotate_left
  · obtain ⟨s, x, hs, hx, hr⟩ := hk40 e he
    have hf := find_born2 he hu45
    obtain ⟨L', u', t'⟩ := tabI_step (e := e) 75 [] 77 [.ptr (S.length + 5) (n43) 0] t44 (fun e1 h1 h2 => hu45 e1 h1 e he h2) hs hr (.inl rfl)
    simp only [rowA] at u'
    
    have one : Value.nilFunc.oneCell' = true := rfl
    simp [hf, hs, hx, isKey, u', one]
    exact ⟨seen41 ++ [e.2.2], L', t', n43 + 1, by simpa using unseen_less he (by simpa using hp), Sim.of_le (Env.le_of (by simp)) (Mem.le_of rfl (by simp [take_part]))⟩
  have t47 := tabI_done t44 (fun e he => by simpa using hd e he) hx46
  clear t44
  have m48 : updA (.str ⟨#[65, 68, 68]⟩) (.fn 79 []) [] = some [(.str ⟨#[65, 68, 68]⟩, .fn 79 [])] := upd_lit (ss := []) (by decide)
  have m49 : updA (.str ⟨#[83, 85, 66, 84, 82, 65, 67, 84]⟩) (.fn 80 []) [(.str ⟨#[65, 68, 68]⟩, .fn 79 [])] = some [(.str ⟨#[65, 68, 68]⟩, .fn 79 []), (.str ⟨#[83, 85, 66, 84, 82, 65, 67, 84]⟩, .fn 80 [])] := upd_lit (ss := [(⟨#[65, 68, 68]⟩, .fn 79 [])]) (by decide)
  have m50 : updA (.str ⟨#[77, 85, 76, 84, 73, 80, 76, 89]⟩) (.fn 81 []) [(.str ⟨#[65, 68, 68]⟩, .fn 79 []), (.str ⟨#[83, 85, 66, 84, 82, 65, 67, 84]⟩, .fn 80 [])] = some [(.str ⟨#[65, 68, 68]⟩, .fn 79 []), (.str ⟨#[83, 85, 66, 84, 82, 65, 67, 84]⟩, .fn 80 []), (.str ⟨#[77, 85, 76, 84, 73, 80, 76, 89]⟩, .fn 81 [])] := upd_lit (ss := [(⟨#[65, 68, 68]⟩, .fn 79 []), (⟨#[83, 85, 66, 84, 82, 65, 67, 84]⟩, .fn 80 [])]) (by decide)
  have m51 : updA (.str ⟨#[68, 73, 86, 73, 68, 69]⟩) (.fn 82 []) [(.str ⟨#[65, 68, 68]⟩, .fn 79 []), (.str ⟨#[83, 85, 66, 84, 82, 65, 67, 84]⟩, .fn 80 []), (.str ⟨#[77, 85, 76, 84, 73, 80, 76, 89]⟩, .fn 81 [])] = some [(.str ⟨#[65, 68, 68]⟩, .fn 79 []), (.str ⟨#[83, 85, 66, 84, 82, 65, 67, 84]⟩, .fn 80 []), (.str ⟨#[77, 85, 76, 84, 73, 80, 76, 89]⟩, .fn 81 []), (.str ⟨#[68, 73, 86, 73, 68, 69]⟩, .fn 82 [])] := upd_lit (ss := [(⟨#[65, 68, 68]⟩, .fn 79 []), (⟨#[83, 85, 66, 84, 82, 65, 67, 84]⟩, .fn 80 []), (⟨#[77, 85, 76, 84, 73, 80, 76, 89]⟩, .fn 81 [])]) (by decide)
  have one : Value.nilFunc.oneCell' = true := rfl
  simp [isKey, m48, m49, m50, m51]
  intro bs52 cl53 hb54 hl55
  obtain ⟨es56, he57⟩ : ∃ es, es = zipB [(AV.str ⟨#[65, 68, 68]⟩, AV.fn 79 []), (AV.str ⟨#[83, 85, 66, 84, 82, 65, 67, 84]⟩, AV.fn 80 []), (AV.str ⟨#[77, 85, 76, 84, 73, 80, 76, 89]⟩, AV.fn 81 []), (AV.str ⟨#[68, 73, 86, 73, 68, 69]⟩, AV.fn 82 [])] bs52 := ⟨_, rfl⟩
  have ha58 : es56.all (fun e => e.2.2 < cl53) = true := by rw [he57]; exact born_all hb54
  have hu64 : ∀ e1 ∈ es56, ∀ e2 ∈ es56, e1.2.2 = e2.2.2 → e1 = e2 := by rw [he57]; exact zipB_uniq hb54.1
  have hx65 : ∀ k r, lkF [(⟨#[65, 68, 68]⟩, 3, 4, none), (⟨#[83, 85, 66, 84, 82, 65, 67, 84]⟩, 3, 4, none), (⟨#[77, 85, 76, 84, 73, 80, 76, 89]⟩, 3, 4, none), (⟨#[68, 73, 86, 73, 68, 69]⟩, 3, 4, none)] k = some r → ∃ e ∈ es56, e.1 = .str k := by
    intro k r hr
    have hk : (AV.str k) ∈ ([(AV.str ⟨#[65, 68, 68]⟩, AV.fn 79 []), (AV.str ⟨#[83, 85, 66, 84, 82, 65, 67, 84]⟩, AV.fn 80 []), (AV.str ⟨#[77, 85, 76, 84, 73, 80, 76, 89]⟩, AV.fn 81 []), (AV.str ⟨#[68, 73, 86, 73, 68, 69]⟩, AV.fn 82 [])]).map Prod.fst := List.mem_map_of_mem (f := AV.str) (lkF_mem hr)
    obtain ⟨e, he, hek⟩ := List.mem_map.1 hk
    rw [he57, ← hek]
    exact zipB_all (by simpa using hl55) _ _ he
  have hk59 : ∀ e ∈ es56, ∃ s x, e.1 = .str s ∧ e.2.1 = .fn x [] ∧ lkF [(⟨#[65, 68, 68]⟩, 3, 4, none), (⟨#[83, 85, 66, 84, 82, 65, 67, 84]⟩, 3, 4, none), (⟨#[77, 85, 76, 84, 73, 80, 76, 89]⟩, 3, 4, none), (⟨#[68, 73, 86, 73, 68, 69]⟩, 3, 4, none)] s = some (3, 4, none) := by
    intro e he
    rw [he57] at he
    have h1 := (zipB_mem he).1
    simp only [List.mem_cons, List.not_mem_nil, or_false, Prod.mk.injEq] at h1
    rcases h1 with ⟨h1, h2⟩ | ⟨h1, h2⟩ | ⟨h1, h2⟩ | ⟨h1, h2⟩ <;> exact ⟨_, _, h1, h2, by first | rfl | simp [lkF]⟩
  rw [← he57]
  refine wpS_loopS (ι := List Nat × List (AV × AV) × Nat) (fun _ => [(0, .map S.length g), (45, .ptr (S.length + 6) (n43 + 1) 0)]) (fun s => ⟨S ++ [(g, .map s.2.1), (nx, .emap es14 cl11), (nx + 1, .iter (S.length + 1) (nx) cl11 seen18 cl11), (n20, .emap es37 cl34), (n20 + 1, .iter (S.length + 3) (n20) cl34 seen41 cl34), (n43, .emap es56 cl53), (n43 + 1, .iter (S.length + 5) (n43) cl53 s.1 cl53)], s.2.2⟩)
    (fun s => (es56.filter fun x => !s.1.contains x.2.2).length) (fun s => TabI [(⟨#[65, 68, 68]⟩, 3, 4, none), (⟨#[83, 85, 66, 84, 82, 65, 67, 84]⟩, 3, 4, none), (⟨#[77, 85, 76, 84, 73, 80, 76, 89]⟩, 3, 4, none), (⟨#[68, 73, 86, 73, 68, 69]⟩, 3, 4, none)] ([(⟨#[77, 65, 88]⟩, 1, 20, none), (⟨#[77, 73, 78]⟩, 1, 20, none)] ++ ((⟨#[77, 79, 68]⟩, 2, 2, some ((75, []), (76, []))) :: ((⟨#[82, 79, 85, 78, 68]⟩, 2, 2, some ((73, []), (74, []))) :: ([(⟨#[70, 76, 79, 79, 82]⟩, 1, 1, some ((70, []), (71, [.iptr true [.int .i64 (-1)]]))), (⟨#[67, 69, 73, 76]⟩, 1, 1, some ((70, []), (71, [.iptr true [.int .i64 1]]))), (⟨#[84, 82, 85, 78, 67]⟩, 1, 1, some ((70, []), (71, [.iptr true [.int .i64 0]])))] ++ ((⟨#[83, 73, 71, 78]⟩, 1, 1, some ((65, []), (68, []))) :: ((⟨#[65, 66, 83]⟩, 1, 1, some ((61, []), (62, []))) :: (l))))))) es56 s.1 s.2.1) ([], L42, n43 + 2) (tabI_start _ _ t47) (Sim.of_le (Env.le_of (by simp)) (Mem.le_of rfl (by simp [take_part]))) ?_
  rintro ⟨seen60, L61, n62⟩ t63
  simp only at t63
  simp [ha58]
  refine next_split2 (fun hd => ?_) (fun e he hp => ?_)
  rotate_left
  · obtain ⟨s, x, hs, hx, hr⟩ := hk59 e he
    have hf := find_born2 he hu64
    obtain ⟨L', u', t'⟩ := tabI_step (e := e) 83 [] 84 [.ptr (S.length + 7) (n62) 0] t63 (fun e1 h1 h2 => hu64 e1 h1 e he h2) hs hr (.inl rfl)
    simp only [rowA] at u'
    
    have one : Value.nilFunc.oneCell' = true := rfl
    simp [hf, hs, hx, isKey, u', one]
    exact ⟨seen60 ++ [e.2.2], L', t', n62 + 1, by simpa using unseen_less he (by simpa using hp), Sim.of_le (Env.le_of (by simp)) (Mem.le_of rfl (by simp [take_part]))⟩
  have t66 := tabI_done t63 (fun e he => by simpa using hd e he) hx65
  clear t63
  have m67 : updA (.str ⟨#[70, 73, 88, 69, 68]⟩) (.int .i64 0) [] = some [(.str ⟨#[70, 73, 88, 69, 68]⟩, .int .i64 0)] := upd_lit (ss := []) (by decide)
  have m68 : updA (.str ⟨#[66, 73, 78, 65, 82, 89]⟩) (.int .i64 1) [(.str ⟨#[70, 73, 88, 69, 68]⟩, .int .i64 0)] = some [(.str ⟨#[70, 73, 88, 69, 68]⟩, .int .i64 0), (.str ⟨#[66, 73, 78, 65, 82, 89]⟩, .int .i64 1)] := upd_lit (ss := [(⟨#[70, 73, 88, 69, 68]⟩, .int .i64 0)]) (by decide)
  have m69 : updA (.str ⟨#[68, 69, 67, 73, 77, 65, 76]⟩) (.int .i64 2) [(.str ⟨#[70, 73, 88, 69, 68]⟩, .int .i64 0), (.str ⟨#[66, 73, 78, 65, 82, 89]⟩, .int .i64 1)] = some [(.str ⟨#[70, 73, 88, 69, 68]⟩, .int .i64 0), (.str ⟨#[66, 73, 78, 65, 82, 89]⟩, .int .i64 1), (.str ⟨#[68, 69, 67, 73, 77, 65, 76]⟩, .int .i64 2)] := upd_lit (ss := [(⟨#[70, 73, 88, 69, 68]⟩, .int .i64 0), (⟨#[66, 73, 78, 65, 82, 89]⟩, .int .i64 1)]) (by decide)
  have m70 : updA (.str ⟨#[70, 76, 79, 65, 84]⟩) (.int .i64 3) [(.str ⟨#[70, 73, 88, 69, 68]⟩, .int .i64 0), (.str ⟨#[66, 73, 78, 65, 82, 89]⟩, .int .i64 1), (.str ⟨#[68, 69, 67, 73, 77, 65, 76]⟩, .int .i64 2)] = some [(.str ⟨#[70, 73, 88, 69, 68]⟩, .int .i64 0), (.str ⟨#[66, 73, 78, 65, 82, 89]⟩, .int .i64 1), (.str ⟨#[68, 69, 67, 73, 77, 65, 76]⟩, .int .i64 2), (.str ⟨#[70, 76, 79, 65, 84]⟩, .int .i64 3)] := upd_lit (ss := [(⟨#[70, 73, 88, 69, 68]⟩, .int .i64 0), (⟨#[66, 73, 78, 65, 82, 89]⟩, .int .i64 1), (⟨#[68, 69, 67, 73, 77, 65, 76]⟩, .int .i64 2)]) (by decide)
  simp [isKey, m67, m68, m69, m70]
  intro bs71 cl72 hb73 hl74
  obtain ⟨es75, he76⟩ : ∃ es, es = zipB [(AV.str ⟨#[70, 73, 88, 69, 68]⟩, AV.int .i64 0), (AV.str ⟨#[66, 73, 78, 65, 82, 89]⟩, AV.int .i64 1), (AV.str ⟨#[68, 69, 67, 73, 77, 65, 76]⟩, AV.int .i64 2), (AV.str ⟨#[70, 76, 79, 65, 84]⟩, AV.int .i64 3)] bs71 := ⟨_, rfl⟩
  have ha77 : es75.all (fun e => e.2.2 < cl72) = true := by rw [he76]; exact born_all hb73
  have hu83 : ∀ e1 ∈ es75, ∀ e2 ∈ es75, e1.2.2 = e2.2.2 → e1 = e2 := by rw [he76]; exact zipB_uniq hb73.1
  have hx84 : ∀ k r, lkF [(⟨#[70, 73, 88, 69, 68]⟩, 1, 3, none), (⟨#[66, 73, 78, 65, 82, 89]⟩, 1, 3, none), (⟨#[68, 69, 67, 73, 77, 65, 76]⟩, 1, 3, none), (⟨#[70, 76, 79, 65, 84]⟩, 1, 2, none)] k = some r → ∃ e ∈ es75, e.1 = .str k := by
    intro k r hr
    have hk : (AV.str k) ∈ ([(AV.str ⟨#[70, 73, 88, 69, 68]⟩, AV.int .i64 0), (AV.str ⟨#[66, 73, 78, 65, 82, 89]⟩, AV.int .i64 1), (AV.str ⟨#[68, 69, 67, 73, 77, 65, 76]⟩, AV.int .i64 2), (AV.str ⟨#[70, 76, 79, 65, 84]⟩, AV.int .i64 3)]).map Prod.fst := List.mem_map_of_mem (f := AV.str) (lkF_mem hr)
    obtain ⟨e, he, hek⟩ := List.mem_map.1 hk
    rw [he76, ← hek]
    exact zipB_all (by simpa using hl74) _ _ he
  have hk78 : ∀ e ∈ es75, ∃ s x, e.1 = .str s ∧ e.2.1 = .int .i64 x ∧ lkF [(⟨#[70, 73, 88, 69, 68]⟩, 1, 3, none), (⟨#[66, 73, 78, 65, 82, 89]⟩, 1, 3, none), (⟨#[68, 69, 67, 73, 77, 65, 76]⟩, 1, 3, none), (⟨#[70, 76, 79, 65, 84]⟩, 1, 2, none)] s = some (1, (if x = 3 then 2 else 3), none) := by
    intro e he
    rw [he76] at he
    have h1 := (zipB_mem he).1
    simp only [List.mem_cons, List.not_mem_nil, or_false, Prod.mk.injEq] at h1
    rcases h1 with ⟨h1, h2⟩ | ⟨h1, h2⟩ | ⟨h1, h2⟩ | ⟨h1, h2⟩ <;> exact ⟨_, _, h1, h2, by first | rfl | simp [lkF]⟩
  rw [← he76]
  refine wpS_loopS (ι := List Nat × List (AV × AV) × Nat) (fun _ => [(0, .map S.length g), (57, .ptr (S.length + 8) (n62 + 1) 0)]) (fun s => ⟨S ++ [(g, .map s.2.1), (nx, .emap es14 cl11), (nx + 1, .iter (S.length + 1) (nx) cl11 seen18 cl11), (n20, .emap es37 cl34), (n20 + 1, .iter (S.length + 3) (n20) cl34 seen41 cl34), (n43, .emap es56 cl53), (n43 + 1, .iter (S.length + 5) (n43) cl53 seen60 cl53), (n62, .emap es75 cl72), (n62 + 1, .iter (S.length + 7) (n62) cl72 s.1 cl72)], s.2.2⟩)
    (fun s => (es75.filter fun x => !s.1.contains x.2.2).length) (fun s => TabI [(⟨#[70, 73, 88, 69, 68]⟩, 1, 3, none), (⟨#[66, 73, 78, 65, 82, 89]⟩, 1, 3, none), (⟨#[68, 69, 67, 73, 77, 65, 76]⟩, 1, 3, none), (⟨#[70, 76, 79, 65, 84]⟩, 1, 2, none)] ([(⟨#[65, 68, 68]⟩, 3, 4, none), (⟨#[83, 85, 66, 84, 82, 65, 67, 84]⟩, 3, 4, none), (⟨#[77, 85, 76, 84, 73, 80, 76, 89]⟩, 3, 4, none), (⟨#[68, 73, 86, 73, 68, 69]⟩, 3, 4, none)] ++ ([(⟨#[77, 65, 88]⟩, 1, 20, none), (⟨#[77, 73, 78]⟩, 1, 20, none)] ++ ((⟨#[77, 79, 68]⟩, 2, 2, some ((75, []), (76, []))) :: ((⟨#[82, 79, 85, 78, 68]⟩, 2, 2, some ((73, []), (74, []))) :: ([(⟨#[70, 76, 79, 79, 82]⟩, 1, 1, some ((70, []), (71, [.iptr true [.int .i64 (-1)]]))), (⟨#[67, 69, 73, 76]⟩, 1, 1, some ((70, []), (71, [.iptr true [.int .i64 1]]))), (⟨#[84, 82, 85, 78, 67]⟩, 1, 1, some ((70, []), (71, [.iptr true [.int .i64 0]])))] ++ ((⟨#[83, 73, 71, 78]⟩, 1, 1, some ((65, []), (68, []))) :: ((⟨#[65, 66, 83]⟩, 1, 1, some ((61, []), (62, []))) :: (l)))))))) es75 s.1 s.2.1) ([], L61, n62 + 2) (tabI_start _ _ t66) (Sim.of_le (Env.le_of (by simp)) (Mem.le_of rfl (by simp [take_part]))) ?_
  rintro ⟨seen79, L80, n81⟩ t82
  simp only at t82
  simp [ha77]
  refine next_split2 (fun hd => ?_) (fun e he hp => ?_)
  rotate_left
  · obtain ⟨s, x, hs, hx, hr⟩ := hk78 e he
    have hf := find_born2 he hu83
    simp [hf, hs, hx, isKey]
    refine br_cond rfl (fun h5 => ?_) (fun h5 => ?_)
    · rw [if_pos (eqI_t.1 h5)] at hr
      obtain ⟨L', u', t'⟩ := tabI_step (e := e) 87 [.ptr (S.length + 9) (n81) 0] 89 [] t82 (fun e1 h1 h2 => hu83 e1 h1 e he h2) hs hr (.inl rfl)
      simp only [rowA] at u'
      simp [isKey, u']
      exact ⟨seen79 ++ [e.2.2], L', t', n81 + 1, by simpa using unseen_less he (by simpa using hp), Sim.of_le (Env.le_of (by simp)) (Mem.le_of rfl (by simp [take_part]))⟩
    · rw [if_neg (eqI_f.1 h5)] at hr
      obtain ⟨L', u', t'⟩ := tabI_step (e := e) 87 [.ptr (S.length + 9) (n81) 0] 89 [] t82 (fun e1 h1 h2 => hu83 e1 h1 e he h2) hs hr (.inl rfl)
      simp only [rowA] at u'
      simp [isKey, u']
      exact ⟨seen79 ++ [e.2.2], L', t', n81 + 1, by simpa using unseen_less he (by simpa using hp), Sim.of_le (Env.le_of (by simp)) (Mem.le_of rfl (by simp [take_part]))⟩
  have t85 := tabI_done t82 (fun e he => by simpa using hd e he) hx84
  clear t82
  simp [cr44]
  exact ⟨⟨S ++ [(g, .map L80)], _⟩, Mem.le_of rfl (by simp [take_part]), _, ⟨_, rfl⟩, t85⟩
def l45 (l : List (ByteArray × RKey)) : List (ByteArray × RKey) := (⟨#[86, 69, 82, 73, 70, 89]⟩, 2, 2, none) :: ((⟨#[73, 78, 68, 69, 88]⟩, 2, 2, none) :: ((⟨#[83, 85, 66, 83, 84, 82]⟩, 2, 3, some ((95, []), (96, []))) :: ((⟨#[76, 69, 78, 71, 84, 72]⟩, 1, 1, some ((90, []), (94, []))) :: (l))))
set_option maxHeartbeats 16000000 in
theorem call45N {S : List (Nat × AObj)} {g nx : Nat} {l : List (ByteArray × RKey)} {L : List (AV × AV)} (hL : TabN l L) :
    ACalls Bk.pg 45 [.map S.length g] ⟨S ++ [(g, .map L)], nx⟩ fun out m' => out = .ret (.tuple []) ∧ ∃ L' nx', m' = ⟨S ++ [(g, .map L')], nx'⟩ ∧ TabN (l45 l) L' := by
  refine ACalls.forget (ok45.acalls (by simp) ?_)
  have one : Value.nilFunc.oneCell' = true := rfl
  obtain ⟨L1, u2, t3⟩ := upd_tabN ⟨#[76, 69, 78, 71, 84, 72]⟩ 1 1 90 [] 94 [] hL
  simp only [rowA] at u2
  obtain ⟨L4, u5, t6⟩ := upd_tabN ⟨#[83, 85, 66, 83, 84, 82]⟩ 2 3 95 [] 96 [] t3
  simp only [rowA] at u5
  obtain ⟨L7, u8, t9⟩ := upd_tabN0 ⟨#[73, 78, 68, 69, 88]⟩ 2 2 90 [] 97 [.ptr (S.length + 1) nx 0] t6
  simp only [rowA] at u8
  obtain ⟨L10, u11, t12⟩ := upd_tabN0 ⟨#[86, 69, 82, 73, 70, 89]⟩ 2 2 90 [] 99 [.ptr (S.length + 1) nx 0] t9
  simp only [rowA] at u11
  simp [c45, isKey, u2, u5, u8, u11, one, cr45]
  exact ⟨⟨S ++ [(g, .map L10)], _⟩, Mem.le_of rfl (by simp [take_part]), _, ⟨_, rfl⟩, t12⟩
def l46 (l : List (ByteArray × RKey)) : List (ByteArray × RKey) := [(⟨#[72, 73, 71, 72]⟩, 1, 1, none), (⟨#[76, 79, 87]⟩, 1, 1, none)] ++ ([(⟨#[67, 72, 65, 82]⟩, 1, 2, none), (⟨#[66, 73, 84]⟩, 1, 2, none)] ++ ((⟨#[66, 79, 79, 76]⟩, 3, 3, some ((114, []), (115, []))) :: ((⟨#[83, 84, 82, 73, 78, 71]⟩, 1, 1, some ((101, []), (113, []))) :: ((⟨#[82, 69, 86, 69, 82, 83, 69]⟩, 1, 1, some ((101, []), (111, []))) :: ((⟨#[67, 79, 80, 89]⟩, 2, 2, some ((106, []), (110, []))) :: ((⟨#[82, 69, 80, 69, 65, 84]⟩, 2, 2, some ((106, []), (108, []))) :: ((⟨#[84, 82, 65, 78, 83, 76, 65, 84, 69]⟩, 3, 3, some ((102, []), (103, []))) :: (l))))))))
set_option maxHeartbeats 16000000 in
theorem call46N {S : List (Nat × AObj)} {g nx : Nat} {l : List (ByteArray × RKey)} {L : List (AV × AV)} (hL : TabN l L) :
    ACalls Bk.pg 46 [.map S.length g] ⟨S ++ [(g, .map L)], nx⟩ fun out m' => out = .ret (.tuple []) ∧ ∃ L' nx', m' = ⟨S ++ [(g, .map L')], nx'⟩ ∧ TabN (l46 l) L' := by
  refine ACalls.forget (ok46.acalls (by simp) ?_)
  have one : Value.nilFunc.oneCell' = true := rfl
  obtain ⟨L1, u2, t3⟩ := upd_tabN ⟨#[84, 82, 65, 78, 83, 76, 65, 84, 69]⟩ 3 3 102 [] 103 [] hL
  simp only [rowA] at u2
  obtain ⟨L4, u5, t6⟩ := upd_tabN ⟨#[82, 69, 80, 69, 65, 84]⟩ 2 2 106 [] 108 [] t3
  simp only [rowA] at u5
  obtain ⟨L7, u8, t9⟩ := upd_tabN ⟨#[67, 79, 80, 89]⟩ 2 2 106 [] 110 [] t6
  simp only [rowA] at u8
  obtain ⟨L10, u11, t12⟩ := upd_tabN ⟨#[82, 69, 86, 69, 82, 83, 69]⟩ 1 1 101 [] 111 [] t9
  simp only [rowA] at u11
  obtain ⟨L13, u14, t15⟩ := upd_tabN ⟨#[83, 84, 82, 73, 78, 71]⟩ 1 1 101 [] 113 [] t12
  simp only [rowA] at u14
  obtain ⟨L16, u17, t18⟩ := upd_tabN ⟨#[66, 79, 79, 76]⟩ 3 3 114 [] 115 [] t15
  simp only [rowA] at u17
  have m19 : updA (.str ⟨#[67, 72, 65, 82]⟩) (.int .i64 4) [] = some [(.str ⟨#[67, 72, 65, 82]⟩, .int .i64 4)] := upd_lit (ss := []) (by decide)
  have m20 : updA (.str ⟨#[66, 73, 84]⟩) (.int .i64 5) [(.str ⟨#[67, 72, 65, 82]⟩, .int .i64 4)] = some [(.str ⟨#[67, 72, 65, 82]⟩, .int .i64 4), (.str ⟨#[66, 73, 84]⟩, .int .i64 5)] := upd_lit (ss := [(⟨#[67, 72, 65, 82]⟩, .int .i64 4)]) (by decide)
  simp [c46, isKey, u2, u5, u8, u11, u14, u17, m19, m20]
  intro bs21 cl22 hb23 hl24
  obtain ⟨es25, he26⟩ : ∃ es, es = zipB [(AV.str ⟨#[67, 72, 65, 82]⟩, AV.int .i64 4), (AV.str ⟨#[66, 73, 84]⟩, AV.int .i64 5)] bs21 := ⟨_, rfl⟩
  have ha27 : es25.all (fun e => e.2.2 < cl22) = true := by rw [he26]; exact born_all hb23
  have hu33 : ∀ e1 ∈ es25, ∀ e2 ∈ es25, e1.2.2 = e2.2.2 → e1 = e2 := by rw [he26]; exact zipB_uniq hb23.1
  have hx34 : ∀ k r, lkF [(⟨#[67, 72, 65, 82]⟩, 1, 2, none), (⟨#[66, 73, 84]⟩, 1, 2, none)] k = some r → ∃ e ∈ es25, e.1 = .str k := by
    intro k r hr
    have hk : (AV.str k) ∈ ([(AV.str ⟨#[67, 72, 65, 82]⟩, AV.int .i64 4), (AV.str ⟨#[66, 73, 84]⟩, AV.int .i64 5)]).map Prod.fst := List.mem_map_of_mem (f := AV.str) (lkF_mem hr)
    obtain ⟨e, he, hek⟩ := List.mem_map.1 hk
    rw [he26, ← hek]
    exact zipB_all (by simpa using hl24) _ _ he
  have hk28 : ∀ e ∈ es25, ∃ s x, e.1 = .str s ∧ e.2.1 = .int .i64 x ∧ lkF [(⟨#[67, 72, 65, 82]⟩, 1, 2, none), (⟨#[66, 73, 84]⟩, 1, 2, none)] s = some (1, 2, none) := by
    intro e he
    rw [he26] at he
    have h1 := (zipB_mem he).1
    simp only [List.mem_cons, List.not_mem_nil, or_false, Prod.mk.injEq] at h1
    rcases h1 with ⟨h1, h2⟩ | ⟨h1, h2⟩ <;> exact ⟨_, _, h1, h2, by first | rfl | simp [lkF]⟩
  rw [← he26]
  refine wpS_loopS (ι := List Nat × List (AV × AV) × Nat) (fun _ => [(0, .map S.length g), (26, .ptr (S.length + 2) (nx + 1) 0)]) (fun s => ⟨S ++ [(g, .map s.2.1), (nx, .emap es25 cl22), (nx + 1, .iter (S.length + 1) (nx) cl22 s.1 cl22)], s.2.2⟩)
    (fun s => (es25.filter fun x => !s.1.contains x.2.2).length) (fun s => TabI [(⟨#[67, 72, 65, 82]⟩, 1, 2, none), (⟨#[66, 73, 84]⟩, 1, 2, none)] ((⟨#[66, 79, 79, 76]⟩, 3, 3, some ((114, []), (115, []))) :: ((⟨#[83, 84, 82, 73, 78, 71]⟩, 1, 1, some ((101, []), (113, []))) :: ((⟨#[82, 69, 86, 69, 82, 83, 69]⟩, 1, 1, some ((101, []), (111, []))) :: ((⟨#[67, 79, 80, 89]⟩, 2, 2, some ((106, []), (110, []))) :: ((⟨#[82, 69, 80, 69, 65, 84]⟩, 2, 2, some ((106, []), (108, []))) :: ((⟨#[84, 82, 65, 78, 83, 76, 65, 84, 69]⟩, 3, 3, some ((102, []), (103, []))) :: (l))))))) es25 s.1 s.2.1) ([], L16, nx + 2) (tabI_start _ _ t18) (Sim.of_le (Env.le_of (by simp)) (Mem.le_of rfl (by simp [take_part]))) ?_
  rintro ⟨seen29, L30, n31⟩ t32
  simp only at t32
  simp [ha27]
  refine next_split2 (fun hd => ?_) (fun e he hp => ?_)
  rotate_left
  · obtain ⟨s, x, hs, hx, hr⟩ := hk28 e he
    have hf := find_born2 he hu33
    obtain ⟨L', u', t'⟩ := tabI_step (e := e) 118 [.ptr (S.length + 3) (n31) 0] 121 [] t32 (fun e1 h1 h2 => hu33 e1 h1 e he h2) hs hr (.inl rfl)
    simp only [rowA] at u'
    
    have one : Value.nilFunc.oneCell' = true := rfl
    simp [hf, hs, hx, isKey, u', one]
    exact ⟨seen29 ++ [e.2.2], L', t', n31 + 1, by simpa using unseen_less he (by simpa using hp), Sim.of_le (Env.le_of (by simp)) (Mem.le_of rfl (by simp [take_part]))⟩
  have t35 := tabI_done t32 (fun e he => by simpa using hd e he) hx34
  clear t32
  have m36 : updA (.str ⟨#[72, 73, 71, 72]⟩) (.fn 123 []) [] = some [(.str ⟨#[72, 73, 71, 72]⟩, .fn 123 [])] := upd_lit (ss := []) (by decide)
  have m37 : updA (.str ⟨#[76, 79, 87]⟩) (.fn 124 []) [(.str ⟨#[72, 73, 71, 72]⟩, .fn 123 [])] = some [(.str ⟨#[72, 73, 71, 72]⟩, .fn 123 []), (.str ⟨#[76, 79, 87]⟩, .fn 124 [])] := upd_lit (ss := [(⟨#[72, 73, 71, 72]⟩, .fn 123 [])]) (by decide)
  simp [isKey, m36, m37]
  intro bs38 cl39 hb40 hl41
  obtain ⟨es42, he43⟩ : ∃ es, es = zipB [(AV.str ⟨#[72, 73, 71, 72]⟩, AV.fn 123 []), (AV.str ⟨#[76, 79, 87]⟩, AV.fn 124 [])] bs38 := ⟨_, rfl⟩
  have ha44 : es42.all (fun e => e.2.2 < cl39) = true := by rw [he43]; exact born_all hb40
  have hu50 : ∀ e1 ∈ es42, ∀ e2 ∈ es42, e1.2.2 = e2.2.2 → e1 = e2 := by rw [he43]; exact zipB_uniq hb40.1
  have hx51 : ∀ k r, lkF [(⟨#[72, 73, 71, 72]⟩, 1, 1, none), (⟨#[76, 79, 87]⟩, 1, 1, none)] k = some r → ∃ e ∈ es42, e.1 = .str k := by
    intro k r hr
    have hk : (AV.str k) ∈ ([(AV.str ⟨#[72, 73, 71, 72]⟩, AV.fn 123 []), (AV.str ⟨#[76, 79, 87]⟩, AV.fn 124 [])]).map Prod.fst := List.mem_map_of_mem (f := AV.str) (lkF_mem hr)
    obtain ⟨e, he, hek⟩ := List.mem_map.1 hk
    rw [he43, ← hek]
    exact zipB_all (by simpa using hl41) _ _ he
  have hk45 : ∀ e ∈ es42, ∃ s x, e.1 = .str s ∧ e.2.1 = .fn x [] ∧ lkF [(⟨#[72, 73, 71, 72]⟩, 1, 1, none), (⟨#[76, 79, 87]⟩, 1, 1, none)] s = some (1, 1, none) := by
    intro e he
    rw [he43] at he
    have h1 := (zipB_mem he).1
    simp only [List.mem_cons, List.not_mem_nil, or_false, Prod.mk.injEq] at h1
    rcases h1 with ⟨h1, h2⟩ | ⟨h1, h2⟩ <;> exact ⟨_, _, h1, h2, by first | rfl | simp [lkF]⟩
  rw [← he43]
  refine wpS_loopS (ι := List Nat × List (AV × AV) × Nat) (fun _ => [(0, .map S.length g), (38, .ptr (S.length + 4) (n31 + 1) 0)]) (fun s => ⟨S ++ [(g, .map s.2.1), (nx, .emap es25 cl22), (nx + 1, .iter (S.length + 1) (nx) cl22 seen29 cl22), (n31, .emap es42 cl39), (n31 + 1, .iter (S.length + 3) (n31) cl39 s.1 cl39)], s.2.2⟩)
    (fun s => (es42.filter fun x => !s.1.contains x.2.2).length) (fun s => TabI [(⟨#[72, 73, 71, 72]⟩, 1, 1, none), (⟨#[76, 79, 87]⟩, 1, 1, none)] ([(⟨#[67, 72, 65, 82]⟩, 1, 2, none), (⟨#[66, 73, 84]⟩, 1, 2, none)] ++ ((⟨#[66, 79, 79, 76]⟩, 3, 3, some ((114, []), (115, []))) :: ((⟨#[83, 84, 82, 73, 78, 71]⟩, 1, 1, some ((101, []), (113, []))) :: ((⟨#[82, 69, 86, 69, 82, 83, 69]⟩, 1, 1, some ((101, []), (111, []))) :: ((⟨#[67, 79, 80, 89]⟩, 2, 2, some ((106, []), (110, []))) :: ((⟨#[82, 69, 80, 69, 65, 84]⟩, 2, 2, some ((106, []), (108, []))) :: ((⟨#[84, 82, 65, 78, 83, 76, 65, 84, 69]⟩, 3, 3, some ((102, []), (103, []))) :: (l)))))))) es42 s.1 s.2.1) ([], L30, n31 + 2) (tabI_start _ _ t35) (Sim.of_le (Env.le_of (by simp)) (Mem.le_of rfl (by simp [take_part]))) ?_
  rintro ⟨seen46, L47, n48⟩ t49
  simp only at t49
  simp [ha44]
  refine next_split2 (fun hd => ?_) (fun e he hp => ?_)
  rotate_left
  · obtain ⟨s, x, hs, hx, hr⟩ := hk45 e he
    have hf := find_born2 he hu50
    obtain ⟨L', u', t'⟩ := tabI_step (e := e) 125 [] 126 [.ptr (S.length + 5) (n48) 0] t49 (fun e1 h1 h2 => hu50 e1 h1 e he h2) hs hr (.inl rfl)
    simp only [rowA] at u'
    
    have one : Value.nilFunc.oneCell' = true := rfl
    simp [hf, hs, hx, isKey, u', one]
    exact ⟨seen46 ++ [e.2.2], L', t', n48 + 1, by simpa using unseen_less he (by simpa using hp), Sim.of_le (Env.le_of (by simp)) (Mem.le_of rfl (by simp [take_part]))⟩
  have t52 := tabI_done t49 (fun e he => by simpa using hd e he) hx51
  clear t49
  simp [cr46]
  exact ⟨⟨S ++ [(g, .map L47)], _⟩, Mem.le_of rfl (by simp [take_part]), _, ⟨_, rfl⟩, t52⟩
end Go.Pm

/- BkS7: code, resolved. Printed by ShowSC.lean and genok.py. -/
namespace Go.Pm
open Go Go.Proofs
end Go.Pm

/- BkT3: contracts: the table, all its rows; the functions' names. -/
namespace Go.Pm
open Go Go.Proofs
attribute [-simp] List.getElem?_map
attribute [simp] nilCheckA postA_norm
def tabL : List (ByteArray × RKey) := l46 (l45 (l44 []))
theorem call27N {S : List (Nat × AObj)} {nx : Nat} : ACalls Bk.pg 27 [] ⟨S, nx⟩ fun out m' => out = .ret (.map S.length nx) ∧ ∃ L' nx', m' = ⟨S ++ [(nx, .map L')], nx'⟩ ∧ TabN tabL L' := by
  refine ok27.acalls (by simp) ?_
  simp [c27]
  refine xcall_r (call44N (S := S) (g := nx) (nx := nx + 1) tabN_nil) ?_ ?_
  · rintro v m' ⟨hv, L1, n1, rfl, h1⟩
    cases hv
    simp
    refine xcall_r (call45N (S := S) (g := nx) (nx := n1) h1) ?_ ?_
    · rintro v m' ⟨hv, L2, n2, rfl, h2⟩
      cases hv
      simp
      refine xcall_r (call46N (S := S) (g := nx) (nx := n2) h2) ?_ ?_
      · rintro v m' ⟨hv, L3, n3, rfl, h3⟩
        cases hv
        simp [cr27, postA_ret]
        exact h3
      · rintro v m' ⟨hv, _⟩
        cases hv
    · rintro v m' ⟨hv, _⟩
      cases hv
  · rintro v m' ⟨hv, _⟩
    cases hv
end Go.Pm
