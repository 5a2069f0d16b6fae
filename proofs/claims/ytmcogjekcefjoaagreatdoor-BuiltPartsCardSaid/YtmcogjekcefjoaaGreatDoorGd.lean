/- BkS8: code, resolved. Printed by ShowSC.lean and genok.py. -/
import Derived.Test.YtmcogjekcefjoaaGreatDoorGa
import Derived.Test.YtmcogjekcefjoaaGreatDoorPmT
import Derived.Test.YtmcogjekcefjoaaGreatDoorGc
import Derived.Shelf.Strings.Repeat
import Derived.Test.YtmcogjekcefjoaaGreatDoorGb
import Derived.Test.YtmcogjekcefjoaaGreatDoorPmV
import Derived.Shelf.Strings.BuilderX
import Derived.Shelf.RegionOpenPlain
import Derived.Lib.Strings
import Derived.Lib.Walk
import Derived.Lib.Builder
import Derived.Lib.UnsafeStr
import Derived.WalkKit
import Derived.Laws.Externs
import Derived.Shelf.Strings.Builder1
set_option linter.unusedSimpArgs false
set_option linter.unusedVariables false
namespace Go.Pm
open Go Go.Proofs
def c6 : SC :=
 let s14 : DT := (.step ⟨none, .plain (.store 6), [.tmp 10, .tmp 52], none⟩ (.step ⟨some 11, .plain .mv, [.tmp 53], none⟩ .done))
 let s13 : DT := (.step ⟨none, .plain (.store 4), [.tmp 12, .tmp 65], none⟩ (.step ⟨none, .plain (.store 5), [.tmp 13, .tmp 66], none⟩ (.step ⟨some 14, .plain .mv, [.tmp 67], none⟩ .done)))
 let s12 : DT := (.step ⟨some 12, .plain (.alloc [(.int .i64 0), (.int .i64 0), (.int .i64 0), (.str ⟨#[]⟩)]), [], none⟩ s13)
 let s11 : DT := (.step ⟨some 13, .plain (.alloc [(.int .i64 0), (.str ⟨#[]⟩), (.int .i64 0), (.str ⟨#[]⟩), (.int .i64 0)]), [], none⟩ s13)
 let s10 : DT := (.step ⟨some 64, .call 9, [.tmp 58, .tmp 60, .tmp 62, .tmp 63], none⟩ (.step ⟨some 54, .plain .mv, [.tmp 64], none⟩ (.step ⟨some 65, .plain (.extract 0), [.tmp 54], none⟩ (.step ⟨some 66, .plain (.extract 1), [.tmp 54], none⟩ (.step ⟨some 67, .plain (.extract 2), [.tmp 54], none⟩ s13)))))
 let s9 : DT := (.step ⟨some 64, .call 9, [.tmp 58, .tmp 60, .tmp 62, .tmp 63], none⟩ (.step ⟨some 54, .plain .mv, [.tmp 64], none⟩ (.step ⟨some 65, .plain (.extract 0), [.tmp 54], none⟩ (.step ⟨some 66, .plain (.extract 1), [.tmp 54], none⟩ (.step ⟨some 67, .plain (.extract 2), [.tmp 54], none⟩ s12)))))
 let s8 : DT := (.step ⟨some 64, .call 9, [.tmp 58, .tmp 60, .tmp 62, .tmp 63], none⟩ (.step ⟨some 54, .plain .mv, [.tmp 64], none⟩ (.step ⟨some 65, .plain (.extract 0), [.tmp 54], none⟩ (.step ⟨some 66, .plain (.extract 1), [.tmp 54], none⟩ (.step ⟨some 67, .plain (.extract 2), [.tmp 54], none⟩ s11)))))
 let s7 : DT := (.step ⟨some 60, .plain (.buildRow 24 4 1 [(.int .i64 0), (.int .i64 0), (.int .i64 0), (.str ⟨#[]⟩)] [0]), [.tmp 59], none⟩ s10)
 let s6 : DT := (.step ⟨some 62, .plain (.buildRow 32 6 1 [(.int .i64 0), (.int .i64 0), (.int .i64 0), (.int .i64 0), (.bool false), (.str ⟨#[]⟩)] [0]), [.tmp 61], none⟩ s10)
 let s5 : DT := (.step ⟨some 64, .call 9, [.tmp 58, .tmp 60, .tmp 62, .tmp 63], none⟩ (.step ⟨some 54, .plain .mv, [.tmp 64], none⟩ (.step ⟨some 65, .plain (.extract 0), [.tmp 54], none⟩ (.step ⟨some 66, .plain (.extract 1), [.tmp 54], none⟩ (.step ⟨some 67, .plain (.extract 2), [.tmp 54], none⟩ (.or (.step ⟨some 12, .plain (.alloc [(.int .i64 0), (.int .i64 0), (.int .i64 0), (.str ⟨#[]⟩)]), [], none⟩ s11) (.step ⟨some 13, .plain (.alloc [(.int .i64 0), (.str ⟨#[]⟩), (.int .i64 0), (.str ⟨#[]⟩), (.int .i64 0)]), [], none⟩ s12)))))))
 let s4 : DT := (.or (.step ⟨some 60, .plain (.buildRow 24 4 1 [(.int .i64 0), (.int .i64 0), (.int .i64 0), (.str ⟨#[]⟩)] [0]), [.tmp 59], none⟩ s9) (.step ⟨some 12, .plain (.alloc [(.int .i64 0), (.int .i64 0), (.int .i64 0), (.str ⟨#[]⟩)]), [], none⟩ s7))
 let s3 : DT := (.or (.step ⟨some 60, .plain (.buildRow 24 4 1 [(.int .i64 0), (.int .i64 0), (.int .i64 0), (.str ⟨#[]⟩)] [0]), [.tmp 59], none⟩ s8) (.step ⟨some 13, .plain (.alloc [(.int .i64 0), (.str ⟨#[]⟩), (.int .i64 0), (.str ⟨#[]⟩), (.int .i64 0)]), [], none⟩ s7))
 let s2 : DT := (.or (.step ⟨some 62, .plain (.buildRow 32 6 1 [(.int .i64 0), (.int .i64 0), (.int .i64 0), (.int .i64 0), (.bool false), (.str ⟨#[]⟩)] [0]), [.tmp 61], none⟩ s9) (.step ⟨some 12, .plain (.alloc [(.int .i64 0), (.int .i64 0), (.int .i64 0), (.str ⟨#[]⟩)]), [], none⟩ s6))
 let s1 : DT := (.or (.step ⟨some 62, .plain (.buildRow 32 6 1 [(.int .i64 0), (.int .i64 0), (.int .i64 0), (.int .i64 0), (.bool false), (.str ⟨#[]⟩)] [0]), [.tmp 61], none⟩ s8) (.step ⟨some 13, .plain (.alloc [(.int .i64 0), (.str ⟨#[]⟩), (.int .i64 0), (.str ⟨#[]⟩), (.int .i64 0)]), [], none⟩ s6))
 let s0 : DT := (.or (.step ⟨some 60, .plain (.buildRow 24 4 1 [(.int .i64 0), (.int .i64 0), (.int .i64 0), (.str ⟨#[]⟩)] [0]), [.tmp 59], none⟩ s6) (.step ⟨some 62, .plain (.buildRow 32 6 1 [(.int .i64 0), (.int .i64 0), (.int .i64 0), (.int .i64 0), (.bool false), (.str ⟨#[]⟩)] [0]), [.tmp 61], none⟩ s7))
 (.seq (.ops [⟨some 4, .plain .mv, [.lit (.bool false)], none⟩] []) (.seq (.seq (.ops [⟨some 19, .plain .mv, [.tmp 0], none⟩, ⟨some 20, .plain (.bin .leq), [.tmp 19, .lit (.int .i64 (-1000000000000))], none⟩, ⟨some 21, .plain .mv, [.tmp 20], none⟩, ⟨some 22, .plain .mv, [.tmp 0], (some (21, false))⟩, ⟨some 23, .plain (.bin .geq), [.tmp 22, .lit (.int .i64 1000000000000)], (some (21, false))⟩, ⟨some 24, .plain .pick, [.tmp 21, .lit (.bool true), .tmp 23], none⟩, ⟨some 25, .plain .mv, [.tmp 24], none⟩, ⟨some 26, .plain .mv, [.tmp 1], (some (25, false))⟩, ⟨some 27, .plain (.bin .lss), [.tmp 26, .lit (.int .i64 0)], (some (25, false))⟩, ⟨some 28, .plain .pick, [.tmp 25, .lit (.bool true), .tmp 27], none⟩, ⟨some 29, .plain .mv, [.tmp 28], none⟩, ⟨some 30, .plain .mv, [.tmp 1], (some (29, false))⟩, ⟨some 31, .plain (.bin .gtr), [.tmp 30, .lit (.int .i64 12)], (some (29, false))⟩, ⟨some 32, .plain .pick, [.tmp 29, .lit (.bool true), .tmp 31], none⟩] [19, 20, 21, 22, 23, 24, 25, 26, 27, 28, 29, 30, 31]) (.cond (.tmp 32) (.seq (.ops [⟨some 33, .call 8, [], none⟩, ⟨some 4, .plain .mv, [.tmp 33], none⟩] [33]) .ret) .skip)) (.seq (.ops [⟨some 34, .plain .mv, [.tmp 1], none⟩, ⟨some 35, .plain (.build [(.int .i64 0), (.int .i64 0), (.int .i64 0), (.int .i64 0), (.bool false), (.str ⟨#[]⟩)] [(0, 1), (1, 1), (2, 1)]), [.lit (.int .i64 2), .lit (.int .i64 15), .tmp 34], none⟩, ⟨some 5, .plain (.alloc [(.int .i64 0), (.int .i64 0), (.int .i64 0), (.int .i64 0), (.bool false), (.str ⟨#[]⟩)]), [], none⟩, ⟨none, .plain (.store 6), [.tmp 5, .tmp 35], none⟩] [34, 35]) (.seq (.ops [⟨some 36, .plain .mv, [.tmp 0], none⟩, ⟨some 37, .plain .mv, [.tmp 1], none⟩, ⟨some 38, .plain (.build [(.int .i64 0), (.int .i64 0), (.int .i64 0), (.str ⟨#[]⟩)] [(0, 1), (1, 1), (2, 1)]), [.lit (.int .i64 2), .tmp 36, .tmp 37], none⟩, ⟨some 6, .plain (.alloc [(.int .i64 0), (.int .i64 0), (.int .i64 0), (.str ⟨#[]⟩)]), [], none⟩, ⟨none, .plain (.store 4), [.tmp 6, .tmp 38], none⟩] [36, 37, 38]) (.seq (.ops [⟨some 7, .plain (.alloc [(.int .i64 0), (.int .i64 0), (.int .i64 0), (.str ⟨#[]⟩), (.int .i64 0), (.int .i64 0), (.int .i64 0), (.str ⟨#[]⟩), (.int .i64 0), (.int .i64 0), (.int .i64 0), (.str ⟨#[]⟩)]), [], none⟩] []) (.seq (.ops [⟨some 39, .plain (.buildRow 9 1 3 [(.str ⟨#[]⟩)] [0, 1, 2]), [.lit (.str ⟨#[70, 76, 79, 79, 82]⟩), .lit (.str ⟨#[67, 69, 73, 76]⟩), .lit (.str ⟨#[84, 82, 85, 78, 67]⟩)], none⟩, ⟨some 8, .plain .mv, [.tmp 39], none⟩] [39]) (.seq (.seq (.ops [⟨some 9, .plain .mv, [.lit (.int .i64 0)], none⟩] []) (.block 0 (.loop (.seq (.seq (.ops [⟨some 40, .plain .mv, [.tmp 9], none⟩, ⟨some 41, .plain (.bin .lss), [.tmp 40, .lit (.int .i64 3)], none⟩] [40]) (.cond (.tmp 41) .skip (.exit 0))) (.seq (.block 1 (.seq (.draw (.step ⟨some 45, .plain .mv, [.tmp 8], none⟩ (.step ⟨some 46, .plain .mv, [.tmp 9], none⟩ (.step ⟨some 47, .plain (.indexAddr 1), [.tmp 45, .tmp 46], none⟩ (.step ⟨some 48, .plain (.load false 1), [.tmp 47], none⟩ (.step ⟨some 49, .plain (.load true 6), [.tmp 5], none⟩ (.or (.step ⟨some 50, .plain (.buildRow 32 6 1 [(.int .i64 0), (.int .i64 0), (.int .i64 0), (.int .i64 0), (.bool false), (.str ⟨#[]⟩)] [0]), [.tmp 49], none⟩ (.step ⟨some 51, .call 17, [.tmp 48, .tmp 50, .lit .nilS], none⟩ (.step ⟨some 44, .plain .mv, [.tmp 51], none⟩ (.step ⟨some 52, .plain (.extract 0), [.tmp 44], none⟩ (.step ⟨some 53, .plain (.extract 1), [.tmp 44], none⟩ (.step ⟨some 10, .plain (.alloc [(.int .i64 0), (.int .i64 0), (.int .i64 0), (.int .i64 0), (.bool false), (.str ⟨#[]⟩)]), [], none⟩ s14)))))) (.step ⟨some 10, .plain (.alloc [(.int .i64 0), (.int .i64 0), (.int .i64 0), (.int .i64 0), (.bool false), (.str ⟨#[]⟩)]), [], none⟩ (.step ⟨some 50, .plain (.buildRow 32 6 1 [(.int .i64 0), (.int .i64 0), (.int .i64 0), (.int .i64 0), (.bool false), (.str ⟨#[]⟩)] [0]), [.tmp 49], none⟩ (.step ⟨some 51, .call 17, [.tmp 48, .tmp 50, .lit .nilS], none⟩ (.step ⟨some 44, .plain .mv, [.tmp 51], none⟩ (.step ⟨some 52, .plain (.extract 0), [.tmp 44], none⟩ (.step ⟨some 53, .plain (.extract 1), [.tmp 44], none⟩ s14)))))))))))) [45, 46, 47, 48, 49, 50, 51, 44, 52, 53]) (.seq (.draw (.step ⟨some 55, .plain .mv, [.tmp 8], none⟩ (.step ⟨some 56, .plain .mv, [.tmp 9], none⟩ (.step ⟨some 57, .plain (.indexAddr 1), [.tmp 55, .tmp 56], none⟩ (.step ⟨some 58, .plain (.load false 1), [.tmp 57], none⟩ (.step ⟨some 59, .plain (.load true 4), [.tmp 6], none⟩ (.step ⟨some 61, .plain (.load true 6), [.tmp 5], none⟩ (.step ⟨some 63, .plain (.load true 6), [.tmp 10], none⟩ (.or (.step ⟨some 60, .plain (.buildRow 24 4 1 [(.int .i64 0), (.int .i64 0), (.int .i64 0), (.str ⟨#[]⟩)] [0]), [.tmp 59], none⟩ (.or (.step ⟨some 62, .plain (.buildRow 32 6 1 [(.int .i64 0), (.int .i64 0), (.int .i64 0), (.int .i64 0), (.bool false), (.str ⟨#[]⟩)] [0]), [.tmp 61], none⟩ s5) (.or (.step ⟨some 12, .plain (.alloc [(.int .i64 0), (.int .i64 0), (.int .i64 0), (.str ⟨#[]⟩)]), [], none⟩ s1) (.step ⟨some 13, .plain (.alloc [(.int .i64 0), (.str ⟨#[]⟩), (.int .i64 0), (.str ⟨#[]⟩), (.int .i64 0)]), [], none⟩ s2)))) (.or (.step ⟨some 62, .plain (.buildRow 32 6 1 [(.int .i64 0), (.int .i64 0), (.int .i64 0), (.int .i64 0), (.bool false), (.str ⟨#[]⟩)] [0]), [.tmp 61], none⟩ (.or (.step ⟨some 60, .plain (.buildRow 24 4 1 [(.int .i64 0), (.int .i64 0), (.int .i64 0), (.str ⟨#[]⟩)] [0]), [.tmp 59], none⟩ s5) (.or (.step ⟨some 12, .plain (.alloc [(.int .i64 0), (.int .i64 0), (.int .i64 0), (.str ⟨#[]⟩)]), [], none⟩ s3) (.step ⟨some 13, .plain (.alloc [(.int .i64 0), (.str ⟨#[]⟩), (.int .i64 0), (.str ⟨#[]⟩), (.int .i64 0)]), [], none⟩ s4)))) (.or (.step ⟨some 12, .plain (.alloc [(.int .i64 0), (.int .i64 0), (.int .i64 0), (.str ⟨#[]⟩)]), [], none⟩ (.or (.step ⟨some 60, .plain (.buildRow 24 4 1 [(.int .i64 0), (.int .i64 0), (.int .i64 0), (.str ⟨#[]⟩)] [0]), [.tmp 59], none⟩ s1) (.or (.step ⟨some 62, .plain (.buildRow 32 6 1 [(.int .i64 0), (.int .i64 0), (.int .i64 0), (.int .i64 0), (.bool false), (.str ⟨#[]⟩)] [0]), [.tmp 61], none⟩ s3) (.step ⟨some 13, .plain (.alloc [(.int .i64 0), (.str ⟨#[]⟩), (.int .i64 0), (.str ⟨#[]⟩), (.int .i64 0)]), [], none⟩ s0)))) (.step ⟨some 13, .plain (.alloc [(.int .i64 0), (.str ⟨#[]⟩), (.int .i64 0), (.str ⟨#[]⟩), (.int .i64 0)]), [], none⟩ (.or (.step ⟨some 60, .plain (.buildRow 24 4 1 [(.int .i64 0), (.int .i64 0), (.int .i64 0), (.str ⟨#[]⟩)] [0]), [.tmp 59], none⟩ s2) (.or (.step ⟨some 62, .plain (.buildRow 32 6 1 [(.int .i64 0), (.int .i64 0), (.int .i64 0), (.int .i64 0), (.bool false), (.str ⟨#[]⟩)] [0]), [.tmp 61], none⟩ s4) (.step ⟨some 12, .plain (.alloc [(.int .i64 0), (.int .i64 0), (.int .i64 0), (.str ⟨#[]⟩)]), [], none⟩ s0)))))))))))))) [55, 56, 57, 58, 59, 61, 63, 60, 62, 64, 54, 65, 66, 67]) (.seq (.seq (.ops [⟨some 68, .plain .mv, [.tmp 11], none⟩, ⟨some 69, .plain (.bin .neq), [.tmp 68, .lit (.int .i64 0)], none⟩, ⟨some 70, .plain .mv, [.tmp 69], none⟩, ⟨some 71, .plain .mv, [.tmp 14], (some (70, false))⟩, ⟨some 72, .plain (.bin .neq), [.tmp 71, .lit (.int .i64 0)], (some (70, false))⟩, ⟨some 73, .plain .pick, [.tmp 70, .lit (.bool true), .tmp 72], none⟩, ⟨some 74, .plain .mv, [.tmp 73], none⟩, ⟨some 75, .plain (.fieldAddr 0), [.tmp 13], (some (74, false))⟩, ⟨some 76, .plain (.load false 1), [.tmp 75], (some (74, false))⟩, ⟨some 77, .plain (.bin .neq), [.tmp 76, .lit (.int .i64 0)], (some (74, false))⟩, ⟨some 78, .plain .pick, [.tmp 74, .lit (.bool true), .tmp 77], none⟩, ⟨some 79, .plain .mv, [.tmp 78], none⟩, ⟨some 80, .plain (.fieldAddr 2), [.tmp 12], (some (79, false))⟩, ⟨some 81, .plain (.load false 1), [.tmp 80], (some (79, false))⟩, ⟨some 82, .plain (.bin .neq), [.tmp 81, .lit (.int .i64 0)], (some (79, false))⟩, ⟨some 83, .plain .pick, [.tmp 79, .lit (.bool true), .tmp 82], none⟩] [68, 69, 70, 71, 72, 73, 74, 75, 76, 77, 78, 79, 80, 81, 82]) (.cond (.tmp 83) (.seq (.ops [⟨some 4, .plain .mv, [.lit (.bool false)], none⟩] []) .ret) .skip)) (.ops [⟨some 84, .plain .mv, [.tmp 9], none⟩, ⟨some 85, .plain (.load true 4), [.tmp 12], none⟩, ⟨some 86, .plain (.indexArr 3 4), [.tmp 7, .tmp 84], none⟩, ⟨none, .plain (.store 4), [.tmp 86, .tmp 85], none⟩] [84, 85, 86]))))) (.ops [⟨some 42, .plain .mv, [.tmp 9], none⟩, ⟨some 43, .plain (.bin .add), [.tmp 42, .lit (.int .i64 1)], none⟩, ⟨some 9, .plain .mv, [.tmp 43], none⟩] [42, 43])))))) (.seq (.ops [⟨some 15, .plain .mv, [.lit (.int .i64 1)], none⟩] []) (.seq (.seq (.ops [⟨some 16, .plain .mv, [.lit (.int .i64 0)], none⟩] []) (.block 2 (.loop (.seq (.seq (.ops [⟨some 87, .plain .mv, [.tmp 16], none⟩, ⟨some 88, .plain .mv, [.tmp 1], none⟩, ⟨some 89, .plain (.bin .lss), [.tmp 87, .tmp 88], none⟩] [87, 88]) (.cond (.tmp 89) .skip (.exit 2))) (.seq (.block 3 (.ops [⟨some 92, .plain .mv, [.tmp 15], none⟩, ⟨some 93, .plain (.bin .mul), [.lit (.int .i64 10), .tmp 92], none⟩, ⟨some 15, .plain .mv, [.tmp 93], none⟩] [92, 93])) (.ops [⟨some 90, .plain .mv, [.tmp 16], none⟩, ⟨some 91, .plain (.bin .add), [.tmp 90, .lit (.int .i64 1)], none⟩, ⟨some 16, .plain .mv, [.tmp 91], none⟩] [90, 91])))))) (.seq (.draw (.step ⟨some 94, .plain (.indexArr 3 4), [.tmp 7, .lit (.int .i64 0)], none⟩ (.step ⟨some 95, .plain (.fieldAddr 1), [.tmp 94], none⟩ (.step ⟨some 96, .plain (.load false 1), [.tmp 95], none⟩ (.step ⟨some 97, .plain .mv, [.tmp 15], none⟩ (.step ⟨some 98, .plain (.bin .mul), [.tmp 96, .tmp 97], none⟩ (.step ⟨some 99, .plain (.indexArr 3 4), [.tmp 7, .lit (.int .i64 1)], none⟩ (.step ⟨some 100, .plain (.fieldAddr 1), [.tmp 99], none⟩ (.step ⟨some 101, .plain (.load false 1), [.tmp 100], none⟩ (.step ⟨some 102, .plain .mv, [.tmp 15], none⟩ (.step ⟨some 103, .plain (.bin .mul), [.tmp 101, .tmp 102], none⟩ (.step ⟨some 17, .plain .mv, [.tmp 98], none⟩ (.step ⟨some 18, .plain .mv, [.tmp 103], none⟩ .done)))))))))))) [94, 95, 96, 97, 98, 99, 100, 101, 102, 103]) (.seq (.seq (.ops [⟨some 104, .plain .mv, [.tmp 17], none⟩, ⟨some 105, .plain .mv, [.tmp 0], none⟩, ⟨some 106, .plain (.bin .gtr), [.tmp 104, .tmp 105], none⟩, ⟨some 107, .plain .mv, [.tmp 106], none⟩, ⟨some 108, .plain .mv, [.tmp 18], (some (107, false))⟩, ⟨some 109, .plain .mv, [.tmp 0], (some (107, false))⟩, ⟨some 110, .plain (.bin .lss), [.tmp 108, .tmp 109], (some (107, false))⟩, ⟨some 111, .plain .pick, [.tmp 107, .lit (.bool true), .tmp 110], none⟩, ⟨some 112, .plain .mv, [.tmp 111], none⟩, ⟨some 113, .plain .mv, [.tmp 0], (some (112, false))⟩, ⟨some 114, .plain .mv, [.tmp 17], (some (112, false))⟩, ⟨some 115, .plain (.bin .sub), [.tmp 113, .tmp 114], (some (112, false))⟩, ⟨some 116, .plain .mv, [.tmp 15], (some (112, false))⟩, ⟨some 117, .plain (.bin .geq), [.tmp 115, .tmp 116], (some (112, false))⟩, ⟨some 118, .plain .pick, [.tmp 112, .lit (.bool true), .tmp 117], none⟩, ⟨some 119, .plain .mv, [.tmp 118], none⟩, ⟨some 120, .plain .mv, [.tmp 18], (some (119, false))⟩, ⟨some 121, .plain .mv, [.tmp 0], (some (119, false))⟩, ⟨some 122, .plain (.bin .sub), [.tmp 120, .tmp 121], (some (119, false))⟩, ⟨some 123, .plain .mv, [.tmp 15], (some (119, false))⟩, ⟨some 124, .plain (.bin .geq), [.tmp 122, .tmp 123], (some (119, false))⟩, ⟨some 125, .plain .pick, [.tmp 119, .lit (.bool true), .tmp 124], none⟩] [104, 105, 106, 107, 108, 109, 110, 111, 112, 113, 114, 115, 116, 117, 118, 119, 120, 121, 122, 123, 124]) (.cond (.tmp 125) (.seq (.ops [⟨some 4, .plain .mv, [.lit (.bool false)], none⟩] []) .ret) .skip)) (.seq (.ops [⟨some 126, .plain .mv, [.tmp 0], none⟩, ⟨some 127, .plain .mv, [.tmp 15], none⟩, ⟨some 128, .plain (.bin .rem), [.tmp 126, .tmp 127], none⟩, ⟨some 129, .plain (.bin .neq), [.tmp 128, .lit (.int .i64 0)], none⟩, ⟨some 130, .plain .mv, [.tmp 129], none⟩, ⟨some 131, .plain (.indexArr 3 4), [.tmp 7, .lit (.int .i64 0)], (some (130, false))⟩, ⟨some 132, .plain (.load true 4), [.tmp 131], (some (130, false))⟩, ⟨some 133, .plain (.indexArr 3 4), [.tmp 7, .lit (.int .i64 1)], (some (130, false))⟩, ⟨some 134, .plain (.load true 4), [.tmp 133], (some (130, false))⟩, ⟨some 135, .plain (.eqAgg false [.int, .int, .int, .str]), [.tmp 132, .tmp 134], (some (130, false))⟩, ⟨some 136, .plain .mv, [.tmp 135], (some (130, false))⟩, ⟨some 137, .plain (.indexArr 3 4), [.tmp 7, .lit (.int .i64 1)], (some (136, true))⟩, ⟨some 138, .plain (.load true 4), [.tmp 137], (some (136, true))⟩, ⟨some 139, .plain (.indexArr 3 4), [.tmp 7, .lit (.int .i64 2)], (some (136, true))⟩, ⟨some 140, .plain (.load true 4), [.tmp 139], (some (136, true))⟩, ⟨some 141, .plain (.eqAgg false [.int, .int, .int, .str]), [.tmp 138, .tmp 140], (some (136, true))⟩, ⟨some 142, .plain .pick, [.tmp 136, .tmp 141, .lit (.bool false)], (some (130, false))⟩, ⟨some 143, .plain .pick, [.tmp 130, .lit (.bool true), .tmp 142], none⟩, ⟨some 144, .plain .mv, [.tmp 143], none⟩, ⟨some 145, .call 8, [], (some (144, true))⟩, ⟨some 146, .plain .pick, [.tmp 144, .tmp 145, .lit (.bool false)], none⟩, ⟨some 4, .plain .mv, [.tmp 146], none⟩] [126, 127, 128, 129, 130, 131, 132, 133, 134, 135, 136, 137, 138, 139, 140, 141, 142, 143, 144, 145, 146]) .ret))))))))))))
end Go.Pm

/- BkV1: contracts: the row of a whole part: its type, its kind. -/
namespace Go.Pm
open Go Go.Proofs
attribute [-simp] List.getElem?_map
attribute [simp] nilCheckA postA_norm
end Go.Pm

/- BkX3: contracts: SUBSTR's row: its type. -/
namespace Go.Pm
open Go Go.Proofs
attribute [-simp] List.getElem?_map
attribute [simp] nilCheckA postA_norm
def nameP : ByteArray := ⟨#[83, 85, 66, 83, 84, 82]⟩
def rowP : List AV := [.int .i64 2, .int .i64 3, .fn 95 [], .fn 96 []]
theorem lk_substr : lkF tabL nameP = some (2, 3, some ((95, []), (96, []))) := rfl
theorem call27X : PCalls Bk.pg 27 [] fun out => out = .ret (.kmap nameP (.agg rowP)) := by
  refine pcalls_of_acalls 1 (ACalls.keepMap (s := nameP) (v := .agg rowP) ((call27N (S := []) (nx := 0)).mono ?_))
  rintro out m' ⟨rfl, L', nx', rfl, h1⟩
  have h2 := h1.2.2 nameP
  rw [lk_substr] at h2
  exact ⟨0, 0, L', rfl, rfl, h2, _, rfl, rfl⟩
def tyB : List AV := tyN 1 31 0
theorem validB : ValidN 1 31 0 := ⟨.inl ⟨rfl, by omega, by omega⟩, by omega, by omega⟩
def tsP (n : Int) : Bool → List (List AV)
  | false => [tyC n false, tyB]
  | true => [tyC n false, tyB, tyB]
def askX (n : Int) (j : Bool) (x : AV) : AV := .agg [.list true 6 (tsP n j), x]
theorem call66X {n i : Int} {j : Bool} {x : AV} (hi : i = 1 ∨ i = 2 ∧ j = true) (hx : Known x) : PCalls Bk.pg 66 [askX n j x, .int .i64 i] fun out => out = .ret (.agg tyB) := by
  refine ok66.pcalls (by simp) ?_
  have c1 := call159 validB
  have z : eqI 0 0 = true := rfl
  have z12 : ltI 1 2 = true := rfl
  have z13 : ltI 1 3 = true := rfl
  have z23 : ltI 2 3 = true := rfl
  simp only [tyB, tyN, ty] at c1 ⊢
  rcases hi with rfl | ⟨rfl, rfl⟩
  · cases j <;> rcases hx with rfl | ⟨els, rfl, hn⟩
    all_goals
      simp [c66, askX, tsP, tyB, tyC, tyN, ty, z12, z13]
      refine xcall_p c1 (by simp) ?_
      simp [z]
      refine xcall_p (call28 (e := 10)) (by simp) ?_
      simp [cr66]
  · rcases hx with rfl | ⟨els, rfl, hn⟩
    all_goals
      simp [c66, askX, tsP, tyB, tyC, tyN, ty, z23]
      refine xcall_p c1 (by simp) ?_
      simp [z]
      refine xcall_p (call28 (e := 10)) (by simp) ?_
      simp [cr66]
theorem call91 {n : Int} {j : Bool} {x : AV} (hx : Known x) : PCalls Bk.pg 91 [askX n j x, .int .i64 0, .int .i64 0] fun out => out = .ret (.agg (tyC n false)) := by
  refine ok91.pcalls (by simp) ?_
  have z : eqI 0 0 = true := rfl
  have z02 : ltI 0 2 = true := rfl
  have z03 : ltI 0 3 = true := rfl
  have z45 : eqI 4 5 = false := rfl
  have z44 : eqI 4 4 = true := rfl
  have l45 : leI 4 5 = true := rfl
  cases j <;> rcases hx with rfl | ⟨els, rfl, hn⟩
  all_goals
    simp [c91, askX, tsP, tyB, tyC, tyN, ty, z02, z03, l45]
    refine xcall_p (call28 (e := 10)) (by simp) ?_
    simp [z, z45, z44, cr91]
theorem call95 {n : Int} {j : Bool} {x : AV} (hx : Known x) : PCalls Bk.pg 95 [askX n j x] fun out => out = .ret (.agg (tyC n true)) := by
  refine ok95.pcalls (by simp) ?_
  have c91 := call91 (n := n) (j := j) hx
  have c66 := fun i hi => call66X (n := n) (i := i) (j := j) hi hx
  have w1 : IntKind.i64.wrap 2 = 2 := rfl
  have w2 : IntKind.i64.wrap 3 = 3 := rfl
  have z12 : ltI 1 2 = true := rfl
  have z22 : ltI 2 2 = false := rfl
  have z13 : ltI 1 3 = true := rfl
  have z23 : ltI 2 3 = true := rfl
  have z33 : ltI 3 3 = false := rfl
  cases j
  · have c1 := c66 1 (.inl rfl)
    simp only [askX, tsP, tyB, tyC, tyN, ty] at c91 c1 ⊢
    rcases hx with rfl | ⟨els, rfl, hn⟩
    all_goals
      simp [c95]
      refine xcall_p c91 (by first | simp; done | simp [hn]) ?_
      simp
      refine wpS_loopS (ι := Nat) (fun i => [(1, .ptr 0 0 0), (2, .ptr 1 1 0), (3, .ptr 2 2 0), (4, .int .i64 (i : Nat))])
        (fun _ => ⟨[(0, .cells [.list true 6 (tsP n false), _]), (1, .cells (ty 0 0 0 0 false ⟨#[]⟩)), (2, .cells (tyC n false))], 3⟩) (fun i => 2 - i) (fun i => 1 ≤ i ∧ i ≤ 2) 1 (by decide)
        (Sim.of_le (Env.le_of (by simp)) (Mem.le_of rfl (by first | (simp [tsP, tyB, tyC, tyN, ty]; done) | (simp [tsP, tyB, tyC, tyN, ty]; rfl)))) ?_
      intro i hi
      have hi' : i = 1 ∨ i = 2 := by omega
      rcases hi' with rfl | rfl
      · simp [tsP, tyB, tyC, tyN, ty, z12]
        refine xcall_p c1 (by first | simp; done | simp [hn]) ?_
        simp [w1]
        exact ⟨2, by omega, by omega, Sim.of_le (Env.le_of (by simp)) (Mem.le_of rfl (by simp [tsP, tyB, tyC, tyN, ty]))⟩
      · simp [tsP, tyB, tyC, tyN, ty, z22, cr95]
  · have c1 := c66 1 (.inl rfl)
    have c2 := c66 2 (.inr ⟨rfl, rfl⟩)
    simp only [askX, tsP, tyB, tyC, tyN, ty] at c91 c1 c2 ⊢
    rcases hx with rfl | ⟨els, rfl, hn⟩
    all_goals
      simp [c95]
      refine xcall_p c91 (by first | simp; done | simp [hn]) ?_
      simp
      refine wpS_loopS (ι := Nat) (fun i => [(1, .ptr 0 0 0), (2, .ptr 1 1 0), (3, .ptr 2 2 0), (4, .int .i64 (i : Nat))])
        (fun _ => ⟨[(0, .cells [.list true 6 (tsP n true), _]), (1, .cells (ty 0 0 0 0 false ⟨#[]⟩)), (2, .cells (tyC n false))], 3⟩) (fun i => 3 - i) (fun i => 1 ≤ i ∧ i ≤ 3) 1 (by decide)
        (Sim.of_le (Env.le_of (by simp)) (Mem.le_of rfl (by first | (simp [tsP, tyB, tyC, tyN, ty]; done) | (simp [tsP, tyB, tyC, tyN, ty]; rfl)))) ?_
      intro i hi
      have hi' : i = 1 ∨ i = 2 ∨ i = 3 := by omega
      rcases hi' with rfl | rfl | rfl
      · simp [tsP, tyB, tyC, tyN, ty, z13]
        refine xcall_p c1 (by first | simp; done | simp [hn]) ?_
        simp [w1]
        exact ⟨2, by omega, by omega, Sim.of_le (Env.le_of (by simp)) (Mem.le_of rfl (by simp [tsP, tyB, tyC, tyN, ty]))⟩
      · simp [tsP, tyB, tyC, tyN, ty, z23]
        refine xcall_p c2 (by first | simp; done | simp [hn]) ?_
        simp [w2]
        exact ⟨3, by omega, by omega, Sim.of_le (Env.le_of (by simp)) (Mem.le_of rfl (by simp [tsP, tyB, tyC, tyN, ty]))⟩
      · simp [tsP, tyB, tyC, tyN, ty, z33, cr95]
end Go.Pm

/- BkW4: the shelf's contracts at this dump (written by the kit's lay-shelf.mjs and lay-plain.mjs; picked by pickshelf.py). -/
namespace Go.Proofs
open Go.Shelf
def Tryz.lays105_ren : Go.Shelf.Ren := ⟨fun | 105 => 136 | 212 => 201 | 99 => 202 | 165 => 203 | 166 => 204 | 170 => 205 | 169 => 206 | 263 => 279 | 264 => 280 | 206 => 281 | 240 => 282 | 241 => 283 | 276 => 334 | 277 => 335 | n => n, fun | 9 => 9 | 3 => 3 | 4 => 4 | 20 => 20 | 0 => 0 | 46 => 140 | 109 => 178 | 5 => 5 | 72 => 183 | 76 => 186 | 51 => 215 | 146 => 244 | 53 => 217 | 148 => 246 | 70 => 181 | 37 => 84 | 75 => 185 | 127 => 248 | 164 => 286 | 80 => 189 | n => n, fun | n => n⟩
theorem Tryz.lays105 : Go.Proofs.Lays.n105 Tryz.prog Tryz.lays105_ren := {
  mixed := by kernel_rfl
  f99 := Tryz.func202.trans (congrArg some (by kernel_rfl))
  f105 := Tryz.func136.trans (congrArg some (by kernel_rfl))
  f165 := Tryz.func203.trans (congrArg some (by kernel_rfl))
  f166 := Tryz.func204.trans (congrArg some (by kernel_rfl))
  f169 := Tryz.func206.trans (congrArg some (by kernel_rfl))
  f170 := Tryz.func205.trans (congrArg some (by kernel_rfl))
  f206 := Tryz.func281.trans (congrArg some (by kernel_rfl))
  f212 := Tryz.func201.trans (congrArg some (by kernel_rfl))
  f240 := Tryz.func282.trans (congrArg some (by kernel_rfl))
  f241 := Tryz.func283.trans (congrArg some (by kernel_rfl))
  f263 := Tryz.func279.trans (congrArg some (by kernel_rfl))
  f264 := Tryz.func280.trans (congrArg some (by kernel_rfl))
  f276 := Tryz.func334.trans (congrArg some (by kernel_rfl))
  f277 := Tryz.func335.trans (congrArg some (by kernel_rfl))
  t0 := Tryz.underlying0
  a0 := Tryz.isAgg0
  z0 := Tryz.sizeOf0
  v0 := Tryz.zeroValue0
  t3 := Tryz.underlying3
  a3 := Tryz.isAgg3
  z3 := Tryz.sizeOf3
  v3 := Tryz.zeroValue3
  t4 := Tryz.underlying4
  a4 := Tryz.isAgg4
  z4 := Tryz.sizeOf4
  v4 := Tryz.zeroValue4
  t5 := Tryz.underlying5
  a5 := Tryz.isAgg5
  z5 := Tryz.sizeOf5
  v5 := Tryz.zeroValue5
  t9 := Tryz.underlying9
  a9 := Tryz.isAgg9
  z9 := Tryz.sizeOf9
  v9 := Tryz.zeroValue9
  t20 := Tryz.underlying20
  a20 := Tryz.isAgg20
  z20 := Tryz.sizeOf20
  v20 := Tryz.zeroValue20
  t37 := Tryz.underlying84
  a37 := Tryz.isAgg84
  z37 := Tryz.sizeOf84
  v37 := Tryz.zeroValue84
  t46 := Tryz.underlying140
  a46 := Tryz.isAgg140
  z46 := Tryz.sizeOf140
  v46 := Tryz.zeroValue140
  t51 := Tryz.underlying215
  a51 := Tryz.isAgg215
  z51 := Tryz.sizeOf215
  v51 := Tryz.zeroValue215
  t53 := Tryz.underlying217
  a53 := Tryz.isAgg217
  z53 := Tryz.sizeOf217
  v53 := Tryz.zeroValue217
  t70 := Tryz.underlying181
  a70 := Tryz.isAgg181
  z70 := Tryz.sizeOf181
  v70 := Tryz.zeroValue181
  t72 := Tryz.underlying183
  a72 := Tryz.isAgg183
  z72 := Tryz.sizeOf183
  v72 := Tryz.zeroValue183
  t75 := Tryz.underlying185
  a75 := Tryz.isAgg185
  z75 := Tryz.sizeOf185
  v75 := Tryz.zeroValue185
  t76 := Tryz.underlying186
  a76 := Tryz.isAgg186
  z76 := Tryz.sizeOf186
  v76 := Tryz.zeroValue186
  t109 := Tryz.underlying178
  a109 := Tryz.isAgg178
  z109 := Tryz.sizeOf178
  v109 := Tryz.zeroValue178
  t127 := Tryz.underlying248
  a127 := Tryz.isAgg248
  z127 := Tryz.sizeOf248
  v127 := Tryz.zeroValue248
  t146 := Tryz.underlying244
  a146 := Tryz.isAgg244
  z146 := Tryz.sizeOf244
  v146 := Tryz.zeroValue244
  t148 := Tryz.underlying246
  a148 := Tryz.isAgg246
  z148 := Tryz.sizeOf246
  v148 := Tryz.zeroValue246
  t164 := Tryz.underlying286
  a164 := Tryz.isAgg286
  z164 := Tryz.sizeOf286
  v164 := Tryz.zeroValue286 }
theorem Tryz.Builder_Extra_105 : Builder.Extra Tryz.prog Tryz.lays105_ren := {
  sizeBuilder := by kernel_rfl
  liesBuilder := by kernel_rfl
  t5 := Tryz.underlying5
  a5 := Tryz.isAgg5
  z5 := Tryz.sizeOf5
  v5 := Tryz.zeroValue5
  infoByte := by kernel_rfl
  cellsByte := by kernel_rfl
  sizeByte := by kernel_rfl
  neB5 := by decide }
open Go.RowKit Go.Lib in
theorem Tryz.strings_Repeat (s : ByteArray) (c : Nat) (w : World) (hc : c ≤ 9223372036854775807) (hlen : s.size * c ≤ 140737488355328) :
    Calls Tryz.prog 136 #[.string s, .int .i64 c] w fun e w' => e = .returned (.string ⟨(Lib.repeatL s.data.toList c).toArray⟩) ∧ Below w.heap.size w w' := Any.strings_Repeat Tryz.lays105 Tryz.Builder_Extra_105 s c w hc hlen
end Go.Proofs

/- BkX4: contracts: a sample of a string's type. -/
namespace Go.Pm
open Go Go.Proofs
attribute [-simp] List.getElem?_map
attribute [simp] nilCheckA postA_norm
theorem grown_below {w w' : World} (h : RowKit.Below w.heap.size w w') : w.grownBy w' none := ⟨h.os, h.tape, h.output, h.size, fun k hk _ => h.block k hk⟩
def blank : ByteArray := ⟨#[32]⟩
def blanks (n : Nat) : ByteArray := ⟨(Lib.repeatL blank.data.toList n).toArray⟩
theorem call136 {n : Nat} (hn : n ≤ 1000) : PCalls Bk.pg 136 [.str blank, .int .i64 n] fun out => out = .ret (.str (blanks n)) := by
  refine pcalls_of ⟨Tryz.f136, Tryz.func136, by kernel_rfl, by kernel_rfl⟩ rfl fun K w vals hx hl => ?_
  obtain ⟨u, us, rfl, h2, u2, us2, rfl, h3, h4⟩ := hx
  simp only [VR] at h2 h3; rw [VRs] at h4; subst h2; subst h3; subst h4
  have hb : blank.size = 1 := rfl
  refine (Tryz.strings_Repeat blank n w (by omega) (by rw [hb]; omega)).mono ?_
  rintro e w' ⟨rfl, hbl⟩
  exact ⟨_, rfl, grown_below hbl, by rw [VR]; rfl⟩
theorem rep_len : ∀ n, (Lib.repeatL blank.data.toList n).length = n
  | 0 => rfl
  | n + 1 => by
    have hb : blank.data.toList.length = 1 := rfl
    simp only [Lib.repeatL, List.length_append, rep_len n, hb]
    omega
theorem blanks_size (n : Nat) : (blanks n).size = n := by
  have h := rep_len n
  unfold blanks
  simp [ByteArray.size, h]
def smpC (n : Nat) : ByteArray := ⟨(Lib.decDigits 1).toArray⟩ ++ blanks (n - 1)
theorem call53P {n : Nat} (h1 : 1 ≤ n) (h2 : n ≤ 250) : PCalls Bk.pg 53 [.agg (tyC n false), .int .i64 1] fun out => out = .ret (.agg (vlC (smpC n))) := by
  refine ok53.pcalls (by simp) ?_
  have z44 : eqI 4 4 = true := rfl
  have z45 : eqI 4 5 = false := rfl
  have hp : ltI 0 n = true := ltI_t.2 (by omega)
  have hw : IntKind.i64.wrap ((n : Int) - 1) = ((n - 1 : Nat) : Int) := by
    rw [wrap64 (by omega) (by omega)]; omega
  have c136 := call136 (n := n - 1) (by omega)
  have c135 := call135
  have hz : (⟨(Lib.decDigits 1).toArray⟩ : ByteArray).size ≤ 100 := by decide +kernel
  have hb := blanks_size (n - 1)
  unfold smpC
  generalize (⟨(Lib.decDigits 1).toArray⟩ : ByteArray) = s at c135 hz ⊢
  have hsz : s.size + (blanks (n - 1)).size ≤ 9223372036854775807 := by omega
  simp only [blank] at c136
  simp [c53, tyC, ty]
  refine xcall_p c135 (by simp) ?_
  simp [z44, z45, hp]
  simp [hw]
  refine xdcall_p rfl c136 (by simp) ?_
  simp [hsz, cr53, vlC, vl]
end Go.Pm

/- BkX5: contracts: the kind that a part has. Printed by mkx5.py. -/
namespace Go.Pm
open Go Go.Proofs
attribute [-simp] List.getElem?_map
attribute [simp] nilCheckA postA_norm
theorem call54X2 {N : Int} {T : List (Nat × AObj)} {els : List (List AV)} {o2 : Nat × AObj} {g nx : Nat} (hl : els.length = 2) (hn : norefLL els = true) :
    ACalls Bk.pg 54 [.ptr 0 0 0, .ptr 1 1 0, .ptr 4 4 0, .ptr 5 g 0] ⟨[(0, .cells rowP), (1, .cells [.list true 6 (tsP N false)]), o2, (3, .row 24 4 els), (4, .cells [.row 3 3 4 0 2]), (g, .cells (ty 0 0 0 0 false ⟨#[]⟩))] ++ T, nx⟩ fun out m' => out = .ret (.tuple []) ∧
      m' = ⟨[(0, .cells rowP), (1, .cells [.list true 6 (tsP N false)]), o2, (3, .row 24 4 els), (4, .cells [.row 3 3 4 0 2]), (g, .cells (tyC N true))] ++ T, nx⟩ := by
  refine ok54.acalls (by simp) ?_
  have c1 := call95 (n := N) (j := false) (x := .list false 4 els) (.inr ⟨els, rfl, hn⟩)
  have htk : els.take 2 = els := List.take_of_length_le (by omega)
  simp only [askX, tsP, tyB, tyC, tyN, ty] at c1 ⊢
  simp [c54, rowP]
  refine xcall_p c1 (by simp [htk, hn, hl]) ?_
  simp [cr54]
theorem call34X2 {N : Int} {smp : ByteArray} (hs : PCalls Bk.pg 53 [.agg (tyC N false), .int .i64 1] fun out => out = .ret (.agg (vlC smp))) : PCalls Bk.pg 34 [.agg rowP, .list true 6 (tsP N false)] fun out => out = .ret (.int .i64 4) := by
  refine ok34.pcalls (by simp) ?_
  have c53 := hs
  have c53B : PCalls Bk.pg 53 [.agg tyB, .int .i64 1] fun out => out = .ret (.agg (vlN 1 (sampN 1 31 0) 0)) := call53 (k := 1) (p := 31) (q := 0) validB
  have z02 : ltI 0 2 = true := rfl
  have z0 : ltI 0 2 = true := rfl
  have w1 : IntKind.i64.wrap 1 = 1 := rfl
  have z1 : ltI 1 2 = true := rfl
  have w2 : IntKind.i64.wrap 2 = 2 := rfl
  have ze : ltI 2 2 = false := rfl
  have z : eqI 0 0 = true := rfl
  have c54 := fun (nx : Nat) => call54X2 (N := N) (T := [(nx + 1, .cells [.int .i64 0])]) (els := [vlC smp, vlN 1 (sampN 1 31 0) 0]) (o2 := (2, .row 3 1 [[.int .i64 1], [.int .i64 0]])) (g := nx) (nx := nx + 2) rfl rfl
  generalize sampN 1 31 0 = B at c53B c54
  simp only [tyB, tyC, tyN, ty, vlN, vlC, vl] at c53 c53B
  simp [c34, rowP, tsP, tyB, tyC, tyN, ty]
  refine wpS_loopS (ι := Unit) (fun _ => [(2, .ptr 0 0 0), (3, .ptr 1 1 0), (12, .row 2 2 1 0 2), (13, .int .i64 2), (14, .int .i64 0)]) (fun _ => ⟨[(0, .cells rowP), (1, .cells [.list true 6 (tsP N false)]), (2, .row 3 1 [[.int .i64 1], [.int .i64 0]])], 3⟩) (fun _ => 0) (fun _ => True) () trivial
    (Sim.of_le (Env.le_of (by simp)) (Mem.le_of rfl (by simp [rowP, tsP, tyB, tyC, tyN, ty]; rfl))) ?_
  rintro _ _
  simp [z02, rowP, tsP, tyB, tyC, tyN, ty]
  refine wpS_loopS (ι := Nat × Nat) (fun s => [(2, .ptr 0 0 0), (3, .ptr 1 1 0), (6, .int .i64 1), (7, .ptr 4 4 0), (12, .row 2 2 1 0 2), (13, .int .i64 2), (14, .int .i64 0), (21, .list true 6 (tsP N false)), (22, .int .i64 2), (23, .int .i64 (s.1 : Nat))])
    (fun s => ⟨[(0, .cells rowP), (1, .cells [.list true 6 (tsP N false)]), (2, .row 3 1 [[.int .i64 1], [.int .i64 0]]), (3, .row 24 4 (([vlC smp, vlN 1 B 0] : List (List AV)).take s.1 ++ List.replicate (2 - s.1) (vl 0 0 0 ⟨#[]⟩))), (4, .cells [.row 3 3 4 0 2])], s.2⟩) (fun s => 2 - s.1) (fun s => s.1 ≤ 2) (0, 5) (by decide)
    (Sim.of_le (Env.le_of (by simp [tsP, tyB, tyC, tyN, ty])) (Mem.le_of rfl (by simp [rowP, tsP, tyB, tyC, tyN, ty, vl, List.replicate]))) ?_
  rintro ⟨i, nx⟩ hi
  simp only at hi
  have hi' : i = 0 ∨ i = 1 ∨ i = 2 := by omega
  rcases hi' with rfl | rfl | rfl
  · simp [z0, rowP, tsP, tyB, tyC, tyN, ty, List.replicate, vl]
    refine xdcall_p rfl c53 (by simp) ?_
    simp [w1, z0]
    exact ⟨1, by omega, by omega, _, Sim.of_le (Env.le_of (by simp)) (Mem.le_of rfl (by simp [vlN, vlC, vl, List.replicate, tsP, tyB, tyC, tyN, ty]))⟩
  · simp [z1, rowP, tsP, tyB, tyC, tyN, ty, List.replicate, vl]
    refine xdcall_p rfl c53B (by simp) ?_
    simp [w2, z1]
    exact ⟨2, by omega, by omega, _, Sim.of_le (Env.le_of (by simp)) (Mem.le_of rfl (by simp [vlN, vlC, vl, List.replicate, tsP, tyB, tyC, tyN, ty]))⟩
  · simp [ze, rowP, tsP, tyB, tyC, tyN, ty, List.replicate]
    have c54 := c54 nx
    have c25 := call25 (f := 54) (caps := [.ptr 0 0 0, .ptr 1 1 0, .ptr 4 4 0, .ptr 5 nx 0]) (S := [(0, .cells rowP), (1, .cells [.list true 6 (tsP N false)]), (2, .row 3 1 [[.int .i64 1], [.int .i64 0]]), (3, .row 24 4 [vlC smp, vlN 1 B 0]), (4, .cells [.row 3 3 4 0 2]), (nx, .cells (ty 0 0 0 0 false ⟨#[]⟩))]) (nx := nx + 1)
      (Q := fun S' => S' = [(0, .cells rowP), (1, .cells [.list true 6 (tsP N false)]), (2, .row 3 1 [[.int .i64 1], [.int .i64 0]]), (3, .row 24 4 [vlC smp, vlN 1 B 0]), (4, .cells [.row 3 3 4 0 2]), (nx, .cells (tyC N true))])
      (c54.mono fun out m' ⟨ho, hm⟩ => ⟨ho, _, nx + 2, hm, rfl, rfl⟩)
    simp only [rowP, tsP, tyB, tyC, tyN, ty] at c25
    refine xcall_r c25 ?_ ?_
    · rintro v m' ⟨hv, S', nx', rfl, rfl⟩
      cases hv
      simp [z, cr34]
    · rintro v m' ⟨hv, _⟩
      cases hv
theorem call54X3 {N : Int} {T : List (Nat × AObj)} {els : List (List AV)} {o2 : Nat × AObj} {g nx : Nat} (hl : els.length = 3) (hn : norefLL els = true) :
    ACalls Bk.pg 54 [.ptr 0 0 0, .ptr 1 1 0, .ptr 4 4 0, .ptr 5 g 0] ⟨[(0, .cells rowP), (1, .cells [.list true 6 (tsP N true)]), o2, (3, .row 24 4 els), (4, .cells [.row 3 3 4 0 3]), (g, .cells (ty 0 0 0 0 false ⟨#[]⟩))] ++ T, nx⟩ fun out m' => out = .ret (.tuple []) ∧
      m' = ⟨[(0, .cells rowP), (1, .cells [.list true 6 (tsP N true)]), o2, (3, .row 24 4 els), (4, .cells [.row 3 3 4 0 3]), (g, .cells (tyC N true))] ++ T, nx⟩ := by
  refine ok54.acalls (by simp) ?_
  have c1 := call95 (n := N) (j := true) (x := .list false 4 els) (.inr ⟨els, rfl, hn⟩)
  have htk : els.take 3 = els := List.take_of_length_le (by omega)
  simp only [askX, tsP, tyB, tyC, tyN, ty] at c1 ⊢
  simp [c54, rowP]
  refine xcall_p c1 (by simp [htk, hn, hl]) ?_
  simp [cr54]
theorem call34X3 {N : Int} {smp : ByteArray} (hs : PCalls Bk.pg 53 [.agg (tyC N false), .int .i64 1] fun out => out = .ret (.agg (vlC smp))) : PCalls Bk.pg 34 [.agg rowP, .list true 6 (tsP N true)] fun out => out = .ret (.int .i64 4) := by
  refine ok34.pcalls (by simp) ?_
  have c53 := hs
  have c53B : PCalls Bk.pg 53 [.agg tyB, .int .i64 1] fun out => out = .ret (.agg (vlN 1 (sampN 1 31 0) 0)) := call53 (k := 1) (p := 31) (q := 0) validB
  have z02 : ltI 0 2 = true := rfl
  have z0 : ltI 0 3 = true := rfl
  have w1 : IntKind.i64.wrap 1 = 1 := rfl
  have z1 : ltI 1 3 = true := rfl
  have w2 : IntKind.i64.wrap 2 = 2 := rfl
  have z2 : ltI 2 3 = true := rfl
  have w3 : IntKind.i64.wrap 3 = 3 := rfl
  have ze : ltI 3 3 = false := rfl
  have z : eqI 0 0 = true := rfl
  have c54 := fun (nx : Nat) => call54X3 (N := N) (T := [(nx + 1, .cells [.int .i64 0])]) (els := [vlC smp, vlN 1 (sampN 1 31 0) 0, vlN 1 (sampN 1 31 0) 0]) (o2 := (2, .row 3 1 [[.int .i64 1], [.int .i64 0]])) (g := nx) (nx := nx + 2) rfl rfl
  generalize sampN 1 31 0 = B at c53B c54
  simp only [tyB, tyC, tyN, ty, vlN, vlC, vl] at c53 c53B
  simp [c34, rowP, tsP, tyB, tyC, tyN, ty]
  refine wpS_loopS (ι := Unit) (fun _ => [(2, .ptr 0 0 0), (3, .ptr 1 1 0), (12, .row 2 2 1 0 2), (13, .int .i64 2), (14, .int .i64 0)]) (fun _ => ⟨[(0, .cells rowP), (1, .cells [.list true 6 (tsP N true)]), (2, .row 3 1 [[.int .i64 1], [.int .i64 0]])], 3⟩) (fun _ => 0) (fun _ => True) () trivial
    (Sim.of_le (Env.le_of (by simp)) (Mem.le_of rfl (by simp [rowP, tsP, tyB, tyC, tyN, ty]; rfl))) ?_
  rintro _ _
  simp [z02, rowP, tsP, tyB, tyC, tyN, ty]
  refine wpS_loopS (ι := Nat × Nat) (fun s => [(2, .ptr 0 0 0), (3, .ptr 1 1 0), (6, .int .i64 1), (7, .ptr 4 4 0), (12, .row 2 2 1 0 2), (13, .int .i64 2), (14, .int .i64 0), (21, .list true 6 (tsP N true)), (22, .int .i64 3), (23, .int .i64 (s.1 : Nat))])
    (fun s => ⟨[(0, .cells rowP), (1, .cells [.list true 6 (tsP N true)]), (2, .row 3 1 [[.int .i64 1], [.int .i64 0]]), (3, .row 24 4 (([vlC smp, vlN 1 B 0, vlN 1 B 0] : List (List AV)).take s.1 ++ List.replicate (3 - s.1) (vl 0 0 0 ⟨#[]⟩))), (4, .cells [.row 3 3 4 0 3])], s.2⟩) (fun s => 3 - s.1) (fun s => s.1 ≤ 3) (0, 5) (by decide)
    (Sim.of_le (Env.le_of (by simp [tsP, tyB, tyC, tyN, ty])) (Mem.le_of rfl (by simp [rowP, tsP, tyB, tyC, tyN, ty, vl, List.replicate]))) ?_
  rintro ⟨i, nx⟩ hi
  simp only at hi
  have hi' : i = 0 ∨ i = 1 ∨ i = 2 ∨ i = 3 := by omega
  rcases hi' with rfl | rfl | rfl | rfl
  · simp [z0, rowP, tsP, tyB, tyC, tyN, ty, List.replicate, vl]
    refine xdcall_p rfl c53 (by simp) ?_
    simp [w1, z0]
    exact ⟨1, by omega, by omega, _, Sim.of_le (Env.le_of (by simp)) (Mem.le_of rfl (by simp [vlN, vlC, vl, List.replicate, tsP, tyB, tyC, tyN, ty]))⟩
  · simp [z1, rowP, tsP, tyB, tyC, tyN, ty, List.replicate, vl]
    refine xdcall_p rfl c53B (by simp) ?_
    simp [w2, z1]
    exact ⟨2, by omega, by omega, _, Sim.of_le (Env.le_of (by simp)) (Mem.le_of rfl (by simp [vlN, vlC, vl, List.replicate, tsP, tyB, tyC, tyN, ty]))⟩
  · simp [z2, rowP, tsP, tyB, tyC, tyN, ty, List.replicate, vl]
    refine xdcall_p rfl c53B (by simp) ?_
    simp [w3, z2]
    exact ⟨3, by omega, by omega, _, Sim.of_le (Env.le_of (by simp)) (Mem.le_of rfl (by simp [vlN, vlC, vl, List.replicate, tsP, tyB, tyC, tyN, ty]))⟩
  · simp [ze, rowP, tsP, tyB, tyC, tyN, ty, List.replicate]
    have c54 := c54 nx
    have c25 := call25 (f := 54) (caps := [.ptr 0 0 0, .ptr 1 1 0, .ptr 4 4 0, .ptr 5 nx 0]) (S := [(0, .cells rowP), (1, .cells [.list true 6 (tsP N true)]), (2, .row 3 1 [[.int .i64 1], [.int .i64 0]]), (3, .row 24 4 [vlC smp, vlN 1 B 0, vlN 1 B 0]), (4, .cells [.row 3 3 4 0 3]), (nx, .cells (ty 0 0 0 0 false ⟨#[]⟩))]) (nx := nx + 1)
      (Q := fun S' => S' = [(0, .cells rowP), (1, .cells [.list true 6 (tsP N true)]), (2, .row 3 1 [[.int .i64 1], [.int .i64 0]]), (3, .row 24 4 [vlC smp, vlN 1 B 0, vlN 1 B 0]), (4, .cells [.row 3 3 4 0 3]), (nx, .cells (tyC N true))])
      (c54.mono fun out m' ⟨ho, hm⟩ => ⟨ho, _, nx + 2, hm, rfl, rfl⟩)
    simp only [rowP, tsP, tyB, tyC, tyN, ty] at c25
    refine xcall_r c25 ?_ ?_
    · rintro v m' ⟨hv, S', nx', rfl, rfl⟩
      cases hv
      simp [z, cr34]
    · rintro v m' ⟨hv, _⟩
      cases hv
end Go.Pm

/- BkV2: contracts: the kind that a whole part has. -/
namespace Go.Pm
open Go Go.Proofs
attribute [-simp] List.getElem?_map
attribute [simp] nilCheckA postA_norm
end Go.Pm

/- BkV3: contracts: one argument as a number; a number, fitted to the result's type. -/
namespace Go.Pm
open Go Go.Proofs
attribute [-simp] List.getElem?_map
attribute [simp] nilCheckA postA_norm
end Go.Pm

/- BkX6: contracts: a part's arguments. -/
namespace Go.Pm
open Go Go.Proofs
attribute [-simp] List.getElem?_map
attribute [simp] nilCheckA postA_norm
theorem ok122T : FOk Bk.pg.toProgram Bk.imp116 122 c122 cr122 Tryz.f122.ntmps := ⟨Tryz.f122, _, Tryz.func122, rfl, by kernel_rfl, by kernel_rfl, by kernel_rfl, rfl⟩
def vlB (n : Int) : List AV := vlN 1 n 0
def avP (s : ByteArray) (a b : Int) : Bool → List (List AV)
  | false => [vlC s, vlB a]
  | true => [vlC s, vlB a, vlB b]
def callX (s : ByteArray) (a b : Int) (j : Bool) (rp rg : Nat) : List AV :=
  [.list true 6 (tsP s.size j), .nilS, .list true 4 (avP s a b j), .int .i64 4, .int .i64 0, .int .i64 0, .int .i64 s.size, .bool true, .str ⟨#[]⟩, .fn 35 [.ptr rp rg 0]]
theorem call116X {s : ByteArray} {a b x i : Int} {j : Bool} {S : List (Nat × AObj)} {nx rp rg : Nat} (h : HasN 1 31 0 x) (hi : i = 1 ∧ x = a ∨ i = 2 ∧ x = b ∧ j = true) (hr : S[rp]? = some (rg, .cells (rz 0))) :
    ACalls Bk.pg 116 [.agg (callX s a b j rp rg), .int .i64 i, .agg tyB] ⟨S, nx⟩ fun out m' => out = .ret (.agg (vlB x)) ∧ m' = ⟨S, nx + 6⟩ := by
  refine ACalls.forget (ok116.acalls (by simp) ?_)
  have c1 : PCalls Bk.pg 137 [.agg (vlN 1 x 0), .agg (tyN 1 31 0), .agg (tyN 1 31 0)] fun out => out = .ret (.tuple [.agg (vlN 1 x 0), .agg (rz 0), .int .i64 0]) := by
    have c1 := call137 (k1 := 1) (p1 := (31 : Nat)) (q1 := (0 : Nat)) (n := x) (k2 := 1) (p2 := 31) (q2 := 0) h validB
    obtain ⟨f1, f2⟩ := fit_self (k := 1) (p := 31) (q := 0) h
    rw [f1, f2] at c1
    exact c1
  have tl := (List.getElem?_eq_some_iff.1 hr).1
  have z12 : ltI 1 2 = true := rfl
  have z13 : ltI 1 3 = true := rfl
  have z23 : ltI 2 3 = true := rfl
  have c2 := fun (A : List (Nat × AObj)) (x : Nat) => call35 (d := 0) (S := S ++ A) (nx := x) (rp := rp) (rg := rg) (by rw [List.getElem?_append_left tl]; exact hr)
  have c3 : ∀ A, (S ++ A).set rp (rg, .cells (rz 0)) = S ++ A := fun A => set_same (by rw [List.getElem?_append_left tl]; exact hr)
  simp only [c3] at c2
  simp only [vlB, tyB, vlN, vl, tyN, ty, rz] at c1 c2 ⊢
  rcases hi with ⟨rfl, rfl⟩ | ⟨rfl, rfl, rfl⟩
  · cases j
    all_goals
      simp [c116, callX, avP, tsP, vlB, vlC, tyB, tyC, vlN, vl, tyN, ty, z12, z13]
      refine xdcall_p rfl c1 (by simp) ?_
      simp
      refine ⟨?_, ?_⟩
      all_goals
        refine xcall_a (c2 _ _) ?_
        simp [cr116]
        exact Mem.le_of rfl (by simp)
  · simp [c116, callX, avP, tsP, vlB, vlC, tyB, tyC, vlN, vl, tyN, ty, z23]
    refine xdcall_p rfl c1 (by simp) ?_
    simp
    refine ⟨?_, ?_⟩
    all_goals
      refine xcall_a (c2 _ _) ?_
      simp [cr116]
      exact Mem.le_of rfl (by simp)
theorem call122X {s : ByteArray} {a b x i : Int} {j : Bool} {S : List (Nat × AObj)} {nx rp rg : Nat} (h : HasN 1 31 0 x) (hi : i = 1 ∧ x = a ∨ i = 2 ∧ x = b ∧ j = true) (hr : S[rp]? = some (rg, .cells (rz 0))) :
    ACalls Bk.pg 122 [.agg (callX s a b j rp rg), .int .i64 i] ⟨S, nx⟩ fun out m' => out = .ret (.int .i64 x) ∧ m' = ⟨S, nx + 7⟩ := by
  refine ACalls.forget (ok122T.acalls (by simp) ?_)
  have tl := (List.getElem?_eq_some_iff.1 hr).1
  have c1 := call67
  have c2 := fun (A : List (Nat × AObj)) (y : Nat) => call116X (s := s) (a := a) (b := b) (i := i) (j := j) (S := S ++ A) (nx := y) (rp := rp) (rg := rg) h hi (by rw [List.getElem?_append_left tl]; exact hr)
  simp only [callX, vlB, tyB, vlN, vl, tyN, ty] at c1 c2 ⊢
  simp [c122]
  refine xdcall_p rfl c1 (by simp) ?_
  simp
  refine xdcall_a rfl (c2 _ _) ?_
  simp [cr122]
  exact Mem.le_of rfl (by simp)
theorem noref_tsP {n : Int} {j : Bool} : norefLL (tsP n j) = true := by cases j <;> rfl
theorem call93 {s : ByteArray} {a b : Int} {j : Bool} {S : List (Nat × AObj)} {nx rp rg : Nat} :
    ACalls Bk.pg 93 [.agg (callX s a b j rp rg), .int .i64 0, .int .i64 0] ⟨S, nx⟩ fun out m' => out = .ret (.agg (vlC s)) ∧ m' = ⟨S, nx + 3⟩ := by
  refine ACalls.forget (ok93.acalls (by simp) ?_)
  have c1 := call91 (n := s.size) (j := j) (x := .nilS) (.inl rfl)
  have z02 : ltI 0 2 = true := rfl
  have z03 : ltI 0 3 = true := rfl
  have z44 : eqI 4 4 = true := rfl
  simp only [askX, vlC, tyC, vl, ty] at c1 ⊢
  simp [c93, callX]
  refine xcall_p c1 (by simp [noref_tsP]) ?_
  cases j
  all_goals
    simp [tsP, avP, tyB, tyC, vlB, vlC, vlN, vl, tyN, ty, z02, z03, z44, cr93]
    exact Mem.le_of rfl (by simp)
theorem call86X {s : ByteArray} {a b d : Int} {j : Bool} {S : List (Nat × AObj)} {nx rp rg : Nat} (hr : S[rp]? = some (rg, .cells (rz 0))) :
    ACalls Bk.pg 86 [.agg (callX s a b j rp rg), .int .i64 d] ⟨S, nx⟩ fun out m' => out = .ret (.tuple []) ∧ m' = ⟨S.set rp (rg, .cells (rz d)), nx + 2⟩ := by
  refine ACalls.forget (ok86.acalls (by simp) ?_)
  have tl := (List.getElem?_eq_some_iff.1 hr).1
  have c2 := fun (A : List (Nat × AObj)) (x : Nat) => call35 (d := d) (S := S ++ A) (nx := x) (rp := rp) (rg := rg) (by rw [List.getElem?_append_left tl]; exact hr)
  have c3 : ∀ A, (S ++ A).set rp (rg, .cells (rz d)) = S.set rp (rg, .cells (rz d)) ++ A := fun A => List.set_append_left _ _ tl
  simp only [c3] at c2
  simp only [callX, rz] at c2 ⊢
  simp [c86]
  refine xcall_a (c2 _ _) ?_
  simp [cr86]
  exact Mem.le_of rfl (by simp)
end Go.Pm

/- BkX7: contracts: a part of a string, the rest of a string; a string fitted to a type. -/
namespace Go.Pm
open Go Go.Proofs
attribute [-simp] List.getElem?_map
attribute [simp] nilCheckA postA_norm
theorem call268_2 {a b : Int} (ha : -1000000000 ≤ a ∧ a ≤ 1000000000) (hb : -1000000000 ≤ b ∧ b ≤ 1000000000) : PCalls Bk.pg 268 [.list false 1 [[.int .i64 a], [.int .i64 b]]] fun out => out = .ret (.bool false) := by
  refine ok268.pcalls (by simp) ?_
  have a1 : ltI 1000000000 a = false := ltI_f.2 ha.2
  have a2 : ltI a (-1000000000) = false := ltI_f.2 ha.1
  have b1 : ltI 1000000000 b = false := ltI_f.2 hb.2
  have b2 : ltI b (-1000000000) = false := ltI_f.2 hb.1
  have z02 : ltI 0 2 = true := rfl
  have z12 : ltI 1 2 = true := rfl
  have z22 : ltI 2 2 = false := rfl
  have w1 : IntKind.i64.wrap 1 = 1 := rfl
  have w2 : IntKind.i64.wrap 2 = 2 := rfl
  simp [c268]
  refine wpS_loop (ι := Nat) (fun i => [(2, .bool false), (5, .list false 1 [[.int .i64 a], [.int .i64 b]]), (6, .int .i64 2), (7, .int .i64 (i : Nat))]) (fun _ => Mem.empty) (fun i => 2 - i) (fun i => i ≤ 2) 0 (by decide) (Env.le_of (by simp)) rfl ?_
  intro i hi
  have hi' : i = 0 ∨ i = 1 ∨ i = 2 := by omega
  rcases hi' with rfl | rfl | rfl
  · simp [z02, a1, a2, w1]
    exact ⟨1, by omega, by omega, Env.le_of (by simp), Mem.le_of rfl (by simp)⟩
  · simp [z12, b1, b2, w2]
    exact ⟨2, by omega, by omega, Env.le_of (by simp), Mem.le_of rfl (by simp)⟩
  · simp [z22, cr268]
theorem call268_1 {a : Int} (ha : -1000000000 ≤ a ∧ a ≤ 1000000000) : PCalls Bk.pg 268 [.list false 1 [[.int .i64 a]]] fun out => out = .ret (.bool false) := by
  refine ok268.pcalls (by simp) ?_
  have a1 : ltI 1000000000 a = false := ltI_f.2 ha.2
  have a2 : ltI a (-1000000000) = false := ltI_f.2 ha.1
  have z01 : ltI 0 1 = true := rfl
  have z11 : ltI 1 1 = false := rfl
  have w1 : IntKind.i64.wrap 1 = 1 := rfl
  simp [c268]
  refine wpS_loop (ι := Nat) (fun i => [(2, .bool false), (5, .list false 1 [[.int .i64 a]]), (6, .int .i64 1), (7, .int .i64 (i : Nat))]) (fun _ => Mem.empty) (fun i => 1 - i) (fun i => i ≤ 1) 0 (by decide) (Env.le_of (by simp)) rfl ?_
  intro i hi
  have hi' : i = 0 ∨ i = 1 := by omega
  rcases hi' with rfl | rfl
  · simp [z01, a1, a2, w1]
    exact ⟨1, by omega, by omega, Env.le_of (by simp), Mem.le_of rfl (by simp)⟩
  · simp [z11, cr268]
theorem call270 : PCalls Bk.pg 270 [.bool true] fun out => out = .ret (.int .i64 0) := by
  refine ok270.pcalls (by simp) ?_
  simp [c270, cr270]
theorem call188 {s t : ByteArray} : PCalls Bk.pg 188 [.agg (vlC s), .str t] fun out => out = .ret (.agg (vlC t)) := by
  refine ok188.pcalls (by simp) ?_
  simp [c188, vlC, vl, cr188]
theorem call269 {l f c : Nat} (h : f + c ≤ l) (hl : l ≤ 250) : PCalls Bk.pg 269 [.int .i64 l, .int .i64 ((f : Int) + 1), .int .i64 c] fun out => out = .ret (.tuple [.int .i64 f, .int .i64 ((f + c : Nat) : Int), .bool true]) := by
  refine ok269.pcalls (by simp) ?_
  obtain ⟨i, hi⟩ : ∃ i : Int, i = (f : Int) + 1 := ⟨_, rfl⟩
  rw [← hi]
  have m1 : (if i < 1 then 1 else i) = i := by split <;> omega
  have wi : IntKind.i64.wrap (i - 1) = f := by rw [wrap64 (by omega) (by omega)]; omega
  have wc : IntKind.i64.wrap (i + c) = i + c := wrap64 (by omega) (by omega)
  have wd : IntKind.i64.wrap (i + c - 1) = ((f + c : Nat) : Int) := by rw [wrap64 (by omega) (by omega)]; omega
  have g1 : leI 1 i = true := leI_t.2 (by omega)
  have g2 : leI 0 c = true := leI_t.2 (by omega)
  have g3 : leI ((f + c : Nat) : Int) l = true := leI_t.2 (by omega)
  obtain ⟨t, ht⟩ : ∃ t : Int, t = ((f + c : Nat) : Int) := ⟨_, rfl⟩
  rw [← ht] at wd g3 ⊢
  have n1 : ¬ l < f := by omega
  have n2 : ¬ (l : Int) < t := by omega
  have n3 : ¬ t < (f : Int) := by omega
  simp [c269, m1, wi, wc, wd, g1, g2, g3, n1, n2, n3, cr269]
theorem chB_part {s : ByteArray} (h : chB s = true) (f t : Nat) : chB (s.extract f t) = true := by
  have hs := chB_size h
  simp only [chB, Bool.and_eq_true] at h ⊢
  refine ⟨leI_t.2 ?_, ?_⟩
  · have : (s.extract f t).size ≤ s.size := by rw [ByteArray.size_extract]; omega
    omega
  · rw [List.all_eq_true] at h ⊢
    intro b hb
    apply h.2
    rw [ByteArray.data_extract, Array.toList_extract] at hb
    exact List.mem_of_mem_drop (List.mem_of_mem_take (show b ∈ (s.data.toList.drop f).take (t - f) from hb))
theorem slice_both {s : ByteArray} {f t : Nat} (h : f ≤ t ∧ t ≤ s.size) : sliceA true true 0 [.str s, .int .i64 f, .int .i64 t] = some (.str (s.extract f t)) := by
  have h0 : (0 : Int) ≤ f := by omega
  simp [sliceA, boundsA, h0, h.1, h.2]
theorem call177 {s : ByteArray} {f c : Nat} (h : chB s = true) (hf : f + c ≤ s.size) : PCalls Bk.pg 177 [.agg (vlC s), .int .i64 ((f : Int) + 1), .int .i64 c] fun out => out = .ret (.tuple [.agg (vlC (s.extract f (f + c))), .int .i64 0, .int .i64 0]) := by
  refine ok177.pcalls (by simp) ?_
  have hs := chB_size h
  have c50 := call50 h
  have c268 := call268_2 (a := (f : Int) + 1) (b := c) (by omega) (by omega)
  have c269 := call269 hf hs
  have c188 := call188 (s := s) (t := s.extract f (f + c))
  have hsl := slice_both (s := s) (f := f) (t := f + c) ⟨by omega, hf⟩
  obtain ⟨t, ht⟩ : ∃ t : Nat, t = f + c := ⟨_, rfl⟩
  rw [← ht] at c269 c188 hsl ⊢
  simp only [vlC, vl] at c50 c188 ⊢
  simp [c177]
  refine xcall_p c50 (by simp) ?_
  simp
  refine xcall_p c268 (by simp [List.range, List.range.loop]) ?_
  simp
  refine xcall_p c269 (by simp) ?_
  simp [hsl]
  refine xdcall_p rfl c188 (by simp) ?_
  simp
  refine xdcall_p rfl call270 (by simp) ?_
  simp [cr177]
end Go.Pm

/- BkX8: contracts: the rest of a string; a string fitted to a type; SUBSTR. -/
namespace Go.Pm
open Go Go.Proofs
attribute [-simp] List.getElem?_map
attribute [simp] nilCheckA postA_norm
theorem call178 {s : ByteArray} {f : Nat} (h : chB s = true) (hf : f ≤ s.size) : PCalls Bk.pg 178 [.agg (vlC s), .int .i64 ((f : Int) + 1)] fun out => out = .ret (.tuple [.agg (vlC (s.extract f s.size)), .int .i64 0, .int .i64 0]) := by
  refine ok178.pcalls (by simp) ?_
  have hs := chB_size h
  have c50 := call50 h
  have c268 := call268_1 (a := (f : Int) + 1) (by omega)
  have c269 := call269 (l := s.size) (f := f) (c := s.size - f) (by omega) hs
  rw [show f + (s.size - f) = s.size by omega] at c269
  have c188 := call188 (s := s) (t := s.extract f s.size)
  have hsl := slice_both (s := s) (f := f) (t := s.size) ⟨by omega, Nat.le_refl _⟩
  have w1 : IntKind.i64.wrap ((s.size : Int) - ((f : Int) + 1)) = (s.size : Int) - ((f : Int) + 1) := wrap64 (by omega) (by omega)
  have w2 : IntKind.i64.wrap ((s.size : Int) - ((f : Int) + 1) + 1) = ((s.size - f : Nat) : Int) := by rw [wrap64 (by omega) (by omega)]; omega
  obtain ⟨r, hr⟩ : ∃ r : Nat, r = s.size - f := ⟨_, rfl⟩
  rw [← hr] at c269 w2
  simp only [vlC, vl] at c50 c188 ⊢
  simp [c178]
  refine xcall_p c50 (by simp) ?_
  simp
  refine xcall_p c268 (by simp [List.range, List.range.loop]) ?_
  simp [w1, w2]
  refine xcall_p c269 (by simp) ?_
  simp [hsl]
  refine xdcall_p rfl c188 (by simp) ?_
  simp
  refine xdcall_p rfl call270 (by simp) ?_
  simp [cr178]
theorem call187 {t : ByteArray} {N : Nat} (h : chB t = true) (hN : t.size ≤ N ∧ N ≤ 250) : PCalls Bk.pg 187 [.agg (vlC t), .agg (tyC N true)] fun out => out = .ret (.tuple [.agg (vlC t), .int .i64 0, .int .i64 0]) := by
  refine ok187.pcalls (by simp) ?_
  have c50 := call50 h
  have c272 := call272 (n := N) (v := true) (by omega)
  have z44 : eqI 4 4 = true := rfl
  have hl : ltI N t.size = false := ltI_f.2 (by omega)
  simp only [vlC, vl, tyC, ty] at c50 c272 ⊢
  simp [c187]
  refine xcall_p c50 (by simp) ?_
  simp
  refine xcall_p c272 (by simp) ?_
  simp [z44, hl, cr187]
theorem call176 {c : Nat} (hc : c ≤ 250) : PCalls Bk.pg 176 [.int .i64 1, .int .i64 c] fun out => out = .ret (.tuple [.int .i64 1, .int .i64 c]) := by
  refine ok176.pcalls (by simp) ?_
  have h0 : ltI c 0 = false := ltI_f.2 (by omega)
  have w1 : IntKind.i64.wrap (1 + (c : Int)) = 1 + c := wrap64 (by omega) (by omega)
  have w2 : IntKind.i64.wrap (1 + (c : Int) - 1) = c := by rw [wrap64 (by omega) (by omega)]; omega
  have w3 : IntKind.i64.wrap 0 = 0 := rfl
  have w4 : IntKind.i64.wrap ((c : Int) - 1) = (c : Int) - 1 := wrap64 (by omega) (by omega)
  have w5 : IntKind.i64.wrap ((c : Int) - 1 + 1) = c := by rw [wrap64 (by omega) (by omega)]; omega
  have n1 : ¬ (5000 : Int) < c := by omega
  have n2 : ¬ (c : Int) < 0 := by omega
  simp [c176, h0, w1, w2, w3, n1, cr176]
  rw [if_neg n2, w4, w5]
theorem call105 {s t : ByteArray} {a b : Int} {j : Bool} {S : List (Nat × AObj)} {nx rp rg : Nat} (h : chB t = true) (hN : t.size ≤ s.size ∧ s.size ≤ 250) (hr : S[rp]? = some (rg, .cells (rz 0))) :
    ACalls Bk.pg 105 [.agg (callX s a b j rp rg), .agg (vlC t)] ⟨S, nx⟩ fun out m' => out = .ret (.agg (vlC t)) ∧ m' = ⟨S, nx + 6⟩ := by
  refine ACalls.forget (ok105.acalls (by simp) ?_)
  have c1 := call187 h hN
  have tl := (List.getElem?_eq_some_iff.1 hr).1
  have c2 := fun (A : List (Nat × AObj)) (x : Nat) => call86X (s := s) (a := a) (b := b) (j := j) (d := 0) (S := S ++ A) (nx := x) (rp := rp) (rg := rg) (by rw [List.getElem?_append_left tl]; exact hr)
  have c3 : ∀ A, (S ++ A).set rp (rg, .cells (rz 0)) = S ++ A := fun A => set_same (by rw [List.getElem?_append_left tl]; exact hr)
  simp only [c3] at c2
  simp only [callX, vlC, vl, tyC, ty] at c1 c2 ⊢
  simp [c105]
  refine xcall_p c1 (by simp) ?_
  simp
  refine xcall_a (c2 _ _) ?_
  simp [cr105]
  exact Mem.le_of rfl (by simp)
end Go.Pm

/- BkS11: code, resolved, where what is called writes. Printed by ShowSC3.lean. -/
namespace Go.Pm
open Go Go.Proofs
def Bk.imp93 : List Go.FuncId := [93, 122]
def c96T : SC :=
 let s3 : DT := (.step ⟨none, .plain (.store 4), [.tmp 3, .tmp 10], none⟩ (.step ⟨some 4, .plain .mv, [.tmp 12], none⟩ .done))
 let s2 : DT := (.step ⟨some 12, .call 122, [.tmp 11, .lit (.int .i64 1)], none⟩ s3)
 let s1 : DT := (.step ⟨some 10, .call 93, [.tmp 9, .lit (.int .i64 0), .lit (.int .i64 0)], none⟩ s2)
 let s0 : DT := (.or (.step ⟨some 12, .call 122, [.tmp 11, .lit (.int .i64 1)], none⟩ (.step ⟨some 3, .plain (.alloc [(.int .i64 0), (.int .i64 0), (.int .i64 0), (.str ⟨#[]⟩)]), [], none⟩ s3)) (.step ⟨some 3, .plain (.alloc [(.int .i64 0), (.int .i64 0), (.int .i64 0), (.str ⟨#[]⟩)]), [], none⟩ s2))
 (.seq (.ops [⟨some 1, .plain (.box 10), [.tmp 0], none⟩, ⟨some 2, .plain (.alloc [(.int .i64 0), (.int .i64 0), (.int .i64 0), (.str ⟨#[]⟩)]), [], none⟩] []) (.seq (.draw (.step ⟨some 9, .plain (.load true 10), [.tmp 1], none⟩ (.or (.step ⟨some 10, .call 93, [.tmp 9, .lit (.int .i64 0), .lit (.int .i64 0)], none⟩ (.step ⟨some 11, .plain (.load true 10), [.tmp 1], none⟩ s0)) (.or (.step ⟨some 11, .plain (.load true 10), [.tmp 1], none⟩ (.or (.step ⟨some 10, .call 93, [.tmp 9, .lit (.int .i64 0), .lit (.int .i64 0)], none⟩ s0) (.step ⟨some 3, .plain (.alloc [(.int .i64 0), (.int .i64 0), (.int .i64 0), (.str ⟨#[]⟩)]), [], none⟩ s1))) (.step ⟨some 3, .plain (.alloc [(.int .i64 0), (.int .i64 0), (.int .i64 0), (.str ⟨#[]⟩)]), [], none⟩ (.or (.step ⟨some 10, .call 93, [.tmp 9, .lit (.int .i64 0), .lit (.int .i64 0)], none⟩ (.step ⟨some 11, .plain (.load true 10), [.tmp 1], none⟩ s2)) (.step ⟨some 11, .plain (.load true 10), [.tmp 1], none⟩ s1)))))) [9, 10, 11, 12]) (.seq (.ops [⟨some 5, .plain (.alloc [(.int .i64 0), (.int .i64 0), (.int .i64 0), (.str ⟨#[]⟩)]), [], none⟩] []) (.seq (.ops [⟨some 6, .plain .mv, [.lit (.int .i64 0)], none⟩] []) (.seq (.seq (.ops [⟨some 13, .plain (.fieldAddr 2), [.tmp 1], none⟩, ⟨some 14, .plain (.load false 1), [.tmp 13], none⟩, ⟨some 15, .plain (.len 1), [.tmp 14], none⟩, ⟨some 16, .plain (.bin .gtr), [.tmp 15, .lit (.int .i64 2)], none⟩] [13, 14, 15]) (.cond (.tmp 16) (.seq (.ops [⟨some 18, .plain .mv, [.tmp 4], none⟩, ⟨some 19, .plain (.load true 10), [.tmp 1], none⟩, ⟨some 20, .call 122, [.tmp 19, .lit (.int .i64 2)], none⟩, ⟨some 21, .call 176, [.tmp 18, .tmp 20], none⟩, ⟨some 17, .plain .mv, [.tmp 21], none⟩, ⟨some 22, .plain (.extract 0), [.tmp 17], none⟩, ⟨some 23, .plain (.extract 1), [.tmp 17], none⟩, ⟨some 7, .plain .mv, [.tmp 22], none⟩, ⟨some 8, .plain .mv, [.tmp 23], none⟩] [18, 19, 20, 21, 17, 22, 23]) (.ops [⟨some 25, .plain (.load true 4), [.tmp 3], none⟩, ⟨some 26, .plain .mv, [.tmp 7], none⟩, ⟨some 27, .plain .mv, [.tmp 8], none⟩, ⟨some 28, .call 177, [.tmp 25, .tmp 26, .tmp 27], none⟩, ⟨some 24, .plain .mv, [.tmp 28], none⟩, ⟨some 29, .plain (.extract 0), [.tmp 24], none⟩, ⟨some 30, .plain (.extract 1), [.tmp 24], none⟩, ⟨some 31, .plain (.extract 2), [.tmp 24], none⟩, ⟨none, .plain (.store 4), [.tmp 5, .tmp 29], none⟩, ⟨some 6, .plain .mv, [.tmp 30], none⟩] [25, 26, 27, 28, 24, 29, 30, 31])) (.ops [⟨some 33, .plain (.load true 4), [.tmp 3], none⟩, ⟨some 34, .plain .mv, [.tmp 4], none⟩, ⟨some 35, .plain .max2, [.tmp 34, .lit (.int .i64 (-2500))], none⟩, ⟨some 36, .plain .min2, [.tmp 35, .lit (.int .i64 2500)], none⟩, ⟨some 37, .call 178, [.tmp 33, .tmp 36], none⟩, ⟨some 32, .plain .mv, [.tmp 37], none⟩, ⟨some 38, .plain (.extract 0), [.tmp 32], none⟩, ⟨some 39, .plain (.extract 1), [.tmp 32], none⟩, ⟨some 40, .plain (.extract 2), [.tmp 32], none⟩, ⟨none, .plain (.store 4), [.tmp 5, .tmp 38], none⟩, ⟨some 6, .plain .mv, [.tmp 39], none⟩] [33, 34, 35, 36, 37, 32, 38, 39, 40]))) (.seq (.ops [⟨some 41, .plain (.load true 10), [.tmp 1], none⟩, ⟨some 42, .plain .mv, [.tmp 6], none⟩, ⟨some 43, .call 86, [.tmp 41, .tmp 42], none⟩] [41, 42, 43]) (.seq (.ops [⟨some 44, .plain (.load true 10), [.tmp 1], none⟩, ⟨some 45, .plain (.load true 4), [.tmp 5], none⟩, ⟨some 46, .call 105, [.tmp 44, .tmp 45], none⟩, ⟨none, .plain (.store 4), [.tmp 2, .tmp 46], none⟩] [44, 45, 46]) .ret)))))))
theorem ok96T : FOk Bk.pg.toProgram Bk.imp93 96 c96T cr96 Tryz.f96.ntmps := ⟨Tryz.f96, _, Tryz.func96, rfl, by kernel_rfl, by kernel_rfl, by kernel_rfl, rfl⟩
end Go.Pm

/- BkX9: contracts: SUBSTR. -/
namespace Go.Pm
open Go Go.Proofs
attribute [-simp] List.getElem?_map
attribute [simp] nilCheckA postA_norm
theorem hasB {x : Int} (h : -2147483648 < x ∧ x < 2147483648) : HasN 1 31 0 x := by
  refine ⟨validB, ⟨.inl ⟨rfl, by omega, by omega⟩, by omega, by omega⟩, fun _ => ?_, fun h => by cases h⟩
  have : (2 : Nat) ^ (31 : Int).toNat = 2147483648 := by decide
  rw [this]; omega
theorem call96f {s : ByteArray} {b : Int} {f : Nat} {S : List (Nat × AObj)} {nx rp rg : Nat} (h : chB s = true) (hf : f ≤ s.size) (hr : S[rp]? = some (rg, .cells (rz 0))) :
    ACalls Bk.pg 96 [.agg (callX s ((f : Int) + 1) b false rp rg)] ⟨S, nx⟩ fun out m' => out = .ret (.agg (vlC (s.extract f s.size))) ∧ ∃ nx', m' = ⟨S, nx'⟩ := by
  suffices ACalls Bk.pg 96 [.agg (callX s ((f : Int) + 1) b false rp rg)] ⟨S, nx⟩ fun out m' => out = .ret (.agg (vlC (s.extract f s.size))) ∧ m' = ⟨S, nx + 22⟩ from
    this.mono fun out m' ⟨h1, h2⟩ => ⟨h1, _, h2⟩
  refine ACalls.forget (ok96T.acalls (by simp) ?_)
  have hs := chB_size h
  have tl := (List.getElem?_eq_some_iff.1 hr).1
  have c93 := fun (A : List (Nat × AObj)) (y : Nat) => call93 (s := s) (a := (f : Int) + 1) (b := b) (j := false) (S := S ++ A) (nx := y) (rp := rp) (rg := rg)
  have c122 := fun (A : List (Nat × AObj)) (y : Nat) => call122X (s := s) (a := (f : Int) + 1) (b := b) (i := 1) (j := false) (S := S ++ A) (nx := y) (rp := rp) (rg := rg) (hasB (by omega)) (.inl ⟨rfl, rfl⟩) (by rw [List.getElem?_append_left tl]; exact hr)
  have c86 := fun (A : List (Nat × AObj)) (y : Nat) => call86X (s := s) (a := (f : Int) + 1) (b := b) (j := false) (d := 0) (S := S ++ A) (nx := y) (rp := rp) (rg := rg) (by rw [List.getElem?_append_left tl]; exact hr)
  have c3 : ∀ A, (S ++ A).set rp (rg, .cells (rz 0)) = S ++ A := fun A => set_same (by rw [List.getElem?_append_left tl]; exact hr)
  simp only [c3] at c86
  have hp := chB_part h f s.size
  have hz : (s.extract f s.size).size ≤ s.size := by rw [ByteArray.size_extract]; omega
  have c105 := fun (A : List (Nat × AObj)) (y : Nat) => call105 (s := s) (t := s.extract f s.size) (a := (f : Int) + 1) (b := b) (j := false) (S := S ++ A) (nx := y) (rp := rp) (rg := rg) hp ⟨hz, hs⟩ (by rw [List.getElem?_append_left tl]; exact hr)
  have c178 := call178 h hf
  have z : ltI 2 2 = false := rfl
  have n1 : ¬ ((f : Int) + 1) < -2500 := by omega
  have n2 : ¬ (2500 : Int) < (f : Int) + 1 := by omega
  generalize (f : Int) + 1 = i at *
  generalize s.extract f s.size = t at *
  simp only [callX, avP, vlC, vlB, vlN, vl] at c93 c122 c86 c105 c178 ⊢
  simp [c96T]
  repeat' (with_reducible refine And.intro ?_ ?_)
  all_goals
    refine xdcall_a rfl (c93 _ _) ?_
    simp
    repeat' (with_reducible refine And.intro ?_ ?_)
  all_goals
    refine xdcall_a rfl (c122 _ _) ?_
    simp [z, n1, n2]
    refine xcall_p c178 (by simp) ?_
    simp
    refine xcall_a (c86 _ _) ?_
    simp
    refine xcall_a (c105 _ _) ?_
    simp [cr96]
    exact Mem.le_of rfl (by simp)
theorem call96g {s : ByteArray} {c : Nat} {S : List (Nat × AObj)} {nx rp rg : Nat} (h : chB s = true) (hf : c ≤ s.size) (hr : S[rp]? = some (rg, .cells (rz 0))) :
    ACalls Bk.pg 96 [.agg (callX s 1 c true rp rg)] ⟨S, nx⟩ fun out m' => out = .ret (.agg (vlC (s.extract 0 c))) ∧ ∃ nx', m' = ⟨S, nx'⟩ := by
  suffices ACalls Bk.pg 96 [.agg (callX s 1 c true rp rg)] ⟨S, nx⟩ fun out m' => out = .ret (.agg (vlC (s.extract 0 c))) ∧ m' = ⟨S, nx + 29⟩ from
    this.mono fun out m' ⟨h1, h2⟩ => ⟨h1, _, h2⟩
  refine ACalls.forget (ok96T.acalls (by simp) ?_)
  have hs := chB_size h
  have tl := (List.getElem?_eq_some_iff.1 hr).1
  have c93 := fun (A : List (Nat × AObj)) (y : Nat) => call93 (s := s) (a := 1) (b := c) (j := true) (S := S ++ A) (nx := y) (rp := rp) (rg := rg)
  have c122 := fun (A : List (Nat × AObj)) (y : Nat) => call122X (s := s) (a := 1) (b := c) (i := 1) (j := true) (S := S ++ A) (nx := y) (rp := rp) (rg := rg) (hasB (by omega)) (.inl ⟨rfl, rfl⟩) (by rw [List.getElem?_append_left tl]; exact hr)
  have c86 := fun (A : List (Nat × AObj)) (y : Nat) => call86X (s := s) (a := 1) (b := c) (j := true) (d := 0) (S := S ++ A) (nx := y) (rp := rp) (rg := rg) (by rw [List.getElem?_append_left tl]; exact hr)
  have c3 : ∀ A, (S ++ A).set rp (rg, .cells (rz 0)) = S ++ A := fun A => set_same (by rw [List.getElem?_append_left tl]; exact hr)
  simp only [c3] at c86
  have hp := chB_part h 0 c
  have hz : (s.extract 0 c).size ≤ s.size := by rw [ByteArray.size_extract]; omega
  have c105 := fun (A : List (Nat × AObj)) (y : Nat) => call105 (s := s) (t := s.extract 0 c) (a := 1) (b := c) (j := true) (S := S ++ A) (nx := y) (rp := rp) (rg := rg) hp ⟨hz, hs⟩ (by rw [List.getElem?_append_left tl]; exact hr)
  have c122b := fun (A : List (Nat × AObj)) (y : Nat) => call122X (s := s) (a := 1) (b := c) (i := 2) (j := true) (S := S ++ A) (nx := y) (rp := rp) (rg := rg) (hasB (x := c) (by omega)) (.inr ⟨rfl, rfl, rfl⟩) (by rw [List.getElem?_append_left tl]; exact hr)
  have c177 : PCalls Bk.pg 177 [.agg (vlC s), .int .i64 1, .int .i64 c] fun out => out = .ret (.tuple [.agg (vlC (s.extract 0 c)), .int .i64 0, .int .i64 0]) := by
    have := call177 (f := 0) (c := c) h (by omega)
    rw [Nat.zero_add] at this
    exact this
  have c176 := call176 (c := c) (by omega)
  have z : ltI 2 3 = true := rfl
  generalize s.extract 0 c = t at *
  simp only [callX, avP, vlC, vlB, vlN, vl] at c93 c122 c122b c86 c105 c177 ⊢
  simp [c96T]
  repeat' (with_reducible refine And.intro ?_ ?_)
  all_goals
    refine xdcall_a rfl (c93 _ _) ?_
    simp
    repeat' (with_reducible refine And.intro ?_ ?_)
  all_goals
    refine xdcall_a rfl (c122 _ _) ?_
    simp [z]
    refine xcall_a (c122b _ _) ?_
    simp
    refine xcall_p c176 (by simp) ?_
    simp
    refine xcall_p c177 (by simp) ?_
    simp
    refine xcall_a (c86 _ _) ?_
    simp
    refine xcall_a (c105 _ _) ?_
    simp [cr96]
    exact Mem.le_of rfl (by simp)
end Go.Pm

/- BkX10: contracts: what is done safely when a part is asked for; a part, asked for by its name. Printed by mkx10.py. -/
namespace Go.Pm
open Go Go.Proofs
attribute [-simp] List.getElem?_map
attribute [simp] nilCheckA postA_norm
def e26X2 : Env := [(0, .ptr 0 0 0), (1, .ptr 1 1 0), (2, .ptr 2 2 0), (3, .ptr 3 3 0), (4, .ptr 5 5 0), (5, .ptr 4 4 0), (6, .ptr 7 7 0), (37, .fn 47 [.ptr 8 8 0])]
def e26X2b : Env := [(0, .ptr 0 0 0), (1, .ptr 1 1 0), (2, .ptr 2 2 0), (3, .ptr 3 3 0), (4, .ptr 5 5 0), (5, .ptr 4 4 0), (6, .ptr 7 7 0), (47, .fn 47 [.ptr 10 10 0])]
def m26X2 (s : ByteArray) (f : Nat) (b : Int) : List (Nat × AObj) :=
  [(0, .cells [.str nameP]), (1, .cells [.list true 4 (avP s ((f : Int) + 1) b false)]), (2, .cells [.list true 6 (tsP s.size false)]), (3, .cells (tyC s.size true)), (4, .cells (vl 0 0 0 ⟨#[]⟩)), (5, .cells (rz 0)), (6, .cells [.int .i64 0]), (7, .cells rowP), (8, .cells [.int .i64 2])]
theorem round26X2 {s : ByteArray} {f : Nat} {b : Int} {i : Nat} (h : chB s = true) (hf : f ≤ s.size) (hi : i < 2) :
    YCalls Bk.pg 9 9 [.int .i64 (i : Nat)] ⟨m26X2 s f b ++ [(9, .loop .ready e26X2 ok26r)], 10⟩ fun out m' => out = .ret (.bool true) ∧ m' = ⟨m26X2 s f b ++ [(9, .loop .ready e26X2 ok26r)], 10⟩ := by
  refine ycalls_S (ps := [38]) (a := a26) (b := b26) (e := e26X2) rfl rfl ?_
  rw [show loopOk Bk.pg.toProgram Bk.imp [38] a26 b26 = ok26r from rfl]
  have hs := chB_size h
  have c1 := call31C (n := s.size) (v := false) (by omega)
  have c2 := call31 validB.1 validB.2
  have hi' : i = 0 ∨ i = 1 := by omega
  have z0 : ltI 0 2 = true := rfl
  have z1 : ltI 1 2 = true := rfl
  simp only [tyN, tyC, ty] at c1 c2
  rcases hi' with rfl | rfl
  · simp [a26, b26, Env.sets, e26X2, m26X2, tsP, z0, tyB, tyC, tyN, ty]
    refine xcall_p c1 (by simp) ?_
    simp
    refine xcall_p (call28 (e := 13)) (by simp) ?_
    simp
    exact ⟨rfl, _, Mem.le_refl _, rfl, rfl⟩
  · simp [a26, b26, Env.sets, e26X2, m26X2, tsP, z1, tyB, tyC, tyN, ty]
    refine xcall_p c2 (by simp) ?_
    simp
    refine xcall_p (call28 (e := 13)) (by simp) ?_
    simp
    exact ⟨rfl, _, Mem.le_refl _, rfl, rfl⟩
theorem round26X2b {s : ByteArray} {f : Nat} {b : Int} {i : Nat} (h : chB s = true) (hf : f ≤ s.size) (hi : i < 2) :
    YCalls Bk.pg 11 11 [.int .i64 (i : Nat)] ⟨m26X2 s f b ++ [(9, .hole), (10, .cells [.int .i64 2]), (11, .loop .ready e26X2b ok26s)], 12⟩ fun out m' => out = .ret (.bool true) ∧ m' = ⟨m26X2 s f b ++ [(9, .hole), (10, .cells [.int .i64 2]), (11, .loop .ready e26X2b ok26s)], 12⟩ := by
  refine ycalls_S (ps := [48]) (a := a26b) (b := b26b) (e := e26X2b) rfl rfl ?_
  rw [show loopOk Bk.pg.toProgram Bk.imp [48] a26b b26b = ok26s from rfl]
  have hs := chB_size h
  have c1 := call32C h
  have c2 := call33C (v := false) h
  have d1 := call32 ((hasB (x := (f : Int) + 1) (by omega))).2.1
  have e1 := call33 ((hasB (x := (f : Int) + 1) (by omega)))
  have hi' : i = 0 ∨ i = 1 := by omega
  have z0 : ltI 0 2 = true := rfl
  have z1 : ltI 1 2 = true := rfl
  simp only [tyN, tyC, ty, vlN, vlC, vl] at c1 c2 d1 e1
  rcases hi' with rfl | rfl
  · simp [a26b, b26b, Env.sets, e26X2b, m26X2, avP, tsP, z0, vlB, tyB, tyC, tyN, ty, vlC, vlN, vl]
    refine xdcall_p rfl c1 (by simp) ?_
    simp [z0]
    refine xdcall_p rfl c2 (by simp) ?_
    simp
    refine xdcall_p rfl (call28 (e := 1)) (by simp) ?_
    simp
    exact ⟨rfl, _, Mem.le_refl _, rfl, rfl⟩
  · simp [a26b, b26b, Env.sets, e26X2b, m26X2, avP, tsP, z1, vlB, tyB, tyC, tyN, ty, vlC, vlN, vl]
    refine xdcall_p rfl d1 (by simp) ?_
    simp [z1]
    refine xdcall_p rfl e1 (by simp) ?_
    simp
    refine xdcall_p rfl (call28 (e := 1)) (by simp) ?_
    simp
    exact ⟨rfl, _, Mem.le_refl _, rfl, rfl⟩
set_option maxHeartbeats 4000000 in
theorem call26X2 {s : ByteArray} {f : Nat} {b : Int} {smp : ByteArray} (hS : PCalls Bk.pg 53 [.agg (tyC s.size false), .int .i64 1] fun out => out = .ret (.agg (vlC smp))) (h : chB s = true) (hf : f ≤ s.size) :
    ACalls Bk.pg 26 [.ptr 0 0 0, .ptr 1 1 0, .ptr 2 2 0, .ptr 3 3 0, .ptr 5 5 0, .ptr 4 4 0] ⟨(m26X2 s f b).take 7, 7⟩ fun out m' => out = .ret (.tuple []) ∧
      ∃ nx', m' = ⟨[(0, .cells [.str nameP]), (1, .cells [.list true 4 (avP s ((f : Int) + 1) b false)]), (2, .cells [.list true 6 (tsP s.size false)]), (3, .cells (tyC s.size true)), (4, .cells (vlC (s.extract f s.size))), (5, .cells (rz 0)), (6, .cells [.int .i64 0])], nx'⟩ := by
  refine ACalls.forget (ok26.acalls (by simp) ?_)
  have hs := chB_size h
  have z2 : leI 2 2 = true := rfl
  have z3 : leI 2 3 = true := rfl
  have zz : eqI 2 2 = true := rfl
  have z4 : eqI 4 4 = true := rfl
  have one : Value.nilFunc.oneCell' = true := rfl
  have c27 := call27X
  have c34 := call34X2 (N := s.size) hS
  have c31 := call31C (n := s.size) (v := true) (by omega)
  have c96 := fun (S : List (Nat × AObj)) (nx : Nat) (hS : S[5]? = some (5, .cells (rz 0))) => call96f (s := s) (b := b) (f := f) (S := S) (nx := nx) (rp := 5) (rg := 5) h hf hS
  obtain ⟨R, hR⟩ : ∃ R, R = s.extract f s.size := ⟨_, rfl⟩
  rw [← hR]
  simp only [← hR] at c96
  obtain ⟨V, hV⟩ : ∃ V, V = avP s ((f : Int) + 1) b false := ⟨_, rfl⟩
  have hVl : V.length = 2 := by rw [hV]; rfl
  have hVn : norefLL V = true := by rw [hV]; rfl
  obtain ⟨T, hT⟩ : ∃ T, T = tsP s.size false := ⟨_, rfl⟩
  have hTl : T.length = 2 := by rw [hT]; rfl
  have hTn : norefLL T = true := by rw [hT]; rfl
  simp only [rowP, tyC, ty, vlC, vl, rz, callX, ← hV, ← hT] at c27 c34 c31 c96 ⊢
  simp [c26, m26X2, List.take, rz, vl, tyC, ty, ← hV, ← hT]
  refine xdcall_p rfl c27 (by simp) ?_
  simp [isKey, lookA, beqB_t, one]
  refine xcall_p (call28 (e := 5)) (by simp) ?_
  simp [hVl]
  refine xcall_p (call29 (n := 2) (lo := 2) (hi := 3) ⟨by omega, by omega⟩) (by simp) ?_
  simp [zz, hVl, hTl]
  refine xcall_p (call28 (e := 11)) (by simp) ?_
  simp [hTl]
  refine xcall_a call30 ?_
  simp
  refine wpS_rangeS e26X2 ⟨m26X2 s f b, 9⟩ (Sim.of_le (Env.le_of (by simp [e26X2])) (Mem.le_of rfl (by simp [m26X2, rowP, rz, vl, tyC, ty, ← hV, ← hT]))) rfl
    (call47 (pos := 9) (gen := 9) (p := 8) (g := 8) (n := 2) (Inv := fun _ m => m = ⟨m26X2 s f b ++ [(9, .loop .ready e26X2 ok26r)], 10⟩) (by omega) ?hY ?hc ?h0) ?hr ?hp
  case hY =>
    rintro i m hi rfl
    exact round26X2 h hf hi
  case hc => rfl
  case h0 => rfl
  case hp =>
    rintro v m' ⟨hv', _⟩
    cases hv'
  case hr =>
    rintro v m' ⟨hv', rfl⟩
    refine ⟨.ready, e26X2, ok26r, rfl, ?_⟩
    simp [e26X2, m26X2, ← hV, ← hT, hTl]
    refine xcall_a call30 ?_
    simp
    refine wpS_rangeS e26X2b ⟨m26X2 s f b ++ [(9, .hole), (10, .cells [.int .i64 2])], 11⟩ (Sim.of_le (Env.le_of (by simp [e26X2b])) (Mem.le_of rfl (by simp [m26X2, ← hV, ← hT]))) rfl
      (call47 (pos := 11) (gen := 11) (p := 10) (g := 10) (n := 2) (Inv := fun _ m => m = ⟨m26X2 s f b ++ [(9, .hole), (10, .cells [.int .i64 2]), (11, .loop .ready e26X2b ok26s)], 12⟩) (by omega) ?hY2 ?hc2 ?h02) ?hr2 ?hp2
    case hY2 =>
      rintro i m hi rfl
      exact round26X2b h hf hi
    case hc2 => rfl
    case h02 => rfl
    case hp2 =>
      rintro v m' ⟨hv', _⟩
      cases hv'
    case hr2 =>
      rintro v m' ⟨hv', rfl⟩
      refine ⟨.ready, e26X2b, ok26s, rfl, ?_⟩
      simp [e26X2b, m26X2, rowP, tyC, ty, vl, rz, ← hV, ← hT]
      refine xcall_p c34 (by simp [hTn]) ?_
      simp
      refine xcall_p c31 (by simp) ?_
      simp
      refine xcall_p (call28 (e := 13)) (by simp) ?_
      simp [z4]
      refine xcall_p (call28 (e := 10)) (by simp) ?_
      simp [one]
      refine xcall_r (c96 _ _ rfl) ?_ ?_
      · rintro v m' ⟨hv', nx', rfl⟩
        cases hv'
        simp [cr26]
        refine ⟨⟨_, nx'⟩, ?_, nx', rfl⟩
        exact Mem.le_of rfl (by simp)
      · rintro v m' ⟨hv', _⟩
        cases hv'
theorem call9X2 {s : ByteArray} {f : Nat} {b : Int} {smp : ByteArray} (hS : PCalls Bk.pg 53 [.agg (tyC s.size false), .int .i64 1] fun out => out = .ret (.agg (vlC smp))) (h : chB s = true) (hf : f ≤ s.size) :
    PCalls Bk.pg 9 [.str nameP, .list true 4 (avP s ((f : Int) + 1) b false), .list true 6 (tsP s.size false), .agg (tyC s.size true)] fun out => out = .ret (.tuple [.agg (vlC (s.extract f s.size)), .agg (rz 0), .int .i64 0]) := by
  refine ok9.pcalls (by simp) ?_
  have c26 := call26X2 (s := s) (f := f) (b := b) hS h hf
  have c25 := call25 (f := 26) (caps := [.ptr 0 0 0, .ptr 1 1 0, .ptr 2 2 0, .ptr 3 3 0, .ptr 5 5 0, .ptr 4 4 0]) (S := (m26X2 s f b).take 6) (nx := 6)
    (Q := fun S' => S' = [(0, .cells [.str nameP]), (1, .cells [.list true 4 (avP s ((f : Int) + 1) b false)]), (2, .cells [.list true 6 (tsP s.size false)]), (3, .cells (tyC s.size true)), (4, .cells (vlC (s.extract f s.size))), (5, .cells (rz 0))])
    (c26.mono fun out m' ⟨ho, nx', hm⟩ => ⟨ho, [(0, .cells [.str nameP]), (1, .cells [.list true 4 (avP s ((f : Int) + 1) b false)]), (2, .cells [.list true 6 (tsP s.size false)]), (3, .cells (tyC s.size true)), (4, .cells (vlC (s.extract f s.size))), (5, .cells (rz 0))], nx', hm, rfl, rfl⟩)
  have z : eqI 0 0 = true := rfl
  obtain ⟨R, hR⟩ : ∃ R, R = s.extract f s.size := ⟨_, rfl⟩
  rw [← hR] at c25 ⊢
  obtain ⟨V, hV⟩ : ∃ V, V = avP s ((f : Int) + 1) b false := ⟨_, rfl⟩
  obtain ⟨T, hT⟩ : ∃ T, T = tsP s.size false := ⟨_, rfl⟩
  simp only [m26X2, List.take, rz, vlC, vl, tyC, ty, ← hV, ← hT] at c25 ⊢
  simp [c9]
  refine xcall_r c25 ?_ ?_
  · rintro v m' ⟨hv', S', nx', rfl, rfl⟩
    cases hv'
    simp [z, cr9]
  · rintro v m' ⟨hv', _⟩
    cases hv'
def e26X3 : Env := [(0, .ptr 0 0 0), (1, .ptr 1 1 0), (2, .ptr 2 2 0), (3, .ptr 3 3 0), (4, .ptr 5 5 0), (5, .ptr 4 4 0), (6, .ptr 7 7 0), (37, .fn 47 [.ptr 8 8 0])]
def e26X3b : Env := [(0, .ptr 0 0 0), (1, .ptr 1 1 0), (2, .ptr 2 2 0), (3, .ptr 3 3 0), (4, .ptr 5 5 0), (5, .ptr 4 4 0), (6, .ptr 7 7 0), (47, .fn 47 [.ptr 10 10 0])]
def m26X3 (s : ByteArray) (c : Nat) : List (Nat × AObj) :=
  [(0, .cells [.str nameP]), (1, .cells [.list true 4 (avP s 1 c true)]), (2, .cells [.list true 6 (tsP s.size true)]), (3, .cells (tyC s.size true)), (4, .cells (vl 0 0 0 ⟨#[]⟩)), (5, .cells (rz 0)), (6, .cells [.int .i64 0]), (7, .cells rowP), (8, .cells [.int .i64 3])]
theorem round26X3 {s : ByteArray} {c : Nat} {i : Nat} (h : chB s = true) (hf : c ≤ s.size) (hi : i < 3) :
    YCalls Bk.pg 9 9 [.int .i64 (i : Nat)] ⟨m26X3 s c ++ [(9, .loop .ready e26X3 ok26r)], 10⟩ fun out m' => out = .ret (.bool true) ∧ m' = ⟨m26X3 s c ++ [(9, .loop .ready e26X3 ok26r)], 10⟩ := by
  refine ycalls_S (ps := [38]) (a := a26) (b := b26) (e := e26X3) rfl rfl ?_
  rw [show loopOk Bk.pg.toProgram Bk.imp [38] a26 b26 = ok26r from rfl]
  have hs := chB_size h
  have c1 := call31C (n := s.size) (v := false) (by omega)
  have c2 := call31 validB.1 validB.2
  have hi' : i = 0 ∨ i = 1 ∨ i = 2 := by omega
  have z0 : ltI 0 3 = true := rfl
  have z1 : ltI 1 3 = true := rfl
  have z2 : ltI 2 3 = true := rfl
  simp only [tyN, tyC, ty] at c1 c2
  rcases hi' with rfl | rfl | rfl
  · simp [a26, b26, Env.sets, e26X3, m26X3, tsP, z0, tyB, tyC, tyN, ty]
    refine xcall_p c1 (by simp) ?_
    simp
    refine xcall_p (call28 (e := 13)) (by simp) ?_
    simp
    exact ⟨rfl, _, Mem.le_refl _, rfl, rfl⟩
  · simp [a26, b26, Env.sets, e26X3, m26X3, tsP, z1, tyB, tyC, tyN, ty]
    refine xcall_p c2 (by simp) ?_
    simp
    refine xcall_p (call28 (e := 13)) (by simp) ?_
    simp
    exact ⟨rfl, _, Mem.le_refl _, rfl, rfl⟩
  · simp [a26, b26, Env.sets, e26X3, m26X3, tsP, z2, tyB, tyC, tyN, ty]
    refine xcall_p c2 (by simp) ?_
    simp
    refine xcall_p (call28 (e := 13)) (by simp) ?_
    simp
    exact ⟨rfl, _, Mem.le_refl _, rfl, rfl⟩
theorem round26X3b {s : ByteArray} {c : Nat} {i : Nat} (h : chB s = true) (hf : c ≤ s.size) (hi : i < 3) :
    YCalls Bk.pg 11 11 [.int .i64 (i : Nat)] ⟨m26X3 s c ++ [(9, .hole), (10, .cells [.int .i64 3]), (11, .loop .ready e26X3b ok26s)], 12⟩ fun out m' => out = .ret (.bool true) ∧ m' = ⟨m26X3 s c ++ [(9, .hole), (10, .cells [.int .i64 3]), (11, .loop .ready e26X3b ok26s)], 12⟩ := by
  refine ycalls_S (ps := [48]) (a := a26b) (b := b26b) (e := e26X3b) rfl rfl ?_
  rw [show loopOk Bk.pg.toProgram Bk.imp [48] a26b b26b = ok26s from rfl]
  have hs := chB_size h
  have c1 := call32C h
  have c2 := call33C (v := false) h
  have d1 := call32 ((hasB (x := 1) (by omega))).2.1
  have e1 := call33 ((hasB (x := 1) (by omega)))
  have d2 := call32 ((hasB (x := c) (by omega))).2.1
  have e2 := call33 ((hasB (x := c) (by omega)))
  have hi' : i = 0 ∨ i = 1 ∨ i = 2 := by omega
  have z0 : ltI 0 3 = true := rfl
  have z1 : ltI 1 3 = true := rfl
  have z2 : ltI 2 3 = true := rfl
  simp only [tyN, tyC, ty, vlN, vlC, vl] at c1 c2 d1 e1 d2 e2
  rcases hi' with rfl | rfl | rfl
  · simp [a26b, b26b, Env.sets, e26X3b, m26X3, avP, tsP, z0, vlB, tyB, tyC, tyN, ty, vlC, vlN, vl]
    refine xdcall_p rfl c1 (by simp) ?_
    simp [z0]
    refine xdcall_p rfl c2 (by simp) ?_
    simp
    refine xdcall_p rfl (call28 (e := 1)) (by simp) ?_
    simp
    exact ⟨rfl, _, Mem.le_refl _, rfl, rfl⟩
  · simp [a26b, b26b, Env.sets, e26X3b, m26X3, avP, tsP, z1, vlB, tyB, tyC, tyN, ty, vlC, vlN, vl]
    refine xdcall_p rfl d1 (by simp) ?_
    simp [z1]
    refine xdcall_p rfl e1 (by simp) ?_
    simp
    refine xdcall_p rfl (call28 (e := 1)) (by simp) ?_
    simp
    exact ⟨rfl, _, Mem.le_refl _, rfl, rfl⟩
  · simp [a26b, b26b, Env.sets, e26X3b, m26X3, avP, tsP, z2, vlB, tyB, tyC, tyN, ty, vlC, vlN, vl]
    refine xdcall_p rfl d2 (by simp) ?_
    simp [z2]
    refine xdcall_p rfl e2 (by simp) ?_
    simp
    refine xdcall_p rfl (call28 (e := 1)) (by simp) ?_
    simp
    exact ⟨rfl, _, Mem.le_refl _, rfl, rfl⟩
set_option maxHeartbeats 4000000 in
theorem call26X3 {s : ByteArray} {c : Nat} {smp : ByteArray} (hS : PCalls Bk.pg 53 [.agg (tyC s.size false), .int .i64 1] fun out => out = .ret (.agg (vlC smp))) (h : chB s = true) (hf : c ≤ s.size) :
    ACalls Bk.pg 26 [.ptr 0 0 0, .ptr 1 1 0, .ptr 2 2 0, .ptr 3 3 0, .ptr 5 5 0, .ptr 4 4 0] ⟨(m26X3 s c).take 7, 7⟩ fun out m' => out = .ret (.tuple []) ∧
      ∃ nx', m' = ⟨[(0, .cells [.str nameP]), (1, .cells [.list true 4 (avP s 1 c true)]), (2, .cells [.list true 6 (tsP s.size true)]), (3, .cells (tyC s.size true)), (4, .cells (vlC (s.extract 0 c))), (5, .cells (rz 0)), (6, .cells [.int .i64 0])], nx'⟩ := by
  refine ACalls.forget (ok26.acalls (by simp) ?_)
  have hs := chB_size h
  have z2 : leI 2 3 = true := rfl
  have z3 : leI 3 3 = true := rfl
  have zz : eqI 3 3 = true := rfl
  have z4 : eqI 4 4 = true := rfl
  have one : Value.nilFunc.oneCell' = true := rfl
  have c27 := call27X
  have c34 := call34X3 (N := s.size) hS
  have c31 := call31C (n := s.size) (v := true) (by omega)
  have c96 := fun (S : List (Nat × AObj)) (nx : Nat) (hS : S[5]? = some (5, .cells (rz 0))) => call96g (s := s) (c := c) (S := S) (nx := nx) (rp := 5) (rg := 5) h hf hS
  obtain ⟨R, hR⟩ : ∃ R, R = s.extract 0 c := ⟨_, rfl⟩
  rw [← hR]
  simp only [← hR] at c96
  obtain ⟨V, hV⟩ : ∃ V, V = avP s 1 c true := ⟨_, rfl⟩
  have hVl : V.length = 3 := by rw [hV]; rfl
  have hVn : norefLL V = true := by rw [hV]; rfl
  obtain ⟨T, hT⟩ : ∃ T, T = tsP s.size true := ⟨_, rfl⟩
  have hTl : T.length = 3 := by rw [hT]; rfl
  have hTn : norefLL T = true := by rw [hT]; rfl
  simp only [rowP, tyC, ty, vlC, vl, rz, callX, ← hV, ← hT] at c27 c34 c31 c96 ⊢
  simp [c26, m26X3, List.take, rz, vl, tyC, ty, ← hV, ← hT]
  refine xdcall_p rfl c27 (by simp) ?_
  simp [isKey, lookA, beqB_t, one]
  refine xcall_p (call28 (e := 5)) (by simp) ?_
  simp [hVl]
  refine xcall_p (call29 (n := 3) (lo := 2) (hi := 3) ⟨by omega, by omega⟩) (by simp) ?_
  simp [zz, hVl, hTl]
  refine xcall_p (call28 (e := 11)) (by simp) ?_
  simp [hTl]
  refine xcall_a call30 ?_
  simp
  refine wpS_rangeS e26X3 ⟨m26X3 s c, 9⟩ (Sim.of_le (Env.le_of (by simp [e26X3])) (Mem.le_of rfl (by simp [m26X3, rowP, rz, vl, tyC, ty, ← hV, ← hT]))) rfl
    (call47 (pos := 9) (gen := 9) (p := 8) (g := 8) (n := 3) (Inv := fun _ m => m = ⟨m26X3 s c ++ [(9, .loop .ready e26X3 ok26r)], 10⟩) (by omega) ?hY ?hc ?h0) ?hr ?hp
  case hY =>
    rintro i m hi rfl
    exact round26X3 h hf hi
  case hc => rfl
  case h0 => rfl
  case hp =>
    rintro v m' ⟨hv', _⟩
    cases hv'
  case hr =>
    rintro v m' ⟨hv', rfl⟩
    refine ⟨.ready, e26X3, ok26r, rfl, ?_⟩
    simp [e26X3, m26X3, ← hV, ← hT, hTl]
    refine xcall_a call30 ?_
    simp
    refine wpS_rangeS e26X3b ⟨m26X3 s c ++ [(9, .hole), (10, .cells [.int .i64 3])], 11⟩ (Sim.of_le (Env.le_of (by simp [e26X3b])) (Mem.le_of rfl (by simp [m26X3, ← hV, ← hT]))) rfl
      (call47 (pos := 11) (gen := 11) (p := 10) (g := 10) (n := 3) (Inv := fun _ m => m = ⟨m26X3 s c ++ [(9, .hole), (10, .cells [.int .i64 3]), (11, .loop .ready e26X3b ok26s)], 12⟩) (by omega) ?hY2 ?hc2 ?h02) ?hr2 ?hp2
    case hY2 =>
      rintro i m hi rfl
      exact round26X3b h hf hi
    case hc2 => rfl
    case h02 => rfl
    case hp2 =>
      rintro v m' ⟨hv', _⟩
      cases hv'
    case hr2 =>
      rintro v m' ⟨hv', rfl⟩
      refine ⟨.ready, e26X3b, ok26s, rfl, ?_⟩
      simp [e26X3b, m26X3, rowP, tyC, ty, vl, rz, ← hV, ← hT]
      refine xcall_p c34 (by simp [hTn]) ?_
      simp
      refine xcall_p c31 (by simp) ?_
      simp
      refine xcall_p (call28 (e := 13)) (by simp) ?_
      simp [z4]
      refine xcall_p (call28 (e := 10)) (by simp) ?_
      simp [one]
      refine xcall_r (c96 _ _ rfl) ?_ ?_
      · rintro v m' ⟨hv', nx', rfl⟩
        cases hv'
        simp [cr26]
        refine ⟨⟨_, nx'⟩, ?_, nx', rfl⟩
        exact Mem.le_of rfl (by simp)
      · rintro v m' ⟨hv', _⟩
        cases hv'
theorem call9X3 {s : ByteArray} {c : Nat} {smp : ByteArray} (hS : PCalls Bk.pg 53 [.agg (tyC s.size false), .int .i64 1] fun out => out = .ret (.agg (vlC smp))) (h : chB s = true) (hf : c ≤ s.size) :
    PCalls Bk.pg 9 [.str nameP, .list true 4 (avP s 1 c true), .list true 6 (tsP s.size true), .agg (tyC s.size true)] fun out => out = .ret (.tuple [.agg (vlC (s.extract 0 c)), .agg (rz 0), .int .i64 0]) := by
  refine ok9.pcalls (by simp) ?_
  have c26 := call26X3 (s := s) (c := c) hS h hf
  have c25 := call25 (f := 26) (caps := [.ptr 0 0 0, .ptr 1 1 0, .ptr 2 2 0, .ptr 3 3 0, .ptr 5 5 0, .ptr 4 4 0]) (S := (m26X3 s c).take 6) (nx := 6)
    (Q := fun S' => S' = [(0, .cells [.str nameP]), (1, .cells [.list true 4 (avP s 1 c true)]), (2, .cells [.list true 6 (tsP s.size true)]), (3, .cells (tyC s.size true)), (4, .cells (vlC (s.extract 0 c))), (5, .cells (rz 0))])
    (c26.mono fun out m' ⟨ho, nx', hm⟩ => ⟨ho, [(0, .cells [.str nameP]), (1, .cells [.list true 4 (avP s 1 c true)]), (2, .cells [.list true 6 (tsP s.size true)]), (3, .cells (tyC s.size true)), (4, .cells (vlC (s.extract 0 c))), (5, .cells (rz 0))], nx', hm, rfl, rfl⟩)
  have z : eqI 0 0 = true := rfl
  obtain ⟨R, hR⟩ : ∃ R, R = s.extract 0 c := ⟨_, rfl⟩
  rw [← hR] at c25 ⊢
  obtain ⟨V, hV⟩ : ∃ V, V = avP s 1 c true := ⟨_, rfl⟩
  obtain ⟨T, hT⟩ : ∃ T, T = tsP s.size true := ⟨_, rfl⟩
  simp only [m26X3, List.take, rz, vlC, vl, tyC, ty, ← hV, ← hT] at c25 ⊢
  simp [c9]
  refine xcall_r c25 ?_ ?_
  · rintro v m' ⟨hv', S', nx', rfl, rfl⟩
    cases hv'
    simp [z, cr9]
  · rintro v m' ⟨hv', _⟩
    cases hv'
end Go.Pm

/- BkLd: a contract whose lists are only lent. -/
namespace Go.Pm
open Go
mutual
def AV.plain : AV → Bool
  | .any | .bool _ | .int .. | .str _ | .const _ | .nilS => true
  | .agg cs | .tuple cs => plainL cs
  | .iface _ x => x.plain
  | _ => false
def plainL : List AV → Bool
  | [] => true
  | x :: xs => x.plain && plainL xs
end
mutual
theorem VR.of_plain {σ σ' : Sig} {K K' : Bool → Nat → Prop} {w w' : World} : ∀ (x : AV) (v : Value), x.plain = true → VR σ K w x v → VR σ' K' w' x v
  | .any, _, _, _ => by simp [VR]
  | .bool b, v, _, h => by simpa [VR] using h
  | .int k n, v, _, h => by simpa [VR] using h
  | .str s, v, _, h => by simpa [VR] using h
  | .const c, v, _, h => by simpa [VR] using h
  | .nilS, v, _, h => by simpa [VR] using h
  | .agg cs, v, hp, h => by
    rw [VR] at h ⊢
    obtain ⟨us, rfl, h⟩ := h
    exact ⟨us, rfl, VRs.of_plain cs _ (by simpa [AV.plain] using hp) h⟩
  | .tuple cs, v, hp, h => by
    rw [VR] at h ⊢
    obtain ⟨us, rfl, h⟩ := h
    exact ⟨us, rfl, VRs.of_plain cs _ (by simpa [AV.plain] using hp) h⟩
  | .list .., _, hp, _ => by simp [AV.plain] at hp
  | .iptr .., _, hp, _ => by simp [AV.plain] at hp
  | .ptr .., _, hp, _ => by simp [AV.plain] at hp
  | .rptr .., _, hp, _ => by simp [AV.plain] at hp
  | .row .., _, hp, _ => by simp [AV.plain] at hp
  | .map .., _, hp, _ => by simp [AV.plain] at hp
  | .fn .., _, hp, _ => by simp [AV.plain] at hp
  | .yield .., _, hp, _ => by simp [AV.plain] at hp
  | .iface t x, v, hp, h => by
    rw [VR] at h ⊢
    obtain ⟨u, rfl, h⟩ := h
    exact ⟨u, rfl, VR.of_plain x u (by simpa [AV.plain] using hp) h⟩
  | .kmap .., _, hp, _ => by simp [AV.plain] at hp
theorem VRs.of_plain {σ σ' : Sig} {K K' : Bool → Nat → Prop} {w w' : World} : ∀ (xs : List AV) (us : List Value), plainL xs = true → VRs σ K w xs us → VRs σ' K' w' xs us
  | [], us, _, h => by simpa [VRs] using h
  | x :: xs, us, hp, h => by
    rw [VRs] at h ⊢
    obtain ⟨u, us', rfl, h1, h2⟩ := h
    simp only [plainL, Bool.and_eq_true] at hp
    exact ⟨u, us', rfl, VR.of_plain x u hp.1 h1, VRs.of_plain xs us' hp.2 h2⟩
end
def lent (K : Bool → Nat → Prop) : Bool → Nat → Prop := fun p b => K p b ∨ K false b
def Lend (xs ys : List AV) : Prop := ∀ (K : Bool → Nat → Prop) (w : World) (us : List Value), VRs [] K w xs us → VRs [] (lent K) w ys us
theorem Lend.nil : Lend [] [] := fun _ _ _ h => by rw [VRs] at h ⊢; exact h
theorem Lend.cons {x : AV} {xs ys : List AV} (h : Lend xs ys) : Lend (x :: xs) (x :: ys) := fun K w us hx => by
  rw [VRs] at hx ⊢
  obtain ⟨u, us', rfl, h1, h2⟩ := hx
  exact ⟨u, us', rfl, VR.mono (List.prefix_refl _) (fun _ _ h => .inl h) (fun _ _ _ => rfl) _ _ h1, h K w us' h2⟩
theorem Lend.list {sz : Nat} {els : List (List AV)} {xs ys : List AV} (h : Lend xs ys) : Lend (.list false sz els :: xs) (.list true sz els :: ys) := fun K w us hx => by
  rw [VRs] at hx ⊢
  obtain ⟨u, us', rfl, h1, h2⟩ := hx
  refine ⟨u, us', rfl, ?_, h K w us' h2⟩
  rw [VR] at h1 ⊢
  obtain ⟨a, cap, b, o, e1, e2, e3, e4⟩ := h1
  exact ⟨a, cap, b, o, e1, e2, e3.imp id (fun ⟨e5, e6⟩ => ⟨e5, .inr e6⟩), LR.mono (List.prefix_refl _) (fun _ _ h => .inl h) (fun _ _ _ => rfl) b rfl els o sz e4⟩
theorem PCalls.lend {P : Prg} {f : FuncId} {xs ys : List AV} {x : AV} (h : PCalls P f ys fun out => out = .ret x) (hx : x.plain = true) (hs : Lend xs ys) : PCalls P f xs fun out => out = .ret x := by
  refine ⟨h.1, fun K w vals hK hv hl => ?_⟩
  refine (h.2 (lent K) w vals (fun p b hb => hb.elim (hK p b) (hK false b)) (hs K w vals hv) hl).mono ?_
  rintro e w' ⟨K', out, rfl, h1, h2, _, _, h5⟩
  refine ⟨K, _, rfl, h1, h2, fun _ _ h => h, fun _ _ h => .inl h, ?_⟩
  obtain ⟨u, hu, hV⟩ := h5
  exact ⟨u, hu, VR.of_plain x u hx hV⟩
def AOut.plain : AOut → Bool
  | .ret x | .panic x => x.plain
theorem PCalls.lendO {P : Prg} {f : FuncId} {xs ys : List AV} {o : AOut} (h : PCalls P f ys fun out => out = o) (hx : o.plain = true) (hs : Lend xs ys) : PCalls P f xs fun out => out = o := by
  refine ⟨h.1, fun K w vals hK hv hl => ?_⟩
  refine (h.2 (lent K) w vals (fun p b hb => hb.elim (hK p b) (hK false b)) (hs K w vals hv) hl).mono ?_
  rintro e w' ⟨K', out, rfl, h1, h2, _, _, h5⟩
  refine ⟨K, _, rfl, h1, h2, fun _ _ h => h, fun _ _ h => .inl h, ?_⟩
  cases out with
  | ret x =>
    obtain ⟨u, hu, hV⟩ := h5
    exact ⟨u, hu, VR.of_plain x u hx hV⟩
  | panic x =>
    obtain ⟨u, hu, hV⟩ := h5
    exact ⟨u, hu, VR.of_plain x u hx hV⟩
theorem Lend.one {sz : Nat} {els : List (List AV)} : Lend [.list false sz els] [.list true sz els] := Lend.list Lend.nil
end Go.Pm

/- BkS12: code, resolved: the law of parts, in two pieces. -/
namespace Go.Pm
open Go Go.Proofs
def r4 : SC :=
 let s13 : DT := (.step ⟨none, .plain (.store 4), [.tmp 14, .tmp 67], none⟩ (.step ⟨none, .plain (.store 5), [.tmp 15, .tmp 68], none⟩ (.step ⟨some 16, .plain .mv, [.tmp 69], none⟩ .done)))
 let s12 : DT := (.step ⟨some 14, .plain (.alloc [(.int .i64 0), (.int .i64 0), (.int .i64 0), (.str ⟨#[]⟩)]), [], none⟩ s13)
 let s11 : DT := (.step ⟨some 15, .plain (.alloc [(.int .i64 0), (.str ⟨#[]⟩), (.int .i64 0), (.str ⟨#[]⟩), (.int .i64 0)]), [], none⟩ s13)
 let s10 : DT := (.step ⟨some 66, .call 9, [.lit (.str ⟨#[83, 85, 66, 83, 84, 82]⟩), .tmp 61, .tmp 64, .tmp 65], none⟩ (.step ⟨some 58, .plain .mv, [.tmp 66], none⟩ (.step ⟨some 67, .plain (.extract 0), [.tmp 58], none⟩ (.step ⟨some 68, .plain (.extract 1), [.tmp 58], none⟩ (.step ⟨some 69, .plain (.extract 2), [.tmp 58], none⟩ s13)))))
 let s9 : DT := (.step ⟨some 66, .call 9, [.lit (.str ⟨#[83, 85, 66, 83, 84, 82]⟩), .tmp 61, .tmp 64, .tmp 65], none⟩ (.step ⟨some 58, .plain .mv, [.tmp 66], none⟩ (.step ⟨some 67, .plain (.extract 0), [.tmp 58], none⟩ (.step ⟨some 68, .plain (.extract 1), [.tmp 58], none⟩ (.step ⟨some 69, .plain (.extract 2), [.tmp 58], none⟩ s12)))))
 let s8 : DT := (.step ⟨some 66, .call 9, [.lit (.str ⟨#[83, 85, 66, 83, 84, 82]⟩), .tmp 61, .tmp 64, .tmp 65], none⟩ (.step ⟨some 58, .plain .mv, [.tmp 66], none⟩ (.step ⟨some 67, .plain (.extract 0), [.tmp 58], none⟩ (.step ⟨some 68, .plain (.extract 1), [.tmp 58], none⟩ (.step ⟨some 69, .plain (.extract 2), [.tmp 58], none⟩ s11)))))
 let s7 : DT := (.step ⟨some 61, .plain (.buildRow 24 4 2 [(.int .i64 0), (.int .i64 0), (.int .i64 0), (.str ⟨#[]⟩)] [0, 1]), [.tmp 59, .tmp 60], none⟩ s10)
 let s6 : DT := (.step ⟨some 64, .plain (.buildRow 32 6 2 [(.int .i64 0), (.int .i64 0), (.int .i64 0), (.int .i64 0), (.bool false), (.str ⟨#[]⟩)] [0, 1]), [.tmp 62, .tmp 63], none⟩ s10)
 let s5 : DT := (.step ⟨some 66, .call 9, [.lit (.str ⟨#[83, 85, 66, 83, 84, 82]⟩), .tmp 61, .tmp 64, .tmp 65], none⟩ (.step ⟨some 58, .plain .mv, [.tmp 66], none⟩ (.step ⟨some 67, .plain (.extract 0), [.tmp 58], none⟩ (.step ⟨some 68, .plain (.extract 1), [.tmp 58], none⟩ (.step ⟨some 69, .plain (.extract 2), [.tmp 58], none⟩ (.or (.step ⟨some 14, .plain (.alloc [(.int .i64 0), (.int .i64 0), (.int .i64 0), (.str ⟨#[]⟩)]), [], none⟩ s11) (.step ⟨some 15, .plain (.alloc [(.int .i64 0), (.str ⟨#[]⟩), (.int .i64 0), (.str ⟨#[]⟩), (.int .i64 0)]), [], none⟩ s12)))))))
 let s4 : DT := (.or (.step ⟨some 61, .plain (.buildRow 24 4 2 [(.int .i64 0), (.int .i64 0), (.int .i64 0), (.str ⟨#[]⟩)] [0, 1]), [.tmp 59, .tmp 60], none⟩ s9) (.step ⟨some 14, .plain (.alloc [(.int .i64 0), (.int .i64 0), (.int .i64 0), (.str ⟨#[]⟩)]), [], none⟩ s7))
 let s3 : DT := (.or (.step ⟨some 61, .plain (.buildRow 24 4 2 [(.int .i64 0), (.int .i64 0), (.int .i64 0), (.str ⟨#[]⟩)] [0, 1]), [.tmp 59, .tmp 60], none⟩ s8) (.step ⟨some 15, .plain (.alloc [(.int .i64 0), (.str ⟨#[]⟩), (.int .i64 0), (.str ⟨#[]⟩), (.int .i64 0)]), [], none⟩ s7))
 let s2 : DT := (.or (.step ⟨some 64, .plain (.buildRow 32 6 2 [(.int .i64 0), (.int .i64 0), (.int .i64 0), (.int .i64 0), (.bool false), (.str ⟨#[]⟩)] [0, 1]), [.tmp 62, .tmp 63], none⟩ s9) (.step ⟨some 14, .plain (.alloc [(.int .i64 0), (.int .i64 0), (.int .i64 0), (.str ⟨#[]⟩)]), [], none⟩ s6))
 let s1 : DT := (.or (.step ⟨some 64, .plain (.buildRow 32 6 2 [(.int .i64 0), (.int .i64 0), (.int .i64 0), (.int .i64 0), (.bool false), (.str ⟨#[]⟩)] [0, 1]), [.tmp 62, .tmp 63], none⟩ s8) (.step ⟨some 15, .plain (.alloc [(.int .i64 0), (.str ⟨#[]⟩), (.int .i64 0), (.str ⟨#[]⟩), (.int .i64 0)]), [], none⟩ s6))
 let s0 : DT := (.or (.step ⟨some 61, .plain (.buildRow 24 4 2 [(.int .i64 0), (.int .i64 0), (.int .i64 0), (.str ⟨#[]⟩)] [0, 1]), [.tmp 59, .tmp 60], none⟩ s6) (.step ⟨some 64, .plain (.buildRow 32 6 2 [(.int .i64 0), (.int .i64 0), (.int .i64 0), (.int .i64 0), (.bool false), (.str ⟨#[]⟩)] [0, 1]), [.tmp 62, .tmp 63], none⟩ s7))
 (.seq (.draw (.step ⟨some 59, .plain (.load true 4), [.tmp 5], none⟩ (.step ⟨some 60, .plain (.load true 4), [.tmp 10], none⟩ (.step ⟨some 62, .plain (.load true 6), [.tmp 6], none⟩ (.step ⟨some 63, .call 10, [], none⟩ (.step ⟨some 65, .plain (.load true 6), [.tmp 7], none⟩ (.or (.step ⟨some 61, .plain (.buildRow 24 4 2 [(.int .i64 0), (.int .i64 0), (.int .i64 0), (.str ⟨#[]⟩)] [0, 1]), [.tmp 59, .tmp 60], none⟩ (.or (.step ⟨some 64, .plain (.buildRow 32 6 2 [(.int .i64 0), (.int .i64 0), (.int .i64 0), (.int .i64 0), (.bool false), (.str ⟨#[]⟩)] [0, 1]), [.tmp 62, .tmp 63], none⟩ s5) (.or (.step ⟨some 14, .plain (.alloc [(.int .i64 0), (.int .i64 0), (.int .i64 0), (.str ⟨#[]⟩)]), [], none⟩ s1) (.step ⟨some 15, .plain (.alloc [(.int .i64 0), (.str ⟨#[]⟩), (.int .i64 0), (.str ⟨#[]⟩), (.int .i64 0)]), [], none⟩ s2)))) (.or (.step ⟨some 64, .plain (.buildRow 32 6 2 [(.int .i64 0), (.int .i64 0), (.int .i64 0), (.int .i64 0), (.bool false), (.str ⟨#[]⟩)] [0, 1]), [.tmp 62, .tmp 63], none⟩ (.or (.step ⟨some 61, .plain (.buildRow 24 4 2 [(.int .i64 0), (.int .i64 0), (.int .i64 0), (.str ⟨#[]⟩)] [0, 1]), [.tmp 59, .tmp 60], none⟩ s5) (.or (.step ⟨some 14, .plain (.alloc [(.int .i64 0), (.int .i64 0), (.int .i64 0), (.str ⟨#[]⟩)]), [], none⟩ s3) (.step ⟨some 15, .plain (.alloc [(.int .i64 0), (.str ⟨#[]⟩), (.int .i64 0), (.str ⟨#[]⟩), (.int .i64 0)]), [], none⟩ s4)))) (.or (.step ⟨some 14, .plain (.alloc [(.int .i64 0), (.int .i64 0), (.int .i64 0), (.str ⟨#[]⟩)]), [], none⟩ (.or (.step ⟨some 61, .plain (.buildRow 24 4 2 [(.int .i64 0), (.int .i64 0), (.int .i64 0), (.str ⟨#[]⟩)] [0, 1]), [.tmp 59, .tmp 60], none⟩ s1) (.or (.step ⟨some 64, .plain (.buildRow 32 6 2 [(.int .i64 0), (.int .i64 0), (.int .i64 0), (.int .i64 0), (.bool false), (.str ⟨#[]⟩)] [0, 1]), [.tmp 62, .tmp 63], none⟩ s3) (.step ⟨some 15, .plain (.alloc [(.int .i64 0), (.str ⟨#[]⟩), (.int .i64 0), (.str ⟨#[]⟩), (.int .i64 0)]), [], none⟩ s0)))) (.step ⟨some 15, .plain (.alloc [(.int .i64 0), (.str ⟨#[]⟩), (.int .i64 0), (.str ⟨#[]⟩), (.int .i64 0)]), [], none⟩ (.or (.step ⟨some 61, .plain (.buildRow 24 4 2 [(.int .i64 0), (.int .i64 0), (.int .i64 0), (.str ⟨#[]⟩)] [0, 1]), [.tmp 59, .tmp 60], none⟩ s2) (.or (.step ⟨some 64, .plain (.buildRow 32 6 2 [(.int .i64 0), (.int .i64 0), (.int .i64 0), (.int .i64 0), (.bool false), (.str ⟨#[]⟩)] [0, 1]), [.tmp 62, .tmp 63], none⟩ s4) (.step ⟨some 14, .plain (.alloc [(.int .i64 0), (.int .i64 0), (.int .i64 0), (.str ⟨#[]⟩)]), [], none⟩ s0)))))))))))) [59, 60, 62, 63, 65, 61, 64, 66, 58, 67, 68, 69]) (.seq (.ops [⟨some 70, .plain .mv, [.tmp 13], none⟩, ⟨some 71, .plain (.bin .eql), [.tmp 70, .lit (.int .i64 0)], none⟩, ⟨some 72, .plain .mv, [.tmp 71], none⟩, ⟨some 73, .plain .mv, [.tmp 16], (some (72, true))⟩, ⟨some 74, .plain (.bin .eql), [.tmp 73, .lit (.int .i64 0)], (some (72, true))⟩, ⟨some 75, .plain .pick, [.tmp 72, .tmp 74, .lit (.bool false)], none⟩, ⟨some 76, .plain .mv, [.tmp 75], none⟩, ⟨some 77, .plain (.fieldAddr 0), [.tmp 12], (some (76, true))⟩, ⟨some 78, .plain (.load false 1), [.tmp 77], (some (76, true))⟩, ⟨some 79, .plain (.bin .eql), [.tmp 78, .lit (.int .i64 0)], (some (76, true))⟩, ⟨some 80, .plain .pick, [.tmp 76, .tmp 79, .lit (.bool false)], none⟩, ⟨some 81, .plain .mv, [.tmp 80], none⟩, ⟨some 82, .plain (.fieldAddr 0), [.tmp 15], (some (81, true))⟩, ⟨some 83, .plain (.load false 1), [.tmp 82], (some (81, true))⟩, ⟨some 84, .plain (.bin .eql), [.tmp 83, .lit (.int .i64 0)], (some (81, true))⟩, ⟨some 85, .plain .pick, [.tmp 81, .tmp 84, .lit (.bool false)], none⟩, ⟨some 86, .plain .mv, [.tmp 85], none⟩, ⟨some 87, .plain (.fieldAddr 3), [.tmp 11], (some (86, true))⟩, ⟨some 88, .plain (.load false 1), [.tmp 87], (some (86, true))⟩, ⟨some 89, .plain (.fieldAddr 3), [.tmp 14], (some (86, true))⟩, ⟨some 90, .plain (.load false 1), [.tmp 89], (some (86, true))⟩, ⟨some 91, .plain (.bin .add), [.tmp 88, .tmp 90], (some (86, true))⟩, ⟨some 92, .plain .mv, [.tmp 0], (some (86, true))⟩, ⟨some 93, .plain (.bin .eql), [.tmp 91, .tmp 92], (some (86, true))⟩, ⟨some 94, .plain .pick, [.tmp 86, .tmp 93, .lit (.bool false)], none⟩, ⟨some 95, .plain .mv, [.tmp 94], none⟩, ⟨some 96, .call 8, [], (some (95, true))⟩, ⟨some 97, .plain .pick, [.tmp 95, .tmp 96, .lit (.bool false)], none⟩, ⟨some 4, .plain .mv, [.tmp 97], none⟩] [70, 71, 72, 73, 74, 75, 76, 77, 78, 79, 80, 81, 82, 83, 84, 85, 86, 87, 88, 89, 90, 91, 92, 93, 94, 95, 96, 97]) .ret))
def c4P : SC :=
 let s13 : DT := (.step ⟨none, .plain (.store 4), [.tmp 11, .tmp 55], none⟩ (.step ⟨none, .plain (.store 5), [.tmp 12, .tmp 56], none⟩ (.step ⟨some 13, .plain .mv, [.tmp 57], none⟩ .done)))
 let s12 : DT := (.step ⟨some 11, .plain (.alloc [(.int .i64 0), (.int .i64 0), (.int .i64 0), (.str ⟨#[]⟩)]), [], none⟩ s13)
 let s11 : DT := (.step ⟨some 12, .plain (.alloc [(.int .i64 0), (.str ⟨#[]⟩), (.int .i64 0), (.str ⟨#[]⟩), (.int .i64 0)]), [], none⟩ s13)
 let s10 : DT := (.step ⟨some 54, .call 9, [.lit (.str ⟨#[83, 85, 66, 83, 84, 82]⟩), .tmp 48, .tmp 52, .tmp 53], none⟩ (.step ⟨some 44, .plain .mv, [.tmp 54], none⟩ (.step ⟨some 55, .plain (.extract 0), [.tmp 44], none⟩ (.step ⟨some 56, .plain (.extract 1), [.tmp 44], none⟩ (.step ⟨some 57, .plain (.extract 2), [.tmp 44], none⟩ s13)))))
 let s9 : DT := (.step ⟨some 54, .call 9, [.lit (.str ⟨#[83, 85, 66, 83, 84, 82]⟩), .tmp 48, .tmp 52, .tmp 53], none⟩ (.step ⟨some 44, .plain .mv, [.tmp 54], none⟩ (.step ⟨some 55, .plain (.extract 0), [.tmp 44], none⟩ (.step ⟨some 56, .plain (.extract 1), [.tmp 44], none⟩ (.step ⟨some 57, .plain (.extract 2), [.tmp 44], none⟩ s12)))))
 let s8 : DT := (.step ⟨some 54, .call 9, [.lit (.str ⟨#[83, 85, 66, 83, 84, 82]⟩), .tmp 48, .tmp 52, .tmp 53], none⟩ (.step ⟨some 44, .plain .mv, [.tmp 54], none⟩ (.step ⟨some 55, .plain (.extract 0), [.tmp 44], none⟩ (.step ⟨some 56, .plain (.extract 1), [.tmp 44], none⟩ (.step ⟨some 57, .plain (.extract 2), [.tmp 44], none⟩ s11)))))
 let s7 : DT := (.step ⟨some 48, .plain (.buildRow 24 4 3 [(.int .i64 0), (.int .i64 0), (.int .i64 0), (.str ⟨#[]⟩)] [0, 1, 2]), [.tmp 45, .tmp 46, .tmp 47], none⟩ s10)
 let s6 : DT := (.step ⟨some 52, .plain (.buildRow 32 6 3 [(.int .i64 0), (.int .i64 0), (.int .i64 0), (.int .i64 0), (.bool false), (.str ⟨#[]⟩)] [0, 1, 2]), [.tmp 49, .tmp 50, .tmp 51], none⟩ s10)
 let s5 : DT := (.step ⟨some 54, .call 9, [.lit (.str ⟨#[83, 85, 66, 83, 84, 82]⟩), .tmp 48, .tmp 52, .tmp 53], none⟩ (.step ⟨some 44, .plain .mv, [.tmp 54], none⟩ (.step ⟨some 55, .plain (.extract 0), [.tmp 44], none⟩ (.step ⟨some 56, .plain (.extract 1), [.tmp 44], none⟩ (.step ⟨some 57, .plain (.extract 2), [.tmp 44], none⟩ (.or (.step ⟨some 11, .plain (.alloc [(.int .i64 0), (.int .i64 0), (.int .i64 0), (.str ⟨#[]⟩)]), [], none⟩ s11) (.step ⟨some 12, .plain (.alloc [(.int .i64 0), (.str ⟨#[]⟩), (.int .i64 0), (.str ⟨#[]⟩), (.int .i64 0)]), [], none⟩ s12)))))))
 let s4 : DT := (.or (.step ⟨some 48, .plain (.buildRow 24 4 3 [(.int .i64 0), (.int .i64 0), (.int .i64 0), (.str ⟨#[]⟩)] [0, 1, 2]), [.tmp 45, .tmp 46, .tmp 47], none⟩ s9) (.step ⟨some 11, .plain (.alloc [(.int .i64 0), (.int .i64 0), (.int .i64 0), (.str ⟨#[]⟩)]), [], none⟩ s7))
 let s3 : DT := (.or (.step ⟨some 48, .plain (.buildRow 24 4 3 [(.int .i64 0), (.int .i64 0), (.int .i64 0), (.str ⟨#[]⟩)] [0, 1, 2]), [.tmp 45, .tmp 46, .tmp 47], none⟩ s8) (.step ⟨some 12, .plain (.alloc [(.int .i64 0), (.str ⟨#[]⟩), (.int .i64 0), (.str ⟨#[]⟩), (.int .i64 0)]), [], none⟩ s7))
 let s2 : DT := (.or (.step ⟨some 52, .plain (.buildRow 32 6 3 [(.int .i64 0), (.int .i64 0), (.int .i64 0), (.int .i64 0), (.bool false), (.str ⟨#[]⟩)] [0, 1, 2]), [.tmp 49, .tmp 50, .tmp 51], none⟩ s9) (.step ⟨some 11, .plain (.alloc [(.int .i64 0), (.int .i64 0), (.int .i64 0), (.str ⟨#[]⟩)]), [], none⟩ s6))
 let s1 : DT := (.or (.step ⟨some 52, .plain (.buildRow 32 6 3 [(.int .i64 0), (.int .i64 0), (.int .i64 0), (.int .i64 0), (.bool false), (.str ⟨#[]⟩)] [0, 1, 2]), [.tmp 49, .tmp 50, .tmp 51], none⟩ s8) (.step ⟨some 12, .plain (.alloc [(.int .i64 0), (.str ⟨#[]⟩), (.int .i64 0), (.str ⟨#[]⟩), (.int .i64 0)]), [], none⟩ s6))
 let s0 : DT := (.or (.step ⟨some 48, .plain (.buildRow 24 4 3 [(.int .i64 0), (.int .i64 0), (.int .i64 0), (.str ⟨#[]⟩)] [0, 1, 2]), [.tmp 45, .tmp 46, .tmp 47], none⟩ s6) (.step ⟨some 52, .plain (.buildRow 32 6 3 [(.int .i64 0), (.int .i64 0), (.int .i64 0), (.int .i64 0), (.bool false), (.str ⟨#[]⟩)] [0, 1, 2]), [.tmp 49, .tmp 50, .tmp 51], none⟩ s7))
 (.seq (.ops [⟨some 4, .plain .mv, [.lit (.bool false)], none⟩] []) (.seq (.ops [⟨some 17, .plain .mv, [.tmp 0], none⟩, ⟨some 18, .plain (.build [(.int .i64 0), (.int .i64 0), (.int .i64 0), (.str ⟨#[]⟩)] [(0, 1), (3, 1)]), [.lit (.int .i64 4), .tmp 17], none⟩, ⟨some 5, .plain (.alloc [(.int .i64 0), (.int .i64 0), (.int .i64 0), (.str ⟨#[]⟩)]), [], none⟩, ⟨none, .plain (.store 4), [.tmp 5, .tmp 18], none⟩] [17, 18]) (.seq (.seq (.ops [⟨some 19, .plain (.load true 4), [.tmp 5], none⟩, ⟨some 20, .call 11, [.tmp 19], none⟩, ⟨some 21, .plain (.un .not), [.tmp 20], none⟩, ⟨some 22, .plain .mv, [.tmp 21], none⟩, ⟨some 23, .plain .mv, [.tmp 1], (some (22, false))⟩, ⟨some 24, .plain (.bin .lss), [.tmp 23, .lit (.int .i64 0)], (some (22, false))⟩, ⟨some 25, .plain .pick, [.tmp 22, .lit (.bool true), .tmp 24], none⟩, ⟨some 26, .plain .mv, [.tmp 25], none⟩, ⟨some 27, .plain .mv, [.tmp 1], (some (26, false))⟩, ⟨some 28, .plain .mv, [.tmp 0], (some (26, false))⟩, ⟨some 29, .plain (.len 0), [.tmp 28], (some (26, false))⟩, ⟨some 30, .plain (.bin .gtr), [.tmp 27, .tmp 29], (some (26, false))⟩, ⟨some 31, .plain .pick, [.tmp 26, .lit (.bool true), .tmp 30], none⟩] [19, 20, 21, 22, 23, 24, 25, 26, 27, 28, 29, 30]) (.cond (.tmp 31) (.seq (.ops [⟨some 32, .call 8, [], none⟩, ⟨some 4, .plain .mv, [.tmp 32], none⟩] [32]) .ret) .skip)) (.seq (.ops [⟨some 33, .plain .mv, [.tmp 0], none⟩, ⟨some 34, .plain (.len 0), [.tmp 33], none⟩, ⟨some 35, .plain (.build [(.int .i64 0), (.int .i64 0), (.int .i64 0), (.int .i64 0), (.bool false), (.str ⟨#[]⟩)] [(0, 1), (3, 1)]), [.lit (.int .i64 4), .tmp 34], none⟩, ⟨some 6, .plain (.alloc [(.int .i64 0), (.int .i64 0), (.int .i64 0), (.int .i64 0), (.bool false), (.str ⟨#[]⟩)]), [], none⟩, ⟨none, .plain (.store 6), [.tmp 6, .tmp 35], none⟩] [33, 34, 35]) (.seq (.ops [⟨some 36, .plain (.load true 6), [.tmp 6], none⟩, ⟨some 7, .plain (.alloc [(.int .i64 0), (.int .i64 0), (.int .i64 0), (.int .i64 0), (.bool false), (.str ⟨#[]⟩)]), [], none⟩, ⟨none, .plain (.store 6), [.tmp 7, .tmp 36], none⟩] [36]) (.seq (.ops [⟨some 37, .plain (.fieldAddr 4), [.tmp 7], none⟩, ⟨none, .plain (.store 1), [.tmp 37, .lit (.bool true)], none⟩] [37]) (.seq (.ops [⟨some 38, .plain (.build [(.int .i64 0), (.int .i64 0), (.int .i64 0), (.str ⟨#[]⟩)] [(0, 1), (1, 1)]), [.lit (.int .i64 1), .lit (.int .i64 1)], none⟩, ⟨some 39, .plain .mv, [.tmp 1], none⟩, ⟨some 40, .plain (.build [(.int .i64 0), (.int .i64 0), (.int .i64 0), (.str ⟨#[]⟩)] [(0, 1), (1, 1)]), [.lit (.int .i64 1), .tmp 39], none⟩, ⟨some 41, .plain .mv, [.tmp 1], none⟩, ⟨some 42, .plain (.bin .add), [.tmp 41, .lit (.int .i64 1)], none⟩, ⟨some 43, .plain (.build [(.int .i64 0), (.int .i64 0), (.int .i64 0), (.str ⟨#[]⟩)] [(0, 1), (1, 1)]), [.lit (.int .i64 1), .tmp 42], none⟩, ⟨some 8, .plain (.alloc [(.int .i64 0), (.int .i64 0), (.int .i64 0), (.str ⟨#[]⟩)]), [], none⟩, ⟨some 9, .plain (.alloc [(.int .i64 0), (.int .i64 0), (.int .i64 0), (.str ⟨#[]⟩)]), [], none⟩, ⟨some 10, .plain (.alloc [(.int .i64 0), (.int .i64 0), (.int .i64 0), (.str ⟨#[]⟩)]), [], none⟩, ⟨none, .plain (.store 4), [.tmp 8, .tmp 38], none⟩, ⟨none, .plain (.store 4), [.tmp 9, .tmp 40], none⟩, ⟨none, .plain (.store 4), [.tmp 10, .tmp 43], none⟩] [38, 39, 40, 41, 42, 43]) (.seq (.draw (.step ⟨some 45, .plain (.load true 4), [.tmp 5], none⟩ (.step ⟨some 46, .plain (.load true 4), [.tmp 8], none⟩ (.step ⟨some 47, .plain (.load true 4), [.tmp 9], none⟩ (.step ⟨some 49, .plain (.load true 6), [.tmp 6], none⟩ (.step ⟨some 50, .call 10, [], none⟩ (.step ⟨some 51, .call 10, [], none⟩ (.step ⟨some 53, .plain (.load true 6), [.tmp 7], none⟩ (.or (.step ⟨some 48, .plain (.buildRow 24 4 3 [(.int .i64 0), (.int .i64 0), (.int .i64 0), (.str ⟨#[]⟩)] [0, 1, 2]), [.tmp 45, .tmp 46, .tmp 47], none⟩ (.or (.step ⟨some 52, .plain (.buildRow 32 6 3 [(.int .i64 0), (.int .i64 0), (.int .i64 0), (.int .i64 0), (.bool false), (.str ⟨#[]⟩)] [0, 1, 2]), [.tmp 49, .tmp 50, .tmp 51], none⟩ s5) (.or (.step ⟨some 11, .plain (.alloc [(.int .i64 0), (.int .i64 0), (.int .i64 0), (.str ⟨#[]⟩)]), [], none⟩ s1) (.step ⟨some 12, .plain (.alloc [(.int .i64 0), (.str ⟨#[]⟩), (.int .i64 0), (.str ⟨#[]⟩), (.int .i64 0)]), [], none⟩ s2)))) (.or (.step ⟨some 52, .plain (.buildRow 32 6 3 [(.int .i64 0), (.int .i64 0), (.int .i64 0), (.int .i64 0), (.bool false), (.str ⟨#[]⟩)] [0, 1, 2]), [.tmp 49, .tmp 50, .tmp 51], none⟩ (.or (.step ⟨some 48, .plain (.buildRow 24 4 3 [(.int .i64 0), (.int .i64 0), (.int .i64 0), (.str ⟨#[]⟩)] [0, 1, 2]), [.tmp 45, .tmp 46, .tmp 47], none⟩ s5) (.or (.step ⟨some 11, .plain (.alloc [(.int .i64 0), (.int .i64 0), (.int .i64 0), (.str ⟨#[]⟩)]), [], none⟩ s3) (.step ⟨some 12, .plain (.alloc [(.int .i64 0), (.str ⟨#[]⟩), (.int .i64 0), (.str ⟨#[]⟩), (.int .i64 0)]), [], none⟩ s4)))) (.or (.step ⟨some 11, .plain (.alloc [(.int .i64 0), (.int .i64 0), (.int .i64 0), (.str ⟨#[]⟩)]), [], none⟩ (.or (.step ⟨some 48, .plain (.buildRow 24 4 3 [(.int .i64 0), (.int .i64 0), (.int .i64 0), (.str ⟨#[]⟩)] [0, 1, 2]), [.tmp 45, .tmp 46, .tmp 47], none⟩ s1) (.or (.step ⟨some 52, .plain (.buildRow 32 6 3 [(.int .i64 0), (.int .i64 0), (.int .i64 0), (.int .i64 0), (.bool false), (.str ⟨#[]⟩)] [0, 1, 2]), [.tmp 49, .tmp 50, .tmp 51], none⟩ s3) (.step ⟨some 12, .plain (.alloc [(.int .i64 0), (.str ⟨#[]⟩), (.int .i64 0), (.str ⟨#[]⟩), (.int .i64 0)]), [], none⟩ s0)))) (.step ⟨some 12, .plain (.alloc [(.int .i64 0), (.str ⟨#[]⟩), (.int .i64 0), (.str ⟨#[]⟩), (.int .i64 0)]), [], none⟩ (.or (.step ⟨some 48, .plain (.buildRow 24 4 3 [(.int .i64 0), (.int .i64 0), (.int .i64 0), (.str ⟨#[]⟩)] [0, 1, 2]), [.tmp 45, .tmp 46, .tmp 47], none⟩ s2) (.or (.step ⟨some 52, .plain (.buildRow 32 6 3 [(.int .i64 0), (.int .i64 0), (.int .i64 0), (.int .i64 0), (.bool false), (.str ⟨#[]⟩)] [0, 1, 2]), [.tmp 49, .tmp 50, .tmp 51], none⟩ s4) (.step ⟨some 11, .plain (.alloc [(.int .i64 0), (.int .i64 0), (.int .i64 0), (.str ⟨#[]⟩)]), [], none⟩ s0)))))))))))))) [45, 46, 47, 49, 50, 51, 53, 48, 52, 54, 44, 55, 56, 57]) r4))))))))
theorem c4_eq : c4 = c4P := rfl
end Go.Pm

/- BkX11: contracts: the law of parts, its second half. -/
namespace Go.Pm
open Go Go.Proofs
attribute [-simp] List.getElem?_map
attribute [simp] nilCheckA postA_norm
def SmpOk (n : Int) : Prop := ∃ smp, PCalls Bk.pg 53 [.agg (tyC n false), .int .i64 1] fun out => out = .ret (.agg (vlC smp))
theorem smp_pos {n : Nat} (h1 : 1 ≤ n) (h2 : n ≤ 250) : SmpOk n := ⟨_, call53P h1 h2⟩
theorem call9L3 {s : ByteArray} {c : Nat} (hS : SmpOk s.size) (h : chB s = true) (hf : c ≤ s.size) :
    PCalls Bk.pg 9 [.str nameP, .list false 4 [vlC s, vlB 1, vlB c], .list false 6 [tyC s.size false, tyB, tyB], .agg (tyC s.size true)] fun out => out = .ret (.tuple [.agg (vlC (s.extract 0 c)), .agg (rz 0), .int .i64 0]) := by
  obtain ⟨smp, hS⟩ := hS
  exact (call9X3 hS h hf).lend rfl (Lend.cons (Lend.list (Lend.list (Lend.cons Lend.nil))))
theorem call9L2 {s : ByteArray} {f : Nat} (hS : SmpOk s.size) (h : chB s = true) (hf : f ≤ s.size) :
    PCalls Bk.pg 9 [.str nameP, .list false 4 [vlC s, vlB ((f : Int) + 1)], .list false 6 [tyC s.size false, tyB], .agg (tyC s.size true)] fun out => out = .ret (.tuple [.agg (vlC (s.extract f s.size)), .agg (rz 0), .int .i64 0]) := by
  obtain ⟨smp, hS⟩ := hS
  exact (call9X2 (b := 0) hS h hf).lend rfl (Lend.cons (Lend.list (Lend.list (Lend.cons Lend.nil))))
theorem part_whole {s : ByteArray} {c : Nat} (h : c ≤ s.size) : s.extract 0 c ++ s.extract c s.size = s := by
  ext1
  have h' : c ≤ s.data.size := h
  rw [ByteArray.data_append, ByteArray.data_extract, ByteArray.data_extract, Array.extract_append_extract, Nat.min_eq_left (Nat.zero_le _), Nat.max_eq_right h]
  exact Array.extract_size
def m4 (s : ByteArray) (c : Nat) : List (Nat × AObj) :=
  [(0, .cells (vlC s)), (1, .cells (tyC s.size false)), (2, .cells (tyC s.size true)), (3, .cells (vlB 1)), (4, .cells (vlB c)), (5, .cells (vlB ((c : Int) + 1)))]
def e4 (s : ByteArray) (c p11 g11 p12 g12 : Nat) : Env :=
  [(0, .str s), (1, .int .i64 c), (4, .bool false), (5, .ptr 0 0 0), (6, .ptr 1 1 0), (7, .ptr 2 2 0), (8, .ptr 3 3 0), (9, .ptr 4 4 0), (10, .ptr 5 5 0), (11, .ptr p11 g11 0), (12, .ptr p12 g12 0), (13, .int .i64 0), (31, .bool (ltI s.size c))]
set_option maxHeartbeats 8000000 in
theorem rest4 {s : ByteArray} {c p11 g11 p12 g12 nx : Nat} {A : List (Nat × AObj)} (hS : SmpOk s.size) (h : chB s = true) (hf : c ≤ s.size) (h11 : (m4 s c ++ A)[p11]? = some (g11, .cells (vlC (s.extract 0 c)))) (h12 : (m4 s c ++ A)[p12]? = some (g12, .cells (rz 0))) :
    wpS Bk.pg Bk.imp r4 [] (postP cr4 fun out => out = .ret (.bool true)) (e4 s c p11 g11 p12 g12) ⟨m4 s c ++ A, nx⟩ := by
  have c9 := call9L2 hS h hf
  have c8 := call8
  have c10 := call10
  have hs := chB_size h
  have z : eqI 0 0 = true := rfl
  have k11 : ∀ B, (m4 s c ++ (A ++ B))[p11]? = some (g11, .cells (vlC (s.extract 0 c))) := fun B => by
    rw [← List.append_assoc, List.getElem?_append_left (List.getElem?_eq_some_iff.1 h11).1]; exact h11
  have k12 : ∀ B, (m4 s c ++ (A ++ B))[p12]? = some (g12, .cells (rz 0)) := fun B => by
    rw [← List.append_assoc, List.getElem?_append_left (List.getElem?_eq_some_iff.1 h12).1]; exact h12
  have hsz : (s.extract 0 c).size + (s.extract c s.size).size ≤ 9223372036854775807 := by rw [ByteArray.size_extract, ByteArray.size_extract]; omega
  have heq : eqS (s.extract 0 c ++ s.extract c s.size) s = true := by
    have : s.extract 0 c ++ s.extract c s.size = s := part_whole hf
    rw [this]; exact eqS_r _
  generalize s.extract 0 c = X at *
  generalize s.extract c s.size = Y at *
  simp only [nameP, m4, vlB, vlC, vlN, vl, tyB, tyC, tyN, ty, rz, List.cons_append, List.nil_append] at c9 c10 k11 k12
  simp [r4, e4, m4, vlB, vlC, vlN, vl, tyC, ty]
  refine xdcall_p rfl c10 (by simp) ?_
  simp
  repeat' (with_reducible refine And.intro ?_ ?_)
  all_goals
    refine xdcall_p rfl c9 (by simp [List.range, List.range.loop]) ?_
    simp
    repeat' (with_reducible refine And.intro ?_ ?_)
  all_goals
    simp [z, k11, k12, hsz, heq]
    refine xcall_p c8 (by simp) ?_
    simp [cr4]
end Go.Pm

/- BkX12: contracts: the law of parts. -/
namespace Go.Pm
open Go Go.Proofs
attribute [-simp] List.getElem?_map
attribute [simp] nilCheckA postA_norm
set_option maxHeartbeats 8000000 in
theorem call4P {s : ByteArray} {n : Int} (hn : -9223372036854775808 ≤ n ∧ n ≤ 9223372036854775807) (hS : chB s = true → SmpOk s.size) : PCalls Bk.pg 4 [.str s, .int .i64 n] fun out => out = .ret (.bool true) := by
  refine ok4.pcalls (by simp) ?_
  have c8 := call8
  have c11 := call11 s
  have c10 := call10
  rw [c4_eq]
  simp only [vlC, vl] at c11
  simp [c4P]
  refine xcall_p c11 (by simp) ?_
  cases h : chB s with
  | false =>
    simp
    refine xcall_p c8 (by simp) ?_
    simp [cr4]
  | true =>
    simp
    refine br_guard_f rfl (fun h1 => ?_) (fun h1 => ?_)
    · simp [h1]
      refine xcall_p c8 (by simp) ?_
      simp [cr4]
    simp [h1]
    refine br_cond rfl (fun h2 => ?_) (fun h2 => ?_)
    · simp
      refine xcall_p c8 (by simp) ?_
      simp [cr4]
    have g1 := ltI_f.1 h1
    have g2 := ltI_f.1 h2
    have hs := chB_size h
    obtain ⟨c, rfl⟩ : ∃ c : Nat, n = c := ⟨n.toNat, by omega⟩
    have hf : c ≤ s.size := by omega
    have w1 : IntKind.i64.wrap ((c : Int) + 1) = (c : Int) + 1 := wrap64 (by omega) (by omega)
    have c9 := call9L3 (hS h) h hf
    have hr := fun p11 g11 p12 g12 nx A => rest4 (s := s) (c := c) (p11 := p11) (g11 := g11) (p12 := p12) (g12 := g12) (nx := nx) (A := A) (hS h) h hf
    generalize s.extract 0 c = X at *
    simp only [nameP, m4, e4, vlB, vlC, vlN, vl, tyB, tyC, tyN, ty, rz, List.cons_append, List.nil_append] at c9 c10 hr
    simp [w1]
    refine xdcall_p rfl c10 (by simp) ?_
    simp
    refine xdcall_p rfl c10 (by simp) ?_
    simp
    repeat' (with_reducible refine And.intro ?_ ?_)
    all_goals
      refine xdcall_p rfl c9 (by simp [List.range, List.range.loop]) ?_
      simp
      repeat' (with_reducible refine And.intro ?_ ?_)
    all_goals exact hr _ _ _ _ _ _ rfl rfl
end Go.Pm

/- BkR3: deferred functions that recover into a temporary and look at it at once. -/
namespace Go.Pm
open Go
def isRecover3 : Code → Option (Nat × Array Oper × List Oper × Code)
  | .seq (.region _ os draw) b => match draw, os.toList with
    | false, o :: rest => match o.op, o.dst, o.guard with
      | .call c, some t, none => match c.callee, c.args.size with
        | .builtin .recover, 0 => some (t, os, rest, b)
        | _, _ => none
      | _, _, _ => none
    | _, _ => none
  | _ => none
def plainOp (o : Oper) : Bool := match o.op with
  | .move _ | .assign _ | .alloc _ | .store .. | .typeAssert .. | .extract .. | .load .. | .fieldAddr .. => true
  | _ => false
theorem plain_value {α : Type} (s : Sem α) (f : α → Next) {P : Program} {w : World} : (∃ x w', ((do pure (f (← s))) : Sem Next).run P w = .ok (f x) w') ∨ ∃ h w', ((do pure (f (← s))) : Sem Next).run P w = .halt h w' := by
  have : ((do pure (f (← s))) : Sem Next).run P w = match s.run P w with | .ok x w' => .ok (f x) w' | .halt h w' => .halt h w' := by
    show (s >>= fun x => pure (f x)).run P w = _
    rw [Sem.run_bind]
    cases s.run P w <;> rfl
  rw [this]
  cases s.run P w with
  | ok x w' => exact .inl ⟨x, w', rfl⟩
  | halt h w' => exact .inr ⟨h, w', rfl⟩
section
variable {P : Prg} {imp : List FuncId}
theorem plain_run {o : Oper} (h : plainOp o = true) (ρ : Operand → Value) (w : World) : (∃ v w', (execOp ρ o).run P w = .ok (.value v) w') ∨ (∃ w', (execOp ρ o).run P w = .ok .skip w') ∨ ∃ hl w', (execOp ρ o).run P w = .halt hl w' := by
  unfold plainOp at h
  unfold execOp
  split at h
  case h_9 => cases h
  all_goals
    rename_i hop
    rw [hop]
  · exact .inl ⟨_, _, rfl⟩
  · exact .inl ⟨_, _, rfl⟩
  · rcases plain_value (Instr.alloc _ true (.tuple #[])) Next.value (P := P) (w := w) with ⟨x, w', e⟩ | ⟨hl, w', e⟩
    · exact .inl ⟨_, _, e⟩
    · exact .inr (.inr ⟨_, _, e⟩)
  · rename_i ty a x
    rcases plain_value (do let u ← Instr.storeAt ty (ρ a) (ρ x); pure u) (fun _ => Next.skip) (P := P) (w := w) with ⟨x, w', e⟩ | ⟨hl, w', e⟩
    · exact .inr (.inl ⟨_, e⟩)
    · exact .inr (.inr ⟨_, _, e⟩)
  · rename_i x ty ast ok
    rcases plain_value (Instr.typeAssert (ρ x) ty ast ok) Next.value (P := P) (w := w) with ⟨x, w', e⟩ | ⟨hl, w', e⟩
    · exact .inl ⟨_, _, e⟩
    · exact .inr (.inr ⟨_, _, e⟩)
  · rename_i x ix
    rcases plain_value (Instr.extract (ρ x) ix) Next.value (P := P) (w := w) with ⟨x, w', e⟩ | ⟨hl, w', e⟩
    · exact .inl ⟨_, _, e⟩
    · exact .inr (.inr ⟨_, _, e⟩)
  · rename_i ty a
    rcases plain_value (Instr.loadAt ty (ρ a)) Next.value (P := P) (w := w) with ⟨x, w', e⟩ | ⟨hl, w', e⟩
    · exact .inl ⟨_, _, e⟩
    · exact .inr (.inr ⟨_, _, e⟩)
  · rename_i s x f
    rcases plain_value (Instr.fieldAt s (ρ x) f) Next.value (P := P) (w := w) with ⟨x, w', e⟩ | ⟨hl, w', e⟩
    · exact .inl ⟨_, _, e⟩
    · exact .inr (.inr ⟨_, _, e⟩)
theorem opsS_of_list {n : Nat} {os : Array Oper} {Q : Exit → Act → World → Prop} {Q' : Exit → Act → List Frame → World → Prop} (cs : List Frame) (hQ : ∀ ex a w, Q ex a w → Q' ex a cs w) : ∀ (l : List Oper) (k : Nat), (∀ j, l[j]? = os[k + j]?) → l.all plainOp = true → ∀ (a : Act) (w : World), wpListIn (fenceR none) n P os Q l a w →
    wpOpsSIn Fence.wide 0 P os Q' (List.range' k l.length) a cs w
  | [], k, _, _, a, w, h => by
    simp only [wpListIn] at h
    simp only [List.length_nil, List.range'_zero, wpOpsSIn]
    exact hQ _ _ _ h
  | o :: l, k, hj, hp, a, w, h => by
    rw [List.all_cons, Bool.and_eq_true] at hp
    have h0 : os[k]? = some o := by have := hj 0; simpa using this.symm
    have ih := opsS_of_list (n := n) (Q := Q) (Q' := Q') cs hQ l (k + 1) (fun j => by have := hj (j + 1); rw [List.getElem?_cons_succ] at this; rw [this]; congr 1; omega) hp.2
    rw [List.length_cons, List.range'_succ]
    simp only [wpListIn] at h
    simp only [wpOpsSIn, h0]
    refine ⟨fun _ _ => trivial, ?_⟩
    by_cases hw : Region.wanted o (yielded os a.tmps) = true
    · rw [if_pos hw] at h ⊢
      obtain ⟨_, h⟩ := h
      rw [show Oper.semAt (fenceR none).round a.eval o = execOp a.eval o from rfl] at h
      rcases plain_run (P := P) hp.1 a.eval w with ⟨v, w', e⟩ | ⟨w', e⟩ | ⟨hl, w', e⟩
      · rw [e] at h ⊢
        rw [Oper.uponIn_value] at h
        exact ih _ _ h
      · rw [e] at h ⊢
        rw [Oper.uponIn_skip] at h
        exact ih _ _ h
      · rw [e] at h ⊢
        cases hl with
        | panic v =>
          rw [Oper.uponIn_panic] at h
          exact hQ _ _ _ h
        | _ => exact h
    · rw [if_neg hw] at h ⊢
      exact ih _ _ h.2
theorem dcalls_of_wp3 {f : FuncId} {fn : Func} {c b : Code} {os : Array Oper} {rest : List Oper} {sl : List SOp} {drop : List Nat} {sc : SC} {t : Nat} {xs : List AV} {pan : Option AV} {m : Mem} {R : Mem → Prop} (hf : P.funcs[f]? = some fn) (hb : fn.body = some c) (hn : (fn.name == "runtime.NumGoroutine") = false)
    (hi : isRecover3 c = some (t, os, rest, b)) (hp : rest.all plainOp = true) (hl : compOps P fn.ntmps os rest = some sl) (hc : compCode P imp fn.ntmps b = some sc.strip) (hfl : sc.flat = true) (hres : fn.results = #[]) (ht : t < fn.ntmps) (hlen : xs.length ≤ fn.ntmps)
    (h : wp P imp (.seq (.ops sl drop) sc) (postR R) ((Env.ofArgs 0 xs).set t (pan.getD (.const .nilIface))) m) : DCalls P f xs pan m R := by
  refine ⟨⟨fn, hf, by rw [hb]; rfl, hn⟩, fun β K σ w vals u hrel hv hu hβ => ?_⟩
  refine callsDIn_of_wpSIn hf hb trivial fun c₀ cs hm => ?_
  unfold isRecover3 at hi
  split at hi
  case h_2 => cases hi
  rename_i id os draw b
  split at hi
  case h_2 => cases hi
  rename_i o rest' hos
  split at hi
  case h_2 => cases hi
  rename_i cl t' hop hdst hgd
  split at hi
  case h_2 => cases hi
  rename_i hcal hsz
  injection hi with hi; injection hi with h1 h2; injection h2 with h2 h3; injection h3 with h3 h4; subst h1; subst h2; subst h3; subst h4
  have hw : ∀ g, Region.wanted o g = true := fun g => by simp [Region.wanted, hgd]
  have hrec : ∀ ρ : Operand → Value, (execOp ρ o).run P w = .ok .recover w := fun ρ => run_recover hop hcal hsz
  have hvl := VRs_length hv
  obtain ⟨a0, ha0⟩ : ∃ a : Act, a = { tmps := vals.toArray ++ Array.replicate (fn.ntmps - vals.toArray.size) undef, defers := [] } := ⟨_, rfl⟩
  have hsize : a0.tmps.size = fn.ntmps := by rw [ha0]; simp; omega
  have henv : EnvR σ K w (Env.ofArgs 0 xs) a0 := by
    intro t
    rw [Env.get_ofArgs]
    simp only [Nat.zero_le, if_true, Nat.sub_zero]
    cases hx : xs[t]? with
    | none => simp [VR]
    | some x =>
      obtain ⟨u, hu, hV⟩ := (VRs_iff.1 hv).2 t x hx
      have ht := (List.getElem?_eq_some_iff.1 hu).1
      have : a0.tmps.getD t undef = u := by
        rw [ha0, Array.getD_eq_getD_getElem?, Array.getElem?_append_left (by simpa using ht)]
        simp [hu]
      rw [this]
      exact hV
  rw [← ha0]
  obtain ⟨rv, u', hrv, hcs, hset⟩ : ∃ rv u', VR σ K w (pan.getD (.const .nilIface)) rv ∧ (match recoverD (c₀ :: cs) with | some (v, cs') => (v = rv ∧ cs' = { c₀ with mode := u' } :: cs) | none => (rv = .nilIface ∧ c₀ = { c₀ with mode := u' })) ∧ settle u' = .returning := by
    cases pan with
    | none =>
      have hu' : u = .returning := hu
      refine ⟨.nilIface, .returning, by simp [VR], ?_, rfl⟩
      have : recoverD (c₀ :: cs) = none := by simp [recoverD, hm, hu']
      rw [this]
      refine ⟨rfl, ?_⟩
      have e : c₀.mode = .returning := hm.trans hu'
      cases c₀; simp only at e; subst e; rfl
    | some pv =>
      obtain ⟨v, hV, hu'⟩ := hu
      refine ⟨v, .panicking [{ v := v, recovered := true }], hV, ?_, rfl⟩
      have : recoverD (c₀ :: cs) = some (v, { c₀ with mode := .panicking [{ v := v, recovered := true }] } :: cs) := by simp [recoverD, hm, hu']
      rw [this]
      exact ⟨rfl, rfl⟩
  have hst : St { β with D := [] } fn.ntmps ((Env.ofArgs 0 xs).set t' (pan.getD (.const .nilIface))) m (a0.put (some t') rv) w σ K :=
    ⟨hrel.withD [], henv.put (d := some t') hrv (by simpa using ht) hsize, by rw [Act.put_defers, ha0], by rw [Act.put_size]; exact hsize⟩
  have hrest : ∀ (e' : Env) (m' : Mem) (a' : Act) (w' : World) (σ' : Sig) (K' : Bool → Nat → Prop), wp P imp sc (postR R) (e'.drop drop) m' → St { β with D := [] } fn.ntmps e' m' a' w' σ' K' → σ <+: σ' → (∀ p b, K p b → K' p b) → (∀ p b, K p b → w'.heap[b]? = w.heap[b]?) →
      b.wpSIn Fence.wide 0 P (bodyPostS P fn c₀ cs fun e u'' w' => (∃ v, e = .returned v) ∧ settle u'' = .returning ∧ ∃ K' σ' m', R m' ∧ Rel β K' σ' m' w' ∧ σ <+: σ' ∧ (∀ p b, K p b → K' p b) ∧ (∀ p b, K p b → w'.heap[b]? = w.heap[b]?)) a' ({ c₀ with mode := u' } :: cs) w' := by
    intro e' m' a' w1 σ1 K1 h hst1 g1 g2 g3
    refine wpSIn_of_wpIn rfl (wpIn_wide.2 (wpR_wp (wpR_mono (wp_sound (r := none) (z := True) (G := fun _ => True) (σ0 := σ) (K0 := K) (w0 := w) b sc hc (.inr hfl) (fun _ => hfl) { β with D := [] } hβ _ _ m' _ w1 σ1 K1 h (hst1.le (Env.get_drop e' drop)) ⟨g1, g2, g3⟩) ?_)))
    rintro ex a' w' ⟨Ds, ax, e', m', σ', K', hq, hxr, hst', ⟨h1, h2, h3⟩, hD⟩
    have hD := hD trivial
    subst hD
    rw [Base.also_nil] at hst'
    have hres' : (results fn a'.tmps).run P w' = .ok (.tuple #[]) w' := by simp [results, hres]
    cases ex <;> cases ax <;> simp only [exitR] at hxr
    case normal.norm => exact ⟨hst'.defers, u', rfl, _, hres', ⟨_, rfl⟩, hset, K', σ', m', hq, hst'.rel.offD, h1, h2, h3⟩
    case ret.ret => exact ⟨hst'.defers, u', rfl, _, hres', ⟨_, rfl⟩, hset, K', σ', m', hq, hst'.rel.offD, h1, h2, h3⟩
    case exit.exit => exact hq.elim
    case panic.panic => exact hq.elim
  refine wpSIn_seq (wpSIn_region ?_)
  have hsz : os.size = rest'.length + 1 := by rw [← Array.length_toList, hos, List.length_cons]
  have h0 : os[0]? = some o := by rw [← Array.getElem?_toList, hos]; rfl
  have hyl : List.range os.size = 0 :: List.range' 1 rest'.length := by rw [hsz, List.range_eq_range', List.range'_succ]
  rw [hyl]
  have hj : ∀ j, rest'[j]? = os[1 + j]? := fun j => by rw [← Array.getElem?_toList, hos, Nat.add_comm, List.getElem?_cons_succ]
  generalize (bodyPostS P fn c₀ cs fun e u'' w' => (∃ v, e = .returned v) ∧ settle u'' = .returning ∧ ∃ K' σ' m', R m' ∧ Rel β K' σ' m' w' ∧ σ <+: σ' ∧ (∀ p b, K p b → K' p b) ∧ (∀ p b, K p b → w'.heap[b]? = w.heap[b]?)) = T at hrest ⊢
  have hlist := wops_sound (r := none) (n := 0) (N := fn.ntmps) (all := os) (Qc := fun ex a w => match ex with
      | .normal => b.wpSIn Fence.wide 0 P T a ({ c₀ with mode := u' } :: cs) w
      | _ => False) (k := fun e m => wp P imp sc (postR R) (e.drop drop) m) (Q := fun ax e m => match ax with | .norm => wp P imp sc (postR R) e m | ax => postR R ax e m) (σ0 := σ) (K0 := K) (w0 := w) (β := { β with D := [] }) hβ hrest (fun v e' m' a' w' σ' K' u hq => hq.elim) rest' sl hl _ m _ w σ K h hst (List.prefix_refl _) (fun _ _ h => h) (fun _ _ _ => rfl)
  have hgo := opsS_of_list (P := P) (n := 0) (os := os) ({ c₀ with mode := u' } :: cs) (Q' := Exit.thenS (b.wpSIn Fence.wide 0 P T) T) (fun ex a w hx => by
    cases ex with
    | normal => exact hx
    | _ => exact hx.elim) rest' 1 hj hp _ w hlist
  simp only [wpOpsSIn, h0, hw, if_true, hrec, hdst]
  refine ⟨fun _ _ => trivial, ?_⟩
  split
  · rename_i v cs' hr
    rw [hr] at hcs
    obtain ⟨rfl, rfl⟩ := hcs
    exact hgo
  · rename_i hr
    rw [hr] at hcs
    obtain ⟨hcs, he⟩ := hcs
    subst hcs
    rw [show c₀ :: cs = { c₀ with mode := u' } :: cs by rw [← he]]
    exact hgo
def FOkR3 (P : Program) (imp : List FuncId) (f : FuncId) (t : Nat) (sl : List SOp) (sc : SC) (n : Nat) : Prop :=
  ∃ fn c os rest b, P.funcs[f]? = some fn ∧ fn.body = some c ∧ (fn.name == "runtime.NumGoroutine") = false ∧ isRecover3 c = some (t, os, rest, b) ∧ rest.all plainOp = true ∧ compOps P fn.ntmps os rest = some sl ∧ compCode P imp fn.ntmps b = some sc.strip ∧ fn.results = #[] ∧ fn.ntmps = n ∧ t < n ∧ sc.flat = true
theorem FOkR3.dcalls {f : FuncId} {t n : Nat} {sl : List SOp} {sc : SC} (drop : List Nat) (h : FOkR3 P imp f t sl sc n) {xs : List AV} {pan : Option AV} {m : Mem} {R : Mem → Prop} (hlen : xs.length ≤ n) (hw : wpS P imp (.seq (.ops sl drop) sc) [] (postR R) ((Env.ofArgs 0 xs).set t (pan.getD (.const .nilIface))) m) : DCalls P f xs pan m R := by
  obtain ⟨fn, c, os, rest, b, h1, h2, h3, h4, h5, h6, h7, h8, rfl, h9, h10⟩ := h
  exact dcalls_of_wp3 h1 h2 h3 h4 h5 h6 h7 h10 h8 h9 hlen hw.out
end
end Go.Pm

/- BkS14: code, resolved. Printed by ShowSC.lean and genok.py. -/
namespace Go.Pm
open Go Go.Proofs
def c173 : SC :=
 (.seq (.ops [⟨some 1, .plain (.box 6), [.tmp 0], none⟩, ⟨some 2, .plain (.alloc [(.int .i64 0), (.int .i64 0), (.int .i64 0), (.int .i64 0), (.bool false), (.str ⟨#[]⟩)]), [], none⟩, ⟨some 3, .plain .mv, [.lit (.int .i64 0)], none⟩] []) (.seq (.ops [⟨some 4, .plain (.load true 6), [.tmp 1], none⟩, ⟨some 5, .call 260, [.tmp 4, .lit (.fn 262 [])], none⟩, ⟨some 6, .plain (.extract 0), [.tmp 5], none⟩, ⟨some 7, .plain (.extract 1), [.tmp 5], none⟩, ⟨none, .plain (.store 6), [.tmp 2, .tmp 6], none⟩, ⟨some 3, .plain .mv, [.tmp 7], none⟩] [4, 5, 6, 7]) .ret))
def cr173 : List Res := [(2, some (true, 6)), (3, none)]
theorem ok173 : FOk Bk.pg.toProgram Bk.imp 173 c173 cr173 Tryz.f173.ntmps := ⟨Tryz.f173, _, Tryz.func173, rfl, by kernel_rfl, by kernel_rfl, by kernel_rfl, rfl⟩
def c260 : SC :=
 (.seq (.ops [⟨some 2, .plain (.box 6), [.tmp 0], none⟩, ⟨some 3, .plain (.box 1), [.tmp 1], none⟩, ⟨some 4, .plain (.alloc [(.int .i64 0), (.int .i64 0), (.int .i64 0), (.int .i64 0), (.bool false), (.str ⟨#[]⟩)]), [], none⟩, ⟨some 5, .plain .mv, [.lit (.int .i64 0)], none⟩] []) (.seq (.ops [⟨some 6, .plain (.mkFn 325), [.tmp 2, .tmp 3], none⟩, ⟨some 7, .call 239, [.tmp 6], none⟩, ⟨some 8, .plain (.extract 0), [.tmp 7], none⟩, ⟨some 9, .plain (.extract 1), [.tmp 7], none⟩, ⟨none, .plain (.store 6), [.tmp 4, .tmp 8], none⟩, ⟨some 5, .plain .mv, [.tmp 9], none⟩] [6, 7, 8, 9]) .ret))
def cr260 : List Res := [(4, some (true, 6)), (5, none)]
theorem ok260 : FOk Bk.pg.toProgram Bk.imp 260 c260 cr260 Tryz.f260.ntmps := ⟨Tryz.f260, _, Tryz.func260, rfl, by kernel_rfl, by kernel_rfl, by kernel_rfl, rfl⟩
def c325 : SC :=
 (.seq (.ops [⟨some 2, .plain (.alloc [(.int .i64 0), (.int .i64 0), (.int .i64 0), (.int .i64 0), (.bool false), (.str ⟨#[]⟩)]), [], none⟩] []) (.seq (.ops [⟨some 3, .plain (.load true 6), [.tmp 0], none⟩, ⟨some 4, .plain (.buildRow 32 6 1 [(.int .i64 0), (.int .i64 0), (.int .i64 0), (.int .i64 0), (.bool false), (.str ⟨#[]⟩)] [0]), [.tmp 3], none⟩, ⟨some 5, .call 248, [.tmp 4], none⟩] [3, 4, 5]) (.seq (.ops [⟨some 6, .plain (.load false 1), [.tmp 1], none⟩, ⟨some 7, .plain (.load true 6), [.tmp 0], none⟩, ⟨some 8, .callv, [.tmp 6, .tmp 7], none⟩, ⟨none, .plain (.store 6), [.tmp 2, .tmp 8], none⟩] [6, 7, 8]) .ret)))
def cr325 : List Res := [(2, some (true, 6))]
theorem ok325 : FOk Bk.pg.toProgram Bk.imp 325 c325 cr325 Tryz.f325.ntmps := ⟨Tryz.f325, _, Tryz.func325, rfl, by kernel_rfl, by kernel_rfl, by kernel_rfl, rfl⟩
def c262 : SC :=
 (.seq (.ops [⟨some 1, .plain (.box 6), [.tmp 0], none⟩, ⟨some 2, .plain (.alloc [(.int .i64 0), (.int .i64 0), (.int .i64 0), (.int .i64 0), (.bool false), (.str ⟨#[]⟩)]), [], none⟩] []) (.seq (.ops [⟨some 3, .plain (.fieldAddr 0), [.tmp 1], none⟩, ⟨some 4, .plain (.load false 1), [.tmp 3], none⟩, ⟨some 5, .plain (.bin .neq), [.tmp 4, .lit (.int .i64 3)], none⟩, ⟨some 6, .call 241, [.tmp 5, .lit (.int .i64 10)], none⟩] [3, 4, 5, 6]) (.seq (.seq (.ops [⟨some 7, .plain (.fieldAddr 0), [.tmp 1], none⟩, ⟨some 8, .plain (.load false 1), [.tmp 7], none⟩, ⟨some 9, .plain (.bin .eql), [.tmp 8, .lit (.int .i64 2)], none⟩] [7, 8]) (.cond (.tmp 9) (.seq (.ops [⟨some 10, .plain (.load true 6), [.tmp 1], none⟩, ⟨none, .plain (.store 6), [.tmp 2, .tmp 10], none⟩] [10]) .ret) .skip)) (.seq (.ops [⟨some 11, .plain (.fieldAddr 1), [.tmp 1], none⟩, ⟨some 12, .plain (.load false 1), [.tmp 11], none⟩, ⟨some 13, .plain (.bin .mul), [.lit (.int .i64 3), .tmp 12], none⟩, ⟨some 14, .plain (.bin .add), [.tmp 13, .lit (.int .i64 9)], none⟩, ⟨some 15, .plain (.bin .quo), [.tmp 14, .lit (.int .i64 10)], none⟩, ⟨some 16, .plain (.bin .add), [.tmp 15, .lit (.int .i64 1)], none⟩, ⟨some 17, .plain .min2, [.lit (.int .i64 15), .tmp 16], none⟩, ⟨some 18, .plain (.fieldAddr 2), [.tmp 1], none⟩, ⟨some 19, .plain (.load false 1), [.tmp 18], none⟩, ⟨some 20, .plain (.bin .mul), [.lit (.int .i64 3), .tmp 19], none⟩, ⟨some 21, .plain (.bin .add), [.tmp 20, .lit (.int .i64 9)], none⟩, ⟨some 22, .plain (.bin .quo), [.tmp 21, .lit (.int .i64 10)], none⟩, ⟨some 23, .plain .min2, [.lit (.int .i64 31), .tmp 22], none⟩, ⟨some 24, .plain (.build [(.int .i64 0), (.int .i64 0), (.int .i64 0), (.int .i64 0), (.bool false), (.str ⟨#[]⟩)] [(0, 1), (1, 1), (2, 1)]), [.lit (.int .i64 2), .tmp 17, .tmp 23], none⟩, ⟨none, .plain (.store 6), [.tmp 2, .tmp 24], none⟩] [11, 12, 13, 14, 15, 16, 17, 18, 19, 20, 21, 22, 23, 24]) .ret))))
def cr262 : List Res := [(2, some (true, 6))]
theorem ok262 : FOk Bk.pg.toProgram Bk.imp 262 c262 cr262 Tryz.f262.ntmps := ⟨Tryz.f262, _, Tryz.func262, rfl, by kernel_rfl, by kernel_rfl, by kernel_rfl, rfl⟩
def c266 : SC :=
 (.seq (.ops [⟨some 1, .plain (.box 6), [.tmp 0], none⟩, ⟨some 2, .plain .mv, [.lit (.int .i64 0)], none⟩] []) (.seq (.seq (.ops [⟨some 3, .plain (.fieldAddr 0), [.tmp 1], none⟩, ⟨some 4, .plain (.load false 1), [.tmp 3], none⟩] [3]) (.block 0 (.seq (.ops [⟨some 6, .plain (.bin .eql), [.tmp 4, .lit (.int .i64 1)], none⟩, ⟨some 5, .plain .mv, [.tmp 6], none⟩] [6]) (.cond (.tmp 5) (.ops [⟨some 8, .plain (.load true 6), [.tmp 1], none⟩, ⟨some 9, .call 173, [.tmp 8], none⟩, ⟨some 7, .plain .mv, [.tmp 9], none⟩, ⟨some 10, .plain (.extract 0), [.tmp 7], none⟩, ⟨some 11, .plain (.extract 1), [.tmp 7], none⟩, ⟨none, .plain (.store 6), [.tmp 1, .tmp 10], none⟩] [8, 9, 7, 10, 11]) (.seq (.ops [⟨some 13, .plain (.bin .eql), [.tmp 4, .lit (.int .i64 3)], none⟩, ⟨some 12, .plain .mv, [.tmp 13], none⟩] [13]) (.cond (.tmp 12) (.seq (.ops [⟨some 14, .plain (.fieldAddr 1), [.tmp 1], none⟩, ⟨some 15, .plain (.load false 1), [.tmp 14], none⟩, ⟨some 16, .plain (.bin .add), [.tmp 15, .lit (.int .i64 6)], none⟩, ⟨some 2, .plain .mv, [.tmp 16], none⟩] [14, 15, 16]) .ret) .skip)))))) (.seq (.ops [⟨some 17, .plain (.fieldAddr 1), [.tmp 1], none⟩, ⟨some 18, .plain (.load false 1), [.tmp 17], none⟩, ⟨some 19, .plain (.fieldAddr 2), [.tmp 1], none⟩, ⟨some 20, .plain (.load false 1), [.tmp 19], none⟩, ⟨some 21, .plain .max2, [.tmp 18, .tmp 20], none⟩, ⟨some 22, .plain (.bin .add), [.tmp 21, .lit (.int .i64 3)], none⟩, ⟨some 2, .plain .mv, [.tmp 22], none⟩] [17, 18, 19, 20, 21, 22]) .ret)))
def cr266 : List Res := [(2, none)]
theorem ok266 : FOk Bk.pg.toProgram Bk.imp 266 c266 cr266 Tryz.f266.ntmps := ⟨Tryz.f266, _, Tryz.func266, rfl, by kernel_rfl, by kernel_rfl, by kernel_rfl, rfl⟩
def c293 : SC :=
 (.seq (.ops [⟨some 4, .plain (.box 4), [.tmp 0], none⟩, ⟨some 5, .plain (.box 6), [.tmp 1], none⟩, ⟨some 6, .plain (.box 6), [.tmp 2], none⟩, ⟨some 7, .plain (.alloc [(.int .i64 0), (.int .i64 0), (.int .i64 0), (.str ⟨#[]⟩)]), [], none⟩, ⟨some 8, .plain (.alloc [(.int .i64 0), (.str ⟨#[]⟩), (.int .i64 0), (.str ⟨#[]⟩), (.int .i64 0)]), [], none⟩] [5]) (.seq (.ops [⟨some 13, .plain (.fieldAddr 3), [.tmp 4], none⟩, ⟨some 14, .plain (.load false 1), [.tmp 13], none⟩, ⟨some 15, .call 294, [.tmp 14], none⟩, ⟨some 12, .plain .mv, [.tmp 15], none⟩, ⟨some 16, .plain (.extract 0), [.tmp 12], none⟩, ⟨some 17, .plain (.extract 1), [.tmp 12], none⟩, ⟨some 18, .plain (.extract 2), [.tmp 12], none⟩, ⟨some 9, .plain (.alloc [(.int .i64 0), (.int .i64 0), (.int .i64 0), (.str ⟨#[]⟩)]), [], none⟩, ⟨some 10, .plain (.alloc [(.int .i64 0), (.int .i64 0), (.int .i64 0), (.int .i64 0), (.bool false), (.str ⟨#[]⟩)]), [], none⟩, ⟨none, .plain (.store 4), [.tmp 9, .tmp 16], none⟩, ⟨none, .plain (.store 6), [.tmp 10, .tmp 17], none⟩, ⟨some 11, .plain .mv, [.tmp 18], none⟩] [13, 14, 15, 12, 16, 17, 18, 10]) (.seq (.seq (.ops [⟨some 19, .plain .mv, [.tmp 11], none⟩, ⟨some 20, .plain (.bin .geq), [.tmp 19, .lit (.int .i64 0)], none⟩] [19]) (.cond (.tmp 20) (.seq (.ops [⟨some 21, .plain (.fieldAddr 3), [.tmp 4], none⟩, ⟨some 22, .plain (.load false 1), [.tmp 21], none⟩, ⟨some 23, .plain .mv, [.tmp 11], none⟩, ⟨some 24, .plain (.load true 6), [.tmp 6], none⟩, ⟨some 25, .call 295, [.tmp 22, .tmp 23, .tmp 24], none⟩, ⟨some 26, .plain (.extract 0), [.tmp 25], none⟩, ⟨some 27, .plain (.extract 1), [.tmp 25], none⟩, ⟨none, .plain (.store 4), [.tmp 7, .tmp 26], none⟩, ⟨none, .plain (.store 5), [.tmp 8, .tmp 27], none⟩] [21, 22, 23, 24, 25, 26, 27]) .ret) .skip)) (.seq (.ops [⟨some 28, .plain (.load false 1), [.tmp 3], none⟩, ⟨some 29, .plain (.load true 4), [.tmp 9], none⟩, ⟨some 30, .plain (.load true 6), [.tmp 6], none⟩, ⟨some 31, .plain (.load true 6), [.tmp 6], none⟩, ⟨some 32, .callv, [.tmp 28, .tmp 29, .tmp 30, .tmp 31], none⟩, ⟨some 33, .plain (.extract 0), [.tmp 32], none⟩, ⟨some 34, .plain (.extract 1), [.tmp 32], none⟩, ⟨none, .plain (.store 4), [.tmp 7, .tmp 33], none⟩, ⟨none, .plain (.store 5), [.tmp 8, .tmp 34], none⟩] [28, 29, 30, 31, 32, 33, 34]) .ret))))
def cr293 : List Res := [(7, some (true, 4)), (8, some (true, 5))]
theorem ok293 : FOk Bk.pg.toProgram Bk.imp 293 c293 cr293 Tryz.f293.ntmps := ⟨Tryz.f293, _, Tryz.func293, rfl, by kernel_rfl, by kernel_rfl, by kernel_rfl, rfl⟩
def cx294 : SC :=
 (.seq (.ops [⟨some 2, .plain (.alloc [(.int .i64 0), (.int .i64 0), (.int .i64 0), (.str ⟨#[]⟩)]), [], none⟩, ⟨some 3, .plain (.alloc [(.int .i64 0), (.int .i64 0), (.int .i64 0), (.int .i64 0), (.bool false), (.str ⟨#[]⟩)]), [], none⟩, ⟨some 4, .plain (.alloc [(.int .i64 0)]), [], none⟩] []) .skip)
def cy294 : SC :=
 let s0 : DT := (.step ⟨none, .plain (.store 6), [.tmp 3, .tmp 22], none⟩ (.step ⟨none, .plain (.store 1), [.tmp 4, .lit (.int .i64 (-1))], none⟩ .done))
 (.seq (.ops [⟨some 7, .plain .mv, [.tmp 0], none⟩, ⟨some 8, .plain (.build [(.str ⟨#[]⟩), (.int .i64 0)] [(0, 1)]), [.tmp 7], none⟩, ⟨some 9, .plain (.build [(.str ⟨#[]⟩), (.int .i64 0), (.bool false), (.int .i64 0), (.str ⟨#[]⟩), (.int .i64 0), (.str ⟨#[]⟩), (.str ⟨#[]⟩), (.int .i64 0)] [(0, 2)]), [.tmp 8], none⟩, ⟨some 10, .plain (.box 9), [.tmp 9], none⟩, ⟨some 5, .plain .mv, [.tmp 10], none⟩] [7, 8, 9, 10]) (.seq (.seq (.ops [⟨some 11, .plain .mv, [.tmp 5], none⟩, ⟨some 12, .call 340, [.tmp 11], none⟩, ⟨some 13, .plain (.un .not), [.tmp 12], none⟩] [11, 12]) (.cond (.tmp 13) (.seq (.ops [⟨some 14, .plain (.build [(.int .i64 0), (.int .i64 0), (.int .i64 0), (.str ⟨#[]⟩)] [(0, 1)]), [.lit (.int .i64 2)], none⟩, ⟨some 15, .plain (.build [(.int .i64 0), (.int .i64 0), (.int .i64 0), (.int .i64 0), (.bool false), (.str ⟨#[]⟩)] [(0, 1), (1, 1)]), [.lit (.int .i64 2), .lit (.int .i64 1)], none⟩, ⟨none, .plain (.store 4), [.tmp 2, .tmp 14], none⟩, ⟨none, .plain (.store 6), [.tmp 3, .tmp 15], none⟩, ⟨none, .plain (.store 1), [.tmp 4, .lit (.int .i64 (-1))], none⟩] [14, 15]) .ret) .skip)) (.seq (.ops [⟨some 17, .plain .mv, [.tmp 5], none⟩, ⟨some 18, .call 341, [.tmp 17], none⟩, ⟨some 16, .plain .mv, [.tmp 18], none⟩, ⟨some 19, .plain (.extract 0), [.tmp 16], none⟩, ⟨some 20, .plain (.extract 1), [.tmp 16], none⟩, ⟨none, .plain (.store 4), [.tmp 2, .tmp 19], none⟩, ⟨none, .plain (.store 6), [.tmp 3, .tmp 20], none⟩] [17, 18, 16, 19, 20]) (.seq (.draw (.step ⟨some 21, .plain (.load true 4), [.tmp 2], none⟩ (.or (.step ⟨some 22, .plain (.load true 6), [.tmp 3], none⟩ (.step ⟨none, .plain (.store 4), [.tmp 2, .tmp 21], none⟩ s0)) (.step ⟨none, .plain (.store 4), [.tmp 2, .tmp 21], none⟩ (.step ⟨some 22, .plain (.load true 6), [.tmp 3], none⟩ s0)))) [21, 22]) .ret))))
def cr294 : List Res := [(2, some (true, 4)), (3, some (true, 6)), (4, some (false, 1))]
theorem ok294 : FOkE Bk.pg.toProgram Bk.imp 294 cx294 6 339 [.tmp 2, .tmp 3, .tmp 4] cy294 cr294 Tryz.f294.ntmps := ⟨Tryz.f294, _, _, _, _, Tryz.func294, rfl, by kernel_rfl, rfl, by kernel_rfl, by kernel_rfl, by kernel_rfl, by kernel_rfl, rfl, by decide, rfl⟩
def cz339 : List SOp := [⟨(some 7), .plain (.typeAssert 293 (.agg [(.int .i64 0)])), [.tmp 6], none⟩, ⟨(some 5), .plain .mv, [.tmp 7], none⟩, ⟨(some 8), .plain (.extract 0), [.tmp 5], none⟩, ⟨(some 9), .plain (.extract 1), [.tmp 5], none⟩, ⟨(some 3), .plain (.alloc [(.int .i64 0)]), [], none⟩, ⟨none, .plain (.store 1), [.tmp 3, .tmp 8], none⟩, ⟨(some 4), .plain .mv, [.tmp 9], none⟩]
def c339 : SC :=
 let s0 : DT := (.step ⟨none, .plain (.store 6), [.tmp 1, .tmp 12], none⟩ (.step ⟨none, .plain (.store 1), [.tmp 2, .tmp 14], none⟩ .done))
 (.seq (.ops [⟨some 10, .plain .mv, [.tmp 4], none⟩] []) (.cond (.tmp 10) (.draw (.step ⟨some 11, .plain (.build [(.int .i64 0), (.int .i64 0), (.int .i64 0), (.str ⟨#[]⟩)] []), [], none⟩ (.step ⟨some 12, .plain (.build [(.int .i64 0), (.int .i64 0), (.int .i64 0), (.int .i64 0), (.bool false), (.str ⟨#[]⟩)] []), [], none⟩ (.step ⟨some 13, .plain (.fieldAddr 0), [.tmp 3], none⟩ (.or (.step ⟨some 14, .plain (.load false 1), [.tmp 13], none⟩ (.step ⟨none, .plain (.store 4), [.tmp 0, .tmp 11], none⟩ s0)) (.step ⟨none, .plain (.store 4), [.tmp 0, .tmp 11], none⟩ (.or (.step ⟨some 14, .plain (.load false 1), [.tmp 13], none⟩ s0) (.step ⟨none, .plain (.store 6), [.tmp 1, .tmp 12], none⟩ (.step ⟨some 14, .plain (.load false 1), [.tmp 13], none⟩ (.step ⟨none, .plain (.store 1), [.tmp 2, .tmp 14], none⟩ .done))))))))) [11, 12, 13, 14]) .skip))
theorem ok339 : FOkR3 Bk.pg.toProgram Bk.imp 339 6 cz339 c339 Tryz.f339.ntmps := ⟨Tryz.f339, _, _, _, _, Tryz.func339, rfl, by kernel_rfl, rfl, by kernel_rfl, by kernel_rfl, by kernel_rfl, rfl, rfl, by decide, rfl⟩
def c340 : SC :=
 (.seq (.ops [⟨some 2, .plain .mv, [.lit (.bool false)], none⟩] []) (.seq (.ops [⟨some 8, .plain .mv, [.tmp 0], none⟩, ⟨some 9, .plain .nilCheck, [.tmp 8], none⟩, ⟨some 10, .plain (.fieldAddr 0), [.tmp 9], none⟩, ⟨some 11, .call 365, [.tmp 10, .lit (.str ⟨#[32]⟩)], none⟩] [8, 9, 10, 11]) (.seq (.seq (.draw (.step ⟨some 12, .plain .mv, [.tmp 0], none⟩ (.step ⟨some 13, .plain .nilCheck, [.tmp 12], none⟩ (.step ⟨some 14, .plain (.fieldAddr 0), [.tmp 13], none⟩ (.step ⟨some 15, .plain (.fieldAddr 1), [.tmp 14], none⟩ (.step ⟨some 16, .plain (.load false 1), [.tmp 15], none⟩ (.step ⟨some 17, .plain .mv, [.tmp 0], none⟩ (.step ⟨some 18, .plain .nilCheck, [.tmp 17], none⟩ (.step ⟨some 19, .plain (.fieldAddr 0), [.tmp 18], none⟩ (.step ⟨some 20, .plain (.fieldAddr 0), [.tmp 19], none⟩ (.step ⟨some 21, .plain (.load false 1), [.tmp 20], none⟩ (.step ⟨some 22, .plain (.len 0), [.tmp 21], none⟩ (.step ⟨some 23, .plain (.bin .eql), [.tmp 16, .tmp 22], none⟩ .done)))))))))))) [12, 13, 14, 15, 16, 17, 18, 19, 20, 21, 22]) (.cond (.tmp 23) (.seq (.ops [⟨some 2, .plain .mv, [.lit (.bool false)], none⟩] []) .ret) .skip)) (.seq (.ops [⟨some 24, .plain .mv, [.tmp 0], none⟩, ⟨some 25, .plain .mv, [.tmp 0], none⟩, ⟨some 26, .plain .nilCheck, [.tmp 25], none⟩, ⟨some 27, .plain (.fieldAddr 0), [.tmp 26], none⟩, ⟨some 28, .call 366, [.tmp 27, .lit (.str ⟨#[43, 45]⟩)], none⟩, ⟨some 29, .plain (.bin .eql), [.tmp 28, .lit (.str ⟨#[45]⟩)], none⟩, ⟨some 30, .plain .nilCheck, [.tmp 24], none⟩, ⟨some 31, .plain (.fieldAddr 2), [.tmp 30], none⟩, ⟨none, .plain (.store 1), [.tmp 31, .tmp 29], none⟩] [24, 25, 26, 27, 28, 29, 30, 31]) (.seq (.ops [⟨some 32, .plain .mv, [.tmp 0], none⟩, ⟨some 33, .plain .mv, [.tmp 0], none⟩, ⟨some 34, .plain .nilCheck, [.tmp 33], none⟩, ⟨some 35, .plain (.fieldAddr 0), [.tmp 34], none⟩, ⟨some 36, .plain (.fieldAddr 1), [.tmp 35], none⟩, ⟨some 37, .plain (.load false 1), [.tmp 36], none⟩, ⟨some 38, .plain .nilCheck, [.tmp 32], none⟩, ⟨some 39, .plain (.fieldAddr 3), [.tmp 38], none⟩, ⟨none, .plain (.store 1), [.tmp 39, .tmp 37], none⟩] [32, 33, 34, 35, 36, 37, 38, 39]) (.seq (.ops [⟨some 40, .plain .mv, [.tmp 0], none⟩, ⟨some 41, .plain .nilCheck, [.tmp 40], none⟩, ⟨some 42, .plain (.fieldAddr 0), [.tmp 41], none⟩, ⟨some 43, .call 365, [.tmp 42, .lit (.str ⟨#[48, 49, 50, 51, 52, 53, 54, 55, 56, 57]⟩)], none⟩, ⟨some 3, .plain .mv, [.tmp 43], none⟩] [40, 41, 42, 43]) (.seq (.ops [⟨some 44, .plain .mv, [.tmp 0], none⟩, ⟨some 45, .plain .nilCheck, [.tmp 44], none⟩, ⟨some 46, .plain (.fieldAddr 0), [.tmp 45], none⟩, ⟨some 47, .call 366, [.tmp 46, .lit (.str ⟨#[46]⟩)], none⟩, ⟨some 4, .plain .mv, [.tmp 47], none⟩] [44, 45, 46, 47]) (.seq (.ops [⟨some 5, .plain .mv, [.lit (.str ⟨#[]⟩)], none⟩] []) (.seq (.seq (.ops [⟨some 48, .plain .mv, [.tmp 4], none⟩, ⟨some 49, .plain (.bin .neq), [.tmp 48, .lit (.str ⟨#[]⟩)], none⟩] [48]) (.cond (.tmp 49) (.ops [⟨some 50, .plain .mv, [.tmp 0], none⟩, ⟨some 51, .plain .nilCheck, [.tmp 50], none⟩, ⟨some 52, .plain (.fieldAddr 0), [.tmp 51], none⟩, ⟨some 53, .call 365, [.tmp 52, .lit (.str ⟨#[48, 49, 50, 51, 52, 53, 54, 55, 56, 57]⟩)], none⟩, ⟨some 5, .plain .mv, [.tmp 53], none⟩] [50, 51, 52, 53]) .skip)) (.seq (.ops [⟨some 54, .plain .mv, [.tmp 0], none⟩, ⟨some 55, .plain .mv, [.tmp 0], none⟩, ⟨some 56, .plain .mv, [.tmp 3], none⟩, ⟨some 57, .plain .mv, [.tmp 5], none⟩, ⟨some 58, .plain (.bin .add), [.tmp 56, .tmp 57], none⟩, ⟨some 59, .plain .mv, [.tmp 5], none⟩, ⟨some 60, .plain (.len 0), [.tmp 59], none⟩, ⟨some 61, .plain .nilCheck, [.tmp 54], none⟩, ⟨some 62, .plain (.fieldAddr 4), [.tmp 61], none⟩, ⟨none, .plain (.store 1), [.tmp 62, .tmp 58], none⟩, ⟨some 63, .plain .nilCheck, [.tmp 55], none⟩, ⟨some 64, .plain (.fieldAddr 5), [.tmp 63], none⟩, ⟨none, .plain (.store 1), [.tmp 64, .tmp 60], none⟩] [54, 55, 56, 57, 58, 59, 60, 61, 62, 63, 64]) (.seq (.seq (.ops [⟨some 65, .plain .mv, [.tmp 0], none⟩, ⟨some 66, .plain .nilCheck, [.tmp 65], none⟩, ⟨some 67, .plain (.fieldAddr 4), [.tmp 66], none⟩, ⟨some 68, .plain (.load false 1), [.tmp 67], none⟩, ⟨some 69, .plain (.bin .eql), [.tmp 68, .lit (.str ⟨#[]⟩)], none⟩] [65, 66, 67, 68]) (.cond (.tmp 69) (.ops [⟨some 70, .plain .mv, [.tmp 0], none⟩, ⟨some 71, .plain .nilCheck, [.tmp 70], none⟩, ⟨some 72, .plain (.fieldAddr 0), [.tmp 71], none⟩, ⟨some 73, .plain (.fieldAddr 1), [.tmp 72], none⟩, ⟨some 74, .plain (.load false 1), [.tmp 73], none⟩, ⟨some 75, .plain (.build [(.int .i64 0)] [(0, 1)]), [.tmp 74], none⟩, ⟨some 76, .plain (.mkIface 293), [.tmp 75], none⟩, ⟨none, .panic, [.tmp 76], none⟩] [70, 71, 72, 73, 74, 75, 76]) .skip)) (.seq (.ops [⟨some 77, .plain .mv, [.tmp 0], none⟩, ⟨some 78, .plain .mv, [.tmp 0], none⟩, ⟨some 79, .plain .nilCheck, [.tmp 78], none⟩, ⟨some 80, .plain (.fieldAddr 0), [.tmp 79], none⟩, ⟨some 81, .plain (.fieldAddr 1), [.tmp 80], none⟩, ⟨some 82, .plain (.load false 1), [.tmp 81], none⟩, ⟨some 83, .plain .nilCheck, [.tmp 77], none⟩, ⟨some 84, .plain (.fieldAddr 8), [.tmp 83], none⟩, ⟨none, .plain (.store 1), [.tmp 84, .tmp 82], none⟩] [77, 78, 79, 80, 81, 82, 83, 84]) (.seq (.seq (.ops [⟨some 85, .plain .mv, [.tmp 0], none⟩, ⟨some 86, .plain .nilCheck, [.tmp 85], none⟩, ⟨some 87, .plain (.fieldAddr 4), [.tmp 86], none⟩, ⟨some 88, .plain (.load false 1), [.tmp 87], none⟩, ⟨some 89, .call 134, [.tmp 88, .lit (.str ⟨#[48, 49]⟩)], none⟩, ⟨some 90, .plain (.bin .eql), [.tmp 89, .lit (.str ⟨#[]⟩)], none⟩] [85, 86, 87, 88, 89]) (.cond (.tmp 90) (.ops [⟨some 91, .plain .mv, [.tmp 0], none⟩, ⟨some 92, .plain .mv, [.tmp 0], none⟩, ⟨some 93, .plain .nilCheck, [.tmp 92], none⟩, ⟨some 94, .plain (.fieldAddr 0), [.tmp 93], none⟩, ⟨some 95, .call 366, [.tmp 94, .lit (.str ⟨#[69, 66]⟩)], none⟩, ⟨some 96, .plain .nilCheck, [.tmp 91], none⟩, ⟨some 97, .plain (.fieldAddr 6), [.tmp 96], none⟩, ⟨none, .plain (.store 1), [.tmp 97, .tmp 95], none⟩] [91, 92, 93, 94, 95, 96, 97]) (.ops [⟨some 98, .plain .mv, [.tmp 0], none⟩, ⟨some 99, .plain .mv, [.tmp 0], none⟩, ⟨some 100, .plain .nilCheck, [.tmp 99], none⟩, ⟨some 101, .plain (.fieldAddr 0), [.tmp 100], none⟩, ⟨some 102, .call 366, [.tmp 101, .lit (.str ⟨#[69]⟩)], none⟩, ⟨some 103, .plain .nilCheck, [.tmp 98], none⟩, ⟨some 104, .plain (.fieldAddr 6), [.tmp 103], none⟩, ⟨none, .plain (.store 1), [.tmp 104, .tmp 102], none⟩] [98, 99, 100, 101, 102, 103, 104]))) (.seq (.seq (.ops [⟨some 105, .plain .mv, [.tmp 0], none⟩, ⟨some 106, .plain .nilCheck, [.tmp 105], none⟩, ⟨some 107, .plain (.fieldAddr 6), [.tmp 106], none⟩, ⟨some 108, .plain (.load false 1), [.tmp 107], none⟩, ⟨some 109, .plain (.bin .eql), [.tmp 108, .lit (.str ⟨#[69]⟩)], none⟩] [105, 106, 107, 108]) (.cond (.tmp 109) (.seq (.ops [⟨some 110, .plain .mv, [.tmp 0], none⟩, ⟨some 111, .plain .nilCheck, [.tmp 110], none⟩, ⟨some 112, .plain (.fieldAddr 0), [.tmp 111], none⟩, ⟨some 113, .call 366, [.tmp 112, .lit (.str ⟨#[43, 45]⟩)], none⟩, ⟨some 6, .plain .mv, [.tmp 113], none⟩] [110, 111, 112, 113]) (.seq (.ops [⟨some 114, .plain .mv, [.tmp 0], none⟩, ⟨some 115, .plain .nilCheck, [.tmp 114], none⟩, ⟨some 116, .plain (.fieldAddr 0), [.tmp 115], none⟩, ⟨some 117, .call 366, [.tmp 116, .lit (.str ⟨#[48, 49, 50, 51, 52, 53, 54, 55, 56, 57]⟩)], none⟩, ⟨some 7, .plain .mv, [.tmp 117], none⟩] [114, 115, 116, 117]) (.seq (.seq (.ops [⟨some 118, .plain .mv, [.tmp 7], none⟩, ⟨some 119, .plain (.bin .eql), [.tmp 118, .lit (.str ⟨#[]⟩)], none⟩] [118]) (.cond (.tmp 119) (.ops [⟨some 120, .plain .mv, [.tmp 0], none⟩, ⟨some 121, .plain .nilCheck, [.tmp 120], none⟩, ⟨some 122, .plain (.fieldAddr 0), [.tmp 121], none⟩, ⟨some 123, .plain (.fieldAddr 1), [.tmp 122], none⟩, ⟨some 124, .plain (.load false 1), [.tmp 123], none⟩, ⟨some 125, .plain (.build [(.int .i64 0)] [(0, 1)]), [.tmp 124], none⟩, ⟨some 126, .plain (.mkIface 293), [.tmp 125], none⟩, ⟨none, .panic, [.tmp 126], none⟩] [120, 121, 122, 123, 124, 125, 126]) .skip)) (.ops [⟨some 127, .plain .mv, [.tmp 0], none⟩, ⟨some 128, .plain .mv, [.tmp 6], none⟩, ⟨some 129, .plain .mv, [.tmp 7], none⟩, ⟨some 130, .plain (.bin .add), [.tmp 128, .tmp 129], none⟩, ⟨some 131, .plain .mv, [.tmp 0], none⟩, ⟨some 132, .plain .nilCheck, [.tmp 131], none⟩, ⟨some 133, .plain (.fieldAddr 0), [.tmp 132], none⟩, ⟨some 134, .call 366, [.tmp 133, .lit (.str ⟨#[48, 49, 50, 51, 52, 53, 54, 55, 56, 57]⟩)], none⟩, ⟨some 135, .plain (.bin .add), [.tmp 130, .tmp 134], none⟩, ⟨some 136, .plain .nilCheck, [.tmp 127], none⟩, ⟨some 137, .plain (.fieldAddr 7), [.tmp 136], none⟩, ⟨none, .plain (.store 1), [.tmp 137, .tmp 135], none⟩] [127, 128, 129, 130, 131, 132, 133, 134, 135, 136, 137])))) .skip)) (.seq (.ops [⟨some 138, .plain .mv, [.tmp 0], none⟩, ⟨some 139, .plain .nilCheck, [.tmp 138], none⟩, ⟨some 140, .plain (.fieldAddr 0), [.tmp 139], none⟩, ⟨some 141, .call 365, [.tmp 140, .lit (.str ⟨#[32]⟩)], none⟩] [138, 139, 140, 141]) (.seq (.seq (.draw (.step ⟨some 142, .plain .mv, [.tmp 0], none⟩ (.step ⟨some 143, .plain .nilCheck, [.tmp 142], none⟩ (.step ⟨some 144, .plain (.fieldAddr 0), [.tmp 143], none⟩ (.step ⟨some 145, .plain (.fieldAddr 1), [.tmp 144], none⟩ (.step ⟨some 146, .plain (.load false 1), [.tmp 145], none⟩ (.step ⟨some 147, .plain .mv, [.tmp 0], none⟩ (.step ⟨some 148, .plain .nilCheck, [.tmp 147], none⟩ (.step ⟨some 149, .plain (.fieldAddr 0), [.tmp 148], none⟩ (.step ⟨some 150, .plain (.fieldAddr 0), [.tmp 149], none⟩ (.step ⟨some 151, .plain (.load false 1), [.tmp 150], none⟩ (.step ⟨some 152, .plain (.len 0), [.tmp 151], none⟩ (.step ⟨some 153, .plain (.bin .lss), [.tmp 146, .tmp 152], none⟩ .done)))))))))))) [142, 143, 144, 145, 146, 147, 148, 149, 150, 151, 152]) (.cond (.tmp 153) (.ops [⟨some 154, .plain .mv, [.tmp 0], none⟩, ⟨some 155, .plain .nilCheck, [.tmp 154], none⟩, ⟨some 156, .plain (.fieldAddr 0), [.tmp 155], none⟩, ⟨some 157, .plain (.fieldAddr 1), [.tmp 156], none⟩, ⟨some 158, .plain (.load false 1), [.tmp 157], none⟩, ⟨some 159, .plain (.build [(.int .i64 0)] [(0, 1)]), [.tmp 158], none⟩, ⟨some 160, .plain (.mkIface 293), [.tmp 159], none⟩, ⟨none, .panic, [.tmp 160], none⟩] [154, 155, 156, 157, 158, 159, 160]) .skip)) (.seq (.ops [⟨some 2, .plain .mv, [.lit (.bool true)], none⟩] []) .ret)))))))))))))))))
def cr340 : List Res := [(2, none)]
theorem ok340 : FOk Bk.pg.toProgram Bk.imp 340 c340 cr340 Tryz.f340.ntmps := ⟨Tryz.f340, _, Tryz.func340, rfl, by kernel_rfl, by kernel_rfl, by kernel_rfl, rfl⟩
def c365 : SC :=
 (.seq (.ops [⟨some 4, .plain .mv, [.lit (.str ⟨#[]⟩)], none⟩] []) (.seq (.ops [⟨some 6, .plain .mv, [.tmp 0], none⟩, ⟨some 7, .plain .nilCheck, [.tmp 6], none⟩, ⟨some 8, .plain (.fieldAddr 1), [.tmp 7], none⟩, ⟨some 9, .plain (.load false 1), [.tmp 8], none⟩, ⟨some 5, .plain .mv, [.tmp 9], none⟩] [6, 7, 8, 9]) (.seq (.block 0 (.loop (.seq (.seq (.draw (.step ⟨some 10, .plain .mv, [.tmp 0], none⟩ (.step ⟨some 11, .plain .nilCheck, [.tmp 10], none⟩ (.step ⟨some 12, .plain (.fieldAddr 1), [.tmp 11], none⟩ (.step ⟨some 13, .plain (.load false 1), [.tmp 12], none⟩ (.step ⟨some 14, .plain .mv, [.tmp 0], none⟩ (.step ⟨some 15, .plain .nilCheck, [.tmp 14], none⟩ (.step ⟨some 16, .plain (.fieldAddr 0), [.tmp 15], none⟩ (.step ⟨some 17, .plain (.load false 1), [.tmp 16], none⟩ (.step ⟨some 18, .plain (.len 0), [.tmp 17], none⟩ (.step ⟨some 19, .plain (.bin .lss), [.tmp 13, .tmp 18], none⟩ (.step ⟨some 20, .plain .mv, [.tmp 19], none⟩ (.step ⟨some 21, .plain .mv, [.tmp 1], (some (20, true))⟩ (.step ⟨some 22, .plain .mv, [.tmp 0], (some (20, true))⟩ (.step ⟨some 23, .plain .nilCheck, [.tmp 22], (some (20, true))⟩ (.step ⟨some 24, .plain (.fieldAddr 0), [.tmp 23], (some (20, true))⟩ (.step ⟨some 25, .plain (.load false 1), [.tmp 24], (some (20, true))⟩ (.step ⟨some 26, .plain .mv, [.tmp 0], (some (20, true))⟩ (.step ⟨some 27, .plain .nilCheck, [.tmp 26], (some (20, true))⟩ (.step ⟨some 28, .plain (.fieldAddr 1), [.tmp 27], (some (20, true))⟩ (.step ⟨some 29, .plain (.load false 1), [.tmp 28], (some (20, true))⟩ (.step ⟨some 30, .plain .index, [.tmp 25, .tmp 29], (some (20, true))⟩ (.step ⟨some 31, .call 185, [.tmp 21, .tmp 30], (some (20, true))⟩ (.step ⟨some 32, .plain (.bin .geq), [.tmp 31, .lit (.int .i64 0)], (some (20, true))⟩ (.step ⟨some 33, .plain .pick, [.tmp 20, .tmp 32, .lit (.bool false)], none⟩ .done)))))))))))))))))))))))) [10, 11, 12, 13, 14, 15, 16, 17, 18, 19, 20, 21, 22, 23, 24, 25, 26, 27, 28, 29, 30, 31, 32]) (.cond (.tmp 33) .skip (.exit 0))) (.block 1 (.ops [⟨some 34, .plain .mv, [.tmp 0], none⟩, ⟨some 35, .plain .nilCheck, [.tmp 34], none⟩, ⟨some 36, .plain (.fieldAddr 1), [.tmp 35], none⟩, ⟨some 37, .plain (.load false 1), [.tmp 36], none⟩, ⟨some 38, .plain (.bin .add), [.tmp 37, .lit (.int .i64 1)], none⟩, ⟨some 39, .plain .nilCheck, [.tmp 34], none⟩, ⟨some 40, .plain (.fieldAddr 1), [.tmp 39], none⟩, ⟨none, .plain (.store 1), [.tmp 40, .tmp 38], none⟩] [34, 35, 36, 37, 38, 39, 40]))))) (.seq (.draw (.step ⟨some 41, .plain .mv, [.tmp 0], none⟩ (.step ⟨some 42, .plain .nilCheck, [.tmp 41], none⟩ (.step ⟨some 43, .plain (.fieldAddr 0), [.tmp 42], none⟩ (.step ⟨some 44, .plain (.load false 1), [.tmp 43], none⟩ (.step ⟨some 45, .plain .mv, [.tmp 5], none⟩ (.step ⟨some 46, .plain .mv, [.tmp 0], none⟩ (.step ⟨some 47, .plain .nilCheck, [.tmp 46], none⟩ (.step ⟨some 48, .plain (.fieldAddr 1), [.tmp 47], none⟩ (.step ⟨some 49, .plain (.load false 1), [.tmp 48], none⟩ (.step ⟨some 50, .plain (.slice true true 0), [.tmp 44, .tmp 45, .tmp 49], none⟩ (.step ⟨some 4, .plain .mv, [.tmp 50], none⟩ .done))))))))))) [41, 42, 43, 44, 45, 46, 47, 48, 49, 50]) .ret))))
def cr365 : List Res := [(4, none)]
theorem ok365 : FOk Bk.pg.toProgram Bk.imp 365 c365 cr365 Tryz.f365.ntmps := ⟨Tryz.f365, _, Tryz.func365, rfl, by kernel_rfl, by kernel_rfl, by kernel_rfl, rfl⟩
def c289 : SC :=
 (.seq (.ops [⟨some 4, .plain (.alloc [(.int .i64 0), (.int .i64 0), (.int .i64 0), (.str ⟨#[]⟩)]), [], none⟩] []) (.seq (.ops [⟨some 5, .plain .mv, [.tmp 0], none⟩, ⟨some 6, .plain .mv, [.tmp 1], none⟩, ⟨some 7, .plain (.build [(.int .i64 0), (.int .i64 0), (.int .i64 0), (.str ⟨#[]⟩)] [(0, 1), (3, 1)]), [.tmp 5, .tmp 6], none⟩, ⟨none, .plain (.store 4), [.tmp 4, .tmp 7], none⟩] [5, 6, 7]) .ret))
def cr289 : List Res := [(4, some (true, 4))]
theorem ok289 : FOk Bk.pg.toProgram Bk.imp 289 c289 cr289 Tryz.f289.ntmps := ⟨Tryz.f289, _, Tryz.func289, rfl, by kernel_rfl, by kernel_rfl, by kernel_rfl, rfl⟩
def c288 : SC :=
 (.seq (.ops [⟨some 4, .plain (.box 4), [.tmp 0], none⟩, ⟨some 5, .plain (.box 6), [.tmp 1], none⟩, ⟨some 6, .plain (.box 6), [.tmp 2], none⟩, ⟨some 7, .plain (.alloc [(.int .i64 0), (.int .i64 0), (.int .i64 0), (.str ⟨#[]⟩)]), [], none⟩, ⟨some 8, .plain (.alloc [(.int .i64 0), (.str ⟨#[]⟩), (.int .i64 0), (.str ⟨#[]⟩), (.int .i64 0)]), [], none⟩] []) (.seq (.draw (.step ⟨some 9, .plain (.load false 1), [.tmp 3], none⟩ (.step ⟨some 10, .plain (.load true 4), [.tmp 4], none⟩ (.step ⟨some 11, .plain (.load true 6), [.tmp 5], none⟩ (.step ⟨some 12, .call 290, [.tmp 10, .tmp 11], none⟩ (.step ⟨some 13, .call 289, [.lit (.int .i64 4), .tmp 12], none⟩ (.step ⟨some 14, .plain (.load true 6), [.tmp 5], none⟩ (.step ⟨some 15, .plain (.load true 6), [.tmp 6], none⟩ (.step ⟨some 16, .callv, [.tmp 9, .tmp 13, .tmp 14, .tmp 15], none⟩ (.step ⟨some 17, .plain (.extract 0), [.tmp 16], none⟩ (.step ⟨some 18, .plain (.extract 1), [.tmp 16], none⟩ (.step ⟨none, .plain (.store 4), [.tmp 7, .tmp 17], none⟩ (.step ⟨none, .plain (.store 5), [.tmp 8, .tmp 18], none⟩ .done)))))))))))) [9, 10, 11, 12, 13, 14, 15, 16, 17, 18]) .ret))
def cr288 : List Res := [(7, some (true, 4)), (8, some (true, 5))]
theorem ok288 : FOk Bk.pg.toProgram Bk.imp 288 c288 cr288 Tryz.f288.ntmps := ⟨Tryz.f288, _, Tryz.func288, rfl, by kernel_rfl, by kernel_rfl, by kernel_rfl, rfl⟩
def c290 : SC :=
 (.seq (.ops [⟨some 2, .plain (.box 4), [.tmp 0], none⟩, ⟨some 3, .plain (.box 6), [.tmp 1], none⟩, ⟨some 4, .plain .mv, [.lit (.str ⟨#[]⟩)], none⟩] []) (.seq (.seq (.ops [⟨some 7, .plain (.fieldAddr 0), [.tmp 3], none⟩, ⟨some 8, .plain (.load false 1), [.tmp 7], none⟩, ⟨some 9, .plain (.bin .eql), [.tmp 8, .lit (.int .i64 3)], none⟩] [7, 8]) (.cond (.tmp 9) (.seq (.ops [⟨some 10, .plain (.load true 4), [.tmp 2], none⟩, ⟨some 11, .plain (.fieldAddr 1), [.tmp 3], none⟩, ⟨some 12, .plain (.load false 1), [.tmp 11], none⟩, ⟨some 13, .call 336, [.tmp 10, .tmp 12], none⟩, ⟨some 4, .plain .mv, [.tmp 13], none⟩] [10, 11, 12, 13]) .ret) .skip)) (.seq (.seq (.ops [⟨some 14, .plain (.fieldAddr 0), [.tmp 3], none⟩, ⟨some 15, .plain (.load false 1), [.tmp 14], none⟩, ⟨some 16, .plain (.bin .eql), [.tmp 15, .lit (.int .i64 1)], none⟩] [14, 15]) (.cond (.tmp 16) (.seq (.ops [⟨some 18, .plain (.load true 6), [.tmp 3], none⟩, ⟨some 19, .call 173, [.tmp 18], none⟩, ⟨some 17, .plain .mv, [.tmp 19], none⟩, ⟨some 20, .plain (.extract 0), [.tmp 17], none⟩, ⟨some 21, .plain (.extract 1), [.tmp 17], none⟩, ⟨none, .plain (.store 6), [.tmp 3, .tmp 20], none⟩] [18, 19, 17, 20, 21]) (.ops [⟨some 23, .plain (.load true 4), [.tmp 2], none⟩, ⟨some 24, .plain (.load true 6), [.tmp 3], none⟩, ⟨some 25, .call 158, [.tmp 23, .tmp 24], none⟩, ⟨some 22, .plain .mv, [.tmp 25], none⟩, ⟨some 26, .plain (.extract 0), [.tmp 22], none⟩, ⟨some 27, .plain (.extract 1), [.tmp 22], none⟩, ⟨some 28, .plain (.extract 2), [.tmp 22], none⟩, ⟨none, .plain (.store 4), [.tmp 2, .tmp 26], none⟩] [23, 24, 25, 22, 26, 27, 28])) .skip)) (.seq (.ops [⟨some 30, .plain (.load true 4), [.tmp 2], none⟩, ⟨some 31, .call 337, [.tmp 30], none⟩, ⟨some 29, .plain .mv, [.tmp 31], none⟩, ⟨some 32, .plain (.extract 0), [.tmp 29], none⟩, ⟨some 33, .plain (.extract 1), [.tmp 29], none⟩, ⟨some 5, .plain .mv, [.tmp 32], none⟩, ⟨some 6, .plain .mv, [.tmp 33], none⟩] [30, 31, 29, 32, 33, 6]) (.seq (.ops [⟨some 34, .plain (.load true 6), [.tmp 3], none⟩, ⟨some 35, .call 266, [.tmp 34], none⟩, ⟨some 36, .plain .mv, [.tmp 5], none⟩, ⟨some 37, .plain (.len 0), [.tmp 36], none⟩, ⟨some 38, .plain (.bin .sub), [.tmp 35, .tmp 37], none⟩, ⟨some 39, .plain .max2, [.lit (.int .i64 0), .tmp 38], none⟩, ⟨some 40, .call 136, [.lit (.str ⟨#[32]⟩), .tmp 39], none⟩, ⟨some 41, .plain .mv, [.tmp 5], none⟩, ⟨some 42, .plain (.bin .add), [.tmp 40, .tmp 41], none⟩, ⟨some 4, .plain .mv, [.tmp 42], none⟩] [34, 35, 36, 37, 38, 39, 40, 41, 42]) .ret)))))
def cr290 : List Res := [(4, none)]
theorem ok290 : FOk Bk.pg.toProgram Bk.imp 290 c290 cr290 Tryz.f290.ntmps := ⟨Tryz.f290, _, Tryz.func290, rfl, by kernel_rfl, by kernel_rfl, by kernel_rfl, rfl⟩
def c337 : SC :=
 (.seq (.ops [⟨some 1, .plain (.box 4), [.tmp 0], none⟩, ⟨some 2, .plain .mv, [.lit (.str ⟨#[]⟩)], none⟩, ⟨some 3, .plain .mv, [.lit (.int .i64 0)], none⟩] []) (.seq (.seq (.ops [⟨some 12, .plain (.load true 4), [.tmp 1], none⟩, ⟨some 13, .plain (.buildRow 24 4 1 [(.int .i64 0), (.int .i64 0), (.int .i64 0), (.str ⟨#[]⟩)] [0]), [.tmp 12], none⟩, ⟨some 14, .call 160, [.lit (.const (.pointer none)), .tmp 13], none⟩, ⟨some 4, .plain .mv, [.tmp 14], none⟩] [12, 13, 14]) (.seq (.ops [⟨some 15, .plain .mv, [.tmp 4], none⟩, ⟨some 16, .plain (.bin .neq), [.tmp 15, .lit (.int .i64 0)], none⟩] [15]) (.cond (.tmp 16) (.seq (.ops [⟨some 17, .plain .mv, [.tmp 4], none⟩, ⟨some 2, .plain .mv, [.lit (.str ⟨#[]⟩)], none⟩, ⟨some 3, .plain .mv, [.tmp 17], none⟩] [17]) .ret) .skip))) (.seq (.ops [⟨some 5, .plain .mv, [.lit (.str ⟨#[]⟩)], none⟩] []) (.seq (.seq (.ops [⟨some 18, .plain (.fieldAddr 1), [.tmp 1], none⟩, ⟨some 19, .plain (.load false 1), [.tmp 18], none⟩, ⟨some 20, .plain (.bin .lss), [.tmp 19, .lit (.int .i64 0)], none⟩] [18, 19]) (.cond (.tmp 20) (.ops [⟨some 5, .plain .mv, [.lit (.str ⟨#[45]⟩)], none⟩] []) .skip)) (.seq (.seq (.ops [⟨some 21, .plain (.fieldAddr 0), [.tmp 1], none⟩, ⟨some 22, .plain (.load false 1), [.tmp 21], none⟩, ⟨some 23, .plain (.bin .eql), [.tmp 22, .lit (.int .i64 3)], none⟩] [21, 22]) (.cond (.tmp 23) (.seq (.ops [⟨some 24, .plain (.fieldAddr 1), [.tmp 1], none⟩, ⟨some 25, .plain (.load false 1), [.tmp 24], none⟩, ⟨some 26, .plain (.fieldAddr 1), [.tmp 1], none⟩, ⟨some 27, .plain (.load false 1), [.tmp 26], none⟩, ⟨some 28, .plain (.un .neg), [.tmp 27], none⟩, ⟨some 29, .plain .max2, [.tmp 25, .tmp 28], none⟩, ⟨some 30, .call 135, [.tmp 29], none⟩, ⟨some 6, .plain .mv, [.tmp 30], none⟩] [24, 25, 26, 27, 28, 29, 30]) (.seq (.ops [⟨some 31, .plain (.fieldAddr 2), [.tmp 1], none⟩, ⟨some 32, .plain (.load false 1), [.tmp 31], none⟩, ⟨some 33, .plain .mv, [.tmp 6], none⟩, ⟨some 34, .plain (.len 0), [.tmp 33], none⟩, ⟨some 35, .plain (.bin .add), [.tmp 32, .tmp 34], none⟩, ⟨some 36, .plain (.bin .sub), [.tmp 35, .lit (.int .i64 1)], none⟩, ⟨some 7, .plain .mv, [.tmp 36], none⟩] [31, 32, 33, 34, 35, 36]) (.seq (.seq (.ops [⟨some 37, .plain .mv, [.tmp 6], none⟩, ⟨some 38, .plain (.len 0), [.tmp 37], none⟩, ⟨some 39, .plain (.bin .gtr), [.tmp 38, .lit (.int .i64 1)], none⟩] [37, 38]) (.cond (.tmp 39) (.draw (.step ⟨some 40, .plain .mv, [.tmp 6], none⟩ (.step ⟨some 41, .plain (.slice false true 0), [.tmp 40, .lit (.int .i64 1)], none⟩ (.step ⟨some 42, .plain (.bin .add), [.tmp 41, .lit (.str ⟨#[46]⟩)], none⟩ (.step ⟨some 43, .plain .mv, [.tmp 6], none⟩ (.step ⟨some 44, .plain (.slice true false 0), [.tmp 43, .lit (.int .i64 1)], none⟩ (.step ⟨some 45, .plain (.bin .add), [.tmp 42, .tmp 44], none⟩ (.step ⟨some 6, .plain .mv, [.tmp 45], none⟩ .done))))))) [40, 41, 42, 43, 44, 45]) .skip)) (.seq (.ops [⟨some 46, .plain .mv, [.tmp 5], none⟩, ⟨some 47, .plain .mv, [.tmp 6], none⟩, ⟨some 48, .plain (.bin .add), [.tmp 46, .tmp 47], none⟩, ⟨some 49, .plain (.bin .add), [.tmp 48, .lit (.str ⟨#[69]⟩)], none⟩, ⟨some 50, .plain .mv, [.tmp 7], none⟩, ⟨some 51, .call 135, [.tmp 50], none⟩, ⟨some 52, .plain (.bin .add), [.tmp 49, .tmp 51], none⟩, ⟨some 2, .plain .mv, [.tmp 52], none⟩, ⟨some 3, .plain .mv, [.lit (.int .i64 0)], none⟩] [46, 47, 48, 49, 50, 51, 52]) .ret)))) .skip)) (.seq (.ops [⟨some 8, .plain (.allocT 183 [(.const (.pointer none)), .nilS]), [], none⟩] []) (.seq (.seq (.ops [⟨some 53, .plain (.load true 4), [.tmp 1], none⟩, ⟨some 54, .call 165, [.tmp 53], none⟩, ⟨some 55, .plain (.field false 0 1), [.tmp 54], none⟩, ⟨some 56, .call 321, [.tmp 55], none⟩] [53, 54, 55]) (.block 0 (.rangeF (.tmp 56) [57] (.ops [⟨some 9, .plain .mv, [.tmp 57], none⟩] []) (.block 1 (.ops [⟨some 58, .plain .mv, [.tmp 9], none⟩, ⟨some 59, .plain (.bin .add), [.lit (.int .u8 48), .tmp 58], none⟩, ⟨some 60, .call 364, [.tmp 8, .tmp 59], none⟩] [58, 59, 60]))))) (.seq (.ops [⟨some 61, .call 206, [.tmp 8], none⟩, ⟨some 10, .plain .mv, [.tmp 61], none⟩] [61]) (.seq (.seq (.ops [⟨some 62, .plain (.fieldAddr 2), [.tmp 1], none⟩, ⟨some 63, .plain (.load false 1), [.tmp 62], none⟩, ⟨some 64, .plain (.bin .add), [.tmp 63, .lit (.int .i64 1)], none⟩, ⟨some 65, .plain .mv, [.tmp 10], none⟩, ⟨some 66, .plain (.len 0), [.tmp 65], none⟩, ⟨some 67, .plain (.bin .sub), [.tmp 64, .tmp 66], none⟩, ⟨some 11, .plain .mv, [.tmp 67], none⟩] [62, 63, 64, 65, 66, 67]) (.seq (.ops [⟨some 68, .plain .mv, [.tmp 11], none⟩, ⟨some 69, .plain (.bin .gtr), [.tmp 68, .lit (.int .i64 0)], none⟩] [68]) (.cond (.tmp 69) (.ops [⟨some 70, .plain .mv, [.tmp 11], none⟩, ⟨some 71, .call 136, [.lit (.str ⟨#[48]⟩), .tmp 70], none⟩, ⟨some 72, .plain .mv, [.tmp 10], none⟩, ⟨some 73, .plain (.bin .add), [.tmp 71, .tmp 72], none⟩, ⟨some 10, .plain .mv, [.tmp 73], none⟩] [70, 71, 72, 73]) .skip))) (.seq (.seq (.ops [⟨some 74, .plain (.fieldAddr 2), [.tmp 1], none⟩, ⟨some 75, .plain (.load false 1), [.tmp 74], none⟩, ⟨some 76, .plain (.bin .gtr), [.tmp 75, .lit (.int .i64 0)], none⟩] [74, 75]) (.cond (.tmp 76) (.draw (.step ⟨some 77, .plain .mv, [.tmp 10], none⟩ (.step ⟨some 78, .plain .mv, [.tmp 10], none⟩ (.step ⟨some 79, .plain (.len 0), [.tmp 78], none⟩ (.step ⟨some 80, .plain (.fieldAddr 2), [.tmp 1], none⟩ (.step ⟨some 81, .plain (.load false 1), [.tmp 80], none⟩ (.step ⟨some 82, .plain (.bin .sub), [.tmp 79, .tmp 81], none⟩ (.step ⟨some 83, .plain (.slice false true 0), [.tmp 77, .tmp 82], none⟩ (.step ⟨some 84, .plain (.bin .add), [.tmp 83, .lit (.str ⟨#[46]⟩)], none⟩ (.step ⟨some 85, .plain .mv, [.tmp 10], none⟩ (.step ⟨some 86, .plain .mv, [.tmp 10], none⟩ (.step ⟨some 87, .plain (.len 0), [.tmp 86], none⟩ (.step ⟨some 88, .plain (.fieldAddr 2), [.tmp 1], none⟩ (.step ⟨some 89, .plain (.load false 1), [.tmp 88], none⟩ (.step ⟨some 90, .plain (.bin .sub), [.tmp 87, .tmp 89], none⟩ (.step ⟨some 91, .plain (.slice true false 0), [.tmp 85, .tmp 90], none⟩ (.step ⟨some 92, .plain (.bin .add), [.tmp 84, .tmp 91], none⟩ (.step ⟨some 10, .plain .mv, [.tmp 92], none⟩ .done))))))))))))))))) [77, 78, 79, 80, 81, 82, 83, 84, 85, 86, 87, 88, 89, 90, 91, 92]) .skip)) (.seq (.ops [⟨some 93, .plain .mv, [.tmp 5], none⟩, ⟨some 94, .plain .mv, [.tmp 10], none⟩, ⟨some 95, .plain (.bin .add), [.tmp 93, .tmp 94], none⟩, ⟨some 2, .plain .mv, [.tmp 95], none⟩, ⟨some 3, .plain .mv, [.lit (.int .i64 0)], none⟩] [93, 94, 95]) .ret)))))))))))
def cr337 : List Res := [(2, none), (3, none)]
theorem ok337 : FOk Bk.pg.toProgram Bk.imp 337 c337 cr337 Tryz.f337.ntmps := ⟨Tryz.f337, _, Tryz.func337, rfl, by kernel_rfl, by kernel_rfl, by kernel_rfl, rfl⟩
def c364 : SC :=
 (.seq (.ops [⟨some 4, .plain .mv, [.lit (.const .nilIface)], none⟩] []) (.seq (.ops [⟨some 5, .plain .mv, [.tmp 0], none⟩, ⟨some 6, .call 282, [.tmp 5], none⟩] [5, 6]) (.seq (.ops [⟨some 7, .plain .mv, [.tmp 0], none⟩, ⟨some 8, .plain .mv, [.tmp 0], none⟩, ⟨some 9, .plain .nilCheck, [.tmp 8], none⟩, ⟨some 10, .plain (.fieldAddr 1), [.tmp 9], none⟩, ⟨some 11, .plain (.load false 1), [.tmp 10], none⟩, ⟨some 12, .plain .mv, [.tmp 1], none⟩, ⟨some 13, .plain (.buildRow 5 1 1 [(.int .u8 0)] [0]), [.tmp 12], none⟩, ⟨some 14, .plain (.append 5 1 1), [.tmp 11, .tmp 13], none⟩, ⟨some 15, .plain .nilCheck, [.tmp 7], none⟩, ⟨some 16, .plain (.fieldAddr 1), [.tmp 15], none⟩, ⟨none, .plain (.store 1), [.tmp 16, .tmp 14], none⟩] [7, 8, 9, 10, 11, 12, 13, 14, 15, 16]) (.seq (.ops [⟨some 4, .plain .mv, [.lit (.const .nilIface)], none⟩] []) .ret))))
def cr364 : List Res := [(4, none)]
theorem ok364 : FOk Bk.pg.toProgram Bk.imp 364 c364 cr364 Tryz.f364.ntmps := ⟨Tryz.f364, _, Tryz.func364, rfl, by kernel_rfl, by kernel_rfl, by kernel_rfl, rfl⟩
end Go.Pm

/- BkY1: contracts: builders of texts. -/
set_option linter.unusedVariables false
namespace Go.Pm
open Go Go.Proofs Go.Shelf Go.RowKit
theorem info183 : (Tryz.prog.info? 183).map (·.size) = some 2 := by kernel_rfl
theorem cells183 : Tryz.prog.cellsOf 183 = 2 := by kernel_rfl
theorem lies183 (count : Nat) (h : 1 ≤ count) : liesAt Tryz.prog Tryz.prog.depth 183 (count * 2 / Tryz.prog.cellsOf 183) 0 183 1 = true := by
  have hd : Tryz.prog.depth = (2 * (Tryz.prog.types.size + Made.depth) + 1) + 1 := rfl
  have hc : count * 2 / 2 = count := by omega
  rw [cells183, hc, hd]
  simp only [liesAt, Bool.or_eq_true]
  left
  rw [hd]
  simp [rowAt, cells183, sameLayout, h]
set_option maxHeartbeats 1000000 in
set_option maxRecDepth 100000 in
theorem check_used (b : Nat) (w : World) (h0 : w.cell? ⟨b, 0, none⟩ = some (.pointer (some ⟨b, 0, none⟩))) :
    Calls Tryz.prog 282 #[.pointer (some ⟨b, 0, none⟩)] w fun e w' => e = .returned (.tuple #[]) ∧ w' = w := by
  obtain ⟨j, hj, _⟩ := Option.map_eq_some_iff.1 info183
  go_enter Tryz.func282, Tryz.ntmps282
  go_wp2
  rw [Lib.run_neq_ptr_same w _ Tryz.underlying181 hj]
  go_wp2
  go_end0
  exact ⟨rfl, rfl⟩
set_option maxHeartbeats 1000000 in
set_option maxRecDepth 100000 in
theorem check_fresh (b : Nat) (w : World) (h0 : w.cell? ⟨b, 0, none⟩ = some (.pointer none)) (c : Nat) (hc : 1 ≤ c) (hsh : w.shape? b = some (183, c * 2)) (hfz : w.frozen? ⟨b, 0, none⟩ = false) :
    Calls Tryz.prog 282 #[.pointer (some ⟨b, 0, none⟩)] w fun e w' => e = .returned (.tuple #[]) ∧ w' = w.setCell ⟨b, 0, none⟩ (.pointer (some ⟨b, 0, none⟩)) := by
  obtain ⟨j, hj, hjs⟩ := Option.map_eq_some_iff.1 info183
  go_enter Tryz.func282, Tryz.ntmps282
  go_wp2
  rw [Lib.run_to_unsafe w ⟨b, 0, none⟩ Tryz.underlying181 Tryz.underlying286 hj (by rw [hjs]; decide) hsh (by show 0 < c * 2; omega)]
  simp only [Result.andThen]
  rw [Oper.upon_value]
  go_wp2
  rw [run_callFunc_extern Tryz.func334 (by kernel_rfl) (by kernel_rfl) (by kernel_rfl) (e := Extern.AbiNoEscape.same) (by kernel_rfl)]
  rw [Lib.run_noEscape]
  simp only [Result.andThen]
  rw [Oper.upon_value]
  go_wp2
  rw [Lib.run_from_unsafe w ⟨b, 0, none⟩ Tryz.underlying286 Tryz.underlying181 hj hsh (lies183 c hc)]
  simp only [Result.andThen]
  rw [Oper.upon_value]
  go_wp2
  go_end0
  exact ⟨rfl, rfl⟩
theorem elem_cells {σ : Sig} {K : Bool → Nat → Prop} {w : World} {b : Nat} {x y : AV} (h : LR σ K w b 0 2 [[x, y]]) : (∃ u, w.cell? ⟨b, 0, none⟩ = some u ∧ u.oneCell' = true ∧ VR σ K w x u) ∧ ∃ u, w.cell? ⟨b, 1, none⟩ = some u ∧ u.oneCell' = true ∧ VR σ K w y u := by
  obtain ⟨_, h, _⟩ := h
  exact ⟨h.1, h.2.1⟩
theorem call282 (m : Mem) (pos gen : Nat) (a v : AV) (h : m.obj pos gen = some (.row 183 2 [[a, v]])) (ha : a = .const (.pointer none) ∨ a = .rptr pos gen 2 0 0) :
    ACalls Bk.pg 282 [.rptr pos gen 2 0 0] m fun out m' => out = .ret (.tuple []) ∧ m' = m.put pos gen (.row 183 2 [[.rptr pos gen 2 0 0, v]]) := by
  refine ⟨⟨Tryz.f282, Tryz.func282, rfl, by kernel_rfl⟩, fun β K σ w vals hrel hv hβ => ?_⟩
  obtain ⟨u, us, rfl, hV, hnil⟩ := hv
  rw [VRs] at hnil
  subst hnil
  rw [VR] at hV
  obtain ⟨b, c, hg, rfl⟩ := hV
  obtain ⟨cur, hheap, hcs, hcap, hmax, hpos2, hlr⟩ := hrel.obj_row h hg
  obtain ⟨⟨u0, hc0, ho0, hV0⟩, ⟨u1, hc1, ho1, hV1⟩⟩ := elem_cells hlr
  have hpos := Mem.obj_some h
  have hself : VR σ K w (.rptr pos gen 2 0 0) (.pointer (some ⟨b, 0, none⟩)) := by rw [VR]; exact ⟨b, c, hg, rfl⟩
  show Calls Tryz.prog 282 #[.pointer (some ⟨b, 0, none⟩)] w _
  rcases ha with rfl | rfl
  · rw [VR] at hV0
    subst hV0
    have hb : b < w.heap.size := (Array.getElem?_eq_some_iff.1 hheap).1
    have hsz : cur.size = c * 2 := hcs
    have hc1' : 1 ≤ c := by simpa using hcap
    refine (check_fresh b w hc0 c hc1' (by simp [World.shape?, hheap, hsz]) (by simp [World.frozen?, hheap])).mono ?_
    rintro e w' ⟨rfl, rfl⟩
    have hheap' : (w.setCell ⟨b, 0, none⟩ (.pointer (some ⟨b, 0, none⟩))).heap[b]? = some (.cells (cur.setIfInBounds 0 (.pointer (some ⟨b, 0, none⟩))) 183 (0, 0)) := by
      show (w.heap.modify b _)[b]? = _
      rw [Array.getElem?_modify, if_pos rfl, hheap]
      rfl
    have hgr : w.grownBy (w.setCell ⟨b, 0, none⟩ (.pointer (some ⟨b, 0, none⟩))) (some b) := by
      refine ⟨rfl, rfl, rfl, by simp [World.setCell], fun k hk hne => ?_⟩
      show (w.heap.modify b _)[k]? = _
      rw [Array.getElem?_modify, if_neg (fun e => hne (by rw [e]))]
    have hKs := hrel.kept_same hgr (hrel.not_kept h hg)
    have hput : Rel β K σ (m.put pos gen (.row 183 2 [[.rptr pos gen 2 0 0, v]])) (w.setCell ⟨b, 0, none⟩ (.pointer (some ⟨b, 0, none⟩))) := by
      refine hrel.put hpos hg hgr ⟨_, hheap', by simp [hcs], by simpa using hcap, hmax, hpos2, rfl, ⟨⟨_, ?_, rfl, by rw [VR]; exact ⟨b, c, hg, rfl⟩⟩, ⟨u1, ?_, ho1, VR.mono (List.prefix_refl _) (fun _ _ h => h) hKs _ _ hV1⟩, trivial⟩, trivial⟩
      · rw [cell?_cells hheap']
        have h0 : 0 < cur.size := by omega
        simp [h0]
      · have e1 := hc1
        rw [cell?_cells hheap] at e1
        rw [cell?_cells hheap']
        simpa using e1
    exact ⟨K, σ, _, .ret (.tuple []), ⟨rfl, rfl⟩, hput, List.prefix_refl _, fun _ _ h => h, hKs, .tuple #[], rfl, by rw [VR]; exact ⟨#[], rfl, rfl⟩⟩
  · rw [VR] at hV0
    obtain ⟨b', c', hg', rfl⟩ := hV0
    rw [hg] at hg'
    injection hg' with hg'; injection hg' with e1 e2; injection e1 with e1; subst e1; subst e2
    refine (check_used b w hc0).mono ?_
    rintro e w' ⟨rfl, rfl⟩
    rw [Mem.put_same hpos]
    exact ⟨K, σ, m, .ret (.tuple []), ⟨rfl, rfl⟩, hrel, List.prefix_refl _, fun _ _ h => h, fun _ _ _ => rfl, .tuple #[], rfl, by rw [VR]; exact ⟨#[], rfl, rfl⟩⟩
section
attribute [-simp] List.getElem?_map Mem.obj Mem.put Mem.turn
theorem bytes_len (s : ByteArray) : (bytesOf s).length = s.size := by simp [bytesOf]
theorem app_at {S : List (Nat × AObj)} {nx pos g : Nat} {L : List (List AV)} {x : AV} {n : Nat} (hn : n = L.length) (hS : S[pos]? = some (g, .row 5 1 L)) (hL : L.length ≤ 140737488355327) :
    appendA 5 1 1 ⟨S ++ [(nx, .row 5 1 [[x]])], nx + 1⟩ (.row pos g 1 0 n) (.row S.length nx 1 0 1) = some (.row pos (nx + 1) 1 0 (n + 1), ⟨(S ++ [(nx, AObj.row 5 1 [[x]])]).set pos (nx + 1, .row 5 1 (L ++ [[x]])), nx + 2⟩) := by
  subst hn
  have hlt := (List.getElem?_eq_some_iff.1 hS).1
  have h2 : L.length + 1 ≤ 9223372036854775807 := by omega
  have h3 : L.length + 1 ≤ 140737488355328 := by omega
  have hS' : (S ++ [(nx, AObj.row 5 1 [[x]])])[pos]? = some (g, .row 5 1 L) := by rw [List.getElem?_append_left hlt]; exact hS
  simp [appendA, appendN, elsOf, Mem.obj, Mem.turn, h2, h3, hS']
theorem call364 {S : List (Nat × AObj)} {nx bpos bgen rpos rgen : Nat} {a : AV} {t : ByteArray} {c : Int} {cc : UInt8} (hc : c = (cc.toNat : Int)) (hb : S[bpos]? = some (bgen, .row 183 2 [[a, .row rpos rgen 1 0 t.size]])) (hr : S[rpos]? = some (rgen, .row 5 1 (bytesOf t))) (hne : bpos ≠ rpos) (ha : a = .const (.pointer none) ∨ a = .rptr bpos bgen 2 0 0) (hl : t.size + 1 ≤ 140737488355328) :
    ACalls Bk.pg 364 [.rptr bpos bgen 2 0 0, .int .u8 c] ⟨S, nx⟩ fun out m' => out = .ret (.const .nilIface) ∧ ∃ g nx', m' = ⟨(S.set rpos (g, .row 5 1 (bytesOf (t.push cc)))).set bpos (bgen, .row 183 2 [[.rptr bpos bgen 2 0 0, .row rpos g 1 0 (t.size + 1)]]), nx'⟩ := by
  suffices ACalls Bk.pg 364 [.rptr bpos bgen 2 0 0, .int .u8 c] ⟨S, nx⟩ fun out m' => out = .ret (.const .nilIface) ∧ m' = ⟨(S.set rpos (nx + 1, .row 5 1 (bytesOf (t.push cc)))).set bpos (bgen, .row 183 2 [[.rptr bpos bgen 2 0 0, .row rpos (nx + 1) 1 0 (t.size + 1)]]), nx + 2⟩ from
    this.mono fun out m' ⟨h1, h2⟩ => ⟨h1, _, _, h2⟩
  refine ACalls.forget (ok364.acalls (by simp) ?_)
  have lb := (List.getElem?_eq_some_iff.1 hb).1
  have lr := (List.getElem?_eq_some_iff.1 hr).1
  have ob : (⟨S, nx⟩ : Mem).obj bpos bgen = some (.row 183 2 [[a, .row rpos rgen 1 0 t.size]]) := by unfold Mem.obj; simp only [hb]; simp
  have hp : bytesOf (t.push cc) = bytesOf t ++ [[.int .u8 c]] := by
    subst hc
    simp [bytesOf, ByteArray.push]
  obtain ⟨S1, hS1⟩ : ∃ S1, S1 = S.set bpos (bgen, .row 183 2 [[.rptr bpos bgen 2 0 0, .row rpos rgen 1 0 t.size]]) := ⟨_, rfl⟩
  have e1 : S1[bpos]? = some (bgen, .row 183 2 [[.rptr bpos bgen 2 0 0, .row rpos rgen 1 0 t.size]]) := by rw [hS1]; simp [lb]
  have e2 : S1[rpos]? = some (rgen, .row 5 1 (bytesOf t)) := by rw [hS1, List.getElem?_set_ne hne]; exact hr
  have hap := app_at (nx := nx) (x := .int .u8 c) (n := t.size) (bytes_len t).symm e2 (by rw [bytes_len]; omega)
  have l1 : S1.length = S.length := by rw [hS1]; simp
  have e3 : ((S1 ++ [(nx, AObj.row 5 1 [[.int .u8 c]])]).set rpos (nx + 1, .row 5 1 (bytesOf t ++ [[.int .u8 c]])))[bpos]? = some (bgen, .row 183 2 [[.rptr bpos bgen 2 0 0, .row rpos rgen 1 0 t.size]]) := by
    rw [List.getElem?_set_ne (Ne.symm hne), List.getElem?_append_left (by omega)]; exact e1
  have e4 : (((S1 ++ [(nx, AObj.row 5 1 [[.int .u8 c]])]).set rpos (nx + 1, .row 5 1 (bytesOf t ++ [[.int .u8 c]]))).set bpos (bgen, .row 183 2 [[.rptr bpos bgen 2 0 0, .row rpos (nx + 1) 1 0 (t.size + 1)]])) =
      (S.set rpos (nx + 1, .row 5 1 (bytesOf t ++ [[.int .u8 c]]))).set bpos (bgen, .row 183 2 [[.rptr bpos bgen 2 0 0, .row rpos (nx + 1) 1 0 (t.size + 1)]]) ++ [(nx, AObj.row 5 1 [[.int .u8 c]])] := by
    rw [hS1, List.set_append_left _ _ (by simpa using lr), List.set_append_left _ _ (by simpa using lb), List.set_comm _ _ hne, List.set_set]
  rw [hp]
  have hcall := call282 ⟨S, nx⟩ bpos bgen a _ ob ha
  simp only [Mem.put, ← hS1] at hcall
  simp [c364]
  refine xcall_a hcall ?_
  simp [Mem.new, Mem.put, Mem.turn, Mem.obj, e1, nilCheckA, l1]
  rw [l1] at hap
  simp [hap, e3, e4, Mem.obj, Mem.put, cr364, postA_ret]
  exact Mem.le_of rfl (by simp)
end
end Go.Pm

/- BkY2: contracts: a builder's text. -/
set_option linter.unusedVariables false
namespace Go.Pm
open Go Go.Proofs Go.Shelf Go.RowKit
theorem mixedT : Tryz.prog.follows Departure.mixedOrders = true := by kernel_rfl
theorem cells5 : Tryz.prog.cellsOf 5 = 1 := by kernel_rfl
set_option maxHeartbeats 2000000 in
set_option maxRecDepth 100000 in
theorem string_row (b g cap : Nat) (cur : Array Value) (l : List UInt8) (w : World) (h0 : l ≠ []) (hc : w.cell? ⟨b, 1, none⟩ = some (.slice (some ⟨g, 0, none⟩) l.length cap)) (hg : w.heap[g]? = some (.cells cur 5 (0, 0))) (hlc : l.length ≤ cap) (hcm : cap ≤ maxLen) (hcs : cur.size = cap * 1)
    (hcell : ∀ j x, l[j]? = some x → w.cell? ((⟨g, 0, none⟩ : Addr).add j) = some (.int .u8 x.toNat)) :
    Calls Tryz.prog 206 #[.pointer (some ⟨b, 0, none⟩)] w fun e w' => e = .returned (.string ⟨l.toArray⟩) ∧ w' = w.drew.freeze ⟨g, 0, none⟩ l.length := by
  have hl0 : l.length ≠ 0 := by simpa using h0
  have c1 : w.drew.cell? ⟨b, 1, none⟩ = some (.slice (some ⟨g, 0, none⟩) l.length cap) := hc
  have hSD : (Builtin.unsafeSliceData_ #[84] 248 #[.slice (some ⟨g, 0, none⟩) l.length cap]).run Tryz.prog w.drew = .ok (.pointer (some ⟨g, 0, none⟩)) w.drew :=
    Lib.run_unsafeSliceData_row _ _ _ _ _ _ (by omega)
  have hUS : (Builtin.unsafeString_ #[248, 3] 9 #[.pointer (some ⟨g, 0, none⟩), .int .i64 l.length]).run Tryz.prog w.drew = .ok (.string ⟨l.toArray⟩) (w.drew.freeze ⟨g, 0, none⟩ l.length) :=
    Lib.run_unsafeString_row w.drew 248 3 9 5 Tryz.underlying248 cells5 g cur.size (by have hg' : w.drew.heap[g]? = some (.cells cur 5 (0, 0)) := hg; simp [World.shape?, hg']) l h0 (by omega) (by unfold maxLen at hcm; omega) hcell
  have mixed := mixedT
  go_enter Tryz.func206, Tryz.ntmps206
  go_wp2
  go_region_o
  all_goals (go_wp2; go_ret; exact ⟨rfl, rfl⟩)
theorem unsafe_none (W : World) (q : Option Addr) : (Builtin.unsafeString_ #[248, 3] 9 #[.pointer q, .int .i64 0]).run Tryz.prog W = .ok (.string .empty) W := Lib.run_unsafeString_none W _ _ _ q
set_option maxHeartbeats 2000000 in
set_option maxRecDepth 100000 in
theorem string_nil (b : Nat) (w : World) (hc : w.cell? ⟨b, 1, none⟩ = some (.slice none 0 0)) :
    Calls Tryz.prog 206 #[.pointer (some ⟨b, 0, none⟩)] w fun e w' => e = .returned (.string ⟨#[]⟩) ∧ w' = w.drew := by
  have hUS := unsafe_none
  have c1 : w.drew.cell? ⟨b, 1, none⟩ = some (.slice none 0 0) := hc
  have hSD : (Builtin.unsafeSliceData_ #[84] 248 #[.slice none 0 0]).run Tryz.prog w.drew = .ok (.pointer none) w.drew := rfl
  have mixed := mixedT
  go_enter Tryz.func206, Tryz.ntmps206
  go_wp2
  go_region_o
  all_goals (go_wp2; go_ret; exact ⟨rfl, rfl⟩)
set_option maxHeartbeats 2000000 in
set_option maxRecDepth 100000 in
theorem string_noroom (b g : Nat) (cur : Array Value) (w : World) (hb : b < w.heap.size) (hc : w.cell? ⟨b, 1, none⟩ = some (.slice (some ⟨g, 0, none⟩) 0 0)) (hg : w.heap[g]? = some (.cells cur 5 (0, 0))) :
    Calls Tryz.prog 206 #[.pointer (some ⟨b, 0, none⟩)] w fun e w' => e = .returned (.string ⟨#[]⟩) ∧ w' = w.drew.alloc (.view ⟨g, 0, none⟩ 5) := by
  have hUS := unsafe_none
  have c1 : w.drew.cell? ⟨b, 1, none⟩ = some (.slice (some ⟨g, 0, none⟩) 0 0) := hc
  have hSD : (Builtin.unsafeSliceData_ #[84] 248 #[.slice (some ⟨g, 0, none⟩) 0 0]).run Tryz.prog w.drew = .ok (.pointer (some ⟨w.drew.heap.size, 0, none⟩)) (w.drew.alloc (.view ⟨g, 0, none⟩ 5)) :=
    Lib.run_unsafeSliceData_zero w.drew _ _ 5 Tryz.underlying248 ⟨g, 0, none⟩ 0 (5, cur.size) (by have hg' : w.drew.heap[g]? = some (.cells cur 5 (0, 0)) := hg; simp [World.shape?, hg'])
  have c2 : (w.drew.alloc (.view ⟨g, 0, none⟩ 5)).cell? ⟨b, 1, none⟩ = some (.slice (some ⟨g, 0, none⟩) 0 0) := by
    rw [cell?_congr (w := w.drew) (a := ⟨b, 1, none⟩) (Lib.alloc_old w.drew _ b hb)]; exact c1
  have c3 : (w.alloc (.view ⟨g, 0, none⟩ 5)).drew.cell? ⟨b, 1, none⟩ = some (.slice (some ⟨g, 0, none⟩) 0 0) := c2
  have mixed := mixedT
  go_enter Tryz.func206, Tryz.ntmps206
  go_wp2
  go_region_o
  all_goals (go_wp2; go_ret; exact ⟨rfl, rfl⟩)
set_option maxHeartbeats 2000000 in
set_option maxRecDepth 100000 in
theorem string_room (b g cap : Nat) (w : World) (hc0 : cap ≠ 0) (hc : w.cell? ⟨b, 1, none⟩ = some (.slice (some ⟨g, 0, none⟩) 0 cap)) :
    Calls Tryz.prog 206 #[.pointer (some ⟨b, 0, none⟩)] w fun e w' => e = .returned (.string ⟨#[]⟩) ∧ w' = w.drew := by
  have hUS := unsafe_none
  have c1 : w.drew.cell? ⟨b, 1, none⟩ = some (.slice (some ⟨g, 0, none⟩) 0 cap) := hc
  have hSD : (Builtin.unsafeSliceData_ #[84] 248 #[.slice (some ⟨g, 0, none⟩) 0 cap]).run Tryz.prog w.drew = .ok (.pointer (some ⟨g, 0, none⟩)) w.drew :=
    Lib.run_unsafeSliceData_row _ _ _ _ _ _ hc0
  clear hc0
  have mixed := mixedT
  go_enter Tryz.func206, Tryz.ntmps206
  go_wp2
  go_region_o
  all_goals (go_wp2; go_ret; exact ⟨rfl, rfl⟩)
theorem drew_grown (w : World) : w.grownBy w.drew none := ⟨rfl, rfl, rfl, Nat.le_refl _, fun _ _ _ => rfl⟩
theorem freeze_grown (w : World) (g n : Nat) : w.grownBy (w.drew.freeze ⟨g, 0, none⟩ n) (some g) := by
  unfold World.freeze
  split
  · exact grownBy.weaken (drew_grown w)
  · refine ⟨rfl, rfl, rfl, by simp, fun k hk hne => ?_⟩
    show (w.drew.heap.modify g _)[k]? = _
    rw [Array.getElem?_modify, if_neg (fun e => hne (by rw [e]))]
    rfl
theorem call206 (m : Mem) (bpos bgen rpos rgen : Nat) (a : AV) (s : ByteArray) (hb : m.obj bpos bgen = some (.row 183 2 [[a, .row rpos rgen 1 0 s.size]])) (hr : m.obj rpos rgen = some (.row 5 1 (bytesOf s))) :
    ACalls Bk.pg 206 [.rptr bpos bgen 2 0 0] m fun out m' => out = .ret (.str s) ∧ m' = m.put rpos rgen .hole := by
  refine ⟨⟨Tryz.f206, Tryz.func206, rfl, by kernel_rfl⟩, fun β K σ w vals hrel hv hβ => ?_⟩
  obtain ⟨u, us, rfl, hV, hnil⟩ := hv
  rw [VRs] at hnil
  subst hnil
  rw [VR] at hV
  obtain ⟨b, c, hg, rfl⟩ := hV
  obtain ⟨cur, hheap, hcs, hcap, hmax, hpos2, hlr⟩ := hrel.obj_row hb hg
  obtain ⟨_, ⟨u1, hc1, ho1, hV1⟩⟩ := elem_cells hlr
  have hposr := Mem.obj_some hr
  have hblt : b < w.heap.size := (Array.getElem?_eq_some_iff.1 hheap).1
  show Calls Tryz.prog 206 #[.pointer (some ⟨b, 0, none⟩)] w _
  have fin : ∀ (w' : World) (sr : Option Nat × Nat), σ[rgen]? = some sr → w.grownBy w' sr.1 → ∀ e, e = Ending.returned (.string s) →
      ∃ K' σ' m' out, (out = AOut.ret (.str s) ∧ m' = m.put rpos rgen .hole) ∧ Rel β K' σ' m' w' ∧ σ <+: σ' ∧ (∀ p b, K p b → K' p b) ∧ (∀ p b, K p b → w'.heap[b]? = w.heap[b]?) ∧ OutR σ' K' w' out e := by
    rintro w' ⟨sb, sc⟩ hsr hgr e rfl
    have hKs : ∀ p b, K p b → w'.heap[b]? = w.heap[b]? := by
      intro p b' hk
      refine hgr.block b' (hrel.kept p b' hk).2 (fun e => ?_)
      simp only at e
      subst e
      exact (hrel.own b' ⟨rpos, rgen, _, sc, hposr, hsr⟩).2.2 p hk
    exact ⟨K, σ, _, .ret (.str s), ⟨rfl, rfl⟩, hrel.put hposr hsr hgr trivial, List.prefix_refl _, fun _ _ h => h, hKs, .string s, rfl, by rw [VR]⟩
  have hemp : s.size = 0 → s = ⟨#[]⟩ := fun h => by
    cases s with
    | mk d => have : d.size = 0 := h; rw [Array.size_eq_zero_iff] at this; rw [this]
  rw [VR] at hV1
  rcases hV1 with ⟨g, cp, hgr, hoc, rfl⟩ | ⟨hgr, hn0, _, rfl⟩ | ⟨hn0, h0, _⟩
  · obtain ⟨cur2, hheap2, hcs2, hcap2, hmax2, _, hlr2⟩ := hrel.obj_row hr hgr
    simp only [Nat.zero_mul, Nat.sub_zero] at hc1
    by_cases hz : s.size = 0
    · have hs := hemp hz
      rw [hz] at hc1
      by_cases hcp : cp = 0
      · subst hcp
        refine (string_noroom b g cur2 w hblt hc1 hheap2).mono ?_
        rintro e w' ⟨rfl, rfl⟩
        refine fin _ _ hgr (grownBy.weaken (w' := w.drew.alloc (.view ⟨g, 0, none⟩ 5)) ⟨rfl, rfl, rfl, by simp, fun k hk _ => @Go.heap_alloc_old w.drew _ k hk⟩) _ (by rw [hs])
      · refine (string_room b g cp w hcp hc1).mono ?_
        rintro e w' ⟨rfl, rfl⟩
        exact fin _ _ hgr (grownBy.weaken (drew_grown w)) _ (by rw [hs])
    · have hl : s.data.toList ≠ [] := by
        intro e
        have : s.data.toList.length = 0 := by rw [e]; rfl
        exact hz this
      have hlen : s.data.toList.length = s.size := rfl
      rw [← hlen] at hc1
      have hcell : ∀ j x, s.data.toList[j]? = some x → w.cell? ((⟨g, 0, none⟩ : Addr).add j) = some (.int .u8 x.toNat) := by
        intro j x hj
        obtain ⟨_, hc⟩ := LR_iff.1 hlr2 j [.int .u8 x.toNat] (by unfold bytesOf; rw [List.getElem?_map, hj]; rfl)
        obtain ⟨u, hu, _, hVu⟩ := CR_iff.1 hc 0 _ rfl
        rw [VR] at hVu
        rw [Addr.add_lit]
        rw [show 0 + j * 1 + 0 = 0 + j by omega] at hu
        rw [hu, hVu]
      refine (string_row b g cp cur2 s.data.toList w hl hc1 hheap2 (by rw [hlen]; omega) hmax2 hcs2 hcell).mono ?_
      rintro e w' ⟨rfl, rfl⟩
      exact fin _ _ hgr (freeze_grown w g _) _ (by simp)
  · have hs := hemp hn0
    have hs2 := hs
    refine (string_nil b w hc1).mono ?_
    rintro e w' ⟨rfl, rfl⟩
    exact fin _ _ hgr (drew_grown w) _ (by rw [hs])
  · omega
end Go.Pm
