/- BkS10: code, resolved. Printed by ShowSC.lean and genok.py. -/
import Derived.Test.YtmcogjekcefjoaaGreatDoorGa
import Derived.Test.YtmcogjekcefjoaaGreatDoorPmT
import Derived.Shelf.Strconv.Itoa3
import Derived.Test.YtmcogjekcefjoaaGreatDoorProg
set_option linter.unusedSimpArgs false
set_option linter.unusedVariables false
namespace Go.Pm
open Go Go.Proofs
def c4 : SC :=
 let s27 : DT := (.step ⟨none, .plain (.store 4), [.tmp 14, .tmp 67], none⟩ (.step ⟨none, .plain (.store 5), [.tmp 15, .tmp 68], none⟩ (.step ⟨some 16, .plain .mv, [.tmp 69], none⟩ .done)))
 let s26 : DT := (.step ⟨none, .plain (.store 4), [.tmp 11, .tmp 55], none⟩ (.step ⟨none, .plain (.store 5), [.tmp 12, .tmp 56], none⟩ (.step ⟨some 13, .plain .mv, [.tmp 57], none⟩ .done)))
 let s25 : DT := (.step ⟨some 14, .plain (.alloc [(.int .i64 0), (.int .i64 0), (.int .i64 0), (.str ⟨#[]⟩)]), [], none⟩ s27)
 let s24 : DT := (.step ⟨some 11, .plain (.alloc [(.int .i64 0), (.int .i64 0), (.int .i64 0), (.str ⟨#[]⟩)]), [], none⟩ s26)
 let s23 : DT := (.step ⟨some 15, .plain (.alloc [(.int .i64 0), (.str ⟨#[]⟩), (.int .i64 0), (.str ⟨#[]⟩), (.int .i64 0)]), [], none⟩ s27)
 let s22 : DT := (.step ⟨some 12, .plain (.alloc [(.int .i64 0), (.str ⟨#[]⟩), (.int .i64 0), (.str ⟨#[]⟩), (.int .i64 0)]), [], none⟩ s26)
 let s21 : DT := (.step ⟨some 66, .call 9, [.lit (.str ⟨#[83, 85, 66, 83, 84, 82]⟩), .tmp 61, .tmp 64, .tmp 65], none⟩ (.step ⟨some 58, .plain .mv, [.tmp 66], none⟩ (.step ⟨some 67, .plain (.extract 0), [.tmp 58], none⟩ (.step ⟨some 68, .plain (.extract 1), [.tmp 58], none⟩ (.step ⟨some 69, .plain (.extract 2), [.tmp 58], none⟩ s27)))))
 let s20 : DT := (.step ⟨some 54, .call 9, [.lit (.str ⟨#[83, 85, 66, 83, 84, 82]⟩), .tmp 48, .tmp 52, .tmp 53], none⟩ (.step ⟨some 44, .plain .mv, [.tmp 54], none⟩ (.step ⟨some 55, .plain (.extract 0), [.tmp 44], none⟩ (.step ⟨some 56, .plain (.extract 1), [.tmp 44], none⟩ (.step ⟨some 57, .plain (.extract 2), [.tmp 44], none⟩ s26)))))
 let s19 : DT := (.step ⟨some 66, .call 9, [.lit (.str ⟨#[83, 85, 66, 83, 84, 82]⟩), .tmp 61, .tmp 64, .tmp 65], none⟩ (.step ⟨some 58, .plain .mv, [.tmp 66], none⟩ (.step ⟨some 67, .plain (.extract 0), [.tmp 58], none⟩ (.step ⟨some 68, .plain (.extract 1), [.tmp 58], none⟩ (.step ⟨some 69, .plain (.extract 2), [.tmp 58], none⟩ s25)))))
 let s18 : DT := (.step ⟨some 54, .call 9, [.lit (.str ⟨#[83, 85, 66, 83, 84, 82]⟩), .tmp 48, .tmp 52, .tmp 53], none⟩ (.step ⟨some 44, .plain .mv, [.tmp 54], none⟩ (.step ⟨some 55, .plain (.extract 0), [.tmp 44], none⟩ (.step ⟨some 56, .plain (.extract 1), [.tmp 44], none⟩ (.step ⟨some 57, .plain (.extract 2), [.tmp 44], none⟩ s24)))))
 let s17 : DT := (.step ⟨some 66, .call 9, [.lit (.str ⟨#[83, 85, 66, 83, 84, 82]⟩), .tmp 61, .tmp 64, .tmp 65], none⟩ (.step ⟨some 58, .plain .mv, [.tmp 66], none⟩ (.step ⟨some 67, .plain (.extract 0), [.tmp 58], none⟩ (.step ⟨some 68, .plain (.extract 1), [.tmp 58], none⟩ (.step ⟨some 69, .plain (.extract 2), [.tmp 58], none⟩ s23)))))
 let s16 : DT := (.step ⟨some 54, .call 9, [.lit (.str ⟨#[83, 85, 66, 83, 84, 82]⟩), .tmp 48, .tmp 52, .tmp 53], none⟩ (.step ⟨some 44, .plain .mv, [.tmp 54], none⟩ (.step ⟨some 55, .plain (.extract 0), [.tmp 44], none⟩ (.step ⟨some 56, .plain (.extract 1), [.tmp 44], none⟩ (.step ⟨some 57, .plain (.extract 2), [.tmp 44], none⟩ s22)))))
 let s15 : DT := (.step ⟨some 61, .plain (.buildRow 24 4 2 [(.int .i64 0), (.int .i64 0), (.int .i64 0), (.str ⟨#[]⟩)] [0, 1]), [.tmp 59, .tmp 60], none⟩ s21)
 let s14 : DT := (.step ⟨some 48, .plain (.buildRow 24 4 3 [(.int .i64 0), (.int .i64 0), (.int .i64 0), (.str ⟨#[]⟩)] [0, 1, 2]), [.tmp 45, .tmp 46, .tmp 47], none⟩ s20)
 let s13 : DT := (.step ⟨some 64, .plain (.buildRow 32 6 2 [(.int .i64 0), (.int .i64 0), (.int .i64 0), (.int .i64 0), (.bool false), (.str ⟨#[]⟩)] [0, 1]), [.tmp 62, .tmp 63], none⟩ s21)
 let s12 : DT := (.step ⟨some 52, .plain (.buildRow 32 6 3 [(.int .i64 0), (.int .i64 0), (.int .i64 0), (.int .i64 0), (.bool false), (.str ⟨#[]⟩)] [0, 1, 2]), [.tmp 49, .tmp 50, .tmp 51], none⟩ s20)
 let s11 : DT := (.step ⟨some 66, .call 9, [.lit (.str ⟨#[83, 85, 66, 83, 84, 82]⟩), .tmp 61, .tmp 64, .tmp 65], none⟩ (.step ⟨some 58, .plain .mv, [.tmp 66], none⟩ (.step ⟨some 67, .plain (.extract 0), [.tmp 58], none⟩ (.step ⟨some 68, .plain (.extract 1), [.tmp 58], none⟩ (.step ⟨some 69, .plain (.extract 2), [.tmp 58], none⟩ (.or (.step ⟨some 14, .plain (.alloc [(.int .i64 0), (.int .i64 0), (.int .i64 0), (.str ⟨#[]⟩)]), [], none⟩ s23) (.step ⟨some 15, .plain (.alloc [(.int .i64 0), (.str ⟨#[]⟩), (.int .i64 0), (.str ⟨#[]⟩), (.int .i64 0)]), [], none⟩ s25)))))))
 let s10 : DT := (.step ⟨some 54, .call 9, [.lit (.str ⟨#[83, 85, 66, 83, 84, 82]⟩), .tmp 48, .tmp 52, .tmp 53], none⟩ (.step ⟨some 44, .plain .mv, [.tmp 54], none⟩ (.step ⟨some 55, .plain (.extract 0), [.tmp 44], none⟩ (.step ⟨some 56, .plain (.extract 1), [.tmp 44], none⟩ (.step ⟨some 57, .plain (.extract 2), [.tmp 44], none⟩ (.or (.step ⟨some 11, .plain (.alloc [(.int .i64 0), (.int .i64 0), (.int .i64 0), (.str ⟨#[]⟩)]), [], none⟩ s22) (.step ⟨some 12, .plain (.alloc [(.int .i64 0), (.str ⟨#[]⟩), (.int .i64 0), (.str ⟨#[]⟩), (.int .i64 0)]), [], none⟩ s24)))))))
 let s9 : DT := (.or (.step ⟨some 61, .plain (.buildRow 24 4 2 [(.int .i64 0), (.int .i64 0), (.int .i64 0), (.str ⟨#[]⟩)] [0, 1]), [.tmp 59, .tmp 60], none⟩ s19) (.step ⟨some 14, .plain (.alloc [(.int .i64 0), (.int .i64 0), (.int .i64 0), (.str ⟨#[]⟩)]), [], none⟩ s15))
 let s8 : DT := (.or (.step ⟨some 48, .plain (.buildRow 24 4 3 [(.int .i64 0), (.int .i64 0), (.int .i64 0), (.str ⟨#[]⟩)] [0, 1, 2]), [.tmp 45, .tmp 46, .tmp 47], none⟩ s18) (.step ⟨some 11, .plain (.alloc [(.int .i64 0), (.int .i64 0), (.int .i64 0), (.str ⟨#[]⟩)]), [], none⟩ s14))
 let s7 : DT := (.or (.step ⟨some 61, .plain (.buildRow 24 4 2 [(.int .i64 0), (.int .i64 0), (.int .i64 0), (.str ⟨#[]⟩)] [0, 1]), [.tmp 59, .tmp 60], none⟩ s17) (.step ⟨some 15, .plain (.alloc [(.int .i64 0), (.str ⟨#[]⟩), (.int .i64 0), (.str ⟨#[]⟩), (.int .i64 0)]), [], none⟩ s15))
 let s6 : DT := (.or (.step ⟨some 48, .plain (.buildRow 24 4 3 [(.int .i64 0), (.int .i64 0), (.int .i64 0), (.str ⟨#[]⟩)] [0, 1, 2]), [.tmp 45, .tmp 46, .tmp 47], none⟩ s16) (.step ⟨some 12, .plain (.alloc [(.int .i64 0), (.str ⟨#[]⟩), (.int .i64 0), (.str ⟨#[]⟩), (.int .i64 0)]), [], none⟩ s14))
 let s5 : DT := (.or (.step ⟨some 64, .plain (.buildRow 32 6 2 [(.int .i64 0), (.int .i64 0), (.int .i64 0), (.int .i64 0), (.bool false), (.str ⟨#[]⟩)] [0, 1]), [.tmp 62, .tmp 63], none⟩ s19) (.step ⟨some 14, .plain (.alloc [(.int .i64 0), (.int .i64 0), (.int .i64 0), (.str ⟨#[]⟩)]), [], none⟩ s13))
 let s4 : DT := (.or (.step ⟨some 52, .plain (.buildRow 32 6 3 [(.int .i64 0), (.int .i64 0), (.int .i64 0), (.int .i64 0), (.bool false), (.str ⟨#[]⟩)] [0, 1, 2]), [.tmp 49, .tmp 50, .tmp 51], none⟩ s18) (.step ⟨some 11, .plain (.alloc [(.int .i64 0), (.int .i64 0), (.int .i64 0), (.str ⟨#[]⟩)]), [], none⟩ s12))
 let s3 : DT := (.or (.step ⟨some 64, .plain (.buildRow 32 6 2 [(.int .i64 0), (.int .i64 0), (.int .i64 0), (.int .i64 0), (.bool false), (.str ⟨#[]⟩)] [0, 1]), [.tmp 62, .tmp 63], none⟩ s17) (.step ⟨some 15, .plain (.alloc [(.int .i64 0), (.str ⟨#[]⟩), (.int .i64 0), (.str ⟨#[]⟩), (.int .i64 0)]), [], none⟩ s13))
 let s2 : DT := (.or (.step ⟨some 52, .plain (.buildRow 32 6 3 [(.int .i64 0), (.int .i64 0), (.int .i64 0), (.int .i64 0), (.bool false), (.str ⟨#[]⟩)] [0, 1, 2]), [.tmp 49, .tmp 50, .tmp 51], none⟩ s16) (.step ⟨some 12, .plain (.alloc [(.int .i64 0), (.str ⟨#[]⟩), (.int .i64 0), (.str ⟨#[]⟩), (.int .i64 0)]), [], none⟩ s12))
 let s1 : DT := (.or (.step ⟨some 61, .plain (.buildRow 24 4 2 [(.int .i64 0), (.int .i64 0), (.int .i64 0), (.str ⟨#[]⟩)] [0, 1]), [.tmp 59, .tmp 60], none⟩ s13) (.step ⟨some 64, .plain (.buildRow 32 6 2 [(.int .i64 0), (.int .i64 0), (.int .i64 0), (.int .i64 0), (.bool false), (.str ⟨#[]⟩)] [0, 1]), [.tmp 62, .tmp 63], none⟩ s15))
 let s0 : DT := (.or (.step ⟨some 48, .plain (.buildRow 24 4 3 [(.int .i64 0), (.int .i64 0), (.int .i64 0), (.str ⟨#[]⟩)] [0, 1, 2]), [.tmp 45, .tmp 46, .tmp 47], none⟩ s12) (.step ⟨some 52, .plain (.buildRow 32 6 3 [(.int .i64 0), (.int .i64 0), (.int .i64 0), (.int .i64 0), (.bool false), (.str ⟨#[]⟩)] [0, 1, 2]), [.tmp 49, .tmp 50, .tmp 51], none⟩ s14))
 (.seq (.ops [⟨some 4, .plain .mv, [.lit (.bool false)], none⟩] []) (.seq (.ops [⟨some 17, .plain .mv, [.tmp 0], none⟩, ⟨some 18, .plain (.build [(.int .i64 0), (.int .i64 0), (.int .i64 0), (.str ⟨#[]⟩)] [(0, 1), (3, 1)]), [.lit (.int .i64 4), .tmp 17], none⟩, ⟨some 5, .plain (.alloc [(.int .i64 0), (.int .i64 0), (.int .i64 0), (.str ⟨#[]⟩)]), [], none⟩, ⟨none, .plain (.store 4), [.tmp 5, .tmp 18], none⟩] [17, 18]) (.seq (.seq (.ops [⟨some 19, .plain (.load true 4), [.tmp 5], none⟩, ⟨some 20, .call 11, [.tmp 19], none⟩, ⟨some 21, .plain (.un .not), [.tmp 20], none⟩, ⟨some 22, .plain .mv, [.tmp 21], none⟩, ⟨some 23, .plain .mv, [.tmp 1], (some (22, false))⟩, ⟨some 24, .plain (.bin .lss), [.tmp 23, .lit (.int .i64 0)], (some (22, false))⟩, ⟨some 25, .plain .pick, [.tmp 22, .lit (.bool true), .tmp 24], none⟩, ⟨some 26, .plain .mv, [.tmp 25], none⟩, ⟨some 27, .plain .mv, [.tmp 1], (some (26, false))⟩, ⟨some 28, .plain .mv, [.tmp 0], (some (26, false))⟩, ⟨some 29, .plain (.len 0), [.tmp 28], (some (26, false))⟩, ⟨some 30, .plain (.bin .gtr), [.tmp 27, .tmp 29], (some (26, false))⟩, ⟨some 31, .plain .pick, [.tmp 26, .lit (.bool true), .tmp 30], none⟩] [19, 20, 21, 22, 23, 24, 25, 26, 27, 28, 29, 30]) (.cond (.tmp 31) (.seq (.ops [⟨some 32, .call 8, [], none⟩, ⟨some 4, .plain .mv, [.tmp 32], none⟩] [32]) .ret) .skip)) (.seq (.ops [⟨some 33, .plain .mv, [.tmp 0], none⟩, ⟨some 34, .plain (.len 0), [.tmp 33], none⟩, ⟨some 35, .plain (.build [(.int .i64 0), (.int .i64 0), (.int .i64 0), (.int .i64 0), (.bool false), (.str ⟨#[]⟩)] [(0, 1), (3, 1)]), [.lit (.int .i64 4), .tmp 34], none⟩, ⟨some 6, .plain (.alloc [(.int .i64 0), (.int .i64 0), (.int .i64 0), (.int .i64 0), (.bool false), (.str ⟨#[]⟩)]), [], none⟩, ⟨none, .plain (.store 6), [.tmp 6, .tmp 35], none⟩] [33, 34, 35]) (.seq (.ops [⟨some 36, .plain (.load true 6), [.tmp 6], none⟩, ⟨some 7, .plain (.alloc [(.int .i64 0), (.int .i64 0), (.int .i64 0), (.int .i64 0), (.bool false), (.str ⟨#[]⟩)]), [], none⟩, ⟨none, .plain (.store 6), [.tmp 7, .tmp 36], none⟩] [36]) (.seq (.ops [⟨some 37, .plain (.fieldAddr 4), [.tmp 7], none⟩, ⟨none, .plain (.store 1), [.tmp 37, .lit (.bool true)], none⟩] [37]) (.seq (.ops [⟨some 38, .plain (.build [(.int .i64 0), (.int .i64 0), (.int .i64 0), (.str ⟨#[]⟩)] [(0, 1), (1, 1)]), [.lit (.int .i64 1), .lit (.int .i64 1)], none⟩, ⟨some 39, .plain .mv, [.tmp 1], none⟩, ⟨some 40, .plain (.build [(.int .i64 0), (.int .i64 0), (.int .i64 0), (.str ⟨#[]⟩)] [(0, 1), (1, 1)]), [.lit (.int .i64 1), .tmp 39], none⟩, ⟨some 41, .plain .mv, [.tmp 1], none⟩, ⟨some 42, .plain (.bin .add), [.tmp 41, .lit (.int .i64 1)], none⟩, ⟨some 43, .plain (.build [(.int .i64 0), (.int .i64 0), (.int .i64 0), (.str ⟨#[]⟩)] [(0, 1), (1, 1)]), [.lit (.int .i64 1), .tmp 42], none⟩, ⟨some 8, .plain (.alloc [(.int .i64 0), (.int .i64 0), (.int .i64 0), (.str ⟨#[]⟩)]), [], none⟩, ⟨some 9, .plain (.alloc [(.int .i64 0), (.int .i64 0), (.int .i64 0), (.str ⟨#[]⟩)]), [], none⟩, ⟨some 10, .plain (.alloc [(.int .i64 0), (.int .i64 0), (.int .i64 0), (.str ⟨#[]⟩)]), [], none⟩, ⟨none, .plain (.store 4), [.tmp 8, .tmp 38], none⟩, ⟨none, .plain (.store 4), [.tmp 9, .tmp 40], none⟩, ⟨none, .plain (.store 4), [.tmp 10, .tmp 43], none⟩] [38, 39, 40, 41, 42, 43]) (.seq (.draw (.step ⟨some 45, .plain (.load true 4), [.tmp 5], none⟩ (.step ⟨some 46, .plain (.load true 4), [.tmp 8], none⟩ (.step ⟨some 47, .plain (.load true 4), [.tmp 9], none⟩ (.step ⟨some 49, .plain (.load true 6), [.tmp 6], none⟩ (.step ⟨some 50, .call 10, [], none⟩ (.step ⟨some 51, .call 10, [], none⟩ (.step ⟨some 53, .plain (.load true 6), [.tmp 7], none⟩ (.or (.step ⟨some 48, .plain (.buildRow 24 4 3 [(.int .i64 0), (.int .i64 0), (.int .i64 0), (.str ⟨#[]⟩)] [0, 1, 2]), [.tmp 45, .tmp 46, .tmp 47], none⟩ (.or (.step ⟨some 52, .plain (.buildRow 32 6 3 [(.int .i64 0), (.int .i64 0), (.int .i64 0), (.int .i64 0), (.bool false), (.str ⟨#[]⟩)] [0, 1, 2]), [.tmp 49, .tmp 50, .tmp 51], none⟩ s10) (.or (.step ⟨some 11, .plain (.alloc [(.int .i64 0), (.int .i64 0), (.int .i64 0), (.str ⟨#[]⟩)]), [], none⟩ s2) (.step ⟨some 12, .plain (.alloc [(.int .i64 0), (.str ⟨#[]⟩), (.int .i64 0), (.str ⟨#[]⟩), (.int .i64 0)]), [], none⟩ s4)))) (.or (.step ⟨some 52, .plain (.buildRow 32 6 3 [(.int .i64 0), (.int .i64 0), (.int .i64 0), (.int .i64 0), (.bool false), (.str ⟨#[]⟩)] [0, 1, 2]), [.tmp 49, .tmp 50, .tmp 51], none⟩ (.or (.step ⟨some 48, .plain (.buildRow 24 4 3 [(.int .i64 0), (.int .i64 0), (.int .i64 0), (.str ⟨#[]⟩)] [0, 1, 2]), [.tmp 45, .tmp 46, .tmp 47], none⟩ s10) (.or (.step ⟨some 11, .plain (.alloc [(.int .i64 0), (.int .i64 0), (.int .i64 0), (.str ⟨#[]⟩)]), [], none⟩ s6) (.step ⟨some 12, .plain (.alloc [(.int .i64 0), (.str ⟨#[]⟩), (.int .i64 0), (.str ⟨#[]⟩), (.int .i64 0)]), [], none⟩ s8)))) (.or (.step ⟨some 11, .plain (.alloc [(.int .i64 0), (.int .i64 0), (.int .i64 0), (.str ⟨#[]⟩)]), [], none⟩ (.or (.step ⟨some 48, .plain (.buildRow 24 4 3 [(.int .i64 0), (.int .i64 0), (.int .i64 0), (.str ⟨#[]⟩)] [0, 1, 2]), [.tmp 45, .tmp 46, .tmp 47], none⟩ s2) (.or (.step ⟨some 52, .plain (.buildRow 32 6 3 [(.int .i64 0), (.int .i64 0), (.int .i64 0), (.int .i64 0), (.bool false), (.str ⟨#[]⟩)] [0, 1, 2]), [.tmp 49, .tmp 50, .tmp 51], none⟩ s6) (.step ⟨some 12, .plain (.alloc [(.int .i64 0), (.str ⟨#[]⟩), (.int .i64 0), (.str ⟨#[]⟩), (.int .i64 0)]), [], none⟩ s0)))) (.step ⟨some 12, .plain (.alloc [(.int .i64 0), (.str ⟨#[]⟩), (.int .i64 0), (.str ⟨#[]⟩), (.int .i64 0)]), [], none⟩ (.or (.step ⟨some 48, .plain (.buildRow 24 4 3 [(.int .i64 0), (.int .i64 0), (.int .i64 0), (.str ⟨#[]⟩)] [0, 1, 2]), [.tmp 45, .tmp 46, .tmp 47], none⟩ s4) (.or (.step ⟨some 52, .plain (.buildRow 32 6 3 [(.int .i64 0), (.int .i64 0), (.int .i64 0), (.int .i64 0), (.bool false), (.str ⟨#[]⟩)] [0, 1, 2]), [.tmp 49, .tmp 50, .tmp 51], none⟩ s8) (.step ⟨some 11, .plain (.alloc [(.int .i64 0), (.int .i64 0), (.int .i64 0), (.str ⟨#[]⟩)]), [], none⟩ s0)))))))))))))) [45, 46, 47, 49, 50, 51, 53, 48, 52, 54, 44, 55, 56, 57]) (.seq (.draw (.step ⟨some 59, .plain (.load true 4), [.tmp 5], none⟩ (.step ⟨some 60, .plain (.load true 4), [.tmp 10], none⟩ (.step ⟨some 62, .plain (.load true 6), [.tmp 6], none⟩ (.step ⟨some 63, .call 10, [], none⟩ (.step ⟨some 65, .plain (.load true 6), [.tmp 7], none⟩ (.or (.step ⟨some 61, .plain (.buildRow 24 4 2 [(.int .i64 0), (.int .i64 0), (.int .i64 0), (.str ⟨#[]⟩)] [0, 1]), [.tmp 59, .tmp 60], none⟩ (.or (.step ⟨some 64, .plain (.buildRow 32 6 2 [(.int .i64 0), (.int .i64 0), (.int .i64 0), (.int .i64 0), (.bool false), (.str ⟨#[]⟩)] [0, 1]), [.tmp 62, .tmp 63], none⟩ s11) (.or (.step ⟨some 14, .plain (.alloc [(.int .i64 0), (.int .i64 0), (.int .i64 0), (.str ⟨#[]⟩)]), [], none⟩ s3) (.step ⟨some 15, .plain (.alloc [(.int .i64 0), (.str ⟨#[]⟩), (.int .i64 0), (.str ⟨#[]⟩), (.int .i64 0)]), [], none⟩ s5)))) (.or (.step ⟨some 64, .plain (.buildRow 32 6 2 [(.int .i64 0), (.int .i64 0), (.int .i64 0), (.int .i64 0), (.bool false), (.str ⟨#[]⟩)] [0, 1]), [.tmp 62, .tmp 63], none⟩ (.or (.step ⟨some 61, .plain (.buildRow 24 4 2 [(.int .i64 0), (.int .i64 0), (.int .i64 0), (.str ⟨#[]⟩)] [0, 1]), [.tmp 59, .tmp 60], none⟩ s11) (.or (.step ⟨some 14, .plain (.alloc [(.int .i64 0), (.int .i64 0), (.int .i64 0), (.str ⟨#[]⟩)]), [], none⟩ s7) (.step ⟨some 15, .plain (.alloc [(.int .i64 0), (.str ⟨#[]⟩), (.int .i64 0), (.str ⟨#[]⟩), (.int .i64 0)]), [], none⟩ s9)))) (.or (.step ⟨some 14, .plain (.alloc [(.int .i64 0), (.int .i64 0), (.int .i64 0), (.str ⟨#[]⟩)]), [], none⟩ (.or (.step ⟨some 61, .plain (.buildRow 24 4 2 [(.int .i64 0), (.int .i64 0), (.int .i64 0), (.str ⟨#[]⟩)] [0, 1]), [.tmp 59, .tmp 60], none⟩ s3) (.or (.step ⟨some 64, .plain (.buildRow 32 6 2 [(.int .i64 0), (.int .i64 0), (.int .i64 0), (.int .i64 0), (.bool false), (.str ⟨#[]⟩)] [0, 1]), [.tmp 62, .tmp 63], none⟩ s7) (.step ⟨some 15, .plain (.alloc [(.int .i64 0), (.str ⟨#[]⟩), (.int .i64 0), (.str ⟨#[]⟩), (.int .i64 0)]), [], none⟩ s1)))) (.step ⟨some 15, .plain (.alloc [(.int .i64 0), (.str ⟨#[]⟩), (.int .i64 0), (.str ⟨#[]⟩), (.int .i64 0)]), [], none⟩ (.or (.step ⟨some 61, .plain (.buildRow 24 4 2 [(.int .i64 0), (.int .i64 0), (.int .i64 0), (.str ⟨#[]⟩)] [0, 1]), [.tmp 59, .tmp 60], none⟩ s5) (.or (.step ⟨some 64, .plain (.buildRow 32 6 2 [(.int .i64 0), (.int .i64 0), (.int .i64 0), (.int .i64 0), (.bool false), (.str ⟨#[]⟩)] [0, 1]), [.tmp 62, .tmp 63], none⟩ s9) (.step ⟨some 14, .plain (.alloc [(.int .i64 0), (.int .i64 0), (.int .i64 0), (.str ⟨#[]⟩)]), [], none⟩ s1)))))))))))) [59, 60, 62, 63, 65, 61, 64, 66, 58, 67, 68, 69]) (.seq (.ops [⟨some 70, .plain .mv, [.tmp 13], none⟩, ⟨some 71, .plain (.bin .eql), [.tmp 70, .lit (.int .i64 0)], none⟩, ⟨some 72, .plain .mv, [.tmp 71], none⟩, ⟨some 73, .plain .mv, [.tmp 16], (some (72, true))⟩, ⟨some 74, .plain (.bin .eql), [.tmp 73, .lit (.int .i64 0)], (some (72, true))⟩, ⟨some 75, .plain .pick, [.tmp 72, .tmp 74, .lit (.bool false)], none⟩, ⟨some 76, .plain .mv, [.tmp 75], none⟩, ⟨some 77, .plain (.fieldAddr 0), [.tmp 12], (some (76, true))⟩, ⟨some 78, .plain (.load false 1), [.tmp 77], (some (76, true))⟩, ⟨some 79, .plain (.bin .eql), [.tmp 78, .lit (.int .i64 0)], (some (76, true))⟩, ⟨some 80, .plain .pick, [.tmp 76, .tmp 79, .lit (.bool false)], none⟩, ⟨some 81, .plain .mv, [.tmp 80], none⟩, ⟨some 82, .plain (.fieldAddr 0), [.tmp 15], (some (81, true))⟩, ⟨some 83, .plain (.load false 1), [.tmp 82], (some (81, true))⟩, ⟨some 84, .plain (.bin .eql), [.tmp 83, .lit (.int .i64 0)], (some (81, true))⟩, ⟨some 85, .plain .pick, [.tmp 81, .tmp 84, .lit (.bool false)], none⟩, ⟨some 86, .plain .mv, [.tmp 85], none⟩, ⟨some 87, .plain (.fieldAddr 3), [.tmp 11], (some (86, true))⟩, ⟨some 88, .plain (.load false 1), [.tmp 87], (some (86, true))⟩, ⟨some 89, .plain (.fieldAddr 3), [.tmp 14], (some (86, true))⟩, ⟨some 90, .plain (.load false 1), [.tmp 89], (some (86, true))⟩, ⟨some 91, .plain (.bin .add), [.tmp 88, .tmp 90], (some (86, true))⟩, ⟨some 92, .plain .mv, [.tmp 0], (some (86, true))⟩, ⟨some 93, .plain (.bin .eql), [.tmp 91, .tmp 92], (some (86, true))⟩, ⟨some 94, .plain .pick, [.tmp 86, .tmp 93, .lit (.bool false)], none⟩, ⟨some 95, .plain .mv, [.tmp 94], none⟩, ⟨some 96, .call 8, [], (some (95, true))⟩, ⟨some 97, .plain .pick, [.tmp 95, .tmp 96, .lit (.bool false)], none⟩, ⟨some 4, .plain .mv, [.tmp 97], none⟩] [70, 71, 72, 73, 74, 75, 76, 77, 78, 79, 80, 81, 82, 83, 84, 85, 86, 87, 88, 89, 90, 91, 92, 93, 94, 95, 96, 97]) .ret))))))))))
def cr4 : List Res := [(4, none)]
theorem ok4 : FOk Bk.pg.toProgram Bk.imp 4 c4 cr4 Tryz.f4.ntmps := ⟨Tryz.f4, _, Tryz.func4, rfl, by kernel_rfl, by kernel_rfl, by kernel_rfl, rfl⟩
def c11 : SC :=
 (.seq (.ops [⟨some 1, .plain (.box 4), [.tmp 0], none⟩, ⟨some 2, .plain .mv, [.lit (.bool false)], none⟩] []) (.seq (.seq (.ops [⟨some 4, .plain (.fieldAddr 1), [.tmp 1], none⟩, ⟨some 5, .plain (.load false 1), [.tmp 4], none⟩, ⟨some 6, .plain (.bin .neq), [.tmp 5, .lit (.int .i64 0)], none⟩, ⟨some 7, .plain .mv, [.tmp 6], none⟩, ⟨some 8, .plain (.fieldAddr 2), [.tmp 1], (some (7, false))⟩, ⟨some 9, .plain (.load false 1), [.tmp 8], (some (7, false))⟩, ⟨some 10, .plain (.bin .neq), [.tmp 9, .lit (.int .i64 0)], (some (7, false))⟩, ⟨some 11, .plain .pick, [.tmp 7, .lit (.bool true), .tmp 10], none⟩, ⟨some 12, .plain .mv, [.tmp 11], none⟩, ⟨some 13, .plain (.fieldAddr 3), [.tmp 1], (some (12, false))⟩, ⟨some 14, .plain (.load false 1), [.tmp 13], (some (12, false))⟩, ⟨some 15, .plain (.len 0), [.tmp 14], (some (12, false))⟩, ⟨some 16, .plain (.bin .gtr), [.tmp 15, .lit (.int .i64 250)], (some (12, false))⟩, ⟨some 17, .plain .pick, [.tmp 12, .lit (.bool true), .tmp 16], none⟩, ⟨some 18, .plain .mv, [.tmp 17], none⟩, ⟨some 19, .plain (.fieldAddr 0), [.tmp 1], (some (18, false))⟩, ⟨some 20, .plain (.load false 1), [.tmp 19], (some (18, false))⟩, ⟨some 21, .plain (.bin .neq), [.tmp 20, .lit (.int .i64 4)], (some (18, false))⟩, ⟨some 22, .plain .mv, [.tmp 21], (some (18, false))⟩, ⟨some 23, .plain (.fieldAddr 0), [.tmp 1], (some (22, true))⟩, ⟨some 24, .plain (.load false 1), [.tmp 23], (some (22, true))⟩, ⟨some 25, .plain (.bin .neq), [.tmp 24, .lit (.int .i64 5)], (some (22, true))⟩, ⟨some 26, .plain .pick, [.tmp 22, .tmp 25, .lit (.bool false)], (some (18, false))⟩, ⟨some 27, .plain .pick, [.tmp 18, .lit (.bool true), .tmp 26], none⟩] [4, 5, 6, 7, 8, 9, 10, 11, 12, 13, 14, 15, 16, 17, 18, 19, 20, 21, 22, 23, 24, 25, 26]) (.cond (.tmp 27) (.seq (.ops [⟨some 2, .plain .mv, [.lit (.bool false)], none⟩] []) .ret) .skip)) (.seq (.seq (.ops [⟨some 3, .plain .mv, [.lit (.int .i64 0)], none⟩] []) (.block 0 (.loop (.seq (.seq (.ops [⟨some 28, .plain .mv, [.tmp 3], none⟩, ⟨some 29, .plain (.fieldAddr 3), [.tmp 1], none⟩, ⟨some 30, .plain (.load false 1), [.tmp 29], none⟩, ⟨some 31, .plain (.len 0), [.tmp 30], none⟩, ⟨some 32, .plain (.bin .lss), [.tmp 28, .tmp 31], none⟩] [28, 29, 30, 31]) (.cond (.tmp 32) .skip (.exit 0))) (.seq (.block 1 (.seq (.ops [⟨some 35, .plain (.fieldAddr 0), [.tmp 1], none⟩, ⟨some 36, .plain (.load false 1), [.tmp 35], none⟩, ⟨some 37, .plain (.bin .eql), [.tmp 36, .lit (.int .i64 5)], none⟩, ⟨some 38, .plain .mv, [.tmp 37], none⟩, ⟨some 39, .plain (.fieldAddr 3), [.tmp 1], (some (38, true))⟩, ⟨some 40, .plain (.load false 1), [.tmp 39], (some (38, true))⟩, ⟨some 41, .plain .mv, [.tmp 3], (some (38, true))⟩, ⟨some 42, .plain .index, [.tmp 40, .tmp 41], (some (38, true))⟩, ⟨some 43, .plain (.bin .neq), [.tmp 42, .lit (.int .u8 48)], (some (38, true))⟩, ⟨some 44, .plain .pick, [.tmp 38, .tmp 43, .lit (.bool false)], none⟩, ⟨some 45, .plain .mv, [.tmp 44], none⟩, ⟨some 46, .plain (.fieldAddr 3), [.tmp 1], (some (45, true))⟩, ⟨some 47, .plain (.load false 1), [.tmp 46], (some (45, true))⟩, ⟨some 48, .plain .mv, [.tmp 3], (some (45, true))⟩, ⟨some 49, .plain .index, [.tmp 47, .tmp 48], (some (45, true))⟩, ⟨some 50, .plain (.bin .neq), [.tmp 49, .lit (.int .u8 49)], (some (45, true))⟩, ⟨some 51, .plain .pick, [.tmp 45, .tmp 50, .lit (.bool false)], none⟩, ⟨some 52, .plain .mv, [.tmp 51], none⟩, ⟨some 53, .plain (.fieldAddr 3), [.tmp 1], (some (52, false))⟩, ⟨some 54, .plain (.load false 1), [.tmp 53], (some (52, false))⟩, ⟨some 55, .plain .mv, [.tmp 3], (some (52, false))⟩, ⟨some 56, .plain .index, [.tmp 54, .tmp 55], (some (52, false))⟩, ⟨some 57, .plain (.bin .lss), [.tmp 56, .lit (.int .u8 32)], (some (52, false))⟩, ⟨some 58, .plain .pick, [.tmp 52, .lit (.bool true), .tmp 57], none⟩, ⟨some 59, .plain .mv, [.tmp 58], none⟩, ⟨some 60, .plain (.fieldAddr 3), [.tmp 1], (some (59, false))⟩, ⟨some 61, .plain (.load false 1), [.tmp 60], (some (59, false))⟩, ⟨some 62, .plain .mv, [.tmp 3], (some (59, false))⟩, ⟨some 63, .plain .index, [.tmp 61, .tmp 62], (some (59, false))⟩, ⟨some 64, .plain (.bin .gtr), [.tmp 63, .lit (.int .u8 126)], (some (59, false))⟩, ⟨some 65, .plain .pick, [.tmp 59, .lit (.bool true), .tmp 64], none⟩] [35, 36, 37, 38, 39, 40, 41, 42, 43, 44, 45, 46, 47, 48, 49, 50, 51, 52, 53, 54, 55, 56, 57, 58, 59, 60, 61, 62, 63, 64]) (.cond (.tmp 65) (.seq (.ops [⟨some 2, .plain .mv, [.lit (.bool false)], none⟩] []) .ret) .skip))) (.ops [⟨some 33, .plain .mv, [.tmp 3], none⟩, ⟨some 34, .plain (.bin .add), [.tmp 33, .lit (.int .i64 1)], none⟩, ⟨some 3, .plain .mv, [.tmp 34], none⟩] [33, 34])))))) (.seq (.ops [⟨some 2, .plain .mv, [.lit (.bool true)], none⟩] []) .ret))))
def cr11 : List Res := [(2, none)]
theorem ok11 : FOk Bk.pg.toProgram Bk.imp 11 c11 cr11 Tryz.f11.ntmps := ⟨Tryz.f11, _, Tryz.func11, rfl, by kernel_rfl, by kernel_rfl, by kernel_rfl, rfl⟩
def c50 : SC :=
 (.seq (.ops [⟨some 1, .plain (.box 4), [.tmp 0], none⟩, ⟨some 2, .plain .mv, [.lit (.bool false)], none⟩] []) (.seq (.ops [⟨some 5, .plain (.fieldAddr 0), [.tmp 1], none⟩, ⟨some 6, .plain (.load false 1), [.tmp 5], none⟩, ⟨some 7, .call 133, [.tmp 6], none⟩, ⟨some 3, .plain .mv, [.tmp 7], none⟩] [5, 6, 7]) (.seq (.seq (.ops [⟨some 8, .plain .mv, [.tmp 3], none⟩, ⟨some 9, .plain (.eqNil false false), [.tmp 8, .lit (.const .nilIface)], none⟩, ⟨some 10, .plain .mv, [.tmp 9], none⟩, ⟨some 11, .plain (.fieldAddr 1), [.tmp 1], (some (10, false))⟩, ⟨some 12, .plain (.load false 1), [.tmp 11], (some (10, false))⟩, ⟨some 13, .plain (.bin .neq), [.tmp 12, .lit (.int .i64 0)], (some (10, false))⟩, ⟨some 14, .plain .pick, [.tmp 10, .lit (.bool true), .tmp 13], none⟩, ⟨some 15, .plain .mv, [.tmp 14], none⟩, ⟨some 16, .plain (.fieldAddr 2), [.tmp 1], (some (15, false))⟩, ⟨some 17, .plain (.load false 1), [.tmp 16], (some (15, false))⟩, ⟨some 18, .plain (.bin .neq), [.tmp 17, .lit (.int .i64 0)], (some (15, false))⟩, ⟨some 19, .plain .pick, [.tmp 15, .lit (.bool true), .tmp 18], none⟩, ⟨some 20, .plain .mv, [.tmp 19], none⟩, ⟨some 21, .plain (.fieldAddr 3), [.tmp 1], (some (20, false))⟩, ⟨some 22, .plain (.load false 1), [.tmp 21], (some (20, false))⟩, ⟨some 23, .plain (.len 0), [.tmp 22], (some (20, false))⟩, ⟨some 24, .plain (.bin .gtr), [.tmp 23, .lit (.int .i64 250)], (some (20, false))⟩, ⟨some 25, .plain .pick, [.tmp 20, .lit (.bool true), .tmp 24], none⟩] [8, 9, 10, 11, 12, 13, 14, 15, 16, 17, 18, 19, 20, 21, 22, 23, 24]) (.cond (.tmp 25) (.seq (.ops [⟨some 2, .plain .mv, [.lit (.bool false)], none⟩] []) .ret) .skip)) (.seq (.seq (.ops [⟨some 26, .plain (.fieldAddr 3), [.tmp 1], none⟩, ⟨some 27, .plain (.load false 1), [.tmp 26], none⟩, ⟨some 28, .plain (.len 0), [.tmp 27], none⟩, ⟨some 29, .plain .mv, [.lit (.int .i64 0)], none⟩] [26, 27]) (.block 0 (.loop (.seq (.ops [⟨some 30, .plain (.bin .lss), [.tmp 29, .tmp 28], none⟩] []) (.seq (.cond (.tmp 30) .skip (.exit 0)) (.seq (.block 1 (.seq (.ops [⟨some 31, .plain .mv, [.tmp 29], none⟩, ⟨some 4, .plain .mv, [.tmp 31], none⟩] [31]) (.seq (.draw (.step ⟨some 32, .plain .mv, [.tmp 3], none⟩ (.step ⟨some 33, .plain (.fieldAddr 3), [.tmp 1], none⟩ (.step ⟨some 34, .plain (.load false 1), [.tmp 33], none⟩ (.step ⟨some 35, .plain .mv, [.tmp 4], none⟩ (.step ⟨some 36, .plain .index, [.tmp 34, .tmp 35], none⟩ (.step ⟨some 37, .plain (.mkMeth "ironbark/bits.right"), [.tmp 32], none⟩ (.step ⟨some 38, .plain (.nilCheckM "ironbark/bits.right" [167, 170]), [.tmp 37], none⟩ (.step ⟨some 39, .plain .mv, [.tmp 32], none⟩ (.step ⟨some 40, (.inv "ironbark/bits.right"), [.tmp 39, .tmp 36], none⟩ (.step ⟨some 41, .plain (.un .not), [.tmp 40], none⟩ .done)))))))))) [32, 33, 34, 35, 36, 37, 38, 39, 40]) (.cond (.tmp 41) (.seq (.ops [⟨some 2, .plain .mv, [.lit (.bool false)], none⟩] []) .ret) .skip)))) (.ops [⟨some 42, .plain (.bin .add), [.tmp 29, .lit (.int .i64 1)], none⟩, ⟨some 29, .plain .mv, [.tmp 42], none⟩] [42]))))))) (.seq (.ops [⟨some 2, .plain .mv, [.lit (.bool true)], none⟩] []) .ret)))))
def cr50 : List Res := [(2, none)]
theorem ok50 : FOk Bk.pg.toProgram Bk.imp 50 c50 cr50 Tryz.f50.ntmps := ⟨Tryz.f50, _, Tryz.func50, rfl, by kernel_rfl, by kernel_rfl, by kernel_rfl, rfl⟩
def c187 : SC :=
 (.seq (.ops [⟨some 2, .plain (.box 4), [.tmp 0], none⟩, ⟨some 3, .plain (.box 6), [.tmp 1], none⟩, ⟨some 4, .plain (.alloc [(.int .i64 0), (.int .i64 0), (.int .i64 0), (.str ⟨#[]⟩)]), [], none⟩, ⟨some 5, .plain .mv, [.lit (.int .i64 0)], none⟩, ⟨some 6, .plain .mv, [.lit (.int .i64 0)], none⟩] []) (.seq (.block 0 (.seq (.ops [⟨some 8, .plain (.load true 4), [.tmp 2], none⟩, ⟨some 9, .call 50, [.tmp 8], none⟩, ⟨some 10, .plain (.un .not), [.tmp 9], none⟩, ⟨some 11, .plain .mv, [.tmp 10], none⟩, ⟨some 12, .plain (.load true 6), [.tmp 3], (some (11, false))⟩, ⟨some 13, .call 272, [.tmp 12], (some (11, false))⟩, ⟨some 14, .plain (.un .not), [.tmp 13], (some (11, false))⟩, ⟨some 15, .plain .pick, [.tmp 11, .lit (.bool true), .tmp 14], none⟩, ⟨some 7, .plain .mv, [.tmp 15], none⟩] [8, 9, 10, 11, 12, 13, 14, 15]) (.cond (.tmp 7) (.seq (.ops [⟨some 16, .plain (.build [(.int .i64 0), (.int .i64 0), (.int .i64 0), (.str ⟨#[]⟩)] []), [], none⟩, ⟨none, .plain (.store 4), [.tmp 4, .tmp 16], none⟩, ⟨some 5, .plain .mv, [.lit (.int .i64 0)], none⟩, ⟨some 6, .plain .mv, [.lit (.int .i64 1)], none⟩] [16]) .ret) (.seq (.ops [⟨some 18, .plain (.fieldAddr 0), [.tmp 2], none⟩, ⟨some 19, .plain (.load false 1), [.tmp 18], none⟩, ⟨some 20, .plain (.fieldAddr 0), [.tmp 3], none⟩, ⟨some 21, .plain (.load false 1), [.tmp 20], none⟩, ⟨some 22, .plain (.bin .neq), [.tmp 19, .tmp 21], none⟩, ⟨some 17, .plain .mv, [.tmp 22], none⟩] [18, 19, 20, 21, 22]) (.cond (.tmp 17) (.seq (.ops [⟨some 23, .plain (.build [(.int .i64 0), (.int .i64 0), (.int .i64 0), (.str ⟨#[]⟩)] []), [], none⟩, ⟨none, .plain (.store 4), [.tmp 4, .tmp 23], none⟩, ⟨some 5, .plain .mv, [.lit (.int .i64 0)], none⟩, ⟨some 6, .plain .mv, [.lit (.int .i64 10)], none⟩] [23]) .ret) (.seq (.ops [⟨some 25, .plain (.fieldAddr 3), [.tmp 2], none⟩, ⟨some 26, .plain (.load false 1), [.tmp 25], none⟩, ⟨some 27, .plain (.len 0), [.tmp 26], none⟩, ⟨some 28, .plain (.fieldAddr 3), [.tmp 3], none⟩, ⟨some 29, .plain (.load false 1), [.tmp 28], none⟩, ⟨some 30, .plain (.bin .gtr), [.tmp 27, .tmp 29], none⟩, ⟨some 24, .plain .mv, [.tmp 30], none⟩] [25, 26, 27, 28, 29, 30]) (.cond (.tmp 24) (.seq (.draw (.step ⟨some 31, .plain (.load true 4), [.tmp 2], none⟩ (.step ⟨some 32, .plain (.fieldAddr 3), [.tmp 2], none⟩ (.step ⟨some 33, .plain (.load false 1), [.tmp 32], none⟩ (.step ⟨some 34, .plain (.fieldAddr 3), [.tmp 3], none⟩ (.step ⟨some 35, .plain (.load false 1), [.tmp 34], none⟩ (.step ⟨some 36, .plain (.slice false true 0), [.tmp 33, .tmp 35], none⟩ (.step ⟨some 37, .call 188, [.tmp 31, .tmp 36], none⟩ (.step ⟨none, .plain (.store 4), [.tmp 4, .tmp 37], none⟩ (.step ⟨some 5, .plain .mv, [.lit (.int .i64 6)], none⟩ (.step ⟨some 6, .plain .mv, [.lit (.int .i64 0)], none⟩ .done)))))))))) [31, 32, 33, 34, 35, 36, 37]) .ret) (.seq (.ops [⟨some 39, .plain (.fieldAddr 4), [.tmp 3], none⟩, ⟨some 40, .plain (.load false 1), [.tmp 39], none⟩, ⟨some 38, .plain .mv, [.tmp 40], none⟩] [39, 40]) (.cond (.tmp 38) (.seq (.ops [⟨some 41, .plain (.load true 4), [.tmp 2], none⟩, ⟨none, .plain (.store 4), [.tmp 4, .tmp 41], none⟩, ⟨some 5, .plain .mv, [.lit (.int .i64 0)], none⟩, ⟨some 6, .plain .mv, [.lit (.int .i64 0)], none⟩] [41]) .ret) .skip))))))))) (.seq (.draw (.step ⟨some 42, .plain (.load true 4), [.tmp 2], none⟩ (.step ⟨some 43, .plain (.fieldAddr 3), [.tmp 2], none⟩ (.step ⟨some 44, .plain (.load false 1), [.tmp 43], none⟩ (.step ⟨some 45, .plain (.fieldAddr 0), [.tmp 2], none⟩ (.step ⟨some 46, .plain (.load false 1), [.tmp 45], none⟩ (.step ⟨some 47, .call 133, [.tmp 46], none⟩ (.step ⟨some 48, (.inv "ironbark/bits.filler"), [.tmp 47], none⟩ (.step ⟨some 49, .plain .stuck, [], none⟩ (.step ⟨some 50, .plain (.fieldAddr 3), [.tmp 3], none⟩ (.step ⟨some 51, .plain (.load false 1), [.tmp 50], none⟩ (.step ⟨some 52, .plain (.fieldAddr 3), [.tmp 2], none⟩ (.step ⟨some 53, .plain (.load false 1), [.tmp 52], none⟩ (.step ⟨some 54, .plain (.len 0), [.tmp 53], none⟩ (.step ⟨some 55, .plain (.bin .sub), [.tmp 51, .tmp 54], none⟩ (.step ⟨some 56, .call 136, [.tmp 49, .tmp 55], none⟩ (.step ⟨some 57, .plain (.bin .add), [.tmp 44, .tmp 56], none⟩ (.step ⟨some 58, .call 188, [.tmp 42, .tmp 57], none⟩ (.step ⟨none, .plain (.store 4), [.tmp 4, .tmp 58], none⟩ (.step ⟨some 5, .plain .mv, [.lit (.int .i64 0)], none⟩ (.step ⟨some 6, .plain .mv, [.lit (.int .i64 0)], none⟩ .done)))))))))))))))))))) [42, 43, 44, 45, 46, 47, 48, 49, 50, 51, 52, 53, 54, 55, 56, 57, 58]) .ret)))
def cr187 : List Res := [(4, some (true, 4)), (5, none), (6, none)]
theorem ok187 : FOk Bk.pg.toProgram Bk.imp 187 c187 cr187 Tryz.f187.ntmps := ⟨Tryz.f187, _, Tryz.func187, rfl, by kernel_rfl, by kernel_rfl, by kernel_rfl, rfl⟩
def c133 : SC :=
 (.seq (.ops [⟨some 2, .plain .mv, [.lit (.const .nilIface)], none⟩] []) (.seq (.seq (.ops [⟨some 3, .plain .mv, [.tmp 0], none⟩] []) (.block 0 (.seq (.ops [⟨some 5, .plain (.bin .eql), [.tmp 3, .lit (.int .i64 4)], none⟩, ⟨some 4, .plain .mv, [.tmp 5], none⟩] [5]) (.cond (.tmp 4) (.seq (.ops [⟨some 6, .plain (.build [] []), [], none⟩, ⟨some 7, .plain (.mkIface 170), [.tmp 6], none⟩, ⟨some 2, .plain .mv, [.tmp 7], none⟩] [6, 7]) .ret) (.seq (.ops [⟨some 9, .plain (.bin .eql), [.tmp 3, .lit (.int .i64 5)], none⟩, ⟨some 8, .plain .mv, [.tmp 9], none⟩] [9]) (.cond (.tmp 8) (.seq (.ops [⟨some 10, .plain (.build [] []), [], none⟩, ⟨some 11, .plain (.mkIface 167), [.tmp 10], none⟩, ⟨some 2, .plain .mv, [.tmp 11], none⟩] [10, 11]) .ret) .skip)))))) (.seq (.ops [⟨some 2, .plain .mv, [.lit (.const .nilIface)], none⟩] []) .ret)))
def cr133 : List Res := [(2, none)]
theorem ok133 : FOk Bk.pg.toProgram Bk.imp 133 c133 cr133 Tryz.f133.ntmps := ⟨Tryz.f133, _, Tryz.func133, rfl, by kernel_rfl, by kernel_rfl, by kernel_rfl, rfl⟩
def c418 : SC :=
 (.seq (.ops [⟨some 2, .plain (.box 0), [.tmp 0], none⟩, ⟨some 4, .plain .mv, [.lit (.bool false)], none⟩] [2]) (.seq (.ops [⟨some 5, .plain .mv, [.tmp 1], none⟩, ⟨some 6, .plain (.bin .geq), [.tmp 5, .lit (.int .u8 32)], none⟩, ⟨some 7, .plain .mv, [.tmp 6], none⟩, ⟨some 8, .plain .mv, [.tmp 1], (some (7, true))⟩, ⟨some 9, .plain (.bin .leq), [.tmp 8, .lit (.int .u8 126)], (some (7, true))⟩, ⟨some 10, .plain .pick, [.tmp 7, .tmp 9, .lit (.bool false)], none⟩, ⟨some 4, .plain .mv, [.tmp 10], none⟩] [5, 6, 7, 8, 9, 10]) .ret))
def cr418 : List Res := [(4, none)]
theorem ok418 : FOk Bk.pg.toProgram Bk.imp 418 c418 cr418 Tryz.f418.ntmps := ⟨Tryz.f418, _, Tryz.func418, rfl, by kernel_rfl, by kernel_rfl, by kernel_rfl, rfl⟩
def c95 : SC :=
 (.seq (.ops [⟨some 1, .plain (.box 2), [.tmp 0], none⟩, ⟨some 2, .plain (.alloc [(.int .i64 0), (.int .i64 0), (.int .i64 0), (.int .i64 0), (.bool false), (.str ⟨#[]⟩)]), [], none⟩] []) (.seq (.ops [⟨some 5, .plain (.load true 2), [.tmp 1], none⟩, ⟨some 6, .call 91, [.tmp 5, .lit (.int .i64 0), .lit (.int .i64 0)], none⟩, ⟨some 3, .plain (.alloc [(.int .i64 0), (.int .i64 0), (.int .i64 0), (.int .i64 0), (.bool false), (.str ⟨#[]⟩)]), [], none⟩, ⟨none, .plain (.store 6), [.tmp 3, .tmp 6], none⟩] [5, 6]) (.seq (.seq (.ops [⟨some 4, .plain .mv, [.lit (.int .i64 1)], none⟩] []) (.block 0 (.loop (.seq (.seq (.ops [⟨some 7, .plain .mv, [.tmp 4], none⟩, ⟨some 8, .plain (.fieldAddr 0), [.tmp 1], none⟩, ⟨some 9, .plain (.load false 1), [.tmp 8], none⟩, ⟨some 10, .plain (.len 1), [.tmp 9], none⟩, ⟨some 11, .plain (.bin .lss), [.tmp 7, .tmp 10], none⟩] [7, 8, 9, 10]) (.cond (.tmp 11) .skip (.exit 0))) (.seq (.block 1 (.ops [⟨some 14, .plain (.load true 2), [.tmp 1], none⟩, ⟨some 15, .plain .mv, [.tmp 4], none⟩, ⟨some 16, .call 66, [.tmp 14, .tmp 15], none⟩] [14, 15, 16])) (.ops [⟨some 12, .plain .mv, [.tmp 4], none⟩, ⟨some 13, .plain (.bin .add), [.tmp 12, .lit (.int .i64 1)], none⟩, ⟨some 4, .plain .mv, [.tmp 13], none⟩] [12, 13])))))) (.seq (.ops [⟨some 17, .plain (.fieldAddr 4), [.tmp 3], none⟩, ⟨none, .plain (.store 1), [.tmp 17, .lit (.bool true)], none⟩] [17]) (.seq (.ops [⟨some 18, .plain (.load true 6), [.tmp 3], none⟩, ⟨none, .plain (.store 6), [.tmp 2, .tmp 18], none⟩] [18]) .ret)))))
def cr95 : List Res := [(2, some (true, 6))]
theorem ok95 : FOk Bk.pg.toProgram Bk.imp 95 c95 cr95 Tryz.f95.ntmps := ⟨Tryz.f95, _, Tryz.func95, rfl, by kernel_rfl, by kernel_rfl, by kernel_rfl, rfl⟩
def c96 : SC :=
 (.seq (.ops [⟨some 1, .plain (.box 10), [.tmp 0], none⟩, ⟨some 2, .plain (.alloc [(.int .i64 0), (.int .i64 0), (.int .i64 0), (.str ⟨#[]⟩)]), [], none⟩] []) (.seq (.draw (.step ⟨some 9, .plain (.load true 10), [.tmp 1], none⟩ (.step ⟨some 10, .call 93, [.tmp 9, .lit (.int .i64 0), .lit (.int .i64 0)], none⟩ (.step ⟨some 11, .plain (.load true 10), [.tmp 1], none⟩ (.step ⟨some 12, .call 122, [.tmp 11, .lit (.int .i64 1)], none⟩ (.step ⟨some 3, .plain (.alloc [(.int .i64 0), (.int .i64 0), (.int .i64 0), (.str ⟨#[]⟩)]), [], none⟩ (.step ⟨none, .plain (.store 4), [.tmp 3, .tmp 10], none⟩ (.step ⟨some 4, .plain .mv, [.tmp 12], none⟩ .done))))))) [9, 10, 11, 12]) (.seq (.ops [⟨some 5, .plain (.alloc [(.int .i64 0), (.int .i64 0), (.int .i64 0), (.str ⟨#[]⟩)]), [], none⟩] []) (.seq (.ops [⟨some 6, .plain .mv, [.lit (.int .i64 0)], none⟩] []) (.seq (.seq (.ops [⟨some 13, .plain (.fieldAddr 2), [.tmp 1], none⟩, ⟨some 14, .plain (.load false 1), [.tmp 13], none⟩, ⟨some 15, .plain (.len 1), [.tmp 14], none⟩, ⟨some 16, .plain (.bin .gtr), [.tmp 15, .lit (.int .i64 2)], none⟩] [13, 14, 15]) (.cond (.tmp 16) (.seq (.ops [⟨some 18, .plain .mv, [.tmp 4], none⟩, ⟨some 19, .plain (.load true 10), [.tmp 1], none⟩, ⟨some 20, .call 122, [.tmp 19, .lit (.int .i64 2)], none⟩, ⟨some 21, .call 176, [.tmp 18, .tmp 20], none⟩, ⟨some 17, .plain .mv, [.tmp 21], none⟩, ⟨some 22, .plain (.extract 0), [.tmp 17], none⟩, ⟨some 23, .plain (.extract 1), [.tmp 17], none⟩, ⟨some 7, .plain .mv, [.tmp 22], none⟩, ⟨some 8, .plain .mv, [.tmp 23], none⟩] [18, 19, 20, 21, 17, 22, 23]) (.ops [⟨some 25, .plain (.load true 4), [.tmp 3], none⟩, ⟨some 26, .plain .mv, [.tmp 7], none⟩, ⟨some 27, .plain .mv, [.tmp 8], none⟩, ⟨some 28, .call 177, [.tmp 25, .tmp 26, .tmp 27], none⟩, ⟨some 24, .plain .mv, [.tmp 28], none⟩, ⟨some 29, .plain (.extract 0), [.tmp 24], none⟩, ⟨some 30, .plain (.extract 1), [.tmp 24], none⟩, ⟨some 31, .plain (.extract 2), [.tmp 24], none⟩, ⟨none, .plain (.store 4), [.tmp 5, .tmp 29], none⟩, ⟨some 6, .plain .mv, [.tmp 30], none⟩] [25, 26, 27, 28, 24, 29, 30, 31])) (.ops [⟨some 33, .plain (.load true 4), [.tmp 3], none⟩, ⟨some 34, .plain .mv, [.tmp 4], none⟩, ⟨some 35, .plain .max2, [.tmp 34, .lit (.int .i64 (-2500))], none⟩, ⟨some 36, .plain .min2, [.tmp 35, .lit (.int .i64 2500)], none⟩, ⟨some 37, .call 178, [.tmp 33, .tmp 36], none⟩, ⟨some 32, .plain .mv, [.tmp 37], none⟩, ⟨some 38, .plain (.extract 0), [.tmp 32], none⟩, ⟨some 39, .plain (.extract 1), [.tmp 32], none⟩, ⟨some 40, .plain (.extract 2), [.tmp 32], none⟩, ⟨none, .plain (.store 4), [.tmp 5, .tmp 38], none⟩, ⟨some 6, .plain .mv, [.tmp 39], none⟩] [33, 34, 35, 36, 37, 32, 38, 39, 40]))) (.seq (.ops [⟨some 41, .plain (.load true 10), [.tmp 1], none⟩, ⟨some 42, .plain .mv, [.tmp 6], none⟩, ⟨some 43, .call 86, [.tmp 41, .tmp 42], none⟩] [41, 42, 43]) (.seq (.ops [⟨some 44, .plain (.load true 10), [.tmp 1], none⟩, ⟨some 45, .plain (.load true 4), [.tmp 5], none⟩, ⟨some 46, .call 105, [.tmp 44, .tmp 45], none⟩, ⟨none, .plain (.store 4), [.tmp 2, .tmp 46], none⟩] [44, 45, 46]) .ret)))))))
def cr96 : List Res := [(2, some (true, 4))]
def c105 : SC :=
 (.seq (.ops [⟨some 2, .plain (.box 10), [.tmp 0], none⟩, ⟨some 3, .plain (.box 4), [.tmp 1], none⟩, ⟨some 4, .plain (.alloc [(.int .i64 0), (.int .i64 0), (.int .i64 0), (.str ⟨#[]⟩)]), [], none⟩] []) (.seq (.ops [⟨some 9, .plain (.load true 4), [.tmp 3], none⟩, ⟨some 10, .plain (.fieldAddr 3), [.tmp 2], none⟩, ⟨some 11, .plain (.load true 6), [.tmp 10], none⟩, ⟨some 12, .call 187, [.tmp 9, .tmp 11], none⟩, ⟨some 8, .plain .mv, [.tmp 12], none⟩, ⟨some 13, .plain (.extract 0), [.tmp 8], none⟩, ⟨some 14, .plain (.extract 1), [.tmp 8], none⟩, ⟨some 15, .plain (.extract 2), [.tmp 8], none⟩, ⟨some 5, .plain (.alloc [(.int .i64 0), (.int .i64 0), (.int .i64 0), (.str ⟨#[]⟩)]), [], none⟩, ⟨none, .plain (.store 4), [.tmp 5, .tmp 13], none⟩, ⟨some 6, .plain .mv, [.tmp 14], none⟩, ⟨some 7, .plain .mv, [.tmp 15], none⟩] [9, 10, 11, 12, 8, 13, 14, 15, 7]) (.seq (.ops [⟨some 16, .plain (.load true 10), [.tmp 2], none⟩, ⟨some 17, .plain .mv, [.tmp 6], none⟩, ⟨some 18, .call 86, [.tmp 16, .tmp 17], none⟩] [16, 17, 18]) (.seq (.ops [⟨some 19, .plain (.load true 4), [.tmp 5], none⟩, ⟨none, .plain (.store 4), [.tmp 4, .tmp 19], none⟩] [19]) .ret))))
def cr105 : List Res := [(4, some (true, 4))]
theorem ok105 : FOk Bk.pg.toProgram Bk.imp 105 c105 cr105 Tryz.f105.ntmps := ⟨Tryz.f105, _, Tryz.func105, rfl, by kernel_rfl, by kernel_rfl, by kernel_rfl, rfl⟩
def c177 : SC :=
 (.seq (.ops [⟨some 3, .plain (.box 4), [.tmp 0], none⟩, ⟨some 6, .plain (.alloc [(.int .i64 0), (.int .i64 0), (.int .i64 0), (.str ⟨#[]⟩)]), [], none⟩, ⟨some 7, .plain .mv, [.lit (.int .i64 0)], none⟩, ⟨some 8, .plain .mv, [.lit (.int .i64 0)], none⟩] []) (.seq (.block 0 (.seq (.ops [⟨some 13, .plain (.load true 4), [.tmp 3], none⟩, ⟨some 14, .call 50, [.tmp 13], none⟩, ⟨some 15, .plain (.un .not), [.tmp 14], none⟩, ⟨some 12, .plain .mv, [.tmp 15], none⟩] [13, 14, 15]) (.cond (.tmp 12) (.seq (.ops [⟨some 16, .plain (.build [(.int .i64 0), (.int .i64 0), (.int .i64 0), (.str ⟨#[]⟩)] []), [], none⟩, ⟨none, .plain (.store 4), [.tmp 6, .tmp 16], none⟩, ⟨some 7, .plain .mv, [.lit (.int .i64 0)], none⟩, ⟨some 8, .plain .mv, [.lit (.int .i64 1)], none⟩] [16]) .ret) (.seq (.ops [⟨some 18, .plain .mv, [.tmp 1], none⟩, ⟨some 19, .plain .mv, [.tmp 2], none⟩, ⟨some 20, .plain (.buildRow 3 1 2 [(.int .i64 0)] [0, 1]), [.tmp 18, .tmp 19], none⟩, ⟨some 21, .call 268, [.tmp 20], none⟩, ⟨some 17, .plain .mv, [.tmp 21], none⟩] [18, 19, 20, 21]) (.cond (.tmp 17) (.seq (.ops [⟨some 22, .plain (.build [(.int .i64 0), (.int .i64 0), (.int .i64 0), (.str ⟨#[]⟩)] []), [], none⟩, ⟨none, .plain (.store 4), [.tmp 6, .tmp 22], none⟩, ⟨some 7, .plain .mv, [.lit (.int .i64 0)], none⟩, ⟨some 8, .plain .mv, [.lit (.int .i64 7)], none⟩] [22]) .ret) .skip))))) (.seq (.ops [⟨some 24, .plain (.fieldAddr 3), [.tmp 3], none⟩, ⟨some 25, .plain (.load false 1), [.tmp 24], none⟩, ⟨some 26, .plain (.len 0), [.tmp 25], none⟩, ⟨some 27, .plain .mv, [.tmp 1], none⟩, ⟨some 28, .plain .mv, [.tmp 2], none⟩, ⟨some 29, .call 269, [.tmp 26, .tmp 27, .tmp 28], none⟩, ⟨some 23, .plain .mv, [.tmp 29], none⟩, ⟨some 30, .plain (.extract 0), [.tmp 23], none⟩, ⟨some 31, .plain (.extract 1), [.tmp 23], none⟩, ⟨some 32, .plain (.extract 2), [.tmp 23], none⟩, ⟨some 9, .plain .mv, [.tmp 30], none⟩, ⟨some 10, .plain .mv, [.tmp 31], none⟩, ⟨some 11, .plain .mv, [.tmp 32], none⟩] [24, 25, 26, 27, 28, 29, 23, 30, 31, 32]) (.seq (.draw (.step ⟨some 33, .plain (.load true 4), [.tmp 3], none⟩ (.step ⟨some 34, .plain (.fieldAddr 3), [.tmp 3], none⟩ (.step ⟨some 35, .plain (.load false 1), [.tmp 34], none⟩ (.step ⟨some 36, .plain .mv, [.tmp 9], none⟩ (.step ⟨some 37, .plain .mv, [.tmp 10], none⟩ (.step ⟨some 38, .plain (.slice true true 0), [.tmp 35, .tmp 36, .tmp 37], none⟩ (.step ⟨some 39, .call 188, [.tmp 33, .tmp 38], none⟩ (.step ⟨some 40, .plain .mv, [.tmp 11], none⟩ (.step ⟨some 41, .call 270, [.tmp 40], none⟩ (.step ⟨none, .plain (.store 4), [.tmp 6, .tmp 39], none⟩ (.step ⟨some 7, .plain .mv, [.tmp 41], none⟩ (.step ⟨some 8, .plain .mv, [.lit (.int .i64 0)], none⟩ .done)))))))))))) [33, 34, 35, 36, 37, 38, 39, 40, 41]) .ret))))
def cr177 : List Res := [(6, some (true, 4)), (7, none), (8, none)]
theorem ok177 : FOk Bk.pg.toProgram Bk.imp 177 c177 cr177 Tryz.f177.ntmps := ⟨Tryz.f177, _, Tryz.func177, rfl, by kernel_rfl, by kernel_rfl, by kernel_rfl, rfl⟩
def c178 : SC :=
 (.seq (.ops [⟨some 2, .plain (.box 4), [.tmp 0], none⟩, ⟨some 4, .plain (.alloc [(.int .i64 0), (.int .i64 0), (.int .i64 0), (.str ⟨#[]⟩)]), [], none⟩, ⟨some 5, .plain .mv, [.lit (.int .i64 0)], none⟩, ⟨some 6, .plain .mv, [.lit (.int .i64 0)], none⟩] []) (.seq (.block 0 (.seq (.ops [⟨some 11, .plain (.load true 4), [.tmp 2], none⟩, ⟨some 12, .call 50, [.tmp 11], none⟩, ⟨some 13, .plain (.un .not), [.tmp 12], none⟩, ⟨some 10, .plain .mv, [.tmp 13], none⟩] [11, 12, 13]) (.cond (.tmp 10) (.seq (.ops [⟨some 14, .plain (.build [(.int .i64 0), (.int .i64 0), (.int .i64 0), (.str ⟨#[]⟩)] []), [], none⟩, ⟨none, .plain (.store 4), [.tmp 4, .tmp 14], none⟩, ⟨some 5, .plain .mv, [.lit (.int .i64 0)], none⟩, ⟨some 6, .plain .mv, [.lit (.int .i64 1)], none⟩] [14]) .ret) (.seq (.ops [⟨some 16, .plain .mv, [.tmp 1], none⟩, ⟨some 17, .plain (.buildRow 3 1 1 [(.int .i64 0)] [0]), [.tmp 16], none⟩, ⟨some 18, .call 268, [.tmp 17], none⟩, ⟨some 15, .plain .mv, [.tmp 18], none⟩] [16, 17, 18]) (.cond (.tmp 15) (.seq (.ops [⟨some 19, .plain (.build [(.int .i64 0), (.int .i64 0), (.int .i64 0), (.str ⟨#[]⟩)] []), [], none⟩, ⟨none, .plain (.store 4), [.tmp 4, .tmp 19], none⟩, ⟨some 5, .plain .mv, [.lit (.int .i64 0)], none⟩, ⟨some 6, .plain .mv, [.lit (.int .i64 7)], none⟩] [19]) .ret) .skip))))) (.seq (.ops [⟨some 21, .plain (.fieldAddr 3), [.tmp 2], none⟩, ⟨some 22, .plain (.load false 1), [.tmp 21], none⟩, ⟨some 23, .plain (.len 0), [.tmp 22], none⟩, ⟨some 24, .plain .mv, [.tmp 1], none⟩, ⟨some 25, .plain (.fieldAddr 3), [.tmp 2], none⟩, ⟨some 26, .plain (.load false 1), [.tmp 25], none⟩, ⟨some 27, .plain (.len 0), [.tmp 26], none⟩, ⟨some 28, .plain .mv, [.tmp 1], none⟩, ⟨some 29, .plain (.bin .sub), [.tmp 27, .tmp 28], none⟩, ⟨some 30, .plain (.bin .add), [.tmp 29, .lit (.int .i64 1)], none⟩, ⟨some 31, .call 269, [.tmp 23, .tmp 24, .tmp 30], none⟩, ⟨some 20, .plain .mv, [.tmp 31], none⟩, ⟨some 32, .plain (.extract 0), [.tmp 20], none⟩, ⟨some 33, .plain (.extract 1), [.tmp 20], none⟩, ⟨some 34, .plain (.extract 2), [.tmp 20], none⟩, ⟨some 7, .plain .mv, [.tmp 32], none⟩, ⟨some 8, .plain .mv, [.tmp 33], none⟩, ⟨some 9, .plain .mv, [.tmp 34], none⟩] [21, 22, 23, 24, 25, 26, 27, 28, 29, 30, 31, 20, 32, 33, 34]) (.seq (.draw (.step ⟨some 35, .plain (.load true 4), [.tmp 2], none⟩ (.step ⟨some 36, .plain (.fieldAddr 3), [.tmp 2], none⟩ (.step ⟨some 37, .plain (.load false 1), [.tmp 36], none⟩ (.step ⟨some 38, .plain .mv, [.tmp 7], none⟩ (.step ⟨some 39, .plain .mv, [.tmp 8], none⟩ (.step ⟨some 40, .plain (.slice true true 0), [.tmp 37, .tmp 38, .tmp 39], none⟩ (.step ⟨some 41, .call 188, [.tmp 35, .tmp 40], none⟩ (.step ⟨some 42, .plain .mv, [.tmp 9], none⟩ (.step ⟨some 43, .call 270, [.tmp 42], none⟩ (.step ⟨none, .plain (.store 4), [.tmp 4, .tmp 41], none⟩ (.step ⟨some 5, .plain .mv, [.tmp 43], none⟩ (.step ⟨some 6, .plain .mv, [.lit (.int .i64 0)], none⟩ .done)))))))))))) [35, 36, 37, 38, 39, 40, 41, 42, 43]) .ret))))
def cr178 : List Res := [(4, some (true, 4)), (5, none), (6, none)]
theorem ok178 : FOk Bk.pg.toProgram Bk.imp 178 c178 cr178 Tryz.f178.ntmps := ⟨Tryz.f178, _, Tryz.func178, rfl, by kernel_rfl, by kernel_rfl, by kernel_rfl, rfl⟩
def c269 : SC :=
 (.seq (.ops [⟨some 6, .plain .mv, [.lit (.int .i64 0)], none⟩, ⟨some 7, .plain .mv, [.lit (.int .i64 0)], none⟩, ⟨some 8, .plain .mv, [.lit (.bool false)], none⟩] []) (.seq (.ops [⟨some 9, .plain .mv, [.tmp 1], none⟩, ⟨some 10, .plain .max2, [.tmp 9, .lit (.int .i64 1)], none⟩, ⟨some 11, .plain (.bin .sub), [.tmp 10, .lit (.int .i64 1)], none⟩, ⟨some 12, .plain .mv, [.tmp 0], none⟩, ⟨some 13, .plain .min2, [.tmp 11, .tmp 12], none⟩, ⟨some 6, .plain .mv, [.tmp 13], none⟩] [9, 10, 11, 12, 13]) (.seq (.ops [⟨some 14, .plain .mv, [.tmp 1], none⟩, ⟨some 15, .plain .mv, [.tmp 2], none⟩, ⟨some 16, .plain (.bin .add), [.tmp 14, .tmp 15], none⟩, ⟨some 17, .plain (.bin .sub), [.tmp 16, .lit (.int .i64 1)], none⟩, ⟨some 18, .plain .mv, [.tmp 0], none⟩, ⟨some 19, .plain .min2, [.tmp 17, .tmp 18], none⟩, ⟨some 20, .plain .mv, [.tmp 6], none⟩, ⟨some 21, .plain .max2, [.tmp 19, .tmp 20], none⟩, ⟨some 7, .plain .mv, [.tmp 21], none⟩] [14, 15, 16, 17, 18, 19, 20, 21]) (.seq (.ops [⟨some 22, .plain .mv, [.tmp 6], none⟩, ⟨some 23, .plain .mv, [.tmp 7], none⟩, ⟨some 24, .plain .mv, [.tmp 1], none⟩, ⟨some 25, .plain (.bin .geq), [.tmp 24, .lit (.int .i64 1)], none⟩, ⟨some 26, .plain .mv, [.tmp 25], none⟩, ⟨some 27, .plain .mv, [.tmp 2], (some (26, true))⟩, ⟨some 28, .plain (.bin .geq), [.tmp 27, .lit (.int .i64 0)], (some (26, true))⟩, ⟨some 29, .plain .pick, [.tmp 26, .tmp 28, .lit (.bool false)], none⟩, ⟨some 30, .plain .mv, [.tmp 29], none⟩, ⟨some 31, .plain .mv, [.tmp 1], (some (30, true))⟩, ⟨some 32, .plain .mv, [.tmp 2], (some (30, true))⟩, ⟨some 33, .plain (.bin .add), [.tmp 31, .tmp 32], (some (30, true))⟩, ⟨some 34, .plain (.bin .sub), [.tmp 33, .lit (.int .i64 1)], (some (30, true))⟩, ⟨some 35, .plain .mv, [.tmp 0], (some (30, true))⟩, ⟨some 36, .plain (.bin .leq), [.tmp 34, .tmp 35], (some (30, true))⟩, ⟨some 37, .plain .pick, [.tmp 30, .tmp 36, .lit (.bool false)], none⟩, ⟨some 6, .plain .mv, [.tmp 22], none⟩, ⟨some 7, .plain .mv, [.tmp 23], none⟩, ⟨some 8, .plain .mv, [.tmp 37], none⟩] [22, 23, 24, 25, 26, 27, 28, 29, 30, 31, 32, 33, 34, 35, 36, 37]) .ret))))
def cr269 : List Res := [(6, none), (7, none), (8, none)]
theorem ok269 : FOk Bk.pg.toProgram Bk.imp 269 c269 cr269 Tryz.f269.ntmps := ⟨Tryz.f269, _, Tryz.func269, rfl, by kernel_rfl, by kernel_rfl, by kernel_rfl, rfl⟩
def c270 : SC :=
 (.seq (.ops [⟨some 2, .plain .mv, [.lit (.int .i64 0)], none⟩] []) (.seq (.seq (.ops [⟨some 3, .plain .mv, [.tmp 0], none⟩] []) (.cond (.tmp 3) (.seq (.ops [⟨some 2, .plain .mv, [.lit (.int .i64 0)], none⟩] []) .ret) .skip)) (.seq (.ops [⟨some 2, .plain .mv, [.lit (.int .i64 5)], none⟩] []) .ret)))
def cr270 : List Res := [(2, none)]
theorem ok270 : FOk Bk.pg.toProgram Bk.imp 270 c270 cr270 Tryz.f270.ntmps := ⟨Tryz.f270, _, Tryz.func270, rfl, by kernel_rfl, by kernel_rfl, by kernel_rfl, rfl⟩
def c176 : SC :=
 (.seq (.ops [⟨some 4, .plain .mv, [.lit (.int .i64 0)], none⟩, ⟨some 5, .plain .mv, [.lit (.int .i64 0)], none⟩] []) (.seq (.seq (.ops [⟨some 8, .plain .mv, [.tmp 1], none⟩, ⟨some 9, .plain (.bin .lss), [.tmp 8, .lit (.int .i64 0)], none⟩] [8]) (.cond (.tmp 9) (.seq (.ops [⟨some 10, .plain .mv, [.tmp 0], none⟩, ⟨some 11, .plain .max2, [.tmp 10, .lit (.int .i64 (-2500))], none⟩, ⟨some 12, .plain .min2, [.tmp 11, .lit (.int .i64 2500)], none⟩, ⟨some 4, .plain .mv, [.tmp 12], none⟩, ⟨some 5, .plain .mv, [.lit (.int .i64 (-1))], none⟩] [10, 11, 12]) .ret) .skip)) (.seq (.ops [⟨some 13, .plain .mv, [.tmp 0], none⟩, ⟨some 14, .plain .max2, [.tmp 13, .lit (.int .i64 (-2500))], none⟩, ⟨some 15, .plain .min2, [.tmp 14, .lit (.int .i64 2500)], none⟩, ⟨some 16, .plain .mv, [.tmp 0], none⟩, ⟨some 17, .plain .mv, [.tmp 1], none⟩, ⟨some 18, .plain (.bin .add), [.tmp 16, .tmp 17], none⟩, ⟨some 19, .plain (.bin .sub), [.tmp 18, .lit (.int .i64 1)], none⟩, ⟨some 6, .plain .mv, [.tmp 15], none⟩, ⟨some 7, .plain .mv, [.tmp 19], none⟩] [13, 14, 15, 16, 17, 18, 19]) (.seq (.ops [⟨some 20, .plain .mv, [.tmp 6], none⟩, ⟨some 21, .plain .mv, [.tmp 7], none⟩, ⟨some 22, .plain .min2, [.tmp 21, .lit (.int .i64 5000)], none⟩, ⟨some 23, .plain .mv, [.tmp 6], none⟩, ⟨some 24, .plain (.bin .sub), [.tmp 23, .lit (.int .i64 1)], none⟩, ⟨some 25, .plain .max2, [.tmp 22, .tmp 24], none⟩, ⟨some 26, .plain .mv, [.tmp 6], none⟩, ⟨some 27, .plain (.bin .sub), [.tmp 25, .tmp 26], none⟩, ⟨some 28, .plain (.bin .add), [.tmp 27, .lit (.int .i64 1)], none⟩, ⟨some 4, .plain .mv, [.tmp 20], none⟩, ⟨some 5, .plain .mv, [.tmp 28], none⟩] [20, 21, 22, 23, 24, 25, 26, 27, 28]) .ret))))
def cr176 : List Res := [(4, none), (5, none)]
theorem ok176 : FOk Bk.pg.toProgram Bk.imp 176 c176 cr176 Tryz.f176.ntmps := ⟨Tryz.f176, _, Tryz.func176, rfl, by kernel_rfl, by kernel_rfl, by kernel_rfl, rfl⟩
def c188 : SC :=
 (.seq (.ops [⟨some 2, .plain (.box 4), [.tmp 0], none⟩, ⟨some 4, .plain (.alloc [(.int .i64 0), (.int .i64 0), (.int .i64 0), (.str ⟨#[]⟩)]), [], none⟩] []) (.seq (.ops [⟨some 5, .plain (.fieldAddr 0), [.tmp 2], none⟩, ⟨some 6, .plain (.load false 1), [.tmp 5], none⟩, ⟨some 7, .plain .mv, [.tmp 1], none⟩, ⟨some 8, .plain (.build [(.int .i64 0), (.int .i64 0), (.int .i64 0), (.str ⟨#[]⟩)] [(0, 1), (3, 1)]), [.tmp 6, .tmp 7], none⟩, ⟨none, .plain (.store 4), [.tmp 4, .tmp 8], none⟩] [5, 6, 7, 8]) .ret))
def cr188 : List Res := [(4, some (true, 4))]
theorem ok188 : FOk Bk.pg.toProgram Bk.imp 188 c188 cr188 Tryz.f188.ntmps := ⟨Tryz.f188, _, Tryz.func188, rfl, by kernel_rfl, by kernel_rfl, by kernel_rfl, rfl⟩
def c272 : SC :=
 (.seq (.ops [⟨some 1, .plain (.box 6), [.tmp 0], none⟩, ⟨some 2, .plain .mv, [.lit (.bool false)], none⟩] []) (.seq (.ops [⟨some 3, .plain (.fieldAddr 0), [.tmp 1], none⟩, ⟨some 4, .plain (.load false 1), [.tmp 3], none⟩, ⟨some 5, .call 133, [.tmp 4], none⟩, ⟨some 6, .plain (.eqNil false true), [.tmp 5, .lit (.const .nilIface)], none⟩, ⟨some 7, .plain .mv, [.tmp 6], none⟩, ⟨some 8, .plain (.fieldAddr 1), [.tmp 1], (some (7, true))⟩, ⟨some 9, .plain (.load false 1), [.tmp 8], (some (7, true))⟩, ⟨some 10, .plain (.bin .eql), [.tmp 9, .lit (.int .i64 0)], (some (7, true))⟩, ⟨some 11, .plain .pick, [.tmp 7, .tmp 10, .lit (.bool false)], none⟩, ⟨some 12, .plain .mv, [.tmp 11], none⟩, ⟨some 13, .plain (.fieldAddr 2), [.tmp 1], (some (12, true))⟩, ⟨some 14, .plain (.load false 1), [.tmp 13], (some (12, true))⟩, ⟨some 15, .plain (.bin .eql), [.tmp 14, .lit (.int .i64 0)], (some (12, true))⟩, ⟨some 16, .plain .pick, [.tmp 12, .tmp 15, .lit (.bool false)], none⟩, ⟨some 17, .plain .mv, [.tmp 16], none⟩, ⟨some 18, .plain (.fieldAddr 3), [.tmp 1], (some (17, true))⟩, ⟨some 19, .plain (.load false 1), [.tmp 18], (some (17, true))⟩, ⟨some 20, .plain (.bin .geq), [.tmp 19, .lit (.int .i64 0)], (some (17, true))⟩, ⟨some 21, .plain .pick, [.tmp 17, .tmp 20, .lit (.bool false)], none⟩, ⟨some 22, .plain .mv, [.tmp 21], none⟩, ⟨some 23, .plain (.fieldAddr 3), [.tmp 1], (some (22, true))⟩, ⟨some 24, .plain (.load false 1), [.tmp 23], (some (22, true))⟩, ⟨some 25, .plain (.bin .leq), [.tmp 24, .lit (.int .i64 250)], (some (22, true))⟩, ⟨some 26, .plain .pick, [.tmp 22, .tmp 25, .lit (.bool false)], none⟩, ⟨some 27, .plain .mv, [.tmp 26], none⟩, ⟨some 28, .plain (.fieldAddr 5), [.tmp 1], (some (27, true))⟩, ⟨some 29, .plain (.load false 1), [.tmp 28], (some (27, true))⟩, ⟨some 30, .plain (.bin .eql), [.tmp 29, .lit (.str ⟨#[]⟩)], (some (27, true))⟩, ⟨some 31, .plain .pick, [.tmp 27, .tmp 30, .lit (.bool false)], none⟩, ⟨some 2, .plain .mv, [.tmp 31], none⟩] [3, 4, 5, 6, 7, 8, 9, 10, 11, 12, 13, 14, 15, 16, 17, 18, 19, 20, 21, 22, 23, 24, 25, 26, 27, 28, 29, 30, 31]) .ret))
def cr272 : List Res := [(2, none)]
theorem ok272 : FOk Bk.pg.toProgram Bk.imp 272 c272 cr272 Tryz.f272.ntmps := ⟨Tryz.f272, _, Tryz.func272, rfl, by kernel_rfl, by kernel_rfl, by kernel_rfl, rfl⟩
def c91 : SC :=
 (.seq (.ops [⟨some 3, .plain (.box 2), [.tmp 0], none⟩, ⟨some 6, .plain (.alloc [(.int .i64 0), (.int .i64 0), (.int .i64 0), (.int .i64 0), (.bool false), (.str ⟨#[]⟩)]), [], none⟩] []) (.seq (.ops [⟨some 10, .plain (.fieldAddr 0), [.tmp 3], none⟩, ⟨some 11, .plain (.load false 1), [.tmp 10], none⟩, ⟨some 12, .plain .mv, [.tmp 1], none⟩, ⟨some 13, .plain (.indexAddr 6), [.tmp 11, .tmp 12], none⟩, ⟨some 14, .plain (.load true 6), [.tmp 13], none⟩, ⟨some 7, .plain (.alloc [(.int .i64 0), (.int .i64 0), (.int .i64 0), (.int .i64 0), (.bool false), (.str ⟨#[]⟩)]), [], none⟩, ⟨none, .plain (.store 6), [.tmp 7, .tmp 14], none⟩] [10, 11, 12, 13, 14]) (.seq (.ops [⟨some 15, .plain (.fieldAddr 0), [.tmp 7], none⟩, ⟨some 16, .plain (.load false 1), [.tmp 15], none⟩, ⟨some 17, .plain (.bin .leq), [.tmp 16, .lit (.int .i64 5)], none⟩, ⟨some 18, .call 28, [.tmp 17, .lit (.int .i64 10)], none⟩] [15, 16, 17, 18]) (.seq (.seq (.ops [⟨some 19, .plain .mv, [.tmp 2], none⟩, ⟨some 20, .plain (.bin .eql), [.tmp 19, .lit (.int .i64 0)], none⟩] [19]) (.cond (.tmp 20) (.seq (.ops [⟨some 2, .plain .mv, [.lit (.int .i64 4)], none⟩] []) (.seq (.ops [⟨some 21, .plain (.fieldAddr 0), [.tmp 7], none⟩, ⟨some 22, .plain (.load false 1), [.tmp 21], none⟩, ⟨some 23, .plain (.bin .eql), [.tmp 22, .lit (.int .i64 5)], none⟩] [21, 22]) (.cond (.tmp 23) (.ops [⟨some 2, .plain .mv, [.lit (.int .i64 5)], none⟩] []) .skip))) .skip)) (.seq (.seq (.ops [⟨some 24, .plain (.fieldAddr 0), [.tmp 7], none⟩, ⟨some 25, .plain (.load false 1), [.tmp 24], none⟩, ⟨some 26, .plain .mv, [.tmp 2], none⟩, ⟨some 27, .plain (.bin .eql), [.tmp 25, .tmp 26], none⟩] [24, 25, 26]) (.cond (.tmp 27) (.seq (.ops [⟨some 28, .plain (.load true 6), [.tmp 7], none⟩, ⟨none, .plain (.store 6), [.tmp 6, .tmp 28], none⟩] [28]) .ret) .skip)) (.seq (.ops [⟨some 30, .plain (.load true 6), [.tmp 7], none⟩, ⟨some 31, .plain .mv, [.tmp 2], none⟩, ⟨some 32, .plain (.build [(.int .i64 0), (.int .i64 0), (.int .i64 0), (.int .i64 0), (.bool false), (.str ⟨#[]⟩)] [(0, 1)]), [.tmp 31], none⟩, ⟨some 33, .call 175, [.tmp 30, .tmp 32], none⟩, ⟨some 29, .plain .mv, [.tmp 33], none⟩, ⟨some 34, .plain (.extract 0), [.tmp 29], none⟩, ⟨some 35, .plain (.extract 1), [.tmp 29], none⟩, ⟨some 8, .plain .mv, [.tmp 34], none⟩, ⟨some 9, .plain .mv, [.tmp 35], none⟩] [30, 31, 32, 33, 29, 34, 35, 9]) (.seq (.ops [⟨some 36, .plain .mv, [.tmp 2], none⟩, ⟨some 37, .plain .mv, [.tmp 8], none⟩, ⟨some 38, .plain .min2, [.tmp 37, .lit (.int .i64 250)], none⟩, ⟨some 39, .plain (.fieldAddr 4), [.tmp 7], none⟩, ⟨some 40, .plain (.load false 1), [.tmp 39], none⟩, ⟨some 41, .plain (.build [(.int .i64 0), (.int .i64 0), (.int .i64 0), (.int .i64 0), (.bool false), (.str ⟨#[]⟩)] [(0, 1), (3, 1), (4, 1)]), [.tmp 36, .tmp 38, .tmp 40], none⟩, ⟨none, .plain (.store 6), [.tmp 6, .tmp 41], none⟩] [36, 37, 38, 39, 40, 41]) .ret)))))))
def cr91 : List Res := [(6, some (true, 6))]
theorem ok91 : FOk Bk.pg.toProgram Bk.imp 91 c91 cr91 Tryz.f91.ntmps := ⟨Tryz.f91, _, Tryz.func91, rfl, by kernel_rfl, by kernel_rfl, by kernel_rfl, rfl⟩
def c93 : SC :=
 (.seq (.ops [⟨some 3, .plain (.box 10), [.tmp 0], none⟩, ⟨some 6, .plain (.alloc [(.int .i64 0), (.int .i64 0), (.int .i64 0), (.str ⟨#[]⟩)]), [], none⟩] []) (.seq (.ops [⟨some 8, .plain (.fieldAddr 0), [.tmp 3], none⟩, ⟨some 9, .plain (.load true 2), [.tmp 8], none⟩, ⟨some 10, .plain .mv, [.tmp 1], none⟩, ⟨some 11, .plain .mv, [.tmp 2], none⟩, ⟨some 12, .call 91, [.tmp 9, .tmp 10, .tmp 11], none⟩, ⟨some 7, .plain (.alloc [(.int .i64 0), (.int .i64 0), (.int .i64 0), (.int .i64 0), (.bool false), (.str ⟨#[]⟩)]), [], none⟩, ⟨none, .plain (.store 6), [.tmp 7, .tmp 12], none⟩] [8, 9, 10, 11, 12]) (.seq (.seq (.draw (.step ⟨some 13, .plain (.fieldAddr 0), [.tmp 3], none⟩ (.step ⟨some 14, .plain (.fieldAddr 0), [.tmp 13], none⟩ (.step ⟨some 15, .plain (.load false 1), [.tmp 14], none⟩ (.step ⟨some 16, .plain .mv, [.tmp 1], none⟩ (.step ⟨some 17, .plain (.indexAddr 6), [.tmp 15, .tmp 16], none⟩ (.step ⟨some 18, .plain (.fieldAddr 0), [.tmp 17], none⟩ (.step ⟨some 19, .plain (.load false 1), [.tmp 18], none⟩ (.step ⟨some 20, .plain (.fieldAddr 0), [.tmp 7], none⟩ (.step ⟨some 21, .plain (.load false 1), [.tmp 20], none⟩ (.step ⟨some 22, .plain (.bin .eql), [.tmp 19, .tmp 21], none⟩ .done)))))))))) [13, 14, 15, 16, 17, 18, 19, 20, 21]) (.cond (.tmp 22) (.seq (.ops [⟨some 23, .plain (.fieldAddr 2), [.tmp 3], none⟩, ⟨some 24, .plain (.load false 1), [.tmp 23], none⟩, ⟨some 25, .plain .mv, [.tmp 1], none⟩, ⟨some 26, .plain (.indexAddr 4), [.tmp 24, .tmp 25], none⟩, ⟨some 27, .plain (.load true 4), [.tmp 26], none⟩, ⟨none, .plain (.store 4), [.tmp 6, .tmp 27], none⟩] [23, 24, 25, 26, 27]) .ret) .skip)) (.seq (.ops [⟨some 28, .plain (.load true 10), [.tmp 3], none⟩, ⟨some 29, .plain .mv, [.tmp 1], none⟩, ⟨some 30, .plain (.load true 6), [.tmp 7], none⟩, ⟨some 31, .call 116, [.tmp 28, .tmp 29, .tmp 30], none⟩, ⟨none, .plain (.store 4), [.tmp 6, .tmp 31], none⟩] [28, 29, 30, 31]) .ret))))
def cr93 : List Res := [(6, some (true, 4))]
theorem ok93 : FOk Bk.pg.toProgram Bk.imp 93 c93 cr93 Tryz.f93.ntmps := ⟨Tryz.f93, _, Tryz.func93, rfl, by kernel_rfl, by kernel_rfl, by kernel_rfl, rfl⟩
def c122 : SC :=
 (.seq (.ops [⟨some 2, .plain (.box 10), [.tmp 0], none⟩, ⟨some 4, .plain .mv, [.lit (.int .i64 0)], none⟩] []) (.seq (.draw (.step ⟨some 5, .plain (.load true 10), [.tmp 2], none⟩ (.step ⟨some 6, .plain .mv, [.tmp 1], none⟩ (.step ⟨some 7, .call 67, [], none⟩ (.step ⟨some 8, .call 116, [.tmp 5, .tmp 6, .tmp 7], none⟩ (.step ⟨some 9, .plain (.field false 1 1), [.tmp 8], none⟩ (.step ⟨some 4, .plain .mv, [.tmp 9], none⟩ .done)))))) [5, 6, 7, 8, 9]) .ret))
def cr122 : List Res := [(4, none)]
def c268 : SC :=
 (.seq (.ops [⟨some 2, .plain .mv, [.lit (.bool false)], none⟩] []) (.seq (.seq (.ops [⟨some 5, .plain .mv, [.tmp 0], none⟩, ⟨some 6, .plain (.len 1), [.tmp 5], none⟩, ⟨some 7, .plain .mv, [.lit (.int .i64 0)], none⟩] []) (.block 0 (.loop (.seq (.ops [⟨some 8, .plain (.bin .lss), [.tmp 7, .tmp 6], none⟩] []) (.seq (.cond (.tmp 8) .skip (.exit 0)) (.seq (.block 1 (.seq (.ops [⟨some 9, .plain (.indexAddr 1), [.tmp 5, .tmp 7], none⟩, ⟨some 10, .plain (.load false 1), [.tmp 9], none⟩, ⟨some 4, .plain .mv, [.tmp 10], none⟩] [9, 10]) (.seq (.ops [⟨some 11, .plain .mv, [.tmp 4], none⟩, ⟨some 12, .plain (.bin .gtr), [.tmp 11, .lit (.int .i64 1000000000)], none⟩, ⟨some 13, .plain .mv, [.tmp 12], none⟩, ⟨some 14, .plain .mv, [.tmp 4], (some (13, false))⟩, ⟨some 15, .plain (.bin .lss), [.tmp 14, .lit (.int .i64 (-1000000000))], (some (13, false))⟩, ⟨some 16, .plain .pick, [.tmp 13, .lit (.bool true), .tmp 15], none⟩] [11, 12, 13, 14, 15]) (.cond (.tmp 16) (.seq (.ops [⟨some 2, .plain .mv, [.lit (.bool true)], none⟩] []) .ret) .skip)))) (.ops [⟨some 17, .plain (.bin .add), [.tmp 7, .lit (.int .i64 1)], none⟩, ⟨some 7, .plain .mv, [.tmp 17], none⟩] [17]))))))) (.seq (.ops [⟨some 2, .plain .mv, [.lit (.bool false)], none⟩] []) .ret)))
def cr268 : List Res := [(2, none)]
theorem ok268 : FOk Bk.pg.toProgram Bk.imp 268 c268 cr268 Tryz.f268.ntmps := ⟨Tryz.f268, _, Tryz.func268, rfl, by kernel_rfl, by kernel_rfl, by kernel_rfl, rfl⟩
end Go.Pm

/- BkX1: contracts: strings of characters that are right, by the program and by the reference. -/
namespace Go.Pm
open Go Go.Proofs
attribute [-simp] List.getElem?_map
def okC (b : UInt8) : Bool := !ltI b.toNat 32 && !ltI 126 b.toNat
def chB (s : ByteArray) : Bool := leI s.size 250 && s.data.toList.all okC
theorem all_okC (s : ByteArray) : s.data.toList.all okC = true ↔ ∀ j, j < s.size → okC (byteAt s j) = true := by
  rw [List.all_eq_true]
  constructor
  · intro h j hj
    have hj' : j < s.data.toList.length := hj
    apply h
    unfold byteAt
    rw [List.getD_eq_getElem?_getD, List.getElem?_eq_getElem hj', Option.getD_some]
    exact List.getElem_mem hj'
  · intro h b hb
    obtain ⟨j, hj, rfl⟩ := List.mem_iff_getElem.1 hb
    have := h j hj
    unfold byteAt at this
    rwa [List.getD_eq_getElem?_getD, List.getElem?_eq_getElem hj, Option.getD_some] at this
theorem chB_bad {s : ByteArray} {i : Nat} (h1 : ltI ↑i ↑s.size = true) (h2 : okC (byteAt s i) = false) : chB s = false := by
  cases hn : chB s with
  | false => rfl
  | true =>
    simp only [chB, Bool.and_eq_true] at hn
    have := (all_okC s).1 hn.2 i (by have := ltI_t.1 h1; omega)
    rw [h2] at this; cases this
theorem chB_size {s : ByteArray} (h : chB s = true) : s.size ≤ 250 := by
  simp only [chB, Bool.and_eq_true] at h
  have := leI_t.1 h.1
  omega
def tyC (n : Int) (v : Bool) : List AV := ty 4 0 0 n v ⟨#[]⟩
def vlC (s : ByteArray) : List AV := vl 4 0 0 s
theorem call11 (s : ByteArray) : PCalls Bk.pg 11 [.agg (vlC s)] fun out => out = .ret (.bool (chB s)) := by
  refine ok11.pcalls (by simp) ?_
  have z : eqI 0 0 = true := rfl
  have z44 : eqI 4 4 = true := rfl
  have z45 : eqI 4 5 = false := rfl
  simp [c11, vlC, vl, z]
  refine br_guard_f rfl (fun h => ?_) (fun h => ?_)
  · have : chB s = false := by
      have h1 : leI s.size 250 = false := leI_f.2 (ltI_t.1 h)
      simp [chB, h1]
    simp [h, cr11, this]
  · have hs : s.size ≤ 250 := by have := ltI_f.1 h; omega
    have hs' : leI s.size 250 = true := leI_t.2 (by omega)
    simp [z44, h]
    refine wpS_loop (ι := Nat) (fun i => [(1, .ptr 0 0 0), (3, .int .i64 i)]) (fun _ => ⟨[(0, .cells (vlC s))], 1⟩) (fun i => s.size - i) (fun i => i ≤ s.size ∧ ∀ j, j < i → okC (byteAt s j) = true) 0 (by simp) (Env.le_of (by simp)) rfl ?_
    intro i ⟨hi, hall⟩
    have hw : IntKind.i64.wrap (i + 1) = i + 1 := wrap64 (by omega) (by omega)
    simp [vlC, vl]
    refine br_cond rfl (fun h => ?_) (fun h => ?_)
    · have hi2 := ltI_t.1 h
      simp [h, idxS, z45]
      refine br_guard_f rfl (fun h1 => ?_) (fun h1 => ?_)
      · simp [h1, cr11, chB_bad h (by simp [okC, h1])]
      · simp [h1, h, idxS]
        refine br_cond rfl (fun h2 => ?_) (fun h2 => ?_)
        · simp [cr11, chB_bad h (by simp [okC, h2])]
        · simp [h2, hw]
          refine ⟨i + 1, ⟨by omega, fun j hj => ?_⟩, by omega, Env.le_of (by simp), Mem.le_of rfl (by simp)⟩
          rcases Nat.lt_or_ge j i with hj' | hj'
          · exact hall j hj'
          · rw [show j = i by omega]; simp [okC, h1, h2]
    · simp [h]
      have hi' : i = s.size := by have := ltI_f.1 h; omega
      have hA : chB s = true := by
        have : s.data.toList.all okC = true := (all_okC s).2 fun j hj => hall j (by omega)
        simp [chB, hs', this]
      simp [cr11, hA]
end Go.Pm

/- BkC9: contracts: what is asked of numbers; zeros; numbers fitted into types. -/
namespace Go.Pm
open Go Go.Proofs
attribute [-simp] List.getElem?_map
attribute [simp] nilCheckA postA_norm
theorem call242 {k : Int} (hk : k = 1 ∨ k = 2) : PCalls Bk.pg 242 [.int .i64 k] fun out => out = .ret (.bool true) := by
  refine ok242.pcalls (by simp) ?_
  simp [c242]
  refine xcall_p (call49 k 1 3) (by simp) ?_
  have e : (leI 1 k && leI k 3) = true := by
    rw [Bool.and_eq_true]
    exact ⟨leI_t.2 (by omega), leI_t.2 (by omega)⟩
  rw [e]
  simp [cr242]
theorem call210 {k : Int} (hk : k = 1 ∨ k = 2) : PCalls Bk.pg 210 [.int .i64 k] fun out => out = .ret (.int .i64 (if k = 1 then 2 else 10)) := by
  refine ok210.pcalls (by simp) ?_
  rcases hk with rfl | rfl
  · have z1 : eqI 1 1 = true := rfl
    simp [c210, cr210, z1]
  · have z1 : eqI 2 1 = false := rfl
    have z2 : eqI 2 2 = true := rfl
    simp [c210, cr210, z1, z2]
theorem call138 {k p q : Int} (h : ValidN k p q) : PCalls Bk.pg 138 [.agg (tyN k p q)] fun out => out = .ret (.tuple [.agg (vlN k 0 q), .int .i64 0]) := by
  refine ok138.pcalls (by simp) ?_
  have c1 := call31 h.1 h.2
  have hk : k = 1 ∨ k = 2 := by have := h.1; omega
  have c2 := call210 hk
  simp only [tyN, ty] at c1
  simp [c138, tyN, ty]
  refine xcall_p c1 (by simp) ?_
  simp
  refine xcall_p c2 (by simp) ?_
  have z : ltI 0 (if k = 1 then 2 else 10) = true := by split <;> rfl
  simp [z, cr138, vlN, vl]
theorem call160 {k p q : Int} {vs : List (Int × Int × Int)} {S : List (Nat × AObj)} {nx tp tg rp rg : Nat} (h : ValidN k p q) (hv : ∀ v ∈ vs, RightN v.1 v.2.1 v.2.2) (ht : S[tp]? = some (tg, .cells (tyN k p q))) (hr : S[rp]? = some (rg, .row 24 4 (vs.map fun v => vlN v.1 v.2.1 v.2.2))) (hl : vs.length ≤ 100) :
    ACalls Bk.pg 160 [.ptr tp tg 0, .row rp rg 4 0 vs.length] ⟨S, nx⟩ fun out m' => out = .ret (.int .i64 0) ∧ ∃ nx', m' = ⟨S, nx'⟩ := by
  refine ACalls.forget (ok160.acalls (by simp) ?_)
  simp only [vlN, vl] at hr
  have c1 := call31 h.1 h.2
  have hk : k = 1 ∨ k = 2 := by have := h.1; omega
  simp [c160]
  refine wpS_loopS (ι := Nat × Nat) (fun s => [(0, .ptr tp tg 0), (1, .row rp rg 4 0 vs.length), (9, .row rp rg 4 0 vs.length), (10, .int .i64 vs.length), (11, .int .i64 (s.1 : Nat))]) (fun s => ⟨S, s.2⟩) (fun s => vs.length - s.1) (fun s => s.1 ≤ vs.length) (0, nx) (Nat.zero_le _) (Sim.of_le (Env.le_of (by simp)) (Mem.le_of rfl (by simp))) ?_
  rintro ⟨i, n⟩ hi
  simp only at hi
  have hwi : IntKind.i64.wrap ((i : Int) + 1) = (i : Int) + 1 := wrap64 (by omega) (by omega)
  simp
  refine br_cond rfl (fun h1 => ?_) (fun h1 => ?_)
  · have hlt : i < vs.length := by have := ltI_t.1 h1; omega
    have hx := idxM (f := fun v : Int × Int × Int => vlN v.1 v.2.1 v.2.2) h1
    have c2 := call51 (hv _ (ix_mem hlt))
    obtain ⟨x, hxx⟩ : ∃ x, x = ix vs i := ⟨_, rfl⟩
    rw [← hxx] at hx c2
    simp only [vlN, vl] at c2 hx
    simp [h1, hr, hx]
    refine xcall_p c2 (by simp) ?_
    simp [hwi]
    exact ⟨i + 1, by omega, by omega, _, Sim.of_le (Env.le_of (by simp)) (Mem.le_of rfl (by simp))⟩
  · simp only [tyN, ty] at c1 ht
    have tl := (List.getElem?_eq_some_iff.1 ht).1
    simp [ht]
    refine xcall_p c1 (by simp) ?_
    simp
    refine wpS_loopS (ι := Nat × Nat) (fun s => [(0, .ptr tp tg 0), (1, .row rp rg 4 0 vs.length), (28, .row rp rg 4 0 vs.length), (29, .int .i64 vs.length), (30, .int .i64 (s.1 : Nat))]) (fun s => ⟨S, s.2⟩) (fun s => vs.length - s.1) (fun s => s.1 ≤ vs.length) (0, n) (Nat.zero_le _) (Sim.of_le (Env.le_of (by simp)) (Mem.le_of rfl (by simp))) ?_
    rintro ⟨i, n⟩ hi
    simp only at hi
    have hwi : IntKind.i64.wrap ((i : Int) + 1) = (i : Int) + 1 := wrap64 (by omega) (by omega)
    simp
    refine br_cond rfl (fun h1 => ?_) (fun h1 => ?_)
    · have hlt : i < vs.length := by have := ltI_t.1 h1; omega
      have hx := idxM (f := fun v : Int × Int × Int => vlN v.1 v.2.1 v.2.2) h1
      have hv2 := hv _ (ix_mem hlt)
      obtain ⟨x, hxx⟩ : ∃ x, x = ix vs i := ⟨_, rfl⟩
      rw [← hxx] at hx hv2
      simp only [vlN, vl] at hx
      have c3 := call242 (k := x.1) (by have := hv2.1; omega)
      simp [h1, hr, hx]
      refine xcall_p c3 (by simp) ?_
      simp [hwi]
      exact ⟨i + 1, by omega, by omega, _, Sim.of_le (Env.le_of (by simp)) (Mem.le_of rfl (by simp))⟩
    · have c4 := call242 hk
      simp [ht]
      refine xcall_p c4 (by simp) ?_
      simp [cr160, postA_ret]
      exact ⟨_, Mem.le_of rfl (by simp), _, rfl⟩
def sgn (neg : Bool) (n : Nat) : Int := if neg then -(n : Int) else n
theorem call238 {k e wide : Int} {p q n : Nat} {neg : Bool} (h : ValidN k p q) (hn : (digs n).length ≤ 500) (he : -500 ≤ e ∧ e ≤ 500) :
    PCalls Bk.pg 238 [.agg (lg n neg e), .agg (tyN k p q), .int .i64 wide] fun out => out = .ret (.tuple [.agg (vlN k (sgn neg (fixN k p q n e)) q), .int .i64 (if fixL k p q n e then wide else 0)]) := by
  refine ok238.pcalls (by simp) ?_
  obtain ⟨hk, hq⟩ := h
  have c := call318 (k := k) (e := e) (tn := 0) (n := n) (p := p) (q := q) (neg := neg) (vary := false) (pic := ⟨#[]⟩) (by omega) (by split <;> omega) (by omega) hn he
  have z3 : eqI k 3 = false := by
    cases h : eqI k 3 with
    | false => rfl
    | true => have := eqI_t.1 h; omega
  obtain ⟨L, hL⟩ : ∃ L, L = fixL k p q n e := ⟨_, rfl⟩
  rw [← hL] at c ⊢
  simp only [lg, ty] at c
  simp [c238, lg, tyN, ty, z3]
  refine xcall_p c (by simp) ?_
  cases L <;> simp [cr238, vlN, vl, sgn]
def exN (k n q : Int) : Nat := if k = 1 then n.natAbs * 5 ^ q.toNat else n.natAbs
theorem exN_len {k n q : Int} (h : RightN k n q) : (digs (exN k n q)).length ≤ 100 := by
  have h1 : n.natAbs < 10 ^ 15 := by have := h.1; omega
  unfold exN
  split
  · have h2 : 5 ^ q.toNat < 10 ^ 85 := by
      have h3 : 5 ^ q.toNat ≤ 10 ^ q.toNat := Nat.pow_le_pow_left (by omega) _
      have h4 : 10 ^ q.toNat < 10 ^ 85 := Nat.pow_lt_pow_right (by decide) (by have := h.2; omega)
      omega
    refine digs_len 100 _ ?_
    rw [show 100 = 15 + 85 from rfl, Nat.pow_add]
    exact Nat.mul_lt_mul'' h1 h2
  · exact Nat.le_trans (digs_len 15 _ h1) (by omega)
theorem call165N {k n q : Int} (h : RightN k n q) : PCalls Bk.pg 165 [.agg (vlN k n q)] fun out => out = .ret (.agg (lg (exN k n q) (decide (n < 0)) (-q))) := by
  have := call165 (k := k) (n := n) (q := q) (s := ⟨#[]⟩) (by have := h.1; omega) (by have := h.2; omega) (fun _ => by have := h.2; omega)
  rw [if_pos (show k = 1 ∨ k = 2 by have := h.1; omega)] at this
  exact this
def fitN (k n q k2 : Int) (p2 q2 : Nat) : Int := sgn (decide (n < 0)) (fixN k2 p2 q2 (exN k n q) (-q))
def fitL (k n q k2 : Int) (p2 q2 : Nat) : Bool := fixL k2 p2 q2 (exN k n q) (-q)
theorem call158 {k n q k2 : Int} {p2 q2 : Nat} (hr : RightN k n q) (hv : ValidN k2 p2 q2) :
    PCalls Bk.pg 158 [.agg (vlN k n q), .agg (tyN k2 p2 q2)] fun out => out = .ret (.tuple [.agg (vlN k2 (fitN k n q k2 p2 q2) q2), .int .i64 (if fitL k n q k2 p2 q2 then 4 else 0), .int .i64 0]) := by
  refine ok158.pcalls (by simp) ?_
  have c1 := fun (S : List (Nat × AObj)) (nx : Nat) (h1 : S[1]? = some (1, .cells (tyN k2 p2 q2))) (h2 : S[3]? = some (3, .row 24 4 [vlN k n q])) => call160 (vs := [(k, n, q)]) (S := S) (nx := nx) (tp := 1) (tg := 1) (rp := 3) (rg := 3) hv (fun v hv' => by rw [List.mem_singleton.1 hv']; exact hr) h1 h2 (by simp)
  have c2 := call165N hr
  have c3 := call238 (k := k2) (e := -q) (wide := 4) (p := p2) (q := q2) (n := exN k n q) (neg := decide (n < 0)) hv (Nat.le_trans (exN_len hr) (by omega)) (by have := hr.2; omega)
  unfold fitN fitL
  obtain ⟨x, hx⟩ : ∃ x, x = sgn (decide (n < 0)) (fixN k2 p2 q2 (exN k n q) (-q)) := ⟨_, rfl⟩
  obtain ⟨L, hL⟩ : ∃ L, L = fixL k2 p2 q2 (exN k n q) (-q) := ⟨_, rfl⟩
  rw [← hx, ← hL] at c3 ⊢
  simp only [vlN, vl, tyN, ty, List.length_singleton] at c1 c2 c3 ⊢
  simp [c158]
  refine xcall_r (c1 _ _ rfl rfl) ?_ ?_
  · rintro v m' ⟨hv', nx', rfl⟩
    cases hv'
    have z : eqI 0 0 = true := rfl
    simp [z]
    refine xdcall_p rfl c2 (by simp) ?_
    simp
    refine xdcall_p rfl c3 (by simp [lg]) ?_
    simp [cr158]
  · rintro v m' ⟨hv', _⟩
    cases hv'
end Go.Pm

/- BkC10: contracts: the rest of a division. -/
namespace Go.Pm
open Go Go.Proofs
attribute [-simp] List.getElem?_map
def modE (q1 q2 : Int) : Int := min (-q1) (-q2)
def modX (k1 n1 q1 q2 : Int) : Nat := exN k1 n1 q1 * 10 ^ (-q1 - modE q1 q2).toNat
def modY (k2 n2 q1 q2 : Int) : Nat := exN k2 n2 q2 * 10 ^ (-q2 - modE q1 q2).toNat
def modR (X Y : Nat) (n1 n2 : Int) : Nat := if ltI 0 ↑(digs (X % Y)).length && (decide (n1 < 0) != decide (n2 < 0)) then Y - X % Y else X % Y
set_option maxHeartbeats 2000000 in
theorem call164 {k1 n1 q1 k2 n2 q2 k : Int} {p q : Nat} (hr1 : RightN k1 n1 q1) (hr2 : RightN k2 n2 q2) (hv : ValidN k p q) :
    PCalls Bk.pg 164 [.agg (vlN k1 n1 q1), .agg (vlN k2 n2 q2), .agg (tyN k p q)] fun out => out = .ret (if eqI n2 0 then .tuple [.agg (vlN k 0 q), .int .i64 9, .int .i64 0] else
      .tuple [.agg (vlN k (sgn (decide (n2 < 0)) (fixN k p q (modR (modX k1 n1 q1 q2) (modY k2 n2 q1 q2) n1 n2) (modE q1 q2))) q), .int .i64 (if fixL k p q (modR (modX k1 n1 q1 q2) (modY k2 n2 q1 q2) n1 n2) (modE q1 q2) then 4 else 0), .int .i64 0]) := by
  refine ok164.pcalls (by simp) ?_
  have c1 := fun (S : List (Nat × AObj)) (nx : Nat) (h1 : S[2]? = some (2, .cells (tyN k p q))) (h2 : S[4]? = some (4, .row 24 4 [vlN k1 n1 q1, vlN k2 n2 q2])) => call160 (vs := [(k1, n1, q1), (k2, n2, q2)]) (S := S) (nx := nx) (tp := 2) (tg := 2) (rp := 4) (rg := 4) hv (fun v hv' => by
    rcases List.mem_cons.1 hv' with rfl | hv'
    · exact hr1
    · rw [List.mem_singleton.1 hv']; exact hr2) h1 h2 (by simp)
  have cz := call138 hv
  have ca := call165N hr1
  have cb := call165N hr2
  have z : eqI 0 0 = true := rfl
  simp only [vlN, vl, tyN, ty, List.length_cons, List.length_nil, Nat.zero_add, Nat.reduceAdd] at c1 cz ca cb ⊢
  simp [c164]
  refine xcall_r (c1 _ _ rfl rfl) ?_ ?_
  rotate_left
  · rintro v m' ⟨hv', _⟩
    cases hv'
  rintro v m' ⟨hv', nx', rfl⟩
  cases hv'
  simp [z]
  refine br_cond rfl (fun h => ?_) (fun h => ?_)
  · simp
    refine xcall_p cz (by simp) ?_
    simp [cr164, h]
  · have l1 := exN_len hr1
    have l2 := exN_len hr2
    have q1b := hr1.2
    have q2b := hr2.2
    have hme : modE q1 q2 = min (-q1) (-q2) := rfl
    have cl := call251 (a := exN k1 n1 q1) (b := exN k2 n2 q2) (na := decide (n1 < 0)) (nb := decide (n2 < 0)) (ea := -q1) (eb := -q2) (by omega) (by omega) (by omega) (by omega)
    rw [← hme] at cl
    rw [show exN k1 n1 q1 * 10 ^ (-q1 - modE q1 q2).toNat = modX k1 n1 q1 q2 from rfl, show exN k2 n2 q2 * 10 ^ (-q2 - modE q1 q2).toNat = modY k2 n2 q1 q2 from rfl] at cl
    have lX : (digs (modX k1 n1 q1 q2)).length ≤ 140 := by
      refine digs_len 140 _ ?_
      unfold modX
      rw [show 140 = 100 + 40 from rfl, Nat.pow_add]
      refine Nat.mul_lt_mul'' (digs_lt l1) (Nat.pow_lt_pow_right (by decide) ?_)
      omega
    have lY : (digs (modY k2 n2 q1 q2)).length ≤ 140 := by
      refine digs_len 140 _ ?_
      unfold modY
      rw [show 140 = 100 + 40 from rfl, Nat.pow_add]
      refine Nat.mul_lt_mul'' (digs_lt l2) (Nat.pow_lt_pow_right (by decide) ?_)
      omega
    have hY0 : 0 < modY k2 n2 q1 q2 := by
      have hn : n2 ≠ 0 := fun h0 => by rw [h0] at h; cases h
      have hn' : 0 < n2.natAbs := by omega
      unfold modY exN
      refine Nat.mul_pos ?_ (Nat.pow_pos (by decide))
      split
      · exact Nat.mul_pos hn' (Nat.pow_pos (by decide))
      · exact hn'
    obtain ⟨E, hE⟩ : ∃ E, E = modE q1 q2 := ⟨_, rfl⟩
    obtain ⟨X, hX⟩ : ∃ X, X = modX k1 n1 q1 q2 := ⟨_, rfl⟩
    obtain ⟨Y, hY⟩ : ∃ Y, Y = modY k2 n2 q1 q2 := ⟨_, rfl⟩
    rw [← hX, ← hY, ← hE] at cl ⊢
    rw [← hX] at lX
    rw [← hY] at lY hY0
    have hEb : -100 ≤ E ∧ E ≤ 100 := by omega
    have hov := call252 (A := X) (B := Y) hY0 (by omega) (by omega)
    have lq : (digs (X / Y)).length ≤ 140 := digs_len 140 _ (Nat.lt_of_le_of_lt (Nat.div_le_self _ _) (digs_lt lX))
    have hpr := call169 (a := X / Y) (b := Y) (na := false) (nb := false) (ea := 0) (eb := 0) (by omega) (by omega) (by omega) (by omega)
    have hle : X / Y * Y ≤ X := Nat.div_mul_le_self X Y
    have lm : (digs (X / Y * Y)).length ≤ 140 := digs_len 140 _ (Nat.lt_of_le_of_lt hle (digs_lt lX))
    have hls := lessC (x := X) (y := X / Y * Y) hle (by omega) (by omega)
    have hmod : X - X / Y * Y = X % Y := by
      have := Nat.div_add_mod X Y
      rw [Nat.mul_comm] at this
      omega
    rw [hmod] at hls
    have hRlt := Nat.mod_lt X hY0
    have lR : (digs (X % Y)).length ≤ 140 := digs_len 140 _ (Nat.lt_trans hRlt (digs_lt lY))
    have hls2 := lessC (x := Y) (y := X % Y) (by omega) (by omega) (by omega)
    simp [h]
    refine xdcall_p rfl ca (by simp) ?_
    simp
    refine xdcall_p rfl cb (by simp) ?_
    simp
    refine xdcall_p rfl cl (by simp [lg]) ?_
    simp [lg]
    refine ⟨?_, ?_⟩
    all_goals
      refine xdcall_p rfl hov (by simp) ?_
      simp
      refine xdcall_p rfl hpr (by simp [lg]) ?_
      simp [lg]
      refine xdcall_p rfl hls (by simp) ?_
      simp
      have fin : ∀ R : Nat, R = modR X Y n1 n2 → (digs R).length ≤ 140 := by
        intro R hR
        rw [hR, modR]
        split
        · exact digs_len 140 _ (Nat.lt_of_le_of_lt (Nat.sub_le _ _) (digs_lt lY))
        · exact lR
      have hfit := call238 (k := k) (e := E) (wide := 4) (p := p) (q := q) (n := modR X Y n1 n2) (neg := decide (n2 < 0)) hv (Nat.le_trans (fin _ rfl) (by omega)) (by omega)
      obtain ⟨v, hvv⟩ : ∃ v, v = sgn (decide (n2 < 0)) (fixN k p q (modR X Y n1 n2) E) := ⟨_, rfl⟩
      obtain ⟨L, hL⟩ : ∃ L, L = fixL k p q (modR X Y n1 n2) E := ⟨_, rfl⟩
      rw [← hvv, ← hL] at hfit ⊢
      simp only [vlN, vl, tyN, ty] at hfit
      refine br_guard_t rfl (fun h5 => ?_) (fun h5 => ?_)
      · simp [h5]
        refine br_cond rfl (fun h6 => ?_) (fun h6 => ?_)
        · have hR : modR X Y n1 n2 = Y - X % Y := by simp [modR, h5]; intro h7; simp [h7] at h6
          rw [hR] at hfit
          simp
          refine xcall_p hls2 (by simp) ?_
          simp
          refine xcall_p hfit (by simp [lg]) ?_
          simp [cr164, h]
        · have hR : modR X Y n1 n2 = X % Y := by simp [modR, h5]; intro h7; exact absurd h7 (by simpa using h6)
          rw [hR] at hfit
          simp
          refine xcall_p hfit (by simp [lg]) ?_
          simp [cr164, h]
      · have hR : modR X Y n1 n2 = X % Y := by simp [modR, h5]
        rw [hR] at hfit
        simp [h5]
        refine xcall_p hfit (by simp [lg]) ?_
        simp [cr164, h]
end Go.Pm

/- BkS3: code, resolved. Printed by ShowSC.lean and genok.py. -/
namespace Go.Pm
open Go Go.Proofs
def c137 : SC :=
 let s1 : DT := (.step ⟨none, .plain (.store 5), [.tmp 7, .tmp 39], none⟩ (.step ⟨some 8, .plain .mv, [.lit (.int .i64 0)], none⟩ .done))
 let s0 : DT := (.step ⟨none, .plain (.store 4), [.tmp 10, .tmp 36], none⟩ (.step ⟨none, .plain (.store 5), [.tmp 11, .tmp 37], none⟩ .done))
 (.seq (.ops [⟨some 3, .plain (.box 4), [.tmp 0], none⟩, ⟨some 4, .plain (.box 6), [.tmp 1], none⟩, ⟨some 5, .plain (.box 6), [.tmp 2], none⟩, ⟨some 6, .plain (.alloc [(.int .i64 0), (.int .i64 0), (.int .i64 0), (.str ⟨#[]⟩)]), [], none⟩, ⟨some 7, .plain (.alloc [(.int .i64 0), (.str ⟨#[]⟩), (.int .i64 0), (.str ⟨#[]⟩), (.int .i64 0)]), [], none⟩, ⟨some 8, .plain .mv, [.lit (.int .i64 0)], none⟩] []) (.seq (.seq (.ops [⟨some 12, .plain (.load true 4), [.tmp 3], none⟩, ⟨some 13, .plain (.load true 6), [.tmp 4], none⟩, ⟨some 14, .plain (.load true 6), [.tmp 5], none⟩, ⟨some 15, .plain (.buildRow 32 6 1 [(.int .i64 0), (.int .i64 0), (.int .i64 0), (.int .i64 0), (.bool false), (.str ⟨#[]⟩)] [0]), [.tmp 14], none⟩, ⟨some 16, .call 207, [.tmp 12, .tmp 13, .tmp 15], none⟩, ⟨some 9, .plain .mv, [.tmp 16], none⟩] [12, 13, 14, 15, 16]) (.seq (.ops [⟨some 17, .plain .mv, [.tmp 9], none⟩, ⟨some 18, .plain (.bin .neq), [.tmp 17, .lit (.int .i64 0)], none⟩] [17]) (.cond (.tmp 18) (.seq (.ops [⟨some 19, .plain (.build [(.int .i64 0), (.int .i64 0), (.int .i64 0), (.str ⟨#[]⟩)] []), [], none⟩, ⟨some 20, .plain (.build [(.int .i64 0), (.str ⟨#[]⟩), (.int .i64 0), (.str ⟨#[]⟩), (.int .i64 0)] []), [], none⟩, ⟨some 21, .plain .mv, [.tmp 9], none⟩, ⟨none, .plain (.store 4), [.tmp 6, .tmp 19], none⟩, ⟨none, .plain (.store 5), [.tmp 7, .tmp 20], none⟩, ⟨some 8, .plain .mv, [.tmp 21], none⟩] [19, 20, 21]) .ret) .skip))) (.seq (.draw (.step ⟨some 23, .call 208, [], none⟩ (.step ⟨some 24, .plain (.fieldAddr 0), [.tmp 4], none⟩ (.step ⟨some 25, .plain (.load false 1), [.tmp 24], none⟩ (.step ⟨some 26, .call 209, [.tmp 25], none⟩ (.step ⟨some 27, .plain (.indexAgg 3 3 true), [.tmp 23, .tmp 26], none⟩ (.step ⟨some 28, .plain (.fieldAddr 0), [.tmp 5], none⟩ (.step ⟨some 29, .plain (.load false 1), [.tmp 28], none⟩ (.step ⟨some 30, .call 209, [.tmp 29], none⟩ (.step ⟨some 31, .plain (.indexAgg 3 1 false), [.tmp 27, .tmp 30], none⟩ (.step ⟨some 32, .plain (.load true 4), [.tmp 3], none⟩ (.step ⟨some 33, .plain (.load true 6), [.tmp 4], none⟩ (.step ⟨some 34, .plain (.load true 6), [.tmp 5], none⟩ (.step ⟨some 35, .callv, [.tmp 31, .tmp 32, .tmp 33, .tmp 34], none⟩ (.step ⟨some 22, .plain .mv, [.tmp 35], none⟩ (.step ⟨some 36, .plain (.extract 0), [.tmp 22], none⟩ (.step ⟨some 37, .plain (.extract 1), [.tmp 22], none⟩ (.or (.step ⟨some 10, .plain (.alloc [(.int .i64 0), (.int .i64 0), (.int .i64 0), (.str ⟨#[]⟩)]), [], none⟩ (.step ⟨some 11, .plain (.alloc [(.int .i64 0), (.str ⟨#[]⟩), (.int .i64 0), (.str ⟨#[]⟩), (.int .i64 0)]), [], none⟩ s0)) (.step ⟨some 11, .plain (.alloc [(.int .i64 0), (.str ⟨#[]⟩), (.int .i64 0), (.str ⟨#[]⟩), (.int .i64 0)]), [], none⟩ (.step ⟨some 10, .plain (.alloc [(.int .i64 0), (.int .i64 0), (.int .i64 0), (.str ⟨#[]⟩)]), [], none⟩ s0))))))))))))))))))) [23, 24, 25, 26, 27, 28, 29, 30, 31, 32, 33, 34, 35, 22, 36, 37]) (.seq (.draw (.step ⟨some 38, .plain (.load true 4), [.tmp 10], none⟩ (.or (.step ⟨some 39, .plain (.load true 5), [.tmp 11], none⟩ (.step ⟨none, .plain (.store 4), [.tmp 6, .tmp 38], none⟩ s1)) (.step ⟨none, .plain (.store 4), [.tmp 6, .tmp 38], none⟩ (.step ⟨some 39, .plain (.load true 5), [.tmp 11], none⟩ s1)))) [38, 39]) .ret))))
def cr137 : List Res := [(6, some (true, 4)), (7, some (true, 5)), (8, none)]
theorem ok137 : FOk Bk.pg.toProgram Bk.imp 137 c137 cr137 Tryz.f137.ntmps := ⟨Tryz.f137, _, Tryz.func137, rfl, by kernel_rfl, by kernel_rfl, by kernel_rfl, rfl⟩
def c208 : SC :=
 (.seq (.ops [⟨some 0, .plain (.alloc [(.const .nilFunc), (.const .nilFunc), (.const .nilFunc), (.const .nilFunc), (.const .nilFunc), (.const .nilFunc), (.const .nilFunc), (.const .nilFunc), (.const .nilFunc)]), [], none⟩] []) (.seq (.ops [⟨some 1, .plain (.alloc [(.const .nilFunc)]), [], none⟩, ⟨none, .plain (.store 1), [.tmp 1, .lit (.fn 285 [])], none⟩] []) (.seq (.ops [⟨some 2, .plain (.alloc [(.const .nilFunc)]), [], none⟩, ⟨none, .plain (.store 1), [.tmp 2, .lit (.fn 287 [])], none⟩] []) (.seq (.ops [⟨some 3, .plain (.load false 1), [.tmp 1], none⟩, ⟨some 4, .plain (.mkFn 288), [.tmp 2], none⟩, ⟨some 5, .plain (.mkFn 291), [.tmp 2], none⟩, ⟨some 6, .plain (.build [(.const .nilFunc), (.const .nilFunc), (.const .nilFunc)] [(0, 1), (1, 1), (2, 1)]), [.tmp 3, .tmp 4, .tmp 5], none⟩, ⟨some 7, .plain (.mkFn 293), [.tmp 1], none⟩, ⟨some 8, .plain (.load false 1), [.tmp 2], none⟩, ⟨some 9, .plain (.mkFn 296), [.tmp 2], none⟩, ⟨some 10, .plain (.build [(.const .nilFunc), (.const .nilFunc), (.const .nilFunc)] [(0, 1), (1, 1), (2, 1)]), [.tmp 7, .tmp 8, .tmp 9], none⟩, ⟨some 11, .plain (.mkFn 297), [.tmp 1], none⟩, ⟨some 12, .plain (.load false 1), [.tmp 2], none⟩, ⟨some 13, .plain (.load false 1), [.tmp 2], none⟩, ⟨some 14, .plain (.build [(.const .nilFunc), (.const .nilFunc), (.const .nilFunc)] [(0, 1), (1, 1), (2, 1)]), [.tmp 11, .tmp 12, .tmp 13], none⟩, ⟨some 15, .plain (.build [(.const .nilFunc), (.const .nilFunc), (.const .nilFunc), (.const .nilFunc), (.const .nilFunc), (.const .nilFunc), (.const .nilFunc), (.const .nilFunc), (.const .nilFunc)] [(0, 3), (3, 3), (6, 3)]), [.tmp 6, .tmp 10, .tmp 14], none⟩, ⟨none, .plain (.store 9), [.tmp 0, .tmp 15], none⟩] [3, 4, 5, 6, 7, 8, 9, 10, 11, 12, 13, 14, 15]) .ret))))
def cr208 : List Res := [(0, some (true, 9))]
theorem ok208 : FOk Bk.pg.toProgram Bk.imp 208 c208 cr208 Tryz.f208.ntmps := ⟨Tryz.f208, _, Tryz.func208, rfl, by kernel_rfl, by kernel_rfl, by kernel_rfl, rfl⟩
def c207 : SC :=
 (.seq (.ops [⟨some 3, .plain (.box 4), [.tmp 0], none⟩, ⟨some 4, .plain (.box 6), [.tmp 1], none⟩, ⟨some 6, .plain .mv, [.lit (.int .i64 0)], none⟩] []) (.seq (.block 0 (.seq (.ops [⟨some 10, .plain (.load true 4), [.tmp 3], none⟩, ⟨some 11, .call 51, [.tmp 10], none⟩, ⟨some 12, .plain (.un .not), [.tmp 11], none⟩, ⟨some 9, .plain .mv, [.tmp 12], none⟩] [10, 11, 12]) (.cond (.tmp 9) (.seq (.ops [⟨some 6, .plain .mv, [.lit (.int .i64 1)], none⟩] []) .ret) (.seq (.ops [⟨some 14, .plain (.fieldAddr 0), [.tmp 3], none⟩, ⟨some 15, .plain (.load false 1), [.tmp 14], none⟩, ⟨some 16, .plain (.bin .eql), [.tmp 15, .lit (.int .i64 4)], none⟩, ⟨some 17, .plain .mv, [.tmp 16], none⟩, ⟨some 18, .plain (.fieldAddr 0), [.tmp 3], (some (17, false))⟩, ⟨some 19, .plain (.load false 1), [.tmp 18], (some (17, false))⟩, ⟨some 20, .plain (.bin .eql), [.tmp 19, .lit (.int .i64 5)], (some (17, false))⟩, ⟨some 21, .plain .pick, [.tmp 17, .lit (.bool true), .tmp 20], none⟩, ⟨some 22, .plain .mv, [.tmp 21], none⟩, ⟨some 23, .plain (.load true 4), [.tmp 3], (some (22, true))⟩, ⟨some 24, .call 284, [.tmp 23], (some (22, true))⟩, ⟨some 25, .plain (.un .not), [.tmp 24], (some (22, true))⟩, ⟨some 26, .plain .pick, [.tmp 22, .tmp 25, .lit (.bool false)], none⟩, ⟨some 13, .plain .mv, [.tmp 26], none⟩] [14, 15, 16, 17, 18, 19, 20, 21, 22, 23, 24, 25, 26]) (.cond (.tmp 13) (.seq (.ops [⟨some 6, .plain .mv, [.lit (.int .i64 1)], none⟩] []) .ret) (.seq (.ops [⟨some 28, .plain (.load true 6), [.tmp 4], none⟩, ⟨some 29, .call 31, [.tmp 28], none⟩, ⟨some 30, .plain (.un .not), [.tmp 29], none⟩, ⟨some 31, .plain .mv, [.tmp 30], none⟩, ⟨some 32, .plain (.load true 6), [.tmp 4], (some (31, false))⟩, ⟨some 33, .plain (.load true 4), [.tmp 3], (some (31, false))⟩, ⟨some 34, .call 33, [.tmp 32, .tmp 33], (some (31, false))⟩, ⟨some 35, .plain (.un .not), [.tmp 34], (some (31, false))⟩, ⟨some 36, .plain .pick, [.tmp 31, .lit (.bool true), .tmp 35], none⟩, ⟨some 27, .plain .mv, [.tmp 36], none⟩] [28, 29, 30, 31, 32, 33, 34, 35, 36]) (.cond (.tmp 27) (.seq (.ops [⟨some 6, .plain .mv, [.lit (.int .i64 13)], none⟩] []) .ret) .skip))))))) (.seq (.seq (.ops [⟨some 37, .plain .mv, [.tmp 2], none⟩, ⟨some 38, .plain (.len 1), [.tmp 37], none⟩, ⟨some 39, .plain .mv, [.lit (.int .i64 0)], none⟩] []) (.block 1 (.loop (.seq (.ops [⟨some 40, .plain (.bin .lss), [.tmp 39, .tmp 38], none⟩] []) (.seq (.cond (.tmp 40) .skip (.exit 1)) (.seq (.block 2 (.seq (.ops [⟨some 41, .plain (.indexAddr 6), [.tmp 37, .tmp 39], none⟩, ⟨some 42, .plain (.load true 6), [.tmp 41], none⟩, ⟨some 8, .plain (.alloc [(.int .i64 0), (.int .i64 0), (.int .i64 0), (.int .i64 0), (.bool false), (.str ⟨#[]⟩)]), [], none⟩, ⟨none, .plain (.store 6), [.tmp 8, .tmp 42], none⟩] [41, 42]) (.seq (.ops [⟨some 43, .plain (.load true 6), [.tmp 8], none⟩, ⟨some 44, .call 31, [.tmp 43], none⟩, ⟨some 45, .plain (.un .not), [.tmp 44], none⟩] [43, 44]) (.cond (.tmp 45) (.seq (.ops [⟨some 6, .plain .mv, [.lit (.int .i64 13)], none⟩] []) .ret) .skip)))) (.ops [⟨some 46, .plain (.bin .add), [.tmp 39, .lit (.int .i64 1)], none⟩, ⟨some 39, .plain .mv, [.tmp 46], none⟩] [46]))))))) (.seq (.seq (.ops [⟨some 47, .plain .mv, [.tmp 2], none⟩, ⟨some 48, .plain (.load true 6), [.tmp 4], none⟩, ⟨some 49, .plain (.buildRow 32 6 1 [(.int .i64 0), (.int .i64 0), (.int .i64 0), (.int .i64 0), (.bool false), (.str ⟨#[]⟩)] [0]), [.tmp 48], none⟩, ⟨some 50, .plain (.append 32 6 56), [.tmp 47, .tmp 49], none⟩, ⟨some 51, .call 264, [.tmp 50], none⟩, ⟨some 52, .plain (.un .not), [.tmp 51], none⟩] [47, 48, 49, 50, 51]) (.cond (.tmp 52) (.seq (.ops [⟨some 6, .plain .mv, [.lit (.int .i64 10)], none⟩] []) .ret) .skip)) (.seq (.ops [⟨some 6, .plain .mv, [.lit (.int .i64 0)], none⟩] []) .ret)))))
def cr207 : List Res := [(6, none)]
theorem ok207 : FOk Bk.pg.toProgram Bk.imp 207 c207 cr207 Tryz.f207.ntmps := ⟨Tryz.f207, _, Tryz.func207, rfl, by kernel_rfl, by kernel_rfl, by kernel_rfl, rfl⟩
def c209 : SC :=
 (.seq (.ops [⟨some 2, .plain .mv, [.lit (.int .i64 0)], none⟩] []) (.seq (.seq (.ops [⟨some 3, .plain .mv, [.tmp 0], none⟩] []) (.block 0 (.seq (.ops [⟨some 5, .plain (.bin .eql), [.tmp 3, .lit (.int .i64 4)], none⟩, ⟨some 4, .plain .mv, [.tmp 5], none⟩] [5]) (.cond (.tmp 4) (.seq (.ops [⟨some 2, .plain .mv, [.lit (.int .i64 1)], none⟩] []) .ret) (.seq (.ops [⟨some 7, .plain (.bin .eql), [.tmp 3, .lit (.int .i64 5)], none⟩, ⟨some 6, .plain .mv, [.tmp 7], none⟩] [7]) (.cond (.tmp 6) (.seq (.ops [⟨some 2, .plain .mv, [.lit (.int .i64 2)], none⟩] []) .ret) .skip)))))) (.seq (.ops [⟨some 2, .plain .mv, [.lit (.int .i64 0)], none⟩] []) .ret)))
def cr209 : List Res := [(2, none)]
theorem ok209 : FOk Bk.pg.toProgram Bk.imp 209 c209 cr209 Tryz.f209.ntmps := ⟨Tryz.f209, _, Tryz.func209, rfl, by kernel_rfl, by kernel_rfl, by kernel_rfl, rfl⟩
def c285 : SC :=
 (.seq (.ops [⟨some 3, .plain (.box 4), [.tmp 0], none⟩, ⟨some 4, .plain (.box 6), [.tmp 1], none⟩, ⟨some 5, .plain (.box 6), [.tmp 2], none⟩, ⟨some 6, .plain (.alloc [(.int .i64 0), (.int .i64 0), (.int .i64 0), (.str ⟨#[]⟩)]), [], none⟩, ⟨some 7, .plain (.alloc [(.int .i64 0), (.str ⟨#[]⟩), (.int .i64 0), (.str ⟨#[]⟩), (.int .i64 0)]), [], none⟩] [4]) (.seq (.ops [⟨some 12, .plain (.load true 4), [.tmp 3], none⟩, ⟨some 13, .plain (.load true 6), [.tmp 5], none⟩, ⟨some 14, .call 158, [.tmp 12, .tmp 13], none⟩, ⟨some 11, .plain .mv, [.tmp 14], none⟩, ⟨some 15, .plain (.extract 0), [.tmp 11], none⟩, ⟨some 16, .plain (.extract 1), [.tmp 11], none⟩, ⟨some 17, .plain (.extract 2), [.tmp 11], none⟩, ⟨some 8, .plain (.alloc [(.int .i64 0), (.int .i64 0), (.int .i64 0), (.str ⟨#[]⟩)]), [], none⟩, ⟨none, .plain (.store 4), [.tmp 8, .tmp 15], none⟩, ⟨some 9, .plain .mv, [.tmp 16], none⟩, ⟨some 10, .plain .mv, [.tmp 17], none⟩] [12, 13, 14, 11, 15, 16, 17, 10]) (.seq (.draw (.step ⟨some 18, .plain (.load true 4), [.tmp 8], none⟩ (.step ⟨some 19, .plain .mv, [.tmp 9], none⟩ (.step ⟨some 20, .call 286, [.tmp 19], none⟩ (.step ⟨none, .plain (.store 4), [.tmp 6, .tmp 18], none⟩ (.step ⟨none, .plain (.store 5), [.tmp 7, .tmp 20], none⟩ .done))))) [18, 19, 20]) .ret)))
def cr285 : List Res := [(6, some (true, 4)), (7, some (true, 5))]
theorem ok285 : FOk Bk.pg.toProgram Bk.imp 285 c285 cr285 Tryz.f285.ntmps := ⟨Tryz.f285, _, Tryz.func285, rfl, by kernel_rfl, by kernel_rfl, by kernel_rfl, rfl⟩
def c286 : SC :=
 (.seq (.ops [⟨some 2, .plain (.alloc [(.int .i64 0), (.str ⟨#[]⟩), (.int .i64 0), (.str ⟨#[]⟩), (.int .i64 0)]), [], none⟩] []) (.seq (.ops [⟨some 3, .plain .mv, [.tmp 0], none⟩, ⟨some 4, .plain (.build [(.int .i64 0), (.str ⟨#[]⟩), (.int .i64 0), (.str ⟨#[]⟩), (.int .i64 0)] [(0, 1)]), [.tmp 3], none⟩, ⟨none, .plain (.store 5), [.tmp 2, .tmp 4], none⟩] [3, 4]) .ret))
def cr286 : List Res := [(2, some (true, 5))]
theorem ok286 : FOk Bk.pg.toProgram Bk.imp 286 c286 cr286 Tryz.f286.ntmps := ⟨Tryz.f286, _, Tryz.func286, rfl, by kernel_rfl, by kernel_rfl, by kernel_rfl, rfl⟩
def c264 : SC :=
 (.seq (.ops [⟨some 2, .plain .mv, [.lit (.bool false)], none⟩] []) (.seq (.seq (.ops [⟨some 5, .plain .mv, [.tmp 0], none⟩, ⟨some 6, .plain (.len 1), [.tmp 5], none⟩, ⟨some 7, .plain .mv, [.lit (.int .i64 0)], none⟩] []) (.block 0 (.loop (.seq (.ops [⟨some 8, .plain (.bin .lss), [.tmp 7, .tmp 6], none⟩] []) (.seq (.cond (.tmp 8) .skip (.exit 0)) (.seq (.block 1 (.seq (.ops [⟨some 9, .plain (.indexAddr 6), [.tmp 5, .tmp 7], none⟩, ⟨some 10, .plain (.load true 6), [.tmp 9], none⟩, ⟨some 4, .plain (.alloc [(.int .i64 0), (.int .i64 0), (.int .i64 0), (.int .i64 0), (.bool false), (.str ⟨#[]⟩)]), [], none⟩, ⟨none, .plain (.store 6), [.tmp 4, .tmp 10], none⟩] [9, 10]) (.seq (.ops [⟨some 11, .plain (.fieldAddr 0), [.tmp 4], none⟩, ⟨some 12, .plain (.load false 1), [.tmp 11], none⟩, ⟨some 13, .plain (.bin .lss), [.tmp 12, .lit (.int .i64 1)], none⟩, ⟨some 14, .plain .mv, [.tmp 13], none⟩, ⟨some 15, .plain (.fieldAddr 0), [.tmp 4], (some (14, false))⟩, ⟨some 16, .plain (.load false 1), [.tmp 15], (some (14, false))⟩, ⟨some 17, .plain (.bin .gtr), [.tmp 16, .lit (.int .i64 5)], (some (14, false))⟩, ⟨some 18, .plain .pick, [.tmp 14, .lit (.bool true), .tmp 17], none⟩] [11, 12, 13, 14, 15, 16, 17]) (.cond (.tmp 18) (.seq (.ops [⟨some 2, .plain .mv, [.lit (.bool false)], none⟩] []) .ret) .skip)))) (.ops [⟨some 19, .plain (.bin .add), [.tmp 7, .lit (.int .i64 1)], none⟩, ⟨some 7, .plain .mv, [.tmp 19], none⟩] [19]))))))) (.seq (.ops [⟨some 2, .plain .mv, [.lit (.bool true)], none⟩] []) .ret)))
def cr264 : List Res := [(2, none)]
theorem ok264 : FOk Bk.pg.toProgram Bk.imp 264 c264 cr264 Tryz.f264.ntmps := ⟨Tryz.f264, _, Tryz.func264, rfl, by kernel_rfl, by kernel_rfl, by kernel_rfl, rfl⟩
def c159 : SC :=
 (.seq (.ops [⟨some 1, .plain (.box 6), [.tmp 0], none⟩, ⟨some 2, .plain (.alloc [(.int .i64 0), (.int .i64 0), (.int .i64 0), (.int .i64 0), (.bool false), (.str ⟨#[]⟩)]), [], none⟩, ⟨some 3, .plain .mv, [.lit (.int .i64 0)], none⟩] []) (.seq (.ops [⟨some 4, .plain (.mkFn 240), [.tmp 1], none⟩, ⟨some 5, .call 239, [.tmp 4], none⟩, ⟨some 6, .plain (.extract 0), [.tmp 5], none⟩, ⟨some 7, .plain (.extract 1), [.tmp 5], none⟩, ⟨none, .plain (.store 6), [.tmp 2, .tmp 6], none⟩, ⟨some 3, .plain .mv, [.tmp 7], none⟩] [4, 5, 6, 7]) .ret))
def cr159 : List Res := [(2, some (true, 6)), (3, none)]
theorem ok159 : FOk Bk.pg.toProgram Bk.imp 159 c159 cr159 Tryz.f159.ntmps := ⟨Tryz.f159, _, Tryz.func159, rfl, by kernel_rfl, by kernel_rfl, by kernel_rfl, rfl⟩
def c240 : SC :=
 (.seq (.ops [⟨some 1, .plain (.alloc [(.int .i64 0), (.int .i64 0), (.int .i64 0), (.int .i64 0), (.bool false), (.str ⟨#[]⟩)]), [], none⟩] []) (.seq (.ops [⟨some 2, .plain (.load true 6), [.tmp 0], none⟩, ⟨some 3, .call 31, [.tmp 2], none⟩, ⟨some 4, .call 241, [.tmp 3, .lit (.int .i64 13)], none⟩] [2, 3, 4]) (.seq (.seq (.ops [⟨some 5, .plain (.fieldAddr 0), [.tmp 0], none⟩, ⟨some 6, .plain (.load false 1), [.tmp 5], none⟩] [5]) (.block 0 (.seq (.ops [⟨some 8, .plain (.bin .eql), [.tmp 6, .lit (.int .i64 4)], none⟩, ⟨some 7, .plain .mv, [.tmp 8], none⟩] [8]) (.cond (.tmp 7) (.seq (.ops [⟨some 9, .plain (.build [(.int .i64 0), (.int .i64 0), (.int .i64 0), (.int .i64 0), (.bool false), (.str ⟨#[]⟩)] [(0, 1), (1, 1)]), [.lit (.int .i64 2), .lit (.int .i64 15)], none⟩, ⟨none, .plain (.store 6), [.tmp 1, .tmp 9], none⟩] [9]) .ret) (.seq (.ops [⟨some 11, .plain (.bin .eql), [.tmp 6, .lit (.int .i64 5)], none⟩, ⟨some 10, .plain .mv, [.tmp 11], none⟩] [11]) (.cond (.tmp 10) (.seq (.ops [⟨some 12, .plain (.build [(.int .i64 0), (.int .i64 0), (.int .i64 0), (.int .i64 0), (.bool false), (.str ⟨#[]⟩)] [(0, 1), (1, 1)]), [.lit (.int .i64 1), .lit (.int .i64 31)], none⟩, ⟨none, .plain (.store 6), [.tmp 1, .tmp 12], none⟩] [12]) .ret) .skip)))))) (.seq (.ops [⟨some 13, .plain (.fieldAddr 0), [.tmp 0], none⟩, ⟨some 14, .plain (.load false 1), [.tmp 13], none⟩, ⟨some 15, .plain (.bin .leq), [.tmp 14, .lit (.int .i64 3)], none⟩, ⟨some 16, .call 241, [.tmp 15, .lit (.int .i64 10)], none⟩] [13, 14, 15, 16]) (.seq (.ops [⟨some 17, .plain (.load true 6), [.tmp 0], none⟩, ⟨none, .plain (.store 6), [.tmp 1, .tmp 17], none⟩] [17]) .ret)))))
def cr240 : List Res := [(1, some (true, 6))]
theorem ok240 : FOk Bk.pg.toProgram Bk.imp 240 c240 cr240 Tryz.f240.ntmps := ⟨Tryz.f240, _, Tryz.func240, rfl, by kernel_rfl, by kernel_rfl, by kernel_rfl, rfl⟩
def c241 : SC :=
 (.seq (.ops [⟨some 4, .plain .mv, [.tmp 0], none⟩, ⟨some 5, .plain (.un .not), [.tmp 4], none⟩] [4]) (.cond (.tmp 5) (.ops [⟨some 6, .plain .mv, [.tmp 1], none⟩, ⟨some 7, .plain (.build [(.int .i64 0)] [(0, 1)]), [.tmp 6], none⟩, ⟨some 8, .plain (.mkIface 271), [.tmp 7], none⟩, ⟨none, .panic, [.tmp 8], none⟩] [6, 7, 8]) .skip))
def cr241 : List Res := []
theorem ok241 : FOk Bk.pg.toProgram Bk.imp 241 c241 cr241 Tryz.f241.ntmps := ⟨Tryz.f241, _, Tryz.func241, rfl, by kernel_rfl, by kernel_rfl, by kernel_rfl, rfl⟩
def c163 : SC :=
 (.seq (.ops [⟨some 1, .plain (.box 1), [.tmp 0], none⟩, ⟨some 2, .plain (.alloc [(.int .i64 0), (.int .i64 0), (.int .i64 0), (.int .i64 0), (.bool false), (.str ⟨#[]⟩)]), [], none⟩, ⟨some 3, .plain .mv, [.lit (.int .i64 0)], none⟩] []) (.seq (.ops [⟨some 4, .plain (.mkFn 247), [.tmp 1], none⟩, ⟨some 5, .call 239, [.tmp 4], none⟩, ⟨some 6, .plain (.extract 0), [.tmp 5], none⟩, ⟨some 7, .plain (.extract 1), [.tmp 5], none⟩, ⟨none, .plain (.store 6), [.tmp 2, .tmp 6], none⟩, ⟨some 3, .plain .mv, [.tmp 7], none⟩] [4, 5, 6, 7]) .ret))
def cr163 : List Res := [(2, some (true, 6)), (3, none)]
theorem ok163 : FOk Bk.pg.toProgram Bk.imp 163 c163 cr163 Tryz.f163.ntmps := ⟨Tryz.f163, _, Tryz.func163, rfl, by kernel_rfl, by kernel_rfl, by kernel_rfl, rfl⟩
def c247 : SC :=
 (.seq (.ops [⟨some 1, .plain (.alloc [(.int .i64 0), (.int .i64 0), (.int .i64 0), (.int .i64 0), (.bool false), (.str ⟨#[]⟩)]), [], none⟩] []) (.seq (.ops [⟨some 2, .plain (.load false 1), [.tmp 0], none⟩, ⟨some 3, .call 248, [.tmp 2], none⟩] [2, 3]) (.seq (.ops [⟨some 4, .plain (.load false 1), [.tmp 0], none⟩, ⟨some 5, .plain (.len 1), [.tmp 4], none⟩, ⟨some 6, .plain (.bin .gtr), [.tmp 5, .lit (.int .i64 0)], none⟩, ⟨some 7, .call 241, [.tmp 6, .lit (.int .i64 8)], none⟩] [4, 5, 6, 7]) (.seq (.draw (.step ⟨some 8, .plain (.load false 1), [.tmp 0], none⟩ (.step ⟨some 9, .plain (.slice true false 6), [.tmp 8, .lit (.int .i64 1)], none⟩ (.step ⟨some 10, .plain (.load false 1), [.tmp 0], none⟩ (.step ⟨some 11, .plain (.indexAddr 6), [.tmp 10, .lit (.int .i64 0)], none⟩ (.step ⟨some 12, .plain (.load true 6), [.tmp 11], none⟩ (.step ⟨some 13, .call 249, [.tmp 9, .tmp 12, .lit (.fn 250 [])], none⟩ (.step ⟨none, .plain (.store 6), [.tmp 1, .tmp 13], none⟩ .done))))))) [8, 9, 10, 11, 12, 13]) .ret))))
def cr247 : List Res := [(1, some (true, 6))]
theorem ok247 : FOk Bk.pg.toProgram Bk.imp 247 c247 cr247 Tryz.f247.ntmps := ⟨Tryz.f247, _, Tryz.func247, rfl, by kernel_rfl, by kernel_rfl, by kernel_rfl, rfl⟩
def c248 : SC :=
 (.seq (.seq (.ops [⟨some 6, .plain .mv, [.tmp 0], none⟩, ⟨some 7, .plain (.len 1), [.tmp 6], none⟩, ⟨some 8, .plain .mv, [.lit (.int .i64 0)], none⟩] []) (.block 0 (.loop (.seq (.ops [⟨some 9, .plain (.bin .lss), [.tmp 8, .tmp 7], none⟩] []) (.seq (.cond (.tmp 9) .skip (.exit 0)) (.seq (.block 1 (.seq (.ops [⟨some 10, .plain (.indexAddr 6), [.tmp 6, .tmp 8], none⟩, ⟨some 11, .plain (.load true 6), [.tmp 10], none⟩, ⟨some 3, .plain (.alloc [(.int .i64 0), (.int .i64 0), (.int .i64 0), (.int .i64 0), (.bool false), (.str ⟨#[]⟩)]), [], none⟩, ⟨none, .plain (.store 6), [.tmp 3, .tmp 11], none⟩] [10, 11]) (.ops [⟨some 12, .plain (.load true 6), [.tmp 3], none⟩, ⟨some 13, .call 31, [.tmp 12], none⟩, ⟨some 14, .call 241, [.tmp 13, .lit (.int .i64 13)], none⟩] [12, 13, 14]))) (.ops [⟨some 15, .plain (.bin .add), [.tmp 8, .lit (.int .i64 1)], none⟩, ⟨some 8, .plain .mv, [.tmp 15], none⟩] [15]))))))) (.seq (.ops [⟨some 16, .plain .mv, [.tmp 0], none⟩, ⟨some 17, .plain (.len 1), [.tmp 16], none⟩, ⟨some 18, .plain .mv, [.lit (.int .i64 0)], none⟩] []) (.block 2 (.loop (.seq (.ops [⟨some 19, .plain (.bin .lss), [.tmp 18, .tmp 17], none⟩] []) (.seq (.cond (.tmp 19) .skip (.exit 2)) (.seq (.block 3 (.seq (.ops [⟨some 20, .plain (.indexAddr 6), [.tmp 16, .tmp 18], none⟩, ⟨some 21, .plain (.load true 6), [.tmp 20], none⟩, ⟨some 5, .plain (.alloc [(.int .i64 0), (.int .i64 0), (.int .i64 0), (.int .i64 0), (.bool false), (.str ⟨#[]⟩)]), [], none⟩, ⟨none, .plain (.store 6), [.tmp 5, .tmp 21], none⟩] [20, 21]) (.ops [⟨some 22, .plain (.fieldAddr 0), [.tmp 5], none⟩, ⟨some 23, .plain (.load false 1), [.tmp 22], none⟩, ⟨some 24, .plain (.bin .geq), [.tmp 23, .lit (.int .i64 1)], none⟩, ⟨some 25, .plain .mv, [.tmp 24], none⟩, ⟨some 26, .plain (.fieldAddr 0), [.tmp 5], (some (25, true))⟩, ⟨some 27, .plain (.load false 1), [.tmp 26], (some (25, true))⟩, ⟨some 28, .plain (.bin .leq), [.tmp 27, .lit (.int .i64 3)], (some (25, true))⟩, ⟨some 29, .plain .pick, [.tmp 25, .tmp 28, .lit (.bool false)], none⟩, ⟨some 30, .call 241, [.tmp 29, .lit (.int .i64 10)], none⟩] [22, 23, 24, 25, 26, 27, 28, 29, 30]))) (.ops [⟨some 31, .plain (.bin .add), [.tmp 18, .lit (.int .i64 1)], none⟩, ⟨some 18, .plain .mv, [.tmp 31], none⟩] [31]))))))))
def cr248 : List Res := []
theorem ok248 : FOk Bk.pg.toProgram Bk.imp 248 c248 cr248 Tryz.f248.ntmps := ⟨Tryz.f248, _, Tryz.func248, rfl, by kernel_rfl, by kernel_rfl, by kernel_rfl, rfl⟩
def c249 : SC :=
 (.seq (.ops [⟨some 4, .plain (.box 6), [.tmp 1], none⟩, ⟨some 6, .plain (.alloc [(.int .i64 0), (.int .i64 0), (.int .i64 0), (.int .i64 0), (.bool false), (.str ⟨#[]⟩)]), [], none⟩] []) (.seq (.seq (.ops [⟨some 9, .plain .mv, [.tmp 0], none⟩, ⟨some 10, .plain (.len 1), [.tmp 9], none⟩, ⟨some 11, .plain .mv, [.lit (.int .i64 0)], none⟩] []) (.block 0 (.loop (.seq (.ops [⟨some 12, .plain (.bin .lss), [.tmp 11, .tmp 10], none⟩] []) (.seq (.cond (.tmp 12) .skip (.exit 0)) (.seq (.block 1 (.seq (.ops [⟨some 13, .plain (.indexAddr 6), [.tmp 9, .tmp 11], none⟩, ⟨some 14, .plain (.load true 6), [.tmp 13], none⟩, ⟨some 8, .plain (.alloc [(.int .i64 0), (.int .i64 0), (.int .i64 0), (.int .i64 0), (.bool false), (.str ⟨#[]⟩)]), [], none⟩, ⟨none, .plain (.store 6), [.tmp 8, .tmp 14], none⟩] [13, 14]) (.ops [⟨some 15, .plain .mv, [.tmp 2], none⟩, ⟨some 16, .plain (.load true 6), [.tmp 4], none⟩, ⟨some 17, .plain (.load true 6), [.tmp 8], none⟩, ⟨some 18, .callv, [.tmp 15, .tmp 16, .tmp 17], none⟩, ⟨none, .plain (.store 6), [.tmp 4, .tmp 18], none⟩] [15, 16, 17, 18]))) (.ops [⟨some 19, .plain (.bin .add), [.tmp 11, .lit (.int .i64 1)], none⟩, ⟨some 11, .plain .mv, [.tmp 19], none⟩] [19]))))))) (.seq (.ops [⟨some 20, .plain (.load true 6), [.tmp 4], none⟩, ⟨none, .plain (.store 6), [.tmp 6, .tmp 20], none⟩] [20]) .ret)))
def cr249 : List Res := [(6, some (true, 6))]
theorem ok249 : FOk Bk.pg.toProgram Bk.imp 249 c249 cr249 Tryz.f249.ntmps := ⟨Tryz.f249, _, Tryz.func249, rfl, by kernel_rfl, by kernel_rfl, by kernel_rfl, rfl⟩
def c250 : SC :=
 (.seq (.ops [⟨some 2, .plain (.box 6), [.tmp 0], none⟩, ⟨some 3, .plain (.box 6), [.tmp 1], none⟩, ⟨some 4, .plain (.alloc [(.int .i64 0), (.int .i64 0), (.int .i64 0), (.int .i64 0), (.bool false), (.str ⟨#[]⟩)]), [], none⟩] []) (.seq (.ops [⟨some 10, .plain (.load true 6), [.tmp 2], none⟩, ⟨some 11, .plain (.load true 6), [.tmp 3], none⟩, ⟨some 12, .call 322, [.tmp 10, .tmp 11], none⟩, ⟨some 9, .plain .mv, [.tmp 12], none⟩, ⟨some 13, .plain (.extract 0), [.tmp 9], none⟩, ⟨some 14, .plain (.extract 1), [.tmp 9], none⟩, ⟨some 15, .plain (.extract 2), [.tmp 9], none⟩, ⟨some 5, .plain (.alloc [(.int .i64 0), (.int .i64 0), (.int .i64 0), (.int .i64 0), (.bool false), (.str ⟨#[]⟩)]), [], none⟩, ⟨some 6, .plain (.alloc [(.int .i64 0), (.int .i64 0), (.int .i64 0), (.int .i64 0), (.bool false), (.str ⟨#[]⟩)]), [], none⟩, ⟨none, .plain (.store 6), [.tmp 5, .tmp 13], none⟩, ⟨none, .plain (.store 6), [.tmp 6, .tmp 14], none⟩, ⟨some 7, .plain .mv, [.tmp 15], none⟩] [10, 11, 12, 9, 13, 14, 15]) (.seq (.seq (.ops [⟨some 16, .plain (.load true 6), [.tmp 5], none⟩, ⟨some 17, .plain (.load true 6), [.tmp 6], none⟩, ⟨some 18, .plain (.eqAgg false [.int, .int, .int, .int, .bool, .str]), [.tmp 16, .tmp 17], none⟩] [16, 17]) (.cond (.tmp 18) (.seq (.ops [⟨some 19, .plain (.load true 6), [.tmp 5], none⟩, ⟨none, .plain (.store 6), [.tmp 4, .tmp 19], none⟩] [19]) .ret) .skip)) (.seq (.seq (.ops [⟨some 20, .plain (.fieldAddr 0), [.tmp 5], none⟩, ⟨some 21, .plain (.load false 1), [.tmp 20], none⟩, ⟨some 22, .plain (.bin .eql), [.tmp 21, .lit (.int .i64 3)], none⟩] [20, 21]) (.cond (.tmp 22) (.seq (.ops [⟨some 23, .plain (.fieldAddr 1), [.tmp 5], none⟩, ⟨some 24, .plain (.load false 1), [.tmp 23], none⟩, ⟨some 25, .plain (.fieldAddr 1), [.tmp 6], none⟩, ⟨some 26, .plain (.load false 1), [.tmp 25], none⟩, ⟨some 27, .plain .max2, [.tmp 24, .tmp 26], none⟩, ⟨some 28, .plain (.build [(.int .i64 0), (.int .i64 0), (.int .i64 0), (.int .i64 0), (.bool false), (.str ⟨#[]⟩)] [(0, 1), (1, 1)]), [.lit (.int .i64 3), .tmp 27], none⟩, ⟨none, .plain (.store 6), [.tmp 4, .tmp 28], none⟩] [23, 24, 25, 26, 27, 28]) .ret) .skip)) (.seq (.ops [⟨some 29, .plain (.fieldAddr 2), [.tmp 5], none⟩, ⟨some 30, .plain (.load false 1), [.tmp 29], none⟩, ⟨some 31, .plain (.fieldAddr 2), [.tmp 6], none⟩, ⟨some 32, .plain (.load false 1), [.tmp 31], none⟩, ⟨some 33, .plain .max2, [.tmp 30, .tmp 32], none⟩, ⟨some 8, .plain .mv, [.tmp 33], none⟩] [29, 30, 31, 32, 33]) (.seq (.ops [⟨some 34, .plain (.fieldAddr 0), [.tmp 5], none⟩, ⟨some 35, .plain (.load false 1), [.tmp 34], none⟩, ⟨some 36, .plain .mv, [.tmp 7], none⟩, ⟨some 37, .plain (.fieldAddr 1), [.tmp 5], none⟩, ⟨some 38, .plain (.load false 1), [.tmp 37], none⟩, ⟨some 39, .plain (.fieldAddr 2), [.tmp 5], none⟩, ⟨some 40, .plain (.load false 1), [.tmp 39], none⟩, ⟨some 41, .plain (.bin .sub), [.tmp 38, .tmp 40], none⟩, ⟨some 42, .plain (.fieldAddr 1), [.tmp 6], none⟩, ⟨some 43, .plain (.load false 1), [.tmp 42], none⟩, ⟨some 44, .plain (.fieldAddr 2), [.tmp 6], none⟩, ⟨some 45, .plain (.load false 1), [.tmp 44], none⟩, ⟨some 46, .plain (.bin .sub), [.tmp 43, .tmp 45], none⟩, ⟨some 47, .plain .max2, [.tmp 41, .tmp 46], none⟩, ⟨some 48, .plain .mv, [.tmp 8], none⟩, ⟨some 49, .plain (.bin .add), [.tmp 47, .tmp 48], none⟩, ⟨some 50, .plain .max2, [.lit (.int .i64 1), .tmp 49], none⟩, ⟨some 51, .plain .min2, [.tmp 36, .tmp 50], none⟩, ⟨some 52, .plain .mv, [.tmp 8], none⟩, ⟨some 53, .plain (.build [(.int .i64 0), (.int .i64 0), (.int .i64 0), (.int .i64 0), (.bool false), (.str ⟨#[]⟩)] [(0, 1), (1, 1), (2, 1)]), [.tmp 35, .tmp 51, .tmp 52], none⟩, ⟨none, .plain (.store 6), [.tmp 4, .tmp 53], none⟩] [34, 35, 36, 37, 38, 39, 40, 41, 42, 43, 44, 45, 46, 47, 48, 49, 50, 51, 52, 53]) .ret))))))
def cr250 : List Res := [(4, some (true, 6))]
theorem ok250 : FOk Bk.pg.toProgram Bk.imp 250 c250 cr250 Tryz.f250.ntmps := ⟨Tryz.f250, _, Tryz.func250, rfl, by kernel_rfl, by kernel_rfl, by kernel_rfl, rfl⟩
def c322 : SC :=
 let s0 : DT := (.step ⟨none, .plain (.store 6), [.tmp 5, .tmp 34], none⟩ (.step ⟨some 6, .plain .mv, [.lit (.int .i64 15)], none⟩ .done))
 (.seq (.ops [⟨some 2, .plain (.box 6), [.tmp 0], none⟩, ⟨some 3, .plain (.box 6), [.tmp 1], none⟩, ⟨some 4, .plain (.alloc [(.int .i64 0), (.int .i64 0), (.int .i64 0), (.int .i64 0), (.bool false), (.str ⟨#[]⟩)]), [], none⟩, ⟨some 5, .plain (.alloc [(.int .i64 0), (.int .i64 0), (.int .i64 0), (.int .i64 0), (.bool false), (.str ⟨#[]⟩)]), [], none⟩, ⟨some 6, .plain .mv, [.lit (.int .i64 0)], none⟩] []) (.seq (.block 0 (.seq (.ops [⟨some 8, .plain (.fieldAddr 0), [.tmp 2], none⟩, ⟨some 9, .plain (.load false 1), [.tmp 8], none⟩, ⟨some 10, .plain (.bin .eql), [.tmp 9, .lit (.int .i64 3)], none⟩, ⟨some 11, .plain .mv, [.tmp 10], none⟩, ⟨some 12, .plain (.fieldAddr 0), [.tmp 3], (some (11, false))⟩, ⟨some 13, .plain (.load false 1), [.tmp 12], (some (11, false))⟩, ⟨some 14, .plain (.bin .eql), [.tmp 13, .lit (.int .i64 3)], (some (11, false))⟩, ⟨some 15, .plain .pick, [.tmp 11, .lit (.bool true), .tmp 14], none⟩, ⟨some 7, .plain .mv, [.tmp 15], none⟩] [8, 9, 10, 11, 12, 13, 14, 15]) (.cond (.tmp 7) (.seq (.draw (.step ⟨some 16, .plain (.load true 6), [.tmp 2], none⟩ (.step ⟨some 17, .call 263, [.tmp 16], none⟩ (.step ⟨some 18, .plain (.load true 6), [.tmp 3], none⟩ (.step ⟨some 19, .call 263, [.tmp 18], none⟩ (.step ⟨none, .plain (.store 6), [.tmp 4, .tmp 17], none⟩ (.step ⟨none, .plain (.store 6), [.tmp 5, .tmp 19], none⟩ (.step ⟨some 6, .plain .mv, [.lit (.int .i64 15)], none⟩ .done))))))) [16, 17, 18, 19]) .ret) (.seq (.ops [⟨some 21, .plain (.fieldAddr 0), [.tmp 2], none⟩, ⟨some 22, .plain (.load false 1), [.tmp 21], none⟩, ⟨some 23, .plain (.bin .eql), [.tmp 22, .lit (.int .i64 1)], none⟩, ⟨some 24, .plain .mv, [.tmp 23], none⟩, ⟨some 25, .plain (.fieldAddr 0), [.tmp 3], (some (24, false))⟩, ⟨some 26, .plain (.load false 1), [.tmp 25], (some (24, false))⟩, ⟨some 27, .plain (.bin .eql), [.tmp 26, .lit (.int .i64 1)], (some (24, false))⟩, ⟨some 28, .plain .pick, [.tmp 24, .lit (.bool true), .tmp 27], none⟩, ⟨some 20, .plain .mv, [.tmp 28], none⟩] [21, 22, 23, 24, 25, 26, 27, 28]) (.cond (.tmp 20) (.seq (.draw (.step ⟨some 29, .plain (.load true 6), [.tmp 2], none⟩ (.step ⟨some 30, .call 261, [.tmp 29], none⟩ (.step ⟨some 31, .plain (.load true 6), [.tmp 3], none⟩ (.step ⟨some 32, .call 261, [.tmp 31], none⟩ (.step ⟨none, .plain (.store 6), [.tmp 4, .tmp 30], none⟩ (.step ⟨none, .plain (.store 6), [.tmp 5, .tmp 32], none⟩ (.step ⟨some 6, .plain .mv, [.lit (.int .i64 31)], none⟩ .done))))))) [29, 30, 31, 32]) .ret) .skip))))) (.seq (.draw (.step ⟨some 33, .plain (.load true 6), [.tmp 2], none⟩ (.or (.step ⟨some 34, .plain (.load true 6), [.tmp 3], none⟩ (.step ⟨none, .plain (.store 6), [.tmp 4, .tmp 33], none⟩ s0)) (.step ⟨none, .plain (.store 6), [.tmp 4, .tmp 33], none⟩ (.step ⟨some 34, .plain (.load true 6), [.tmp 3], none⟩ s0)))) [33, 34]) .ret)))
def cr322 : List Res := [(4, some (true, 6)), (5, some (true, 6)), (6, none)]
theorem ok322 : FOk Bk.pg.toProgram Bk.imp 322 c322 cr322 Tryz.f322.ntmps := ⟨Tryz.f322, _, Tryz.func322, rfl, by kernel_rfl, by kernel_rfl, by kernel_rfl, rfl⟩
def c261 : SC :=
 (.seq (.ops [⟨some 1, .plain (.box 6), [.tmp 0], none⟩, ⟨some 2, .plain (.alloc [(.int .i64 0), (.int .i64 0), (.int .i64 0), (.int .i64 0), (.bool false), (.str ⟨#[]⟩)]), [], none⟩] []) (.seq (.ops [⟨some 3, .plain (.fieldAddr 0), [.tmp 1], none⟩, ⟨some 4, .plain (.load false 1), [.tmp 3], none⟩, ⟨some 5, .plain (.bin .neq), [.tmp 4, .lit (.int .i64 3)], none⟩, ⟨some 6, .call 241, [.tmp 5, .lit (.int .i64 10)], none⟩] [3, 4, 5, 6]) (.seq (.seq (.ops [⟨some 7, .plain (.fieldAddr 0), [.tmp 1], none⟩, ⟨some 8, .plain (.load false 1), [.tmp 7], none⟩, ⟨some 9, .plain (.bin .eql), [.tmp 8, .lit (.int .i64 1)], none⟩] [7, 8]) (.cond (.tmp 9) (.seq (.ops [⟨some 10, .plain (.load true 6), [.tmp 1], none⟩, ⟨none, .plain (.store 6), [.tmp 2, .tmp 10], none⟩] [10]) .ret) .skip)) (.seq (.ops [⟨some 11, .plain (.fieldAddr 1), [.tmp 1], none⟩, ⟨some 12, .plain (.load false 1), [.tmp 11], none⟩, ⟨some 13, .plain (.bin .mul), [.lit (.int .i64 10), .tmp 12], none⟩, ⟨some 14, .plain (.bin .add), [.tmp 13, .lit (.int .i64 2)], none⟩, ⟨some 15, .plain (.bin .quo), [.tmp 14, .lit (.int .i64 3)], none⟩, ⟨some 16, .plain (.bin .add), [.tmp 15, .lit (.int .i64 1)], none⟩, ⟨some 17, .plain .min2, [.lit (.int .i64 31), .tmp 16], none⟩, ⟨some 18, .plain (.fieldAddr 2), [.tmp 1], none⟩, ⟨some 19, .plain (.load false 1), [.tmp 18], none⟩, ⟨some 20, .plain (.bin .mul), [.lit (.int .i64 10), .tmp 19], none⟩, ⟨some 21, .plain (.bin .add), [.tmp 20, .lit (.int .i64 2)], none⟩, ⟨some 22, .plain (.bin .quo), [.tmp 21, .lit (.int .i64 3)], none⟩, ⟨some 23, .plain .min2, [.lit (.int .i64 31), .tmp 22], none⟩, ⟨some 24, .plain (.build [(.int .i64 0), (.int .i64 0), (.int .i64 0), (.int .i64 0), (.bool false), (.str ⟨#[]⟩)] [(0, 1), (1, 1), (2, 1)]), [.lit (.int .i64 1), .tmp 17, .tmp 23], none⟩, ⟨none, .plain (.store 6), [.tmp 2, .tmp 24], none⟩] [11, 12, 13, 14, 15, 16, 17, 18, 19, 20, 21, 22, 23, 24]) .ret))))
def cr261 : List Res := [(2, some (true, 6))]
theorem ok261 : FOk Bk.pg.toProgram Bk.imp 261 c261 cr261 Tryz.f261.ntmps := ⟨Tryz.f261, _, Tryz.func261, rfl, by kernel_rfl, by kernel_rfl, by kernel_rfl, rfl⟩
end Go.Pm

/- BkC11: contracts: numbers turned into other types. -/
namespace Go.Pm
open Go Go.Proofs
attribute [-simp] List.getElem?_map
def rz (c : Int) : List AV := [.int .i64 c, .str ⟨#[]⟩, .int .i64 0, .str ⟨#[]⟩, .int .i64 0]
theorem call286 {c : Int} : PCalls Bk.pg 286 [.int .i64 c] fun out => out = .ret (.agg (rz c)) := by
  refine ok286.pcalls (by simp) ?_
  simp [c286, cr286, rz]
theorem call285 {k1 n q1 k2 : Int} {kx px qx : Int} {p2 q2 : Nat} (hr : RightN k1 n q1) (hv : ValidN k2 p2 q2) :
    PCalls Bk.pg 285 [.agg (vlN k1 n q1), .agg (tyN kx px qx), .agg (tyN k2 p2 q2)] fun out => out = .ret (.tuple [.agg (vlN k2 (fitN k1 n q1 k2 p2 q2) q2), .agg (rz (if fitL k1 n q1 k2 p2 q2 then 4 else 0))]) := by
  refine ok285.pcalls (by simp) ?_
  have c1 := call158 hr hv
  have c2 := call286 (c := if fitL k1 n q1 k2 p2 q2 then 4 else 0)
  obtain ⟨F, hF⟩ : ∃ F, F = fitN k1 n q1 k2 p2 q2 := ⟨_, rfl⟩
  obtain ⟨L, hL⟩ : ∃ L, L = fitL k1 n q1 k2 p2 q2 := ⟨_, rfl⟩
  rw [← hF, ← hL] at c1 ⊢
  rw [← hL] at c2
  simp only [vlN, vl, tyN, ty, rz] at c1 c2 ⊢
  simp [c285]
  refine xcall_p c1 (by simp) ?_
  simp
  refine xdcall_p rfl c2 (by simp) ?_
  simp [cr285]
theorem call209 {k : Int} (hk : k = 1 ∨ k = 2) : PCalls Bk.pg 209 [.int .i64 k] fun out => out = .ret (.int .i64 0) := by
  refine ok209.pcalls (by simp) ?_
  have z4 : eqI k 4 = false := by
    cases h : eqI k 4 with
    | false => rfl
    | true => have := eqI_t.1 h; omega
  have z5 : eqI k 5 = false := by
    cases h : eqI k 5 with
    | false => rfl
    | true => have := eqI_t.1 h; omega
  simp [c209, cr209, z4, z5]
inductive AnyL : List AV → List AV → Prop
  | nil : AnyL [] []
  | keep {x : AV} {xs ys : List AV} : AnyL xs ys → AnyL (x :: xs) (x :: ys)
  | any {x : AV} {xs ys : List AV} : AnyL xs ys → AnyL (x :: xs) (.any :: ys)
theorem AnyL.refl : ∀ xs : List AV, AnyL xs xs
  | [] => .nil
  | _ :: xs => .keep (AnyL.refl xs)
theorem VRs.any {σ : Sig} {K : Bool → Nat → Prop} {w : World} {xs ys : List AV} (h : AnyL xs ys) : ∀ {us : List Value}, VRs σ K w xs us → VRs σ K w ys us := by
  induction h with
  | nil => exact fun h => h
  | keep _ ih =>
    intro us h
    rw [VRs] at h ⊢
    obtain ⟨u, us', h1, h2, h3⟩ := h
    exact ⟨u, us', h1, h2, ih h3⟩
  | any _ ih =>
    intro us h
    rw [VRs] at h ⊢
    obtain ⟨u, us', h1, h2, h3⟩ := h
    exact ⟨u, us', h1, by rw [VR]; trivial, ih h3⟩
theorem SimO.any {m : Mem} {xs ys : List AV} (h : AnyL xs ys) : SimO (.ret (.agg ys)) m (.ret (.agg xs)) m := by
  intro β σ K w e hr ho
  refine ⟨σ, List.prefix_refl _, hr, ?_⟩
  obtain ⟨u, h1, h2⟩ := ho
  refine ⟨u, h1, ?_⟩
  rw [VR] at h2 ⊢
  obtain ⟨us, h3, h4⟩ := h2
  exact ⟨us, h3, h4.any h⟩
theorem call208 : PCalls Bk.pg 208 [] fun out => out = .ret (.agg [.fn 285 [], .any, .any, .any, .any, .any, .any, .any, .any]) := by
  refine pcalls_of_acalls 1 (ACalls.sim (R := fun out m => out = .ret (.agg [.fn 285 [], .fn 288 [.ptr 2 2 0], .fn 291 [.ptr 2 2 0], .fn 293 [.ptr 1 1 0], .fn 287 [], .fn 296 [.ptr 2 2 0], .fn 297 [.ptr 1 1 0], .fn 287 [], .fn 287 []])) (ok208.acalls (by simp) ?_) ?_)
  · have one : Value.nilFunc.oneCell' = true := rfl
    simp [c208, cr208, postA_ret, one]
  · rintro out m rfl
    exact ⟨.ret (.agg [.fn 285 [], .any, .any, .any, .any, .any, .any, .any, .any]), m, ⟨_, rfl, rfl⟩, SimO.any (.keep (.any (.any (.any (.any (.any (.any (.any (.any .nil)))))))))⟩
end Go.Pm

/- BkC12: contracts: Convert, of numbers. -/
namespace Go.Pm
open Go Go.Proofs
attribute [-simp] List.getElem?_map
attribute [simp] nilCheckA postA_norm
theorem call264 {ts : List (Int × Int × Int)} (h : ∀ t ∈ ts, t.1 = 1 ∨ t.1 = 2) (hl : ts.length ≤ 1000) : PCalls Bk.pg 264 [.list true 6 (ts.map fun t => tyN t.1 t.2.1 t.2.2)] fun out => out = .ret (.bool true) := by
  refine ok264.pcalls (by simp) ?_
  simp [c264]
  refine wpS_loopS (ι := Nat × Nat) (fun s => [(5, .list true 6 (ts.map fun t => tyN t.1 t.2.1 t.2.2)), (6, .int .i64 ts.length), (7, .int .i64 (s.1 : Nat))]) (fun s => ⟨[], s.2⟩) (fun s => ts.length - s.1) (fun s => s.1 ≤ ts.length) (0, 0) (Nat.zero_le _) (Sim.of_le (Env.le_of (by simp)) (Mem.le_of rfl (by simp))) ?_
  rintro ⟨i, nx⟩ hi
  simp only at hi
  have hwi : IntKind.i64.wrap ((i : Int) + 1) = (i : Int) + 1 := wrap64 (by omega) (by omega)
  simp
  refine br_cond rfl (fun h1 => ?_) (fun h1 => ?_)
  · have hlt : i < ts.length := by have := ltI_t.1 h1; omega
    have hx := idxM (f := fun t : Int × Int × Int => tyN t.1 t.2.1 t.2.2) h1
    have hk := h _ (ix_mem hlt)
    obtain ⟨x, hxx⟩ : ∃ x, x = ix ts i := ⟨_, rfl⟩
    rw [← hxx] at hx hk
    have z1 : ltI x.1 1 = false := ltI_f.2 (by omega)
    have z2 : ltI 5 x.1 = false := ltI_f.2 (by omega)
    simp only [tyN, ty] at hx ⊢
    simp [hx, z1, z2, hwi]
    exact ⟨i + 1, by omega, by omega, _, Sim.of_le (Env.le_of (by simp)) (Mem.le_of rfl (by simp))⟩
  · simp [cr264]
theorem call207 {k1 p1 q1 n k2 p2 q2 : Int} {o0 o1 o2 o3 o4 : Nat × AObj} (h : HasN k1 p1 q1 n) (hv : ValidN k2 p2 q2) :
    ACalls Bk.pg 207 [.agg (vlN k1 n q1), .agg (tyN k1 p1 q1), .row 5 5 6 0 1] ⟨[o0, o1, o2, o3, o4, (5, .row 32 6 [tyN k2 p2 q2])], 6⟩ fun out m' => out = .ret (.int .i64 0) ∧ ∃ x nx', m' = ⟨[o0, o1, o2, o3, o4, x], nx'⟩ := by
  refine ACalls.forget (ok207.acalls (by simp) ?_)
  have c1 := call51 h.2.1
  have c2 := call31 h.1.1 h.1.2
  have c3 := call33 h
  have c4 := call31 hv.1 hv.2
  have hk1 : k1 = 1 ∨ k1 = 2 := by have := h.1.1; omega
  have hk2 : k2 = 1 ∨ k2 = 2 := by have := hv.1; omega
  have c5 := call264 (ts := [(k2, p2, q2), (k1, p1, q1)]) (fun t ht => by
    rcases List.mem_cons.1 ht with rfl | ht
    · exact hk2
    · rw [List.mem_singleton.1 ht]; exact hk1) (by simp)
  have z4 : eqI k1 4 = false := by
    cases h : eqI k1 4 with
    | false => rfl
    | true => have := eqI_t.1 h; omega
  have z5 : eqI k1 5 = false := by
    cases h : eqI k1 5 with
    | false => rfl
    | true => have := eqI_t.1 h; omega
  have z01 : ltI 0 1 = true := rfl
  have z11 : ltI 1 1 = false := rfl
  have w1 : IntKind.i64.wrap 1 = 1 := rfl
  simp only [vlN, vl, tyN, ty, List.map_cons, List.map_nil] at c1 c2 c3 c4 c5 ⊢
  simp [c207]
  refine xcall_p c1 (by simp) ?_
  simp [z4, z5]
  refine xcall_p c2 (by simp) ?_
  simp
  refine xcall_p c3 (by simp) ?_
  simp
  refine wpS_loopS (ι := Nat × Nat) (fun s => [(2, .row 5 5 6 0 1), (4, .ptr 7 7 0), (37, .row 5 5 6 0 1), (38, .int .i64 1), (39, .int .i64 (s.1 : Nat))]) (fun s => ⟨[o0, o1, o2, o3, o4, (5, .row 32 6 [tyN k2 p2 q2]), (6, .cells (vlN k1 n q1)), (7, .cells (tyN k1 p1 q1))], s.2⟩) (fun s => 1 - s.1) (fun s => s.1 ≤ 1) (0, 8) (by decide) (Sim.of_le (Env.le_of (by simp)) (Mem.le_of rfl (by simp [vlN, vl, tyN, ty]))) ?_
  rintro ⟨i, nx⟩ hi
  simp only at hi
  have hi' : i = 0 ∨ i = 1 := by omega
  rcases hi' with rfl | rfl
  · simp [z01, vlN, vl, tyN, ty]
    refine xcall_p c4 (by simp) ?_
    simp [w1]
    exact ⟨1, by omega, by omega, _, Sim.of_le (Env.le_of (by simp)) (Mem.le_of rfl (by simp))⟩
  · simp [z11, vlN, vl, tyN, ty]
    simp [appendA, appendN, elsOf, Mem.turn]
    refine xcall_r (PCalls.keep (pos := 5) (g := nx + 1) (e := 32) (n := 2) (els := [[AV.int .i64 k2, .int .i64 p2, .int .i64 q2, .int .i64 0, .bool false, .str ⟨#[]⟩], [.int .i64 k1, .int .i64 p1, .int .i64 q1, .int .i64 0, .bool false, .str ⟨#[]⟩]]) (h := c5) (hp := rfl) (hn := by simp) (hr := by simp)) ?_ ?_
    · rintro v m' ⟨hv', rfl⟩
      cases hv'
      simp [cr207, Mem.turn]
      exact ⟨⟨[o0, o1, o2, o3, o4, (nx + 2, .hole)], nx + 3⟩, Mem.le_of rfl (by simp), _, _, _, rfl⟩
    · rintro v m' ⟨hv', _⟩
      cases hv'
theorem call137 {k1 p1 q1 n k2 : Int} {p2 q2 : Nat} (h : HasN k1 p1 q1 n) (hv : ValidN k2 p2 q2) :
    PCalls Bk.pg 137 [.agg (vlN k1 n q1), .agg (tyN k1 p1 q1), .agg (tyN k2 p2 q2)] fun out => out = .ret (.tuple [.agg (vlN k2 (fitN k1 n q1 k2 p2 q2) q2), .agg (rz (if fitL k1 n q1 k2 p2 q2 then 4 else 0)), .int .i64 0]) := by
  refine ok137.pcalls (by simp) ?_
  have c1 := fun o0 o1 o2 o3 o4 => call207 (o0 := o0) (o1 := o1) (o2 := o2) (o3 := o3) (o4 := o4) h hv
  have hk1 : k1 = 1 ∨ k1 = 2 := by have := h.1.1; omega
  have hk2 : k2 = 1 ∨ k2 = 2 := by have := hv.1; omega
  have c2 := call209 hk1
  have c3 := call209 hk2
  have c4 := call285 (k1 := k1) (n := n) (q1 := q1) (k2 := k2) (kx := k1) (px := p1) (qx := q1) (p2 := p2) (q2 := q2) h.2.1 hv
  have z : eqI 0 0 = true := rfl
  obtain ⟨F, hF⟩ : ∃ F, F = fitN k1 n q1 k2 p2 q2 := ⟨_, rfl⟩
  obtain ⟨L, hL⟩ : ∃ L, L = fitL k1 n q1 k2 p2 q2 := ⟨_, rfl⟩
  rw [← hF, ← hL] at c4 ⊢
  simp only [vlN, vl, tyN, ty, rz] at c1 c4 ⊢
  simp [c137]
  refine xcall_r (c1 _ _ _ _ _) ?_ ?_
  rotate_left
  · rintro v m' ⟨hv', _⟩
    cases hv'
  rintro v m' ⟨hv', x, nx, rfl⟩
  cases hv'
  simp [z]
  refine xdcall_p rfl call208 (by simp) ?_
  simp
  refine xdcall_p rfl c2 (by simp) ?_
  simp
  refine xdcall_p rfl c3 (by simp) ?_
  simp
  rw [xdops_callv rfl rfl]
  refine ⟨_, _, ?_, c4, ?_⟩
  · simp
  · simp
    refine ⟨?_, ?_⟩
    all_goals
      simp [cr137]
end Go.Pm

/- BkS5: code, resolved. Printed by ShowSC.lean and genok.py. -/
namespace Go.Pm
open Go Go.Proofs
def cx25 : SC :=
 (.seq (.ops [⟨some 2, .plain (.alloc [(.int .i64 0)]), [], none⟩] []) .skip)
def cy25 : SC :=
 (.seq (.ops [⟨some 4, .plain .mv, [.tmp 0], none⟩, ⟨some 5, .callv, [.tmp 4], none⟩] [4, 5]) (.seq (.ops [⟨none, .plain (.store 1), [.tmp 2, .lit (.int .i64 0)], none⟩] []) .ret))
def cr25 : List Res := [(2, some (false, 1))]
theorem ok25 : FOkE Bk.pg.toProgram Bk.imp 25 cx25 3 43 [.tmp 2] cy25 cr25 Tryz.f25.ntmps := ⟨Tryz.f25, _, _, _, _, Tryz.func25, rfl, by kernel_rfl, rfl, by kernel_rfl, by kernel_rfl, by kernel_rfl, by kernel_rfl, rfl, by decide, rfl⟩
def c43 : SC :=
 (.seq (.ops [⟨some 5, .plain .mv, [.tmp 1], none⟩, ⟨some 6, .plain (.eqNil false true), [.tmp 5, .lit (.const .nilIface)], none⟩] [5]) (.cond (.tmp 6) (.seq (.ops [⟨some 8, .plain .mv, [.tmp 1], none⟩, ⟨some 9, .plain (.typeAssert 78 (.agg [(.int .i64 0)])), [.tmp 8], none⟩, ⟨some 7, .plain .mv, [.tmp 9], none⟩, ⟨some 10, .plain (.extract 0), [.tmp 7], none⟩, ⟨some 11, .plain (.extract 1), [.tmp 7], none⟩, ⟨some 2, .plain (.alloc [(.int .i64 0)]), [], none⟩, ⟨none, .plain (.store 1), [.tmp 2, .tmp 10], none⟩, ⟨some 3, .plain .mv, [.tmp 11], none⟩] [8, 9, 7, 10, 11]) (.seq (.seq (.ops [⟨some 12, .plain .mv, [.tmp 3], none⟩, ⟨some 13, .plain (.un .not), [.tmp 12], none⟩] [12]) (.cond (.tmp 13) (.ops [⟨some 14, .plain .mv, [.tmp 1], none⟩, ⟨none, .panic, [.tmp 14], none⟩] [14]) .skip)) (.ops [⟨some 15, .plain (.fieldAddr 0), [.tmp 2], none⟩, ⟨some 16, .plain (.load false 1), [.tmp 15], none⟩, ⟨none, .plain (.store 1), [.tmp 0, .tmp 16], none⟩] [15, 16]))) .skip))
theorem ok43 : FOkR2 Bk.pg.toProgram Bk.imp 43 4 1 c43 Tryz.f43.ntmps := ⟨Tryz.f43, _, _, Tryz.func43, rfl, by kernel_rfl, rfl, by kernel_rfl, by kernel_rfl, rfl, by decide, by decide, rfl⟩
def cx239 : SC :=
 (.seq (.ops [⟨some 2, .plain (.alloc [(.int .i64 0), (.int .i64 0), (.int .i64 0), (.int .i64 0), (.bool false), (.str ⟨#[]⟩)]), [], none⟩, ⟨some 3, .plain (.alloc [(.int .i64 0)]), [], none⟩] []) .skip)
def cy239 : SC :=
 (.seq (.ops [⟨some 5, .plain .mv, [.tmp 0], none⟩, ⟨some 6, .callv, [.tmp 5], none⟩, ⟨none, .plain (.store 6), [.tmp 2, .tmp 6], none⟩, ⟨none, .plain (.store 1), [.tmp 3, .lit (.int .i64 0)], none⟩] [5, 6]) .ret)
def cr239 : List Res := [(2, some (true, 6)), (3, some (false, 1))]
theorem ok239 : FOkE Bk.pg.toProgram Bk.imp 239 cx239 4 319 [.tmp 2, .tmp 3] cy239 cr239 Tryz.f239.ntmps := ⟨Tryz.f239, _, _, _, _, Tryz.func239, rfl, by kernel_rfl, rfl, by kernel_rfl, by kernel_rfl, by kernel_rfl, by kernel_rfl, rfl, by decide, rfl⟩
def c319 : SC :=
 (.seq (.ops [⟨some 7, .plain .mv, [.tmp 2], none⟩, ⟨some 8, .plain (.eqNil false true), [.tmp 7, .lit (.const .nilIface)], none⟩] [7]) (.cond (.tmp 8) (.seq (.ops [⟨some 10, .plain .mv, [.tmp 2], none⟩, ⟨some 11, .plain (.typeAssert 271 (.agg [(.int .i64 0)])), [.tmp 10], none⟩, ⟨some 9, .plain .mv, [.tmp 11], none⟩, ⟨some 12, .plain (.extract 0), [.tmp 9], none⟩, ⟨some 13, .plain (.extract 1), [.tmp 9], none⟩, ⟨some 3, .plain (.alloc [(.int .i64 0)]), [], none⟩, ⟨none, .plain (.store 1), [.tmp 3, .tmp 12], none⟩, ⟨some 4, .plain .mv, [.tmp 13], none⟩] [10, 11, 9, 12, 13]) (.seq (.seq (.ops [⟨some 14, .plain .mv, [.tmp 4], none⟩, ⟨some 15, .plain (.un .not), [.tmp 14], none⟩] [14]) (.cond (.tmp 15) (.ops [⟨some 16, .plain .mv, [.tmp 2], none⟩, ⟨none, .panic, [.tmp 16], none⟩] [16]) .skip)) (.seq (.ops [⟨some 5, .plain (.alloc [(.int .i64 0), (.int .i64 0), (.int .i64 0), (.int .i64 0), (.bool false), (.str ⟨#[]⟩)]), [], none⟩] []) (.draw (.step ⟨some 17, .plain (.load true 6), [.tmp 5], none⟩ (.step ⟨some 18, .plain (.fieldAddr 0), [.tmp 3], none⟩ (.or (.step ⟨some 19, .plain (.load false 1), [.tmp 18], none⟩ (.step ⟨none, .plain (.store 6), [.tmp 0, .tmp 17], none⟩ (.step ⟨none, .plain (.store 1), [.tmp 1, .tmp 19], none⟩ .done))) (.step ⟨none, .plain (.store 6), [.tmp 0, .tmp 17], none⟩ (.step ⟨some 19, .plain (.load false 1), [.tmp 18], none⟩ (.step ⟨none, .plain (.store 1), [.tmp 1, .tmp 19], none⟩ .done)))))) [17, 18, 19])))) .skip))
theorem ok319 : FOkR2 Bk.pg.toProgram Bk.imp 319 6 2 c319 Tryz.f319.ntmps := ⟨Tryz.f319, _, _, Tryz.func319, rfl, by kernel_rfl, rfl, by kernel_rfl, by kernel_rfl, rfl, by decide, by decide, rfl⟩
end Go.Pm

/- BkC13: contracts: the rules of types: a number's type, the common type of two alike. -/
namespace Go.Pm
open Go Go.Proofs
attribute [-simp] List.getElem?_map
attribute [simp] nilCheckA postA_norm
theorem call241 {e : Int} : PCalls Bk.pg 241 [.bool true, .int .i64 e] fun out => out = .ret (.tuple []) := by
  refine pcalls_of_acalls 1 (ok241.acalls (by simp) ?_)
  simp [c241, cr241, permOD, permD, mapO]
theorem call319 {x y : AV} {m : Mem} : DCalls Bk.pg 319 [x, y] none m fun m' => m' = m := by
  refine ok319.dcalls (by simp) ?_
  simp [c319, postR_norm]
theorem call239 {f : FuncId} {caps : List AV} {k p q : Int} {m : Mem}
    (h : ∀ x y : AObj, ACalls Bk.pg f caps ⟨m.store ++ [(m.next, x), (m.next + 1, y)], m.next + 2⟩ fun out m' => out = .ret (.agg (tyN k p q)) ∧ ∃ nx, m' = ⟨m.store ++ [(m.next, x), (m.next + 1, y)], nx⟩) :
    ACalls Bk.pg 239 [.fn f caps] m fun out m' => out = .ret (.tuple [.agg (tyN k p q), .int .i64 0]) ∧ ∃ nx, m' = ⟨m.store, nx⟩ := by
  refine ACalls.forget (ok239.acalls (by simp) ?_)
  simp [cx239, cy239]
  refine xcall_r (h _ _) ?_ ?_
  · rintro v m' ⟨hv, nx, rfl⟩
    cases hv
    simp [tyN, ty, postF_ret]
    refine ⟨_, call319, ?_⟩
    rintro m' rfl
    simp [cr239]
    exact ⟨⟨m.store, _⟩, Mem.le_of rfl (by simp), _, rfl⟩
  · rintro v m' ⟨hv, _⟩
    cases hv
theorem call240 {k p q : Int} {S : List (Nat × AObj)} {nx tp tg : Nat} (h : ValidN k p q) (ht : S[tp]? = some (tg, .cells (tyN k p q))) :
    ACalls Bk.pg 240 [.ptr tp tg 0] ⟨S, nx⟩ fun out m' => out = .ret (.agg (tyN k p q)) ∧ ∃ nx', m' = ⟨S, nx'⟩ := by
  refine ACalls.forget (ok240.acalls (by simp) ?_)
  have c1 := call31 h.1 h.2
  have hk : k = 1 ∨ k = 2 := by have := h.1; omega
  have z4 : eqI k 4 = false := by
    cases h : eqI k 4 with
    | false => rfl
    | true => have := eqI_t.1 h; omega
  have z5 : eqI k 5 = false := by
    cases h : eqI k 5 with
    | false => rfl
    | true => have := eqI_t.1 h; omega
  have z3 : leI k 3 = true := leI_t.2 (by omega)
  have tl := (List.getElem?_eq_some_iff.1 ht).1
  have k1 : ∀ x, (S ++ [x])[tp]? = some (tg, .cells (tyN k p q)) := fun x => by rw [List.getElem?_append_left tl]; exact ht
  simp only [tyN, ty] at c1 k1 ⊢
  simp [c240, k1]
  refine xcall_p c1 (by simp) ?_
  simp
  refine xcall_p (call241 (e := 13)) (by simp) ?_
  simp [k1, z4, z5, z3]
  refine xcall_p (call241 (e := 10)) (by simp) ?_
  simp [k1, cr240]
  exact ⟨⟨S, _⟩, Mem.le_of rfl (by simp), _, rfl⟩
theorem call159 {k p q : Int} (h : ValidN k p q) : PCalls Bk.pg 159 [.agg (tyN k p q)] fun out => out = .ret (.tuple [.agg (tyN k p q), .int .i64 0]) := by
  refine ok159.pcalls (by simp) ?_
  have c1 := fun (m : Mem) (hm : m.store[0]? = some (0, .cells (tyN k p q))) => call239 (f := 240) (caps := [.ptr 0 0 0]) (k := k) (p := p) (q := q) (m := m) (fun x y => call240 (tp := 0) (tg := 0) h (by
    have := (List.getElem?_eq_some_iff.1 hm).1
    rw [List.getElem?_append_left this]; exact hm))
  simp only [tyN, ty] at c1 ⊢
  simp [c159]
  refine xcall_r (c1 _ rfl) ?_ ?_
  · rintro v m' ⟨hv, nx, rfl⟩
    cases hv
    simp [cr159]
  · rintro v m' ⟨hv, _⟩
    cases hv
theorem call261 {p q : Int} : PCalls Bk.pg 261 [.agg (tyN 1 p q)] fun out => out = .ret (.agg (tyN 1 p q)) := by
  refine ok261.pcalls (by simp) ?_
  have z3 : eqI 1 3 = false := rfl
  have z1 : eqI 1 1 = true := rfl
  simp only [tyN, ty]
  simp [c261, z3]
  refine xcall_p (call241 (e := 10)) (by simp) ?_
  simp [cr261, z1]
theorem call322 {k p q : Int} (hk : k = 1 ∨ k = 2) : PCalls Bk.pg 322 [.agg (tyN k p q), .agg (tyN k p q)] fun out => out = .ret (.tuple [.agg (tyN k p q), .agg (tyN k p q), .int .i64 (if k = 1 then 31 else 15)]) := by
  refine ok322.pcalls (by simp) ?_
  have z13 : eqI 1 3 = false := rfl
  have z11 : eqI 1 1 = true := rfl
  have z23 : eqI 2 3 = false := rfl
  have z21 : eqI 2 1 = false := rfl
  rcases hk with rfl | rfl
  · have c1 := call261 (p := p) (q := q)
    simp only [tyN, ty] at c1 ⊢
    simp [c322, z13, z11]
    refine xdcall_p rfl c1 (by simp) ?_
    simp
    refine xdcall_p rfl c1 (by simp) ?_
    simp [cr322]
  · simp only [tyN, ty]
    simp [c322, z23, z21, cr322]
theorem call250 {k p q : Int} (hk : k = 1 ∨ k = 2) : PCalls Bk.pg 250 [.agg (tyN k p q), .agg (tyN k p q)] fun out => out = .ret (.agg (tyN k p q)) := by
  refine ok250.pcalls (by simp) ?_
  have c1 := call322 (p := p) (q := q) hk
  have zz : ∀ x : Int, eqI x x = true := fun x => eqI_t.2 rfl
  have zs : ((⟨#[]⟩ : ByteArray) == ⟨#[]⟩) = true := by decide
  simp only [tyN, ty] at c1 ⊢
  simp [c250]
  refine xcall_p c1 (by simp) ?_
  simp [zz, zs, cr250, scalarsEq, scalarEq]
end Go.Pm

/- BkC14: contracts: the common type of two types that are alike. -/
namespace Go.Pm
open Go Go.Proofs
attribute [-simp] List.getElem?_map
attribute [simp] nilCheckA postA_norm
theorem call248 {k p q : Int} (h : ValidN k p q) : PCalls Bk.pg 248 [.list true 6 [tyN k p q, tyN k p q]] fun out => out = .ret (.tuple []) := by
  refine pcalls_of_acalls 1 (ok248.acalls (by simp) ?_)
  have c1 := call31 h.1 h.2
  have hk : k = 1 ∨ k = 2 := by have := h.1; omega
  have z1 : leI 1 k = true := leI_t.2 (by omega)
  have z3 : leI k 3 = true := leI_t.2 (by omega)
  simp only [tyN, ty] at c1 ⊢
  simp [c248]
  refine wpS_loopS (ι := Nat × Nat) (fun s => [(0, .list true 6 [tyN k p q, tyN k p q]), (6, .list true 6 [tyN k p q, tyN k p q]), (7, .int .i64 2), (8, .int .i64 (s.1 : Nat))]) (fun s => ⟨[], s.2⟩) (fun s => 2 - s.1) (fun s => s.1 ≤ 2) (0, 0) (by decide) (Sim.of_le (Env.le_of (by simp [tyN, ty])) (Mem.le_of rfl (by simp))) ?_
  rintro ⟨i, nx⟩ hi
  simp only at hi
  have hwi : IntKind.i64.wrap ((i : Int) + 1) = (i : Int) + 1 := wrap64 (by omega) (by omega)
  simp [tyN, ty]
  refine br_cond rfl (fun h1 => ?_) (fun h1 => ?_)
  · have hlt : i < 2 := by have := ltI_t.1 h1; omega
    have hx : ([tyN k p q, tyN k p q] : List (List AV))[i]? = some (tyN k p q) := by
      have : i = 0 ∨ i = 1 := by omega
      rcases this with rfl | rfl <;> rfl
    simp only [tyN, ty] at hx
    simp [hx]
    refine xcall_p c1 (by simp) ?_
    simp
    refine xcall_p (call241 (e := 13)) (by simp) ?_
    simp [hwi]
    exact ⟨i + 1, by omega, by omega, _, Sim.of_le (Env.le_of (by simp)) (Mem.le_of rfl (by simp))⟩
  · simp
    refine wpS_loopS (ι := Nat × Nat) (fun s => [(16, .list true 6 [tyN k p q, tyN k p q]), (17, .int .i64 2), (18, .int .i64 (s.1 : Nat))]) (fun s => ⟨[], s.2⟩) (fun s => 2 - s.1) (fun s => s.1 ≤ 2) (0, nx) (Nat.zero_le _) (Sim.of_le (Env.le_of (by simp [tyN, ty])) (Mem.le_of rfl (by simp))) ?_
    rintro ⟨i, nx⟩ hi
    simp only at hi
    have hwi : IntKind.i64.wrap ((i : Int) + 1) = (i : Int) + 1 := wrap64 (by omega) (by omega)
    simp [tyN, ty]
    refine br_cond rfl (fun h1 => ?_) (fun h1 => ?_)
    · have hlt : i < 2 := by have := ltI_t.1 h1; omega
      have hx : ([tyN k p q, tyN k p q] : List (List AV))[i]? = some (tyN k p q) := by
        have : i = 0 ∨ i = 1 := by omega
        rcases this with rfl | rfl <;> rfl
      simp only [tyN, ty] at hx
      simp [hx, z1, z3]
      refine xcall_p (call241 (e := 10)) (by simp) ?_
      simp [hwi]
      exact ⟨i + 1, by omega, by omega, _, Sim.of_le (Env.le_of (by simp)) (Mem.le_of rfl (by simp))⟩
    · simp [cr248, permOD, permD, mapO]
theorem call249 {k p q : Int} (h : ValidN k p q) : PCalls Bk.pg 249 [.list true 6 [tyN k p q], .agg (tyN k p q), .fn 250 []] fun out => out = .ret (.agg (tyN k p q)) := by
  refine ok249.pcalls (by simp) ?_
  have hk : k = 1 ∨ k = 2 := by have := h.1; omega
  have c1 := call250 (p := p) (q := q) hk
  have z0 : ltI 0 1 = true := rfl
  have z1 : ltI 1 1 = false := rfl
  have w1 : IntKind.i64.wrap 1 = 1 := rfl
  simp only [tyN, ty] at c1 ⊢
  simp [c249]
  refine wpS_loopS (ι := Nat × Nat) (fun s => [(2, .fn 250 []), (4, .ptr 0 0 0), (6, .ptr 1 1 0), (9, .list true 6 [tyN k p q]), (10, .int .i64 1), (11, .int .i64 (s.1 : Nat))]) (fun s => ⟨[(0, .cells (tyN k p q)), (1, .cells (ty 0 0 0 0 false ⟨#[]⟩))], s.2⟩) (fun s => 1 - s.1) (fun s => s.1 ≤ 1) (0, 2) (by decide) (Sim.of_le (Env.le_of (by simp [tyN, ty])) (Mem.le_of rfl (by simp [tyN, ty]))) ?_
  rintro ⟨i, nx⟩ hi
  simp only at hi
  have hi' : i = 0 ∨ i = 1 := by omega
  rcases hi' with rfl | rfl
  · simp [tyN, ty, z0]
    refine xcall_p c1 (by simp) ?_
    simp [w1]
    exact ⟨1, by omega, by omega, _, Sim.of_le (Env.le_of (by simp)) (Mem.le_of rfl (by simp))⟩
  · simp [tyN, ty, z1, cr249]
theorem call247 {k p q : Int} {S : List (Nat × AObj)} {nx tp tg : Nat} (h : ValidN k p q) (ht : S[tp]? = some (tg, .cells [.list true 6 [tyN k p q, tyN k p q]])) :
    ACalls Bk.pg 247 [.ptr tp tg 0] ⟨S, nx⟩ fun out m' => out = .ret (.agg (tyN k p q)) ∧ ∃ nx', m' = ⟨S, nx'⟩ := by
  refine ACalls.forget (ok247.acalls (by simp) ?_)
  have c1 := call248 h
  have c2 := call249 h
  have tl := (List.getElem?_eq_some_iff.1 ht).1
  have k1 : ∀ x, (S ++ [x])[tp]? = some (tg, .cells [.list true 6 [tyN k p q, tyN k p q]]) := fun x => by rw [List.getElem?_append_left tl]; exact ht
  have z0 : ltI 0 2 = true := rfl
  have hs : sliceA true false 6 [.list true 6 [tyN k p q, tyN k p q], .int .i64 1] = some (.list true 6 [tyN k p q]) := by simp [sliceA, boundsA]
  simp only [tyN, ty] at c1 c2 k1 hs ⊢
  simp [c247, k1]
  refine xcall_p c1 (by simp) ?_
  simp [k1, z0]
  refine xcall_p (call241 (e := 8)) (by simp) ?_
  simp [k1, hs]
  refine xdcall_p rfl c2 (by simp) ?_
  simp [k1, cr247]
  exact ⟨⟨S, _⟩, Mem.le_of rfl (by simp), _, rfl⟩
theorem call163 {k p q : Int} (h : ValidN k p q) : PCalls Bk.pg 163 [.list true 6 [tyN k p q, tyN k p q]] fun out => out = .ret (.tuple [.agg (tyN k p q), .int .i64 0]) := by
  refine ok163.pcalls (by simp) ?_
  have c1 := fun (m : Mem) (hm : m.store[0]? = some (0, .cells [.list true 6 [tyN k p q, tyN k p q]])) => call239 (f := 247) (caps := [.ptr 0 0 0]) (k := k) (p := p) (q := q) (m := m) (fun x y => call247 (tp := 0) (tg := 0) h (by
    have := (List.getElem?_eq_some_iff.1 hm).1
    rw [List.getElem?_append_left this]; exact hm))
  simp only [tyN, ty] at c1 ⊢
  simp [c163]
  refine xcall_r (c1 _ rfl) ?_ ?_
  · rintro v m' ⟨hv, nx, rfl⟩
    cases hv
    simp [cr163]
  · rintro v m' ⟨hv, _⟩
    cases hv
end Go.Pm

/- BkW1: the shelf's contracts at this dump (written by the kit's lay-shelf.mjs and lay-plain.mjs; picked by pickshelf.py). -/
namespace Go.Proofs
open Go.Shelf
def Tryz.lays246_ren : Go.Shelf.Ren := ⟨fun | 246 => 278 | 283 => 330 | 284 => 331 | 285 => 332 | 286 => 333 | 129 => 237 | 317 => 360 | 318 => 361 | 319 => 362 | 320 => 363 | 337 => 387 | 338 => 388 | n => n, fun | 2 => 2 | 3 => 3 | 9 => 9 | 4 => 4 | 171 => 282 | 0 => 0 | 53 => 217 | 37 => 84 | 5 => 5 | 173 => 284 | 212 => 318 | 51 => 215 | 20 => 20 | 213 => 319 | 46 => 140 | 232 => 346 | 233 => 347 | n => n, fun | 17 => 3 | 18 => 6 | 19 => 7 | n => n⟩
theorem Tryz.lays246 : Go.Proofs.Lays.n246 Tryz.prog Tryz.lays246_ren := {
  mixed := by kernel_rfl
  f129 := Tryz.func237.trans (congrArg some (by kernel_rfl))
  f246 := Tryz.func278.trans (congrArg some (by kernel_rfl))
  f283 := Tryz.func330.trans (congrArg some (by kernel_rfl))
  f284 := Tryz.func331.trans (congrArg some (by kernel_rfl))
  f285 := Tryz.func332.trans (congrArg some (by kernel_rfl))
  f286 := Tryz.func333.trans (congrArg some (by kernel_rfl))
  f317 := Tryz.func360.trans (congrArg some (by kernel_rfl))
  f318 := Tryz.func361.trans (congrArg some (by kernel_rfl))
  f319 := Tryz.func362.trans (congrArg some (by kernel_rfl))
  f320 := Tryz.func363.trans (congrArg some (by kernel_rfl))
  f337 := Tryz.func387.trans (congrArg some (by kernel_rfl))
  f338 := Tryz.func388.trans (congrArg some (by kernel_rfl))
  t0 := Tryz.underlying0
  a0 := Tryz.isAgg0
  z0 := Tryz.sizeOf0
  v0 := Tryz.zeroValue0
  t2 := Tryz.underlying2
  a2 := Tryz.isAgg2
  z2 := Tryz.sizeOf2
  v2 := Tryz.zeroValue2
  t3 := Tryz.underlying3
  a3 := Tryz.isAgg3
  z3 := Tryz.sizeOf3
  v3 := Tryz.zeroValue3
  t4 := Tryz.underlying4
  a4 := Tryz.isAgg4
  z4 := Tryz.sizeOf4
  v4 := Tryz.zeroValue4
  t5 := Tryz.underlying5
  a5 := Tryz.isAgg5
  z5 := Tryz.sizeOf5
  v5 := Tryz.zeroValue5
  t9 := Tryz.underlying9
  a9 := Tryz.isAgg9
  z9 := Tryz.sizeOf9
  v9 := Tryz.zeroValue9
  t20 := Tryz.underlying20
  a20 := Tryz.isAgg20
  z20 := Tryz.sizeOf20
  v20 := Tryz.zeroValue20
  t37 := Tryz.underlying84
  a37 := Tryz.isAgg84
  z37 := Tryz.sizeOf84
  v37 := Tryz.zeroValue84
  t46 := Tryz.underlying140
  a46 := Tryz.isAgg140
  z46 := Tryz.sizeOf140
  v46 := Tryz.zeroValue140
  t51 := Tryz.underlying215
  a51 := Tryz.isAgg215
  z51 := Tryz.sizeOf215
  v51 := Tryz.zeroValue215
  t53 := Tryz.underlying217
  a53 := Tryz.isAgg217
  z53 := Tryz.sizeOf217
  v53 := Tryz.zeroValue217
  t171 := Tryz.underlying282
  a171 := Tryz.isAgg282
  z171 := Tryz.sizeOf282
  v171 := Tryz.zeroValue282
  t173 := Tryz.underlying284
  a173 := Tryz.isAgg284
  z173 := Tryz.sizeOf284
  v173 := Tryz.zeroValue284
  t212 := Tryz.underlying318
  a212 := Tryz.isAgg318
  z212 := Tryz.sizeOf318
  v212 := Tryz.zeroValue318
  t213 := Tryz.underlying319
  a213 := Tryz.isAgg319
  z213 := Tryz.sizeOf319
  t232 := Tryz.underlying346
  a232 := Tryz.isAgg346
  z232 := Tryz.sizeOf346
  v232 := Tryz.zeroValue346
  t233 := Tryz.underlying347
  a233 := Tryz.isAgg347
  z233 := Tryz.sizeOf347
  v233 := Tryz.zeroValue347
  g17 := by kernel_rfl
  g18 := by kernel_rfl
  g19 := by kernel_rfl }
open Go.RowKit Go.Sort Go.Lib in
theorem Tryz.internal_strconv_FormatInt_10_small (i : Nat) (hi : i < 100) (w : World) :
    Calls Tryz.prog 278 #[.int .i64 i, .int .i64 10] w fun e w' => e = .returned (.string ⟨(Lib.decDigits i).toArray⟩) ∧ w' = w := Any.internal_strconv_FormatInt_10_small Tryz.lays246 i hi w
end Go.Proofs
