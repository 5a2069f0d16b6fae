/- BkS8: code, resolved. Printed by ShowSC.lean and genok.py. -/
import Derived.Test.YtmcogjekcefjoaaGreatDoorGa
import Derived.Test.YtmcogjekcefjoaaGreatDoorPmT
namespace Go.Pm
open Go Go.Proofs

/-- ironbark/ironbarklaw08.BuiltWhole -/
def c6 : SC :=
  (.seq (.ops [⟨(some 4), .plain .mv, [.lit (.bool false)], none⟩] [])
  (.seq (.seq (.ops [⟨(some 19), .plain .mv, [.tmp 0], none⟩,
    ⟨(some 20), .plain (.bin .leq), [.tmp 19, .lit (.int .i64 (-1000000000000))], none⟩,
    ⟨(some 21), .plain .mv, [.tmp 20], none⟩,
    ⟨(some 22), .plain .mv, [.tmp 0], (some (21, false))⟩,
    ⟨(some 23), .plain (.bin .geq), [.tmp 22, .lit (.int .i64 1000000000000)], (some (21, false))⟩,
    ⟨(some 24), .plain .pick, [.tmp 21, .lit (.bool true), .tmp 23], none⟩,
    ⟨(some 25), .plain .mv, [.tmp 24], none⟩,
    ⟨(some 26), .plain .mv, [.tmp 1], (some (25, false))⟩,
    ⟨(some 27), .plain (.bin .lss), [.tmp 26, .lit (.int .i64 0)], (some (25, false))⟩,
    ⟨(some 28), .plain .pick, [.tmp 25, .lit (.bool true), .tmp 27], none⟩,
    ⟨(some 29), .plain .mv, [.tmp 28], none⟩,
    ⟨(some 30), .plain .mv, [.tmp 1], (some (29, false))⟩,
    ⟨(some 31), .plain (.bin .gtr), [.tmp 30, .lit (.int .i64 12)], (some (29, false))⟩,
    ⟨(some 32), .plain .pick, [.tmp 29, .lit (.bool true), .tmp 31], none⟩] [19, 20, 21, 22, 23, 24, 25, 26, 27, 28, 29, 30, 31])
  (.cond (.tmp 32)
   (.seq (.ops [⟨(some 33), .call 8, [], none⟩,
     ⟨(some 4), .plain .mv, [.tmp 33], none⟩] [33])
   .ret)
   .skip))
  (.seq (.ops [⟨(some 34), .plain .mv, [.tmp 1], none⟩,
    ⟨(some 35), .plain (.build [(.int .i64 0), (.int .i64 0), (.int .i64 0), (.int .i64 0), (.bool false), (.str ⟨#[]⟩)] [(0, 1), (1, 1), (2, 1)]), [.lit (.int .i64 2), .lit (.int .i64 15), .tmp 34], none⟩,
    ⟨(some 5), .plain (.alloc [(.int .i64 0), (.int .i64 0), (.int .i64 0), (.int .i64 0), (.bool false), (.str ⟨#[]⟩)]), [], none⟩,
    ⟨none, .plain (.store 6), [.tmp 5, .tmp 35], none⟩] [34, 35])
  (.seq (.ops [⟨(some 36), .plain .mv, [.tmp 0], none⟩,
    ⟨(some 37), .plain .mv, [.tmp 1], none⟩,
    ⟨(some 38), .plain (.build [(.int .i64 0), (.int .i64 0), (.int .i64 0), (.str ⟨#[]⟩)] [(0, 1), (1, 1), (2, 1)]), [.lit (.int .i64 2), .tmp 36, .tmp 37], none⟩,
    ⟨(some 6), .plain (.alloc [(.int .i64 0), (.int .i64 0), (.int .i64 0), (.str ⟨#[]⟩)]), [], none⟩,
    ⟨none, .plain (.store 4), [.tmp 6, .tmp 38], none⟩] [36, 37, 38])
  (.seq (.ops [⟨(some 7), .plain (.alloc [(.int .i64 0), (.int .i64 0), (.int .i64 0), (.str ⟨#[]⟩), (.int .i64 0), (.int .i64 0), (.int .i64 0), (.str ⟨#[]⟩), (.int .i64 0), (.int .i64 0), (.int .i64 0), (.str ⟨#[]⟩)]), [], none⟩] [])
  (.seq (.ops [⟨(some 39), .plain (.buildRow 9 1 3 [(.str ⟨#[]⟩)] [0, 1, 2]), [.lit (.str ⟨#[70, 76, 79, 79, 82]⟩), .lit (.str ⟨#[67, 69, 73, 76]⟩), .lit (.str ⟨#[84, 82, 85, 78, 67]⟩)], none⟩,
    ⟨(some 8), .plain .mv, [.tmp 39], none⟩] [39])
  (.seq (.seq (.ops [⟨(some 9), .plain .mv, [.lit (.int .i64 0)], none⟩] [])
  (.block 0
   (.loop
    (.seq (.seq (.ops [⟨(some 40), .plain .mv, [.tmp 9], none⟩,
      ⟨(some 41), .plain (.bin .lss), [.tmp 40, .lit (.int .i64 3)], none⟩] [40])
    (.cond (.tmp 41)
     .skip
     (.exit 0)))
    (.seq (.block 1
     (.seq (.draw (.step ⟨(some 45), .plain .mv, [.tmp 8], none⟩
       (.step ⟨(some 46), .plain .mv, [.tmp 9], none⟩
       (.step ⟨(some 47), .plain (.indexAddr 1), [.tmp 45, .tmp 46], none⟩
       (.step ⟨(some 48), .plain (.load false 1), [.tmp 47], none⟩
       (.step ⟨(some 49), .plain (.load true 6), [.tmp 5], none⟩
       (.or (.step ⟨(some 50), .plain (.buildRow 32 6 1 [(.int .i64 0), (.int .i64 0), (.int .i64 0), (.int .i64 0), (.bool false), (.str ⟨#[]⟩)] [0]), [.tmp 49], none⟩
       (.step ⟨(some 51), .call 17, [.tmp 48, .tmp 50, .lit .nilS], none⟩
       (.step ⟨(some 44), .plain .mv, [.tmp 51], none⟩
       (.step ⟨(some 52), .plain (.extract 0), [.tmp 44], none⟩
       (.step ⟨(some 53), .plain (.extract 1), [.tmp 44], none⟩
       (.step ⟨(some 10), .plain (.alloc [(.int .i64 0), (.int .i64 0), (.int .i64 0), (.int .i64 0), (.bool false), (.str ⟨#[]⟩)]), [], none⟩
       (.step ⟨none, .plain (.store 6), [.tmp 10, .tmp 52], none⟩
       (.step ⟨(some 11), .plain .mv, [.tmp 53], none⟩
       .done))))))))
       (.step ⟨(some 10), .plain (.alloc [(.int .i64 0), (.int .i64 0), (.int .i64 0), (.int .i64 0), (.bool false), (.str ⟨#[]⟩)]), [], none⟩
       (.step ⟨(some 50), .plain (.buildRow 32 6 1 [(.int .i64 0), (.int .i64 0), (.int .i64 0), (.int .i64 0), (.bool false), (.str ⟨#[]⟩)] [0]), [.tmp 49], none⟩
       (.step ⟨(some 51), .call 17, [.tmp 48, .tmp 50, .lit .nilS], none⟩
       (.step ⟨(some 44), .plain .mv, [.tmp 51], none⟩
       (.step ⟨(some 52), .plain (.extract 0), [.tmp 44], none⟩
       (.step ⟨(some 53), .plain (.extract 1), [.tmp 44], none⟩
       (.step ⟨none, .plain (.store 6), [.tmp 10, .tmp 52], none⟩
       (.step ⟨(some 11), .plain .mv, [.tmp 53], none⟩
       .done)))))))))))))) [45, 46, 47, 48, 49, 50, 51, 44, 52, 53])
     (.seq (.draw (.step ⟨(some 55), .plain .mv, [.tmp 8], none⟩
       (.step ⟨(some 56), .plain .mv, [.tmp 9], none⟩
       (.step ⟨(some 57), .plain (.indexAddr 1), [.tmp 55, .tmp 56], none⟩
       (.step ⟨(some 58), .plain (.load false 1), [.tmp 57], none⟩
       (.step ⟨(some 59), .plain (.load true 4), [.tmp 6], none⟩
       (.step ⟨(some 61), .plain (.load true 6), [.tmp 5], none⟩
       (.step ⟨(some 63), .plain (.load true 6), [.tmp 10], none⟩
       (.or (.step ⟨(some 60), .plain (.buildRow 24 4 1 [(.int .i64 0), (.int .i64 0), (.int .i64 0), (.str ⟨#[]⟩)] [0]), [.tmp 59], none⟩
       (.or (.step ⟨(some 62), .plain (.buildRow 32 6 1 [(.int .i64 0), (.int .i64 0), (.int .i64 0), (.int .i64 0), (.bool false), (.str ⟨#[]⟩)] [0]), [.tmp 61], none⟩
       (.step ⟨(some 64), .call 9, [.tmp 58, .tmp 60, .tmp 62, .tmp 63], none⟩
       (.step ⟨(some 54), .plain .mv, [.tmp 64], none⟩
       (.step ⟨(some 65), .plain (.extract 0), [.tmp 54], none⟩
       (.step ⟨(some 66), .plain (.extract 1), [.tmp 54], none⟩
       (.step ⟨(some 67), .plain (.extract 2), [.tmp 54], none⟩
       (.or (.step ⟨(some 12), .plain (.alloc [(.int .i64 0), (.int .i64 0), (.int .i64 0), (.str ⟨#[]⟩)]), [], none⟩
       (.step ⟨(some 13), .plain (.alloc [(.int .i64 0), (.str ⟨#[]⟩), (.int .i64 0), (.str ⟨#[]⟩), (.int .i64 0)]), [], none⟩
       (.step ⟨none, .plain (.store 4), [.tmp 12, .tmp 65], none⟩
       (.step ⟨none, .plain (.store 5), [.tmp 13, .tmp 66], none⟩
       (.step ⟨(some 14), .plain .mv, [.tmp 67], none⟩
       .done)))))
       (.step ⟨(some 13), .plain (.alloc [(.int .i64 0), (.str ⟨#[]⟩), (.int .i64 0), (.str ⟨#[]⟩), (.int .i64 0)]), [], none⟩
       (.step ⟨(some 12), .plain (.alloc [(.int .i64 0), (.int .i64 0), (.int .i64 0), (.str ⟨#[]⟩)]), [], none⟩
       (.step ⟨none, .plain (.store 4), [.tmp 12, .tmp 65], none⟩
       (.step ⟨none, .plain (.store 5), [.tmp 13, .tmp 66], none⟩
       (.step ⟨(some 14), .plain .mv, [.tmp 67], none⟩
       .done))))))))))))
       (.or (.step ⟨(some 12), .plain (.alloc [(.int .i64 0), (.int .i64 0), (.int .i64 0), (.str ⟨#[]⟩)]), [], none⟩
       (.or (.step ⟨(some 62), .plain (.buildRow 32 6 1 [(.int .i64 0), (.int .i64 0), (.int .i64 0), (.int .i64 0), (.bool false), (.str ⟨#[]⟩)] [0]), [.tmp 61], none⟩
       (.step ⟨(some 64), .call 9, [.tmp 58, .tmp 60, .tmp 62, .tmp 63], none⟩
       (.step ⟨(some 54), .plain .mv, [.tmp 64], none⟩
       (.step ⟨(some 65), .plain (.extract 0), [.tmp 54], none⟩
       (.step ⟨(some 66), .plain (.extract 1), [.tmp 54], none⟩
       (.step ⟨(some 67), .plain (.extract 2), [.tmp 54], none⟩
       (.step ⟨(some 13), .plain (.alloc [(.int .i64 0), (.str ⟨#[]⟩), (.int .i64 0), (.str ⟨#[]⟩), (.int .i64 0)]), [], none⟩
       (.step ⟨none, .plain (.store 4), [.tmp 12, .tmp 65], none⟩
       (.step ⟨none, .plain (.store 5), [.tmp 13, .tmp 66], none⟩
       (.step ⟨(some 14), .plain .mv, [.tmp 67], none⟩
       .done))))))))))
       (.step ⟨(some 13), .plain (.alloc [(.int .i64 0), (.str ⟨#[]⟩), (.int .i64 0), (.str ⟨#[]⟩), (.int .i64 0)]), [], none⟩
       (.step ⟨(some 62), .plain (.buildRow 32 6 1 [(.int .i64 0), (.int .i64 0), (.int .i64 0), (.int .i64 0), (.bool false), (.str ⟨#[]⟩)] [0]), [.tmp 61], none⟩
       (.step ⟨(some 64), .call 9, [.tmp 58, .tmp 60, .tmp 62, .tmp 63], none⟩
       (.step ⟨(some 54), .plain .mv, [.tmp 64], none⟩
       (.step ⟨(some 65), .plain (.extract 0), [.tmp 54], none⟩
       (.step ⟨(some 66), .plain (.extract 1), [.tmp 54], none⟩
       (.step ⟨(some 67), .plain (.extract 2), [.tmp 54], none⟩
       (.step ⟨none, .plain (.store 4), [.tmp 12, .tmp 65], none⟩
       (.step ⟨none, .plain (.store 5), [.tmp 13, .tmp 66], none⟩
       (.step ⟨(some 14), .plain .mv, [.tmp 67], none⟩
       .done))))))))))))
       (.step ⟨(some 13), .plain (.alloc [(.int .i64 0), (.str ⟨#[]⟩), (.int .i64 0), (.str ⟨#[]⟩), (.int .i64 0)]), [], none⟩
       (.or (.step ⟨(some 62), .plain (.buildRow 32 6 1 [(.int .i64 0), (.int .i64 0), (.int .i64 0), (.int .i64 0), (.bool false), (.str ⟨#[]⟩)] [0]), [.tmp 61], none⟩
       (.step ⟨(some 64), .call 9, [.tmp 58, .tmp 60, .tmp 62, .tmp 63], none⟩
       (.step ⟨(some 54), .plain .mv, [.tmp 64], none⟩
       (.step ⟨(some 65), .plain (.extract 0), [.tmp 54], none⟩
       (.step ⟨(some 66), .plain (.extract 1), [.tmp 54], none⟩
       (.step ⟨(some 67), .plain (.extract 2), [.tmp 54], none⟩
       (.step ⟨(some 12), .plain (.alloc [(.int .i64 0), (.int .i64 0), (.int .i64 0), (.str ⟨#[]⟩)]), [], none⟩
       (.step ⟨none, .plain (.store 4), [.tmp 12, .tmp 65], none⟩
       (.step ⟨none, .plain (.store 5), [.tmp 13, .tmp 66], none⟩
       (.step ⟨(some 14), .plain .mv, [.tmp 67], none⟩
       .done))))))))))
       (.step ⟨(some 12), .plain (.alloc [(.int .i64 0), (.int .i64 0), (.int .i64 0), (.str ⟨#[]⟩)]), [], none⟩
       (.step ⟨(some 62), .plain (.buildRow 32 6 1 [(.int .i64 0), (.int .i64 0), (.int .i64 0), (.int .i64 0), (.bool false), (.str ⟨#[]⟩)] [0]), [.tmp 61], none⟩
       (.step ⟨(some 64), .call 9, [.tmp 58, .tmp 60, .tmp 62, .tmp 63], none⟩
       (.step ⟨(some 54), .plain .mv, [.tmp 64], none⟩
       (.step ⟨(some 65), .plain (.extract 0), [.tmp 54], none⟩
       (.step ⟨(some 66), .plain (.extract 1), [.tmp 54], none⟩
       (.step ⟨(some 67), .plain (.extract 2), [.tmp 54], none⟩
       (.step ⟨none, .plain (.store 4), [.tmp 12, .tmp 65], none⟩
       (.step ⟨none, .plain (.store 5), [.tmp 13, .tmp 66], none⟩
       (.step ⟨(some 14), .plain .mv, [.tmp 67], none⟩
       .done)))))))))))))))
       (.or (.step ⟨(some 62), .plain (.buildRow 32 6 1 [(.int .i64 0), (.int .i64 0), (.int .i64 0), (.int .i64 0), (.bool false), (.str ⟨#[]⟩)] [0]), [.tmp 61], none⟩
       (.or (.step ⟨(some 60), .plain (.buildRow 24 4 1 [(.int .i64 0), (.int .i64 0), (.int .i64 0), (.str ⟨#[]⟩)] [0]), [.tmp 59], none⟩
       (.step ⟨(some 64), .call 9, [.tmp 58, .tmp 60, .tmp 62, .tmp 63], none⟩
       (.step ⟨(some 54), .plain .mv, [.tmp 64], none⟩
       (.step ⟨(some 65), .plain (.extract 0), [.tmp 54], none⟩
       (.step ⟨(some 66), .plain (.extract 1), [.tmp 54], none⟩
       (.step ⟨(some 67), .plain (.extract 2), [.tmp 54], none⟩
       (.or (.step ⟨(some 12), .plain (.alloc [(.int .i64 0), (.int .i64 0), (.int .i64 0), (.str ⟨#[]⟩)]), [], none⟩
       (.step ⟨(some 13), .plain (.alloc [(.int .i64 0), (.str ⟨#[]⟩), (.int .i64 0), (.str ⟨#[]⟩), (.int .i64 0)]), [], none⟩
       (.step ⟨none, .plain (.store 4), [.tmp 12, .tmp 65], none⟩
       (.step ⟨none, .plain (.store 5), [.tmp 13, .tmp 66], none⟩
       (.step ⟨(some 14), .plain .mv, [.tmp 67], none⟩
       .done)))))
       (.step ⟨(some 13), .plain (.alloc [(.int .i64 0), (.str ⟨#[]⟩), (.int .i64 0), (.str ⟨#[]⟩), (.int .i64 0)]), [], none⟩
       (.step ⟨(some 12), .plain (.alloc [(.int .i64 0), (.int .i64 0), (.int .i64 0), (.str ⟨#[]⟩)]), [], none⟩
       (.step ⟨none, .plain (.store 4), [.tmp 12, .tmp 65], none⟩
       (.step ⟨none, .plain (.store 5), [.tmp 13, .tmp 66], none⟩
       (.step ⟨(some 14), .plain .mv, [.tmp 67], none⟩
       .done))))))))))))
       (.or (.step ⟨(some 12), .plain (.alloc [(.int .i64 0), (.int .i64 0), (.int .i64 0), (.str ⟨#[]⟩)]), [], none⟩
       (.or (.step ⟨(some 60), .plain (.buildRow 24 4 1 [(.int .i64 0), (.int .i64 0), (.int .i64 0), (.str ⟨#[]⟩)] [0]), [.tmp 59], none⟩
       (.step ⟨(some 64), .call 9, [.tmp 58, .tmp 60, .tmp 62, .tmp 63], none⟩
       (.step ⟨(some 54), .plain .mv, [.tmp 64], none⟩
       (.step ⟨(some 65), .plain (.extract 0), [.tmp 54], none⟩
       (.step ⟨(some 66), .plain (.extract 1), [.tmp 54], none⟩
       (.step ⟨(some 67), .plain (.extract 2), [.tmp 54], none⟩
       (.step ⟨(some 13), .plain (.alloc [(.int .i64 0), (.str ⟨#[]⟩), (.int .i64 0), (.str ⟨#[]⟩), (.int .i64 0)]), [], none⟩
       (.step ⟨none, .plain (.store 4), [.tmp 12, .tmp 65], none⟩
       (.step ⟨none, .plain (.store 5), [.tmp 13, .tmp 66], none⟩
       (.step ⟨(some 14), .plain .mv, [.tmp 67], none⟩
       .done))))))))))
       (.step ⟨(some 13), .plain (.alloc [(.int .i64 0), (.str ⟨#[]⟩), (.int .i64 0), (.str ⟨#[]⟩), (.int .i64 0)]), [], none⟩
       (.step ⟨(some 60), .plain (.buildRow 24 4 1 [(.int .i64 0), (.int .i64 0), (.int .i64 0), (.str ⟨#[]⟩)] [0]), [.tmp 59], none⟩
       (.step ⟨(some 64), .call 9, [.tmp 58, .tmp 60, .tmp 62, .tmp 63], none⟩
       (.step ⟨(some 54), .plain .mv, [.tmp 64], none⟩
       (.step ⟨(some 65), .plain (.extract 0), [.tmp 54], none⟩
       (.step ⟨(some 66), .plain (.extract 1), [.tmp 54], none⟩
       (.step ⟨(some 67), .plain (.extract 2), [.tmp 54], none⟩
       (.step ⟨none, .plain (.store 4), [.tmp 12, .tmp 65], none⟩
       (.step ⟨none, .plain (.store 5), [.tmp 13, .tmp 66], none⟩
       (.step ⟨(some 14), .plain .mv, [.tmp 67], none⟩
       .done))))))))))))
       (.step ⟨(some 13), .plain (.alloc [(.int .i64 0), (.str ⟨#[]⟩), (.int .i64 0), (.str ⟨#[]⟩), (.int .i64 0)]), [], none⟩
       (.or (.step ⟨(some 60), .plain (.buildRow 24 4 1 [(.int .i64 0), (.int .i64 0), (.int .i64 0), (.str ⟨#[]⟩)] [0]), [.tmp 59], none⟩
       (.step ⟨(some 64), .call 9, [.tmp 58, .tmp 60, .tmp 62, .tmp 63], none⟩
       (.step ⟨(some 54), .plain .mv, [.tmp 64], none⟩
       (.step ⟨(some 65), .plain (.extract 0), [.tmp 54], none⟩
       (.step ⟨(some 66), .plain (.extract 1), [.tmp 54], none⟩
       (.step ⟨(some 67), .plain (.extract 2), [.tmp 54], none⟩
       (.step ⟨(some 12), .plain (.alloc [(.int .i64 0), (.int .i64 0), (.int .i64 0), (.str ⟨#[]⟩)]), [], none⟩
       (.step ⟨none, .plain (.store 4), [.tmp 12, .tmp 65], none⟩
       (.step ⟨none, .plain (.store 5), [.tmp 13, .tmp 66], none⟩
       (.step ⟨(some 14), .plain .mv, [.tmp 67], none⟩
       .done))))))))))
       (.step ⟨(some 12), .plain (.alloc [(.int .i64 0), (.int .i64 0), (.int .i64 0), (.str ⟨#[]⟩)]), [], none⟩
       (.step ⟨(some 60), .plain (.buildRow 24 4 1 [(.int .i64 0), (.int .i64 0), (.int .i64 0), (.str ⟨#[]⟩)] [0]), [.tmp 59], none⟩
       (.step ⟨(some 64), .call 9, [.tmp 58, .tmp 60, .tmp 62, .tmp 63], none⟩
       (.step ⟨(some 54), .plain .mv, [.tmp 64], none⟩
       (.step ⟨(some 65), .plain (.extract 0), [.tmp 54], none⟩
       (.step ⟨(some 66), .plain (.extract 1), [.tmp 54], none⟩
       (.step ⟨(some 67), .plain (.extract 2), [.tmp 54], none⟩
       (.step ⟨none, .plain (.store 4), [.tmp 12, .tmp 65], none⟩
       (.step ⟨none, .plain (.store 5), [.tmp 13, .tmp 66], none⟩
       (.step ⟨(some 14), .plain .mv, [.tmp 67], none⟩
       .done)))))))))))))))
       (.or (.step ⟨(some 12), .plain (.alloc [(.int .i64 0), (.int .i64 0), (.int .i64 0), (.str ⟨#[]⟩)]), [], none⟩
       (.or (.step ⟨(some 60), .plain (.buildRow 24 4 1 [(.int .i64 0), (.int .i64 0), (.int .i64 0), (.str ⟨#[]⟩)] [0]), [.tmp 59], none⟩
       (.or (.step ⟨(some 62), .plain (.buildRow 32 6 1 [(.int .i64 0), (.int .i64 0), (.int .i64 0), (.int .i64 0), (.bool false), (.str ⟨#[]⟩)] [0]), [.tmp 61], none⟩
       (.step ⟨(some 64), .call 9, [.tmp 58, .tmp 60, .tmp 62, .tmp 63], none⟩
       (.step ⟨(some 54), .plain .mv, [.tmp 64], none⟩
       (.step ⟨(some 65), .plain (.extract 0), [.tmp 54], none⟩
       (.step ⟨(some 66), .plain (.extract 1), [.tmp 54], none⟩
       (.step ⟨(some 67), .plain (.extract 2), [.tmp 54], none⟩
       (.step ⟨(some 13), .plain (.alloc [(.int .i64 0), (.str ⟨#[]⟩), (.int .i64 0), (.str ⟨#[]⟩), (.int .i64 0)]), [], none⟩
       (.step ⟨none, .plain (.store 4), [.tmp 12, .tmp 65], none⟩
       (.step ⟨none, .plain (.store 5), [.tmp 13, .tmp 66], none⟩
       (.step ⟨(some 14), .plain .mv, [.tmp 67], none⟩
       .done))))))))))
       (.step ⟨(some 13), .plain (.alloc [(.int .i64 0), (.str ⟨#[]⟩), (.int .i64 0), (.str ⟨#[]⟩), (.int .i64 0)]), [], none⟩
       (.step ⟨(some 62), .plain (.buildRow 32 6 1 [(.int .i64 0), (.int .i64 0), (.int .i64 0), (.int .i64 0), (.bool false), (.str ⟨#[]⟩)] [0]), [.tmp 61], none⟩
       (.step ⟨(some 64), .call 9, [.tmp 58, .tmp 60, .tmp 62, .tmp 63], none⟩
       (.step ⟨(some 54), .plain .mv, [.tmp 64], none⟩
       (.step ⟨(some 65), .plain (.extract 0), [.tmp 54], none⟩
       (.step ⟨(some 66), .plain (.extract 1), [.tmp 54], none⟩
       (.step ⟨(some 67), .plain (.extract 2), [.tmp 54], none⟩
       (.step ⟨none, .plain (.store 4), [.tmp 12, .tmp 65], none⟩
       (.step ⟨none, .plain (.store 5), [.tmp 13, .tmp 66], none⟩
       (.step ⟨(some 14), .plain .mv, [.tmp 67], none⟩
       .done))))))))))))
       (.or (.step ⟨(some 62), .plain (.buildRow 32 6 1 [(.int .i64 0), (.int .i64 0), (.int .i64 0), (.int .i64 0), (.bool false), (.str ⟨#[]⟩)] [0]), [.tmp 61], none⟩
       (.or (.step ⟨(some 60), .plain (.buildRow 24 4 1 [(.int .i64 0), (.int .i64 0), (.int .i64 0), (.str ⟨#[]⟩)] [0]), [.tmp 59], none⟩
       (.step ⟨(some 64), .call 9, [.tmp 58, .tmp 60, .tmp 62, .tmp 63], none⟩
       (.step ⟨(some 54), .plain .mv, [.tmp 64], none⟩
       (.step ⟨(some 65), .plain (.extract 0), [.tmp 54], none⟩
       (.step ⟨(some 66), .plain (.extract 1), [.tmp 54], none⟩
       (.step ⟨(some 67), .plain (.extract 2), [.tmp 54], none⟩
       (.step ⟨(some 13), .plain (.alloc [(.int .i64 0), (.str ⟨#[]⟩), (.int .i64 0), (.str ⟨#[]⟩), (.int .i64 0)]), [], none⟩
       (.step ⟨none, .plain (.store 4), [.tmp 12, .tmp 65], none⟩
       (.step ⟨none, .plain (.store 5), [.tmp 13, .tmp 66], none⟩
       (.step ⟨(some 14), .plain .mv, [.tmp 67], none⟩
       .done))))))))))
       (.step ⟨(some 13), .plain (.alloc [(.int .i64 0), (.str ⟨#[]⟩), (.int .i64 0), (.str ⟨#[]⟩), (.int .i64 0)]), [], none⟩
       (.step ⟨(some 60), .plain (.buildRow 24 4 1 [(.int .i64 0), (.int .i64 0), (.int .i64 0), (.str ⟨#[]⟩)] [0]), [.tmp 59], none⟩
       (.step ⟨(some 64), .call 9, [.tmp 58, .tmp 60, .tmp 62, .tmp 63], none⟩
       (.step ⟨(some 54), .plain .mv, [.tmp 64], none⟩
       (.step ⟨(some 65), .plain (.extract 0), [.tmp 54], none⟩
       (.step ⟨(some 66), .plain (.extract 1), [.tmp 54], none⟩
       (.step ⟨(some 67), .plain (.extract 2), [.tmp 54], none⟩
       (.step ⟨none, .plain (.store 4), [.tmp 12, .tmp 65], none⟩
       (.step ⟨none, .plain (.store 5), [.tmp 13, .tmp 66], none⟩
       (.step ⟨(some 14), .plain .mv, [.tmp 67], none⟩
       .done))))))))))))
       (.step ⟨(some 13), .plain (.alloc [(.int .i64 0), (.str ⟨#[]⟩), (.int .i64 0), (.str ⟨#[]⟩), (.int .i64 0)]), [], none⟩
       (.or (.step ⟨(some 60), .plain (.buildRow 24 4 1 [(.int .i64 0), (.int .i64 0), (.int .i64 0), (.str ⟨#[]⟩)] [0]), [.tmp 59], none⟩
       (.step ⟨(some 62), .plain (.buildRow 32 6 1 [(.int .i64 0), (.int .i64 0), (.int .i64 0), (.int .i64 0), (.bool false), (.str ⟨#[]⟩)] [0]), [.tmp 61], none⟩
       (.step ⟨(some 64), .call 9, [.tmp 58, .tmp 60, .tmp 62, .tmp 63], none⟩
       (.step ⟨(some 54), .plain .mv, [.tmp 64], none⟩
       (.step ⟨(some 65), .plain (.extract 0), [.tmp 54], none⟩
       (.step ⟨(some 66), .plain (.extract 1), [.tmp 54], none⟩
       (.step ⟨(some 67), .plain (.extract 2), [.tmp 54], none⟩
       (.step ⟨none, .plain (.store 4), [.tmp 12, .tmp 65], none⟩
       (.step ⟨none, .plain (.store 5), [.tmp 13, .tmp 66], none⟩
       (.step ⟨(some 14), .plain .mv, [.tmp 67], none⟩
       .done))))))))))
       (.step ⟨(some 62), .plain (.buildRow 32 6 1 [(.int .i64 0), (.int .i64 0), (.int .i64 0), (.int .i64 0), (.bool false), (.str ⟨#[]⟩)] [0]), [.tmp 61], none⟩
       (.step ⟨(some 60), .plain (.buildRow 24 4 1 [(.int .i64 0), (.int .i64 0), (.int .i64 0), (.str ⟨#[]⟩)] [0]), [.tmp 59], none⟩
       (.step ⟨(some 64), .call 9, [.tmp 58, .tmp 60, .tmp 62, .tmp 63], none⟩
       (.step ⟨(some 54), .plain .mv, [.tmp 64], none⟩
       (.step ⟨(some 65), .plain (.extract 0), [.tmp 54], none⟩
       (.step ⟨(some 66), .plain (.extract 1), [.tmp 54], none⟩
       (.step ⟨(some 67), .plain (.extract 2), [.tmp 54], none⟩
       (.step ⟨none, .plain (.store 4), [.tmp 12, .tmp 65], none⟩
       (.step ⟨none, .plain (.store 5), [.tmp 13, .tmp 66], none⟩
       (.step ⟨(some 14), .plain .mv, [.tmp 67], none⟩
       .done)))))))))))))))
       (.step ⟨(some 13), .plain (.alloc [(.int .i64 0), (.str ⟨#[]⟩), (.int .i64 0), (.str ⟨#[]⟩), (.int .i64 0)]), [], none⟩
       (.or (.step ⟨(some 60), .plain (.buildRow 24 4 1 [(.int .i64 0), (.int .i64 0), (.int .i64 0), (.str ⟨#[]⟩)] [0]), [.tmp 59], none⟩
       (.or (.step ⟨(some 62), .plain (.buildRow 32 6 1 [(.int .i64 0), (.int .i64 0), (.int .i64 0), (.int .i64 0), (.bool false), (.str ⟨#[]⟩)] [0]), [.tmp 61], none⟩
       (.step ⟨(some 64), .call 9, [.tmp 58, .tmp 60, .tmp 62, .tmp 63], none⟩
       (.step ⟨(some 54), .plain .mv, [.tmp 64], none⟩
       (.step ⟨(some 65), .plain (.extract 0), [.tmp 54], none⟩
       (.step ⟨(some 66), .plain (.extract 1), [.tmp 54], none⟩
       (.step ⟨(some 67), .plain (.extract 2), [.tmp 54], none⟩
       (.step ⟨(some 12), .plain (.alloc [(.int .i64 0), (.int .i64 0), (.int .i64 0), (.str ⟨#[]⟩)]), [], none⟩
       (.step ⟨none, .plain (.store 4), [.tmp 12, .tmp 65], none⟩
       (.step ⟨none, .plain (.store 5), [.tmp 13, .tmp 66], none⟩
       (.step ⟨(some 14), .plain .mv, [.tmp 67], none⟩
       .done))))))))))
       (.step ⟨(some 12), .plain (.alloc [(.int .i64 0), (.int .i64 0), (.int .i64 0), (.str ⟨#[]⟩)]), [], none⟩
       (.step ⟨(some 62), .plain (.buildRow 32 6 1 [(.int .i64 0), (.int .i64 0), (.int .i64 0), (.int .i64 0), (.bool false), (.str ⟨#[]⟩)] [0]), [.tmp 61], none⟩
       (.step ⟨(some 64), .call 9, [.tmp 58, .tmp 60, .tmp 62, .tmp 63], none⟩
       (.step ⟨(some 54), .plain .mv, [.tmp 64], none⟩
       (.step ⟨(some 65), .plain (.extract 0), [.tmp 54], none⟩
       (.step ⟨(some 66), .plain (.extract 1), [.tmp 54], none⟩
       (.step ⟨(some 67), .plain (.extract 2), [.tmp 54], none⟩
       (.step ⟨none, .plain (.store 4), [.tmp 12, .tmp 65], none⟩
       (.step ⟨none, .plain (.store 5), [.tmp 13, .tmp 66], none⟩
       (.step ⟨(some 14), .plain .mv, [.tmp 67], none⟩
       .done))))))))))))
       (.or (.step ⟨(some 62), .plain (.buildRow 32 6 1 [(.int .i64 0), (.int .i64 0), (.int .i64 0), (.int .i64 0), (.bool false), (.str ⟨#[]⟩)] [0]), [.tmp 61], none⟩
       (.or (.step ⟨(some 60), .plain (.buildRow 24 4 1 [(.int .i64 0), (.int .i64 0), (.int .i64 0), (.str ⟨#[]⟩)] [0]), [.tmp 59], none⟩
       (.step ⟨(some 64), .call 9, [.tmp 58, .tmp 60, .tmp 62, .tmp 63], none⟩
       (.step ⟨(some 54), .plain .mv, [.tmp 64], none⟩
       (.step ⟨(some 65), .plain (.extract 0), [.tmp 54], none⟩
       (.step ⟨(some 66), .plain (.extract 1), [.tmp 54], none⟩
       (.step ⟨(some 67), .plain (.extract 2), [.tmp 54], none⟩
       (.step ⟨(some 12), .plain (.alloc [(.int .i64 0), (.int .i64 0), (.int .i64 0), (.str ⟨#[]⟩)]), [], none⟩
       (.step ⟨none, .plain (.store 4), [.tmp 12, .tmp 65], none⟩
       (.step ⟨none, .plain (.store 5), [.tmp 13, .tmp 66], none⟩
       (.step ⟨(some 14), .plain .mv, [.tmp 67], none⟩
       .done))))))))))
       (.step ⟨(some 12), .plain (.alloc [(.int .i64 0), (.int .i64 0), (.int .i64 0), (.str ⟨#[]⟩)]), [], none⟩
       (.step ⟨(some 60), .plain (.buildRow 24 4 1 [(.int .i64 0), (.int .i64 0), (.int .i64 0), (.str ⟨#[]⟩)] [0]), [.tmp 59], none⟩
       (.step ⟨(some 64), .call 9, [.tmp 58, .tmp 60, .tmp 62, .tmp 63], none⟩
       (.step ⟨(some 54), .plain .mv, [.tmp 64], none⟩
       (.step ⟨(some 65), .plain (.extract 0), [.tmp 54], none⟩
       (.step ⟨(some 66), .plain (.extract 1), [.tmp 54], none⟩
       (.step ⟨(some 67), .plain (.extract 2), [.tmp 54], none⟩
       (.step ⟨none, .plain (.store 4), [.tmp 12, .tmp 65], none⟩
       (.step ⟨none, .plain (.store 5), [.tmp 13, .tmp 66], none⟩
       (.step ⟨(some 14), .plain .mv, [.tmp 67], none⟩
       .done))))))))))))
       (.step ⟨(some 12), .plain (.alloc [(.int .i64 0), (.int .i64 0), (.int .i64 0), (.str ⟨#[]⟩)]), [], none⟩
       (.or (.step ⟨(some 60), .plain (.buildRow 24 4 1 [(.int .i64 0), (.int .i64 0), (.int .i64 0), (.str ⟨#[]⟩)] [0]), [.tmp 59], none⟩
       (.step ⟨(some 62), .plain (.buildRow 32 6 1 [(.int .i64 0), (.int .i64 0), (.int .i64 0), (.int .i64 0), (.bool false), (.str ⟨#[]⟩)] [0]), [.tmp 61], none⟩
       (.step ⟨(some 64), .call 9, [.tmp 58, .tmp 60, .tmp 62, .tmp 63], none⟩
       (.step ⟨(some 54), .plain .mv, [.tmp 64], none⟩
       (.step ⟨(some 65), .plain (.extract 0), [.tmp 54], none⟩
       (.step ⟨(some 66), .plain (.extract 1), [.tmp 54], none⟩
       (.step ⟨(some 67), .plain (.extract 2), [.tmp 54], none⟩
       (.step ⟨none, .plain (.store 4), [.tmp 12, .tmp 65], none⟩
       (.step ⟨none, .plain (.store 5), [.tmp 13, .tmp 66], none⟩
       (.step ⟨(some 14), .plain .mv, [.tmp 67], none⟩
       .done))))))))))
       (.step ⟨(some 62), .plain (.buildRow 32 6 1 [(.int .i64 0), (.int .i64 0), (.int .i64 0), (.int .i64 0), (.bool false), (.str ⟨#[]⟩)] [0]), [.tmp 61], none⟩
       (.step ⟨(some 60), .plain (.buildRow 24 4 1 [(.int .i64 0), (.int .i64 0), (.int .i64 0), (.str ⟨#[]⟩)] [0]), [.tmp 59], none⟩
       (.step ⟨(some 64), .call 9, [.tmp 58, .tmp 60, .tmp 62, .tmp 63], none⟩
       (.step ⟨(some 54), .plain .mv, [.tmp 64], none⟩
       (.step ⟨(some 65), .plain (.extract 0), [.tmp 54], none⟩
       (.step ⟨(some 66), .plain (.extract 1), [.tmp 54], none⟩
       (.step ⟨(some 67), .plain (.extract 2), [.tmp 54], none⟩
       (.step ⟨none, .plain (.store 4), [.tmp 12, .tmp 65], none⟩
       (.step ⟨none, .plain (.store 5), [.tmp 13, .tmp 66], none⟩
       (.step ⟨(some 14), .plain .mv, [.tmp 67], none⟩
       .done))))))))))))))))))))))))) [55, 56, 57, 58, 59, 61, 63, 60, 62, 64, 54, 65, 66, 67])
     (.seq (.seq (.ops [⟨(some 68), .plain .mv, [.tmp 11], none⟩,
       ⟨(some 69), .plain (.bin .neq), [.tmp 68, .lit (.int .i64 0)], none⟩,
       ⟨(some 70), .plain .mv, [.tmp 69], none⟩,
       ⟨(some 71), .plain .mv, [.tmp 14], (some (70, false))⟩,
       ⟨(some 72), .plain (.bin .neq), [.tmp 71, .lit (.int .i64 0)], (some (70, false))⟩,
       ⟨(some 73), .plain .pick, [.tmp 70, .lit (.bool true), .tmp 72], none⟩,
       ⟨(some 74), .plain .mv, [.tmp 73], none⟩,
       ⟨(some 75), .plain (.fieldAddr 0), [.tmp 13], (some (74, false))⟩,
       ⟨(some 76), .plain (.load false 1), [.tmp 75], (some (74, false))⟩,
       ⟨(some 77), .plain (.bin .neq), [.tmp 76, .lit (.int .i64 0)], (some (74, false))⟩,
       ⟨(some 78), .plain .pick, [.tmp 74, .lit (.bool true), .tmp 77], none⟩,
       ⟨(some 79), .plain .mv, [.tmp 78], none⟩,
       ⟨(some 80), .plain (.fieldAddr 2), [.tmp 12], (some (79, false))⟩,
       ⟨(some 81), .plain (.load false 1), [.tmp 80], (some (79, false))⟩,
       ⟨(some 82), .plain (.bin .neq), [.tmp 81, .lit (.int .i64 0)], (some (79, false))⟩,
       ⟨(some 83), .plain .pick, [.tmp 79, .lit (.bool true), .tmp 82], none⟩] [68, 69, 70, 71, 72, 73, 74, 75, 76, 77, 78, 79, 80, 81, 82])
     (.cond (.tmp 83)
      (.seq (.ops [⟨(some 4), .plain .mv, [.lit (.bool false)], none⟩] [])
      .ret)
      .skip))
     (.ops [⟨(some 84), .plain .mv, [.tmp 9], none⟩,
       ⟨(some 85), .plain (.load true 4), [.tmp 12], none⟩,
       ⟨(some 86), .plain (.indexArr 3 4), [.tmp 7, .tmp 84], none⟩,
       ⟨none, .plain (.store 4), [.tmp 86, .tmp 85], none⟩] [84, 85, 86])))))
    (.ops [⟨(some 42), .plain .mv, [.tmp 9], none⟩,
      ⟨(some 43), .plain (.bin .add), [.tmp 42, .lit (.int .i64 1)], none⟩,
      ⟨(some 9), .plain .mv, [.tmp 43], none⟩] [42, 43]))))))
  (.seq (.ops [⟨(some 15), .plain .mv, [.lit (.int .i64 1)], none⟩] [])
  (.seq (.seq (.ops [⟨(some 16), .plain .mv, [.lit (.int .i64 0)], none⟩] [])
  (.block 2
   (.loop
    (.seq (.seq (.ops [⟨(some 87), .plain .mv, [.tmp 16], none⟩,
      ⟨(some 88), .plain .mv, [.tmp 1], none⟩,
      ⟨(some 89), .plain (.bin .lss), [.tmp 87, .tmp 88], none⟩] [87, 88])
    (.cond (.tmp 89)
     .skip
     (.exit 2)))
    (.seq (.block 3
     (.ops [⟨(some 92), .plain .mv, [.tmp 15], none⟩,
       ⟨(some 93), .plain (.bin .mul), [.lit (.int .i64 10), .tmp 92], none⟩,
       ⟨(some 15), .plain .mv, [.tmp 93], none⟩] [92, 93]))
    (.ops [⟨(some 90), .plain .mv, [.tmp 16], none⟩,
      ⟨(some 91), .plain (.bin .add), [.tmp 90, .lit (.int .i64 1)], none⟩,
      ⟨(some 16), .plain .mv, [.tmp 91], none⟩] [90, 91]))))))
  (.seq (.draw (.step ⟨(some 94), .plain (.indexArr 3 4), [.tmp 7, .lit (.int .i64 0)], none⟩
    (.step ⟨(some 95), .plain (.fieldAddr 1), [.tmp 94], none⟩
    (.step ⟨(some 96), .plain (.load false 1), [.tmp 95], none⟩
    (.step ⟨(some 97), .plain .mv, [.tmp 15], none⟩
    (.step ⟨(some 98), .plain (.bin .mul), [.tmp 96, .tmp 97], none⟩
    (.step ⟨(some 99), .plain (.indexArr 3 4), [.tmp 7, .lit (.int .i64 1)], none⟩
    (.step ⟨(some 100), .plain (.fieldAddr 1), [.tmp 99], none⟩
    (.step ⟨(some 101), .plain (.load false 1), [.tmp 100], none⟩
    (.step ⟨(some 102), .plain .mv, [.tmp 15], none⟩
    (.step ⟨(some 103), .plain (.bin .mul), [.tmp 101, .tmp 102], none⟩
    (.step ⟨(some 17), .plain .mv, [.tmp 98], none⟩
    (.step ⟨(some 18), .plain .mv, [.tmp 103], none⟩
    .done)))))))))))) [94, 95, 96, 97, 98, 99, 100, 101, 102, 103])
  (.seq (.seq (.ops [⟨(some 104), .plain .mv, [.tmp 17], none⟩,
    ⟨(some 105), .plain .mv, [.tmp 0], none⟩,
    ⟨(some 106), .plain (.bin .gtr), [.tmp 104, .tmp 105], none⟩,
    ⟨(some 107), .plain .mv, [.tmp 106], none⟩,
    ⟨(some 108), .plain .mv, [.tmp 18], (some (107, false))⟩,
    ⟨(some 109), .plain .mv, [.tmp 0], (some (107, false))⟩,
    ⟨(some 110), .plain (.bin .lss), [.tmp 108, .tmp 109], (some (107, false))⟩,
    ⟨(some 111), .plain .pick, [.tmp 107, .lit (.bool true), .tmp 110], none⟩,
    ⟨(some 112), .plain .mv, [.tmp 111], none⟩,
    ⟨(some 113), .plain .mv, [.tmp 0], (some (112, false))⟩,
    ⟨(some 114), .plain .mv, [.tmp 17], (some (112, false))⟩,
    ⟨(some 115), .plain (.bin .sub), [.tmp 113, .tmp 114], (some (112, false))⟩,
    ⟨(some 116), .plain .mv, [.tmp 15], (some (112, false))⟩,
    ⟨(some 117), .plain (.bin .geq), [.tmp 115, .tmp 116], (some (112, false))⟩,
    ⟨(some 118), .plain .pick, [.tmp 112, .lit (.bool true), .tmp 117], none⟩,
    ⟨(some 119), .plain .mv, [.tmp 118], none⟩,
    ⟨(some 120), .plain .mv, [.tmp 18], (some (119, false))⟩,
    ⟨(some 121), .plain .mv, [.tmp 0], (some (119, false))⟩,
    ⟨(some 122), .plain (.bin .sub), [.tmp 120, .tmp 121], (some (119, false))⟩,
    ⟨(some 123), .plain .mv, [.tmp 15], (some (119, false))⟩,
    ⟨(some 124), .plain (.bin .geq), [.tmp 122, .tmp 123], (some (119, false))⟩,
    ⟨(some 125), .plain .pick, [.tmp 119, .lit (.bool true), .tmp 124], none⟩] [104, 105, 106, 107, 108, 109, 110, 111, 112, 113, 114, 115, 116, 117, 118, 119, 120, 121, 122, 123, 124])
  (.cond (.tmp 125)
   (.seq (.ops [⟨(some 4), .plain .mv, [.lit (.bool false)], none⟩] [])
   .ret)
   .skip))
  (.seq (.ops [⟨(some 126), .plain .mv, [.tmp 0], none⟩,
    ⟨(some 127), .plain .mv, [.tmp 15], none⟩,
    ⟨(some 128), .plain (.bin .rem), [.tmp 126, .tmp 127], none⟩,
    ⟨(some 129), .plain (.bin .neq), [.tmp 128, .lit (.int .i64 0)], none⟩,
    ⟨(some 130), .plain .mv, [.tmp 129], none⟩,
    ⟨(some 131), .plain (.indexArr 3 4), [.tmp 7, .lit (.int .i64 0)], (some (130, false))⟩,
    ⟨(some 132), .plain (.load true 4), [.tmp 131], (some (130, false))⟩,
    ⟨(some 133), .plain (.indexArr 3 4), [.tmp 7, .lit (.int .i64 1)], (some (130, false))⟩,
    ⟨(some 134), .plain (.load true 4), [.tmp 133], (some (130, false))⟩,
    ⟨(some 135), .plain (.eqAgg false [.int, .int, .int, .str]), [.tmp 132, .tmp 134], (some (130, false))⟩,
    ⟨(some 136), .plain .mv, [.tmp 135], (some (130, false))⟩,
    ⟨(some 137), .plain (.indexArr 3 4), [.tmp 7, .lit (.int .i64 1)], (some (136, true))⟩,
    ⟨(some 138), .plain (.load true 4), [.tmp 137], (some (136, true))⟩,
    ⟨(some 139), .plain (.indexArr 3 4), [.tmp 7, .lit (.int .i64 2)], (some (136, true))⟩,
    ⟨(some 140), .plain (.load true 4), [.tmp 139], (some (136, true))⟩,
    ⟨(some 141), .plain (.eqAgg false [.int, .int, .int, .str]), [.tmp 138, .tmp 140], (some (136, true))⟩,
    ⟨(some 142), .plain .pick, [.tmp 136, .tmp 141, .lit (.bool false)], (some (130, false))⟩,
    ⟨(some 143), .plain .pick, [.tmp 130, .lit (.bool true), .tmp 142], none⟩,
    ⟨(some 144), .plain .mv, [.tmp 143], none⟩,
    ⟨(some 145), .call 8, [], (some (144, true))⟩,
    ⟨(some 146), .plain .pick, [.tmp 144, .tmp 145, .lit (.bool false)], none⟩,
    ⟨(some 4), .plain .mv, [.tmp 146], none⟩] [126, 127, 128, 129, 130, 131, 132, 133, 134, 135, 136, 137, 138, 139, 140, 141, 142, 143, 144, 145, 146])
  .ret))))))))))))
def cr6 : List Res := [(4, none)]
theorem ok6 : FOk Bk.pg.toProgram Bk.imp 6 c6 cr6 Tryz.f6.ntmps := ⟨Tryz.f6, _, Tryz.func6, rfl, by kernel_rfl, by kernel_rfl, by kernel_rfl, rfl⟩

/-- ironbark/built.Result -/
def c17 : SC :=
  (.seq (.ops [⟨(some 3), .plain (.box 1), [.tmp 0], none⟩,
    ⟨(some 4), .plain (.box 1), [.tmp 1], none⟩,
    ⟨(some 5), .plain (.box 1), [.tmp 2], none⟩,
    ⟨(some 6), .plain (.alloc [(.int .i64 0), (.int .i64 0), (.int .i64 0), (.int .i64 0), (.bool false), (.str ⟨#[]⟩)]), [], none⟩,
    ⟨(some 7), .plain .mv, [.lit (.int .i64 0)], none⟩] [])
  (.seq (.ops [⟨(some 8), .plain (.mkFn 39), [.tmp 3, .tmp 4, .tmp 5, .tmp 6], none⟩,
    ⟨(some 9), .call 25, [.tmp 8], none⟩,
    ⟨(some 7), .plain .mv, [.tmp 9], none⟩] [8, 9])
  (.seq (.seq (.ops [⟨(some 10), .plain .mv, [.tmp 7], none⟩,
    ⟨(some 11), .plain (.bin .neq), [.tmp 10, .lit (.int .i64 0)], none⟩] [10])
  (.cond (.tmp 11)
   (.ops [⟨(some 12), .plain (.build [(.int .i64 0), (.int .i64 0), (.int .i64 0), (.int .i64 0), (.bool false), (.str ⟨#[]⟩)] []), [], none⟩,
     ⟨none, .plain (.store 6), [.tmp 6, .tmp 12], none⟩] [12])
   .skip))
  (.seq (.ops [⟨(some 13), .plain (.load true 6), [.tmp 6], none⟩,
    ⟨(some 14), .plain .mv, [.tmp 7], none⟩,
    ⟨none, .plain (.store 6), [.tmp 6, .tmp 13], none⟩,
    ⟨(some 7), .plain .mv, [.tmp 14], none⟩] [13, 14])
  .ret))))
def cr17 : List Res := [(6, some (true, 6)), (7, none)]
theorem ok17 : FOk Bk.pg.toProgram Bk.imp 17 c17 cr17 Tryz.f17.ntmps := ⟨Tryz.f17, _, Tryz.func17, rfl, by kernel_rfl, by kernel_rfl, by kernel_rfl, rfl⟩

/-- ironbark/built.Result$1 -/
def c39 : SC :=
  (.seq (.draw (.step ⟨(some 9), .call 27, [], none⟩
    (.step ⟨(some 10), .plain (.load false 1), [.tmp 0], none⟩
    (.step ⟨(some 11), .plain (.lookup .str (.agg [(.int .i64 0), (.int .i64 0), (.const .nilFunc), (.const .nilFunc)]) true), [.tmp 9, .tmp 10], none⟩
    (.step ⟨(some 8), .plain .mv, [.tmp 11], none⟩
    (.step ⟨(some 12), .plain (.extract 0), [.tmp 8], none⟩
    (.step ⟨(some 13), .plain (.extract 1), [.tmp 8], none⟩
    (.step ⟨(some 4), .plain (.alloc [(.int .i64 0), (.int .i64 0), (.const .nilFunc), (.const .nilFunc)]), [], none⟩
    (.step ⟨none, .plain (.store 4), [.tmp 4, .tmp 12], none⟩
    (.step ⟨(some 5), .plain .mv, [.tmp 13], none⟩
    .done))))))))) [9, 10, 11, 8, 12, 13])
  (.seq (.ops [⟨(some 14), .plain .mv, [.tmp 5], none⟩,
    ⟨(some 15), .call 28, [.tmp 14, .lit (.int .i64 5)], none⟩] [14, 15])
  (.seq (.ops [⟨(some 16), .plain (.load false 1), [.tmp 1], none⟩,
    ⟨(some 17), .plain (.len 1), [.tmp 16], none⟩,
    ⟨(some 18), .plain (.fieldAddr 0), [.tmp 4], none⟩,
    ⟨(some 19), .plain (.load false 1), [.tmp 18], none⟩,
    ⟨(some 20), .plain (.fieldAddr 1), [.tmp 4], none⟩,
    ⟨(some 21), .plain (.load false 1), [.tmp 20], none⟩,
    ⟨(some 22), .call 29, [.tmp 17, .tmp 19, .tmp 21], none⟩,
    ⟨(some 23), .plain .mv, [.tmp 22], none⟩,
    ⟨(some 24), .plain (.load false 1), [.tmp 2], (some (23, true))⟩,
    ⟨(some 25), .plain (.len 1), [.tmp 24], (some (23, true))⟩,
    ⟨(some 26), .plain (.load false 1), [.tmp 1], (some (23, true))⟩,
    ⟨(some 27), .plain (.len 1), [.tmp 26], (some (23, true))⟩,
    ⟨(some 28), .plain (.bin .leq), [.tmp 25, .tmp 27], (some (23, true))⟩,
    ⟨(some 29), .plain .pick, [.tmp 23, .tmp 28, .lit (.bool false)], none⟩,
    ⟨(some 30), .call 28, [.tmp 29, .lit (.int .i64 11)], none⟩] [16, 17, 18, 19, 20, 21, 22, 23, 24, 25, 26, 27, 28, 29, 30])
  (.seq (.seq (.ops [⟨(some 31), .plain (.load false 1), [.tmp 1], none⟩,
    ⟨(some 32), .plain (.len 1), [.tmp 31], none⟩,
    ⟨(some 33), .call 30, [.tmp 32], none⟩] [31, 32])
  (.block 0
   (.rangeF (.tmp 33) [34]
    (.ops [⟨(some 6), .plain .mv, [.tmp 34], none⟩] [])
    (.block 1
     (.ops [⟨(some 35), .plain (.load false 1), [.tmp 1], none⟩,
       ⟨(some 36), .plain .mv, [.tmp 6], none⟩,
       ⟨(some 37), .plain (.indexAddr 6), [.tmp 35, .tmp 36], none⟩,
       ⟨(some 38), .plain (.load true 6), [.tmp 37], none⟩,
       ⟨(some 39), .call 31, [.tmp 38], none⟩,
       ⟨(some 40), .call 28, [.tmp 39, .lit (.int .i64 13)], none⟩] [35, 36, 37, 38, 39, 40])))))
  (.seq (.seq (.ops [⟨(some 41), .plain (.load false 1), [.tmp 2], none⟩,
    ⟨(some 42), .plain (.len 1), [.tmp 41], none⟩,
    ⟨(some 43), .plain (.load false 1), [.tmp 1], none⟩,
    ⟨(some 44), .plain (.len 1), [.tmp 43], none⟩,
    ⟨(some 45), .plain .min2, [.tmp 42, .tmp 44], none⟩,
    ⟨(some 46), .call 30, [.tmp 45], none⟩] [41, 42, 43, 44, 45])
  (.block 2
   (.rangeF (.tmp 46) [47]
    (.ops [⟨(some 7), .plain .mv, [.tmp 47], none⟩] [])
    (.block 3
     (.draw (.step ⟨(some 48), .plain (.load false 1), [.tmp 2], none⟩
       (.step ⟨(some 49), .plain .mv, [.tmp 7], none⟩
       (.step ⟨(some 50), .plain (.indexAddr 4), [.tmp 48, .tmp 49], none⟩
       (.step ⟨(some 51), .plain (.fieldAddr 0), [.tmp 50], none⟩
       (.step ⟨(some 52), .plain (.load false 1), [.tmp 51], none⟩
       (.step ⟨(some 53), .plain (.bin .eql), [.tmp 52, .lit (.int .i64 0)], none⟩
       (.step ⟨(some 54), .plain .mv, [.tmp 53], none⟩
       (.step ⟨(some 55), .plain (.load false 1), [.tmp 2], (some (54, false))⟩
       (.step ⟨(some 56), .plain .mv, [.tmp 7], (some (54, false))⟩
       (.step ⟨(some 57), .plain (.indexAddr 4), [.tmp 55, .tmp 56], (some (54, false))⟩
       (.step ⟨(some 58), .plain (.load true 4), [.tmp 57], (some (54, false))⟩
       (.step ⟨(some 59), .call 32, [.tmp 58], (some (54, false))⟩
       (.step ⟨(some 60), .plain .mv, [.tmp 59], (some (54, false))⟩
       (.step ⟨(some 61), .plain (.load false 1), [.tmp 1], (some (60, true))⟩
       (.step ⟨(some 62), .plain .mv, [.tmp 7], (some (60, true))⟩
       (.step ⟨(some 63), .plain (.indexAddr 6), [.tmp 61, .tmp 62], (some (60, true))⟩
       (.step ⟨(some 64), .plain (.load true 6), [.tmp 63], (some (60, true))⟩
       (.step ⟨(some 65), .plain (.load false 1), [.tmp 2], (some (60, true))⟩
       (.step ⟨(some 66), .plain .mv, [.tmp 7], (some (60, true))⟩
       (.step ⟨(some 67), .plain (.indexAddr 4), [.tmp 65, .tmp 66], (some (60, true))⟩
       (.step ⟨(some 68), .plain (.load true 4), [.tmp 67], (some (60, true))⟩
       (.step ⟨(some 69), .call 33, [.tmp 64, .tmp 68], (some (60, true))⟩
       (.step ⟨(some 70), .plain .pick, [.tmp 60, .tmp 69, .lit (.bool false)], (some (54, false))⟩
       (.step ⟨(some 71), .plain .pick, [.tmp 54, .lit (.bool true), .tmp 70], none⟩
       (.step ⟨(some 72), .call 28, [.tmp 71, .lit (.int .i64 1)], none⟩
       .done))))))))))))))))))))))))) [48, 49, 50, 51, 52, 53, 54, 55, 56, 57, 58, 59, 60, 61, 62, 63, 64, 65, 66, 67, 68, 69, 70, 71, 72])))))
  (.ops [⟨(some 73), .plain (.fieldAddr 2), [.tmp 4], none⟩,
    ⟨(some 74), .plain (.load false 1), [.tmp 73], none⟩,
    ⟨(some 75), .plain (.load false 1), [.tmp 1], none⟩,
    ⟨(some 76), .plain (.load false 1), [.tmp 2], none⟩,
    ⟨(some 77), .plain (.build [.nilS, .nilS] [(0, 1), (1, 1)]), [.tmp 75, .tmp 76], none⟩,
    ⟨(some 78), .callv, [.tmp 74, .tmp 77], none⟩,
    ⟨none, .plain (.store 6), [.tmp 3, .tmp 78], none⟩] [73, 74, 75, 76, 77, 78]))))))
def cr39 : List Res := []
theorem ok39 : FOk Bk.pg.toProgram Bk.imp 39 c39 cr39 Tryz.f39.ntmps := ⟨Tryz.f39, _, Tryz.func39, rfl, by kernel_rfl, by kernel_rfl, by kernel_rfl, rfl⟩

/-- (ironbark/built.calling).fit -/
def c64 : SC :=
  (.seq (.ops [⟨(some 2), .plain (.box 10), [.tmp 0], none⟩,
    ⟨(some 3), .plain (.box 4), [.tmp 1], none⟩,
    ⟨(some 4), .plain (.alloc [(.int .i64 0), (.int .i64 0), (.int .i64 0), (.str ⟨#[]⟩)]), [], none⟩] [])
  (.seq (.ops [⟨(some 9), .plain (.load true 4), [.tmp 3], none⟩,
    ⟨(some 10), .plain (.fieldAddr 3), [.tmp 2], none⟩,
    ⟨(some 11), .plain (.load true 6), [.tmp 10], none⟩,
    ⟨(some 12), .call 158, [.tmp 9, .tmp 11], none⟩,
    ⟨(some 8), .plain .mv, [.tmp 12], none⟩,
    ⟨(some 13), .plain (.extract 0), [.tmp 8], none⟩,
    ⟨(some 14), .plain (.extract 1), [.tmp 8], none⟩,
    ⟨(some 15), .plain (.extract 2), [.tmp 8], none⟩,
    ⟨(some 5), .plain (.alloc [(.int .i64 0), (.int .i64 0), (.int .i64 0), (.str ⟨#[]⟩)]), [], none⟩,
    ⟨none, .plain (.store 4), [.tmp 5, .tmp 13], none⟩,
    ⟨(some 6), .plain .mv, [.tmp 14], none⟩,
    ⟨(some 7), .plain .mv, [.tmp 15], none⟩] [9, 10, 11, 12, 8, 13, 14, 15, 7])
  (.seq (.ops [⟨(some 16), .plain (.load true 10), [.tmp 2], none⟩,
    ⟨(some 17), .plain .mv, [.tmp 6], none⟩,
    ⟨(some 18), .call 86, [.tmp 16, .tmp 17], none⟩] [16, 17, 18])
  (.seq (.ops [⟨(some 19), .plain (.load true 4), [.tmp 5], none⟩,
    ⟨none, .plain (.store 4), [.tmp 4, .tmp 19], none⟩] [19])
  .ret))))
def cr64 : List Res := [(4, some (true, 4))]
theorem ok64 : FOk Bk.pg.toProgram Bk.imp 64 c64 cr64 Tryz.f64.ntmps := ⟨Tryz.f64, _, Tryz.func64, rfl, by kernel_rfl, by kernel_rfl, by kernel_rfl, rfl⟩

/-- ironbark/digit.Sign -/
def c69 : SC :=
  (.seq (.ops [⟨(some 1), .plain (.box 4), [.tmp 0], none⟩,
    ⟨(some 2), .plain .mv, [.lit (.int .i64 0)], none⟩,
    ⟨(some 3), .plain .mv, [.lit (.int .i64 0)], none⟩] [])
  (.seq (.seq (.ops [⟨(some 5), .plain (.load true 4), [.tmp 1], none⟩,
    ⟨(some 6), .plain (.buildRow 24 4 1 [(.int .i64 0), (.int .i64 0), (.int .i64 0), (.str ⟨#[]⟩)] [0]), [.tmp 5], none⟩,
    ⟨(some 7), .call 160, [.lit (.const (.pointer none)), .tmp 6], none⟩,
    ⟨(some 4), .plain .mv, [.tmp 7], none⟩] [5, 6, 7])
  (.seq (.ops [⟨(some 8), .plain .mv, [.tmp 4], none⟩,
    ⟨(some 9), .plain (.bin .neq), [.tmp 8, .lit (.int .i64 0)], none⟩] [8])
  (.cond (.tmp 9)
   (.seq (.ops [⟨(some 10), .plain .mv, [.tmp 4], none⟩,
     ⟨(some 2), .plain .mv, [.lit (.int .i64 0)], none⟩,
     ⟨(some 3), .plain .mv, [.tmp 10], none⟩] [10])
   .ret)
   .skip)))
  (.seq (.block 0
   (.seq (.ops [⟨(some 12), .plain (.fieldAddr 1), [.tmp 1], none⟩,
     ⟨(some 13), .plain (.load false 1), [.tmp 12], none⟩,
     ⟨(some 14), .plain (.bin .lss), [.tmp 13, .lit (.int .i64 0)], none⟩,
     ⟨(some 11), .plain .mv, [.tmp 14], none⟩] [12, 13, 14])
   (.cond (.tmp 11)
    (.seq (.ops [⟨(some 2), .plain .mv, [.lit (.int .i64 (-1))], none⟩,
      ⟨(some 3), .plain .mv, [.lit (.int .i64 0)], none⟩] [])
    .ret)
    (.seq (.ops [⟨(some 16), .plain (.fieldAddr 1), [.tmp 1], none⟩,
      ⟨(some 17), .plain (.load false 1), [.tmp 16], none⟩,
      ⟨(some 18), .plain (.bin .gtr), [.tmp 17, .lit (.int .i64 0)], none⟩,
      ⟨(some 15), .plain .mv, [.tmp 18], none⟩] [16, 17, 18])
    (.cond (.tmp 15)
     (.seq (.ops [⟨(some 2), .plain .mv, [.lit (.int .i64 1)], none⟩,
       ⟨(some 3), .plain .mv, [.lit (.int .i64 0)], none⟩] [])
     .ret)
     .skip)))))
  (.seq (.ops [⟨(some 2), .plain .mv, [.lit (.int .i64 0)], none⟩,
    ⟨(some 3), .plain .mv, [.lit (.int .i64 0)], none⟩] [])
  .ret))))
def cr69 : List Res := [(2, none), (3, none)]
theorem ok69 : FOk Bk.pg.toProgram Bk.imp 69 c69 cr69 Tryz.f69.ntmps := ⟨Tryz.f69, _, Tryz.func69, rfl, by kernel_rfl, by kernel_rfl, by kernel_rfl, rfl⟩

/-- ironbark/built.wholeOf -/
def c70 : SC :=
  (.seq (.ops [⟨(some 1), .plain (.box 2), [.tmp 0], none⟩,
    ⟨(some 2), .plain (.alloc [(.int .i64 0), (.int .i64 0), (.int .i64 0), (.int .i64 0), (.bool false), (.str ⟨#[]⟩)]), [], none⟩] [])
  (.seq (.ops [⟨(some 5), .plain (.load true 2), [.tmp 1], none⟩,
    ⟨(some 6), .call 66, [.tmp 5, .lit (.int .i64 0)], none⟩,
    ⟨(some 3), .plain (.alloc [(.int .i64 0), (.int .i64 0), (.int .i64 0), (.int .i64 0), (.bool false), (.str ⟨#[]⟩)]), [], none⟩,
    ⟨none, .plain (.store 6), [.tmp 3, .tmp 6], none⟩] [5, 6])
  (.seq (.seq (.ops [⟨(some 7), .plain (.fieldAddr 0), [.tmp 3], none⟩,
    ⟨(some 8), .plain (.load false 1), [.tmp 7], none⟩,
    ⟨(some 9), .plain (.bin .eql), [.tmp 8, .lit (.int .i64 3)], none⟩] [7, 8])
  (.cond (.tmp 9)
   (.seq (.ops [⟨(some 10), .plain (.load true 6), [.tmp 3], none⟩,
     ⟨none, .plain (.store 6), [.tmp 2, .tmp 10], none⟩] [10])
   .ret)
   .skip))
  (.seq (.ops [⟨(some 4), .plain .mv, [.lit (.int .i64 15)], none⟩] [])
  (.seq (.seq (.ops [⟨(some 11), .plain (.fieldAddr 0), [.tmp 3], none⟩,
    ⟨(some 12), .plain (.load false 1), [.tmp 11], none⟩,
    ⟨(some 13), .plain (.bin .eql), [.tmp 12, .lit (.int .i64 1)], none⟩] [11, 12])
  (.cond (.tmp 13)
   (.ops [⟨(some 4), .plain .mv, [.lit (.int .i64 31)], none⟩] [])
   .skip))
  (.seq (.ops [⟨(some 14), .plain (.fieldAddr 0), [.tmp 3], none⟩,
    ⟨(some 15), .plain (.load false 1), [.tmp 14], none⟩,
    ⟨(some 16), .plain .mv, [.tmp 4], none⟩,
    ⟨(some 17), .plain (.fieldAddr 1), [.tmp 3], none⟩,
    ⟨(some 18), .plain (.load false 1), [.tmp 17], none⟩,
    ⟨(some 19), .plain (.fieldAddr 2), [.tmp 3], none⟩,
    ⟨(some 20), .plain (.load false 1), [.tmp 19], none⟩,
    ⟨(some 21), .plain (.bin .sub), [.tmp 18, .tmp 20], none⟩,
    ⟨(some 22), .plain (.bin .add), [.tmp 21, .lit (.int .i64 1)], none⟩,
    ⟨(some 23), .plain .max2, [.lit (.int .i64 1), .tmp 22], none⟩,
    ⟨(some 24), .plain .min2, [.tmp 16, .tmp 23], none⟩,
    ⟨(some 25), .plain (.build [(.int .i64 0), (.int .i64 0), (.int .i64 0), (.int .i64 0), (.bool false), (.str ⟨#[]⟩)] [(0, 1), (1, 1)]), [.tmp 15, .tmp 24], none⟩,
    ⟨none, .plain (.store 6), [.tmp 2, .tmp 25], none⟩] [14, 15, 16, 17, 18, 19, 20, 21, 22, 23, 24, 25])
  .ret))))))
def cr70 : List Res := [(2, some (true, 6))]
theorem ok70 : FOk Bk.pg.toProgram Bk.imp 70 c70 cr70 Tryz.f70.ntmps := ⟨Tryz.f70, _, Tryz.func70, rfl, by kernel_rfl, by kernel_rfl, by kernel_rfl, rfl⟩

/-- ironbark/built.cutWhole -/
def c72 : SC :=
  (.seq (.ops [⟨(some 2), .plain (.box 4), [.tmp 0], none⟩,
    ⟨(some 4), .plain (.alloc [(.int .i64 0), (.int .i64 0), (.int .i64 0), (.str ⟨#[]⟩)]), [], none⟩] [])
  (.seq (.seq (.ops [⟨(some 10), .plain (.fieldAddr 0), [.tmp 2], none⟩,
    ⟨(some 11), .plain (.load false 1), [.tmp 10], none⟩,
    ⟨(some 12), .plain (.bin .eql), [.tmp 11, .lit (.int .i64 3)], none⟩,
    ⟨(some 13), .plain .mv, [.tmp 12], none⟩,
    ⟨(some 14), .plain (.fieldAddr 2), [.tmp 2], (some (13, true))⟩,
    ⟨(some 15), .plain (.load false 1), [.tmp 14], (some (13, true))⟩,
    ⟨(some 16), .plain (.bin .geq), [.tmp 15, .lit (.int .i64 0)], (some (13, true))⟩,
    ⟨(some 17), .plain .pick, [.tmp 13, .tmp 16, .lit (.bool false)], none⟩] [10, 11, 12, 13, 14, 15, 16])
  (.cond (.tmp 17)
   (.seq (.ops [⟨(some 18), .plain (.load true 4), [.tmp 2], none⟩,
     ⟨none, .plain (.store 4), [.tmp 4, .tmp 18], none⟩] [18])
   .ret)
   .skip))
  (.seq (.ops [⟨(some 20), .plain (.load true 4), [.tmp 2], none⟩,
    ⟨(some 21), .call 161, [.tmp 20], none⟩,
    ⟨(some 19), .plain .mv, [.tmp 21], none⟩,
    ⟨(some 22), .plain (.extract 0), [.tmp 19], none⟩,
    ⟨(some 23), .plain (.extract 1), [.tmp 19], none⟩,
    ⟨(some 24), .plain (.extract 2), [.tmp 19], none⟩,
    ⟨(some 5), .plain .mv, [.tmp 22], none⟩,
    ⟨(some 6), .plain .mv, [.tmp 23], none⟩,
    ⟨(some 7), .plain .mv, [.tmp 24], none⟩] [20, 21, 19, 22, 23, 24, 7])
  (.seq (.seq (.ops [⟨(some 26), .plain (.load true 4), [.tmp 2], none⟩,
    ⟨(some 27), .call 69, [.tmp 26], none⟩,
    ⟨(some 25), .plain .mv, [.tmp 27], none⟩,
    ⟨(some 28), .plain (.extract 0), [.tmp 25], none⟩,
    ⟨(some 29), .plain (.extract 1), [.tmp 25], none⟩,
    ⟨(some 8), .plain .mv, [.tmp 28], none⟩,
    ⟨(some 9), .plain .mv, [.tmp 29], none⟩] [26, 27, 25, 28, 29, 9])
  (.block 0
   (.seq (.ops [⟨(some 31), .plain .mv, [.tmp 6], none⟩,
     ⟨(some 30), .plain .mv, [.tmp 31], none⟩] [31])
   (.cond (.tmp 30)
    .skip
    (.seq (.ops [⟨(some 33), .plain .mv, [.tmp 1], none⟩,
      ⟨(some 34), .plain (.bin .lss), [.tmp 33, .lit (.int .i64 0)], none⟩,
      ⟨(some 35), .plain .mv, [.tmp 34], none⟩,
      ⟨(some 36), .plain .mv, [.tmp 8], (some (35, true))⟩,
      ⟨(some 37), .plain (.bin .lss), [.tmp 36, .lit (.int .i64 0)], (some (35, true))⟩,
      ⟨(some 38), .plain .pick, [.tmp 35, .tmp 37, .lit (.bool false)], none⟩,
      ⟨(some 32), .plain .mv, [.tmp 38], none⟩] [33, 34, 35, 36, 37, 38])
    (.cond (.tmp 32)
     (.ops [⟨(some 39), .plain .mv, [.tmp 5], none⟩,
       ⟨(some 40), .plain (.bin .sub), [.tmp 39, .lit (.int .i64 1)], none⟩,
       ⟨(some 5), .plain .mv, [.tmp 40], none⟩] [39, 40])
     (.seq (.ops [⟨(some 42), .plain .mv, [.tmp 1], none⟩,
       ⟨(some 43), .plain (.bin .gtr), [.tmp 42, .lit (.int .i64 0)], none⟩,
       ⟨(some 44), .plain .mv, [.tmp 43], none⟩,
       ⟨(some 45), .plain .mv, [.tmp 8], (some (44, true))⟩,
       ⟨(some 46), .plain (.bin .gtr), [.tmp 45, .lit (.int .i64 0)], (some (44, true))⟩,
       ⟨(some 47), .plain .pick, [.tmp 44, .tmp 46, .lit (.bool false)], none⟩,
       ⟨(some 41), .plain .mv, [.tmp 47], none⟩] [42, 43, 44, 45, 46, 47])
     (.cond (.tmp 41)
      (.ops [⟨(some 48), .plain .mv, [.tmp 5], none⟩,
        ⟨(some 49), .plain (.bin .add), [.tmp 48, .lit (.int .i64 1)], none⟩,
        ⟨(some 5), .plain .mv, [.tmp 49], none⟩] [48, 49])
      .skip))))))))
  (.seq (.ops [⟨(some 50), .plain .mv, [.tmp 5], none⟩,
    ⟨(some 51), .plain (.build [(.int .i64 0), (.int .i64 0), (.int .i64 0), (.str ⟨#[]⟩)] [(0, 1), (1, 1)]), [.lit (.int .i64 2), .tmp 50], none⟩,
    ⟨none, .plain (.store 4), [.tmp 4, .tmp 51], none⟩] [50, 51])
  .ret)))))
def cr72 : List Res := [(4, some (true, 4))]
theorem ok72 : FOk Bk.pg.toProgram Bk.imp 72 c72 cr72 Tryz.f72.ntmps := ⟨Tryz.f72, _, Tryz.func72, rfl, by kernel_rfl, by kernel_rfl, by kernel_rfl, rfl⟩

/-- ironbark/digit.Whole -/
def c161 : SC :=
  (.seq (.ops [⟨(some 1), .plain (.box 4), [.tmp 0], none⟩,
    ⟨(some 2), .plain .mv, [.lit (.int .i64 0)], none⟩,
    ⟨(some 3), .plain .mv, [.lit (.bool false)], none⟩,
    ⟨(some 4), .plain .mv, [.lit (.int .i64 0)], none⟩] [])
  (.seq (.seq (.ops [⟨(some 11), .plain (.load true 4), [.tmp 1], none⟩,
    ⟨(some 12), .plain (.buildRow 24 4 1 [(.int .i64 0), (.int .i64 0), (.int .i64 0), (.str ⟨#[]⟩)] [0]), [.tmp 11], none⟩,
    ⟨(some 13), .call 160, [.lit (.const (.pointer none)), .tmp 12], none⟩,
    ⟨(some 5), .plain .mv, [.tmp 13], none⟩] [11, 12, 13])
  (.seq (.ops [⟨(some 14), .plain .mv, [.tmp 5], none⟩,
    ⟨(some 15), .plain (.bin .neq), [.tmp 14, .lit (.int .i64 0)], none⟩] [14])
  (.cond (.tmp 15)
   (.seq (.ops [⟨(some 16), .plain .mv, [.tmp 5], none⟩,
     ⟨(some 2), .plain .mv, [.lit (.int .i64 0)], none⟩,
     ⟨(some 3), .plain .mv, [.lit (.bool false)], none⟩,
     ⟨(some 4), .plain .mv, [.tmp 16], none⟩] [16])
   .ret)
   .skip)))
  (.seq (.ops [⟨(some 17), .plain (.load true 4), [.tmp 1], none⟩,
    ⟨(some 18), .call 165, [.tmp 17], none⟩,
    ⟨(some 6), .plain (.alloc [.nilS, (.bool false), (.int .i64 0)]), [], none⟩,
    ⟨none, .plain (.store 3), [.tmp 6, .tmp 18], none⟩] [17, 18])
  (.seq (.draw (.step ⟨(some 19), .plain (.fieldAddr 0), [.tmp 6], none⟩
    (.step ⟨(some 20), .plain (.load false 1), [.tmp 19], none⟩
    (.step ⟨(some 21), .plain (.fieldAddr 2), [.tmp 6], none⟩
    (.step ⟨(some 22), .plain (.load false 1), [.tmp 21], none⟩
    (.step ⟨(some 23), .plain .max2, [.lit (.int .i64 0), .tmp 22], none⟩
    (.step ⟨(some 24), .call 243, [.tmp 20, .tmp 23], none⟩
    (.step ⟨(some 25), .plain (.fieldAddr 2), [.tmp 6], none⟩
    (.step ⟨(some 26), .plain (.load false 1), [.tmp 25], none⟩
    (.step ⟨(some 27), .plain (.un .neg), [.tmp 26], none⟩
    (.step ⟨(some 28), .plain .max2, [.lit (.int .i64 0), .tmp 27], none⟩
    (.step ⟨(some 29), .call 244, [.tmp 24, .tmp 28], none⟩
    (.step ⟨(some 7), .plain .mv, [.tmp 29], none⟩
    .done)))))))))))) [19, 20, 21, 22, 23, 24, 25, 26, 27, 28, 29])
  (.seq (.seq (.ops [⟨(some 30), .plain .mv, [.tmp 7], none⟩,
    ⟨(some 31), .plain (.len 1), [.tmp 30], none⟩,
    ⟨(some 32), .plain (.bin .gtr), [.tmp 31, .lit (.int .i64 15)], none⟩] [30, 31])
  (.cond (.tmp 32)
   (.seq (.ops [⟨(some 2), .plain .mv, [.lit (.int .i64 0)], none⟩,
     ⟨(some 3), .plain .mv, [.lit (.bool false)], none⟩,
     ⟨(some 4), .plain .mv, [.lit (.int .i64 7)], none⟩] [])
   .ret)
   .skip))
  (.seq (.ops [⟨(some 33), .plain .mv, [.tmp 7], none⟩,
    ⟨(some 34), .call 245, [.tmp 33], none⟩,
    ⟨(some 8), .plain .mv, [.tmp 34], none⟩] [33, 34])
  (.seq (.seq (.ops [⟨(some 35), .plain (.fieldAddr 1), [.tmp 6], none⟩,
    ⟨(some 36), .plain (.load false 1), [.tmp 35], none⟩] [35])
  (.cond (.tmp 36)
   (.ops [⟨(some 37), .plain .mv, [.tmp 8], none⟩,
     ⟨(some 38), .plain (.un .neg), [.tmp 37], none⟩,
     ⟨(some 8), .plain .mv, [.tmp 38], none⟩] [37, 38])
   .skip))
  (.seq (.ops [⟨(some 40), .plain (.load true 4), [.tmp 1], none⟩,
    ⟨(some 41), .plain .mv, [.tmp 8], none⟩,
    ⟨(some 42), .plain (.build [(.int .i64 0), (.int .i64 0), (.int .i64 0), (.str ⟨#[]⟩)] [(0, 1), (1, 1)]), [.lit (.int .i64 2), .tmp 41], none⟩,
    ⟨(some 43), .call 78, [.tmp 40, .tmp 42], none⟩,
    ⟨(some 39), .plain .mv, [.tmp 43], none⟩,
    ⟨(some 44), .plain (.extract 0), [.tmp 39], none⟩,
    ⟨(some 45), .plain (.extract 1), [.tmp 39], none⟩,
    ⟨(some 9), .plain .mv, [.tmp 44], none⟩,
    ⟨(some 10), .plain .mv, [.tmp 45], none⟩] [40, 41, 42, 43, 39, 44, 45, 10])
  (.seq (.ops [⟨(some 46), .plain .mv, [.tmp 8], none⟩,
    ⟨(some 47), .plain .mv, [.tmp 9], none⟩,
    ⟨(some 48), .plain (.bin .eql), [.tmp 47, .lit (.int .i64 0)], none⟩,
    ⟨(some 2), .plain .mv, [.tmp 46], none⟩,
    ⟨(some 3), .plain .mv, [.tmp 48], none⟩,
    ⟨(some 4), .plain .mv, [.lit (.int .i64 0)], none⟩] [46, 47, 48])
  .ret)))))))))
def cr161 : List Res := [(2, none), (3, none), (4, none)]
theorem ok161 : FOk Bk.pg.toProgram Bk.imp 161 c161 cr161 Tryz.f161.ntmps := ⟨Tryz.f161, _, Tryz.func161, rfl, by kernel_rfl, by kernel_rfl, by kernel_rfl, rfl⟩

/-- ironbark/digit.Compare -/
def c78 : SC :=
  (.seq (.ops [⟨(some 2), .plain (.box 4), [.tmp 0], none⟩,
    ⟨(some 3), .plain (.box 4), [.tmp 1], none⟩,
    ⟨(some 4), .plain .mv, [.lit (.int .i64 0)], none⟩,
    ⟨(some 5), .plain .mv, [.lit (.int .i64 0)], none⟩] [])
  (.seq (.seq (.ops [⟨(some 9), .plain (.load true 4), [.tmp 2], none⟩,
    ⟨(some 10), .plain (.load true 4), [.tmp 3], none⟩,
    ⟨(some 11), .plain (.buildRow 24 4 2 [(.int .i64 0), (.int .i64 0), (.int .i64 0), (.str ⟨#[]⟩)] [0, 1]), [.tmp 9, .tmp 10], none⟩,
    ⟨(some 12), .call 160, [.lit (.const (.pointer none)), .tmp 11], none⟩,
    ⟨(some 6), .plain .mv, [.tmp 12], none⟩] [9, 10, 11, 12])
  (.seq (.ops [⟨(some 13), .plain .mv, [.tmp 6], none⟩,
    ⟨(some 14), .plain (.bin .neq), [.tmp 13, .lit (.int .i64 0)], none⟩] [13])
  (.cond (.tmp 14)
   (.seq (.ops [⟨(some 15), .plain .mv, [.tmp 6], none⟩,
     ⟨(some 4), .plain .mv, [.lit (.int .i64 0)], none⟩,
     ⟨(some 5), .plain .mv, [.tmp 15], none⟩] [15])
   .ret)
   .skip)))
  (.seq (.ops [⟨(some 16), .plain (.load true 4), [.tmp 3], none⟩,
    ⟨(some 17), .call 165, [.tmp 16], none⟩,
    ⟨(some 7), .plain (.alloc [.nilS, (.bool false), (.int .i64 0)]), [], none⟩,
    ⟨none, .plain (.store 3), [.tmp 7, .tmp 17], none⟩] [16, 17])
  (.seq (.ops [⟨(some 18), .plain (.fieldAddr 1), [.tmp 7], none⟩,
    ⟨(some 19), .plain (.load false 1), [.tmp 18], none⟩,
    ⟨(some 20), .plain (.un .not), [.tmp 19], none⟩,
    ⟨(some 21), .plain (.fieldAddr 1), [.tmp 7], none⟩,
    ⟨none, .plain (.store 1), [.tmp 21, .tmp 20], none⟩] [18, 19, 20, 21])
  (.seq (.draw (.step ⟨(some 22), .plain (.load true 4), [.tmp 2], none⟩
    (.step ⟨(some 23), .call 165, [.tmp 22], none⟩
    (.step ⟨(some 24), .plain (.load true 3), [.tmp 7], none⟩
    (.step ⟨(some 25), .call 166, [.tmp 23, .tmp 24], none⟩
    (.step ⟨(some 8), .plain (.alloc [.nilS, (.bool false), (.int .i64 0)]), [], none⟩
    (.step ⟨none, .plain (.store 3), [.tmp 8, .tmp 25], none⟩
    .done)))))) [22, 23, 24, 25])
  (.seq (.block 0
   (.seq (.ops [⟨(some 27), .plain (.fieldAddr 0), [.tmp 8], none⟩,
     ⟨(some 28), .plain (.load false 1), [.tmp 27], none⟩,
     ⟨(some 29), .plain (.len 1), [.tmp 28], none⟩,
     ⟨(some 30), .plain (.bin .eql), [.tmp 29, .lit (.int .i64 0)], none⟩,
     ⟨(some 26), .plain .mv, [.tmp 30], none⟩] [27, 28, 29, 30])
   (.cond (.tmp 26)
    (.seq (.ops [⟨(some 4), .plain .mv, [.lit (.int .i64 0)], none⟩,
      ⟨(some 5), .plain .mv, [.lit (.int .i64 0)], none⟩] [])
    .ret)
    (.seq (.ops [⟨(some 32), .plain (.fieldAddr 1), [.tmp 8], none⟩,
      ⟨(some 33), .plain (.load false 1), [.tmp 32], none⟩,
      ⟨(some 31), .plain .mv, [.tmp 33], none⟩] [32, 33])
    (.cond (.tmp 31)
     (.seq (.ops [⟨(some 4), .plain .mv, [.lit (.int .i64 (-1))], none⟩,
       ⟨(some 5), .plain .mv, [.lit (.int .i64 0)], none⟩] [])
     .ret)
     .skip)))))
  (.seq (.ops [⟨(some 4), .plain .mv, [.lit (.int .i64 1)], none⟩,
    ⟨(some 5), .plain .mv, [.lit (.int .i64 0)], none⟩] [])
  .ret)))))))
def cr78 : List Res := [(4, none), (5, none)]
theorem ok78 : FOk Bk.pg.toProgram Bk.imp 78 c78 cr78 Tryz.f78.ntmps := ⟨Tryz.f78, _, Tryz.func78, rfl, by kernel_rfl, by kernel_rfl, by kernel_rfl, rfl⟩

/-- ironbark/digit.sum -/
def c166 : SC :=
  (.seq (.ops [⟨(some 2), .plain (.box 3), [.tmp 0], none⟩,
    ⟨(some 3), .plain (.box 3), [.tmp 1], none⟩,
    ⟨(some 4), .plain (.alloc [.nilS, (.bool false), (.int .i64 0)]), [], none⟩] [])
  (.seq (.ops [⟨(some 6), .plain (.load true 3), [.tmp 2], none⟩,
    ⟨(some 7), .plain (.load true 3), [.tmp 3], none⟩,
    ⟨(some 8), .call 251, [.tmp 6, .tmp 7], none⟩,
    ⟨(some 5), .plain .mv, [.tmp 8], none⟩,
    ⟨(some 9), .plain (.extract 0), [.tmp 5], none⟩,
    ⟨(some 10), .plain (.extract 1), [.tmp 5], none⟩,
    ⟨none, .plain (.store 3), [.tmp 2, .tmp 9], none⟩,
    ⟨none, .plain (.store 3), [.tmp 3, .tmp 10], none⟩] [6, 7, 8, 5, 9, 10])
  (.seq (.seq (.ops [⟨(some 11), .plain (.fieldAddr 1), [.tmp 2], none⟩,
    ⟨(some 12), .plain (.load false 1), [.tmp 11], none⟩,
    ⟨(some 13), .plain (.fieldAddr 1), [.tmp 3], none⟩,
    ⟨(some 14), .plain (.load false 1), [.tmp 13], none⟩,
    ⟨(some 15), .plain (.eqBool false), [.tmp 12, .tmp 14], none⟩] [11, 12, 13, 14])
  (.cond (.tmp 15)
   (.seq (.ops [⟨(some 16), .plain (.fieldAddr 0), [.tmp 2], none⟩,
     ⟨(some 17), .plain (.load false 1), [.tmp 16], none⟩,
     ⟨(some 18), .plain (.fieldAddr 0), [.tmp 3], none⟩,
     ⟨(some 19), .plain (.load false 1), [.tmp 18], none⟩,
     ⟨(some 20), .call 256, [.tmp 17, .tmp 19], none⟩,
     ⟨(some 21), .plain (.fieldAddr 0), [.tmp 2], none⟩,
     ⟨none, .plain (.store 1), [.tmp 21, .tmp 20], none⟩] [16, 17, 18, 19, 20, 21])
   (.seq (.ops [⟨(some 22), .plain (.load true 3), [.tmp 2], none⟩,
     ⟨none, .plain (.store 3), [.tmp 4, .tmp 22], none⟩] [22])
   .ret))
   .skip))
  (.seq (.seq (.ops [⟨(some 23), .plain (.fieldAddr 0), [.tmp 2], none⟩,
    ⟨(some 24), .plain (.load false 1), [.tmp 23], none⟩,
    ⟨(some 25), .plain (.fieldAddr 0), [.tmp 3], none⟩,
    ⟨(some 26), .plain (.load false 1), [.tmp 25], none⟩,
    ⟨(some 27), .call 257, [.tmp 24, .tmp 26], none⟩,
    ⟨(some 28), .plain (.bin .lss), [.tmp 27, .lit (.int .i64 0)], none⟩] [23, 24, 25, 26, 27])
  (.cond (.tmp 28)
   (.ops [⟨(some 29), .plain (.load true 3), [.tmp 3], none⟩,
     ⟨(some 30), .plain (.load true 3), [.tmp 2], none⟩,
     ⟨none, .plain (.store 3), [.tmp 2, .tmp 29], none⟩,
     ⟨none, .plain (.store 3), [.tmp 3, .tmp 30], none⟩] [29, 30])
   .skip))
  (.seq (.ops [⟨(some 31), .plain (.fieldAddr 0), [.tmp 2], none⟩,
    ⟨(some 32), .plain (.load false 1), [.tmp 31], none⟩,
    ⟨(some 33), .plain (.fieldAddr 0), [.tmp 3], none⟩,
    ⟨(some 34), .plain (.load false 1), [.tmp 33], none⟩,
    ⟨(some 35), .call 253, [.tmp 32, .tmp 34], none⟩,
    ⟨(some 36), .plain (.fieldAddr 0), [.tmp 2], none⟩,
    ⟨none, .plain (.store 1), [.tmp 36, .tmp 35], none⟩] [31, 32, 33, 34, 35, 36])
  (.seq (.ops [⟨(some 37), .plain (.load true 3), [.tmp 2], none⟩,
    ⟨none, .plain (.store 3), [.tmp 4, .tmp 37], none⟩] [37])
  .ret))))))
def cr166 : List Res := [(4, some (true, 3))]
theorem ok166 : FOk Bk.pg.toProgram Bk.imp 166 c166 cr166 Tryz.f166.ntmps := ⟨Tryz.f166, _, Tryz.func166, rfl, by kernel_rfl, by kernel_rfl, by kernel_rfl, rfl⟩

/-- ironbark/digit.reckon, its front -/
def cx167 : SC :=
  (.seq (.ops [⟨(some 4), .plain (.box 4), [.tmp 0], none⟩,
    ⟨(some 5), .plain (.box 4), [.tmp 1], none⟩,
    ⟨(some 6), .plain (.box 6), [.tmp 2], none⟩,
    ⟨(some 8), .plain (.alloc [(.int .i64 0), (.int .i64 0), (.int .i64 0), (.str ⟨#[]⟩)]), [], none⟩,
    ⟨(some 9), .plain (.alloc [(.int .i64 0)]), [], none⟩,
    ⟨(some 10), .plain (.alloc [(.int .i64 0)]), [], none⟩] [])
  (.seq (.seq (.ops [⟨(some 12), .plain (.load true 4), [.tmp 4], none⟩,
    ⟨(some 13), .plain (.load true 4), [.tmp 5], none⟩,
    ⟨(some 14), .plain (.buildRow 24 4 2 [(.int .i64 0), (.int .i64 0), (.int .i64 0), (.str ⟨#[]⟩)] [0, 1]), [.tmp 12, .tmp 13], none⟩,
    ⟨(some 15), .call 160, [.tmp 6, .tmp 14], none⟩,
    ⟨(some 11), .plain .mv, [.tmp 15], none⟩] [12, 13, 14, 15])
  (.seq (.ops [⟨(some 16), .plain .mv, [.tmp 11], none⟩,
    ⟨(some 17), .plain (.bin .neq), [.tmp 16, .lit (.int .i64 0)], none⟩] [16])
  (.cond (.tmp 17)
   (.seq (.ops [⟨(some 18), .plain (.build [(.int .i64 0), (.int .i64 0), (.int .i64 0), (.str ⟨#[]⟩)] []), [], none⟩,
     ⟨(some 19), .plain .mv, [.tmp 11], none⟩,
     ⟨none, .plain (.store 4), [.tmp 8, .tmp 18], none⟩,
     ⟨none, .plain (.store 1), [.tmp 9, .lit (.int .i64 0)], none⟩,
     ⟨none, .plain (.store 1), [.tmp 10, .tmp 19], none⟩] [18, 19])
   .ret)
   .skip)))
  .skip))
/-- ironbark/digit.reckon, behind what it defers -/
def cy167 : SC :=
  (.seq (.draw (.step ⟨(some 22), .plain .mv, [.tmp 3], none⟩
    (.step ⟨(some 23), .plain (.load true 4), [.tmp 4], none⟩
    (.step ⟨(some 24), .call 165, [.tmp 23], none⟩
    (.step ⟨(some 25), .plain (.load true 4), [.tmp 5], none⟩
    (.step ⟨(some 26), .call 165, [.tmp 25], none⟩
    (.step ⟨(some 27), .callv, [.tmp 22, .tmp 24, .tmp 26], none⟩
    (.step ⟨(some 28), .plain (.load true 6), [.tmp 6], none⟩
    (.step ⟨(some 29), .call 238, [.tmp 27, .tmp 28, .lit (.int .i64 2)], none⟩
    (.step ⟨(some 21), .plain .mv, [.tmp 29], none⟩
    (.step ⟨(some 30), .plain (.extract 0), [.tmp 21], none⟩
    (.step ⟨(some 31), .plain (.extract 1), [.tmp 21], none⟩
    (.step ⟨none, .plain (.store 4), [.tmp 8, .tmp 30], none⟩
    (.step ⟨none, .plain (.store 1), [.tmp 9, .tmp 31], none⟩
    .done))))))))))))) [22, 23, 24, 25, 26, 27, 28, 29, 21, 30, 31])
  (.seq (.draw (.step ⟨(some 32), .plain (.load true 4), [.tmp 8], none⟩
    (.or (.step ⟨(some 33), .plain (.load false 1), [.tmp 9], none⟩
    (.step ⟨none, .plain (.store 4), [.tmp 8, .tmp 32], none⟩
    (.step ⟨none, .plain (.store 1), [.tmp 9, .tmp 33], none⟩
    (.step ⟨none, .plain (.store 1), [.tmp 10, .lit (.int .i64 0)], none⟩
    .done))))
    (.step ⟨none, .plain (.store 4), [.tmp 8, .tmp 32], none⟩
    (.step ⟨(some 33), .plain (.load false 1), [.tmp 9], none⟩
    (.step ⟨none, .plain (.store 1), [.tmp 9, .tmp 33], none⟩
    (.step ⟨none, .plain (.store 1), [.tmp 10, .lit (.int .i64 0)], none⟩
    .done)))))) [32, 33])
  .ret))
def cr167 : List Res := [(8, some (true, 4)), (9, some (false, 1)), (10, some (false, 1))]
theorem ok167 : FOkE Bk.pg.toProgram Bk.imp 167 cx167 20 258 [.tmp 6, .tmp 8, .tmp 9, .tmp 10] cy167 cr167 Tryz.f167.ntmps := ⟨Tryz.f167, _, _, _, _, Tryz.func167, rfl, by kernel_rfl, rfl, by kernel_rfl, by kernel_rfl, by kernel_rfl, by kernel_rfl, rfl, by decide, rfl⟩

/-- ironbark/digit.plus -/
def c256 : SC :=
  (.seq (.ops [⟨(some 4), .plain .mv, [.lit .nilS], none⟩] [])
  (.seq (.ops [⟨(some 5), .plain .mv, [.lit .nilS], none⟩] [])
  (.seq (.ops [⟨(some 6), .plain .mv, [.lit (.int .u8 0)], none⟩] [])
  (.seq (.seq (.ops [⟨(some 7), .plain .mv, [.lit (.int .i64 0)], none⟩] [])
  (.block 0
   (.loop
    (.seq (.seq (.ops [⟨(some 8), .plain .mv, [.tmp 7], none⟩,
      ⟨(some 9), .plain .mv, [.tmp 0], none⟩,
      ⟨(some 10), .plain (.len 1), [.tmp 9], none⟩,
      ⟨(some 11), .plain (.bin .lss), [.tmp 8, .tmp 10], none⟩,
      ⟨(some 12), .plain .mv, [.tmp 11], none⟩,
      ⟨(some 13), .plain .mv, [.tmp 7], (some (12, false))⟩,
      ⟨(some 14), .plain .mv, [.tmp 1], (some (12, false))⟩,
      ⟨(some 15), .plain (.len 1), [.tmp 14], (some (12, false))⟩,
      ⟨(some 16), .plain (.bin .lss), [.tmp 13, .tmp 15], (some (12, false))⟩,
      ⟨(some 17), .plain .pick, [.tmp 12, .lit (.bool true), .tmp 16], none⟩,
      ⟨(some 18), .plain .mv, [.tmp 17], none⟩,
      ⟨(some 19), .plain .mv, [.tmp 6], (some (18, false))⟩,
      ⟨(some 20), .plain (.bin .gtr), [.tmp 19, .lit (.int .u8 0)], (some (18, false))⟩,
      ⟨(some 21), .plain .pick, [.tmp 18, .lit (.bool true), .tmp 20], none⟩] [8, 9, 10, 11, 12, 13, 14, 15, 16, 17, 18, 19, 20])
    (.cond (.tmp 21)
     .skip
     (.exit 0)))
    (.seq (.block 1
     (.seq (.seq (.ops [⟨(some 24), .plain .mv, [.tmp 7], none⟩,
       ⟨(some 25), .plain .mv, [.tmp 0], none⟩,
       ⟨(some 26), .plain (.len 1), [.tmp 25], none⟩,
       ⟨(some 27), .plain (.bin .lss), [.tmp 24, .tmp 26], none⟩] [24, 25, 26])
     (.cond (.tmp 27)
      (.ops [⟨(some 28), .plain .mv, [.tmp 6], none⟩,
        ⟨(some 29), .plain .mv, [.tmp 0], none⟩,
        ⟨(some 30), .plain .mv, [.tmp 7], none⟩,
        ⟨(some 31), .plain (.indexAddr 1), [.tmp 29, .tmp 30], none⟩,
        ⟨(some 32), .plain (.load false 1), [.tmp 31], none⟩,
        ⟨(some 33), .plain (.bin .add), [.tmp 28, .tmp 32], none⟩,
        ⟨(some 6), .plain .mv, [.tmp 33], none⟩] [28, 29, 30, 31, 32, 33])
      .skip))
     (.seq (.seq (.ops [⟨(some 34), .plain .mv, [.tmp 7], none⟩,
       ⟨(some 35), .plain .mv, [.tmp 1], none⟩,
       ⟨(some 36), .plain (.len 1), [.tmp 35], none⟩,
       ⟨(some 37), .plain (.bin .lss), [.tmp 34, .tmp 36], none⟩] [34, 35, 36])
     (.cond (.tmp 37)
      (.ops [⟨(some 38), .plain .mv, [.tmp 6], none⟩,
        ⟨(some 39), .plain .mv, [.tmp 1], none⟩,
        ⟨(some 40), .plain .mv, [.tmp 7], none⟩,
        ⟨(some 41), .plain (.indexAddr 1), [.tmp 39, .tmp 40], none⟩,
        ⟨(some 42), .plain (.load false 1), [.tmp 41], none⟩,
        ⟨(some 43), .plain (.bin .add), [.tmp 38, .tmp 42], none⟩,
        ⟨(some 6), .plain .mv, [.tmp 43], none⟩] [38, 39, 40, 41, 42, 43])
      .skip))
     (.seq (.ops [⟨(some 44), .plain .mv, [.tmp 5], none⟩,
       ⟨(some 45), .plain .mv, [.tmp 6], none⟩,
       ⟨(some 46), .plain (.bin .rem), [.tmp 45, .lit (.int .u8 10)], none⟩,
       ⟨(some 47), .plain (.buildRow 5 1 1 [(.int .u8 0)] [0]), [.tmp 46], none⟩,
       ⟨(some 48), .plain (.append 5 1 1), [.tmp 44, .tmp 47], none⟩,
       ⟨(some 5), .plain .mv, [.tmp 48], none⟩] [44, 45, 46, 47, 48])
     (.ops [⟨(some 49), .plain .mv, [.tmp 6], none⟩,
       ⟨(some 50), .plain (.bin .quo), [.tmp 49, .lit (.int .u8 10)], none⟩,
       ⟨(some 6), .plain .mv, [.tmp 50], none⟩] [49, 50])))))
    (.ops [⟨(some 22), .plain .mv, [.tmp 7], none⟩,
      ⟨(some 23), .plain (.bin .add), [.tmp 22, .lit (.int .i64 1)], none⟩,
      ⟨(some 7), .plain .mv, [.tmp 23], none⟩] [22, 23]))))))
  (.seq (.ops [⟨(some 51), .plain .mv, [.tmp 5], none⟩,
    ⟨(some 52), .call 259, [.tmp 51], none⟩,
    ⟨(some 4), .plain .mv, [.tmp 52], none⟩] [51, 52])
  .ret)))))
def cr256 : List Res := [(4, none)]
theorem ok256 : FOk Bk.pg.toProgram Bk.imp 256 c256 cr256 Tryz.f256.ntmps := ⟨Tryz.f256, _, Tryz.func256, rfl, by kernel_rfl, by kernel_rfl, by kernel_rfl, rfl⟩

end Go.Pm
