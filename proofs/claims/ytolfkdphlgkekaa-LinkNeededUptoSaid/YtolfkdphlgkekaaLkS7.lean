/- LkS7: code, resolved. Written by gen.py out of what ShowSC.lean printed. -/
import Derived.Test.YtolfkdphlgkekaaLkA
import Derived.Test.YtolfkdphlgkekaaPmR
namespace Go.Pm
open Go Go.Proofs

/-- slices.Concat[[]ironbark/api.Deck,ironbark/api.Deck] -/
def c51 : SC :=
  (.seq (.ops [⟨(some 2), .plain .mv, [.lit .nilS], none⟩] [])
  (.seq (.ops [⟨(some 3), .plain .mv, [.lit (.int .i64 0)], none⟩] [])
  (.seq (.seq (.ops [⟨(some 9), .plain .mv, [.tmp 0], none⟩,
    ⟨(some 10), .plain (.len 1), [.tmp 9], none⟩,
    ⟨(some 11), .plain .mv, [.lit (.int .i64 0)], none⟩] [])
  (.block 0
   (.loop
    (.seq (.ops [⟨(some 12), .plain (.bin .lss), [.tmp 11, .tmp 10], none⟩] [])
    (.seq (.cond (.tmp 12)
     .skip
     (.exit 0))
    (.seq (.block 1
     (.seq (.ops [⟨(some 13), .plain (.indexAddr 1), [.tmp 9, .tmp 11], none⟩,
       ⟨(some 14), .plain (.load false 1), [.tmp 13], none⟩,
       ⟨(some 5), .plain .mv, [.tmp 14], none⟩] [13, 14])
     (.seq (.ops [⟨(some 15), .plain .mv, [.tmp 3], none⟩,
       ⟨(some 16), .plain .mv, [.tmp 5], none⟩,
       ⟨(some 17), .plain (.len 1), [.tmp 16], none⟩,
       ⟨(some 18), .plain (.bin .add), [.tmp 15, .tmp 17], none⟩,
       ⟨(some 3), .plain .mv, [.tmp 18], none⟩] [15, 16, 17, 18])
     (.seq (.ops [⟨(some 19), .plain .mv, [.tmp 3], none⟩,
       ⟨(some 20), .plain (.bin .lss), [.tmp 19, .lit (.int .i64 0)], none⟩] [19])
     (.cond (.tmp 20)
      (.ops [⟨(some 21), .plain (.mkIface 9), [.lit (.str ⟨#[108, 101, 110, 32, 111, 117, 116, 32, 111, 102, 32, 114, 97, 110, 103, 101]⟩)], none⟩,
        ⟨none, .panic, [.tmp 21], none⟩] [21])
      .skip)))))
    (.ops [⟨(some 22), .plain (.bin .add), [.tmp 11, .lit (.int .i64 1)], none⟩,
      ⟨(some 11), .plain .mv, [.tmp 22], none⟩] [22])))))))
  (.seq (.ops [⟨(some 23), .plain .mv, [.tmp 3], none⟩,
    ⟨(some 24), .call 77, [.lit .nilS, .tmp 23], none⟩,
    ⟨(some 6), .plain .mv, [.tmp 24], none⟩] [23, 24])
  (.seq (.seq (.ops [⟨(some 25), .plain .mv, [.tmp 0], none⟩,
    ⟨(some 26), .plain (.len 1), [.tmp 25], none⟩,
    ⟨(some 27), .plain .mv, [.lit (.int .i64 0)], none⟩] [])
  (.block 2
   (.loop
    (.seq (.ops [⟨(some 28), .plain (.bin .lss), [.tmp 27, .tmp 26], none⟩] [])
    (.seq (.cond (.tmp 28)
     .skip
     (.exit 2))
    (.seq (.block 3
     (.seq (.ops [⟨(some 29), .plain (.indexAddr 1), [.tmp 25, .tmp 27], none⟩,
       ⟨(some 30), .plain (.load false 1), [.tmp 29], none⟩,
       ⟨(some 8), .plain .mv, [.tmp 30], none⟩] [29, 30])
     (.ops [⟨(some 31), .plain .mv, [.tmp 6], none⟩,
       ⟨(some 32), .plain .mv, [.tmp 8], none⟩,
       ⟨(some 33), .plain (.append 51 5 104), [.tmp 31, .tmp 32], none⟩,
       ⟨(some 6), .plain .mv, [.tmp 33], none⟩] [31, 32, 33])))
    (.ops [⟨(some 34), .plain (.bin .add), [.tmp 27, .lit (.int .i64 1)], none⟩,
      ⟨(some 27), .plain .mv, [.tmp 34], none⟩] [34])))))))
  (.seq (.ops [⟨(some 35), .plain .mv, [.tmp 6], none⟩,
    ⟨(some 2), .plain .mv, [.tmp 35], none⟩] [35])
  .ret))))))
def cr51 : List Res := [(2, none)]
theorem ok51 : FOk Try.prog Lk.imp 51 c51 cr51 Try.f51.ntmps := ⟨Try.f51, _, Try.func51, rfl, by kernel_rfl, by kernel_rfl, by kernel_rfl, rfl⟩

/-- slices.Grow[[]ironbark/api.Deck,ironbark/api.Deck] -/
def c77 : SC :=
  (.seq (.ops [⟨(some 4), .plain .mv, [.lit .nilS], none⟩] [])
  (.seq (.seq (.ops [⟨(some 5), .plain .mv, [.tmp 1], none⟩,
    ⟨(some 6), .plain (.bin .lss), [.tmp 5, .lit (.int .i64 0)], none⟩] [5])
  (.cond (.tmp 6)
   (.ops [⟨(some 7), .plain (.mkIface 9), [.lit (.str ⟨#[99, 97, 110, 110, 111, 116, 32, 98, 101, 32, 110, 101, 103, 97, 116, 105, 118, 101]⟩)], none⟩,
     ⟨none, .panic, [.tmp 7], none⟩] [7])
   .skip))
  (.seq (.seq (.ops [⟨(some 8), .plain .mv, [.tmp 1], none⟩,
    ⟨(some 9), .plain .mv, [.tmp 0], none⟩,
    ⟨(some 10), .plain (.len 2), [.tmp 9], none⟩,
    ⟨(some 11), .plain .mv, [.tmp 0], none⟩,
    ⟨(some 12), .plain (.len 1), [.tmp 11], none⟩,
    ⟨(some 13), .plain (.bin .sub), [.tmp 10, .tmp 12], none⟩,
    ⟨(some 14), .plain (.bin .sub), [.tmp 8, .tmp 13], none⟩,
    ⟨(some 1), .plain .mv, [.tmp 14], none⟩] [8, 9, 10, 11, 12, 13, 14])
  (.seq (.ops [⟨(some 15), .plain .mv, [.tmp 1], none⟩,
    ⟨(some 16), .plain (.bin .gtr), [.tmp 15, .lit (.int .i64 0)], none⟩] [15])
  (.cond (.tmp 16)
   (.ops [⟨(some 17), .plain .mv, [.tmp 0], none⟩,
     ⟨(some 18), .plain .mv, [.tmp 0], none⟩,
     ⟨(some 19), .plain (.len 2), [.tmp 18], none⟩,
     ⟨(some 20), .plain (.slice false true 5), [.tmp 17, .tmp 19], none⟩,
     ⟨(some 21), .plain .mv, [.tmp 1], none⟩,
     ⟨(some 22), .plain (.growNil 51 [(.str ⟨#[]⟩), (.str ⟨#[]⟩), .nilS, .nilS, .nilS] 104), [.tmp 20, .tmp 21], none⟩,
     ⟨(some 23), .plain .mv, [.tmp 0], none⟩,
     ⟨(some 24), .plain (.len 1), [.tmp 23], none⟩,
     ⟨(some 25), .plain (.slice false true 5), [.tmp 22, .tmp 24], none⟩,
     ⟨(some 0), .plain .mv, [.tmp 25], none⟩] [17, 18, 19, 20, 21, 22, 23, 24, 25])
   .skip)))
  (.seq (.ops [⟨(some 26), .plain .mv, [.tmp 0], none⟩,
    ⟨(some 4), .plain .mv, [.tmp 26], none⟩] [26])
  .ret))))
def cr77 : List Res := [(4, none)]
theorem ok77 : FOk Try.prog Lk.imp 77 c77 cr77 Try.f77.ntmps := ⟨Try.f77, _, Try.func77, rfl, by kernel_rfl, by kernel_rfl, by kernel_rfl, rfl⟩

/-- ironbark/link.all -/
def c23 : SC :=
  (.seq (.ops [⟨(some 4), .plain .mv, [.lit (.bool false)], none⟩] [])
  (.seq (.seq (.ops [⟨(some 7), .plain .mv, [.tmp 0], none⟩,
    ⟨(some 8), .plain (.buildRow 22 1 1 [.nilS] [0]), [.tmp 7], none⟩,
    ⟨(some 9), .plain .mv, [.tmp 1], none⟩,
    ⟨(some 10), .plain (.append 22 1 24), [.tmp 8, .tmp 9], none⟩,
    ⟨(some 11), .call 51, [.tmp 10], none⟩,
    ⟨(some 12), .plain (.len 1), [.tmp 11], none⟩,
    ⟨(some 13), .plain .mv, [.lit (.int .i64 0)], none⟩] [7, 8, 9, 10])
  (.block 0
   (.loop
    (.seq (.ops [⟨(some 14), .plain (.bin .lss), [.tmp 13, .tmp 12], none⟩] [])
    (.seq (.cond (.tmp 14)
     .skip
     (.exit 0))
    (.seq (.block 1
     (.seq (.ops [⟨(some 15), .plain (.indexAddr 5), [.tmp 11, .tmp 13], none⟩,
       ⟨(some 16), .plain (.load true 5), [.tmp 15], none⟩,
       ⟨(some 6), .plain (.alloc [(.str ⟨#[]⟩), (.str ⟨#[]⟩), .nilS, .nilS, .nilS]), [], none⟩,
       ⟨none, .plain (.store 5), [.tmp 6, .tmp 16], none⟩] [15, 16])
     (.seq (.ops [⟨(some 17), .plain (.load true 5), [.tmp 6], none⟩,
       ⟨(some 18), .call 52, [.tmp 17], none⟩,
       ⟨(some 19), .plain (.un .not), [.tmp 18], none⟩] [17, 18])
     (.cond (.tmp 19)
      (.seq (.ops [⟨(some 4), .plain .mv, [.lit (.bool false)], none⟩] [])
      .ret)
      .skip))))
    (.ops [⟨(some 20), .plain (.bin .add), [.tmp 13, .lit (.int .i64 1)], none⟩,
      ⟨(some 13), .plain .mv, [.tmp 20], none⟩] [20])))))))
  (.seq (.ops [⟨(some 4), .plain .mv, [.lit (.bool true)], none⟩] [])
  .ret)))
def cr23 : List Res := [(4, none)]
theorem ok23 : FOk Try.prog Lk.imp 23 c23 cr23 Try.f23.ntmps := ⟨Try.f23, _, Try.func23, rfl, by kernel_rfl, by kernel_rfl, by kernel_rfl, rfl⟩

/-- ironbark/link.begin -/
def c26 : SC :=
  (.seq (.ops [⟨(some 4), .plain .mv, [.lit (.const (.pointer none))], none⟩] [])
  (.seq (.ops [⟨(some 8), .plain .mv, [.tmp 0], none⟩,
    ⟨(some 9), .plain (.build [(.int .i64 0), (.str ⟨#[]⟩), .nilS, .nilS, .nilS] [(0, 1)]), [.tmp 8], none⟩,
    ⟨(some 10), .plain .mkMap, [], none⟩,
    ⟨(some 11), .plain .mkMap, [], none⟩,
    ⟨(some 12), .plain .mv, [.tmp 0], none⟩,
    ⟨(some 13), .plain (.build [(.int .i64 0), (.str ⟨#[]⟩), .nilS, .nilS, .nilS, .nilS, (.const (.map none)), (.const (.map none)), (.int .i64 0)] [(0, 5), (6, 1), (7, 1), (8, 1)]), [.tmp 9, .tmp 10, .tmp 11, .tmp 12], none⟩,
    ⟨(some 14), .plain (.box 9), [.tmp 13], none⟩,
    ⟨(some 5), .plain .mv, [.tmp 14], none⟩] [8, 9, 10, 11, 12, 13, 14])
  (.seq (.seq (.ops [⟨(some 15), .plain .mv, [.tmp 1], none⟩,
    ⟨(some 16), .plain (.len 1), [.tmp 15], none⟩,
    ⟨(some 17), .plain .mv, [.lit (.int .i64 0)], none⟩] [])
  (.block 0
   (.loop
    (.seq (.ops [⟨(some 18), .plain (.bin .lss), [.tmp 17, .tmp 16], none⟩] [])
    (.seq (.cond (.tmp 18)
     .skip
     (.exit 0))
    (.seq (.block 1
     (.seq (.ops [⟨(some 19), .plain (.indexAddr 2), [.tmp 15, .tmp 17], none⟩,
       ⟨(some 20), .plain (.load true 2), [.tmp 19], none⟩,
       ⟨(some 7), .plain (.alloc [(.str ⟨#[]⟩), (.int .i64 0)]), [], none⟩,
       ⟨none, .plain (.store 2), [.tmp 7, .tmp 20], none⟩] [19, 20])
     (.draw (.step ⟨(some 21), .plain .mv, [.tmp 5], none⟩
       (.step ⟨(some 22), .plain .nilCheck, [.tmp 21], none⟩
       (.step ⟨(some 23), .plain (.fieldAddr 6), [.tmp 22], none⟩
       (.step ⟨(some 24), .plain (.load false 1), [.tmp 23], none⟩
       (.step ⟨(some 25), .plain (.fieldAddr 0), [.tmp 7], none⟩
       (.step ⟨(some 26), .plain (.load false 1), [.tmp 25], none⟩
       (.step ⟨(some 27), .plain (.fieldAddr 1), [.tmp 7], none⟩
       (.step ⟨(some 28), .plain (.load false 1), [.tmp 27], none⟩
       (.step ⟨none, .plain (.mapUpdate .str), [.tmp 24, .tmp 26, .tmp 28], none⟩
       .done))))))))) [21, 22, 23, 24, 25, 26, 27, 28])))
    (.ops [⟨(some 29), .plain (.bin .add), [.tmp 17, .lit (.int .i64 1)], none⟩,
      ⟨(some 17), .plain .mv, [.tmp 29], none⟩] [29])))))))
  (.seq (.ops [⟨(some 30), .plain .mv, [.tmp 5], none⟩,
    ⟨(some 4), .plain .mv, [.tmp 30], none⟩] [30])
  .ret))))
def cr26 : List Res := [(4, none)]
theorem ok26 : FOk Try.prog Lk.imp 26 c26 cr26 Try.f26.ntmps := ⟨Try.f26, _, Try.func26, rfl, by kernel_rfl, by kernel_rfl, by kernel_rfl, rfl⟩

/-- (*ironbark/link.linking).put -/
def c27 : SC :=
  (.seq (.ops [⟨(some 4), .plain (.box 5), [.tmp 1], none⟩] [])
  (.seq (.seq (.draw (.step ⟨(some 16), .plain .mv, [.tmp 0], none⟩
    (.step ⟨(some 17), .plain .nilCheck, [.tmp 16], none⟩
    (.step ⟨(some 18), .plain (.fieldAddr 6), [.tmp 17], none⟩
    (.step ⟨(some 19), .plain (.load false 1), [.tmp 18], none⟩
    (.step ⟨(some 20), .plain (.fieldAddr 0), [.tmp 4], none⟩
    (.step ⟨(some 21), .plain (.load false 1), [.tmp 20], none⟩
    (.step ⟨(some 22), .plain (.lookup .str (.int .i64 0) true), [.tmp 19, .tmp 21], none⟩
    (.step ⟨(some 15), .plain .mv, [.tmp 22], none⟩
    (.step ⟨(some 23), .plain (.extract 0), [.tmp 15], none⟩
    (.step ⟨(some 24), .plain (.extract 1), [.tmp 15], none⟩
    (.step ⟨(some 6), .plain .mv, [.tmp 23], none⟩
    (.step ⟨(some 7), .plain .mv, [.tmp 24], none⟩
    .done)))))))))))) [16, 17, 18, 19, 20, 21, 22, 15, 23, 24, 6])
  (.seq (.draw (.step ⟨(some 25), .plain .mv, [.tmp 2], none⟩
    (.step ⟨(some 26), .plain .mv, [.tmp 25], none⟩
    (.step ⟨(some 27), .plain .mv, [.tmp 7], (some (26, true))⟩
    (.step ⟨(some 28), .plain .mv, [.tmp 27], (some (26, true))⟩
    (.step ⟨(some 29), .plain .mv, [.tmp 0], (some (28, false))⟩
    (.step ⟨(some 30), .plain .nilCheck, [.tmp 29], (some (28, false))⟩
    (.step ⟨(some 31), .plain (.fieldAddr 7), [.tmp 30], (some (28, false))⟩
    (.step ⟨(some 32), .plain (.load false 1), [.tmp 31], (some (28, false))⟩
    (.step ⟨(some 33), .plain (.fieldAddr 0), [.tmp 4], (some (28, false))⟩
    (.step ⟨(some 34), .plain (.load false 1), [.tmp 33], (some (28, false))⟩
    (.step ⟨(some 35), .plain (.lookup .str (.bool false) false), [.tmp 32, .tmp 34], (some (28, false))⟩
    (.step ⟨(some 36), .plain .pick, [.tmp 28, .lit (.bool true), .tmp 35], (some (26, true))⟩
    (.step ⟨(some 37), .plain .pick, [.tmp 26, .tmp 36, .lit (.bool false)], none⟩
    .done))))))))))))) [25, 26, 27, 28, 29, 30, 31, 32, 33, 34, 35, 36])
  (.cond (.tmp 37)
   (.ops [⟨(some 38), .plain (.fieldAddr 0), [.tmp 4], none⟩,
     ⟨(some 39), .plain (.load false 1), [.tmp 38], none⟩,
     ⟨(some 40), .plain (.build [(.int .i64 0), (.str ⟨#[]⟩)] [(0, 1), (1, 1)]), [.lit (.int .i64 6), .tmp 39], none⟩,
     ⟨(some 41), .plain (.mkIface 58), [.tmp 40], none⟩,
     ⟨none, .panic, [.tmp 41], none⟩] [38, 39, 40, 41])
   .skip)))
  (.seq (.ops [⟨(some 42), .plain .mv, [.tmp 0], none⟩,
    ⟨(some 43), .plain .nilCheck, [.tmp 42], none⟩,
    ⟨(some 44), .plain (.fieldAddr 8), [.tmp 43], none⟩,
    ⟨(some 45), .plain (.load false 1), [.tmp 44], none⟩,
    ⟨(some 46), .call 53, [.tmp 45], none⟩,
    ⟨(some 8), .plain .mv, [.tmp 46], none⟩] [42, 43, 44, 45, 46])
  (.seq (.draw (.step ⟨(some 47), .plain .mv, [.tmp 0], none⟩
    (.step ⟨(some 48), .plain .nilCheck, [.tmp 47], none⟩
    (.step ⟨(some 49), .plain (.fieldAddr 7), [.tmp 48], none⟩
    (.step ⟨(some 50), .plain (.load false 1), [.tmp 49], none⟩
    (.step ⟨(some 51), .plain (.fieldAddr 0), [.tmp 4], none⟩
    (.step ⟨(some 52), .plain (.load false 1), [.tmp 51], none⟩
    (.step ⟨none, .plain (.mapUpdate .str), [.tmp 50, .tmp 52, .lit (.bool true)], none⟩
    .done))))))) [47, 48, 49, 50, 51, 52])
  (.seq (.draw (.step ⟨(some 53), .plain .mv, [.tmp 0], none⟩
    (.step ⟨(some 54), .plain .mv, [.tmp 0], none⟩
    (.step ⟨(some 55), .plain .nilCheck, [.tmp 54], none⟩
    (.step ⟨(some 56), .plain (.fieldAddr 5), [.tmp 55], none⟩
    (.step ⟨(some 57), .plain (.load false 1), [.tmp 56], none⟩
    (.step ⟨(some 58), .plain (.load true 5), [.tmp 4], none⟩
    (.step ⟨(some 59), .plain (.buildRow 51 5 1 [(.str ⟨#[]⟩), (.str ⟨#[]⟩), .nilS, .nilS, .nilS] [0]), [.tmp 58], none⟩
    (.step ⟨(some 60), .plain (.append 51 5 104), [.tmp 57, .tmp 59], none⟩
    (.step ⟨(some 61), .plain .nilCheck, [.tmp 53], none⟩
    (.step ⟨(some 62), .plain (.fieldAddr 5), [.tmp 61], none⟩
    (.step ⟨none, .plain (.store 1), [.tmp 62, .tmp 60], none⟩
    .done))))))))))) [53, 54, 55, 56, 57, 58, 59, 60, 61, 62])
  (.seq (.draw (.step ⟨(some 63), .plain .mv, [.tmp 0], none⟩
    (.step ⟨(some 64), .plain .mv, [.tmp 0], none⟩
    (.step ⟨(some 65), .plain .nilCheck, [.tmp 64], none⟩
    (.step ⟨(some 66), .plain (.fieldAddr 0), [.tmp 65], none⟩
    (.step ⟨(some 67), .plain (.fieldAddr 4), [.tmp 66], none⟩
    (.step ⟨(some 68), .plain (.load false 1), [.tmp 67], none⟩
    (.step ⟨(some 69), .plain (.fieldAddr 0), [.tmp 4], none⟩
    (.step ⟨(some 70), .plain (.load false 1), [.tmp 69], none⟩
    (.step ⟨(some 71), .plain .mv, [.tmp 8], none⟩
    (.step ⟨(some 72), .plain (.build [(.str ⟨#[]⟩), (.int .i64 0)] [(0, 1), (1, 1)]), [.tmp 70, .tmp 71], none⟩
    (.step ⟨(some 73), .plain (.buildRow 40 2 1 [(.str ⟨#[]⟩), (.int .i64 0)] [0]), [.tmp 72], none⟩
    (.step ⟨(some 74), .plain (.append 40 2 24), [.tmp 68, .tmp 73], none⟩
    (.step ⟨(some 75), .plain .nilCheck, [.tmp 63], none⟩
    (.step ⟨(some 76), .plain (.fieldAddr 0), [.tmp 75], none⟩
    (.step ⟨(some 77), .plain (.fieldAddr 4), [.tmp 76], none⟩
    (.step ⟨none, .plain (.store 1), [.tmp 77, .tmp 74], none⟩
    .done)))))))))))))))) [63, 64, 65, 66, 67, 68, 69, 70, 71, 72, 73, 74, 75, 76, 77])
  (.seq (.seq (.ops [⟨(some 78), .plain (.load true 5), [.tmp 4], none⟩,
    ⟨(some 79), .call 54, [.tmp 78], none⟩,
    ⟨(some 80), .plain (.len 1), [.tmp 79], none⟩,
    ⟨(some 81), .plain .mv, [.lit (.int .i64 0)], none⟩] [78])
  (.block 0
   (.loop
    (.seq (.ops [⟨(some 82), .plain (.bin .lss), [.tmp 81, .tmp 80], none⟩] [])
    (.seq (.cond (.tmp 82)
     .skip
     (.exit 0))
    (.seq (.block 1
     (.seq (.ops [⟨(some 83), .plain (.indexAddr 2), [.tmp 79, .tmp 81], none⟩,
       ⟨(some 84), .plain (.load true 2), [.tmp 83], none⟩,
       ⟨(some 10), .plain (.alloc [(.str ⟨#[]⟩), (.int .i64 0)]), [], none⟩,
       ⟨none, .plain (.store 2), [.tmp 10, .tmp 84], none⟩] [83, 84])
     (.seq (.seq (.draw (.step ⟨(some 86), .plain .mv, [.tmp 0], none⟩
       (.step ⟨(some 87), .plain .nilCheck, [.tmp 86], none⟩
       (.step ⟨(some 88), .plain (.fieldAddr 6), [.tmp 87], none⟩
       (.step ⟨(some 89), .plain (.load false 1), [.tmp 88], none⟩
       (.step ⟨(some 90), .plain (.fieldAddr 0), [.tmp 10], none⟩
       (.step ⟨(some 91), .plain (.load false 1), [.tmp 90], none⟩
       (.step ⟨(some 92), .plain (.lookup .str (.int .i64 0) true), [.tmp 89, .tmp 91], none⟩
       (.step ⟨(some 85), .plain .mv, [.tmp 92], none⟩
       (.step ⟨(some 93), .plain (.extract 0), [.tmp 85], none⟩
       (.step ⟨(some 94), .plain (.extract 1), [.tmp 85], none⟩
       (.step ⟨(some 11), .plain .mv, [.tmp 93], none⟩
       (.step ⟨(some 12), .plain .mv, [.tmp 94], none⟩
       .done)))))))))))) [86, 87, 88, 89, 90, 91, 92, 85, 93, 94, 11])
     (.seq (.ops [⟨(some 95), .plain .mv, [.tmp 12], none⟩] [])
     (.cond (.tmp 95)
      (.seq (.seq (.ops [⟨(some 96), .plain .mv, [.tmp 2], none⟩] [])
      (.cond (.tmp 96)
       (.ops [⟨(some 97), .plain (.fieldAddr 0), [.tmp 10], none⟩,
         ⟨(some 98), .plain (.load false 1), [.tmp 97], none⟩,
         ⟨(some 99), .plain (.build [(.int .i64 0), (.str ⟨#[]⟩)] [(0, 1), (1, 1)]), [.lit (.int .i64 6), .tmp 98], none⟩,
         ⟨(some 100), .plain (.mkIface 58), [.tmp 99], none⟩,
         ⟨none, .panic, [.tmp 100], none⟩] [97, 98, 99, 100])
       .skip))
      (.exit 1))
      .skip)))
     (.seq (.draw (.step ⟨(some 101), .plain .mv, [.tmp 0], none⟩
       (.step ⟨(some 102), .plain .nilCheck, [.tmp 101], none⟩
       (.step ⟨(some 103), .plain (.fieldAddr 6), [.tmp 102], none⟩
       (.step ⟨(some 104), .plain (.load false 1), [.tmp 103], none⟩
       (.step ⟨(some 105), .plain (.fieldAddr 0), [.tmp 10], none⟩
       (.step ⟨(some 106), .plain (.load false 1), [.tmp 105], none⟩
       (.step ⟨(some 107), .plain .mv, [.tmp 8], none⟩
       (.step ⟨(some 108), .plain (.fieldAddr 1), [.tmp 10], none⟩
       (.step ⟨(some 109), .plain (.load false 1), [.tmp 108], none⟩
       (.step ⟨(some 110), .plain (.bin .add), [.tmp 107, .tmp 109], none⟩
       (.step ⟨none, .plain (.mapUpdate .str), [.tmp 104, .tmp 106, .tmp 110], none⟩
       .done))))))))))) [101, 102, 103, 104, 105, 106, 107, 108, 109, 110])
     (.draw (.step ⟨(some 111), .plain .mv, [.tmp 0], none⟩
       (.step ⟨(some 112), .plain .mv, [.tmp 0], none⟩
       (.step ⟨(some 113), .plain .nilCheck, [.tmp 112], none⟩
       (.step ⟨(some 114), .plain (.fieldAddr 0), [.tmp 113], none⟩
       (.step ⟨(some 115), .plain (.fieldAddr 2), [.tmp 114], none⟩
       (.step ⟨(some 116), .plain (.load false 1), [.tmp 115], none⟩
       (.step ⟨(some 117), .plain (.fieldAddr 0), [.tmp 10], none⟩
       (.step ⟨(some 118), .plain (.load false 1), [.tmp 117], none⟩
       (.step ⟨(some 119), .plain .mv, [.tmp 8], none⟩
       (.step ⟨(some 120), .plain (.fieldAddr 1), [.tmp 10], none⟩
       (.step ⟨(some 121), .plain (.load false 1), [.tmp 120], none⟩
       (.step ⟨(some 122), .plain (.bin .add), [.tmp 119, .tmp 121], none⟩
       (.step ⟨(some 123), .plain (.build [(.str ⟨#[]⟩), (.int .i64 0)] [(0, 1), (1, 1)]), [.tmp 118, .tmp 122], none⟩
       (.step ⟨(some 124), .plain (.buildRow 40 2 1 [(.str ⟨#[]⟩), (.int .i64 0)] [0]), [.tmp 123], none⟩
       (.step ⟨(some 125), .plain (.append 40 2 24), [.tmp 116, .tmp 124], none⟩
       (.step ⟨(some 126), .plain .nilCheck, [.tmp 111], none⟩
       (.step ⟨(some 127), .plain (.fieldAddr 0), [.tmp 126], none⟩
       (.step ⟨(some 128), .plain (.fieldAddr 2), [.tmp 127], none⟩
       (.step ⟨none, .plain (.store 1), [.tmp 128, .tmp 125], none⟩
       .done))))))))))))))))))) [111, 112, 113, 114, 115, 116, 117, 118, 119, 120, 121, 122, 123, 124, 125, 126, 127, 128])))))
    (.ops [⟨(some 129), .plain (.bin .add), [.tmp 81, .lit (.int .i64 1)], none⟩,
      ⟨(some 81), .plain .mv, [.tmp 129], none⟩] [129])))))))
  (.seq (.seq (.ops [⟨(some 130), .plain (.fieldAddr 4), [.tmp 4], none⟩,
    ⟨(some 131), .plain (.load false 1), [.tmp 130], none⟩,
    ⟨(some 132), .plain (.len 1), [.tmp 131], none⟩,
    ⟨(some 133), .plain .mv, [.lit (.int .i64 0)], none⟩] [130])
  (.block 2
   (.loop
    (.seq (.ops [⟨(some 134), .plain (.bin .lss), [.tmp 133, .tmp 132], none⟩] [])
    (.seq (.cond (.tmp 134)
     .skip
     (.exit 2))
    (.seq (.block 3
     (.seq (.ops [⟨(some 135), .plain (.indexAddr 2), [.tmp 131, .tmp 133], none⟩,
       ⟨(some 136), .plain (.load true 2), [.tmp 135], none⟩,
       ⟨(some 14), .plain (.alloc [(.int .i64 0), (.int .i64 0)]), [], none⟩,
       ⟨none, .plain (.store 2), [.tmp 14, .tmp 136], none⟩] [135, 136])
     (.draw (.step ⟨(some 137), .plain .mv, [.tmp 0], none⟩
       (.step ⟨(some 138), .plain .mv, [.tmp 0], none⟩
       (.step ⟨(some 139), .plain .nilCheck, [.tmp 138], none⟩
       (.step ⟨(some 140), .plain (.fieldAddr 0), [.tmp 139], none⟩
       (.step ⟨(some 141), .plain (.fieldAddr 3), [.tmp 140], none⟩
       (.step ⟨(some 142), .plain (.load false 1), [.tmp 141], none⟩
       (.step ⟨(some 143), .plain .mv, [.tmp 8], none⟩
       (.step ⟨(some 144), .plain (.fieldAddr 0), [.tmp 14], none⟩
       (.step ⟨(some 145), .plain (.load false 1), [.tmp 144], none⟩
       (.step ⟨(some 146), .plain (.bin .add), [.tmp 143, .tmp 145], none⟩
       (.step ⟨(some 147), .plain (.fieldAddr 1), [.tmp 14], none⟩
       (.step ⟨(some 148), .plain (.load false 1), [.tmp 147], none⟩
       (.step ⟨(some 149), .plain (.build [(.int .i64 0), (.int .i64 0)] [(0, 1), (1, 1)]), [.tmp 146, .tmp 148], none⟩
       (.step ⟨(some 150), .plain (.buildRow 102 2 1 [(.int .i64 0), (.int .i64 0)] [0]), [.tmp 149], none⟩
       (.step ⟨(some 151), .plain (.append 102 2 16), [.tmp 142, .tmp 150], none⟩
       (.step ⟨(some 152), .plain .nilCheck, [.tmp 137], none⟩
       (.step ⟨(some 153), .plain (.fieldAddr 0), [.tmp 152], none⟩
       (.step ⟨(some 154), .plain (.fieldAddr 3), [.tmp 153], none⟩
       (.step ⟨none, .plain (.store 1), [.tmp 154, .tmp 151], none⟩
       .done))))))))))))))))))) [137, 138, 139, 140, 141, 142, 143, 144, 145, 146, 147, 148, 149, 150, 151, 152, 153, 154])))
    (.ops [⟨(some 155), .plain (.bin .add), [.tmp 133, .lit (.int .i64 1)], none⟩,
      ⟨(some 133), .plain .mv, [.tmp 155], none⟩] [155])))))))
  (.ops [⟨(some 156), .plain .mv, [.tmp 0], none⟩,
    ⟨(some 157), .plain .mv, [.tmp 8], none⟩,
    ⟨(some 158), .plain (.fieldAddr 1), [.tmp 4], none⟩,
    ⟨(some 159), .plain (.load false 1), [.tmp 158], none⟩,
    ⟨(some 160), .plain (.len 0), [.tmp 159], none⟩,
    ⟨(some 161), .plain (.bin .add), [.tmp 157, .tmp 160], none⟩,
    ⟨(some 162), .plain .nilCheck, [.tmp 156], none⟩,
    ⟨(some 163), .plain (.fieldAddr 8), [.tmp 162], none⟩,
    ⟨none, .plain (.store 1), [.tmp 163, .tmp 161], none⟩] [156, 157, 158, 159, 160, 161, 162, 163])))))))))
def cr27 : List Res := []
theorem ok27 : FOk Try.prog Lk.imp 27 c27 cr27 Try.f27.ntmps := ⟨Try.f27, _, Try.func27, rfl, by kernel_rfl, by kernel_rfl, by kernel_rfl, rfl⟩

/-- (*ironbark/link.linking).lacking -/
def c55 : SC :=
  (.seq (.ops [⟨(some 2), .plain .mv, [.lit .nilS], none⟩] [])
  (.seq (.ops [⟨(some 3), .plain .mv, [.lit .nilS], none⟩] [])
  (.seq (.seq (.ops [⟨(some 10), .plain .mv, [.tmp 0], none⟩,
    ⟨(some 11), .plain .nilCheck, [.tmp 10], none⟩,
    ⟨(some 12), .plain (.fieldAddr 5), [.tmp 11], none⟩,
    ⟨(some 13), .plain (.load false 1), [.tmp 12], none⟩,
    ⟨(some 14), .plain (.len 1), [.tmp 13], none⟩,
    ⟨(some 15), .plain .mv, [.lit (.int .i64 0)], none⟩] [10, 11, 12])
  (.block 0
   (.loop
    (.seq (.ops [⟨(some 16), .plain (.bin .lss), [.tmp 15, .tmp 14], none⟩] [])
    (.seq (.cond (.tmp 16)
     .skip
     (.exit 0))
    (.seq (.block 1
     (.seq (.ops [⟨(some 17), .plain (.indexAddr 5), [.tmp 13, .tmp 15], none⟩,
       ⟨(some 18), .plain (.load true 5), [.tmp 17], none⟩,
       ⟨(some 5), .plain (.alloc [(.str ⟨#[]⟩), (.str ⟨#[]⟩), .nilS, .nilS, .nilS]), [], none⟩,
       ⟨none, .plain (.store 5), [.tmp 5, .tmp 18], none⟩] [17, 18])
     (.seq (.ops [⟨(some 19), .plain (.fieldAddr 3), [.tmp 5], none⟩,
       ⟨(some 20), .plain (.load false 1), [.tmp 19], none⟩,
       ⟨(some 21), .plain (.len 1), [.tmp 20], none⟩,
       ⟨(some 22), .plain .mv, [.lit (.int .i64 0)], none⟩] [19])
     (.block 2
      (.loop
       (.seq (.ops [⟨(some 23), .plain (.bin .lss), [.tmp 22, .tmp 21], none⟩] [])
       (.seq (.cond (.tmp 23)
        .skip
        (.exit 2))
       (.seq (.block 3
        (.seq (.ops [⟨(some 24), .plain (.indexAddr 3), [.tmp 20, .tmp 22], none⟩,
          ⟨(some 25), .plain (.load true 3), [.tmp 24], none⟩,
          ⟨(some 7), .plain (.alloc [(.int .i64 0), (.str ⟨#[]⟩), (.int .i64 0)]), [], none⟩,
          ⟨none, .plain (.store 3), [.tmp 7, .tmp 25], none⟩] [24, 25])
        (.seq (.draw (.step ⟨(some 27), .plain .mv, [.tmp 0], none⟩
          (.step ⟨(some 28), .plain .nilCheck, [.tmp 27], none⟩
          (.step ⟨(some 29), .plain (.fieldAddr 6), [.tmp 28], none⟩
          (.step ⟨(some 30), .plain (.load false 1), [.tmp 29], none⟩
          (.step ⟨(some 31), .plain (.fieldAddr 1), [.tmp 7], none⟩
          (.step ⟨(some 32), .plain (.load false 1), [.tmp 31], none⟩
          (.step ⟨(some 33), .plain (.lookup .str (.int .i64 0) true), [.tmp 30, .tmp 32], none⟩
          (.step ⟨(some 26), .plain .mv, [.tmp 33], none⟩
          (.step ⟨(some 34), .plain (.extract 0), [.tmp 26], none⟩
          (.step ⟨(some 35), .plain (.extract 1), [.tmp 26], none⟩
          (.step ⟨(some 8), .plain .mv, [.tmp 34], none⟩
          (.step ⟨(some 9), .plain .mv, [.tmp 35], none⟩
          .done)))))))))))) [27, 28, 29, 30, 31, 32, 33, 26, 34, 35, 8])
        (.seq (.ops [⟨(some 36), .plain .mv, [.tmp 9], none⟩,
          ⟨(some 37), .plain (.un .not), [.tmp 36], none⟩,
          ⟨(some 38), .plain .mv, [.tmp 37], none⟩,
          ⟨(some 39), .plain .mv, [.tmp 3], (some (38, true))⟩,
          ⟨(some 40), .plain (.fieldAddr 1), [.tmp 7], (some (38, true))⟩,
          ⟨(some 41), .plain (.load false 1), [.tmp 40], (some (38, true))⟩,
          ⟨(some 42), .call 80, [.tmp 39, .tmp 41], (some (38, true))⟩,
          ⟨(some 43), .plain (.un .not), [.tmp 42], (some (38, true))⟩,
          ⟨(some 44), .plain .pick, [.tmp 38, .tmp 43, .lit (.bool false)], none⟩] [36, 37, 38, 39, 40, 41, 42, 43])
        (.cond (.tmp 44)
         (.ops [⟨(some 45), .plain .mv, [.tmp 3], none⟩,
           ⟨(some 46), .plain (.fieldAddr 1), [.tmp 7], none⟩,
           ⟨(some 47), .plain (.load false 1), [.tmp 46], none⟩,
           ⟨(some 48), .plain (.buildRow 9 1 1 [(.str ⟨#[]⟩)] [0]), [.tmp 47], none⟩,
           ⟨(some 49), .plain (.append 9 1 16), [.tmp 45, .tmp 48], none⟩,
           ⟨(some 3), .plain .mv, [.tmp 49], none⟩] [45, 46, 47, 48, 49])
         .skip)))))
       (.ops [⟨(some 50), .plain (.bin .add), [.tmp 22, .lit (.int .i64 1)], none⟩,
         ⟨(some 22), .plain .mv, [.tmp 50], none⟩] [50])))))))))
    (.ops [⟨(some 51), .plain (.bin .add), [.tmp 15, .lit (.int .i64 1)], none⟩,
      ⟨(some 15), .plain .mv, [.tmp 51], none⟩] [51])))))))
  (.seq (.ops [⟨(some 52), .plain .mv, [.tmp 3], none⟩,
    ⟨(some 2), .plain .mv, [.tmp 52], none⟩] [52])
  .ret))))
def cr55 : List Res := [(2, none)]
theorem ok55 : FOk Try.prog Lk.imp 55 c55 cr55 Try.f55.ntmps := ⟨Try.f55, _, Try.func55, rfl, by kernel_rfl, by kernel_rfl, by kernel_rfl, rfl⟩

/-- (*ironbark/link.linking).found -/
def c56 : SC :=
  (.seq (.ops [⟨(some 4), .plain (.box 1), [.tmp 1], none⟩,
    ⟨(some 6), .plain (.alloc [(.str ⟨#[]⟩), (.str ⟨#[]⟩), .nilS, .nilS, .nilS]), [], none⟩,
    ⟨(some 7), .plain .mv, [.lit (.bool false)], none⟩] [])
  (.seq (.seq (.ops [⟨(some 12), .plain .mv, [.tmp 2], none⟩,
    ⟨(some 13), .plain (.len 1), [.tmp 12], none⟩,
    ⟨(some 14), .plain .mv, [.lit (.int .i64 0)], none⟩] [])
  (.block 0
   (.loop
    (.seq (.ops [⟨(some 15), .plain (.bin .lss), [.tmp 14, .tmp 13], none⟩] [])
    (.seq (.cond (.tmp 15)
     .skip
     (.exit 0))
    (.seq (.block 1
     (.seq (.ops [⟨(some 16), .plain (.indexAddr 1), [.tmp 12, .tmp 14], none⟩,
       ⟨(some 17), .plain (.load false 1), [.tmp 16], none⟩,
       ⟨(some 9), .plain .mv, [.tmp 17], none⟩] [16, 17])
     (.seq (.ops [⟨(some 18), .plain .mv, [.tmp 9], none⟩,
       ⟨(some 19), .plain (.len 1), [.tmp 18], none⟩,
       ⟨(some 20), .plain .mv, [.lit (.int .i64 0)], none⟩] [])
     (.block 2
      (.loop
       (.seq (.ops [⟨(some 21), .plain (.bin .lss), [.tmp 20, .tmp 19], none⟩] [])
       (.seq (.cond (.tmp 21)
        .skip
        (.exit 2))
       (.seq (.block 3
        (.seq (.ops [⟨(some 22), .plain (.indexAddr 5), [.tmp 18, .tmp 20], none⟩,
          ⟨(some 23), .plain (.load true 5), [.tmp 22], none⟩,
          ⟨(some 11), .plain (.alloc [(.str ⟨#[]⟩), (.str ⟨#[]⟩), .nilS, .nilS, .nilS]), [], none⟩,
          ⟨none, .plain (.store 5), [.tmp 11, .tmp 23], none⟩] [22, 23])
        (.seq (.draw (.step ⟨(some 24), .plain .mv, [.tmp 0], none⟩
          (.step ⟨(some 25), .plain .nilCheck, [.tmp 24], none⟩
          (.step ⟨(some 26), .plain (.fieldAddr 7), [.tmp 25], none⟩
          (.step ⟨(some 27), .plain (.load false 1), [.tmp 26], none⟩
          (.step ⟨(some 28), .plain (.fieldAddr 0), [.tmp 11], none⟩
          (.step ⟨(some 29), .plain (.load false 1), [.tmp 28], none⟩
          (.step ⟨(some 30), .plain (.lookup .str (.bool false) false), [.tmp 27, .tmp 29], none⟩
          (.step ⟨(some 31), .plain (.un .not), [.tmp 30], none⟩
          (.step ⟨(some 32), .plain .mv, [.tmp 31], none⟩
          (.step ⟨(some 33), .plain (.load true 5), [.tmp 11], (some (32, true))⟩
          (.step ⟨(some 34), .call 54, [.tmp 33], (some (32, true))⟩
          (.step ⟨(some 35), .plain (.mkFn 81), [.tmp 4], (some (32, true))⟩
          (.step ⟨(some 36), .call 78, [.tmp 34, .tmp 35], (some (32, true))⟩
          (.step ⟨(some 37), .plain .pick, [.tmp 32, .tmp 36, .lit (.bool false)], none⟩
          .done)))))))))))))) [24, 25, 26, 27, 28, 29, 30, 31, 32, 33, 34, 35, 36])
        (.cond (.tmp 37)
         (.seq (.ops [⟨(some 38), .plain (.load true 5), [.tmp 11], none⟩,
           ⟨none, .plain (.store 5), [.tmp 6, .tmp 38], none⟩,
           ⟨(some 7), .plain .mv, [.lit (.bool true)], none⟩] [38])
         .ret)
         .skip))))
       (.ops [⟨(some 39), .plain (.bin .add), [.tmp 20, .lit (.int .i64 1)], none⟩,
         ⟨(some 20), .plain .mv, [.tmp 39], none⟩] [39])))))))))
    (.ops [⟨(some 40), .plain (.bin .add), [.tmp 14, .lit (.int .i64 1)], none⟩,
      ⟨(some 14), .plain .mv, [.tmp 40], none⟩] [40])))))))
  (.seq (.ops [⟨(some 41), .plain (.build [(.str ⟨#[]⟩), (.str ⟨#[]⟩), .nilS, .nilS, .nilS] []), [], none⟩,
    ⟨none, .plain (.store 5), [.tmp 6, .tmp 41], none⟩,
    ⟨(some 7), .plain .mv, [.lit (.bool false)], none⟩] [41])
  .ret)))
def cr56 : List Res := [(6, some (true, 5)), (7, none)]
theorem ok56 : FOk Try.prog Lk.imp 56 c56 cr56 Try.f56.ntmps := ⟨Try.f56, _, Try.func56, rfl, by kernel_rfl, by kernel_rfl, by kernel_rfl, rfl⟩

/-- (*ironbark/link.linking).done$1 -/
def c58 : SC :=
  (.seq (.ops [⟨(some 2), .plain (.box 2), [.tmp 0], none⟩,
    ⟨(some 3), .plain (.box 2), [.tmp 1], none⟩,
    ⟨(some 4), .plain .mv, [.lit (.int .i64 0)], none⟩] [])
  (.seq (.ops [⟨(some 5), .plain (.fieldAddr 0), [.tmp 2], none⟩,
    ⟨(some 6), .plain (.load false 1), [.tmp 5], none⟩,
    ⟨(some 7), .plain (.fieldAddr 0), [.tmp 3], none⟩,
    ⟨(some 8), .plain (.load false 1), [.tmp 7], none⟩,
    ⟨(some 9), .call 42, [.tmp 6, .tmp 8], none⟩,
    ⟨(some 4), .plain .mv, [.tmp 9], none⟩] [5, 6, 7, 8, 9])
  .ret))
def cr58 : List Res := [(4, none)]
theorem ok58 : FOk Try.prog Lk.imp 58 c58 cr58 Try.f58.ntmps := ⟨Try.f58, _, Try.func58, rfl, by kernel_rfl, by kernel_rfl, by kernel_rfl, rfl⟩

end Go.Pm
