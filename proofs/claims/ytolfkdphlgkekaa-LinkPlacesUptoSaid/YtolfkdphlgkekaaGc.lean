/- LkS7: code, resolved. Written by gen.py out of what ShowSC.lean printed. -/
import Derived.Test.YtolfkdphlgkekaaGa
import Derived.Test.YtolfkdphlgkekaaPmR
import Derived.Test.YtolfkdphlgkekaaGb
namespace Go.Pm
open Go Go.Proofs

/-- slices.Concat[[]ironbark/api.Deck,ironbark/api.Deck] -/
def c51 : SC :=
  (.seq (.ops [⟨(some 2), .plain .mv, [.lit .nilS], none⟩] [])
  (.seq (.ops [⟨(some 3), .plain .mv, [.lit (.int .i64 0)], none⟩] [])
  (.seq (.seq (.ops [⟨(some 9), .plain .mv, [.tmp 0], none⟩,
    ⟨(some 10), .plain (.len 1), [.tmp 9], none⟩,
    ⟨(some 11), .plain .mv, [.lit (.int .i64 0)], none⟩] [])
  (.block 0
   (.loop
    (.seq (.ops [⟨(some 12), .plain (.bin .lss), [.tmp 11, .tmp 10], none⟩] [])
    (.seq (.cond (.tmp 12)
     .skip
     (.exit 0))
    (.seq (.block 1
     (.seq (.ops [⟨(some 13), .plain (.indexAddr 1), [.tmp 9, .tmp 11], none⟩,
       ⟨(some 14), .plain (.load false 1), [.tmp 13], none⟩,
       ⟨(some 5), .plain .mv, [.tmp 14], none⟩] [13, 14])
     (.seq (.ops [⟨(some 15), .plain .mv, [.tmp 3], none⟩,
       ⟨(some 16), .plain .mv, [.tmp 5], none⟩,
       ⟨(some 17), .plain (.len 1), [.tmp 16], none⟩,
       ⟨(some 18), .plain (.bin .add), [.tmp 15, .tmp 17], none⟩,
       ⟨(some 3), .plain .mv, [.tmp 18], none⟩] [15, 16, 17, 18])
     (.seq (.ops [⟨(some 19), .plain .mv, [.tmp 3], none⟩,
       ⟨(some 20), .plain (.bin .lss), [.tmp 19, .lit (.int .i64 0)], none⟩] [19])
     (.cond (.tmp 20)
      (.ops [⟨(some 21), .plain (.mkIface 9), [.lit (.str ⟨#[108, 101, 110, 32, 111, 117, 116, 32, 111, 102, 32, 114, 97, 110, 103, 101]⟩)], none⟩,
        ⟨none, .panic, [.tmp 21], none⟩] [21])
      .skip)))))
    (.ops [⟨(some 22), .plain (.bin .add), [.tmp 11, .lit (.int .i64 1)], none⟩,
      ⟨(some 11), .plain .mv, [.tmp 22], none⟩] [22])))))))
  (.seq (.ops [⟨(some 23), .plain .mv, [.tmp 3], none⟩,
    ⟨(some 24), .call 77, [.lit .nilS, .tmp 23], none⟩,
    ⟨(some 6), .plain .mv, [.tmp 24], none⟩] [23, 24])
  (.seq (.seq (.ops [⟨(some 25), .plain .mv, [.tmp 0], none⟩,
    ⟨(some 26), .plain (.len 1), [.tmp 25], none⟩,
    ⟨(some 27), .plain .mv, [.lit (.int .i64 0)], none⟩] [])
  (.block 2
   (.loop
    (.seq (.ops [⟨(some 28), .plain (.bin .lss), [.tmp 27, .tmp 26], none⟩] [])
    (.seq (.cond (.tmp 28)
     .skip
     (.exit 2))
    (.seq (.block 3
     (.seq (.ops [⟨(some 29), .plain (.indexAddr 1), [.tmp 25, .tmp 27], none⟩,
       ⟨(some 30), .plain (.load false 1), [.tmp 29], none⟩,
       ⟨(some 8), .plain .mv, [.tmp 30], none⟩] [29, 30])
     (.ops [⟨(some 31), .plain .mv, [.tmp 6], none⟩,
       ⟨(some 32), .plain .mv, [.tmp 8], none⟩,
       ⟨(some 33), .plain (.append 51 5 104), [.tmp 31, .tmp 32], none⟩,
       ⟨(some 6), .plain .mv, [.tmp 33], none⟩] [31, 32, 33])))
    (.ops [⟨(some 34), .plain (.bin .add), [.tmp 27, .lit (.int .i64 1)], none⟩,
      ⟨(some 27), .plain .mv, [.tmp 34], none⟩] [34])))))))
  (.seq (.ops [⟨(some 35), .plain .mv, [.tmp 6], none⟩,
    ⟨(some 2), .plain .mv, [.tmp 35], none⟩] [35])
  .ret))))))
def cr51 : List Res := [(2, none)]
theorem ok51 : FOk Try.prog Lk.imp 51 c51 cr51 Try.f51.ntmps := ⟨Try.f51, _, Try.func51, rfl, by kernel_rfl, by kernel_rfl, by kernel_rfl, rfl⟩

/-- slices.Grow[[]ironbark/api.Deck,ironbark/api.Deck] -/
def c77 : SC :=
  (.seq (.ops [⟨(some 4), .plain .mv, [.lit .nilS], none⟩] [])
  (.seq (.seq (.ops [⟨(some 5), .plain .mv, [.tmp 1], none⟩,
    ⟨(some 6), .plain (.bin .lss), [.tmp 5, .lit (.int .i64 0)], none⟩] [5])
  (.cond (.tmp 6)
   (.ops [⟨(some 7), .plain (.mkIface 9), [.lit (.str ⟨#[99, 97, 110, 110, 111, 116, 32, 98, 101, 32, 110, 101, 103, 97, 116, 105, 118, 101]⟩)], none⟩,
     ⟨none, .panic, [.tmp 7], none⟩] [7])
   .skip))
  (.seq (.seq (.ops [⟨(some 8), .plain .mv, [.tmp 1], none⟩,
    ⟨(some 9), .plain .mv, [.tmp 0], none⟩,
    ⟨(some 10), .plain (.len 2), [.tmp 9], none⟩,
    ⟨(some 11), .plain .mv, [.tmp 0], none⟩,
    ⟨(some 12), .plain (.len 1), [.tmp 11], none⟩,
    ⟨(some 13), .plain (.bin .sub), [.tmp 10, .tmp 12], none⟩,
    ⟨(some 14), .plain (.bin .sub), [.tmp 8, .tmp 13], none⟩,
    ⟨(some 1), .plain .mv, [.tmp 14], none⟩] [8, 9, 10, 11, 12, 13, 14])
  (.seq (.ops [⟨(some 15), .plain .mv, [.tmp 1], none⟩,
    ⟨(some 16), .plain (.bin .gtr), [.tmp 15, .lit (.int .i64 0)], none⟩] [15])
  (.cond (.tmp 16)
   (.ops [⟨(some 17), .plain .mv, [.tmp 0], none⟩,
     ⟨(some 18), .plain .mv, [.tmp 0], none⟩,
     ⟨(some 19), .plain (.len 2), [.tmp 18], none⟩,
     ⟨(some 20), .plain (.slice false true 5), [.tmp 17, .tmp 19], none⟩,
     ⟨(some 21), .plain .mv, [.tmp 1], none⟩,
     ⟨(some 22), .plain (.growNil 51 [(.str ⟨#[]⟩), (.str ⟨#[]⟩), .nilS, .nilS, .nilS] 104), [.tmp 20, .tmp 21], none⟩,
     ⟨(some 23), .plain .mv, [.tmp 0], none⟩,
     ⟨(some 24), .plain (.len 1), [.tmp 23], none⟩,
     ⟨(some 25), .plain (.slice false true 5), [.tmp 22, .tmp 24], none⟩,
     ⟨(some 0), .plain .mv, [.tmp 25], none⟩] [17, 18, 19, 20, 21, 22, 23, 24, 25])
   .skip)))
  (.seq (.ops [⟨(some 26), .plain .mv, [.tmp 0], none⟩,
    ⟨(some 4), .plain .mv, [.tmp 26], none⟩] [26])
  .ret))))
def cr77 : List Res := [(4, none)]
theorem ok77 : FOk Try.prog Lk.imp 77 c77 cr77 Try.f77.ntmps := ⟨Try.f77, _, Try.func77, rfl, by kernel_rfl, by kernel_rfl, by kernel_rfl, rfl⟩

/-- ironbark/link.all -/
def c23 : SC :=
  (.seq (.ops [⟨(some 4), .plain .mv, [.lit (.bool false)], none⟩] [])
  (.seq (.seq (.ops [⟨(some 7), .plain .mv, [.tmp 0], none⟩,
    ⟨(some 8), .plain (.buildRow 22 1 1 [.nilS] [0]), [.tmp 7], none⟩,
    ⟨(some 9), .plain .mv, [.tmp 1], none⟩,
    ⟨(some 10), .plain (.append 22 1 24), [.tmp 8, .tmp 9], none⟩,
    ⟨(some 11), .call 51, [.tmp 10], none⟩,
    ⟨(some 12), .plain (.len 1), [.tmp 11], none⟩,
    ⟨(some 13), .plain .mv, [.lit (.int .i64 0)], none⟩] [7, 8, 9, 10])
  (.block 0
   (.loop
    (.seq (.ops [⟨(some 14), .plain (.bin .lss), [.tmp 13, .tmp 12], none⟩] [])
    (.seq (.cond (.tmp 14)
     .skip
     (.exit 0))
    (.seq (.block 1
     (.seq (.ops [⟨(some 15), .plain (.indexAddr 5), [.tmp 11, .tmp 13], none⟩,
       ⟨(some 16), .plain (.load true 5), [.tmp 15], none⟩,
       ⟨(some 6), .plain (.alloc [(.str ⟨#[]⟩), (.str ⟨#[]⟩), .nilS, .nilS, .nilS]), [], none⟩,
       ⟨none, .plain (.store 5), [.tmp 6, .tmp 16], none⟩] [15, 16])
     (.seq (.ops [⟨(some 17), .plain (.load true 5), [.tmp 6], none⟩,
       ⟨(some 18), .call 52, [.tmp 17], none⟩,
       ⟨(some 19), .plain (.un .not), [.tmp 18], none⟩] [17, 18])
     (.cond (.tmp 19)
      (.seq (.ops [⟨(some 4), .plain .mv, [.lit (.bool false)], none⟩] [])
      .ret)
      .skip))))
    (.ops [⟨(some 20), .plain (.bin .add), [.tmp 13, .lit (.int .i64 1)], none⟩,
      ⟨(some 13), .plain .mv, [.tmp 20], none⟩] [20])))))))
  (.seq (.ops [⟨(some 4), .plain .mv, [.lit (.bool true)], none⟩] [])
  .ret)))
def cr23 : List Res := [(4, none)]
theorem ok23 : FOk Try.prog Lk.imp 23 c23 cr23 Try.f23.ntmps := ⟨Try.f23, _, Try.func23, rfl, by kernel_rfl, by kernel_rfl, by kernel_rfl, rfl⟩

/-- ironbark/link.begin -/
def c26 : SC :=
  (.seq (.ops [⟨(some 4), .plain .mv, [.lit (.const (.pointer none))], none⟩] [])
  (.seq (.ops [⟨(some 8), .plain .mv, [.tmp 0], none⟩,
    ⟨(some 9), .plain (.build [(.int .i64 0), (.str ⟨#[]⟩), .nilS, .nilS, .nilS] [(0, 1)]), [.tmp 8], none⟩,
    ⟨(some 10), .plain .mkMap, [], none⟩,
    ⟨(some 11), .plain .mkMap, [], none⟩,
    ⟨(some 12), .plain .mv, [.tmp 0], none⟩,
    ⟨(some 13), .plain (.build [(.int .i64 0), (.str ⟨#[]⟩), .nilS, .nilS, .nilS, .nilS, (.const (.map none)), (.const (.map none)), (.int .i64 0)] [(0, 5), (6, 1), (7, 1), (8, 1)]), [.tmp 9, .tmp 10, .tmp 11, .tmp 12], none⟩,
    ⟨(some 14), .plain (.box 9), [.tmp 13], none⟩,
    ⟨(some 5), .plain .mv, [.tmp 14], none⟩] [8, 9, 10, 11, 12, 13, 14])
  (.seq (.seq (.ops [⟨(some 15), .plain .mv, [.tmp 1], none⟩,
    ⟨(some 16), .plain (.len 1), [.tmp 15], none⟩,
    ⟨(some 17), .plain .mv, [.lit (.int .i64 0)], none⟩] [])
  (.block 0
   (.loop
    (.seq (.ops [⟨(some 18), .plain (.bin .lss), [.tmp 17, .tmp 16], none⟩] [])
    (.seq (.cond (.tmp 18)
     .skip
     (.exit 0))
    (.seq (.block 1
     (.seq (.ops [⟨(some 19), .plain (.indexAddr 2), [.tmp 15, .tmp 17], none⟩,
       ⟨(some 20), .plain (.load true 2), [.tmp 19], none⟩,
       ⟨(some 7), .plain (.alloc [(.str ⟨#[]⟩), (.int .i64 0)]), [], none⟩,
       ⟨none, .plain (.store 2), [.tmp 7, .tmp 20], none⟩] [19, 20])
     (.draw (.step ⟨(some 21), .plain .mv, [.tmp 5], none⟩
       (.step ⟨(some 22), .plain .nilCheck, [.tmp 21], none⟩
       (.step ⟨(some 23), .plain (.fieldAddr 6), [.tmp 22], none⟩
       (.step ⟨(some 24), .plain (.load false 1), [.tmp 23], none⟩
       (.step ⟨(some 25), .plain (.fieldAddr 0), [.tmp 7], none⟩
       (.step ⟨(some 26), .plain (.load false 1), [.tmp 25], none⟩
       (.step ⟨(some 27), .plain (.fieldAddr 1), [.tmp 7], none⟩
       (.step ⟨(some 28), .plain (.load false 1), [.tmp 27], none⟩
       (.step ⟨none, .plain (.mapUpdate .str), [.tmp 24, .tmp 26, .tmp 28], none⟩
       .done))))))))) [21, 22, 23, 24, 25, 26, 27, 28])))
    (.ops [⟨(some 29), .plain (.bin .add), [.tmp 17, .lit (.int .i64 1)], none⟩,
      ⟨(some 17), .plain .mv, [.tmp 29], none⟩] [29])))))))
  (.seq (.ops [⟨(some 30), .plain .mv, [.tmp 5], none⟩,
    ⟨(some 4), .plain .mv, [.tmp 30], none⟩] [30])
  .ret))))
def cr26 : List Res := [(4, none)]
theorem ok26 : FOk Try.prog Lk.imp 26 c26 cr26 Try.f26.ntmps := ⟨Try.f26, _, Try.func26, rfl, by kernel_rfl, by kernel_rfl, by kernel_rfl, rfl⟩

/-- (*ironbark/link.linking).put -/
def c27 : SC :=
  (.seq (.ops [⟨(some 4), .plain (.box 5), [.tmp 1], none⟩] [])
  (.seq (.seq (.draw (.step ⟨(some 16), .plain .mv, [.tmp 0], none⟩
    (.step ⟨(some 17), .plain .nilCheck, [.tmp 16], none⟩
    (.step ⟨(some 18), .plain (.fieldAddr 6), [.tmp 17], none⟩
    (.step ⟨(some 19), .plain (.load false 1), [.tmp 18], none⟩
    (.step ⟨(some 20), .plain (.fieldAddr 0), [.tmp 4], none⟩
    (.step ⟨(some 21), .plain (.load false 1), [.tmp 20], none⟩
    (.step ⟨(some 22), .plain (.lookup .str (.int .i64 0) true), [.tmp 19, .tmp 21], none⟩
    (.step ⟨(some 15), .plain .mv, [.tmp 22], none⟩
    (.step ⟨(some 23), .plain (.extract 0), [.tmp 15], none⟩
    (.step ⟨(some 24), .plain (.extract 1), [.tmp 15], none⟩
    (.step ⟨(some 6), .plain .mv, [.tmp 23], none⟩
    (.step ⟨(some 7), .plain .mv, [.tmp 24], none⟩
    .done)))))))))))) [16, 17, 18, 19, 20, 21, 22, 15, 23, 24, 6])
  (.seq (.draw (.step ⟨(some 25), .plain .mv, [.tmp 2], none⟩
    (.step ⟨(some 26), .plain .mv, [.tmp 25], none⟩
    (.step ⟨(some 27), .plain .mv, [.tmp 7], (some (26, true))⟩
    (.step ⟨(some 28), .plain .mv, [.tmp 27], (some (26, true))⟩
    (.step ⟨(some 29), .plain .mv, [.tmp 0], (some (28, false))⟩
    (.step ⟨(some 30), .plain .nilCheck, [.tmp 29], (some (28, false))⟩
    (.step ⟨(some 31), .plain (.fieldAddr 7), [.tmp 30], (some (28, false))⟩
    (.step ⟨(some 32), .plain (.load false 1), [.tmp 31], (some (28, false))⟩
    (.step ⟨(some 33), .plain (.fieldAddr 0), [.tmp 4], (some (28, false))⟩
    (.step ⟨(some 34), .plain (.load false 1), [.tmp 33], (some (28, false))⟩
    (.step ⟨(some 35), .plain (.lookup .str (.bool false) false), [.tmp 32, .tmp 34], (some (28, false))⟩
    (.step ⟨(some 36), .plain .pick, [.tmp 28, .lit (.bool true), .tmp 35], (some (26, true))⟩
    (.step ⟨(some 37), .plain .pick, [.tmp 26, .tmp 36, .lit (.bool false)], none⟩
    .done))))))))))))) [25, 26, 27, 28, 29, 30, 31, 32, 33, 34, 35, 36])
  (.cond (.tmp 37)
   (.ops [⟨(some 38), .plain (.fieldAddr 0), [.tmp 4], none⟩,
     ⟨(some 39), .plain (.load false 1), [.tmp 38], none⟩,
     ⟨(some 40), .plain (.build [(.int .i64 0), (.str ⟨#[]⟩)] [(0, 1), (1, 1)]), [.lit (.int .i64 6), .tmp 39], none⟩,
     ⟨(some 41), .plain (.mkIface 58), [.tmp 40], none⟩,
     ⟨none, .panic, [.tmp 41], none⟩] [38, 39, 40, 41])
   .skip)))
  (.seq (.ops [⟨(some 42), .plain .mv, [.tmp 0], none⟩,
    ⟨(some 43), .plain .nilCheck, [.tmp 42], none⟩,
    ⟨(some 44), .plain (.fieldAddr 8), [.tmp 43], none⟩,
    ⟨(some 45), .plain (.load false 1), [.tmp 44], none⟩,
    ⟨(some 46), .call 53, [.tmp 45], none⟩,
    ⟨(some 8), .plain .mv, [.tmp 46], none⟩] [42, 43, 44, 45, 46])
  (.seq (.draw (.step ⟨(some 47), .plain .mv, [.tmp 0], none⟩
    (.step ⟨(some 48), .plain .nilCheck, [.tmp 47], none⟩
    (.step ⟨(some 49), .plain (.fieldAddr 7), [.tmp 48], none⟩
    (.step ⟨(some 50), .plain (.load false 1), [.tmp 49], none⟩
    (.step ⟨(some 51), .plain (.fieldAddr 0), [.tmp 4], none⟩
    (.step ⟨(some 52), .plain (.load false 1), [.tmp 51], none⟩
    (.step ⟨none, .plain (.mapUpdate .str), [.tmp 50, .tmp 52, .lit (.bool true)], none⟩
    .done))))))) [47, 48, 49, 50, 51, 52])
  (.seq (.draw (.step ⟨(some 53), .plain .mv, [.tmp 0], none⟩
    (.step ⟨(some 54), .plain .mv, [.tmp 0], none⟩
    (.step ⟨(some 55), .plain .nilCheck, [.tmp 54], none⟩
    (.step ⟨(some 56), .plain (.fieldAddr 5), [.tmp 55], none⟩
    (.step ⟨(some 57), .plain (.load false 1), [.tmp 56], none⟩
    (.step ⟨(some 58), .plain (.load true 5), [.tmp 4], none⟩
    (.step ⟨(some 59), .plain (.buildRow 51 5 1 [(.str ⟨#[]⟩), (.str ⟨#[]⟩), .nilS, .nilS, .nilS] [0]), [.tmp 58], none⟩
    (.step ⟨(some 60), .plain (.append 51 5 104), [.tmp 57, .tmp 59], none⟩
    (.step ⟨(some 61), .plain .nilCheck, [.tmp 53], none⟩
    (.step ⟨(some 62), .plain (.fieldAddr 5), [.tmp 61], none⟩
    (.step ⟨none, .plain (.store 1), [.tmp 62, .tmp 60], none⟩
    .done))))))))))) [53, 54, 55, 56, 57, 58, 59, 60, 61, 62])
  (.seq (.draw (.step ⟨(some 63), .plain .mv, [.tmp 0], none⟩
    (.step ⟨(some 64), .plain .mv, [.tmp 0], none⟩
    (.step ⟨(some 65), .plain .nilCheck, [.tmp 64], none⟩
    (.step ⟨(some 66), .plain (.fieldAddr 0), [.tmp 65], none⟩
    (.step ⟨(some 67), .plain (.fieldAddr 4), [.tmp 66], none⟩
    (.step ⟨(some 68), .plain (.load false 1), [.tmp 67], none⟩
    (.step ⟨(some 69), .plain (.fieldAddr 0), [.tmp 4], none⟩
    (.step ⟨(some 70), .plain (.load false 1), [.tmp 69], none⟩
    (.step ⟨(some 71), .plain .mv, [.tmp 8], none⟩
    (.step ⟨(some 72), .plain (.build [(.str ⟨#[]⟩), (.int .i64 0)] [(0, 1), (1, 1)]), [.tmp 70, .tmp 71], none⟩
    (.step ⟨(some 73), .plain (.buildRow 40 2 1 [(.str ⟨#[]⟩), (.int .i64 0)] [0]), [.tmp 72], none⟩
    (.step ⟨(some 74), .plain (.append 40 2 24), [.tmp 68, .tmp 73], none⟩
    (.step ⟨(some 75), .plain .nilCheck, [.tmp 63], none⟩
    (.step ⟨(some 76), .plain (.fieldAddr 0), [.tmp 75], none⟩
    (.step ⟨(some 77), .plain (.fieldAddr 4), [.tmp 76], none⟩
    (.step ⟨none, .plain (.store 1), [.tmp 77, .tmp 74], none⟩
    .done)))))))))))))))) [63, 64, 65, 66, 67, 68, 69, 70, 71, 72, 73, 74, 75, 76, 77])
  (.seq (.seq (.ops [⟨(some 78), .plain (.load true 5), [.tmp 4], none⟩,
    ⟨(some 79), .call 54, [.tmp 78], none⟩,
    ⟨(some 80), .plain (.len 1), [.tmp 79], none⟩,
    ⟨(some 81), .plain .mv, [.lit (.int .i64 0)], none⟩] [78])
  (.block 0
   (.loop
    (.seq (.ops [⟨(some 82), .plain (.bin .lss), [.tmp 81, .tmp 80], none⟩] [])
    (.seq (.cond (.tmp 82)
     .skip
     (.exit 0))
    (.seq (.block 1
     (.seq (.ops [⟨(some 83), .plain (.indexAddr 2), [.tmp 79, .tmp 81], none⟩,
       ⟨(some 84), .plain (.load true 2), [.tmp 83], none⟩,
       ⟨(some 10), .plain (.alloc [(.str ⟨#[]⟩), (.int .i64 0)]), [], none⟩,
       ⟨none, .plain (.store 2), [.tmp 10, .tmp 84], none⟩] [83, 84])
     (.seq (.seq (.draw (.step ⟨(some 86), .plain .mv, [.tmp 0], none⟩
       (.step ⟨(some 87), .plain .nilCheck, [.tmp 86], none⟩
       (.step ⟨(some 88), .plain (.fieldAddr 6), [.tmp 87], none⟩
       (.step ⟨(some 89), .plain (.load false 1), [.tmp 88], none⟩
       (.step ⟨(some 90), .plain (.fieldAddr 0), [.tmp 10], none⟩
       (.step ⟨(some 91), .plain (.load false 1), [.tmp 90], none⟩
       (.step ⟨(some 92), .plain (.lookup .str (.int .i64 0) true), [.tmp 89, .tmp 91], none⟩
       (.step ⟨(some 85), .plain .mv, [.tmp 92], none⟩
       (.step ⟨(some 93), .plain (.extract 0), [.tmp 85], none⟩
       (.step ⟨(some 94), .plain (.extract 1), [.tmp 85], none⟩
       (.step ⟨(some 11), .plain .mv, [.tmp 93], none⟩
       (.step ⟨(some 12), .plain .mv, [.tmp 94], none⟩
       .done)))))))))))) [86, 87, 88, 89, 90, 91, 92, 85, 93, 94, 11])
     (.seq (.ops [⟨(some 95), .plain .mv, [.tmp 12], none⟩] [])
     (.cond (.tmp 95)
      (.seq (.seq (.ops [⟨(some 96), .plain .mv, [.tmp 2], none⟩] [])
      (.cond (.tmp 96)
       (.ops [⟨(some 97), .plain (.fieldAddr 0), [.tmp 10], none⟩,
         ⟨(some 98), .plain (.load false 1), [.tmp 97], none⟩,
         ⟨(some 99), .plain (.build [(.int .i64 0), (.str ⟨#[]⟩)] [(0, 1), (1, 1)]), [.lit (.int .i64 6), .tmp 98], none⟩,
         ⟨(some 100), .plain (.mkIface 58), [.tmp 99], none⟩,
         ⟨none, .panic, [.tmp 100], none⟩] [97, 98, 99, 100])
       .skip))
      (.exit 1))
      .skip)))
     (.seq (.draw (.step ⟨(some 101), .plain .mv, [.tmp 0], none⟩
       (.step ⟨(some 102), .plain .nilCheck, [.tmp 101], none⟩
       (.step ⟨(some 103), .plain (.fieldAddr 6), [.tmp 102], none⟩
       (.step ⟨(some 104), .plain (.load false 1), [.tmp 103], none⟩
       (.step ⟨(some 105), .plain (.fieldAddr 0), [.tmp 10], none⟩
       (.step ⟨(some 106), .plain (.load false 1), [.tmp 105], none⟩
       (.step ⟨(some 107), .plain .mv, [.tmp 8], none⟩
       (.step ⟨(some 108), .plain (.fieldAddr 1), [.tmp 10], none⟩
       (.step ⟨(some 109), .plain (.load false 1), [.tmp 108], none⟩
       (.step ⟨(some 110), .plain (.bin .add), [.tmp 107, .tmp 109], none⟩
       (.step ⟨none, .plain (.mapUpdate .str), [.tmp 104, .tmp 106, .tmp 110], none⟩
       .done))))))))))) [101, 102, 103, 104, 105, 106, 107, 108, 109, 110])
     (.draw (.step ⟨(some 111), .plain .mv, [.tmp 0], none⟩
       (.step ⟨(some 112), .plain .mv, [.tmp 0], none⟩
       (.step ⟨(some 113), .plain .nilCheck, [.tmp 112], none⟩
       (.step ⟨(some 114), .plain (.fieldAddr 0), [.tmp 113], none⟩
       (.step ⟨(some 115), .plain (.fieldAddr 2), [.tmp 114], none⟩
       (.step ⟨(some 116), .plain (.load false 1), [.tmp 115], none⟩
       (.step ⟨(some 117), .plain (.fieldAddr 0), [.tmp 10], none⟩
       (.step ⟨(some 118), .plain (.load false 1), [.tmp 117], none⟩
       (.step ⟨(some 119), .plain .mv, [.tmp 8], none⟩
       (.step ⟨(some 120), .plain (.fieldAddr 1), [.tmp 10], none⟩
       (.step ⟨(some 121), .plain (.load false 1), [.tmp 120], none⟩
       (.step ⟨(some 122), .plain (.bin .add), [.tmp 119, .tmp 121], none⟩
       (.step ⟨(some 123), .plain (.build [(.str ⟨#[]⟩), (.int .i64 0)] [(0, 1), (1, 1)]), [.tmp 118, .tmp 122], none⟩
       (.step ⟨(some 124), .plain (.buildRow 40 2 1 [(.str ⟨#[]⟩), (.int .i64 0)] [0]), [.tmp 123], none⟩
       (.step ⟨(some 125), .plain (.append 40 2 24), [.tmp 116, .tmp 124], none⟩
       (.step ⟨(some 126), .plain .nilCheck, [.tmp 111], none⟩
       (.step ⟨(some 127), .plain (.fieldAddr 0), [.tmp 126], none⟩
       (.step ⟨(some 128), .plain (.fieldAddr 2), [.tmp 127], none⟩
       (.step ⟨none, .plain (.store 1), [.tmp 128, .tmp 125], none⟩
       .done))))))))))))))))))) [111, 112, 113, 114, 115, 116, 117, 118, 119, 120, 121, 122, 123, 124, 125, 126, 127, 128])))))
    (.ops [⟨(some 129), .plain (.bin .add), [.tmp 81, .lit (.int .i64 1)], none⟩,
      ⟨(some 81), .plain .mv, [.tmp 129], none⟩] [129])))))))
  (.seq (.seq (.ops [⟨(some 130), .plain (.fieldAddr 4), [.tmp 4], none⟩,
    ⟨(some 131), .plain (.load false 1), [.tmp 130], none⟩,
    ⟨(some 132), .plain (.len 1), [.tmp 131], none⟩,
    ⟨(some 133), .plain .mv, [.lit (.int .i64 0)], none⟩] [130])
  (.block 2
   (.loop
    (.seq (.ops [⟨(some 134), .plain (.bin .lss), [.tmp 133, .tmp 132], none⟩] [])
    (.seq (.cond (.tmp 134)
     .skip
     (.exit 2))
    (.seq (.block 3
     (.seq (.ops [⟨(some 135), .plain (.indexAddr 2), [.tmp 131, .tmp 133], none⟩,
       ⟨(some 136), .plain (.load true 2), [.tmp 135], none⟩,
       ⟨(some 14), .plain (.alloc [(.int .i64 0), (.int .i64 0)]), [], none⟩,
       ⟨none, .plain (.store 2), [.tmp 14, .tmp 136], none⟩] [135, 136])
     (.draw (.step ⟨(some 137), .plain .mv, [.tmp 0], none⟩
       (.step ⟨(some 138), .plain .mv, [.tmp 0], none⟩
       (.step ⟨(some 139), .plain .nilCheck, [.tmp 138], none⟩
       (.step ⟨(some 140), .plain (.fieldAddr 0), [.tmp 139], none⟩
       (.step ⟨(some 141), .plain (.fieldAddr 3), [.tmp 140], none⟩
       (.step ⟨(some 142), .plain (.load false 1), [.tmp 141], none⟩
       (.step ⟨(some 143), .plain .mv, [.tmp 8], none⟩
       (.step ⟨(some 144), .plain (.fieldAddr 0), [.tmp 14], none⟩
       (.step ⟨(some 145), .plain (.load false 1), [.tmp 144], none⟩
       (.step ⟨(some 146), .plain (.bin .add), [.tmp 143, .tmp 145], none⟩
       (.step ⟨(some 147), .plain (.fieldAddr 1), [.tmp 14], none⟩
       (.step ⟨(some 148), .plain (.load false 1), [.tmp 147], none⟩
       (.step ⟨(some 149), .plain (.build [(.int .i64 0), (.int .i64 0)] [(0, 1), (1, 1)]), [.tmp 146, .tmp 148], none⟩
       (.step ⟨(some 150), .plain (.buildRow 102 2 1 [(.int .i64 0), (.int .i64 0)] [0]), [.tmp 149], none⟩
       (.step ⟨(some 151), .plain (.append 102 2 16), [.tmp 142, .tmp 150], none⟩
       (.step ⟨(some 152), .plain .nilCheck, [.tmp 137], none⟩
       (.step ⟨(some 153), .plain (.fieldAddr 0), [.tmp 152], none⟩
       (.step ⟨(some 154), .plain (.fieldAddr 3), [.tmp 153], none⟩
       (.step ⟨none, .plain (.store 1), [.tmp 154, .tmp 151], none⟩
       .done))))))))))))))))))) [137, 138, 139, 140, 141, 142, 143, 144, 145, 146, 147, 148, 149, 150, 151, 152, 153, 154])))
    (.ops [⟨(some 155), .plain (.bin .add), [.tmp 133, .lit (.int .i64 1)], none⟩,
      ⟨(some 133), .plain .mv, [.tmp 155], none⟩] [155])))))))
  (.ops [⟨(some 156), .plain .mv, [.tmp 0], none⟩,
    ⟨(some 157), .plain .mv, [.tmp 8], none⟩,
    ⟨(some 158), .plain (.fieldAddr 1), [.tmp 4], none⟩,
    ⟨(some 159), .plain (.load false 1), [.tmp 158], none⟩,
    ⟨(some 160), .plain (.len 0), [.tmp 159], none⟩,
    ⟨(some 161), .plain (.bin .add), [.tmp 157, .tmp 160], none⟩,
    ⟨(some 162), .plain .nilCheck, [.tmp 156], none⟩,
    ⟨(some 163), .plain (.fieldAddr 8), [.tmp 162], none⟩,
    ⟨none, .plain (.store 1), [.tmp 163, .tmp 161], none⟩] [156, 157, 158, 159, 160, 161, 162, 163])))))))))
def cr27 : List Res := []
theorem ok27 : FOk Try.prog Lk.imp 27 c27 cr27 Try.f27.ntmps := ⟨Try.f27, _, Try.func27, rfl, by kernel_rfl, by kernel_rfl, by kernel_rfl, rfl⟩

/-- (*ironbark/link.linking).lacking -/
def c55 : SC :=
  (.seq (.ops [⟨(some 2), .plain .mv, [.lit .nilS], none⟩] [])
  (.seq (.ops [⟨(some 3), .plain .mv, [.lit .nilS], none⟩] [])
  (.seq (.seq (.ops [⟨(some 10), .plain .mv, [.tmp 0], none⟩,
    ⟨(some 11), .plain .nilCheck, [.tmp 10], none⟩,
    ⟨(some 12), .plain (.fieldAddr 5), [.tmp 11], none⟩,
    ⟨(some 13), .plain (.load false 1), [.tmp 12], none⟩,
    ⟨(some 14), .plain (.len 1), [.tmp 13], none⟩,
    ⟨(some 15), .plain .mv, [.lit (.int .i64 0)], none⟩] [10, 11, 12])
  (.block 0
   (.loop
    (.seq (.ops [⟨(some 16), .plain (.bin .lss), [.tmp 15, .tmp 14], none⟩] [])
    (.seq (.cond (.tmp 16)
     .skip
     (.exit 0))
    (.seq (.block 1
     (.seq (.ops [⟨(some 17), .plain (.indexAddr 5), [.tmp 13, .tmp 15], none⟩,
       ⟨(some 18), .plain (.load true 5), [.tmp 17], none⟩,
       ⟨(some 5), .plain (.alloc [(.str ⟨#[]⟩), (.str ⟨#[]⟩), .nilS, .nilS, .nilS]), [], none⟩,
       ⟨none, .plain (.store 5), [.tmp 5, .tmp 18], none⟩] [17, 18])
     (.seq (.ops [⟨(some 19), .plain (.fieldAddr 3), [.tmp 5], none⟩,
       ⟨(some 20), .plain (.load false 1), [.tmp 19], none⟩,
       ⟨(some 21), .plain (.len 1), [.tmp 20], none⟩,
       ⟨(some 22), .plain .mv, [.lit (.int .i64 0)], none⟩] [19])
     (.block 2
      (.loop
       (.seq (.ops [⟨(some 23), .plain (.bin .lss), [.tmp 22, .tmp 21], none⟩] [])
       (.seq (.cond (.tmp 23)
        .skip
        (.exit 2))
       (.seq (.block 3
        (.seq (.ops [⟨(some 24), .plain (.indexAddr 3), [.tmp 20, .tmp 22], none⟩,
          ⟨(some 25), .plain (.load true 3), [.tmp 24], none⟩,
          ⟨(some 7), .plain (.alloc [(.int .i64 0), (.str ⟨#[]⟩), (.int .i64 0)]), [], none⟩,
          ⟨none, .plain (.store 3), [.tmp 7, .tmp 25], none⟩] [24, 25])
        (.seq (.draw (.step ⟨(some 27), .plain .mv, [.tmp 0], none⟩
          (.step ⟨(some 28), .plain .nilCheck, [.tmp 27], none⟩
          (.step ⟨(some 29), .plain (.fieldAddr 6), [.tmp 28], none⟩
          (.step ⟨(some 30), .plain (.load false 1), [.tmp 29], none⟩
          (.step ⟨(some 31), .plain (.fieldAddr 1), [.tmp 7], none⟩
          (.step ⟨(some 32), .plain (.load false 1), [.tmp 31], none⟩
          (.step ⟨(some 33), .plain (.lookup .str (.int .i64 0) true), [.tmp 30, .tmp 32], none⟩
          (.step ⟨(some 26), .plain .mv, [.tmp 33], none⟩
          (.step ⟨(some 34), .plain (.extract 0), [.tmp 26], none⟩
          (.step ⟨(some 35), .plain (.extract 1), [.tmp 26], none⟩
          (.step ⟨(some 8), .plain .mv, [.tmp 34], none⟩
          (.step ⟨(some 9), .plain .mv, [.tmp 35], none⟩
          .done)))))))))))) [27, 28, 29, 30, 31, 32, 33, 26, 34, 35, 8])
        (.seq (.ops [⟨(some 36), .plain .mv, [.tmp 9], none⟩,
          ⟨(some 37), .plain (.un .not), [.tmp 36], none⟩,
          ⟨(some 38), .plain .mv, [.tmp 37], none⟩,
          ⟨(some 39), .plain .mv, [.tmp 3], (some (38, true))⟩,
          ⟨(some 40), .plain (.fieldAddr 1), [.tmp 7], (some (38, true))⟩,
          ⟨(some 41), .plain (.load false 1), [.tmp 40], (some (38, true))⟩,
          ⟨(some 42), .call 80, [.tmp 39, .tmp 41], (some (38, true))⟩,
          ⟨(some 43), .plain (.un .not), [.tmp 42], (some (38, true))⟩,
          ⟨(some 44), .plain .pick, [.tmp 38, .tmp 43, .lit (.bool false)], none⟩] [36, 37, 38, 39, 40, 41, 42, 43])
        (.cond (.tmp 44)
         (.ops [⟨(some 45), .plain .mv, [.tmp 3], none⟩,
           ⟨(some 46), .plain (.fieldAddr 1), [.tmp 7], none⟩,
           ⟨(some 47), .plain (.load false 1), [.tmp 46], none⟩,
           ⟨(some 48), .plain (.buildRow 9 1 1 [(.str ⟨#[]⟩)] [0]), [.tmp 47], none⟩,
           ⟨(some 49), .plain (.append 9 1 16), [.tmp 45, .tmp 48], none⟩,
           ⟨(some 3), .plain .mv, [.tmp 49], none⟩] [45, 46, 47, 48, 49])
         .skip)))))
       (.ops [⟨(some 50), .plain (.bin .add), [.tmp 22, .lit (.int .i64 1)], none⟩,
         ⟨(some 22), .plain .mv, [.tmp 50], none⟩] [50])))))))))
    (.ops [⟨(some 51), .plain (.bin .add), [.tmp 15, .lit (.int .i64 1)], none⟩,
      ⟨(some 15), .plain .mv, [.tmp 51], none⟩] [51])))))))
  (.seq (.ops [⟨(some 52), .plain .mv, [.tmp 3], none⟩,
    ⟨(some 2), .plain .mv, [.tmp 52], none⟩] [52])
  .ret))))
def cr55 : List Res := [(2, none)]
theorem ok55 : FOk Try.prog Lk.imp 55 c55 cr55 Try.f55.ntmps := ⟨Try.f55, _, Try.func55, rfl, by kernel_rfl, by kernel_rfl, by kernel_rfl, rfl⟩

/-- (*ironbark/link.linking).found -/
def c56 : SC :=
  (.seq (.ops [⟨(some 4), .plain (.box 1), [.tmp 1], none⟩,
    ⟨(some 6), .plain (.alloc [(.str ⟨#[]⟩), (.str ⟨#[]⟩), .nilS, .nilS, .nilS]), [], none⟩,
    ⟨(some 7), .plain .mv, [.lit (.bool false)], none⟩] [])
  (.seq (.seq (.ops [⟨(some 12), .plain .mv, [.tmp 2], none⟩,
    ⟨(some 13), .plain (.len 1), [.tmp 12], none⟩,
    ⟨(some 14), .plain .mv, [.lit (.int .i64 0)], none⟩] [])
  (.block 0
   (.loop
    (.seq (.ops [⟨(some 15), .plain (.bin .lss), [.tmp 14, .tmp 13], none⟩] [])
    (.seq (.cond (.tmp 15)
     .skip
     (.exit 0))
    (.seq (.block 1
     (.seq (.ops [⟨(some 16), .plain (.indexAddr 1), [.tmp 12, .tmp 14], none⟩,
       ⟨(some 17), .plain (.load false 1), [.tmp 16], none⟩,
       ⟨(some 9), .plain .mv, [.tmp 17], none⟩] [16, 17])
     (.seq (.ops [⟨(some 18), .plain .mv, [.tmp 9], none⟩,
       ⟨(some 19), .plain (.len 1), [.tmp 18], none⟩,
       ⟨(some 20), .plain .mv, [.lit (.int .i64 0)], none⟩] [])
     (.block 2
      (.loop
       (.seq (.ops [⟨(some 21), .plain (.bin .lss), [.tmp 20, .tmp 19], none⟩] [])
       (.seq (.cond (.tmp 21)
        .skip
        (.exit 2))
       (.seq (.block 3
        (.seq (.ops [⟨(some 22), .plain (.indexAddr 5), [.tmp 18, .tmp 20], none⟩,
          ⟨(some 23), .plain (.load true 5), [.tmp 22], none⟩,
          ⟨(some 11), .plain (.alloc [(.str ⟨#[]⟩), (.str ⟨#[]⟩), .nilS, .nilS, .nilS]), [], none⟩,
          ⟨none, .plain (.store 5), [.tmp 11, .tmp 23], none⟩] [22, 23])
        (.seq (.draw (.step ⟨(some 24), .plain .mv, [.tmp 0], none⟩
          (.step ⟨(some 25), .plain .nilCheck, [.tmp 24], none⟩
          (.step ⟨(some 26), .plain (.fieldAddr 7), [.tmp 25], none⟩
          (.step ⟨(some 27), .plain (.load false 1), [.tmp 26], none⟩
          (.step ⟨(some 28), .plain (.fieldAddr 0), [.tmp 11], none⟩
          (.step ⟨(some 29), .plain (.load false 1), [.tmp 28], none⟩
          (.step ⟨(some 30), .plain (.lookup .str (.bool false) false), [.tmp 27, .tmp 29], none⟩
          (.step ⟨(some 31), .plain (.un .not), [.tmp 30], none⟩
          (.step ⟨(some 32), .plain .mv, [.tmp 31], none⟩
          (.step ⟨(some 33), .plain (.load true 5), [.tmp 11], (some (32, true))⟩
          (.step ⟨(some 34), .call 54, [.tmp 33], (some (32, true))⟩
          (.step ⟨(some 35), .plain (.mkFn 81), [.tmp 4], (some (32, true))⟩
          (.step ⟨(some 36), .call 78, [.tmp 34, .tmp 35], (some (32, true))⟩
          (.step ⟨(some 37), .plain .pick, [.tmp 32, .tmp 36, .lit (.bool false)], none⟩
          .done)))))))))))))) [24, 25, 26, 27, 28, 29, 30, 31, 32, 33, 34, 35, 36])
        (.cond (.tmp 37)
         (.seq (.ops [⟨(some 38), .plain (.load true 5), [.tmp 11], none⟩,
           ⟨none, .plain (.store 5), [.tmp 6, .tmp 38], none⟩,
           ⟨(some 7), .plain .mv, [.lit (.bool true)], none⟩] [38])
         .ret)
         .skip))))
       (.ops [⟨(some 39), .plain (.bin .add), [.tmp 20, .lit (.int .i64 1)], none⟩,
         ⟨(some 20), .plain .mv, [.tmp 39], none⟩] [39])))))))))
    (.ops [⟨(some 40), .plain (.bin .add), [.tmp 14, .lit (.int .i64 1)], none⟩,
      ⟨(some 14), .plain .mv, [.tmp 40], none⟩] [40])))))))
  (.seq (.ops [⟨(some 41), .plain (.build [(.str ⟨#[]⟩), (.str ⟨#[]⟩), .nilS, .nilS, .nilS] []), [], none⟩,
    ⟨none, .plain (.store 5), [.tmp 6, .tmp 41], none⟩,
    ⟨(some 7), .plain .mv, [.lit (.bool false)], none⟩] [41])
  .ret)))
def cr56 : List Res := [(6, some (true, 5)), (7, none)]
theorem ok56 : FOk Try.prog Lk.imp 56 c56 cr56 Try.f56.ntmps := ⟨Try.f56, _, Try.func56, rfl, by kernel_rfl, by kernel_rfl, by kernel_rfl, rfl⟩

/-- (*ironbark/link.linking).done$1 -/
def c58 : SC :=
  (.seq (.ops [⟨(some 2), .plain (.box 2), [.tmp 0], none⟩,
    ⟨(some 3), .plain (.box 2), [.tmp 1], none⟩,
    ⟨(some 4), .plain .mv, [.lit (.int .i64 0)], none⟩] [])
  (.seq (.ops [⟨(some 5), .plain (.fieldAddr 0), [.tmp 2], none⟩,
    ⟨(some 6), .plain (.load false 1), [.tmp 5], none⟩,
    ⟨(some 7), .plain (.fieldAddr 0), [.tmp 3], none⟩,
    ⟨(some 8), .plain (.load false 1), [.tmp 7], none⟩,
    ⟨(some 9), .call 42, [.tmp 6, .tmp 8], none⟩,
    ⟨(some 4), .plain .mv, [.tmp 9], none⟩] [5, 6, 7, 8, 9])
  .ret))
def cr58 : List Res := [(4, none)]
theorem ok58 : FOk Try.prog Lk.imp 58 c58 cr58 Try.f58.ntmps := ⟨Try.f58, _, Try.func58, rfl, by kernel_rfl, by kernel_rfl, by kernel_rfl, rfl⟩

end Go.Pm

/- LkS8: code, resolved. Written by gen.py out of what ShowSC.lean printed. -/
namespace Go.Pm
open Go Go.Proofs

/-- (*ironbark/link.linking).needed -/
def c28 : SC :=
  (.seq (.ops [⟨(some 4), .plain .mv, [.lit .nilS], none⟩] [])
  (.seq .skip
  (.block 0
   (.loop
    (.block 1
     (.seq (.ops [⟨(some 10), .plain .mv, [.tmp 0], none⟩,
       ⟨(some 11), .call 55, [.tmp 10], none⟩,
       ⟨(some 5), .plain .mv, [.tmp 11], none⟩] [10, 11])
     (.seq (.seq (.ops [⟨(some 12), .plain .mv, [.tmp 5], none⟩,
       ⟨(some 13), .plain (.len 1), [.tmp 12], none⟩,
       ⟨(some 14), .plain .mv, [.lit (.int .i64 0)], none⟩] [])
     (.block 2
      (.loop
       (.seq (.ops [⟨(some 15), .plain (.bin .lss), [.tmp 14, .tmp 13], none⟩] [])
       (.seq (.cond (.tmp 15)
        .skip
        (.exit 2))
       (.seq (.block 3
        (.seq (.ops [⟨(some 16), .plain (.indexAddr 1), [.tmp 12, .tmp 14], none⟩,
          ⟨(some 17), .plain (.load false 1), [.tmp 16], none⟩,
          ⟨(some 7), .plain .mv, [.tmp 17], none⟩] [16, 17])
        (.seq (.ops [⟨(some 19), .plain .mv, [.tmp 0], none⟩,
          ⟨(some 20), .plain .mv, [.tmp 7], none⟩,
          ⟨(some 21), .plain .mv, [.tmp 1], none⟩,
          ⟨(some 22), .call 56, [.tmp 19, .tmp 20, .tmp 21], none⟩,
          ⟨(some 18), .plain .mv, [.tmp 22], none⟩,
          ⟨(some 23), .plain (.extract 0), [.tmp 18], none⟩,
          ⟨(some 24), .plain (.extract 1), [.tmp 18], none⟩,
          ⟨(some 8), .plain (.alloc [(.str ⟨#[]⟩), (.str ⟨#[]⟩), .nilS, .nilS, .nilS]), [], none⟩,
          ⟨none, .plain (.store 5), [.tmp 8, .tmp 23], none⟩,
          ⟨(some 9), .plain .mv, [.tmp 24], none⟩] [19, 20, 21, 22, 18, 23, 24])
        (.seq (.ops [⟨(some 25), .plain .mv, [.tmp 9], none⟩] [])
        (.cond (.tmp 25)
         (.seq (.ops [⟨(some 26), .plain .mv, [.tmp 0], none⟩,
           ⟨(some 27), .plain (.load true 5), [.tmp 8], none⟩,
           ⟨(some 28), .call 27, [.tmp 26, .tmp 27, .lit (.bool false)], none⟩] [26, 27, 28])
         (.exit 1))
         .skip)))))
       (.ops [⟨(some 29), .plain (.bin .add), [.tmp 14, .lit (.int .i64 1)], none⟩,
         ⟨(some 14), .plain .mv, [.tmp 29], none⟩] [29])))))))
     (.seq (.ops [⟨(some 30), .plain .mv, [.tmp 5], none⟩,
       ⟨(some 4), .plain .mv, [.tmp 30], none⟩] [30])
     .ret))))))))
def cr28 : List Res := [(4, none)]
theorem ok28 : FOk Try.prog Lk.imp 28 c28 cr28 Try.f28.ntmps := ⟨Try.f28, _, Try.func28, rfl, by kernel_rfl, by kernel_rfl, by kernel_rfl, rfl⟩

/-- (*ironbark/link.linking).done -/
def c29 : SC :=
  (.seq (.ops [⟨(some 2), .plain (.alloc [(.int .i64 0), (.str ⟨#[]⟩), .nilS, .nilS, .nilS]), [], none⟩] [])
  (.seq (.draw (.step ⟨(some 10), .plain .mv, [.tmp 0], none⟩
    (.step ⟨(some 11), .plain .nilCheck, [.tmp 10], none⟩
    (.step ⟨(some 12), .plain (.fieldAddr 8), [.tmp 11], none⟩
    (.step ⟨(some 13), .plain (.load false 1), [.tmp 12], none⟩
    (.step ⟨(some 14), .plain .mv, [.tmp 0], none⟩
    (.step ⟨(some 15), .plain .nilCheck, [.tmp 14], none⟩
    (.step ⟨(some 16), .plain (.fieldAddr 0), [.tmp 15], none⟩
    (.step ⟨(some 17), .plain (.fieldAddr 0), [.tmp 16], none⟩
    (.step ⟨(some 18), .plain (.load false 1), [.tmp 17], none⟩
    (.step ⟨(some 19), .plain (.bin .sub), [.tmp 13, .tmp 18], none⟩
    (.step ⟨(some 20), .plain (.mkRow 5 [(.int .u8 0)] 1), [.tmp 19, .tmp 19], none⟩
    (.step ⟨(some 3), .plain .mv, [.tmp 20], none⟩
    .done)))))))))))) [10, 11, 12, 13, 14, 15, 16, 17, 18, 19, 20])
  (.seq (.seq (.ops [⟨(some 21), .plain .mv, [.tmp 0], none⟩,
    ⟨(some 22), .plain .nilCheck, [.tmp 21], none⟩,
    ⟨(some 23), .plain (.fieldAddr 5), [.tmp 22], none⟩,
    ⟨(some 24), .plain (.load false 1), [.tmp 23], none⟩,
    ⟨(some 25), .plain (.len 1), [.tmp 24], none⟩,
    ⟨(some 26), .plain .mv, [.lit (.int .i64 0)], none⟩] [21, 22, 23])
  (.block 0
   (.loop
    (.seq (.ops [⟨(some 27), .plain (.bin .lss), [.tmp 26, .tmp 25], none⟩] [])
    (.seq (.cond (.tmp 27)
     .skip
     (.exit 0))
    (.seq (.block 1
     (.seq (.ops [⟨(some 28), .plain .mv, [.tmp 26], none⟩,
       ⟨(some 29), .plain (.indexAddr 5), [.tmp 24, .tmp 26], none⟩,
       ⟨(some 30), .plain (.load true 5), [.tmp 29], none⟩,
       ⟨(some 5), .plain (.alloc [(.str ⟨#[]⟩), (.str ⟨#[]⟩), .nilS, .nilS, .nilS]), [], none⟩,
       ⟨(some 4), .plain .mv, [.tmp 28], none⟩,
       ⟨none, .plain (.store 5), [.tmp 5, .tmp 30], none⟩] [28, 29, 30])
     (.seq (.draw (.step ⟨(some 31), .plain .mv, [.tmp 0], none⟩
       (.step ⟨(some 32), .plain .nilCheck, [.tmp 31], none⟩
       (.step ⟨(some 33), .plain (.fieldAddr 0), [.tmp 32], none⟩
       (.step ⟨(some 34), .plain (.fieldAddr 4), [.tmp 33], none⟩
       (.step ⟨(some 35), .plain (.load false 1), [.tmp 34], none⟩
       (.step ⟨(some 36), .plain .mv, [.tmp 4], none⟩
       (.step ⟨(some 37), .plain (.indexAddr 2), [.tmp 35, .tmp 36], none⟩
       (.step ⟨(some 38), .plain (.fieldAddr 1), [.tmp 37], none⟩
       (.step ⟨(some 39), .plain (.load false 1), [.tmp 38], none⟩
       (.step ⟨(some 40), .plain .mv, [.tmp 0], none⟩
       (.step ⟨(some 41), .plain .nilCheck, [.tmp 40], none⟩
       (.step ⟨(some 42), .plain (.fieldAddr 0), [.tmp 41], none⟩
       (.step ⟨(some 43), .plain (.fieldAddr 0), [.tmp 42], none⟩
       (.step ⟨(some 44), .plain (.load false 1), [.tmp 43], none⟩
       (.step ⟨(some 45), .plain (.bin .sub), [.tmp 39, .tmp 44], none⟩
       (.step ⟨(some 6), .plain .mv, [.tmp 45], none⟩
       .done)))))))))))))))) [31, 32, 33, 34, 35, 36, 37, 38, 39, 40, 41, 42, 43, 44, 45])
     (.seq (.draw (.step ⟨(some 46), .plain .mv, [.tmp 3], none⟩
       (.step ⟨(some 47), .plain .mv, [.tmp 6], none⟩
       (.step ⟨(some 48), .plain (.slice true false 1), [.tmp 46, .tmp 47], none⟩
       (.step ⟨(some 49), .plain (.fieldAddr 1), [.tmp 5], none⟩
       (.step ⟨(some 50), .plain (.load false 1), [.tmp 49], none⟩
       (.step ⟨(some 51), .plain (.copy 5 1), [.tmp 48, .tmp 50], none⟩
       .done)))))) [46, 47, 48, 49, 50, 51])
     (.seq (.ops [⟨(some 52), .plain (.fieldAddr 3), [.tmp 5], none⟩,
       ⟨(some 53), .plain (.load false 1), [.tmp 52], none⟩,
       ⟨(some 54), .plain (.len 1), [.tmp 53], none⟩,
       ⟨(some 55), .plain .mv, [.lit (.int .i64 0)], none⟩] [52])
     (.block 2
      (.loop
       (.seq (.ops [⟨(some 56), .plain (.bin .lss), [.tmp 55, .tmp 54], none⟩] [])
       (.seq (.cond (.tmp 56)
        .skip
        (.exit 2))
       (.seq (.block 3
        (.seq (.ops [⟨(some 57), .plain (.indexAddr 3), [.tmp 53, .tmp 55], none⟩,
          ⟨(some 58), .plain (.load true 3), [.tmp 57], none⟩,
          ⟨(some 8), .plain (.alloc [(.int .i64 0), (.str ⟨#[]⟩), (.int .i64 0)]), [], none⟩,
          ⟨none, .plain (.store 3), [.tmp 8, .tmp 58], none⟩] [57, 58])
        (.seq (.draw (.step ⟨(some 59), .plain .mv, [.tmp 0], none⟩
          (.step ⟨(some 60), .plain .nilCheck, [.tmp 59], none⟩
          (.step ⟨(some 61), .plain (.fieldAddr 6), [.tmp 60], none⟩
          (.step ⟨(some 62), .plain (.load false 1), [.tmp 61], none⟩
          (.step ⟨(some 63), .plain (.fieldAddr 1), [.tmp 8], none⟩
          (.step ⟨(some 64), .plain (.load false 1), [.tmp 63], none⟩
          (.step ⟨(some 65), .plain (.lookup .str (.int .i64 0) false), [.tmp 62, .tmp 64], none⟩
          (.step ⟨(some 66), .plain (.fieldAddr 2), [.tmp 8], none⟩
          (.step ⟨(some 67), .plain (.load false 1), [.tmp 66], none⟩
          (.step ⟨(some 68), .plain (.bin .add), [.tmp 65, .tmp 67], none⟩
          (.step ⟨(some 69), .plain (.convInt .u32), [.tmp 68], none⟩
          (.step ⟨(some 9), .plain .mv, [.tmp 69], none⟩
          .done)))))))))))) [59, 60, 61, 62, 63, 64, 65, 66, 67, 68, 69])
        (.ops [⟨(some 70), .plain .mv, [.tmp 3], none⟩,
          ⟨(some 71), .plain .mv, [.tmp 6], none⟩,
          ⟨(some 72), .plain (.fieldAddr 0), [.tmp 8], none⟩,
          ⟨(some 73), .plain (.load false 1), [.tmp 72], none⟩,
          ⟨(some 74), .plain (.bin .add), [.tmp 71, .tmp 73], none⟩,
          ⟨(some 75), .plain (.slice true false 1), [.tmp 70, .tmp 74], none⟩,
          ⟨(some 76), .plain .mv, [.tmp 9], none⟩,
          ⟨(some 77), .plain (.bin .shr), [.tmp 76, .lit (.int .u64 24)], none⟩,
          ⟨(some 78), .plain (.convInt .u8), [.tmp 77], none⟩,
          ⟨(some 79), .plain .mv, [.tmp 9], none⟩,
          ⟨(some 80), .plain (.bin .shr), [.tmp 79, .lit (.int .u64 16)], none⟩,
          ⟨(some 81), .plain (.convInt .u8), [.tmp 80], none⟩,
          ⟨(some 82), .plain .mv, [.tmp 9], none⟩,
          ⟨(some 83), .plain (.bin .shr), [.tmp 82, .lit (.int .u64 8)], none⟩,
          ⟨(some 84), .plain (.convInt .u8), [.tmp 83], none⟩,
          ⟨(some 85), .plain .mv, [.tmp 9], none⟩,
          ⟨(some 86), .plain (.convInt .u8), [.tmp 85], none⟩,
          ⟨(some 87), .plain (.buildRow 5 1 4 [(.int .u8 0)] [0, 1, 2, 3]), [.tmp 78, .tmp 81, .tmp 84, .tmp 86], none⟩,
          ⟨(some 88), .plain (.copy 5 1), [.tmp 75, .tmp 87], none⟩] [70, 71, 72, 73, 74, 75, 76, 77, 78, 79, 80, 81, 82, 83, 84, 85, 86, 87, 88]))))
       (.ops [⟨(some 89), .plain (.bin .add), [.tmp 55, .lit (.int .i64 1)], none⟩,
         ⟨(some 55), .plain .mv, [.tmp 89], none⟩] [89])))))))))))
    (.ops [⟨(some 90), .plain (.bin .add), [.tmp 26, .lit (.int .i64 1)], none⟩,
      ⟨(some 26), .plain .mv, [.tmp 90], none⟩] [90])))))))
  (.seq (.ops [⟨(some 91), .plain .mv, [.tmp 0], none⟩,
    ⟨(some 92), .plain .mv, [.tmp 3], none⟩,
    ⟨(some 93), .plain .bytesToStr, [.tmp 92], none⟩,
    ⟨(some 94), .plain .nilCheck, [.tmp 91], none⟩,
    ⟨(some 95), .plain (.fieldAddr 0), [.tmp 94], none⟩,
    ⟨(some 96), .plain (.fieldAddr 1), [.tmp 95], none⟩,
    ⟨none, .plain (.store 1), [.tmp 96, .tmp 93], none⟩] [91, 92, 93, 94, 95, 96])
  (.seq (.ops [⟨(some 97), .plain .mv, [.tmp 0], none⟩,
    ⟨(some 98), .plain .nilCheck, [.tmp 97], none⟩,
    ⟨(some 99), .plain (.fieldAddr 0), [.tmp 98], none⟩,
    ⟨(some 100), .plain (.fieldAddr 2), [.tmp 99], none⟩,
    ⟨(some 101), .plain (.load false 1), [.tmp 100], none⟩,
    ⟨(some 102), .call 57, [.tmp 101, .lit (.fn 58 [])], none⟩] [97, 98, 99, 100, 101, 102])
  (.seq (.ops [⟨(some 103), .plain .mv, [.tmp 0], none⟩,
    ⟨(some 104), .plain .nilCheck, [.tmp 103], none⟩,
    ⟨(some 105), .plain (.fieldAddr 0), [.tmp 104], none⟩,
    ⟨(some 106), .plain (.load true 5), [.tmp 105], none⟩,
    ⟨none, .plain (.store 5), [.tmp 2, .tmp 106], none⟩] [103, 104, 105, 106])
  .ret))))))
def cr29 : List Res := [(2, some (true, 5))]
theorem ok29 : FOk Try.prog Lk.imp 29 c29 cr29 Try.f29.ntmps := ⟨Try.f29, _, Try.func29, rfl, by kernel_rfl, by kernel_rfl, by kernel_rfl, rfl⟩

/-- ironbark/link.Link, its front -/
def cx9 : SC :=
  (.seq (.ops [⟨(some 6), .plain (.alloc [(.int .i64 0), (.str ⟨#[]⟩), .nilS, .nilS, .nilS]), [], none⟩,
    ⟨(some 7), .plain (.alloc [(.int .i64 0)]), [], none⟩,
    ⟨(some 8), .plain (.alloc [(.str ⟨#[]⟩)]), [], none⟩] [])
  (.seq (.block 0
   (.seq (.ops [⟨(some 14), .plain .mv, [.tmp 0], none⟩,
     ⟨(some 15), .plain .mv, [.tmp 1], none⟩,
     ⟨(some 16), .call 23, [.tmp 14, .tmp 15], none⟩,
     ⟨(some 17), .plain (.un .not), [.tmp 16], none⟩,
     ⟨(some 13), .plain .mv, [.tmp 17], none⟩] [14, 15, 16, 17])
   (.cond (.tmp 13)
    (.seq (.ops [⟨(some 18), .plain (.build [(.int .i64 0), (.str ⟨#[]⟩), .nilS, .nilS, .nilS] []), [], none⟩,
      ⟨none, .plain (.store 5), [.tmp 6, .tmp 18], none⟩,
      ⟨none, .plain (.store 1), [.tmp 7, .lit (.int .i64 1)], none⟩,
      ⟨none, .plain (.store 1), [.tmp 8, .lit (.str ⟨#[]⟩)], none⟩] [18])
    .ret)
    (.seq (.ops [⟨(some 20), .plain .mv, [.tmp 2], none⟩,
      ⟨(some 21), .call 24, [.tmp 20], none⟩,
      ⟨(some 22), .plain (.un .not), [.tmp 21], none⟩,
      ⟨(some 19), .plain .mv, [.tmp 22], none⟩] [20, 21, 22])
    (.cond (.tmp 19)
     (.seq (.ops [⟨(some 23), .plain (.build [(.int .i64 0), (.str ⟨#[]⟩), .nilS, .nilS, .nilS] []), [], none⟩,
       ⟨none, .plain (.store 5), [.tmp 6, .tmp 23], none⟩,
       ⟨none, .plain (.store 1), [.tmp 7, .lit (.int .i64 7)], none⟩,
       ⟨none, .plain (.store 1), [.tmp 8, .lit (.str ⟨#[]⟩)], none⟩] [23])
     .ret)
     .skip)))))
  .skip))
/-- ironbark/link.Link, behind what it defers -/
def cy9 : SC :=
  (.seq (.ops [⟨(some 25), .plain .mv, [.tmp 2], none⟩,
    ⟨(some 26), .call 26, [.tmp 25, .lit .nilS], none⟩,
    ⟨(some 9), .plain .mv, [.tmp 26], none⟩] [25, 26])
  (.seq (.seq (.ops [⟨(some 27), .plain .mv, [.tmp 0], none⟩,
    ⟨(some 28), .plain (.len 1), [.tmp 27], none⟩,
    ⟨(some 29), .plain .mv, [.lit (.int .i64 0)], none⟩] [])
  (.block 1
   (.loop
    (.seq (.ops [⟨(some 30), .plain (.bin .lss), [.tmp 29, .tmp 28], none⟩] [])
    (.seq (.cond (.tmp 30)
     .skip
     (.exit 1))
    (.seq (.block 2
     (.seq (.ops [⟨(some 31), .plain (.indexAddr 5), [.tmp 27, .tmp 29], none⟩,
       ⟨(some 32), .plain (.load true 5), [.tmp 31], none⟩,
       ⟨(some 11), .plain (.alloc [(.str ⟨#[]⟩), (.str ⟨#[]⟩), .nilS, .nilS, .nilS]), [], none⟩,
       ⟨none, .plain (.store 5), [.tmp 11, .tmp 32], none⟩] [31, 32])
     (.ops [⟨(some 33), .plain .mv, [.tmp 9], none⟩,
       ⟨(some 34), .plain (.load true 5), [.tmp 11], none⟩,
       ⟨(some 35), .call 27, [.tmp 33, .tmp 34, .lit (.bool true)], none⟩] [33, 34, 35])))
    (.ops [⟨(some 36), .plain (.bin .add), [.tmp 29, .lit (.int .i64 1)], none⟩,
      ⟨(some 29), .plain .mv, [.tmp 36], none⟩] [36])))))))
  (.seq (.seq (.ops [⟨(some 37), .plain .mv, [.tmp 9], none⟩,
    ⟨(some 38), .plain .mv, [.tmp 1], none⟩,
    ⟨(some 39), .call 28, [.tmp 37, .tmp 38], none⟩,
    ⟨(some 12), .plain .mv, [.tmp 39], none⟩] [37, 38, 39])
  (.seq (.ops [⟨(some 40), .plain .mv, [.tmp 12], none⟩,
    ⟨(some 41), .plain (.len 1), [.tmp 40], none⟩,
    ⟨(some 42), .plain (.bin .gtr), [.tmp 41, .lit (.int .i64 0)], none⟩] [40, 41])
  (.cond (.tmp 42)
   (.ops [⟨(some 43), .plain .mv, [.tmp 12], none⟩,
     ⟨(some 44), .plain (.indexAddr 1), [.tmp 43, .lit (.int .i64 0)], none⟩,
     ⟨(some 45), .plain (.load false 1), [.tmp 44], none⟩,
     ⟨(some 46), .plain (.build [(.int .i64 0), (.str ⟨#[]⟩)] [(0, 1), (1, 1)]), [.lit (.int .i64 5), .tmp 45], none⟩,
     ⟨(some 47), .plain (.mkIface 58), [.tmp 46], none⟩,
     ⟨none, .panic, [.tmp 47], none⟩] [43, 44, 45, 46, 47])
   .skip)))
  (.seq (.seq (.ops [⟨(some 48), .plain .mv, [.tmp 9], none⟩,
    ⟨(some 49), .plain .nilCheck, [.tmp 48], none⟩,
    ⟨(some 50), .plain (.fieldAddr 8), [.tmp 49], none⟩,
    ⟨(some 51), .plain (.load false 1), [.tmp 50], none⟩,
    ⟨(some 52), .plain (.bin .gtr), [.tmp 51, .lit (.int .i64 65536)], none⟩] [48, 49, 50, 51])
  (.cond (.tmp 52)
   (.ops [⟨(some 53), .plain (.build [(.int .i64 0), (.str ⟨#[]⟩)] [(0, 1), (1, 1)]), [.lit (.int .i64 11), .lit (.str ⟨#[]⟩)], none⟩,
     ⟨(some 54), .plain (.mkIface 58), [.tmp 53], none⟩,
     ⟨none, .panic, [.tmp 54], none⟩] [53, 54])
   .skip))
  (.seq (.ops [⟨(some 55), .plain .mv, [.tmp 9], none⟩,
    ⟨(some 56), .call 29, [.tmp 55], none⟩,
    ⟨none, .plain (.store 5), [.tmp 6, .tmp 56], none⟩,
    ⟨none, .plain (.store 1), [.tmp 7, .lit (.int .i64 0)], none⟩,
    ⟨none, .plain (.store 1), [.tmp 8, .lit (.str ⟨#[]⟩)], none⟩] [55, 56])
  .ret)))))
def cr9 : List Res := [(6, some (true, 5)), (7, some (false, 1)), (8, some (false, 1))]
theorem ok9 : FOkE Try.prog Lk.imp 9 cx9 24 25 [.tmp 6, .tmp 7, .tmp 8] cy9 cr9 Try.f9.ntmps := ⟨Try.f9, _, _, _, _, Try.func9, rfl, by kernel_rfl, rfl, by kernel_rfl, by kernel_rfl, by kernel_rfl, by kernel_rfl, rfl, by decide⟩

/-- ironbark/link.Link$1, behind its recover -/
def c25 : SC :=
  (.block 0
   (.seq (.ops [⟨(some 8), .plain (.eqNil false false), [.tmp 6, .lit (.const .nilIface)], none⟩] [])
   (.cond (.tmp 8)
    (.ops [⟨(some 3), .plain .mv, [.tmp 6], none⟩] [3])
    (.seq (.ops [⟨(some 9), .plain (.typeAssert 58 (.agg [(.int .i64 0), (.str ⟨#[]⟩)])), [.tmp 6], none⟩,
      ⟨(some 10), .plain (.extract 1), [.tmp 9], none⟩,
      ⟨(some 11), .plain (.extract 0), [.tmp 9], none⟩] [9])
    (.cond (.tmp 10)
     (.seq (.ops [⟨(some 4), .plain (.alloc [(.int .i64 0), (.str ⟨#[]⟩)]), [], none⟩,
       ⟨none, .plain (.store 2), [.tmp 4, .tmp 11], none⟩] [])
     (.draw (.step ⟨(some 12), .plain (.build [(.int .i64 0), (.str ⟨#[]⟩), .nilS, .nilS, .nilS] []), [], none⟩
       (.step ⟨(some 13), .plain (.fieldAddr 0), [.tmp 4], none⟩
       (.step ⟨(some 15), .plain (.fieldAddr 1), [.tmp 4], none⟩
       (.or (.step ⟨(some 14), .plain (.load false 1), [.tmp 13], none⟩
       (.or (.step ⟨(some 16), .plain (.load false 1), [.tmp 15], none⟩
       (.step ⟨none, .plain (.store 5), [.tmp 0, .tmp 12], none⟩
       (.step ⟨none, .plain (.store 1), [.tmp 1, .tmp 14], none⟩
       (.step ⟨none, .plain (.store 1), [.tmp 2, .tmp 16], none⟩
       .done))))
       (.step ⟨none, .plain (.store 5), [.tmp 0, .tmp 12], none⟩
       (.or (.step ⟨(some 16), .plain (.load false 1), [.tmp 15], none⟩
       (.step ⟨none, .plain (.store 1), [.tmp 1, .tmp 14], none⟩
       (.step ⟨none, .plain (.store 1), [.tmp 2, .tmp 16], none⟩
       .done)))
       (.step ⟨none, .plain (.store 1), [.tmp 1, .tmp 14], none⟩
       (.step ⟨(some 16), .plain (.load false 1), [.tmp 15], none⟩
       (.step ⟨none, .plain (.store 1), [.tmp 2, .tmp 16], none⟩
       .done)))))))
       (.or (.step ⟨(some 16), .plain (.load false 1), [.tmp 15], none⟩
       (.or (.step ⟨(some 14), .plain (.load false 1), [.tmp 13], none⟩
       (.step ⟨none, .plain (.store 5), [.tmp 0, .tmp 12], none⟩
       (.step ⟨none, .plain (.store 1), [.tmp 1, .tmp 14], none⟩
       (.step ⟨none, .plain (.store 1), [.tmp 2, .tmp 16], none⟩
       .done))))
       (.step ⟨none, .plain (.store 5), [.tmp 0, .tmp 12], none⟩
       (.step ⟨(some 14), .plain (.load false 1), [.tmp 13], none⟩
       (.step ⟨none, .plain (.store 1), [.tmp 1, .tmp 14], none⟩
       (.step ⟨none, .plain (.store 1), [.tmp 2, .tmp 16], none⟩
       .done))))))
       (.step ⟨none, .plain (.store 5), [.tmp 0, .tmp 12], none⟩
       (.step ⟨(some 14), .plain (.load false 1), [.tmp 13], none⟩
       (.or (.step ⟨(some 16), .plain (.load false 1), [.tmp 15], none⟩
       (.step ⟨none, .plain (.store 1), [.tmp 1, .tmp 14], none⟩
       (.step ⟨none, .plain (.store 1), [.tmp 2, .tmp 16], none⟩
       .done)))
       (.step ⟨none, .plain (.store 1), [.tmp 1, .tmp 14], none⟩
       (.step ⟨(some 16), .plain (.load false 1), [.tmp 15], none⟩
       (.step ⟨none, .plain (.store 1), [.tmp 2, .tmp 16], none⟩
       .done))))))))))) [12, 13, 15, 14, 16]))
     (.seq (.ops [⟨(some 5), .plain .mv, [.tmp 6], none⟩] [])
     (.ops [⟨(some 7), .plain .mv, [.tmp 5], none⟩,
       ⟨none, .panic, [.tmp 7], none⟩] [7])))))))
theorem ok25 : FOkR Try.prog Lk.imp 25 6 c25 Try.f25.ntmps := ⟨Try.f25, _, _, Try.func25, rfl, by kernel_rfl, rfl, by kernel_rfl, by kernel_rfl, rfl, by decide⟩

/-- ironbark/link.same -/
def c30 : SC :=
  (.seq (.ops [⟨(some 2), .plain (.box 5), [.tmp 0], none⟩,
    ⟨(some 3), .plain (.box 5), [.tmp 1], none⟩,
    ⟨(some 4), .plain .mv, [.lit (.bool false)], none⟩] [])
  (.seq (.ops [⟨(some 5), .plain (.fieldAddr 0), [.tmp 2], none⟩,
    ⟨(some 6), .plain (.load false 1), [.tmp 5], none⟩,
    ⟨(some 7), .plain (.fieldAddr 0), [.tmp 3], none⟩,
    ⟨(some 8), .plain (.load false 1), [.tmp 7], none⟩,
    ⟨(some 9), .plain (.bin .eql), [.tmp 6, .tmp 8], none⟩,
    ⟨(some 10), .plain .mv, [.tmp 9], none⟩,
    ⟨(some 11), .plain (.fieldAddr 1), [.tmp 2], (some (10, true))⟩,
    ⟨(some 12), .plain (.load false 1), [.tmp 11], (some (10, true))⟩,
    ⟨(some 13), .plain (.fieldAddr 1), [.tmp 3], (some (10, true))⟩,
    ⟨(some 14), .plain (.load false 1), [.tmp 13], (some (10, true))⟩,
    ⟨(some 15), .plain (.bin .eql), [.tmp 12, .tmp 14], (some (10, true))⟩,
    ⟨(some 16), .plain .pick, [.tmp 10, .tmp 15, .lit (.bool false)], none⟩,
    ⟨(some 17), .plain .mv, [.tmp 16], none⟩,
    ⟨(some 18), .plain (.fieldAddr 2), [.tmp 2], (some (17, true))⟩,
    ⟨(some 19), .plain (.load false 1), [.tmp 18], (some (17, true))⟩,
    ⟨(some 20), .plain (.fieldAddr 2), [.tmp 3], (some (17, true))⟩,
    ⟨(some 21), .plain (.load false 1), [.tmp 20], (some (17, true))⟩,
    ⟨(some 22), .call 59, [.tmp 19, .tmp 21], (some (17, true))⟩,
    ⟨(some 23), .plain .pick, [.tmp 17, .tmp 22, .lit (.bool false)], none⟩,
    ⟨(some 24), .plain .mv, [.tmp 23], none⟩,
    ⟨(some 25), .plain (.fieldAddr 3), [.tmp 2], (some (24, true))⟩,
    ⟨(some 26), .plain (.load false 1), [.tmp 25], (some (24, true))⟩,
    ⟨(some 27), .plain (.fieldAddr 3), [.tmp 3], (some (24, true))⟩,
    ⟨(some 28), .plain (.load false 1), [.tmp 27], (some (24, true))⟩,
    ⟨(some 29), .call 60, [.tmp 26, .tmp 28], (some (24, true))⟩,
    ⟨(some 30), .plain .pick, [.tmp 24, .tmp 29, .lit (.bool false)], none⟩,
    ⟨(some 31), .plain .mv, [.tmp 30], none⟩,
    ⟨(some 32), .plain (.fieldAddr 4), [.tmp 2], (some (31, true))⟩,
    ⟨(some 33), .plain (.load false 1), [.tmp 32], (some (31, true))⟩,
    ⟨(some 34), .plain (.fieldAddr 4), [.tmp 3], (some (31, true))⟩,
    ⟨(some 35), .plain (.load false 1), [.tmp 34], (some (31, true))⟩,
    ⟨(some 36), .call 59, [.tmp 33, .tmp 35], (some (31, true))⟩,
    ⟨(some 37), .plain .pick, [.tmp 31, .tmp 36, .lit (.bool false)], none⟩,
    ⟨(some 4), .plain .mv, [.tmp 37], none⟩] [5, 6, 7, 8, 9, 10, 11, 12, 13, 14, 15, 16, 17, 18, 19, 20, 21, 22, 23, 24, 25, 26, 27, 28, 29, 30, 31, 32, 33, 34, 35, 36, 37])
  .ret))
def cr30 : List Res := [(4, none)]
theorem ok30 : FOk Try.prog Lk.imp 30 c30 cr30 Try.f30.ntmps := ⟨Try.f30, _, Try.func30, rfl, by kernel_rfl, by kernel_rfl, by kernel_rfl, rfl⟩

/-- slices.Equal[[]ironbark/api.Def,ironbark/api.Def] -/
def c59 : SC :=
  (.seq (.ops [⟨(some 4), .plain .mv, [.lit (.bool false)], none⟩] [])
  (.seq (.seq (.ops [⟨(some 6), .plain .mv, [.tmp 0], none⟩,
    ⟨(some 7), .plain (.len 1), [.tmp 6], none⟩,
    ⟨(some 8), .plain .mv, [.tmp 1], none⟩,
    ⟨(some 9), .plain (.len 1), [.tmp 8], none⟩,
    ⟨(some 10), .plain (.bin .neq), [.tmp 7, .tmp 9], none⟩] [6, 7, 8, 9])
  (.cond (.tmp 10)
   (.seq (.ops [⟨(some 4), .plain .mv, [.lit (.bool false)], none⟩] [])
   .ret)
   .skip))
  (.seq (.seq (.ops [⟨(some 11), .plain .mv, [.tmp 0], none⟩,
    ⟨(some 12), .plain (.len 1), [.tmp 11], none⟩,
    ⟨(some 13), .plain .mv, [.lit (.int .i64 0)], none⟩] [11])
  (.block 0
   (.loop
    (.seq (.ops [⟨(some 14), .plain (.bin .lss), [.tmp 13, .tmp 12], none⟩] [])
    (.seq (.cond (.tmp 14)
     .skip
     (.exit 0))
    (.seq (.block 1
     (.seq (.ops [⟨(some 15), .plain .mv, [.tmp 13], none⟩,
       ⟨(some 5), .plain .mv, [.tmp 15], none⟩] [15])
     (.seq (.draw (.step ⟨(some 16), .plain .mv, [.tmp 0], none⟩
       (.step ⟨(some 17), .plain .mv, [.tmp 5], none⟩
       (.step ⟨(some 18), .plain (.indexAddr 2), [.tmp 16, .tmp 17], none⟩
       (.step ⟨(some 19), .plain (.load true 2), [.tmp 18], none⟩
       (.step ⟨(some 20), .plain .mv, [.tmp 1], none⟩
       (.step ⟨(some 21), .plain .mv, [.tmp 5], none⟩
       (.step ⟨(some 22), .plain (.indexAddr 2), [.tmp 20, .tmp 21], none⟩
       (.step ⟨(some 23), .plain (.load true 2), [.tmp 22], none⟩
       (.step ⟨(some 24), .plain (.eqAgg true [.str, .int]), [.tmp 19, .tmp 23], none⟩
       .done))))))))) [16, 17, 18, 19, 20, 21, 22, 23])
     (.cond (.tmp 24)
      (.seq (.ops [⟨(some 4), .plain .mv, [.lit (.bool false)], none⟩] [])
      .ret)
      .skip))))
    (.ops [⟨(some 25), .plain (.bin .add), [.tmp 13, .lit (.int .i64 1)], none⟩,
      ⟨(some 13), .plain .mv, [.tmp 25], none⟩] [25])))))))
  (.seq (.ops [⟨(some 4), .plain .mv, [.lit (.bool true)], none⟩] [])
  .ret))))
def cr59 : List Res := [(4, none)]
theorem ok59 : FOk Try.prog Lk.imp 59 c59 cr59 Try.f59.ntmps := ⟨Try.f59, _, Try.func59, rfl, by kernel_rfl, by kernel_rfl, by kernel_rfl, rfl⟩

/-- slices.Equal[[]ironbark/api.Line,ironbark/api.Line] -/
def c60 : SC :=
  (.seq (.ops [⟨(some 4), .plain .mv, [.lit (.bool false)], none⟩] [])
  (.seq (.seq (.ops [⟨(some 6), .plain .mv, [.tmp 0], none⟩,
    ⟨(some 7), .plain (.len 1), [.tmp 6], none⟩,
    ⟨(some 8), .plain .mv, [.tmp 1], none⟩,
    ⟨(some 9), .plain (.len 1), [.tmp 8], none⟩,
    ⟨(some 10), .plain (.bin .neq), [.tmp 7, .tmp 9], none⟩] [6, 7, 8, 9])
  (.cond (.tmp 10)
   (.seq (.ops [⟨(some 4), .plain .mv, [.lit (.bool false)], none⟩] [])
   .ret)
   .skip))
  (.seq (.seq (.ops [⟨(some 11), .plain .mv, [.tmp 0], none⟩,
    ⟨(some 12), .plain (.len 1), [.tmp 11], none⟩,
    ⟨(some 13), .plain .mv, [.lit (.int .i64 0)], none⟩] [11])
  (.block 0
   (.loop
    (.seq (.ops [⟨(some 14), .plain (.bin .lss), [.tmp 13, .tmp 12], none⟩] [])
    (.seq (.cond (.tmp 14)
     .skip
     (.exit 0))
    (.seq (.block 1
     (.seq (.ops [⟨(some 15), .plain .mv, [.tmp 13], none⟩,
       ⟨(some 5), .plain .mv, [.tmp 15], none⟩] [15])
     (.seq (.draw (.step ⟨(some 16), .plain .mv, [.tmp 0], none⟩
       (.step ⟨(some 17), .plain .mv, [.tmp 5], none⟩
       (.step ⟨(some 18), .plain (.indexAddr 2), [.tmp 16, .tmp 17], none⟩
       (.step ⟨(some 19), .plain (.load true 2), [.tmp 18], none⟩
       (.step ⟨(some 20), .plain .mv, [.tmp 1], none⟩
       (.step ⟨(some 21), .plain .mv, [.tmp 5], none⟩
       (.step ⟨(some 22), .plain (.indexAddr 2), [.tmp 20, .tmp 21], none⟩
       (.step ⟨(some 23), .plain (.load true 2), [.tmp 22], none⟩
       (.step ⟨(some 24), .plain (.eqAgg true [.int, .int]), [.tmp 19, .tmp 23], none⟩
       .done))))))))) [16, 17, 18, 19, 20, 21, 22, 23])
     (.cond (.tmp 24)
      (.seq (.ops [⟨(some 4), .plain .mv, [.lit (.bool false)], none⟩] [])
      .ret)
      .skip))))
    (.ops [⟨(some 25), .plain (.bin .add), [.tmp 13, .lit (.int .i64 1)], none⟩,
      ⟨(some 13), .plain .mv, [.tmp 25], none⟩] [25])))))))
  (.seq (.ops [⟨(some 4), .plain .mv, [.lit (.bool true)], none⟩] [])
  .ret))))
def cr60 : List Res := [(4, none)]
theorem ok60 : FOk Try.prog Lk.imp 60 c60 cr60 Try.f60.ntmps := ⟨Try.f60, _, Try.func60, rfl, by kernel_rfl, by kernel_rfl, by kernel_rfl, rfl⟩

/-- ironbark/link.Move -/
def c12 : SC :=
  (.seq (.ops [⟨(some 4), .plain (.box 5), [.tmp 0], none⟩,
    ⟨(some 8), .plain (.alloc [(.int .i64 0), (.str ⟨#[]⟩), .nilS, .nilS, .nilS]), [], none⟩,
    ⟨(some 9), .plain .mv, [.lit (.int .i64 0)], none⟩] [])
  (.seq (.ops [⟨(some 16), .plain .mv, [.tmp 1], none⟩,
    ⟨(some 17), .plain .mv, [.tmp 2], none⟩,
    ⟨(some 18), .plain (.fieldAddr 0), [.tmp 4], none⟩,
    ⟨(some 19), .plain (.load false 1), [.tmp 18], none⟩,
    ⟨(some 20), .call 9, [.tmp 16, .tmp 17, .tmp 19], none⟩,
    ⟨(some 15), .plain .mv, [.tmp 20], none⟩,
    ⟨(some 21), .plain (.extract 0), [.tmp 15], none⟩,
    ⟨(some 22), .plain (.extract 1), [.tmp 15], none⟩,
    ⟨(some 23), .plain (.extract 2), [.tmp 15], none⟩,
    ⟨(some 10), .plain (.alloc [(.int .i64 0), (.str ⟨#[]⟩), .nilS, .nilS, .nilS]), [], none⟩,
    ⟨none, .plain (.store 5), [.tmp 10, .tmp 21], none⟩,
    ⟨(some 11), .plain .mv, [.tmp 22], none⟩,
    ⟨(some 12), .plain .mv, [.tmp 23], none⟩] [16, 17, 18, 19, 20, 15, 21, 22, 23, 12])
  (.seq (.seq (.ops [⟨(some 24), .plain .mv, [.tmp 11], none⟩,
    ⟨(some 25), .plain (.bin .neq), [.tmp 24, .lit (.int .i64 0)], none⟩,
    ⟨(some 26), .plain .mv, [.tmp 25], none⟩,
    ⟨(some 27), .plain (.load true 5), [.tmp 10], (some (26, false))⟩,
    ⟨(some 28), .plain (.load true 5), [.tmp 4], (some (26, false))⟩,
    ⟨(some 29), .call 30, [.tmp 27, .tmp 28], (some (26, false))⟩,
    ⟨(some 30), .plain (.un .not), [.tmp 29], (some (26, false))⟩,
    ⟨(some 31), .plain .pick, [.tmp 26, .lit (.bool true), .tmp 30], none⟩] [24, 25, 26, 27, 28, 29, 30])
  (.cond (.tmp 31)
   (.seq (.ops [⟨(some 32), .plain (.build [(.int .i64 0), (.str ⟨#[]⟩), .nilS, .nilS, .nilS] []), [], none⟩,
     ⟨none, .plain (.store 5), [.tmp 8, .tmp 32], none⟩,
     ⟨(some 9), .plain .mv, [.lit (.int .i64 1)], none⟩] [32])
   .ret)
   .skip))
  (.seq (.ops [⟨(some 34), .plain .mv, [.tmp 1], none⟩,
    ⟨(some 35), .plain .mv, [.tmp 2], none⟩,
    ⟨(some 36), .plain .mv, [.tmp 3], none⟩,
    ⟨(some 37), .call 9, [.tmp 34, .tmp 35, .tmp 36], none⟩,
    ⟨(some 33), .plain .mv, [.tmp 37], none⟩,
    ⟨(some 38), .plain (.extract 0), [.tmp 33], none⟩,
    ⟨(some 39), .plain (.extract 1), [.tmp 33], none⟩,
    ⟨(some 40), .plain (.extract 2), [.tmp 33], none⟩,
    ⟨(some 13), .plain (.alloc [(.int .i64 0), (.str ⟨#[]⟩), .nilS, .nilS, .nilS]), [], none⟩,
    ⟨none, .plain (.store 5), [.tmp 13, .tmp 38], none⟩,
    ⟨(some 11), .plain .mv, [.tmp 39], none⟩,
    ⟨(some 14), .plain .mv, [.tmp 40], none⟩] [34, 35, 36, 37, 33, 38, 39, 40, 14])
  (.seq (.ops [⟨(some 41), .plain (.load true 5), [.tmp 13], none⟩,
    ⟨(some 42), .plain .mv, [.tmp 11], none⟩,
    ⟨none, .plain (.store 5), [.tmp 8, .tmp 41], none⟩,
    ⟨(some 9), .plain .mv, [.tmp 42], none⟩] [41, 42])
  .ret)))))
def cr12 : List Res := [(8, some (true, 5)), (9, none)]
theorem ok12 : FOk Try.prog Lk.imp 12 c12 cr12 Try.f12.ntmps := ⟨Try.f12, _, Try.func12, rfl, by kernel_rfl, by kernel_rfl, by kernel_rfl, rfl⟩

end Go.Pm

/- LkS9: code, resolved. Written by gen.py out of what ShowSC.lean printed. -/
namespace Go.Pm
open Go Go.Proofs

/-- ironbark/ironbarklaw34.large -/
def c8 : SC :=
  (.seq (.ops [⟨(some 4), .plain .mv, [.lit (.bool false)], none⟩] [])
  (.seq (.ops [⟨(some 5), .plain .mv, [.lit (.int .i64 0)], none⟩] [])
  (.seq (.ops [⟨(some 10), .plain .mv, [.tmp 0], none⟩,
    ⟨(some 11), .plain (.buildRow 22 1 1 [.nilS] [0]), [.tmp 10], none⟩,
    ⟨(some 12), .plain .mv, [.tmp 1], none⟩,
    ⟨(some 13), .plain (.append 22 1 24), [.tmp 11, .tmp 12], none⟩,
    ⟨(some 6), .plain .mv, [.tmp 13], none⟩] [10, 11, 12, 13])
  (.seq (.seq (.ops [⟨(some 14), .plain .mv, [.tmp 6], none⟩,
    ⟨(some 15), .plain (.len 1), [.tmp 14], none⟩,
    ⟨(some 16), .plain (.bin .gtr), [.tmp 15, .lit (.int .i64 6)], none⟩] [14, 15])
  (.cond (.tmp 16)
   (.seq (.ops [⟨(some 4), .plain .mv, [.lit (.bool true)], none⟩] [])
   .ret)
   .skip))
  (.seq (.seq (.ops [⟨(some 7), .plain .mv, [.lit (.int .i64 0)], none⟩] [])
  (.block 0
   (.loop
    (.seq (.seq (.ops [⟨(some 17), .plain .mv, [.tmp 7], none⟩,
      ⟨(some 18), .plain .mv, [.tmp 6], none⟩,
      ⟨(some 19), .plain (.len 1), [.tmp 18], none⟩,
      ⟨(some 20), .plain (.bin .lss), [.tmp 17, .tmp 19], none⟩] [17, 18, 19])
    (.cond (.tmp 20)
     .skip
     (.exit 0)))
    (.seq (.block 1
     (.seq (.ops [⟨(some 8), .plain .mv, [.lit (.int .i64 0)], none⟩] [])
     (.block 2
      (.loop
       (.seq (.seq (.ops [⟨(some 23), .plain .mv, [.tmp 8], none⟩,
         ⟨(some 24), .plain .mv, [.tmp 6], none⟩,
         ⟨(some 25), .plain .mv, [.tmp 7], none⟩,
         ⟨(some 26), .plain (.indexAddr 1), [.tmp 24, .tmp 25], none⟩,
         ⟨(some 27), .plain (.load false 1), [.tmp 26], none⟩,
         ⟨(some 28), .plain (.len 1), [.tmp 27], none⟩,
         ⟨(some 29), .plain (.bin .lss), [.tmp 23, .tmp 28], none⟩] [23, 24, 25, 26, 27, 28])
       (.cond (.tmp 29)
        .skip
        (.exit 2)))
       (.seq (.block 3
        (.seq (.ops [⟨(some 32), .plain .mv, [.tmp 6], none⟩,
          ⟨(some 33), .plain .mv, [.tmp 7], none⟩,
          ⟨(some 34), .plain (.indexAddr 1), [.tmp 32, .tmp 33], none⟩,
          ⟨(some 35), .plain (.load false 1), [.tmp 34], none⟩,
          ⟨(some 36), .plain .mv, [.tmp 8], none⟩,
          ⟨(some 37), .plain (.indexAddr 5), [.tmp 35, .tmp 36], none⟩,
          ⟨(some 38), .plain (.load true 5), [.tmp 37], none⟩,
          ⟨(some 9), .plain (.alloc [(.str ⟨#[]⟩), (.str ⟨#[]⟩), .nilS, .nilS, .nilS]), [], none⟩,
          ⟨none, .plain (.store 5), [.tmp 9, .tmp 38], none⟩] [32, 33, 34, 35, 36, 37, 38])
        (.seq (.ops [⟨(some 39), .plain .mv, [.tmp 5], none⟩,
          ⟨(some 40), .plain (.fieldAddr 0), [.tmp 9], none⟩,
          ⟨(some 41), .plain (.load false 1), [.tmp 40], none⟩,
          ⟨(some 42), .plain (.len 0), [.tmp 41], none⟩,
          ⟨(some 43), .plain (.bin .add), [.lit (.int .i64 20), .tmp 42], none⟩,
          ⟨(some 44), .plain (.fieldAddr 2), [.tmp 9], none⟩,
          ⟨(some 45), .plain (.load false 1), [.tmp 44], none⟩,
          ⟨(some 46), .plain (.len 1), [.tmp 45], none⟩,
          ⟨(some 47), .plain (.fieldAddr 3), [.tmp 9], none⟩,
          ⟨(some 48), .plain (.load false 1), [.tmp 47], none⟩,
          ⟨(some 49), .plain (.len 1), [.tmp 48], none⟩,
          ⟨(some 50), .plain (.bin .add), [.tmp 46, .tmp 49], none⟩,
          ⟨(some 51), .plain (.fieldAddr 4), [.tmp 9], none⟩,
          ⟨(some 52), .plain (.load false 1), [.tmp 51], none⟩,
          ⟨(some 53), .plain (.len 1), [.tmp 52], none⟩,
          ⟨(some 54), .plain (.bin .add), [.tmp 50, .tmp 53], none⟩,
          ⟨(some 55), .plain (.bin .mul), [.lit (.int .i64 10), .tmp 54], none⟩,
          ⟨(some 56), .plain (.bin .add), [.tmp 43, .tmp 55], none⟩,
          ⟨(some 57), .plain (.bin .add), [.tmp 39, .tmp 56], none⟩,
          ⟨(some 5), .plain .mv, [.tmp 57], none⟩] [39, 40, 41, 42, 43, 44, 45, 46, 47, 48, 49, 50, 51, 52, 53, 54, 55, 56, 57])
        (.seq (.ops [⟨(some 58), .plain (.fieldAddr 1), [.tmp 9], none⟩,
          ⟨(some 59), .plain (.load false 1), [.tmp 58], none⟩,
          ⟨(some 60), .plain (.len 0), [.tmp 59], none⟩,
          ⟨(some 61), .plain (.bin .lss), [.tmp 60, .lit (.int .i64 19900)], none⟩] [58, 59, 60])
        (.cond (.tmp 61)
         (.ops [⟨(some 62), .plain .mv, [.tmp 5], none⟩,
           ⟨(some 63), .plain (.fieldAddr 1), [.tmp 9], none⟩,
           ⟨(some 64), .plain (.load false 1), [.tmp 63], none⟩,
           ⟨(some 65), .plain (.len 0), [.tmp 64], none⟩,
           ⟨(some 66), .plain (.bin .add), [.tmp 62, .tmp 65], none⟩,
           ⟨(some 5), .plain .mv, [.tmp 66], none⟩] [62, 63, 64, 65, 66])
         .skip)))))
       (.ops [⟨(some 30), .plain .mv, [.tmp 8], none⟩,
         ⟨(some 31), .plain (.bin .add), [.tmp 30, .lit (.int .i64 1)], none⟩,
         ⟨(some 8), .plain .mv, [.tmp 31], none⟩] [30, 31])))))))
    (.ops [⟨(some 21), .plain .mv, [.tmp 7], none⟩,
      ⟨(some 22), .plain (.bin .add), [.tmp 21, .lit (.int .i64 1)], none⟩,
      ⟨(some 7), .plain .mv, [.tmp 22], none⟩] [21, 22]))))))
  (.seq (.ops [⟨(some 67), .plain .mv, [.tmp 5], none⟩,
    ⟨(some 68), .plain (.bin .gtr), [.tmp 67, .lit (.int .i64 6000)], none⟩,
    ⟨(some 4), .plain .mv, [.tmp 68], none⟩] [67, 68])
  .ret))))))
def cr8 : List Res := [(4, none)]
theorem ok8 : FOk Try.prog Lk.imp 8 c8 cr8 Try.f8.ntmps := ⟨Try.f8, _, Try.func8, rfl, by kernel_rfl, by kernel_rfl, by kernel_rfl, rfl⟩

/-- ironbark/ironbarkref34.Given -/
def c10 : SC :=
  (.seq (.ops [⟨(some 2), .plain .mv, [.lit .nilS], none⟩] [])
  (.seq (.ops [⟨(some 4), .plain .mv, [.tmp 0], none⟩,
    ⟨(some 5), .plain (.append 51 5 104), [.lit .nilS, .tmp 4], none⟩,
    ⟨(some 0), .plain .mv, [.tmp 5], none⟩] [4, 5])
  (.seq (.seq (.ops [⟨(some 3), .plain .mv, [.lit (.int .i64 0)], none⟩] [])
  (.block 0
   (.loop
    (.seq (.seq (.ops [⟨(some 6), .plain .mv, [.tmp 3], none⟩,
      ⟨(some 7), .plain .mv, [.tmp 0], none⟩,
      ⟨(some 8), .plain (.len 1), [.tmp 7], none⟩,
      ⟨(some 9), .plain (.bin .lss), [.tmp 6, .tmp 8], none⟩] [6, 7, 8])
    (.cond (.tmp 9)
     .skip
     (.exit 0)))
    (.seq (.block 1
     (.seq (.ops [⟨(some 12), .plain .mv, [.tmp 0], none⟩,
       ⟨(some 13), .plain .mv, [.tmp 3], none⟩,
       ⟨(some 14), .plain .mv, [.tmp 0], none⟩,
       ⟨(some 15), .plain .mv, [.tmp 3], none⟩,
       ⟨(some 16), .plain (.indexAddr 5), [.tmp 14, .tmp 15], none⟩,
       ⟨(some 17), .plain (.fieldAddr 2), [.tmp 16], none⟩,
       ⟨(some 18), .plain (.load false 1), [.tmp 17], none⟩,
       ⟨(some 19), .plain (.append 40 2 24), [.lit .nilS, .tmp 18], none⟩,
       ⟨(some 20), .plain (.indexAddr 5), [.tmp 12, .tmp 13], none⟩,
       ⟨(some 21), .plain (.fieldAddr 2), [.tmp 20], none⟩,
       ⟨none, .plain (.store 1), [.tmp 21, .tmp 19], none⟩] [12, 13, 14, 15, 16, 17, 18, 19, 20, 21])
     (.seq (.ops [⟨(some 22), .plain .mv, [.tmp 0], none⟩,
       ⟨(some 23), .plain .mv, [.tmp 3], none⟩,
       ⟨(some 24), .plain .mv, [.tmp 0], none⟩,
       ⟨(some 25), .plain .mv, [.tmp 3], none⟩,
       ⟨(some 26), .plain (.indexAddr 5), [.tmp 24, .tmp 25], none⟩,
       ⟨(some 27), .plain (.fieldAddr 3), [.tmp 26], none⟩,
       ⟨(some 28), .plain (.load false 1), [.tmp 27], none⟩,
       ⟨(some 29), .plain (.append 107 3 32), [.lit .nilS, .tmp 28], none⟩,
       ⟨(some 30), .plain (.indexAddr 5), [.tmp 22, .tmp 23], none⟩,
       ⟨(some 31), .plain (.fieldAddr 3), [.tmp 30], none⟩,
       ⟨none, .plain (.store 1), [.tmp 31, .tmp 29], none⟩] [22, 23, 24, 25, 26, 27, 28, 29, 30, 31])
     (.ops [⟨(some 32), .plain .mv, [.tmp 0], none⟩,
       ⟨(some 33), .plain .mv, [.tmp 3], none⟩,
       ⟨(some 34), .plain .mv, [.tmp 0], none⟩,
       ⟨(some 35), .plain .mv, [.tmp 3], none⟩,
       ⟨(some 36), .plain (.indexAddr 5), [.tmp 34, .tmp 35], none⟩,
       ⟨(some 37), .plain (.fieldAddr 4), [.tmp 36], none⟩,
       ⟨(some 38), .plain (.load false 1), [.tmp 37], none⟩,
       ⟨(some 39), .plain (.append 102 2 16), [.lit .nilS, .tmp 38], none⟩,
       ⟨(some 40), .plain (.indexAddr 5), [.tmp 32, .tmp 33], none⟩,
       ⟨(some 41), .plain (.fieldAddr 4), [.tmp 40], none⟩,
       ⟨none, .plain (.store 1), [.tmp 41, .tmp 39], none⟩] [32, 33, 34, 35, 36, 37, 38, 39, 40, 41]))))
    (.ops [⟨(some 10), .plain .mv, [.tmp 3], none⟩,
      ⟨(some 11), .plain (.bin .add), [.tmp 10, .lit (.int .i64 1)], none⟩,
      ⟨(some 3), .plain .mv, [.tmp 11], none⟩] [10, 11]))))))
  (.seq (.ops [⟨(some 42), .plain .mv, [.tmp 0], none⟩,
    ⟨(some 2), .plain .mv, [.tmp 42], none⟩] [42])
  .ret))))
def cr10 : List Res := [(2, none)]
theorem ok10 : FOk Try.prog Lk.imp 10 c10 cr10 Try.f10.ntmps := ⟨Try.f10, _, Try.func10, rfl, by kernel_rfl, by kernel_rfl, by kernel_rfl, rfl⟩

/-- ironbark/ironbarkref34.GivenLists -/
def c11 : SC :=
  (.seq (.ops [⟨(some 2), .plain .mv, [.lit .nilS], none⟩] [])
  (.seq (.ops [⟨(some 4), .plain .mv, [.tmp 0], none⟩,
    ⟨(some 5), .plain (.append 22 1 24), [.lit .nilS, .tmp 4], none⟩,
    ⟨(some 0), .plain .mv, [.tmp 5], none⟩] [4, 5])
  (.seq (.seq (.ops [⟨(some 3), .plain .mv, [.lit (.int .i64 0)], none⟩] [])
  (.block 0
   (.loop
    (.seq (.seq (.ops [⟨(some 6), .plain .mv, [.tmp 3], none⟩,
      ⟨(some 7), .plain .mv, [.tmp 0], none⟩,
      ⟨(some 8), .plain (.len 1), [.tmp 7], none⟩,
      ⟨(some 9), .plain (.bin .lss), [.tmp 6, .tmp 8], none⟩] [6, 7, 8])
    (.cond (.tmp 9)
     .skip
     (.exit 0)))
    (.seq (.block 1
     (.ops [⟨(some 12), .plain .mv, [.tmp 0], none⟩,
       ⟨(some 13), .plain .mv, [.tmp 3], none⟩,
       ⟨(some 14), .plain .mv, [.tmp 0], none⟩,
       ⟨(some 15), .plain .mv, [.tmp 3], none⟩,
       ⟨(some 16), .plain (.indexAddr 1), [.tmp 14, .tmp 15], none⟩,
       ⟨(some 17), .plain (.load false 1), [.tmp 16], none⟩,
       ⟨(some 18), .call 10, [.tmp 17], none⟩,
       ⟨(some 19), .plain (.indexAddr 1), [.tmp 12, .tmp 13], none⟩,
       ⟨none, .plain (.store 1), [.tmp 19, .tmp 18], none⟩] [12, 13, 14, 15, 16, 17, 18, 19]))
    (.ops [⟨(some 10), .plain .mv, [.tmp 3], none⟩,
      ⟨(some 11), .plain (.bin .add), [.tmp 10, .lit (.int .i64 1)], none⟩,
      ⟨(some 3), .plain .mv, [.tmp 11], none⟩] [10, 11]))))))
  (.seq (.ops [⟨(some 20), .plain .mv, [.tmp 0], none⟩,
    ⟨(some 2), .plain .mv, [.tmp 20], none⟩] [20])
  .ret))))
def cr11 : List Res := [(2, none)]
theorem ok11 : FOk Try.prog Lk.imp 11 c11 cr11 Try.f11.ntmps := ⟨Try.f11, _, Try.func11, rfl, by kernel_rfl, by kernel_rfl, by kernel_rfl, rfl⟩

/-- ironbark/ironbarkref34.GivenImage -/
def c13 : SC :=
  (.seq (.ops [⟨(some 1), .plain (.box 5), [.tmp 0], none⟩,
    ⟨(some 2), .plain (.alloc [(.int .i64 0), (.str ⟨#[]⟩), .nilS, .nilS, .nilS]), [], none⟩] [])
  (.seq (.ops [⟨(some 3), .plain (.fieldAddr 2), [.tmp 1], none⟩,
    ⟨(some 4), .plain (.load false 1), [.tmp 3], none⟩,
    ⟨(some 5), .plain (.append 40 2 24), [.lit .nilS, .tmp 4], none⟩,
    ⟨(some 6), .plain (.fieldAddr 2), [.tmp 1], none⟩,
    ⟨none, .plain (.store 1), [.tmp 6, .tmp 5], none⟩] [3, 4, 5, 6])
  (.seq (.ops [⟨(some 7), .plain (.fieldAddr 3), [.tmp 1], none⟩,
    ⟨(some 8), .plain (.load false 1), [.tmp 7], none⟩,
    ⟨(some 9), .plain (.append 102 2 16), [.lit .nilS, .tmp 8], none⟩,
    ⟨(some 10), .plain (.fieldAddr 3), [.tmp 1], none⟩,
    ⟨none, .plain (.store 1), [.tmp 10, .tmp 9], none⟩] [7, 8, 9, 10])
  (.seq (.ops [⟨(some 11), .plain (.fieldAddr 4), [.tmp 1], none⟩,
    ⟨(some 12), .plain (.load false 1), [.tmp 11], none⟩,
    ⟨(some 13), .plain (.append 40 2 24), [.lit .nilS, .tmp 12], none⟩,
    ⟨(some 14), .plain (.fieldAddr 4), [.tmp 1], none⟩,
    ⟨none, .plain (.store 1), [.tmp 14, .tmp 13], none⟩] [11, 12, 13, 14])
  (.seq (.ops [⟨(some 15), .plain (.load true 5), [.tmp 1], none⟩,
    ⟨none, .plain (.store 5), [.tmp 2, .tmp 15], none⟩] [15])
  .ret)))))
def cr13 : List Res := [(2, some (true, 5))]
theorem ok13 : FOk Try.prog Lk.imp 13 c13 cr13 Try.f13.ntmps := ⟨Try.f13, _, Try.func13, rfl, by kernel_rfl, by kernel_rfl, by kernel_rfl, rfl⟩

/-- ironbark/ironbarkref34.Move -/
def c14 : SC :=
  (.seq (.ops [⟨(some 4), .plain (.box 5), [.tmp 0], none⟩,
    ⟨(some 8), .plain (.alloc [(.int .i64 0), (.str ⟨#[]⟩), .nilS, .nilS, .nilS]), [], none⟩,
    ⟨(some 9), .plain .mv, [.lit (.int .i64 0)], none⟩] [])
  (.seq (.seq (.ops [⟨(some 16), .plain (.load true 5), [.tmp 4], none⟩,
    ⟨(some 17), .call 31, [.tmp 16], none⟩,
    ⟨(some 18), .plain (.un .not), [.tmp 17], none⟩,
    ⟨(some 19), .plain .mv, [.tmp 18], none⟩,
    ⟨(some 20), .plain .mv, [.tmp 1], (some (19, false))⟩,
    ⟨(some 21), .plain .mv, [.tmp 2], (some (19, false))⟩,
    ⟨(some 22), .call 32, [.tmp 20, .tmp 21], (some (19, false))⟩,
    ⟨(some 23), .plain (.un .not), [.tmp 22], (some (19, false))⟩,
    ⟨(some 24), .plain .pick, [.tmp 19, .lit (.bool true), .tmp 23], none⟩] [16, 17, 18, 19, 20, 21, 22, 23])
  (.cond (.tmp 24)
   (.seq (.ops [⟨(some 25), .plain (.build [(.int .i64 0), (.str ⟨#[]⟩), .nilS, .nilS, .nilS] []), [], none⟩,
     ⟨none, .plain (.store 5), [.tmp 8, .tmp 25], none⟩,
     ⟨(some 9), .plain .mv, [.lit (.int .i64 1)], none⟩] [25])
   .ret)
   .skip))
  (.seq (.seq (.ops [⟨(some 27), .plain .mv, [.tmp 1], none⟩,
    ⟨(some 28), .plain .mv, [.tmp 2], none⟩,
    ⟨(some 29), .plain (.fieldAddr 0), [.tmp 4], none⟩,
    ⟨(some 30), .plain (.load false 1), [.tmp 29], none⟩,
    ⟨(some 31), .call 17, [.tmp 27, .tmp 28, .tmp 30], none⟩,
    ⟨(some 26), .plain .mv, [.tmp 31], none⟩,
    ⟨(some 32), .plain (.extract 0), [.tmp 26], none⟩,
    ⟨(some 33), .plain (.extract 1), [.tmp 26], none⟩,
    ⟨(some 34), .plain (.extract 2), [.tmp 26], none⟩,
    ⟨(some 10), .plain (.alloc [(.int .i64 0), (.str ⟨#[]⟩), .nilS, .nilS, .nilS]), [], none⟩,
    ⟨none, .plain (.store 5), [.tmp 10, .tmp 32], none⟩,
    ⟨(some 11), .plain .mv, [.tmp 33], none⟩,
    ⟨(some 12), .plain .mv, [.tmp 34], none⟩] [27, 28, 29, 30, 31, 26, 32, 33, 34, 12])
  (.seq (.ops [⟨(some 35), .plain .mv, [.tmp 11], none⟩,
    ⟨(some 36), .plain (.bin .neq), [.tmp 35, .lit (.int .i64 0)], none⟩,
    ⟨(some 37), .plain .mv, [.tmp 36], none⟩,
    ⟨(some 38), .plain (.load true 5), [.tmp 10], (some (37, false))⟩,
    ⟨(some 39), .plain (.load true 5), [.tmp 4], (some (37, false))⟩,
    ⟨(some 40), .call 15, [.tmp 38, .tmp 39], (some (37, false))⟩,
    ⟨(some 41), .plain (.un .not), [.tmp 40], (some (37, false))⟩,
    ⟨(some 42), .plain .pick, [.tmp 37, .lit (.bool true), .tmp 41], none⟩] [35, 36, 37, 38, 39, 40, 41])
  (.cond (.tmp 42)
   (.seq (.ops [⟨(some 43), .plain (.build [(.int .i64 0), (.str ⟨#[]⟩), .nilS, .nilS, .nilS] []), [], none⟩,
     ⟨none, .plain (.store 5), [.tmp 8, .tmp 43], none⟩,
     ⟨(some 9), .plain .mv, [.lit (.int .i64 1)], none⟩] [43])
   .ret)
   .skip)))
  (.seq (.ops [⟨(some 45), .plain .mv, [.tmp 1], none⟩,
    ⟨(some 46), .plain .mv, [.tmp 2], none⟩,
    ⟨(some 47), .plain .mv, [.tmp 3], none⟩,
    ⟨(some 48), .call 17, [.tmp 45, .tmp 46, .tmp 47], none⟩,
    ⟨(some 44), .plain .mv, [.tmp 48], none⟩,
    ⟨(some 49), .plain (.extract 0), [.tmp 44], none⟩,
    ⟨(some 50), .plain (.extract 1), [.tmp 44], none⟩,
    ⟨(some 51), .plain (.extract 2), [.tmp 44], none⟩,
    ⟨(some 13), .plain (.alloc [(.int .i64 0), (.str ⟨#[]⟩), .nilS, .nilS, .nilS]), [], none⟩,
    ⟨none, .plain (.store 5), [.tmp 13, .tmp 49], none⟩,
    ⟨(some 14), .plain .mv, [.tmp 50], none⟩,
    ⟨(some 15), .plain .mv, [.tmp 51], none⟩] [45, 46, 47, 48, 44, 49, 50, 51, 15])
  (.seq (.ops [⟨(some 52), .plain (.load true 5), [.tmp 13], none⟩,
    ⟨(some 53), .plain .mv, [.tmp 14], none⟩,
    ⟨none, .plain (.store 5), [.tmp 8, .tmp 52], none⟩,
    ⟨(some 9), .plain .mv, [.tmp 53], none⟩] [52, 53])
  .ret)))))
def cr14 : List Res := [(8, some (true, 5)), (9, none)]
theorem ok14 : FOk Try.prog Lk.imp 14 c14 cr14 Try.f14.ntmps := ⟨Try.f14, _, Try.func14, rfl, by kernel_rfl, by kernel_rfl, by kernel_rfl, rfl⟩

/-- ironbark/ironbarkref34.Link -/
def c17 : SC :=
  (.seq (.ops [⟨(some 6), .plain (.alloc [(.int .i64 0), (.str ⟨#[]⟩), .nilS, .nilS, .nilS]), [], none⟩,
    ⟨(some 7), .plain .mv, [.lit (.int .i64 0)], none⟩,
    ⟨(some 8), .plain .mv, [.lit (.str ⟨#[]⟩)], none⟩] [])
  (.seq (.seq (.ops [⟨(some 13), .plain .mv, [.tmp 0], none⟩,
    ⟨(some 14), .plain .mv, [.tmp 1], none⟩,
    ⟨(some 15), .call 32, [.tmp 13, .tmp 14], none⟩,
    ⟨(some 16), .plain (.un .not), [.tmp 15], none⟩] [13, 14, 15])
  (.cond (.tmp 16)
   (.seq (.ops [⟨(some 17), .plain (.build [(.int .i64 0), (.str ⟨#[]⟩), .nilS, .nilS, .nilS] []), [], none⟩,
     ⟨none, .plain (.store 5), [.tmp 6, .tmp 17], none⟩,
     ⟨(some 7), .plain .mv, [.lit (.int .i64 1)], none⟩,
     ⟨(some 8), .plain .mv, [.lit (.str ⟨#[]⟩)], none⟩] [17])
   .ret)
   .skip))
  (.seq (.seq (.ops [⟨(some 18), .plain .mv, [.tmp 2], none⟩,
    ⟨(some 19), .call 35, [.tmp 18], none⟩,
    ⟨(some 20), .plain (.un .not), [.tmp 19], none⟩] [18, 19])
  (.cond (.tmp 20)
   (.seq (.ops [⟨(some 21), .plain (.build [(.int .i64 0), (.str ⟨#[]⟩), .nilS, .nilS, .nilS] []), [], none⟩,
     ⟨none, .plain (.store 5), [.tmp 6, .tmp 21], none⟩,
     ⟨(some 7), .plain .mv, [.lit (.int .i64 7)], none⟩,
     ⟨(some 8), .plain .mv, [.lit (.str ⟨#[]⟩)], none⟩] [21])
   .ret)
   .skip))
  (.seq (.seq (.ops [⟨(some 22), .plain .mv, [.tmp 0], none⟩,
    ⟨(some 23), .call 36, [.tmp 22], none⟩,
    ⟨(some 9), .plain .mv, [.tmp 23], none⟩] [22, 23])
  (.seq (.ops [⟨(some 24), .plain .mv, [.tmp 9], none⟩,
    ⟨(some 25), .plain (.bin .neq), [.tmp 24, .lit (.str ⟨#[]⟩)], none⟩] [24])
  (.cond (.tmp 25)
   (.seq (.ops [⟨(some 26), .plain (.build [(.int .i64 0), (.str ⟨#[]⟩), .nilS, .nilS, .nilS] []), [], none⟩,
     ⟨(some 27), .plain .mv, [.tmp 9], none⟩,
     ⟨none, .plain (.store 5), [.tmp 6, .tmp 26], none⟩,
     ⟨(some 7), .plain .mv, [.lit (.int .i64 6)], none⟩,
     ⟨(some 8), .plain .mv, [.tmp 27], none⟩] [26, 27])
   .ret)
   .skip)))
  (.seq (.ops [⟨(some 29), .plain .mv, [.tmp 0], none⟩,
    ⟨(some 30), .plain .mv, [.tmp 1], none⟩,
    ⟨(some 31), .call 37, [.tmp 29, .tmp 30, .lit .nilS], none⟩,
    ⟨(some 28), .plain .mv, [.tmp 31], none⟩,
    ⟨(some 32), .plain (.extract 0), [.tmp 28], none⟩,
    ⟨(some 33), .plain (.extract 1), [.tmp 28], none⟩,
    ⟨(some 10), .plain .mv, [.tmp 32], none⟩,
    ⟨(some 11), .plain .mv, [.tmp 33], none⟩] [29, 30, 31, 28, 32, 33])
  (.seq (.seq (.ops [⟨(some 34), .plain .mv, [.tmp 11], none⟩,
    ⟨(some 35), .plain (.len 1), [.tmp 34], none⟩,
    ⟨(some 36), .plain (.bin .gtr), [.tmp 35, .lit (.int .i64 0)], none⟩] [34, 35])
  (.cond (.tmp 36)
   (.seq (.draw (.step ⟨(some 37), .plain (.build [(.int .i64 0), (.str ⟨#[]⟩), .nilS, .nilS, .nilS] []), [], none⟩
     (.step ⟨(some 38), .plain .mv, [.tmp 11], none⟩
     (.step ⟨(some 39), .plain (.indexAddr 1), [.tmp 38, .lit (.int .i64 0)], none⟩
     (.or (.step ⟨(some 40), .plain (.load false 1), [.tmp 39], none⟩
     (.step ⟨none, .plain (.store 5), [.tmp 6, .tmp 37], none⟩
     (.step ⟨(some 7), .plain .mv, [.lit (.int .i64 5)], none⟩
     (.step ⟨(some 8), .plain .mv, [.tmp 40], none⟩
     .done))))
     (.step ⟨none, .plain (.store 5), [.tmp 6, .tmp 37], none⟩
     (.step ⟨(some 40), .plain (.load false 1), [.tmp 39], none⟩
     (.step ⟨(some 7), .plain .mv, [.lit (.int .i64 5)], none⟩
     (.step ⟨(some 8), .plain .mv, [.tmp 40], none⟩
     .done)))))))) [37, 38, 39, 40])
   .ret)
   .skip))
  (.seq (.ops [⟨(some 41), .plain .mv, [.tmp 10], none⟩,
    ⟨(some 42), .plain .mv, [.tmp 2], none⟩,
    ⟨(some 43), .call 38, [.tmp 41, .tmp 42, .lit .nilS], none⟩,
    ⟨(some 12), .plain (.alloc [(.int .i64 0), (.str ⟨#[]⟩), .nilS, .nilS, .nilS]), [], none⟩,
    ⟨none, .plain (.store 5), [.tmp 12, .tmp 43], none⟩] [41, 42, 43])
  (.seq (.seq (.ops [⟨(some 44), .plain .mv, [.tmp 2], none⟩,
    ⟨(some 45), .plain (.fieldAddr 1), [.tmp 12], none⟩,
    ⟨(some 46), .plain (.load false 1), [.tmp 45], none⟩,
    ⟨(some 47), .plain (.len 0), [.tmp 46], none⟩,
    ⟨(some 48), .plain (.bin .add), [.tmp 44, .tmp 47], none⟩,
    ⟨(some 49), .plain (.bin .gtr), [.tmp 48, .lit (.int .i64 65536)], none⟩] [44, 45, 46, 47, 48])
  (.cond (.tmp 49)
   (.seq (.ops [⟨(some 50), .plain (.build [(.int .i64 0), (.str ⟨#[]⟩), .nilS, .nilS, .nilS] []), [], none⟩,
     ⟨none, .plain (.store 5), [.tmp 6, .tmp 50], none⟩,
     ⟨(some 7), .plain .mv, [.lit (.int .i64 11)], none⟩,
     ⟨(some 8), .plain .mv, [.lit (.str ⟨#[]⟩)], none⟩] [50])
   .ret)
   .skip))
  (.seq (.ops [⟨(some 51), .plain (.load true 5), [.tmp 12], none⟩,
    ⟨none, .plain (.store 5), [.tmp 6, .tmp 51], none⟩,
    ⟨(some 7), .plain .mv, [.lit (.int .i64 0)], none⟩,
    ⟨(some 8), .plain .mv, [.lit (.str ⟨#[]⟩)], none⟩] [51])
  .ret)))))))))
def cr17 : List Res := [(6, some (true, 5)), (7, none), (8, none)]
theorem ok17 : FOk Try.prog Lk.imp 17 c17 cr17 Try.f17.ntmps := ⟨Try.f17, _, Try.func17, rfl, by kernel_rfl, by kernel_rfl, by kernel_rfl, rfl⟩

/-- ironbark/ironbarklaw34.awake -/
def c7 : SC :=
  (.seq (.ops [⟨(some 0), .plain .mv, [.lit (.bool false)], none⟩] [])
  (.seq (.ops [⟨(some 5), .plain (.build [(.str ⟨#[]⟩), (.str ⟨#[]⟩), .nilS, .nilS, .nilS] [(0, 1), (1, 1)]), [.lit (.str ⟨#[65]⟩), .lit (.str ⟨#[97, 98, 99, 100, 101, 102]⟩)], none⟩,
    ⟨(some 6), .plain (.build [(.str ⟨#[]⟩), (.str ⟨#[]⟩), .nilS, .nilS, .nilS] [(0, 1), (1, 1)]), [.lit (.str ⟨#[66]⟩), .lit (.str ⟨#[119, 120, 121, 122]⟩)], none⟩,
    ⟨(some 7), .plain (.buildRow 51 5 2 [(.str ⟨#[]⟩), (.str ⟨#[]⟩), .nilS, .nilS, .nilS] [0, 1]), [.tmp 5, .tmp 6], none⟩,
    ⟨(some 8), .call 9, [.tmp 7, .lit .nilS, .lit (.int .i64 16)], none⟩,
    ⟨(some 4), .plain .mv, [.tmp 8], none⟩,
    ⟨(some 9), .plain (.extract 0), [.tmp 4], none⟩,
    ⟨(some 10), .plain (.extract 1), [.tmp 4], none⟩,
    ⟨(some 11), .plain (.extract 2), [.tmp 4], none⟩,
    ⟨(some 1), .plain (.alloc [(.int .i64 0), (.str ⟨#[]⟩), .nilS, .nilS, .nilS]), [], none⟩,
    ⟨none, .plain (.store 5), [.tmp 1, .tmp 9], none⟩,
    ⟨(some 2), .plain .mv, [.tmp 10], none⟩,
    ⟨(some 3), .plain .mv, [.tmp 11], none⟩] [5, 6, 7, 8, 4, 9, 10, 11])
  (.seq (.ops [⟨(some 12), .plain .mv, [.tmp 2], none⟩,
    ⟨(some 13), .plain (.bin .eql), [.tmp 12, .lit (.int .i64 0)], none⟩,
    ⟨(some 14), .plain .mv, [.tmp 13], none⟩,
    ⟨(some 15), .plain .mv, [.tmp 3], (some (14, true))⟩,
    ⟨(some 16), .plain (.bin .eql), [.tmp 15, .lit (.str ⟨#[]⟩)], (some (14, true))⟩,
    ⟨(some 17), .plain .pick, [.tmp 14, .tmp 16, .lit (.bool false)], none⟩,
    ⟨(some 18), .plain .mv, [.tmp 17], none⟩,
    ⟨(some 19), .plain (.fieldAddr 4), [.tmp 1], (some (18, true))⟩,
    ⟨(some 20), .plain (.load false 1), [.tmp 19], (some (18, true))⟩,
    ⟨(some 21), .plain (.len 1), [.tmp 20], (some (18, true))⟩,
    ⟨(some 22), .plain (.bin .eql), [.tmp 21, .lit (.int .i64 2)], (some (18, true))⟩,
    ⟨(some 23), .plain .pick, [.tmp 18, .tmp 22, .lit (.bool false)], none⟩,
    ⟨(some 24), .plain .mv, [.tmp 23], none⟩,
    ⟨(some 25), .plain (.fieldAddr 4), [.tmp 1], (some (24, true))⟩,
    ⟨(some 26), .plain (.load false 1), [.tmp 25], (some (24, true))⟩,
    ⟨(some 27), .plain (.indexAddr 2), [.tmp 26, .lit (.int .i64 0)], (some (24, true))⟩,
    ⟨(some 28), .plain (.fieldAddr 1), [.tmp 27], (some (24, true))⟩,
    ⟨(some 29), .plain (.load false 1), [.tmp 28], (some (24, true))⟩,
    ⟨(some 30), .plain (.bin .eql), [.tmp 29, .lit (.int .i64 16)], (some (24, true))⟩,
    ⟨(some 31), .plain .pick, [.tmp 24, .tmp 30, .lit (.bool false)], none⟩,
    ⟨(some 32), .plain .mv, [.tmp 31], none⟩,
    ⟨(some 33), .plain (.fieldAddr 4), [.tmp 1], (some (32, true))⟩,
    ⟨(some 34), .plain (.load false 1), [.tmp 33], (some (32, true))⟩,
    ⟨(some 35), .plain (.indexAddr 2), [.tmp 34, .lit (.int .i64 1)], (some (32, true))⟩,
    ⟨(some 36), .plain (.fieldAddr 1), [.tmp 35], (some (32, true))⟩,
    ⟨(some 37), .plain (.load false 1), [.tmp 36], (some (32, true))⟩,
    ⟨(some 38), .plain (.bin .eql), [.tmp 37, .lit (.int .i64 24)], (some (32, true))⟩,
    ⟨(some 39), .plain .pick, [.tmp 32, .tmp 38, .lit (.bool false)], none⟩,
    ⟨(some 40), .plain .mv, [.tmp 39], none⟩,
    ⟨(some 41), .plain (.fieldAddr 1), [.tmp 1], (some (40, true))⟩,
    ⟨(some 42), .plain (.load false 1), [.tmp 41], (some (40, true))⟩,
    ⟨(some 43), .plain (.bin .eql), [.tmp 42, .lit (.str ⟨#[97, 98, 99, 100, 101, 102, 0, 0, 119, 120, 121, 122]⟩)], (some (40, true))⟩,
    ⟨(some 44), .plain .pick, [.tmp 40, .tmp 43, .lit (.bool false)], none⟩,
    ⟨(some 0), .plain .mv, [.tmp 44], none⟩] [12, 13, 14, 15, 16, 17, 18, 19, 20, 21, 22, 23, 24, 25, 26, 27, 28, 29, 30, 31, 32, 33, 34, 35, 36, 37, 38, 39, 40, 41, 42, 43, 44])
  .ret)))
def cr7 : List Res := [(0, none)]
theorem ok7 : FOk Try.prog Lk.imp 7 c7 cr7 Try.f7.ntmps := ⟨Try.f7, _, Try.func7, rfl, by kernel_rfl, by kernel_rfl, by kernel_rfl, rfl⟩

/-- ironbark/ironbarklaw34.LinkMoves -/
def c3 : SC :=
  (.seq (.ops [⟨(some 8), .plain .mv, [.lit (.bool false)], none⟩] [])
  (.seq (.seq (.ops [⟨(some 20), .call 7, [], none⟩,
    ⟨(some 21), .plain (.un .not), [.tmp 20], none⟩] [20])
  (.cond (.tmp 21)
   (.seq (.ops [⟨(some 8), .plain .mv, [.lit (.bool false)], none⟩] [])
   .ret)
   .skip))
  (.seq (.seq (.ops [⟨(some 22), .plain .mv, [.tmp 0], none⟩,
    ⟨(some 23), .plain .mv, [.tmp 1], none⟩,
    ⟨(some 24), .call 8, [.tmp 22, .tmp 23], none⟩] [22, 23])
  (.cond (.tmp 24)
   (.seq (.ops [⟨(some 8), .plain .mv, [.lit (.bool true)], none⟩] [])
   .ret)
   .skip))
  (.seq (.ops [⟨(some 26), .plain .mv, [.tmp 0], none⟩,
    ⟨(some 27), .call 10, [.tmp 26], none⟩,
    ⟨(some 28), .plain .mv, [.tmp 1], none⟩,
    ⟨(some 29), .call 11, [.tmp 28], none⟩,
    ⟨(some 30), .plain .mv, [.tmp 2], none⟩,
    ⟨(some 31), .call 9, [.tmp 27, .tmp 29, .tmp 30], none⟩,
    ⟨(some 25), .plain .mv, [.tmp 31], none⟩,
    ⟨(some 32), .plain (.extract 0), [.tmp 25], none⟩,
    ⟨(some 33), .plain (.extract 1), [.tmp 25], none⟩,
    ⟨(some 34), .plain (.extract 2), [.tmp 25], none⟩,
    ⟨(some 9), .plain (.alloc [(.int .i64 0), (.str ⟨#[]⟩), .nilS, .nilS, .nilS]), [], none⟩,
    ⟨none, .plain (.store 5), [.tmp 9, .tmp 32], none⟩,
    ⟨(some 10), .plain .mv, [.tmp 33], none⟩,
    ⟨(some 11), .plain .mv, [.tmp 34], none⟩] [26, 27, 28, 29, 30, 31, 25, 32, 33, 34, 11])
  (.seq (.seq (.ops [⟨(some 35), .plain .mv, [.tmp 10], none⟩,
    ⟨(some 36), .plain (.bin .neq), [.tmp 35, .lit (.int .i64 0)], none⟩] [35])
  (.cond (.tmp 36)
   (.seq (.ops [⟨(some 8), .plain .mv, [.lit (.bool true)], none⟩] [])
   .ret)
   .skip))
  (.seq (.ops [⟨(some 38), .plain (.load true 5), [.tmp 9], none⟩,
    ⟨(some 39), .call 13, [.tmp 38], none⟩,
    ⟨(some 40), .plain .mv, [.tmp 0], none⟩,
    ⟨(some 41), .call 10, [.tmp 40], none⟩,
    ⟨(some 42), .plain .mv, [.tmp 1], none⟩,
    ⟨(some 43), .call 11, [.tmp 42], none⟩,
    ⟨(some 44), .plain .mv, [.tmp 3], none⟩,
    ⟨(some 45), .call 12, [.tmp 39, .tmp 41, .tmp 43, .tmp 44], none⟩,
    ⟨(some 37), .plain .mv, [.tmp 45], none⟩,
    ⟨(some 46), .plain (.extract 0), [.tmp 37], none⟩,
    ⟨(some 47), .plain (.extract 1), [.tmp 37], none⟩,
    ⟨(some 12), .plain (.alloc [(.int .i64 0), (.str ⟨#[]⟩), .nilS, .nilS, .nilS]), [], none⟩,
    ⟨none, .plain (.store 5), [.tmp 12, .tmp 46], none⟩,
    ⟨(some 10), .plain .mv, [.tmp 47], none⟩] [38, 39, 40, 41, 42, 43, 44, 45, 37, 46, 47])
  (.seq (.ops [⟨(some 49), .plain (.load true 5), [.tmp 9], none⟩,
    ⟨(some 50), .plain .mv, [.tmp 0], none⟩,
    ⟨(some 51), .plain .mv, [.tmp 1], none⟩,
    ⟨(some 52), .plain .mv, [.tmp 3], none⟩,
    ⟨(some 53), .call 14, [.tmp 49, .tmp 50, .tmp 51, .tmp 52], none⟩,
    ⟨(some 48), .plain .mv, [.tmp 53], none⟩,
    ⟨(some 54), .plain (.extract 0), [.tmp 48], none⟩,
    ⟨(some 55), .plain (.extract 1), [.tmp 48], none⟩,
    ⟨(some 13), .plain (.alloc [(.int .i64 0), (.str ⟨#[]⟩), .nilS, .nilS, .nilS]), [], none⟩,
    ⟨none, .plain (.store 5), [.tmp 13, .tmp 54], none⟩,
    ⟨(some 14), .plain .mv, [.tmp 55], none⟩] [49, 50, 51, 52, 53, 48, 54, 55])
  (.seq (.seq (.ops [⟨(some 56), .plain (.load true 5), [.tmp 12], none⟩,
    ⟨(some 57), .plain (.load true 5), [.tmp 13], none⟩,
    ⟨(some 58), .call 15, [.tmp 56, .tmp 57], none⟩,
    ⟨(some 59), .plain (.un .not), [.tmp 58], none⟩,
    ⟨(some 60), .plain .mv, [.tmp 59], none⟩,
    ⟨(some 61), .plain .mv, [.tmp 10], (some (60, false))⟩,
    ⟨(some 62), .plain .mv, [.tmp 14], (some (60, false))⟩,
    ⟨(some 63), .plain (.bin .neq), [.tmp 61, .tmp 62], (some (60, false))⟩,
    ⟨(some 64), .plain .pick, [.tmp 60, .lit (.bool true), .tmp 63], none⟩] [56, 57, 58, 59, 60, 61, 62, 63])
  (.cond (.tmp 64)
   (.seq (.ops [⟨(some 8), .plain .mv, [.lit (.bool false)], none⟩] [])
   .ret)
   .skip))
  (.seq (.seq (.ops [⟨(some 65), .plain .mv, [.tmp 10], none⟩,
    ⟨(some 66), .plain (.bin .neq), [.tmp 65, .lit (.int .i64 0)], none⟩] [65])
  (.cond (.tmp 66)
   (.seq (.ops [⟨(some 8), .plain .mv, [.lit (.bool true)], none⟩] [])
   .ret)
   .skip))
  (.seq (.seq (.ops [⟨(some 67), .plain (.fieldAddr 1), [.tmp 12], none⟩,
    ⟨(some 68), .plain (.load false 1), [.tmp 67], none⟩,
    ⟨(some 69), .plain (.len 0), [.tmp 68], none⟩,
    ⟨(some 70), .plain (.fieldAddr 1), [.tmp 9], none⟩,
    ⟨(some 71), .plain (.load false 1), [.tmp 70], none⟩,
    ⟨(some 72), .plain (.len 0), [.tmp 71], none⟩,
    ⟨(some 73), .plain (.bin .neq), [.tmp 69, .tmp 72], none⟩,
    ⟨(some 74), .plain .mv, [.tmp 73], none⟩,
    ⟨(some 75), .plain (.fieldAddr 4), [.tmp 12], (some (74, false))⟩,
    ⟨(some 76), .plain (.load false 1), [.tmp 75], (some (74, false))⟩,
    ⟨(some 77), .plain (.len 1), [.tmp 76], (some (74, false))⟩,
    ⟨(some 78), .plain (.fieldAddr 4), [.tmp 9], (some (74, false))⟩,
    ⟨(some 79), .plain (.load false 1), [.tmp 78], (some (74, false))⟩,
    ⟨(some 80), .plain (.len 1), [.tmp 79], (some (74, false))⟩,
    ⟨(some 81), .plain (.bin .neq), [.tmp 77, .tmp 80], (some (74, false))⟩,
    ⟨(some 82), .plain .pick, [.tmp 74, .lit (.bool true), .tmp 81], none⟩] [67, 68, 69, 70, 71, 72, 73, 74, 75, 76, 77, 78, 79, 80, 81])
  (.cond (.tmp 82)
   (.seq (.ops [⟨(some 8), .plain .mv, [.lit (.bool false)], none⟩] [])
   .ret)
   .skip))
  (.seq (.seq (.ops [⟨(some 15), .plain .mv, [.lit (.int .i64 0)], none⟩] [])
  (.block 0
   (.loop
    (.seq (.seq (.ops [⟨(some 83), .plain .mv, [.tmp 15], none⟩,
      ⟨(some 84), .plain (.fieldAddr 4), [.tmp 9], none⟩,
      ⟨(some 85), .plain (.load false 1), [.tmp 84], none⟩,
      ⟨(some 86), .plain (.len 1), [.tmp 85], none⟩,
      ⟨(some 87), .plain (.bin .lss), [.tmp 83, .tmp 86], none⟩] [83, 84, 85, 86])
    (.cond (.tmp 87)
     .skip
     (.exit 0)))
    (.seq (.block 1
     (.seq (.draw (.step ⟨(some 90), .plain (.fieldAddr 4), [.tmp 12], none⟩
       (.step ⟨(some 91), .plain (.load false 1), [.tmp 90], none⟩
       (.step ⟨(some 92), .plain .mv, [.tmp 15], none⟩
       (.step ⟨(some 93), .plain (.indexAddr 2), [.tmp 91, .tmp 92], none⟩
       (.step ⟨(some 94), .plain (.fieldAddr 1), [.tmp 93], none⟩
       (.step ⟨(some 95), .plain (.load false 1), [.tmp 94], none⟩
       (.step ⟨(some 96), .plain (.fieldAddr 4), [.tmp 9], none⟩
       (.step ⟨(some 97), .plain (.load false 1), [.tmp 96], none⟩
       (.step ⟨(some 98), .plain .mv, [.tmp 15], none⟩
       (.step ⟨(some 99), .plain (.indexAddr 2), [.tmp 97, .tmp 98], none⟩
       (.step ⟨(some 100), .plain (.fieldAddr 1), [.tmp 99], none⟩
       (.step ⟨(some 101), .plain (.load false 1), [.tmp 100], none⟩
       (.step ⟨(some 102), .plain (.bin .sub), [.tmp 95, .tmp 101], none⟩
       (.step ⟨(some 103), .plain .mv, [.tmp 3], none⟩
       (.step ⟨(some 104), .plain .mv, [.tmp 2], none⟩
       (.step ⟨(some 105), .plain (.bin .sub), [.tmp 103, .tmp 104], none⟩
       (.step ⟨(some 106), .plain (.bin .neq), [.tmp 102, .tmp 105], none⟩
       .done))))))))))))))))) [90, 91, 92, 93, 94, 95, 96, 97, 98, 99, 100, 101, 102, 103, 104, 105])
     (.cond (.tmp 106)
      (.seq (.ops [⟨(some 8), .plain .mv, [.lit (.bool false)], none⟩] [])
      .ret)
      .skip)))
    (.ops [⟨(some 88), .plain .mv, [.tmp 15], none⟩,
      ⟨(some 89), .plain (.bin .add), [.tmp 88, .lit (.int .i64 1)], none⟩,
      ⟨(some 15), .plain .mv, [.tmp 89], none⟩] [88, 89]))))))
  (.seq (.seq (.ops [⟨(some 16), .plain .mv, [.lit (.int .i64 0)], none⟩] [])
  (.block 2
   (.loop
    (.seq (.seq (.ops [⟨(some 107), .plain .mv, [.tmp 16], none⟩,
      ⟨(some 108), .plain (.bin .add), [.tmp 107, .lit (.int .i64 4)], none⟩,
      ⟨(some 109), .plain (.fieldAddr 1), [.tmp 9], none⟩,
      ⟨(some 110), .plain (.load false 1), [.tmp 109], none⟩,
      ⟨(some 111), .plain (.len 0), [.tmp 110], none⟩,
      ⟨(some 112), .plain (.bin .leq), [.tmp 108, .tmp 111], none⟩] [107, 108, 109, 110, 111])
    (.cond (.tmp 112)
     .skip
     (.exit 2)))
    (.seq (.block 3
     (.seq (.draw (.step ⟨(some 115), .plain (.fieldAddr 1), [.tmp 9], none⟩
       (.step ⟨(some 116), .plain (.load false 1), [.tmp 115], none⟩
       (.step ⟨(some 117), .plain .mv, [.tmp 16], none⟩
       (.step ⟨(some 118), .plain .mv, [.tmp 16], none⟩
       (.step ⟨(some 119), .plain (.bin .add), [.tmp 118, .lit (.int .i64 4)], none⟩
       (.step ⟨(some 120), .plain (.slice true true 0), [.tmp 116, .tmp 117, .tmp 119], none⟩
       (.step ⟨(some 121), .call 16, [.tmp 120], none⟩
       (.step ⟨(some 122), .plain (.fieldAddr 1), [.tmp 12], none⟩
       (.step ⟨(some 123), .plain (.load false 1), [.tmp 122], none⟩
       (.step ⟨(some 124), .plain .mv, [.tmp 16], none⟩
       (.step ⟨(some 125), .plain .mv, [.tmp 16], none⟩
       (.step ⟨(some 126), .plain (.bin .add), [.tmp 125, .lit (.int .i64 4)], none⟩
       (.step ⟨(some 127), .plain (.slice true true 0), [.tmp 123, .tmp 124, .tmp 126], none⟩
       (.step ⟨(some 128), .call 16, [.tmp 127], none⟩
       (.step ⟨(some 17), .plain .mv, [.tmp 121], none⟩
       (.step ⟨(some 18), .plain .mv, [.tmp 128], none⟩
       .done)))))))))))))))) [115, 116, 117, 118, 119, 120, 121, 122, 123, 124, 125, 126, 127, 128])
     (.seq (.ops [⟨(some 129), .plain .mv, [.tmp 17], none⟩,
       ⟨(some 130), .plain .mv, [.tmp 18], none⟩,
       ⟨(some 131), .plain (.bin .neq), [.tmp 129, .tmp 130], none⟩,
       ⟨(some 132), .plain .mv, [.tmp 131], none⟩,
       ⟨(some 133), .plain .mv, [.tmp 18], (some (132, true))⟩,
       ⟨(some 134), .plain .mv, [.tmp 17], (some (132, true))⟩,
       ⟨(some 135), .plain (.bin .sub), [.tmp 133, .tmp 134], (some (132, true))⟩,
       ⟨(some 136), .plain (.convInt .u32), [.tmp 135], (some (132, true))⟩,
       ⟨(some 137), .plain .mv, [.tmp 3], (some (132, true))⟩,
       ⟨(some 138), .plain .mv, [.tmp 2], (some (132, true))⟩,
       ⟨(some 139), .plain (.bin .sub), [.tmp 137, .tmp 138], (some (132, true))⟩,
       ⟨(some 140), .plain (.convInt .u32), [.tmp 139], (some (132, true))⟩,
       ⟨(some 141), .plain (.bin .neq), [.tmp 136, .tmp 140], (some (132, true))⟩,
       ⟨(some 142), .plain .pick, [.tmp 132, .tmp 141, .lit (.bool false)], none⟩] [129, 130, 131, 132, 133, 134, 135, 136, 137, 138, 139, 140, 141])
     (.cond (.tmp 142)
      (.seq (.ops [⟨(some 8), .plain .mv, [.lit (.bool false)], none⟩] [])
      .ret)
      .skip))))
    (.ops [⟨(some 113), .plain .mv, [.tmp 16], none⟩,
      ⟨(some 114), .plain (.bin .add), [.tmp 113, .lit (.int .i64 4)], none⟩,
      ⟨(some 16), .plain .mv, [.tmp 114], none⟩] [113, 114]))))))
  (.seq (.ops [⟨(some 143), .plain (.load true 5), [.tmp 9], none⟩,
    ⟨(some 19), .plain (.alloc [(.int .i64 0), (.str ⟨#[]⟩), .nilS, .nilS, .nilS]), [], none⟩,
    ⟨none, .plain (.store 5), [.tmp 19, .tmp 143], none⟩] [143])
  (.seq (.ops [⟨(some 144), .plain (.fieldAddr 1), [.tmp 19], none⟩,
    ⟨(some 145), .plain (.load false 1), [.tmp 144], none⟩,
    ⟨(some 146), .plain (.bin .add), [.tmp 145, .lit (.str ⟨#[0, 0]⟩)], none⟩,
    ⟨(some 147), .plain (.fieldAddr 1), [.tmp 19], none⟩,
    ⟨none, .plain (.store 1), [.tmp 147, .tmp 146], none⟩] [144, 145, 146, 147])
  (.seq (.ops [⟨(some 149), .plain (.load true 5), [.tmp 19], none⟩,
    ⟨(some 150), .call 13, [.tmp 149], none⟩,
    ⟨(some 151), .plain .mv, [.tmp 0], none⟩,
    ⟨(some 152), .call 10, [.tmp 151], none⟩,
    ⟨(some 153), .plain .mv, [.tmp 1], none⟩,
    ⟨(some 154), .call 11, [.tmp 153], none⟩,
    ⟨(some 155), .plain .mv, [.tmp 3], none⟩,
    ⟨(some 156), .call 12, [.tmp 150, .tmp 152, .tmp 154, .tmp 155], none⟩,
    ⟨(some 148), .plain .mv, [.tmp 156], none⟩,
    ⟨(some 157), .plain (.extract 0), [.tmp 148], none⟩,
    ⟨(some 158), .plain (.extract 1), [.tmp 148], none⟩,
    ⟨(some 10), .plain .mv, [.tmp 158], none⟩] [149, 150, 151, 152, 153, 154, 155, 156, 148, 157, 158])
  (.seq (.ops [⟨(some 159), .plain .mv, [.tmp 10], none⟩,
    ⟨(some 160), .plain (.bin .eql), [.tmp 159, .lit (.int .i64 1)], none⟩,
    ⟨(some 8), .plain .mv, [.tmp 160], none⟩] [159, 160])
  .ret))))))))))))))))
def cr3 : List Res := [(8, none)]
theorem ok3 : FOk Try.prog Lk.imp 3 c3 cr3 Try.f3.ntmps := ⟨Try.f3, _, Try.func3, rfl, by kernel_rfl, by kernel_rfl, by kernel_rfl, rfl⟩

end Go.Pm

/- LkC26: contracts: copies of what is given. -/
namespace Go.Pm
open Go Go.Proofs
attribute [-simp] List.getElem?_map

theorem call13 (x : Img) (hx : x.Small) : PCalls Try.prog 13 [.agg x.av] fun out => out = .ret (.agg x.av) := by
  refine ok13.pcallsD 1 (by simp) ?_
  have h1 := hx.defs
  have h2 := hx.lines
  have h3 := hx.names
  have b1 : x.defs.length * 24 ≤ 140737488355328 ∧ x.defs.length ≤ 9223372036854775807 := ⟨by omega, by omega⟩
  have b2 : x.lines.length * 16 ≤ 140737488355328 ∧ x.lines.length ≤ 9223372036854775807 := ⟨by omega, by omega⟩
  have b3 : x.names.length * 24 ≤ 140737488355328 ∧ x.names.length ≤ 9223372036854775807 := ⟨by omega, by omega⟩
  simp [c13, Img.av, appendA, b1, b2, b3, cr13, permD, mapO]

def rowsOf : Nat → List Deck → List (Nat × AObj)
  | _, [] => []
  | g, o :: l => (g, .row 40 2 (o.defs.map DDef.av)) :: (g + 1, .row 107 3 (o.refs.map DRef.av)) :: (g + 2, .row 102 2 (o.lines.map DLine.av)) :: rowsOf (g + 3) l
def givenC (g : Nat) (o : Deck) : List AV := [.str o.name, .str o.code, .row g g 2 0 o.defs.length, .row (g + 1) (g + 1) 3 0 o.refs.length, .row (g + 2) (g + 2) 2 0 o.lines.length]
def givenCells : Nat → List Deck → List (List AV)
  | _, [] => []
  | g, o :: l => givenC g o :: givenCells (g + 3) l
theorem rowsOf_len : ∀ (l : List Deck) (g : Nat), (rowsOf g l).length = 3 * l.length
  | [], _ => rfl
  | o :: l, g => by simp [rowsOf, rowsOf_len l]; omega
theorem rowsOf_snoc : ∀ (l : List Deck) (g : Nat) (o : Deck), rowsOf g (l ++ [o]) = rowsOf g l ++ [(g + 3 * l.length, .row 40 2 (o.defs.map DDef.av)), (g + 3 * l.length + 1, .row 107 3 (o.refs.map DRef.av)), (g + 3 * l.length + 2, .row 102 2 (o.lines.map DLine.av))]
  | [], g, o => by simp [rowsOf]
  | x :: l, g, o => by
    have ih := rowsOf_snoc l (g + 3) o
    simp only [List.cons_append, rowsOf, ih, List.length_cons]
    rw [show g + 3 + 3 * l.length = g + 3 * (l.length + 1) by omega]
theorem givenCells_snoc : ∀ (l : List Deck) (g : Nat) (o : Deck), givenCells g (l ++ [o]) = givenCells g l ++ [givenC (g + 3 * l.length) o]
  | [], g, o => by simp [givenCells]
  | x :: l, g, o => by
    simp only [List.cons_append, givenCells, givenCells_snoc l (g + 3) o, List.length_cons]
    rw [show g + 3 + 3 * l.length = g + 3 * (l.length + 1) by omega]
theorem givenCells_len : ∀ (l : List Deck) (g : Nat), (givenCells g l).length = l.length
  | [], _ => rfl
  | o :: l, g => by simp [givenCells, givenCells_len l]

/-- The rows are found where they lie. -/
theorem given_perm {S : List (Nat × AObj)} {nx : Nat} : ∀ (l : List Deck) (g : Nat), (∀ j x, (rowsOf g l)[j]? = some x → S[g + j]? = some x) → mapOO (permD 0 ⟨S, nx⟩) (givenCells g l) = some (l.map Deck.av)
  | [], _, _ => rfl
  | o :: l, g, h => by
    have ih := given_perm (S := S) (nx := nx) l (g + 3) fun j x hj => by
      have := h (j + 3) x (by simpa [rowsOf] using hj)
      rwa [show g + 3 + j = g + (j + 3) by omega]
    have e0 := h 0 _ rfl
    have e1 := h 1 _ rfl
    have e2 := h 2 _ rfl
    rw [Nat.add_zero] at e0
    simp only [givenCells, mapOO, ih, givenC]
    simp [mapO, permD, e0, e1, e2, Deck.av]

/-- The objects' row when some are copied. -/
def elsAt (l : List Deck) (i : Nat) : List (List AV) := givenCells 1 (l.take i) ++ (l.drop i).map Deck.av
theorem elsAt_zero (l : List Deck) : elsAt l 0 = l.map Deck.av := by simp [elsAt, givenCells]
theorem elsAt_full (l : List Deck) : elsAt l l.length = givenCells 1 l := by simp [elsAt]
theorem elsAt_len {l : List Deck} {i : Nat} (h : i ≤ l.length) : (elsAt l i).length = l.length := by
  unfold elsAt; rw [List.length_append, givenCells_len, List.length_take, List.length_map, List.length_drop]; omega
theorem elsAt_get {l : List Deck} {i : Nat} (h : i < l.length) : (elsAt l i)[i]? = some (ix l i).av := by
  have htl : (l.take i).length = i := by rw [List.length_take]; omega
  unfold elsAt
  rw [List.getElem?_append_right (by rw [givenCells_len, htl]; exact Nat.le_refl _), givenCells_len, htl, Nat.sub_self, drop_ix h]; rfl
theorem elsAt_set {l : List Deck} {i : Nat} (h : i < l.length) : (elsAt l i).set i (givenC (3 * i + 1) (ix l i)) = elsAt l (i + 1) := by
  have htl : (l.take i).length = i := by rw [List.length_take]; omega
  unfold elsAt
  rw [List.set_append_right _ _ (by rw [givenCells_len, htl]; exact Nat.le_refl _), givenCells_len, htl, Nat.sub_self, drop_ix h, List.take_add_one, idx (ltN h)]
  show givenCells 1 (l.take i) ++ givenC (3 * i + 1) (ix l i) :: (l.drop (i + 1)).map Deck.av = givenCells 1 (l.take i ++ [ix l i]) ++ _
  rw [givenCells_snoc, htl, show 1 + 3 * i = 3 * i + 1 by omega]
  simp

set_option maxHeartbeats 4000000 in
theorem call10 (p : Bool) (l : List Deck) (hl : SmallL l) : PCalls Try.prog 10 [.list p 5 (l.map Deck.av)] fun out => out = .ret (decksAV l) := by
  refine ok10.pcallsD 1 (by simp) ?_
  have dl := hl.len
  have hc : l.length * 104 ≤ 140737488355328 ∧ l.length ≤ 9223372036854775807 := ⟨by omega, by omega⟩
  simp [c10, appendA, hc]
  refine wpS_loop (ι := Nat) (fun i => [(0, .row 0 0 5 0 l.length), (3, .int .i64 i)]) (fun i => ⟨(0, .row 51 5 (elsAt l i)) :: rowsOf 1 (l.take i), 3 * i + 1⟩) (fun i => l.length - i) (fun i => i ≤ l.length) 0 (Nat.zero_le _)
    (Env.le_of (by simp)) (by simp [elsAt_zero, rowsOf]) ?_
  intro i hi
  have hw : IntKind.i64.wrap (i + 1) = i + 1 := wrap64 (by omega) (by omega)
  have htl : (l.take i).length = i := by rw [List.length_take, Nat.min_eq_left hi]
  have hrl : (rowsOf 1 (l.take i)).length = 3 * i := by rw [rowsOf_len, htl]
  simp
  refine br_cond rfl (fun h => ?_) (fun h => ?_)
  · have hlt : i < l.length := by have := ltI_t.1 h; omega
    have hos := hl.each _ (ix_mem hlt)
    have htk : l.take (i + 1) = l.take i ++ [ix l i] := by rw [List.take_add_one, idx h]; rfl
    have hge := elsAt_get hlt
    have hel := elsAt_len hi
    have hset := elsAt_set hlt
    have hsn := rowsOf_snoc (l.take i) 1 (ix l i)
    rw [htl] at hsn
    generalize hE : elsAt l i = E at *
    generalize hoi : ix l i = o at *
    generalize hR : rowsOf 1 (l.take i) = R at *
    have d1 := hos.defs
    have d2 := hos.refs
    have d3 := hos.lines
    have b1 : o.defs.length * 24 ≤ 140737488355328 ∧ o.defs.length ≤ 9223372036854775807 := ⟨by omega, by omega⟩
    have b2 : o.refs.length * 32 ≤ 140737488355328 ∧ o.refs.length ≤ 9223372036854775807 := ⟨by omega, by omega⟩
    have b3 : o.lines.length * 16 ≤ 140737488355328 ∧ o.lines.length ≤ 9223372036854775807 := ⟨by omega, by omega⟩
    have hiE : i < E.length := by omega
    have hs1 : ∀ x, (E.set i x)[i]? = some x := fun x => List.getElem?_set_self hiE
    simp [h, hge, hs1, hrl, hw, Deck.av, appendA, b1, b2, b3]
    refine ⟨i + 1, by omega, by omega, Env.le_of (by simp), Mem.le_of (by simp; omega) ?_⟩
    have e : 3 * i + 1 + 1 + 1 = 3 * i + 3 := by omega
    rw [htk, hsn]
    simp only [givenC] at hset
    rw [← hset]
    rw [show 1 + 3 * i = 3 * i + 1 by omega]
    simp
    rw [List.take_of_length_le (by simp)]
  · have hil : i = l.length := by have := ltI_f.1 h; omega
    subst hil
    rw [elsAt_full, List.take_length]
    have hgp := given_perm (S := (0, .row 51 5 (givenCells 1 l)) :: rowsOf 1 l) (nx := 3 * l.length + 1) l 1 (fun j x hj => by rw [Nat.add_comm]; exact hj)
    have hels : elsOf ⟨(0, .row 51 5 (givenCells 1 l)) :: rowsOf 1 l, 3 * l.length + 1⟩ 5 (.row 0 0 5 0 l.length) = some (givenCells 1 l) := by simp [givenCells_len, List.take_of_length_le]
    simp only [h, br_cond, wpS_cond_f, Opnd.eval, Env.get]
    simp [cr10]
    show (match elsOf _ 5 (.row 0 0 5 0 l.length) with | some els => (mapOO (permD 0 _) els).map (AV.list true 5) | none => none) = _
    rw [hels]
    simp only [hgp]
    rfl

set_option maxHeartbeats 4000000 in
theorem call11 (q : Bool) (libs : List (List Deck)) (hb : SmallLL libs) : PCalls Try.prog 11 [.list q 1 (libs.map libAV)] fun out => out = .ret (.list true 1 (libs.map libAV)) := by
  refine ok11.pcallsD 1 (by simp) ?_
  have dl := hb.len
  have hc : libs.length * 24 ≤ 140737488355328 ∧ libs.length ≤ 9223372036854775807 := ⟨by omega, by omega⟩
  simp [c11, appendA, hc]
  refine wpS_loop (ι := Nat) (fun i => [(0, .row 0 0 1 0 libs.length), (3, .int .i64 i)]) (fun i => ⟨[(0, .row 22 1 (libs.map libAV))], 1⟩) (fun i => libs.length - i) (fun i => i ≤ libs.length) 0 (Nat.zero_le _)
    (Env.le_of (by simp)) (by simp) ?_
  intro i hi
  have hw : IntKind.i64.wrap (i + 1) = i + 1 := wrap64 (by omega) (by omega)
  simp
  refine br_cond rfl (fun h => ?_) (fun h => ?_)
  · have hlt : i < libs.length := by have := ltI_t.1 h; omega
    have hsl := hb.each _ (ix_mem hlt)
    have hset : (libs.map libAV).set i (libAV (ix libs i)) = libs.map libAV := by
      apply List.ext_getElem?
      intro j
      rw [List.getElem?_set]
      split
      · rename_i hj; subst hj
        rw [if_pos (by simpa using hlt), idxM h]
      · rfl
    have hset2 : (libs.map libAV).set i [.list true 5 ((ix libs i).map Deck.av)] = libs.map libAV := hset
    simp [h, idxM, libAV, decksAV]
    refine xcall_p (call10 true (ix libs i) hsl) (by simp) ?_
    simp [h, idxM, libAV, decksAV, hw]
    exact ⟨i + 1, by omega, by omega, Env.le_of (by simp), Mem.le_of rfl (by simp [hset2])⟩
  · have hil : i = libs.length := by have := ltI_f.1 h; omega
    subst hil
    have hm : ∀ m : Mem, mapOO (permD 0 m) (libs.map libAV) = some (libs.map libAV) := fun m => mapOO_map (g := libAV) (g' := libAV) (fun x => by simp [mapO, permD, libAV, decksAV]) libs
    simp only [h, br_cond, wpS_cond_f, Opnd.eval, Env.get]
    simp [cr11]
    show (match elsOf _ 1 (.row 0 0 1 0 libs.length) with | some els => (mapOO (permD 0 _) els).map (AV.list true 1) | none => none) = _
    have hels : elsOf ⟨[(0, .row 22 1 (libs.map libAV))], 1⟩ 1 (.row 0 0 1 0 libs.length) = some (libs.map libAV) := by simp
    rw [hels]
    simp only [hm]
    rfl
end Go.Pm

/- LkS5: code, resolved. Written by gen.py out of what ShowSC.lean printed. -/
namespace Go.Pm
open Go Go.Proofs

/-- slices.IndexFunc[[]ironbark/api.Def,ironbark/api.Def] -/
def c98 : SC :=
  (.seq (.ops [⟨(some 4), .plain .mv, [.lit (.int .i64 0)], none⟩] [])
  (.seq (.seq (.ops [⟨(some 6), .plain .mv, [.tmp 0], none⟩,
    ⟨(some 7), .plain (.len 1), [.tmp 6], none⟩,
    ⟨(some 8), .plain .mv, [.lit (.int .i64 0)], none⟩] [6])
  (.block 0
   (.loop
    (.seq (.ops [⟨(some 9), .plain (.bin .lss), [.tmp 8, .tmp 7], none⟩] [])
    (.seq (.cond (.tmp 9)
     .skip
     (.exit 0))
    (.seq (.block 1
     (.seq (.ops [⟨(some 10), .plain .mv, [.tmp 8], none⟩,
       ⟨(some 5), .plain .mv, [.tmp 10], none⟩] [10])
     (.seq (.ops [⟨(some 11), .plain .mv, [.tmp 1], none⟩,
       ⟨(some 12), .plain .mv, [.tmp 0], none⟩,
       ⟨(some 13), .plain .mv, [.tmp 5], none⟩,
       ⟨(some 14), .plain (.indexAddr 2), [.tmp 12, .tmp 13], none⟩,
       ⟨(some 15), .plain (.load true 2), [.tmp 14], none⟩,
       ⟨(some 16), .callv, [.tmp 11, .tmp 15], none⟩] [11, 12, 13, 14, 15])
     (.cond (.tmp 16)
      (.seq (.ops [⟨(some 17), .plain .mv, [.tmp 5], none⟩,
        ⟨(some 4), .plain .mv, [.tmp 17], none⟩] [17])
      .ret)
      .skip))))
    (.ops [⟨(some 18), .plain (.bin .add), [.tmp 8, .lit (.int .i64 1)], none⟩,
      ⟨(some 8), .plain .mv, [.tmp 18], none⟩] [18])))))))
  (.seq (.ops [⟨(some 4), .plain .mv, [.lit (.int .i64 (-1))], none⟩] [])
  .ret)))
def cr98 : List Res := [(4, none)]
theorem ok98 : FOk Try.prog Lk.imp 98 c98 cr98 Try.f98.ntmps := ⟨Try.f98, _, Try.func98, rfl, by kernel_rfl, by kernel_rfl, by kernel_rfl, rfl⟩

/-- slices.Index[[]string,string] -/
def c99 : SC :=
  (.seq (.ops [⟨(some 4), .plain .mv, [.lit (.int .i64 0)], none⟩] [])
  (.seq (.seq (.ops [⟨(some 6), .plain .mv, [.tmp 0], none⟩,
    ⟨(some 7), .plain (.len 1), [.tmp 6], none⟩,
    ⟨(some 8), .plain .mv, [.lit (.int .i64 0)], none⟩] [6])
  (.block 0
   (.loop
    (.seq (.ops [⟨(some 9), .plain (.bin .lss), [.tmp 8, .tmp 7], none⟩] [])
    (.seq (.cond (.tmp 9)
     .skip
     (.exit 0))
    (.seq (.block 1
     (.seq (.ops [⟨(some 10), .plain .mv, [.tmp 8], none⟩,
       ⟨(some 5), .plain .mv, [.tmp 10], none⟩] [10])
     (.seq (.ops [⟨(some 11), .plain .mv, [.tmp 1], none⟩,
       ⟨(some 12), .plain .mv, [.tmp 0], none⟩,
       ⟨(some 13), .plain .mv, [.tmp 5], none⟩,
       ⟨(some 14), .plain (.indexAddr 1), [.tmp 12, .tmp 13], none⟩,
       ⟨(some 15), .plain (.load false 1), [.tmp 14], none⟩,
       ⟨(some 16), .plain (.bin .eql), [.tmp 11, .tmp 15], none⟩] [11, 12, 13, 14, 15])
     (.cond (.tmp 16)
      (.seq (.ops [⟨(some 17), .plain .mv, [.tmp 5], none⟩,
        ⟨(some 4), .plain .mv, [.tmp 17], none⟩] [17])
      .ret)
      .skip))))
    (.ops [⟨(some 18), .plain (.bin .add), [.tmp 8, .lit (.int .i64 1)], none⟩,
      ⟨(some 8), .plain .mv, [.tmp 18], none⟩] [18])))))))
  (.seq (.ops [⟨(some 4), .plain .mv, [.lit (.int .i64 (-1))], none⟩] [])
  .ret)))
def cr99 : List Res := [(4, none)]
theorem ok99 : FOk Try.prog Lk.imp 99 c99 cr99 Try.f99.ntmps := ⟨Try.f99, _, Try.func99, rfl, by kernel_rfl, by kernel_rfl, by kernel_rfl, rfl⟩

end Go.Pm

/- LkC13: contracts: the first one of which something is so. -/
namespace Go.Pm
open Go Go.Proofs
attribute [-simp] List.getElem?_map

def indexF {α : Type} (φ : α → Bool) : List α → Nat → Int
  | [], _ => -1
  | x :: l, n => if φ x then n else indexF φ l (n + 1)

theorem indexF_shift {α : Type} {φ : α → Bool} {l : List α} {i : Nat} [Inhabited α] (h : i < l.length) (hφ : φ (ix l i) = false) : indexF φ (l.drop i) i = indexF φ (l.drop (i + 1)) (i + 1) := by
  rw [List.drop_eq_getElem_cons h]
  have : l[i] = ix l i := by simp [ix, List.getD, h]
  rw [this, indexF, if_neg (by rw [hφ]; simp)]

theorem call98 (p : Bool) (ds : List DDef) (f : FuncId) (caps : List AV) (φ : DDef → Bool) (hl : ds.length ≤ 2000000) (hb : tmpAs ⟨[], 0⟩ caps = some caps)
    (hf : ∀ d, PCalls Try.prog f (.agg d.av :: caps) fun out => out = .ret (.bool (φ d))) :
    PCalls Try.prog 98 [.list p 2 (ds.map DDef.av), .fn f caps] fun out => out = .ret (.int .i64 (indexF φ ds 0)) := by
  refine ok98.pcalls (by simp) ?_
  simp [c98]
  refine wpS_loop (ι := Nat) (fun i => [(0, .list p 2 (ds.map DDef.av)), (1, .fn f caps), (7, .int .i64 ds.length), (8, .int .i64 i)]) (fun _ => ⟨[], 0⟩) (fun i => ds.length - i)
    (fun i => i ≤ ds.length ∧ indexF φ ds 0 = indexF φ (ds.drop i) i) 0 (by simp) (Env.le_of (by simp)) rfl ?_
  intro i ⟨hi, hall⟩
  have hw : IntKind.i64.wrap (i + 1) = i + 1 := wrap64 (by omega) (by omega)
  simp
  refine br_cond rfl (fun h => ?_) (fun h => ?_)
  · have hlt : i < ds.length := by have := ltI_t.1 h; omega
    have ht : (ix ds i).av.take 2 = (ix ds i).av := rfl
    have hn : norefL (ix ds i).av = true := by simp [DDef.av]
    have hlen : (ix ds i).av.length = 2 := rfl
    simp [h, idxM, ht, hlen]
    refine xcall_p (hf (ix ds i)) (by simp [hb, hn]) ?_
    simp
    refine br_cond rfl (fun h1 => ?_) (fun h1 => ?_)
    · have : indexF φ (ds.drop i) i = i := by
        rw [List.drop_eq_getElem_cons hlt]
        have e : ds[i] = ix ds i := by simp [ix, List.getD, hlt]
        rw [e, indexF, if_pos h1]
      simp [cr98, hall, this]
    · simp [hw]
      exact ⟨i + 1, ⟨by omega, by rw [hall]; exact indexF_shift hlt h1⟩, by omega, Env.le_of (by simp), Mem.le_of rfl (by simp)⟩
  · have hid : i = ds.length := by have := ltI_f.1 h; omega
    subst hid
    simp [h, cr98, hall, indexF]
end Go.Pm

/- LkC14: contracts: the names that an object defines, as the linker says it. -/
namespace Go.Pm
open Go Go.Proofs
attribute [-simp] List.getElem?_map

theorem call79 (d : DDef) (o : Deck) (q : Bool) : PCalls Try.prog 79 [.agg d.av, .iptr q o.av] fun out => out = .ret (.bool (eqS d.name o.name)) := by
  refine ok79.pcalls (by simp) ?_
  simp [c79, cr79, DDef.av, Deck.av]

theorem call78 (p : Bool) (ds : List DDef) (f : FuncId) (caps : List AV) (φ : DDef → Bool) (hl : ds.length ≤ 2000000) (hb : tmpAs ⟨[], 0⟩ caps = some caps) (hb2 : tmpBs ⟨[], 0⟩ caps = some caps)
    (hf : ∀ d, PCalls Try.prog f (.agg d.av :: caps) fun out => out = .ret (.bool (φ d))) :
    PCalls Try.prog 78 [.list p 2 (ds.map DDef.av), .fn f caps] fun out => out = .ret (.bool (leI 0 (indexF φ ds 0))) := by
  refine ok78.pcalls (by simp) ?_
  simp [c78]
  refine xcall_p (call98 p ds f caps φ hl hb hf) (by simp [hb2]) ?_
  simp [cr78]

theorem index_any {α : Type} {φ : α → Bool} : ∀ (l : List α) (n : Nat), leI 0 (indexF φ l n) = l.any φ
  | [], n => by simp [indexF, leI]
  | x :: l, n => by
    rw [indexF, List.any_cons]
    rcases Bool.eq_false_or_eq_true (φ x) with h | h
    · rw [if_pos h, h]; simp [leI]
    · rw [if_neg (by rw [h]; simp), h, index_any l (n + 1)]; rfl

/-- The names that an object defines, its own one ahead. -/
def linkDefs (o : Deck) : List DDef := if o.defs.any (fun d => eqS d.name o.name) then o.defs else ⟨o.name, 0⟩ :: o.defs

theorem call54 (o : Deck) (hs : o.Small) : PCalls Try.prog 54 [.agg o.av] fun out => out = .ret (.list true 2 ((linkDefs o).map DDef.av)) := by
  refine ok54.pcalls (by simp) ?_
  have dl := hs.defs
  have hn := norefL_deck o
  simp [c54, Deck.av]
  refine xcall_p (call78 true o.defs 79 [.iptr false o.av] (fun d => eqS d.name o.name) (by omega) (by simp [tmpAs, tmpA, tmpB]) (by simp) (fun d => call79 d o false)) (by simp [Deck.av]) ?_
  rw [index_any]
  simp
  generalize hb : (o.defs.any fun d => eqS d.name o.name) = b
  refine br_cond rfl (fun h => ?_) (fun h => ?_)
  · have hd : linkDefs o = o.defs := by unfold linkDefs; rw [hb, if_pos h]
    simp [cr54, hd]
  · have hd : linkDefs o = ⟨o.name, 0⟩ :: o.defs := by unfold linkDefs; rw [hb, if_neg (by rw [h]; simp)]
    have hc2 : (1 + o.defs.length) * 24 ≤ 140737488355328 ∧ 1 + o.defs.length ≤ 9223372036854775807 := ⟨by omega, by omega⟩
    simp [cr54, hd, appendA, hc2, List.range_succ, DDef.av]
    rw [if_pos (by omega), List.take_of_length_le (by simp; omega)]
    simp [permLL]
end Go.Pm

/- LkC16: contracts: slices.Grow and slices.Concat of objects; whether all are valid, as the linker says it. -/
namespace Go.Pm
open Go Go.Proofs
attribute [-simp] List.getElem?_map

def deck0 : List AV := [.str ⟨#[]⟩, .str ⟨#[]⟩, .nilS, .nilS, .nilS]

theorem call77 (n : Nat) (m : Mem) (h0 : 0 < n) (hn : n ≤ 4000000) : ACalls Try.prog 77 [.nilS, .int .i64 n] m fun out m' => out = .ret (.row m.store.length m.next 5 0 0) ∧ m' = m.new (.row 51 5 (List.replicate n deck0)) := by
  refine ok77.acalls (by simp) ?_
  have hw : IntKind.i64.wrap n = n := wrap64 (by omega) (by omega)
  have hz : IntKind.i64.wrap 0 = 0 := wrap64 (by omega) (by omega)
  have hf : ltI n 0 = false := ltI_f.2 (by omega)
  have ht : ltI 0 n = true := ltI_t.2 (by omega)
  have hb : (n * 104 ≤ 140737488355328 ∧ (n : Int) ≤ 9223372036854775807) := ⟨by omega, by omega⟩
  simp [c77, cr77, hw, hz, hf, ht, hb, h0, deck0, sliceA, boundsA]

theorem call77z (n : Nat) (m : Mem) (h0 : n = 0) : ACalls Try.prog 77 [.nilS, .int .i64 n] m fun out m' => out = .ret .nilS ∧ m' = m := by
  subst h0
  refine ok77.acalls (by simp) ?_
  have hz : IntKind.i64.wrap 0 = 0 := wrap64 (by omega) (by omega)
  have hf : ltI 0 0 = false := ltI_f.2 (by omega)
  simp [c77, cr77, hf, hz]

def libP (x : Bool × List Deck) : List AV := [.list x.1 5 (x.2.map Deck.av)]
def allOf (xs : List (Bool × List Deck)) : List Deck := (xs.map (·.2)).flatten

@[simp] theorem noref_libP : ∀ xs : List (Bool × List Deck), norefLL (xs.map libP) = true
  | [] => rfl
  | x :: xs => by simp only [List.map_cons, norefLL, noref_libP xs, libP, norefL, AV.noref, noref_decks, Bool.and_self]

theorem allOf_take (xs : List (Bool × List Deck)) {i : Nat} (h : i < xs.length) : allOf (xs.take (i + 1)) = allOf (xs.take i) ++ (ix xs i).2 := by
  unfold allOf
  rw [List.take_add_one, List.map_append, List.flatten_append]
  congr 1
  simp [h, ix, List.getD]
theorem allOf_le (xs : List (Bool × List Deck)) (i : Nat) : (allOf (xs.take i)).length ≤ (allOf xs).length := by
  have : allOf xs = allOf (xs.take i) ++ allOf (xs.drop i) := by
    unfold allOf
    rw [← List.flatten_append, ← List.map_append, List.take_append_drop]
  rw [this, List.length_append]; omega
theorem cat_append (A B : List Deck) (n g nx : Nat) (q : Bool) (h : A.length + B.length ≤ n) (hn : n ≤ 4000000) :
    ∃ g' nx', appendA 51 5 104 ⟨[(g, .row 51 5 (A.map Deck.av ++ List.replicate (n - A.length) deck0))], nx⟩ (.row 0 g 5 0 A.length) (.list q 5 (B.map Deck.av))
      = some (.row 0 g' 5 0 (A ++ B).length, ⟨[(g', .row 51 5 ((A ++ B).map Deck.av ++ List.replicate (n - (A ++ B).length) deck0))], nx'⟩) := by
  have hlen : (A.map Deck.av ++ List.replicate (n - A.length) deck0).length = n := by simp; omega
  by_cases hA : A.length = n
  · have hB : B = [] := List.eq_nil_of_length_eq_zero (by omega)
    subst hB
    refine ⟨nx, nx + 1, ?_⟩
    unfold appendA appendN
    simp only [elsOf, Mem.obj, if_true, List.getElem?_cons_zero, hlen]
    rw [if_pos ⟨trivial, trivial, trivial, trivial, hA, by simp; omega, by simp; omega⟩]
    simp [Mem.turn]
  · refine ⟨g, nx, ?_⟩
    unfold appendA appendN
    simp only [elsOf, Mem.obj, if_true, List.getElem?_cons_zero, hlen]
    rw [if_neg (fun h => hA h.2.2.2.2.1), if_pos ⟨trivial, trivial, trivial, trivial, by simp; omega⟩]
    have e1 : (A.map Deck.av ++ List.replicate (n - A.length) deck0).take A.length = A.map Deck.av := List.take_left' (by simp)
    have e2 : (A.map Deck.av ++ List.replicate (n - A.length) deck0).drop (A.length + (B.map Deck.av).length) = List.replicate (n - (A ++ B).length) deck0 := by
      rw [← List.drop_drop, List.drop_left' (by simp), List.drop_replicate]
      congr 1
      simp; omega
    rw [e1, e2]
    simp [Mem.put]

theorem call51 (p : Bool) (xs : List (Bool × List Deck)) (hl : xs.length ≤ 4000000) (hs : (allOf xs).length ≤ 4000000) :
    PCalls Try.prog 51 [.list p 1 (xs.map libP)] fun out => out = .ret (.list true 5 ((allOf xs).map Deck.av)) := by
  refine ok51.pcalls (by simp) ?_
  simp [c51]
  refine wpS_loop (ι := Nat) (fun i => [(0, .list p 1 (xs.map libP)), (3, .int .i64 (allOf (xs.take i)).length), (9, .list p 1 (xs.map libP)), (10, .int .i64 xs.length), (11, .int .i64 i)]) (fun _ => ⟨[], 0⟩) (fun i => xs.length - i)
    (fun i => i ≤ xs.length) 0 (by simp) (Env.le_of (by simp [allOf])) (by simp) ?_
  intro i hi
  have hw : IntKind.i64.wrap (i + 1) = i + 1 := wrap64 (by omega) (by omega)
  simp
  refine br_cond rfl (fun h => ?_) (fun h => ?_)
  · have hlt : i < xs.length := by have := ltI_t.1 h; omega
    have e1 := allOf_take xs hlt
    have e2 := allOf_le xs (i + 1)
    have e3 : (allOf (xs.take (i + 1))).length = (allOf (xs.take i)).length + (ix xs i).2.length := by rw [e1, List.length_append]
    have hws : IntKind.i64.wrap ((allOf (xs.take i)).length + (ix xs i).2.length) = (allOf (xs.take (i + 1))).length := by rw [e3]; rw [wrap64 (by omega) (by omega)]; simp
    have hneg : ltI (allOf (xs.take (i + 1))).length 0 = false := ltI_f.2 (by omega)
    simp [h, idxM, libP, hws, hneg, hw]
    exact ⟨i + 1, by omega, by omega, Env.le_of (by simp), Mem.le_of rfl (by simp)⟩
  · have hil : i = xs.length := by have := ltI_f.1 h; omega
    subst hil
    rw [List.take_length]
    simp [h]
    generalize hn : (allOf xs).length = n at *
    have step : ∀ fs Q, (∀ g nx, wpS Try.prog Lk.imp .skip fs Q [(0, .list p 1 (xs.map libP)), (6, .row 0 g 5 0 n)] ⟨[(g, .row 51 5 ((allOf xs).map Deck.av))], nx⟩) → True := fun _ _ _ => trivial
    have loop2 : ∀ (e : Env) (m : Mem) a fs Q, Sim [(6, .row 0 0 5 0 0), (25, .list p 1 (xs.map libP)), (26, .int .i64 xs.length), (27, .int .i64 0)] ⟨[(0, .row 51 5 (List.replicate n deck0))], 1⟩ e m →
        (∀ i g nx, i ≤ xs.length → wpS Try.prog Lk.imp a (.loop (fun e m => ∃ s' : Nat × Nat × Nat, s'.1 ≤ xs.length ∧ xs.length - s'.1 < xs.length - i ∧ Sim [(6, .row 0 s'.2.1 5 0 (allOf (xs.take s'.1)).length), (25, .list p 1 (xs.map libP)), (26, .int .i64 xs.length), (27, .int .i64 s'.1)]
          ⟨[(s'.2.1, .row 51 5 ((allOf (xs.take s'.1)).map Deck.av ++ List.replicate (n - (allOf (xs.take s'.1)).length) deck0))], s'.2.2⟩ e m) :: fs) Q [(6, .row 0 g 5 0 (allOf (xs.take i)).length), (25, .list p 1 (xs.map libP)), (26, .int .i64 xs.length), (27, .int .i64 i)]
          ⟨[(g, .row 51 5 ((allOf (xs.take i)).map Deck.av ++ List.replicate (n - (allOf (xs.take i)).length) deck0))], nx⟩) → wpS Try.prog Lk.imp (.loop a) fs Q e m := by
      intro e m a fs Q hsim hstep
      exact wpS_loopS (ι := Nat × Nat × Nat) (fun s => [(6, .row 0 s.2.1 5 0 (allOf (xs.take s.1)).length), (25, .list p 1 (xs.map libP)), (26, .int .i64 xs.length), (27, .int .i64 s.1)])
        (fun s => ⟨[(s.2.1, .row 51 5 ((allOf (xs.take s.1)).map Deck.av ++ List.replicate (n - (allOf (xs.take s.1)).length) deck0))], s.2.2⟩) (fun s => xs.length - s.1) (fun s => s.1 ≤ xs.length) (0, 0, 1) (Nat.zero_le _) (by simpa [allOf] using hsim) (fun s hs => hstep s.1 s.2.1 s.2.2 hs)
    rcases Nat.eq_zero_or_pos n with h0 | h0
    refine xcall_a (call77z n _ h0) ?_
    simp
    refine loop2 _ _ _ _ _ (by rw [h0]; exact Sim.trans (Sim.of_le (Env.le_of (by simp)) (Mem.le_of rfl (by simp))) (Sim.nil_env 6 51 (sz := 5) (by omega) (by simp))) ?_
    rotate_left
    refine xcall_a (call77 n _ h0 hs) ?_
    simp
    refine loop2 _ _ _ _ _ (Sim.of_le (Env.le_of (by simp)) (Mem.le_of rfl (by simp))) ?_
    all_goals clear step loop2
    all_goals intro i g nx hi
    all_goals have hw : IntKind.i64.wrap (i + 1) = i + 1 := wrap64 (by omega) (by omega)
    all_goals simp
    all_goals refine br_cond rfl (fun h => ?_) (fun h => ?_)
    all_goals simp [h]
    iterate 2
      · have hlt : i < xs.length := by have := ltI_t.1 h; omega
        have e1 := allOf_take xs hlt
        have e2 := allOf_le xs (i + 1)
        rw [e1, List.length_append] at e2
        obtain ⟨g', nx', ha⟩ := cat_append (allOf (xs.take i)) (ix xs i).2 n g nx (ix xs i).1 (by omega) hs
        simp [h, idxM, libP, ha, hw]
        exact ⟨i + 1, by omega, by omega, g', nx', Sim.of_le (Env.le_of (by simp [e1])) (Mem.le_of rfl (by simp [e1]))⟩
      · have hil : i = xs.length := by have := ltI_f.1 h; omega
        subst hil
        rw [List.take_length, hn]
        simp [cr51, ← hn]

theorem all_mid {α : Type} [Inhabited α] {p : α → Bool} {l : List α} {i : Nat} (h : i < l.length) (hf : p (ix l i) = false) : l.all p = false := by
  cases ha : l.all p with
  | false => rfl
  | true => rw [List.all_eq_true] at ha; rw [ha _ (ix_mem h)] at hf; cases hf

theorem call23 (p q : Bool) (l : List Deck) (libs : List (List Deck)) (hl : SmallL l) (hb : SmallLL libs) (hlib : libs.length ≤ 2000000) (hsum : l.length + libs.flatten.length ≤ 2000000) :
    PCalls Try.prog 23 [.list p 5 (l.map Deck.av), .list q 1 (libs.map libAV)] fun out => out = .ret (.bool (allF l libs)) := by
  refine ok23.pcalls (by simp) ?_
  have hc : (1 + libs.length) * 24 ≤ 140737488355328 ∧ 1 + libs.length ≤ 9223372036854775807 := ⟨by omega, by omega⟩
  obtain ⟨xs, hxs⟩ : ∃ xs : List (Bool × List Deck), xs = (p, l) :: libs.map fun x => (true, x) := ⟨_, rfl⟩
  have hx1 : [AV.list p 5 (l.map Deck.av)] :: libs.map libAV = xs.map libP := by
    rw [hxs, List.map_cons, List.map_map]; rfl
  have hx2 : allOf xs = l ++ libs.flatten := by
    rw [hxs]
    unfold allOf
    rw [List.map_cons, List.flatten_cons, List.map_map]
    congr 2
    exact List.map_id _
  have hxl : xs.length = 1 + libs.length := by rw [hxs]; simp; omega
  have hall : allF l libs = (l ++ libs.flatten).all deckOk := by
    unfold allF
    rw [List.all_append]
    congr 1
    induction libs with
    | nil => rfl
    | cons x libs ih => simp [List.all_append] at ih ⊢
  have hds : ∀ o ∈ l ++ libs.flatten, o.Small := by
    intro o ho
    rcases List.mem_append.1 ho with ho | ho
    · exact hl.each o ho
    · obtain ⟨x, hx, ho⟩ := List.mem_flatten.1 ho
      exact (hb.each x hx).each o ho
  simp [c23, appendA, hc, List.range_succ]
  rw [hx1, show 1 + libs.length = xs.length from hxl.symm]
  refine xcall_p (call51 false xs (by omega) (by rw [hx2, List.length_append]; omega)) (by simp) ?_
  rw [hx2]
  rw [hall]
  have hdl : (l ++ libs.flatten).length ≤ 2000000 := by rw [List.length_append]; exact hsum
  generalize hd : l ++ libs.flatten = ds at *
  simp
  refine wpS_loopS (ι := Nat × Nat) (fun s => [(11, .list true 5 (ds.map Deck.av)), (12, .int .i64 ds.length), (13, .int .i64 s.1)]) (fun s => ⟨[], s.2⟩) (fun s => ds.length - s.1)
    (fun s => s.1 ≤ ds.length ∧ ds.all deckOk = (ds.drop s.1).all deckOk) (0, 2) (by simp) (Sim.of_le (Env.le_of (by simp)) (Mem.le_of rfl (by simp))) ?_
  intro ⟨i, nx⟩ ⟨hi, hia⟩
  simp only at hi hia
  have hw : IntKind.i64.wrap (i + 1) = i + 1 := wrap64 (by omega) (by omega)
  simp
  refine br_cond rfl (fun h => ?_) (fun h => ?_)
  · have hlt : i < ds.length := by have := ltI_t.1 h; omega
    rw [drop_ix hlt, List.all_cons] at hia
    simp [h, idxM, deck_take]
    refine xcall_p (call52 (ix ds i) (hds _ (ix_mem hlt))) (by simp) ?_
    simp
    refine br_cond rfl (fun h1 => ?_) (fun h1 => ?_)
    · have h1' : deckOk (ix ds i) = false := by simpa using h1
      rw [h1'] at hia
      simp [cr23, hia]
    · have h1' : deckOk (ix ds i) = true := by simpa using h1
      rw [h1', Bool.true_and] at hia
      simp [hw]
      exact ⟨i + 1, ⟨by omega, hia⟩, by omega, nx + 1, Sim.of_le (Env.le_of (by simp)) (Mem.le_of rfl (by simp))⟩
  · have hil : i = ds.length := by have := ltI_f.1 h; omega
    rw [hil, List.drop_length] at hia
    simp [h, cr23, hia]
end Go.Pm

/- LkL: the linker's state, as values and in memory. -/
namespace Go.Pm
open Go Go.Proofs
attribute [-simp] List.getElem?_map

section
variable {α : Type} (p q : List α) (k : Nat) (x : α)
@[simp] theorem preL_get0 : (p ++ q)[p.length]? = q[0]? := by simp [List.getElem?_append_right]
@[simp] theorem preL_get : (p ++ q)[p.length + k]? = q[k]? := by simp [List.getElem?_append_right]
@[simp] theorem preL_set0 : (p ++ q).set p.length x = p ++ q.set 0 x := by simp
@[simp] theorem preL_set : (p ++ q).set (p.length + k) x = p ++ q.set k x := by simp
@[simp] theorem preL_take : (p ++ q).take (p.length + k) = p ++ q.take k := by rw [List.take_append, List.take_of_length_le (by omega)]; simp
end

theorem Sim.after {e'' e' e : Env} {m'' m' m : Mem} (h1 : Sim e' m' e m) (h2 : Sim e'' m'' e' m') : Sim e'' m'' e m := h2.trans h1

theorem ACalls.forget {P : Program} {f : FuncId} {xs : List AV} {m : Mem} {R : AOut → Mem → Prop} (h : ACalls P f xs m fun out m' => ∃ m'', Mem.le m'' m' ∧ R out m'') : ACalls P f xs m R :=
  h.sim fun out m' ⟨m'', h1, h2⟩ => ⟨out, m'', h2, SimO.forget h1⟩

/-- Names with their places, as a map. -/
def namesM (l : List DDef) : List (AV × AV) := l.map fun d => (.str d.name, .int .i64 d.at_)
theorem findN (n : ByteArray) : ∀ l : List DDef, findA (.str n) (namesM l) = some ((outerF l n).map (AV.int .i64))
  | [] => rfl
  | d :: l => by
    have ih := findN n l
    unfold namesM outerF at ih ⊢
    rw [List.map_cons, findA]
    simp only [keyEq, beq_eqS, List.find?_cons]
    rcases Bool.eq_false_or_eq_true (eqS d.name n) with h | h
    · simp [h]
    · simpa [h] using ih
theorem updN (n : ByteArray) (v : Int) : ∀ l : List DDef, outerF l n = none → updA (.str n) (.int .i64 v) (namesM l) = some (namesM (l ++ [⟨n, v⟩]))
  | [], _ => rfl
  | d :: l, h => by
    have hd : eqS d.name n = false := by
      rcases Bool.eq_false_or_eq_true (eqS d.name n) with h1 | h1
      · simp [outerF, h1] at h
      · exact h1
    have hl : outerF l n = none := by simpa [outerF, hd] using h
    have ih := updN n v l hl
    unfold namesM at ih ⊢
    rw [List.map_cons, updA]
    simp only [keyEq, beq_eqS, hd]
    rw [ih]; rfl

/-- What the linker has put together so far. -/
structure LSt where
  objs : List Deck
  places : List DDef
  nmap : List DDef
  own : List ByteArray
  defs : List DDef
  lines : List DLine
  end_ : Int

/-- Generations: of the first object (two maps and the struct), of the rows. -/
structure LG where
  a : Nat
  o : Nat
  n : Nat
  d : Nat
  l : Nat

def lkCells (L : Nat) (base : Int) (G : LG) (s : LSt) : List AV :=
  [.int .i64 base, .str ⟨#[]⟩, .row (L + 5) G.d 2 0 s.defs.length, .row (L + 6) G.l 2 0 s.lines.length, .row (L + 4) G.n 2 0 s.places.length, .row (L + 3) G.o 5 0 s.objs.length, .map L G.a, .map (L + 1) (G.a + 1), .int .i64 s.end_]
/-- The linker's objects behind L others. -/
def lkObjs (L : Nat) (base : Int) (G : LG) (s : LSt) : List (Nat × AObj) :=
  [(G.a, .map (namesM s.nmap)), (G.a + 1, .map (setS s.own)), (G.a + 2, .cells (lkCells L base G s)),
   (G.o, .row 51 5 (s.objs.map Deck.av)), (G.n, .row 40 2 (s.places.map DDef.av)), (G.d, .row 40 2 (s.defs.map DDef.av)), (G.l, .row 102 2 (s.lines.map DLine.av))]

def LSt.start (base : Int) : LSt := ⟨[], [], [], [], [], [], base⟩

def upF (n : Int) : Int := (n + 7) / 8 * 8

/-- The names that an object defines. -/
def putNames (at_ : Int) (once : Bool) : List DDef → LSt → Except ByteArray LSt
  | [], s => .ok s
  | d :: ds, s => if (outerF s.nmap d.name).isSome then (if once then .error d.name else putNames at_ once ds s)
    else putNames at_ once ds { s with nmap := s.nmap ++ [⟨d.name, at_ + d.at_⟩], defs := s.defs ++ [⟨d.name, at_ + d.at_⟩] }
def putL (once : Bool) (s : LSt) (o : Deck) : Except ByteArray LSt :=
  if once && ((outerF s.nmap o.name).isSome || hasS s.own o.name) then .error o.name else
  match putNames (upF s.end_) once (linkDefs o) { s with own := addS s.own o.name, objs := s.objs ++ [o], places := s.places ++ [⟨o.name, upF s.end_⟩] } with
  | .error n => .error n
  | .ok s' => .ok { s' with lines := s'.lines ++ o.lines.map (fun x => ⟨upF s.end_ + x.at_, x.stmt⟩), end_ := upF s.end_ + o.code.size }

structure Deck.Fit (o : Deck) : Prop where
  small : o.Small
  code : o.code.size ≤ 20000
  defs : ∀ d ∈ o.defs, 0 ≤ d.at_ ∧ d.at_ ≤ 1048576
  lines : ∀ d ∈ o.lines, 0 ≤ d.at_ ∧ d.at_ ≤ 1048576

/-- Numbers that the linker reckons with are small. -/
structure LSt.Small (s : LSt) : Prop where
  objs : s.objs.length ≤ 2000000
  fit : ∀ o ∈ s.objs, o.Fit
  places : s.places.length = s.objs.length
  defs : s.defs.length ≤ s.objs.length * 1048577
  lines : s.lines.length ≤ s.objs.length * 1048576
  end0 : 0 ≤ s.end_
  end1 : s.end_ ≤ 65536 + s.objs.length * 20008

theorem call26 (base : Int) (pre : List (Nat × AObj)) (nx : Nat) : ACalls Try.prog 26 [.int .i64 base, .nilS] ⟨pre, nx⟩ fun out m => out = .ret (.ptr (pre.length + 2) (nx + 2) 0) ∧
    m = ⟨pre ++ lkObjs pre.length base ⟨nx, nx + 3, nx + 4, nx + 5, nx + 6⟩ (.start base), nx + 7⟩ := by
  refine ACalls.sim (R := fun out m => out = .ret (.ptr (pre.length + 2) (nx + 2) 0) ∧ m = ⟨pre ++ [(nx, .map []), (nx + 1, .map []), (nx + 2, .cells [.int .i64 base, .str ⟨#[]⟩, .nilS, .nilS, .nilS, .nilS, .map pre.length nx, .map (pre.length + 1) (nx + 1), .int .i64 base])], nx + 3⟩) ?_ ?_
  · refine ok26.acalls (by simp) ?_
    have hf : ltI 0 0 = false := ltI_f.2 (by omega)
    simp [c26]
    refine wpS_loop (ι := Unit) (fun _ => [(5, .ptr (pre.length + 2) (nx + 2) 0), (15, .nilS), (16, .int .i64 0), (17, .int .i64 0)]) (fun _ => ⟨pre ++ [(nx, .map []), (nx + 1, .map []), (nx + 2, .cells [.int .i64 base, .str ⟨#[]⟩, .nilS, .nilS, .nilS, .nilS, .map pre.length nx, .map (pre.length + 1) (nx + 1), .int .i64 base])], nx + 3⟩) (fun _ => 0) (fun _ => True) () trivial (Env.le_of (by simp)) (by simp) ?_
    intro _ _
    simp [hf, cr26]
  · rintro out m ⟨rfl, rfl⟩
    refine ⟨_, _, ⟨rfl, rfl⟩, ?_⟩
    have nilAt : ∀ (a b : Nat × AObj) (g : Nat) (vs : List AV) (rest : List (Nat × AObj)) (n i et : Nat) {sz : Nat}, 0 < sz → vs[i]? = some .nilS → ∀ out,
        SimO out ⟨pre ++ a :: b :: (g, .cells (vs.set i (.row (pre.length + (3 + rest.length)) n sz 0 0))) :: (rest ++ [(n, .row et sz [])]), n + 1⟩ out ⟨pre ++ a :: b :: (g, .cells vs) :: rest, n⟩ := by
      intro a b g vs rest n i et sz hsz hi out
      have h := SimO.nil_cell (out := out) (m := ⟨pre ++ a :: b :: (g, .cells vs) :: rest, n⟩) (pos := pre.length + 2) (g := g) i et hsz (by rw [preL_get]; rfl) hi
      have e : (pre ++ a :: b :: (g, AObj.cells vs) :: rest).length = pre.length + (3 + rest.length) := by simp; omega
      simp only [Mem.new, Mem.put, e, List.append_assoc, preL_set] at h
      exact h
    exact SimO.trans (nilAt _ _ _ _ [_, _, _] (nx + 6) 3 102 (by omega) rfl _) (SimO.trans (nilAt _ _ _ _ [_, _] (nx + 5) 2 40 (by omega) rfl _) (SimO.trans (nilAt _ _ _ _ [_] (nx + 4) 4 40 (by omega) rfl _) (nilAt _ _ _ _ [] (nx + 3) 5 51 (by omega) rfl _)))
end Go.Pm
