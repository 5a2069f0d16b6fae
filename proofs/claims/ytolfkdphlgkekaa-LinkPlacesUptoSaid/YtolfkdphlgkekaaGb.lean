/- LkS4: code, resolved. Written by gen.py out of what ShowSC.lean printed. -/
import Derived.Test.YtolfkdphlgkekaaGa
import Derived.Shelf.SlSortCmp.WholeK
import Derived.Shelf.SlSortCmp.NoneTotal
namespace Go.Pm
open Go Go.Proofs

/-- ironbark/ironbarkref34.double -/
def c36 : SC :=
  (.seq (.ops [⟨(some 2), .plain .mv, [.lit (.str ⟨#[]⟩)], none⟩] [])
  (.seq (.ops [⟨(some 8), .plain .mkMap, [], none⟩,
    ⟨(some 3), .plain .mv, [.tmp 8], none⟩] [8])
  (.seq (.seq (.ops [⟨(some 4), .plain .mv, [.lit (.int .i64 0)], none⟩] [])
  (.block 0
   (.loop
    (.seq (.seq (.ops [⟨(some 9), .plain .mv, [.tmp 4], none⟩,
      ⟨(some 10), .plain .mv, [.tmp 0], none⟩,
      ⟨(some 11), .plain (.len 1), [.tmp 10], none⟩,
      ⟨(some 12), .plain (.bin .lss), [.tmp 9, .tmp 11], none⟩] [9, 10, 11])
    (.cond (.tmp 12)
     .skip
     (.exit 0)))
    (.seq (.block 1
     (.seq (.seq (.ops [⟨(some 15), .plain .mv, [.tmp 3], none⟩,
       ⟨(some 16), .plain .mv, [.tmp 0], none⟩,
       ⟨(some 17), .plain .mv, [.tmp 4], none⟩,
       ⟨(some 18), .plain (.indexAddr 5), [.tmp 16, .tmp 17], none⟩,
       ⟨(some 19), .plain (.fieldAddr 0), [.tmp 18], none⟩,
       ⟨(some 20), .plain (.load false 1), [.tmp 19], none⟩,
       ⟨(some 21), .plain (.lookup .str (.bool false) false), [.tmp 15, .tmp 20], none⟩] [15, 16, 17, 18, 19, 20])
     (.cond (.tmp 21)
      (.seq (.ops [⟨(some 22), .plain .mv, [.tmp 0], none⟩,
        ⟨(some 23), .plain .mv, [.tmp 4], none⟩,
        ⟨(some 24), .plain (.indexAddr 5), [.tmp 22, .tmp 23], none⟩,
        ⟨(some 25), .plain (.fieldAddr 0), [.tmp 24], none⟩,
        ⟨(some 26), .plain (.load false 1), [.tmp 25], none⟩,
        ⟨(some 2), .plain .mv, [.tmp 26], none⟩] [22, 23, 24, 25, 26])
      .ret)
      .skip))
     (.seq (.seq (.ops [⟨(some 5), .plain .mv, [.lit (.int .i64 0)], none⟩] [])
     (.block 2
      (.loop
       (.seq (.seq (.ops [⟨(some 27), .plain .mv, [.tmp 5], none⟩,
         ⟨(some 28), .plain .mv, [.tmp 0], none⟩,
         ⟨(some 29), .plain .mv, [.tmp 4], none⟩,
         ⟨(some 30), .plain (.indexAddr 5), [.tmp 28, .tmp 29], none⟩,
         ⟨(some 31), .plain (.fieldAddr 2), [.tmp 30], none⟩,
         ⟨(some 32), .plain (.load false 1), [.tmp 31], none⟩,
         ⟨(some 33), .plain (.len 1), [.tmp 32], none⟩,
         ⟨(some 34), .plain (.bin .lss), [.tmp 27, .tmp 33], none⟩] [27, 28, 29, 30, 31, 32, 33])
       (.cond (.tmp 34)
        .skip
        (.exit 2)))
       (.seq (.block 3
        (.seq (.ops [⟨(some 37), .plain .mv, [.tmp 3], none⟩,
          ⟨(some 38), .plain .mv, [.tmp 0], none⟩,
          ⟨(some 39), .plain .mv, [.tmp 4], none⟩,
          ⟨(some 40), .plain (.indexAddr 5), [.tmp 38, .tmp 39], none⟩,
          ⟨(some 41), .plain (.fieldAddr 2), [.tmp 40], none⟩,
          ⟨(some 42), .plain (.load false 1), [.tmp 41], none⟩,
          ⟨(some 43), .plain .mv, [.tmp 5], none⟩,
          ⟨(some 44), .plain (.indexAddr 2), [.tmp 42, .tmp 43], none⟩,
          ⟨(some 45), .plain (.fieldAddr 0), [.tmp 44], none⟩,
          ⟨(some 46), .plain (.load false 1), [.tmp 45], none⟩,
          ⟨(some 47), .plain (.lookup .str (.bool false) false), [.tmp 37, .tmp 46], none⟩] [37, 38, 39, 40, 41, 42, 43, 44, 45, 46])
        (.cond (.tmp 47)
         (.seq (.ops [⟨(some 48), .plain .mv, [.tmp 0], none⟩,
           ⟨(some 49), .plain .mv, [.tmp 4], none⟩,
           ⟨(some 50), .plain (.indexAddr 5), [.tmp 48, .tmp 49], none⟩,
           ⟨(some 51), .plain (.fieldAddr 2), [.tmp 50], none⟩,
           ⟨(some 52), .plain (.load false 1), [.tmp 51], none⟩,
           ⟨(some 53), .plain .mv, [.tmp 5], none⟩,
           ⟨(some 54), .plain (.indexAddr 2), [.tmp 52, .tmp 53], none⟩,
           ⟨(some 55), .plain (.fieldAddr 0), [.tmp 54], none⟩,
           ⟨(some 56), .plain (.load false 1), [.tmp 55], none⟩,
           ⟨(some 2), .plain .mv, [.tmp 56], none⟩] [48, 49, 50, 51, 52, 53, 54, 55, 56])
         .ret)
         .skip)))
       (.ops [⟨(some 35), .plain .mv, [.tmp 5], none⟩,
         ⟨(some 36), .plain (.bin .add), [.tmp 35, .lit (.int .i64 1)], none⟩,
         ⟨(some 5), .plain .mv, [.tmp 36], none⟩] [35, 36]))))))
     (.seq (.ops [⟨(some 57), .plain .mv, [.tmp 0], none⟩,
       ⟨(some 58), .plain .mv, [.tmp 4], none⟩,
       ⟨(some 59), .plain (.indexAddr 5), [.tmp 57, .tmp 58], none⟩,
       ⟨(some 60), .plain (.load true 5), [.tmp 59], none⟩,
       ⟨(some 61), .call 64, [.tmp 60], none⟩,
       ⟨(some 6), .plain .mv, [.tmp 61], none⟩] [57, 58, 59, 60, 61])
     (.seq (.ops [⟨(some 7), .plain .mv, [.lit (.int .i64 0)], none⟩] [])
     (.block 4
      (.loop
       (.seq (.seq (.ops [⟨(some 62), .plain .mv, [.tmp 7], none⟩,
         ⟨(some 63), .plain .mv, [.tmp 6], none⟩,
         ⟨(some 64), .plain (.len 1), [.tmp 63], none⟩,
         ⟨(some 65), .plain (.bin .lss), [.tmp 62, .tmp 64], none⟩] [62, 63, 64])
       (.cond (.tmp 65)
        .skip
        (.exit 4)))
       (.seq (.block 5
        (.ops [⟨(some 68), .plain .mv, [.tmp 3], none⟩,
          ⟨(some 69), .plain .mv, [.tmp 6], none⟩,
          ⟨(some 70), .plain .mv, [.tmp 7], none⟩,
          ⟨(some 71), .plain (.indexAddr 2), [.tmp 69, .tmp 70], none⟩,
          ⟨(some 72), .plain (.fieldAddr 0), [.tmp 71], none⟩,
          ⟨(some 73), .plain (.load false 1), [.tmp 72], none⟩,
          ⟨none, .plain (.mapUpdate .str), [.tmp 68, .tmp 73, .lit (.bool true)], none⟩] [68, 69, 70, 71, 72, 73]))
       (.ops [⟨(some 66), .plain .mv, [.tmp 7], none⟩,
         ⟨(some 67), .plain (.bin .add), [.tmp 66, .lit (.int .i64 1)], none⟩,
         ⟨(some 7), .plain .mv, [.tmp 67], none⟩] [66, 67]))))))))))
    (.ops [⟨(some 13), .plain .mv, [.tmp 4], none⟩,
      ⟨(some 14), .plain (.bin .add), [.tmp 13, .lit (.int .i64 1)], none⟩,
      ⟨(some 4), .plain .mv, [.tmp 14], none⟩] [13, 14]))))))
  (.seq (.ops [⟨(some 2), .plain .mv, [.lit (.str ⟨#[]⟩)], none⟩] [])
  .ret))))
def cr36 : List Res := [(2, none)]
theorem ok36 : FOk Try.prog Lk.imp 36 c36 cr36 Try.f36.ntmps := ⟨Try.f36, _, Try.func36, rfl, by kernel_rfl, by kernel_rfl, by kernel_rfl, rfl⟩

/-- ironbark/ironbarkref34.gathered -/
def c37 : SC :=
  (.seq (.ops [⟨(some 6), .plain .mv, [.lit .nilS], none⟩,
    ⟨(some 7), .plain .mv, [.lit .nilS], none⟩] [])
  (.seq (.ops [⟨(some 16), .plain .mv, [.tmp 0], none⟩,
    ⟨(some 17), .plain (.append 51 5 104), [.lit .nilS, .tmp 16], none⟩,
    ⟨(some 0), .plain .mv, [.tmp 17], none⟩] [16, 17])
  (.block 0
   (.loop
    (.block 1
     (.seq (.ops [⟨(some 8), .plain .mv, [.lit .nilS], none⟩] [])
     (.seq (.ops [⟨(some 9), .plain (.alloc [(.str ⟨#[]⟩), (.str ⟨#[]⟩), .nilS, .nilS, .nilS]), [], none⟩] [])
     (.seq (.ops [⟨(some 10), .plain .mv, [.lit (.bool false)], none⟩] [])
     (.seq (.seq (.ops [⟨(some 11), .plain .mv, [.lit (.int .i64 0)], none⟩] [])
     (.block 2
      (.loop
       (.seq (.seq (.ops [⟨(some 18), .plain .mv, [.tmp 11], none⟩,
         ⟨(some 19), .plain .mv, [.tmp 0], none⟩,
         ⟨(some 20), .plain (.len 1), [.tmp 19], none⟩,
         ⟨(some 21), .plain (.bin .lss), [.tmp 18, .tmp 20], none⟩,
         ⟨(some 22), .plain .mv, [.tmp 21], none⟩,
         ⟨(some 23), .plain .mv, [.tmp 10], (some (22, true))⟩,
         ⟨(some 24), .plain (.un .not), [.tmp 23], (some (22, true))⟩,
         ⟨(some 25), .plain .pick, [.tmp 22, .tmp 24, .lit (.bool false)], none⟩] [18, 19, 20, 21, 22, 23, 24])
       (.cond (.tmp 25)
        .skip
        (.exit 2)))
       (.seq (.block 3
        (.seq (.ops [⟨(some 12), .plain .mv, [.lit (.int .i64 0)], none⟩] [])
        (.block 4
         (.loop
          (.seq (.seq (.ops [⟨(some 28), .plain .mv, [.tmp 12], none⟩,
            ⟨(some 29), .plain .mv, [.tmp 0], none⟩,
            ⟨(some 30), .plain .mv, [.tmp 11], none⟩,
            ⟨(some 31), .plain (.indexAddr 5), [.tmp 29, .tmp 30], none⟩,
            ⟨(some 32), .plain (.fieldAddr 3), [.tmp 31], none⟩,
            ⟨(some 33), .plain (.load false 1), [.tmp 32], none⟩,
            ⟨(some 34), .plain (.len 1), [.tmp 33], none⟩,
            ⟨(some 35), .plain (.bin .lss), [.tmp 28, .tmp 34], none⟩,
            ⟨(some 36), .plain .mv, [.tmp 35], none⟩,
            ⟨(some 37), .plain .mv, [.tmp 10], (some (36, true))⟩,
            ⟨(some 38), .plain (.un .not), [.tmp 37], (some (36, true))⟩,
            ⟨(some 39), .plain .pick, [.tmp 36, .tmp 38, .lit (.bool false)], none⟩] [28, 29, 30, 31, 32, 33, 34, 35, 36, 37, 38])
          (.cond (.tmp 39)
           .skip
           (.exit 4)))
          (.seq (.block 5
           (.seq (.ops [⟨(some 42), .plain .mv, [.tmp 0], none⟩,
             ⟨(some 43), .plain .mv, [.tmp 11], none⟩,
             ⟨(some 44), .plain (.indexAddr 5), [.tmp 42, .tmp 43], none⟩,
             ⟨(some 45), .plain (.fieldAddr 3), [.tmp 44], none⟩,
             ⟨(some 46), .plain (.load false 1), [.tmp 45], none⟩,
             ⟨(some 47), .plain .mv, [.tmp 12], none⟩,
             ⟨(some 48), .plain (.indexAddr 3), [.tmp 46, .tmp 47], none⟩,
             ⟨(some 49), .plain (.fieldAddr 1), [.tmp 48], none⟩,
             ⟨(some 50), .plain (.load false 1), [.tmp 49], none⟩,
             ⟨(some 13), .plain .mv, [.tmp 50], none⟩] [42, 43, 44, 45, 46, 47, 48, 49, 50])
           (.seq (.seq (.ops [⟨(some 52), .plain .mv, [.tmp 2], none⟩,
             ⟨(some 53), .plain .mv, [.tmp 13], none⟩,
             ⟨(some 54), .call 65, [.tmp 52, .tmp 53], none⟩,
             ⟨(some 51), .plain .mv, [.tmp 54], none⟩,
             ⟨(some 55), .plain (.extract 0), [.tmp 51], none⟩,
             ⟨(some 56), .plain (.extract 1), [.tmp 51], none⟩,
             ⟨(some 14), .plain .mv, [.tmp 55], none⟩,
             ⟨(some 15), .plain .mv, [.tmp 56], none⟩] [52, 53, 54, 51, 55, 56, 14])
           (.seq (.ops [⟨(some 57), .plain .mv, [.tmp 15], none⟩,
             ⟨(some 58), .plain .mv, [.tmp 57], none⟩,
             ⟨(some 59), .plain .mv, [.tmp 0], (some (58, false))⟩,
             ⟨(some 60), .plain .mv, [.tmp 13], (some (58, false))⟩,
             ⟨(some 61), .call 66, [.tmp 59, .tmp 60], (some (58, false))⟩,
             ⟨(some 62), .plain .pick, [.tmp 58, .lit (.bool true), .tmp 61], none⟩] [57, 58, 59, 60, 61])
           (.cond (.tmp 62)
            (.exit 5)
            .skip)))
           (.seq (.ops [⟨(some 64), .plain .mv, [.tmp 0], none⟩,
             ⟨(some 65), .plain .mv, [.tmp 1], none⟩,
             ⟨(some 66), .plain .mv, [.tmp 13], none⟩,
             ⟨(some 67), .call 67, [.tmp 64, .tmp 65, .tmp 66], none⟩,
             ⟨(some 63), .plain .mv, [.tmp 67], none⟩,
             ⟨(some 68), .plain (.extract 0), [.tmp 63], none⟩,
             ⟨(some 69), .plain (.extract 1), [.tmp 63], none⟩,
             ⟨none, .plain (.store 5), [.tmp 9, .tmp 68], none⟩,
             ⟨(some 10), .plain .mv, [.tmp 69], none⟩] [64, 65, 66, 67, 63, 68, 69])
           (.seq (.ops [⟨(some 70), .plain .mv, [.tmp 10], none⟩,
             ⟨(some 71), .plain (.un .not), [.tmp 70], none⟩] [70])
           (.cond (.tmp 71)
            (.ops [⟨(some 72), .plain .mv, [.tmp 8], none⟩,
              ⟨(some 73), .plain .mv, [.tmp 13], none⟩,
              ⟨(some 74), .plain (.buildRow 9 1 1 [(.str ⟨#[]⟩)] [0]), [.tmp 73], none⟩,
              ⟨(some 75), .plain (.append 9 1 16), [.tmp 72, .tmp 74], none⟩,
              ⟨(some 8), .plain .mv, [.tmp 75], none⟩] [72, 73, 74, 75])
            .skip))))))
          (.ops [⟨(some 40), .plain .mv, [.tmp 12], none⟩,
            ⟨(some 41), .plain (.bin .add), [.tmp 40, .lit (.int .i64 1)], none⟩,
            ⟨(some 12), .plain .mv, [.tmp 41], none⟩] [40, 41])))))))
       (.ops [⟨(some 26), .plain .mv, [.tmp 11], none⟩,
         ⟨(some 27), .plain (.bin .add), [.tmp 26, .lit (.int .i64 1)], none⟩,
         ⟨(some 11), .plain .mv, [.tmp 27], none⟩] [26, 27]))))))
     (.seq (.seq (.ops [⟨(some 76), .plain .mv, [.tmp 10], none⟩,
       ⟨(some 77), .plain (.un .not), [.tmp 76], none⟩] [76])
     (.cond (.tmp 77)
      (.seq (.ops [⟨(some 78), .plain .mv, [.tmp 0], none⟩,
        ⟨(some 79), .plain .mv, [.tmp 8], none⟩,
        ⟨(some 6), .plain .mv, [.tmp 78], none⟩,
        ⟨(some 7), .plain .mv, [.tmp 79], none⟩] [78, 79])
      .ret)
      .skip))
     (.ops [⟨(some 80), .plain .mv, [.tmp 0], none⟩,
       ⟨(some 81), .plain (.load true 5), [.tmp 9], none⟩,
       ⟨(some 82), .plain (.buildRow 51 5 1 [(.str ⟨#[]⟩), (.str ⟨#[]⟩), .nilS, .nilS, .nilS] [0]), [.tmp 81], none⟩,
       ⟨(some 83), .plain (.append 51 5 104), [.tmp 80, .tmp 82], none⟩,
       ⟨(some 0), .plain .mv, [.tmp 83], none⟩] [80, 81, 82, 83])))))))))))
def cr37 : List Res := [(6, none), (7, none)]
theorem ok37 : FOk Try.prog Lk.imp 37 c37 cr37 Try.f37.ntmps := ⟨Try.f37, _, Try.func37, rfl, by kernel_rfl, by kernel_rfl, by kernel_rfl, rfl⟩

/-- ironbark/ironbarkref34.put -/
def c38 : SC :=
  (.seq (.ops [⟨(some 6), .plain (.alloc [(.int .i64 0), (.str ⟨#[]⟩), .nilS, .nilS, .nilS]), [], none⟩] [])
  (.seq (.ops [⟨(some 20), .plain .mv, [.tmp 1], none⟩,
    ⟨(some 21), .plain (.build [(.int .i64 0), (.str ⟨#[]⟩), .nilS, .nilS, .nilS] [(0, 1)]), [.tmp 20], none⟩,
    ⟨(some 7), .plain (.alloc [(.int .i64 0), (.str ⟨#[]⟩), .nilS, .nilS, .nilS]), [], none⟩,
    ⟨none, .plain (.store 5), [.tmp 7, .tmp 21], none⟩] [20, 21])
  (.seq (.ops [⟨(some 8), .plain .mv, [.lit .nilS], none⟩] [])
  (.seq (.seq (.ops [⟨(some 9), .plain .mv, [.lit (.int .i64 0)], none⟩] [])
  (.block 0
   (.loop
    (.seq (.seq (.ops [⟨(some 22), .plain .mv, [.tmp 9], none⟩,
      ⟨(some 23), .plain .mv, [.tmp 0], none⟩,
      ⟨(some 24), .plain (.len 1), [.tmp 23], none⟩,
      ⟨(some 25), .plain (.bin .lss), [.tmp 22, .tmp 24], none⟩] [22, 23, 24])
    (.cond (.tmp 25)
     .skip
     (.exit 0)))
    (.seq (.block 1
     (.seq (.block 2
      (.loop
       (.seq (.seq (.ops [⟨(some 28), .plain (.fieldAddr 1), [.tmp 7], none⟩,
         ⟨(some 29), .plain (.load false 1), [.tmp 28], none⟩,
         ⟨(some 30), .plain (.len 0), [.tmp 29], none⟩,
         ⟨(some 31), .plain (.bin .rem), [.tmp 30, .lit (.int .i64 8)], none⟩,
         ⟨(some 32), .plain (.bin .neq), [.tmp 31, .lit (.int .i64 0)], none⟩] [28, 29, 30, 31])
       (.cond (.tmp 32)
        .skip
        (.exit 2)))
       (.block 3
        (.ops [⟨(some 33), .plain (.fieldAddr 1), [.tmp 7], none⟩,
          ⟨(some 34), .plain (.load false 1), [.tmp 33], none⟩,
          ⟨(some 35), .plain (.bin .add), [.tmp 34, .lit (.str ⟨#[0]⟩)], none⟩,
          ⟨(some 36), .plain (.fieldAddr 1), [.tmp 7], none⟩,
          ⟨none, .plain (.store 1), [.tmp 36, .tmp 35], none⟩] [33, 34, 35, 36])))))
     (.seq (.ops [⟨(some 37), .plain .mv, [.tmp 1], none⟩,
       ⟨(some 38), .plain (.fieldAddr 1), [.tmp 7], none⟩,
       ⟨(some 39), .plain (.load false 1), [.tmp 38], none⟩,
       ⟨(some 40), .plain (.len 0), [.tmp 39], none⟩,
       ⟨(some 41), .plain (.bin .add), [.tmp 37, .tmp 40], none⟩,
       ⟨(some 10), .plain .mv, [.tmp 41], none⟩] [37, 38, 39, 40, 41])
     (.seq (.ops [⟨(some 42), .plain .mv, [.tmp 8], none⟩,
       ⟨(some 43), .plain .mv, [.tmp 10], none⟩,
       ⟨(some 44), .plain (.buildRow 3 1 1 [(.int .i64 0)] [0]), [.tmp 43], none⟩,
       ⟨(some 45), .plain (.append 3 1 8), [.tmp 42, .tmp 44], none⟩,
       ⟨(some 8), .plain .mv, [.tmp 45], none⟩] [42, 43, 44, 45])
     (.seq (.draw (.step ⟨(some 46), .plain (.fieldAddr 1), [.tmp 7], none⟩
       (.step ⟨(some 47), .plain (.load false 1), [.tmp 46], none⟩
       (.step ⟨(some 48), .plain .mv, [.tmp 0], none⟩
       (.step ⟨(some 49), .plain .mv, [.tmp 9], none⟩
       (.step ⟨(some 50), .plain (.indexAddr 5), [.tmp 48, .tmp 49], none⟩
       (.step ⟨(some 51), .plain (.fieldAddr 1), [.tmp 50], none⟩
       (.step ⟨(some 52), .plain (.load false 1), [.tmp 51], none⟩
       (.step ⟨(some 53), .plain (.bin .add), [.tmp 47, .tmp 52], none⟩
       (.step ⟨(some 54), .plain (.fieldAddr 1), [.tmp 7], none⟩
       (.step ⟨none, .plain (.store 1), [.tmp 54, .tmp 53], none⟩
       .done)))))))))) [46, 47, 48, 49, 50, 51, 52, 53, 54])
     (.seq (.draw (.step ⟨(some 55), .plain (.fieldAddr 4), [.tmp 7], none⟩
       (.step ⟨(some 56), .plain (.load false 1), [.tmp 55], none⟩
       (.step ⟨(some 57), .plain .mv, [.tmp 0], none⟩
       (.step ⟨(some 58), .plain .mv, [.tmp 9], none⟩
       (.step ⟨(some 59), .plain (.indexAddr 5), [.tmp 57, .tmp 58], none⟩
       (.step ⟨(some 60), .plain (.fieldAddr 0), [.tmp 59], none⟩
       (.step ⟨(some 61), .plain (.load false 1), [.tmp 60], none⟩
       (.step ⟨(some 62), .plain .mv, [.tmp 10], none⟩
       (.step ⟨(some 63), .plain (.build [(.str ⟨#[]⟩), (.int .i64 0)] [(0, 1), (1, 1)]), [.tmp 61, .tmp 62], none⟩
       (.step ⟨(some 64), .plain (.buildRow 40 2 1 [(.str ⟨#[]⟩), (.int .i64 0)] [0]), [.tmp 63], none⟩
       (.step ⟨(some 65), .plain (.append 40 2 24), [.tmp 56, .tmp 64], none⟩
       (.step ⟨(some 66), .plain (.fieldAddr 4), [.tmp 7], none⟩
       (.step ⟨none, .plain (.store 1), [.tmp 66, .tmp 65], none⟩
       .done))))))))))))) [55, 56, 57, 58, 59, 60, 61, 62, 63, 64, 65, 66])
     (.seq (.ops [⟨(some 67), .plain .mv, [.tmp 0], none⟩,
       ⟨(some 68), .plain .mv, [.tmp 9], none⟩,
       ⟨(some 69), .plain (.indexAddr 5), [.tmp 67, .tmp 68], none⟩,
       ⟨(some 70), .plain (.load true 5), [.tmp 69], none⟩,
       ⟨(some 71), .call 64, [.tmp 70], none⟩,
       ⟨(some 11), .plain .mv, [.tmp 71], none⟩] [67, 68, 69, 70, 71])
     (.seq (.seq (.ops [⟨(some 12), .plain .mv, [.lit (.int .i64 0)], none⟩] [])
     (.block 4
      (.loop
       (.seq (.seq (.ops [⟨(some 72), .plain .mv, [.tmp 12], none⟩,
         ⟨(some 73), .plain .mv, [.tmp 11], none⟩,
         ⟨(some 74), .plain (.len 1), [.tmp 73], none⟩,
         ⟨(some 75), .plain (.bin .lss), [.tmp 72, .tmp 74], none⟩] [72, 73, 74])
       (.cond (.tmp 75)
        .skip
        (.exit 4)))
       (.seq (.block 5
        (.draw (.step ⟨(some 78), .plain (.fieldAddr 2), [.tmp 7], none⟩
          (.step ⟨(some 79), .plain (.load false 1), [.tmp 78], none⟩
          (.step ⟨(some 80), .plain .mv, [.tmp 11], none⟩
          (.step ⟨(some 81), .plain .mv, [.tmp 12], none⟩
          (.step ⟨(some 82), .plain (.indexAddr 2), [.tmp 80, .tmp 81], none⟩
          (.step ⟨(some 83), .plain (.fieldAddr 0), [.tmp 82], none⟩
          (.step ⟨(some 84), .plain (.load false 1), [.tmp 83], none⟩
          (.step ⟨(some 85), .plain .mv, [.tmp 10], none⟩
          (.step ⟨(some 86), .plain .mv, [.tmp 11], none⟩
          (.step ⟨(some 87), .plain .mv, [.tmp 12], none⟩
          (.step ⟨(some 88), .plain (.indexAddr 2), [.tmp 86, .tmp 87], none⟩
          (.step ⟨(some 89), .plain (.fieldAddr 1), [.tmp 88], none⟩
          (.step ⟨(some 90), .plain (.load false 1), [.tmp 89], none⟩
          (.step ⟨(some 91), .plain (.bin .add), [.tmp 85, .tmp 90], none⟩
          (.step ⟨(some 92), .plain (.build [(.str ⟨#[]⟩), (.int .i64 0)] [(0, 1), (1, 1)]), [.tmp 84, .tmp 91], none⟩
          (.step ⟨(some 93), .call 68, [.tmp 79, .tmp 92], none⟩
          (.step ⟨(some 94), .plain (.fieldAddr 2), [.tmp 7], none⟩
          (.step ⟨none, .plain (.store 1), [.tmp 94, .tmp 93], none⟩
          .done)))))))))))))))))) [78, 79, 80, 81, 82, 83, 84, 85, 86, 87, 88, 89, 90, 91, 92, 93, 94]))
       (.ops [⟨(some 76), .plain .mv, [.tmp 12], none⟩,
         ⟨(some 77), .plain (.bin .add), [.tmp 76, .lit (.int .i64 1)], none⟩,
         ⟨(some 12), .plain .mv, [.tmp 77], none⟩] [76, 77]))))))
     (.seq (.ops [⟨(some 13), .plain .mv, [.lit (.int .i64 0)], none⟩] [])
     (.block 6
      (.loop
       (.seq (.seq (.ops [⟨(some 95), .plain .mv, [.tmp 13], none⟩,
         ⟨(some 96), .plain .mv, [.tmp 0], none⟩,
         ⟨(some 97), .plain .mv, [.tmp 9], none⟩,
         ⟨(some 98), .plain (.indexAddr 5), [.tmp 96, .tmp 97], none⟩,
         ⟨(some 99), .plain (.fieldAddr 4), [.tmp 98], none⟩,
         ⟨(some 100), .plain (.load false 1), [.tmp 99], none⟩,
         ⟨(some 101), .plain (.len 1), [.tmp 100], none⟩,
         ⟨(some 102), .plain (.bin .lss), [.tmp 95, .tmp 101], none⟩] [95, 96, 97, 98, 99, 100, 101])
       (.cond (.tmp 102)
        .skip
        (.exit 6)))
       (.seq (.block 7
        (.draw (.step ⟨(some 105), .plain (.fieldAddr 3), [.tmp 7], none⟩
          (.step ⟨(some 106), .plain (.load false 1), [.tmp 105], none⟩
          (.step ⟨(some 107), .plain .mv, [.tmp 10], none⟩
          (.step ⟨(some 108), .plain .mv, [.tmp 0], none⟩
          (.step ⟨(some 109), .plain .mv, [.tmp 9], none⟩
          (.step ⟨(some 110), .plain (.indexAddr 5), [.tmp 108, .tmp 109], none⟩
          (.step ⟨(some 111), .plain (.fieldAddr 4), [.tmp 110], none⟩
          (.step ⟨(some 112), .plain (.load false 1), [.tmp 111], none⟩
          (.step ⟨(some 113), .plain .mv, [.tmp 13], none⟩
          (.step ⟨(some 114), .plain (.indexAddr 2), [.tmp 112, .tmp 113], none⟩
          (.step ⟨(some 115), .plain (.fieldAddr 0), [.tmp 114], none⟩
          (.step ⟨(some 116), .plain (.load false 1), [.tmp 115], none⟩
          (.step ⟨(some 117), .plain (.bin .add), [.tmp 107, .tmp 116], none⟩
          (.step ⟨(some 118), .plain .mv, [.tmp 0], none⟩
          (.step ⟨(some 119), .plain .mv, [.tmp 9], none⟩
          (.step ⟨(some 120), .plain (.indexAddr 5), [.tmp 118, .tmp 119], none⟩
          (.step ⟨(some 121), .plain (.fieldAddr 4), [.tmp 120], none⟩
          (.step ⟨(some 122), .plain (.load false 1), [.tmp 121], none⟩
          (.step ⟨(some 123), .plain .mv, [.tmp 13], none⟩
          (.step ⟨(some 124), .plain (.indexAddr 2), [.tmp 122, .tmp 123], none⟩
          (.step ⟨(some 125), .plain (.fieldAddr 1), [.tmp 124], none⟩
          (.step ⟨(some 126), .plain (.load false 1), [.tmp 125], none⟩
          (.step ⟨(some 127), .plain (.build [(.int .i64 0), (.int .i64 0)] [(0, 1), (1, 1)]), [.tmp 117, .tmp 126], none⟩
          (.step ⟨(some 128), .plain (.buildRow 102 2 1 [(.int .i64 0), (.int .i64 0)] [0]), [.tmp 127], none⟩
          (.step ⟨(some 129), .plain (.append 102 2 16), [.tmp 106, .tmp 128], none⟩
          (.step ⟨(some 130), .plain (.fieldAddr 3), [.tmp 7], none⟩
          (.step ⟨none, .plain (.store 1), [.tmp 130, .tmp 129], none⟩
          .done))))))))))))))))))))))))))) [105, 106, 107, 108, 109, 110, 111, 112, 113, 114, 115, 116, 117, 118, 119, 120, 121, 122, 123, 124, 125, 126, 127, 128, 129, 130]))
       (.ops [⟨(some 103), .plain .mv, [.tmp 13], none⟩,
         ⟨(some 104), .plain (.bin .add), [.tmp 103, .lit (.int .i64 1)], none⟩,
         ⟨(some 13), .plain .mv, [.tmp 104], none⟩] [103, 104]))))))))))))))
    (.ops [⟨(some 26), .plain .mv, [.tmp 9], none⟩,
      ⟨(some 27), .plain (.bin .add), [.tmp 26, .lit (.int .i64 1)], none⟩,
      ⟨(some 9), .plain .mv, [.tmp 27], none⟩] [26, 27]))))))
  (.seq (.seq (.ops [⟨(some 14), .plain .mv, [.lit (.int .i64 0)], none⟩] [])
  (.block 8
   (.loop
    (.seq (.seq (.ops [⟨(some 131), .plain .mv, [.tmp 14], none⟩,
      ⟨(some 132), .plain .mv, [.tmp 0], none⟩,
      ⟨(some 133), .plain (.len 1), [.tmp 132], none⟩,
      ⟨(some 134), .plain (.bin .lss), [.tmp 131, .tmp 133], none⟩] [131, 132, 133])
    (.cond (.tmp 134)
     .skip
     (.exit 8)))
    (.seq (.block 9
     (.seq (.ops [⟨(some 15), .plain .mv, [.lit (.int .i64 0)], none⟩] [])
     (.block 10
      (.loop
       (.seq (.seq (.ops [⟨(some 137), .plain .mv, [.tmp 15], none⟩,
         ⟨(some 138), .plain .mv, [.tmp 0], none⟩,
         ⟨(some 139), .plain .mv, [.tmp 14], none⟩,
         ⟨(some 140), .plain (.indexAddr 5), [.tmp 138, .tmp 139], none⟩,
         ⟨(some 141), .plain (.fieldAddr 3), [.tmp 140], none⟩,
         ⟨(some 142), .plain (.load false 1), [.tmp 141], none⟩,
         ⟨(some 143), .plain (.len 1), [.tmp 142], none⟩,
         ⟨(some 144), .plain (.bin .lss), [.tmp 137, .tmp 143], none⟩] [137, 138, 139, 140, 141, 142, 143])
       (.cond (.tmp 144)
        .skip
        (.exit 10)))
       (.seq (.block 11
        (.seq (.ops [⟨(some 147), .plain .mv, [.tmp 0], none⟩,
          ⟨(some 148), .plain .mv, [.tmp 14], none⟩,
          ⟨(some 149), .plain (.indexAddr 5), [.tmp 147, .tmp 148], none⟩,
          ⟨(some 150), .plain (.fieldAddr 3), [.tmp 149], none⟩,
          ⟨(some 151), .plain (.load false 1), [.tmp 150], none⟩,
          ⟨(some 152), .plain .mv, [.tmp 15], none⟩,
          ⟨(some 153), .plain (.indexAddr 3), [.tmp 151, .tmp 152], none⟩,
          ⟨(some 154), .plain (.load true 3), [.tmp 153], none⟩,
          ⟨(some 16), .plain (.alloc [(.int .i64 0), (.str ⟨#[]⟩), (.int .i64 0)]), [], none⟩,
          ⟨none, .plain (.store 3), [.tmp 16, .tmp 154], none⟩] [147, 148, 149, 150, 151, 152, 153, 154])
        (.seq (.ops [⟨(some 156), .plain .mv, [.tmp 2], none⟩,
          ⟨(some 157), .plain (.fieldAddr 1), [.tmp 16], none⟩,
          ⟨(some 158), .plain (.load false 1), [.tmp 157], none⟩,
          ⟨(some 159), .call 65, [.tmp 156, .tmp 158], none⟩,
          ⟨(some 155), .plain .mv, [.tmp 159], none⟩,
          ⟨(some 160), .plain (.extract 0), [.tmp 155], none⟩,
          ⟨(some 161), .plain (.extract 1), [.tmp 155], none⟩,
          ⟨(some 17), .plain .mv, [.tmp 160], none⟩,
          ⟨(some 18), .plain .mv, [.tmp 161], none⟩] [156, 157, 158, 159, 155, 160, 161])
        (.seq (.seq (.ops [⟨(some 162), .plain .mv, [.tmp 18], none⟩,
          ⟨(some 163), .plain (.un .not), [.tmp 162], none⟩] [162])
        (.cond (.tmp 163)
         (.ops [⟨(some 165), .plain (.fieldAddr 2), [.tmp 7], none⟩,
           ⟨(some 166), .plain (.load false 1), [.tmp 165], none⟩,
           ⟨(some 167), .plain (.fieldAddr 1), [.tmp 16], none⟩,
           ⟨(some 168), .plain (.load false 1), [.tmp 167], none⟩,
           ⟨(some 169), .call 65, [.tmp 166, .tmp 168], none⟩,
           ⟨(some 164), .plain .mv, [.tmp 169], none⟩,
           ⟨(some 170), .plain (.extract 0), [.tmp 164], none⟩,
           ⟨(some 171), .plain (.extract 1), [.tmp 164], none⟩,
           ⟨(some 17), .plain .mv, [.tmp 170], none⟩] [165, 166, 167, 168, 169, 164, 170, 171])
         .skip))
        (.seq (.draw (.step ⟨(some 172), .plain .mv, [.tmp 8], none⟩
          (.step ⟨(some 173), .plain .mv, [.tmp 14], none⟩
          (.step ⟨(some 174), .plain (.indexAddr 1), [.tmp 172, .tmp 173], none⟩
          (.step ⟨(some 175), .plain (.load false 1), [.tmp 174], none⟩
          (.step ⟨(some 176), .plain .mv, [.tmp 1], none⟩
          (.step ⟨(some 177), .plain (.bin .sub), [.tmp 175, .tmp 176], none⟩
          (.step ⟨(some 178), .plain (.fieldAddr 0), [.tmp 16], none⟩
          (.step ⟨(some 179), .plain (.load false 1), [.tmp 178], none⟩
          (.step ⟨(some 180), .plain (.bin .add), [.tmp 177, .tmp 179], none⟩
          (.step ⟨(some 19), .plain .mv, [.tmp 180], none⟩
          .done)))))))))) [172, 173, 174, 175, 176, 177, 178, 179, 180])
        (.draw (.step ⟨(some 181), .plain (.fieldAddr 1), [.tmp 7], none⟩
          (.step ⟨(some 182), .plain (.load false 1), [.tmp 181], none⟩
          (.step ⟨(some 183), .plain .mv, [.tmp 19], none⟩
          (.step ⟨(some 184), .plain (.slice false true 0), [.tmp 182, .tmp 183], none⟩
          (.step ⟨(some 185), .plain .mv, [.tmp 17], none⟩
          (.step ⟨(some 186), .plain (.fieldAddr 2), [.tmp 16], none⟩
          (.step ⟨(some 187), .plain (.load false 1), [.tmp 186], none⟩
          (.step ⟨(some 188), .plain (.bin .add), [.tmp 185, .tmp 187], none⟩
          (.step ⟨(some 189), .call 69, [.tmp 188], none⟩
          (.step ⟨(some 190), .plain (.bin .add), [.tmp 184, .tmp 189], none⟩
          (.step ⟨(some 191), .plain (.fieldAddr 1), [.tmp 7], none⟩
          (.step ⟨(some 192), .plain (.load false 1), [.tmp 191], none⟩
          (.step ⟨(some 193), .plain .mv, [.tmp 19], none⟩
          (.step ⟨(some 194), .plain (.bin .add), [.tmp 193, .lit (.int .i64 4)], none⟩
          (.step ⟨(some 195), .plain (.slice true false 0), [.tmp 192, .tmp 194], none⟩
          (.step ⟨(some 196), .plain (.bin .add), [.tmp 190, .tmp 195], none⟩
          (.step ⟨(some 197), .plain (.fieldAddr 1), [.tmp 7], none⟩
          (.step ⟨none, .plain (.store 1), [.tmp 197, .tmp 196], none⟩
          .done)))))))))))))))))) [181, 182, 183, 184, 185, 186, 187, 188, 189, 190, 191, 192, 193, 194, 195, 196, 197]))))))
       (.ops [⟨(some 145), .plain .mv, [.tmp 15], none⟩,
         ⟨(some 146), .plain (.bin .add), [.tmp 145, .lit (.int .i64 1)], none⟩,
         ⟨(some 15), .plain .mv, [.tmp 146], none⟩] [145, 146])))))))
    (.ops [⟨(some 135), .plain .mv, [.tmp 14], none⟩,
      ⟨(some 136), .plain (.bin .add), [.tmp 135, .lit (.int .i64 1)], none⟩,
      ⟨(some 14), .plain .mv, [.tmp 136], none⟩] [135, 136]))))))
  (.seq (.ops [⟨(some 198), .plain (.load true 5), [.tmp 7], none⟩,
    ⟨none, .plain (.store 5), [.tmp 6, .tmp 198], none⟩] [198])
  .ret))))))
def cr38 : List Res := [(6, some (true, 5))]
theorem ok38 : FOk Try.prog Lk.imp 38 c38 cr38 Try.f38.ntmps := ⟨Try.f38, _, Try.func38, rfl, by kernel_rfl, by kernel_rfl, by kernel_rfl, rfl⟩

/-- ironbark/ironbarkref34.defined -/
def c68 : SC :=
  (.seq (.ops [⟨(some 3), .plain (.box 2), [.tmp 1], none⟩,
    ⟨(some 4), .plain .mv, [.lit .nilS], none⟩] [])
  (.seq (.ops [⟨(some 5), .plain .mv, [.lit (.int .i64 0)], none⟩] [])
  (.seq (.block 0
   (.loop
    (.seq (.seq (.draw (.step ⟨(some 7), .plain .mv, [.tmp 5], none⟩
      (.step ⟨(some 8), .plain .mv, [.tmp 0], none⟩
      (.step ⟨(some 9), .plain (.len 1), [.tmp 8], none⟩
      (.step ⟨(some 10), .plain (.bin .lss), [.tmp 7, .tmp 9], none⟩
      (.step ⟨(some 11), .plain .mv, [.tmp 10], none⟩
      (.step ⟨(some 12), .plain .mv, [.tmp 0], (some (11, true))⟩
      (.step ⟨(some 13), .plain .mv, [.tmp 5], (some (11, true))⟩
      (.step ⟨(some 14), .plain (.indexAddr 2), [.tmp 12, .tmp 13], (some (11, true))⟩
      (.step ⟨(some 15), .plain (.fieldAddr 0), [.tmp 14], (some (11, true))⟩
      (.step ⟨(some 16), .plain (.load false 1), [.tmp 15], (some (11, true))⟩
      (.step ⟨(some 17), .plain (.fieldAddr 0), [.tmp 3], (some (11, true))⟩
      (.step ⟨(some 18), .plain (.load false 1), [.tmp 17], (some (11, true))⟩
      (.step ⟨(some 19), .plain (.bin .lss), [.tmp 16, .tmp 18], (some (11, true))⟩
      (.step ⟨(some 20), .plain .pick, [.tmp 11, .tmp 19, .lit (.bool false)], none⟩
      .done)))))))))))))) [7, 8, 9, 10, 11, 12, 13, 14, 15, 16, 17, 18, 19])
    (.cond (.tmp 20)
     .skip
     (.exit 0)))
    (.block 1
     (.ops [⟨(some 21), .plain .mv, [.tmp 5], none⟩,
       ⟨(some 22), .plain (.bin .add), [.tmp 21, .lit (.int .i64 1)], none⟩,
       ⟨(some 5), .plain .mv, [.tmp 22], none⟩] [21, 22])))))
  (.seq (.seq (.draw (.step ⟨(some 23), .plain .mv, [.tmp 5], none⟩
    (.step ⟨(some 24), .plain .mv, [.tmp 0], none⟩
    (.step ⟨(some 25), .plain (.len 1), [.tmp 24], none⟩
    (.step ⟨(some 26), .plain (.bin .lss), [.tmp 23, .tmp 25], none⟩
    (.step ⟨(some 27), .plain .mv, [.tmp 26], none⟩
    (.step ⟨(some 28), .plain .mv, [.tmp 0], (some (27, true))⟩
    (.step ⟨(some 29), .plain .mv, [.tmp 5], (some (27, true))⟩
    (.step ⟨(some 30), .plain (.indexAddr 2), [.tmp 28, .tmp 29], (some (27, true))⟩
    (.step ⟨(some 31), .plain (.fieldAddr 0), [.tmp 30], (some (27, true))⟩
    (.step ⟨(some 32), .plain (.load false 1), [.tmp 31], (some (27, true))⟩
    (.step ⟨(some 33), .plain (.fieldAddr 0), [.tmp 3], (some (27, true))⟩
    (.step ⟨(some 34), .plain (.load false 1), [.tmp 33], (some (27, true))⟩
    (.step ⟨(some 35), .plain (.bin .eql), [.tmp 32, .tmp 34], (some (27, true))⟩
    (.step ⟨(some 36), .plain .pick, [.tmp 27, .tmp 35, .lit (.bool false)], none⟩
    .done)))))))))))))) [23, 24, 25, 26, 27, 28, 29, 30, 31, 32, 33, 34, 35])
  (.cond (.tmp 36)
   (.seq (.ops [⟨(some 37), .plain .mv, [.tmp 0], none⟩,
     ⟨(some 4), .plain .mv, [.tmp 37], none⟩] [37])
   .ret)
   .skip))
  (.seq (.draw (.step ⟨(some 38), .plain .mv, [.tmp 0], none⟩
    (.step ⟨(some 39), .plain .mv, [.tmp 5], none⟩
    (.step ⟨(some 40), .plain (.slice false true 2), [.tmp 38, .tmp 39], none⟩
    (.or (.step ⟨(some 41), .plain (.append 40 2 24), [.lit .nilS, .tmp 40], none⟩
    (.step ⟨(some 42), .plain (.load true 2), [.tmp 3], none⟩
    (.step ⟨(some 43), .plain (.buildRow 40 2 1 [(.str ⟨#[]⟩), (.int .i64 0)] [0]), [.tmp 42], none⟩
    (.step ⟨(some 44), .plain (.append 40 2 24), [.tmp 41, .tmp 43], none⟩
    (.step ⟨(some 6), .plain .mv, [.tmp 44], none⟩
    .done)))))
    (.step ⟨(some 42), .plain (.load true 2), [.tmp 3], none⟩
    (.or (.step ⟨(some 41), .plain (.append 40 2 24), [.lit .nilS, .tmp 40], none⟩
    (.step ⟨(some 43), .plain (.buildRow 40 2 1 [(.str ⟨#[]⟩), (.int .i64 0)] [0]), [.tmp 42], none⟩
    (.step ⟨(some 44), .plain (.append 40 2 24), [.tmp 41, .tmp 43], none⟩
    (.step ⟨(some 6), .plain .mv, [.tmp 44], none⟩
    .done))))
    (.step ⟨(some 43), .plain (.buildRow 40 2 1 [(.str ⟨#[]⟩), (.int .i64 0)] [0]), [.tmp 42], none⟩
    (.step ⟨(some 41), .plain (.append 40 2 24), [.lit .nilS, .tmp 40], none⟩
    (.step ⟨(some 44), .plain (.append 40 2 24), [.tmp 41, .tmp 43], none⟩
    (.step ⟨(some 6), .plain .mv, [.tmp 44], none⟩
    .done)))))))))) [38, 39, 40, 41, 42, 43, 44])
  (.seq (.ops [⟨(some 45), .plain .mv, [.tmp 6], none⟩,
    ⟨(some 46), .plain .mv, [.tmp 0], none⟩,
    ⟨(some 47), .plain .mv, [.tmp 5], none⟩,
    ⟨(some 48), .plain (.slice true false 2), [.tmp 46, .tmp 47], none⟩,
    ⟨(some 49), .plain (.append 40 2 24), [.tmp 45, .tmp 48], none⟩,
    ⟨(some 4), .plain .mv, [.tmp 49], none⟩] [45, 46, 47, 48, 49])
  .ret))))))
def cr68 : List Res := [(4, none)]
theorem ok68 : FOk Try.prog Lk.imp 68 c68 cr68 Try.f68.ntmps := ⟨Try.f68, _, Try.func68, rfl, by kernel_rfl, by kernel_rfl, by kernel_rfl, rfl⟩

end Go.Pm

/- LkC7: contracts: an object of a library; a number's bytes. -/
namespace Go.Pm
open Go Go.Proofs
attribute [-simp] List.getElem?_map

def takes (l : List Deck) (name : ByteArray) (o : Deck) : Bool := !(l.any fun x => eqS x.name o.name) && definesF o name
def foundF (l : List Deck) (libs : List (List Deck)) (name : ByteArray) : Option Deck := libs.flatten.find? (takes l name)

/-- Whether one of the first is there. -/
def thereF (l : List Deck) (o : Deck) (j : Nat) : Bool := (l.take j).any fun x => eqS x.name o.name
theorem there_succ {l : List Deck} {o : Deck} {j : Nat} (h : j < l.length) : thereF l o (j + 1) = (thereF l o j || eqS (ix l j).name o.name) := by
  unfold thereF
  rw [List.take_add_one, List.any_append, idx (ltN h)]
  simp
theorem there_all {l : List Deck} {o : Deck} : thereF l o l.length = l.any fun x => eqS x.name o.name := by
  unfold thereF; rw [List.take_length]

/-- A struct that holds an object; the empty one. -/
def deckOr : Option Deck → List AV
  | some o => o.av
  | none => [.str ⟨#[]⟩, .str ⟨#[]⟩, .nilS, .nilS, .nilS]

set_option maxHeartbeats 4000000 in
theorem call67 (p q : Bool) (l : List Deck) (libs : List (List Deck)) (name : ByteArray) (hl : SmallL l) (hb : SmallLL libs) : PCalls Try.prog 67 [.list p 5 (l.map Deck.av), .list q 1 (libs.map libAV), .str name]
    fun out => out = .ret (.tuple [.agg (deckOr (foundF l libs name)), .bool (foundF l libs name).isSome]) := by
  refine ok67.pcalls (by simp) ?_
  have dl := hl.len
  have bl := hb.len
  simp [c67]
  refine wpS_loop (ι := Nat × Nat) (fun s => [(0, .list p 5 (l.map Deck.av)), (1, .list q 1 (libs.map libAV)), (2, .str name), (6, .ptr 0 0 0), (8, .int .i64 s.1)]) (fun s => ⟨[(0, .cells (deckOr none))], s.2⟩) (fun s => libs.length - s.1)
    (fun s => s.1 ≤ libs.length ∧ foundF l libs name = (libs.drop s.1).flatten.find? (takes l name)) (0, 1) (by simp [foundF]) (Env.le_of (by simp)) (by simp [deckOr]) ?_
  intro ⟨i, nx⟩ ⟨hi, hall⟩
  simp only at hi hall
  have hw : IntKind.i64.wrap (i + 1) = i + 1 := wrap64 (by omega) (by omega)
  simp
  refine br_cond rfl (fun h => ?_) (fun h => ?_)
  · have hlt : i < libs.length := by have := ltI_t.1 h; omega
    rw [drop_ix hlt, List.flatten_cons] at hall
    have hs := hb.each _ (ix_mem hlt)
    have sl := hs.len
    simp [h]
    refine wpS_loop (ι := Nat × Nat) (fun s => [(0, .list p 5 (l.map Deck.av)), (1, .list q 1 (libs.map libAV)), (2, .str name), (6, .ptr 0 0 0), (8, .int .i64 i), (9, .int .i64 s.1)]) (fun s => ⟨[(0, .cells (deckOr none))], s.2⟩) (fun s => (ix libs i).length - s.1)
      (fun s => s.1 ≤ (ix libs i).length ∧ foundF l libs name = (((ix libs i).drop s.1) ++ (libs.drop (i + 1)).flatten).find? (takes l name)) (0, nx) (by simpa using hall) (Env.le_of (by simp)) (by simp) ?_
    intro ⟨k, nx⟩ ⟨hk, hka⟩
    simp only at hk hka
    have hwk : IntKind.i64.wrap (k + 1) = k + 1 := wrap64 (by omega) (by omega)
    simp [h, idxM, libAV, decksAV]
    refine br_cond rfl (fun h2 => ?_) (fun h2 => ?_)
    · have hlk : k < (ix libs i).length := by have := ltI_t.1 h2; omega
      rw [drop_ix hlk, List.cons_append, List.find?_cons] at hka
      generalize hox : ix (ix libs i) k = o at hka
      have hos : o.Small := by rw [← hox]; exact hs.each _ (ix_mem hlk)
      simp [h, h2, idxM, libAV, decksAV, deck_take, hox]
      refine wpS_loop (ι := Nat) (fun j => [(0, .list p 5 (l.map Deck.av)), (1, .list q 1 (libs.map libAV)), (2, .str name), (6, .ptr 0 0 0), (8, .int .i64 i), (9, .int .i64 k), (10, .ptr 1 nx 0), (11, .bool (thereF l o j)), (12, .int .i64 j)])
        (fun _ => ⟨[(0, .cells (deckOr none)), (nx, .cells o.av)], nx + 1⟩) (fun j => l.length - j) (fun j => j ≤ l.length) 0 (by simp) (Env.le_of (by simp [thereF])) (by simp [deckOr]) ?_
      intro j hj
      have hwj : IntKind.i64.wrap (j + 1) = j + 1 := wrap64 (by omega) (by omega)
      simp
      refine br_cond rfl (fun h3 => ?_) (fun h3 => ?_)
      · have hlj : j < l.length := by have := ltI_t.1 h3; omega
        simp [h3]
        refine br_dguard_f rfl (fun h4 => ?_) (fun h4 => ?_)
        · simp [h4, hwj]
          exact ⟨j + 1, by omega, by omega, Env.le_of (by simp [there_succ hlj, h4]), Mem.le_of rfl (by simp)⟩
        · simp [h3, h4, hwj, idxM, Deck.av]
          exact ⟨j + 1, by omega, by omega, Env.le_of (by simp [there_succ hlj, h4]), Mem.le_of rfl (by simp)⟩
      · have hjl : j = l.length := by have := ltI_f.1 h3; omega
        subst hjl
        have ht : takes l name o = (!(thereF l o l.length) && definesF o name) := by rw [there_all]; rfl
        simp [h3]
        refine br_guard_t rfl (fun h4 => ?_) (fun h4 => ?_) <;> simp at h4
        · simp [h4, deck_take]
          refine xcall_p (call83 o hos name) (by simp) ?_
          simp
          refine br_cond rfl (fun h5 => ?_) (fun h5 => ?_)
          · have hf : foundF l libs name = some o := by rw [hka, ht, h4, h5]; rfl
            simp [h5, cr67, hf, deckOr, deck_take]
          · have hf : takes l name o = false := by rw [ht, h4, h5]; rfl
            rw [hf] at hka
            simp [hwk]
            exact ⟨k + 1, ⟨by omega, by rw [hka]; simp⟩, by omega, Env.le_of (by simp), nx + 1, Mem.le_of rfl (by simp)⟩
        · have hf : takes l name o = false := by rw [ht, h4]; rfl
          rw [hf] at hka
          simp [h4, hwk]
          exact ⟨k + 1, ⟨by omega, by rw [hka]; simp⟩, by omega, Env.le_of (by simp), nx + 1, Mem.le_of rfl (by simp)⟩
    · have hkl : k = (ix libs i).length := by have := ltI_f.1 h2; omega
      subst hkl
      simp [h2, hw]
      exact ⟨i + 1, ⟨by omega, by rw [hka]; simp⟩, by omega, Env.le_of (by simp), nx, Mem.le_of rfl (by simp)⟩
  · have hid : i = libs.length := by have := ltI_f.1 h; omega
    subst hid
    have hn : foundF l libs name = none := by rw [hall]; simp
    simp [h, cr67, hn, deckOr]
end Go.Pm

/- LkC8: contracts: a number's bytes; what is defined twice. -/
namespace Go.Pm
open Go Go.Proofs
attribute [-simp] List.getElem?_map

def byteF (n : Int) (k : Nat) : UInt8 := UInt8.ofNat (IntKind.u8.wrap (n.fdiv (2 ^ k))).toNat
def fourF (n : Int) : ByteArray := ⟨#[byteF n 24, byteF n 16, byteF n 8, byteF n 0]⟩

theorem addS_upd (s : ByteArray) : ∀ l : List ByteArray, updA (.str s) (.bool true) (setS l) = some (setS (if hasS l s then l else l ++ [s]))
  | [] => rfl
  | x :: l => by
    have ih := addS_upd s l
    unfold setS at ih ⊢
    rw [List.map_cons, updA]
    unfold hasS at ih ⊢
    simp only [keyEq, beq_eqS, List.any_cons]
    rcases Bool.eq_false_or_eq_true (eqS x s) with h | h
    · have := eqS_t.1 h
      subst this
      simp [h]
    · simp only [h, ih, Bool.false_or, Option.map_some]
      split <;> rfl

def addS (l : List ByteArray) (s : ByteArray) : List ByteArray := if hasS l s then l else l ++ [s]
theorem updAdd (s : ByteArray) (l : List ByteArray) : updA (.str s) (.bool true) (setS l) = some (setS (addS l s)) := addS_upd s l

/-- The names that were met, with those of one more object. -/
def meets (met : List ByteArray) (o : Deck) : List ByteArray := (defsF o).foldl (fun l d => addS l d.name) met
def doubleF : List ByteArray → List Deck → ByteArray
  | _, [] => ⟨#[]⟩
  | met, o :: l => if hasS met o.name then o.name else match o.defs.find? fun d => hasS met d.name with
    | some d => d.name
    | none => doubleF (meets met o) l

attribute [simp] updAdd

set_option maxHeartbeats 4000000 in
theorem call36 (p : Bool) (l : List Deck) (hl : SmallL l) : PCalls Try.prog 36 [.list p 5 (l.map Deck.av)] fun out => out = .ret (.str (doubleF [] l)) := by
  refine ok36.pcalls (by simp) ?_
  have dl := hl.len
  simp [c36]
  refine wpS_loop (ι := Nat × List ByteArray) (fun s => [(0, .list p 5 (l.map Deck.av)), (3, .map 0 0), (4, .int .i64 s.1)]) (fun s => ⟨[(0, .map (setS s.2))], 1⟩) (fun s => l.length - s.1)
    (fun s => s.1 ≤ l.length ∧ doubleF [] l = doubleF s.2 (l.drop s.1)) (0, []) (by simp) (Env.le_of (by simp)) (by simp [setS]) ?_
  intro ⟨i, met⟩ ⟨hi, hall⟩
  simp only at hi hall
  have hw : IntKind.i64.wrap (i + 1) = i + 1 := wrap64 (by omega) (by omega)
  simp
  refine br_cond rfl (fun h => ?_) (fun h => ?_)
  · have hlt : i < l.length := by have := ltI_t.1 h; omega
    have hs := hl.each _ (ix_mem hlt)
    have sd := hs.defs
    rw [drop_ix hlt, doubleF] at hall
    simp [h, idxM, Deck.av]
    refine br_cond rfl (fun h1 => ?_) (fun h1 => ?_)
    · rw [if_pos h1] at hall
      simp [h, idxM, Deck.av, cr36, hall]
    rw [if_neg (by rw [h1]; simp)] at hall
    simp
    generalize hoi : ix l i = o at *
    refine wpS_loop (ι := Nat) (fun k => [(0, .list p 5 (l.map Deck.av)), (3, .map 0 0), (4, .int .i64 i), (5, .int .i64 k)]) (fun _ => ⟨[(0, .map (setS met))], 1⟩) (fun k => o.defs.length - k)
      (fun k => k ≤ o.defs.length ∧ (o.defs.find? fun d => hasS met d.name) = (o.defs.drop k).find? fun d => hasS met d.name) 0 (by simp) (Env.le_of (by simp)) (by simp) ?_
    intro k ⟨hk, hka⟩
    have hwk : IntKind.i64.wrap (k + 1) = k + 1 := wrap64 (by omega) (by omega)
    simp [h, idxM, Deck.av, hoi]
    refine br_cond rfl (fun h2 => ?_) (fun h2 => ?_)
    · have hlk : k < o.defs.length := by have := ltI_t.1 h2; omega
      rw [drop_ix hlk] at hka
      simp [h, h2, idxM, Deck.av, DDef.av, hoi]
      refine br_cond rfl (fun h3 => ?_) (fun h3 => ?_)
      · have hf : (o.defs.find? fun d => hasS met d.name) = some (ix o.defs k) := by rw [hka]; simp [h3]
        rw [hf] at hall
        simp [h, h2, idxM, Deck.av, DDef.av, hoi, cr36, hall]
      · simp [hwk]
        exact ⟨k + 1, ⟨by omega, by rw [hka]; simp [h3]⟩, by omega, Env.le_of (by simp), Mem.le_of rfl (by simp)⟩
    have hkd : k = o.defs.length := by have := ltI_f.1 h2; omega
    have hf : (o.defs.find? fun d => hasS met d.name) = none := by rw [hka, hkd]; simp
    rw [hf] at hall
    simp [h, h2, idxM, deck_take, hoi]
    refine xcall_p (call64 o hs) (by simp) ?_
    simp
    have dl2 := defsF_len o
    refine wpS_loop (ι := Nat) (fun k => [(0, .list p 5 (l.map Deck.av)), (3, .map 0 0), (4, .int .i64 i), (6, .list true 2 ((defsF o).map DDef.av)), (7, .int .i64 k)]) (fun k => ⟨[(0, .map (setS (((defsF o).take k).foldl (fun l d => addS l d.name) met)))], 1⟩)
      (fun k => (defsF o).length - k) (fun k => k ≤ (defsF o).length) 0 (by simp) (Env.le_of (by simp)) (by simp) ?_
    intro j hj
    have hwj : IntKind.i64.wrap (j + 1) = j + 1 := wrap64 (by omega) (by omega)
    simp
    refine br_cond rfl (fun h4 => ?_) (fun h4 => ?_)
    · have hlj : j < (defsF o).length := by have := ltI_t.1 h4; omega
      simp [h4, idxM, DDef.av, hwj]
      exact ⟨j + 1, by omega, by omega, Env.le_of (by simp), Mem.le_of rfl (by simp [List.take_add_one, idx (ltN hlj)])⟩
    · have hjd : j = (defsF o).length := by have := ltI_f.1 h4; omega
      subst hjd
      simp [h4, hw]
      exact ⟨i + 1, meets met o, ⟨by omega, by rw [hall]⟩, by omega, Env.le_of (by simp), Mem.le_of rfl (by simp [meets])⟩
  · have hid : i = l.length := by have := ltI_f.1 h; omega
    subst hid
    simp [h, cr36, hall, doubleF]
end Go.Pm

/- LkC9: contracts: a number's bytes; names ascending. -/
namespace Go.Pm
open Go Go.Proofs
attribute [-simp] List.getElem?_map

theorem shr_c (n : Int) (k : Nat) (hk : k < 64) : binA .shr (.int .i64 n) (.int .u64 k) = some (.int .i64 (n.fdiv (2 ^ k))) := by
  rw [binA_shr, if_neg (by omega), Int.toNat_natCast, Nat.min_eq_left (by show k ≤ 64; omega)]

theorem call69 (n : Int) : PCalls Try.prog 69 [.int .i64 n] fun out => out = .ret (.str (fourF n)) := by
  refine ok69.pcalls (by simp) ?_
  have h1 := shr_c n 24 (by omega)
  have h2 := shr_c n 16 (by omega)
  have h3 := shr_c n 8 (by omega)
  have h4 : byteF n 0 = UInt8.ofNat (IntKind.u8.wrap n).toNat := by simp [byteF]
  rw [show ((24 : Nat) : Int) = 24 from rfl] at h1
  rw [show ((16 : Nat) : Int) = 16 from rfl] at h2
  rw [show ((8 : Nat) : Int) = 8 from rfl] at h3
  unfold fourF
  rw [h4]
  unfold byteF
  generalize n.fdiv (2 ^ 24) = a at *
  generalize n.fdiv (2 ^ 16) = b at *
  generalize n.fdiv (2 ^ 8) = c at *
  simp [c69, -binA_shr, h1, h2, h3, cr69, byteOf, List.range_succ]

end Go.Pm

/- LkC10: contracts: names ascending. -/
namespace Go.Pm
open Go Go.Proofs
attribute [-simp] List.getElem?_map

/-- Whatever is the one is the other, too. -/
def Sub (xs ys : List AV) : Prop := ∀ (K : Bool → Nat → Prop) (w : World) (us : List Value), VRs [] K w xs us → VRs [] K w ys us
theorem Sub.refl (xs : List AV) : Sub xs xs := fun _ _ _ h => h
theorem Sub.cons {x : AV} {xs ys : List AV} (h : Sub xs ys) : Sub (x :: xs) (x :: ys) := by
  intro K w us hv
  obtain ⟨u, us', rfl, h1, h2⟩ := hv
  exact ⟨u, us', rfl, h1, h K w us' h2⟩
theorem Sub.nil {p : Bool} {sz : Nat} {xs ys : List AV} (h : Sub xs ys) : Sub (.nilS :: xs) (.list p sz [] :: ys) := by
  intro K w us hv
  obtain ⟨u, us', rfl, h1, h2⟩ := hv
  refine ⟨u, us', rfl, ?_, h K w us' h2⟩
  simp only [VR] at h1 ⊢
  exact ⟨none, 0, 0, 0, h1, Nat.le_refl _, .inl trivial, by simp [LR]⟩
theorem PCalls.sub {P : Program} {f : FuncId} {xs ys : List AV} {R : AOut → Prop} (h : PCalls P f ys R) (hs : Sub xs ys) : PCalls P f xs R :=
  ⟨h.1, fun K w vals hK hv => h.2 K w vals hK (hs K w vals hv)⟩

def insPos (l : List DDef) (n : ByteArray) : Nat := (l.takeWhile fun x => ltS x.name n).length
def definedF (l : List DDef) (d : DDef) : List DDef := if (insPos l d.name < l.length ∧ eqS (ix l (insPos l d.name)).name d.name = true) then l else l.take (insPos l d.name) ++ d :: l.drop (insPos l d.name)

theorem insPos_eq {n : ByteArray} : ∀ {l : List DDef} {k : Nat}, k ≤ l.length → (∀ j, j < k → ltS (ix l j).name n = true) → (k < l.length → ltS (ix l k).name n = false) → insPos l n = k
  | [], k, h, _, _ => by simp at h; subst h; rfl
  | x :: l, 0, _, _, h2 => by
    have := h2 (by simp)
    simp only [insPos, List.takeWhile_cons, show ltS x.name n = false from this]; rfl
  | x :: l, k + 1, h, h1, h2 => by
    have h0 : ltS x.name n = true := h1 0 (by omega)
    have ih := insPos_eq (n := n) (l := l) (k := k) (by simpa using h) (fun j hj => h1 (j + 1) (by omega)) (fun hk => h2 (by simpa using hk))
    simp only [insPos] at ih ⊢
    rw [List.takeWhile_cons, if_pos h0, List.length_cons, ih]

set_option maxHeartbeats 4000000 in
theorem call68 (l : List DDef) (d : DDef) (hl : l.length ≤ 4000000000000) : PCalls Try.prog 68 [.list true 2 (l.map DDef.av), .agg d.av] fun out => out = .ret (.list true 2 ((definedF l d).map DDef.av)) := by
  refine ok68.pcalls (by simp) ?_
  simp [c68, DDef.av]
  refine wpS_loop (ι := Nat) (fun k => [(0, .list true 2 (l.map DDef.av)), (3, .ptr 0 0 0), (5, .int .i64 k)]) (fun _ => ⟨[(0, .cells d.av)], 1⟩) (fun k => l.length - k)
    (fun k => k ≤ l.length ∧ ∀ j, j < k → ltS (ix l j).name d.name = true) 0 (by simp) (Env.le_of (by simp)) (by simp [DDef.av]) ?_
  intro k ⟨hk, hall⟩
  have hw : IntKind.i64.wrap (k + 1) = k + 1 := wrap64 (by omega) (by omega)
  have fin : (k < l.length → ltS (ix l k).name d.name = false) → insPos l d.name = k := insPos_eq hk hall
  simp [DDef.av]
  refine br_dguard_t rfl (fun h => ?_) (fun h => ?_)
  · have hlt : k < l.length := by have := ltI_t.1 h; omega
    simp [h, idxM, DDef.av]
    refine br_cond rfl (fun h1 => ?_) (fun h1 => ?_)
    · simp [hw]
      exact ⟨k + 1, ⟨by omega, upto hall h1⟩, by omega, Env.le_of (by simp), Mem.le_of rfl (by simp)⟩
    have hp := fin fun _ => h1
    simp [h, idxM, DDef.av]
    refine br_cond rfl (fun h2 => ?_) (fun h2 => ?_)
    · have hd : definedF l d = l := by unfold definedF; rw [hp, if_pos ⟨hlt, h2⟩]
      simp [cr68, hd]
    have hd : definedF l d = l.take k ++ d :: l.drop k := by unfold definedF; rw [hp, if_neg (by rw [h2]; simp)]
    have hm : min k l.length = k := Nat.min_eq_left hk
    have hf1 : k * 24 ≤ 140737488355328 ∧ k ≤ 9223372036854775807 := ⟨by omega, by omega⟩
    have hf2 : (k + 1) * 24 ≤ 140737488355328 ∧ k + 1 ≤ 9223372036854775807 := ⟨by omega, by omega⟩
    have hf3 : (k + 1 + (l.length - k)) * 24 ≤ 140737488355328 ∧ k + 1 + (l.length - k) ≤ 9223372036854775807 := ⟨by omega, by omega⟩
    have hs1 : sliceA false true 2 [.list true 2 (l.map DDef.av), .int .i64 k] = some (.list true 2 ((l.take k).map DDef.av)) := by simp [sliceA, boundsA, hk, List.map_take]
    have hs2 : sliceA true false 2 [.list true 2 (l.map DDef.av), .int .i64 k] = some (.list true 2 ((l.drop k).map DDef.av)) := by
      simp [sliceA, boundsA, hk, List.map_drop]
      rw [List.take_of_length_le (by simp)]
    have e : (l.take k).map DDef.av ++ ([AV.str d.name, AV.int IntKind.i64 d.at_] :: (l.drop k).map DDef.av) = (l.take k ++ d :: l.drop k).map DDef.av := by simp [DDef.av]
    have e1 : k + 1 + (l.length - k) = (l.take k ++ d :: l.drop k).length := by simp [hm]; omega
    simp [hs1, hs2, appendA, hm, hf1, hf2, hf3, cr68, hd, DDef.av, List.range_succ]
    rw [if_pos (by omega), ← List.map_take, ← List.map_drop, e, e1, take_map]
    simp only [perm_defs, if_true]
  · have hid : k = l.length := by have := ltI_f.1 h; omega
    have hp := fin (fun hh => by omega)
    have hd : definedF l d = l.take k ++ d :: l.drop k := by unfold definedF; rw [hp, if_neg (fun hh => by omega)]
    simp [h]
    have hm : min k l.length = k := Nat.min_eq_left hk
    have hf1 : k * 24 ≤ 140737488355328 ∧ k ≤ 9223372036854775807 := ⟨by omega, by omega⟩
    have hf2 : (k + 1) * 24 ≤ 140737488355328 ∧ k + 1 ≤ 9223372036854775807 := ⟨by omega, by omega⟩
    have hf3 : (k + 1 + (l.length - k)) * 24 ≤ 140737488355328 ∧ k + 1 + (l.length - k) ≤ 9223372036854775807 := ⟨by omega, by omega⟩
    have hs1 : sliceA false true 2 [.list true 2 (l.map DDef.av), .int .i64 k] = some (.list true 2 ((l.take k).map DDef.av)) := by simp [sliceA, boundsA, hk, List.map_take]
    have hs2 : sliceA true false 2 [.list true 2 (l.map DDef.av), .int .i64 k] = some (.list true 2 ((l.drop k).map DDef.av)) := by
      simp [sliceA, boundsA, hk, List.map_drop]
      rw [List.take_of_length_le (by simp)]
    have e : (l.take k).map DDef.av ++ ([AV.str d.name, AV.int IntKind.i64 d.at_] :: (l.drop k).map DDef.av) = (l.take k ++ d :: l.drop k).map DDef.av := by simp [DDef.av]
    have e1 : k + 1 + (l.length - k) = (l.take k ++ d :: l.drop k).length := by simp [hm]; omega
    simp [hs1, hs2, appendA, hm, hf1, hf2, hf3, cr68, hd, DDef.av, List.range_succ]
    rw [if_pos (by omega), ← List.map_take, ← List.map_drop, e, e1, take_map]
    simp only [perm_defs, if_true]
end Go.Pm

/- LkO: texts are in order. -/
namespace Go.Pm
open Go Go.Proofs

theorem less_irrefl : ∀ x : List UInt8, Op.bytesLess x x = false
  | [] => rfl
  | a :: x => by
    rw [Op.bytesLess, less_irrefl x]
    simp
theorem less_trans : ∀ x y z : List UInt8, Op.bytesLess x y = true → Op.bytesLess y z = true → Op.bytesLess x z = true
  | x, [], z, h, _ => by cases x <;> simp [Op.bytesLess] at h
  | [], b :: y, [], _, h => by simp [Op.bytesLess] at h
  | [], b :: y, c :: z, _, _ => by simp [Op.bytesLess]
  | a :: x, b :: y, [], _, h => by simp [Op.bytesLess] at h
  | a :: x, b :: y, c :: z, h1, h2 => by
    simp only [Op.bytesLess, Bool.or_eq_true, Bool.and_eq_true, decide_eq_true_eq, beq_iff_eq, UInt8.lt_iff_toNat_lt] at h1 h2 ⊢
    rcases h1 with h1 | ⟨rfl, h1⟩
    · rcases h2 with h2 | ⟨rfl, h2⟩
      · exact .inl (by omega)
      · exact .inl h1
    · rcases h2 with h2 | ⟨rfl, h2⟩
      · exact .inl h2
      · exact .inr ⟨rfl, less_trans x y z h1 h2⟩
theorem less_tri : ∀ x y : List UInt8, Op.bytesLess x y = true ∨ x = y ∨ Op.bytesLess y x = true
  | [], [] => .inr (.inl rfl)
  | [], b :: y => .inl rfl
  | a :: x, [] => .inr (.inr rfl)
  | a :: x, b :: y => by
    simp only [Op.bytesLess, Bool.or_eq_true, Bool.and_eq_true, decide_eq_true_eq, beq_iff_eq, UInt8.lt_iff_toNat_lt, List.cons.injEq]
    rcases Nat.lt_trichotomy a.toNat b.toNat with h | h | h
    · exact .inl (.inl h)
    · have e : a = b := UInt8.toNat_inj.1 h
      subst e
      rcases less_tri x y with h | h | h
      · exact .inl (.inr ⟨rfl, h⟩)
      · exact .inr (.inl ⟨rfl, h⟩)
      · exact .inr (.inr (.inr ⟨rfl, h⟩))
    · exact .inr (.inr (.inl h))
theorem less_asymm (x y : List UInt8) (h : Op.bytesLess x y = true) : Op.bytesLess y x = false := by
  cases h2 : Op.bytesLess y x with
  | false => rfl
  | true => have := less_trans _ _ _ h h2; rw [less_irrefl] at this; cases this

theorem toList_inj {a b : ByteArray} (h : a.toList = b.toList) : a = b := eqS_t.1 (by unfold eqS; rw [h]; exact beq_self_eq_true _)
theorem ltS_irrefl (a : ByteArray) : ltS a a = false := less_irrefl _
theorem ltS_trans {a b c : ByteArray} (h : ltS a b = true) (h' : ltS b c = true) : ltS a c = true := less_trans _ _ _ h h'
theorem ltS_asymm {a b : ByteArray} (h : ltS a b = true) : ltS b a = false := less_asymm _ _ h
theorem ltS_tri (a b : ByteArray) : ltS a b = true ∨ a = b ∨ ltS b a = true := by
  rcases less_tri a.toList b.toList with h | h | h
  · exact .inl h
  · exact .inr (.inl (toList_inj h))
  · exact .inr (.inr h)
end Go.Pm

/- LkT1: strict orders, sorted lists, and the pieces of the library's stable sort as plain lists. -/
namespace Go.Pm

/-- A strict order in which different elements differ. -/
structure STO {α : Type} (lt : α → α → Bool) : Prop where
  irrefl : ∀ a, lt a a = false
  trans : ∀ a b c, lt a b = true → lt b c = true → lt a c = true
  tri : ∀ a b, lt a b = true ∨ a = b ∨ lt b a = true

def leOf {α : Type} (lt : α → α → Bool) (a b : α) : Bool := !lt b a
abbrev Srt {α : Type} (lt : α → α → Bool) (l : List α) : Prop := l.Pairwise fun a b => leOf lt a b = true
def sortBy {α : Type} (lt : α → α → Bool) (l : List α) : List α := l.mergeSort (leOf lt)

section
variable {α : Type} {lt : α → α → Bool}

theorem STO.asymm (h : STO lt) {a b : α} (h1 : lt a b = true) : lt b a = false := by
  cases h2 : lt b a with
  | false => rfl
  | true => have := h.trans _ _ _ h1 h2; rw [h.irrefl] at this; cases this
theorem STO.le_of_lt (h : STO lt) {a b : α} (h1 : lt a b = true) : leOf lt a b = true := by simp [leOf, h.asymm h1]
theorem le_iff {a b : α} : leOf lt a b = true ↔ lt b a = false := by simp [leOf]
theorem STO.le_refl (h : STO lt) (a : α) : leOf lt a a = true := by simp [leOf, h.irrefl]
theorem STO.le_antisymm (h : STO lt) {a b : α} (h1 : leOf lt a b = true) (h2 : leOf lt b a = true) : a = b := by
  rw [le_iff] at h1 h2
  rcases h.tri a b with h3 | h3 | h3
  · rw [h2] at h3; cases h3
  · exact h3
  · rw [h1] at h3; cases h3
theorem STO.le_total (h : STO lt) (a b : α) : leOf lt a b = true ∨ leOf lt b a = true := by
  rcases h.tri a b with h3 | rfl | h3
  · exact .inl (h.le_of_lt h3)
  · exact .inl (h.le_refl a)
  · exact .inr (h.le_of_lt h3)
theorem STO.le_trans (h : STO lt) {a b c : α} (h1 : leOf lt a b = true) (h2 : leOf lt b c = true) : leOf lt a c = true := by
  rcases h.tri a c with h3 | rfl | h3
  · exact h.le_of_lt h3
  · exact h.le_refl a
  · rw [le_iff] at h1 h2
    rcases h.tri a b with h4 | rfl | h4
    · have := h.trans _ _ _ h3 h4; rw [h2] at this; cases this
    · rw [h2] at h3; cases h3
    · rw [h1] at h4; cases h4
theorem STO.lt_of_lt_le (h : STO lt) {a b c : α} (h1 : lt a b = true) (h2 : leOf lt b c = true) : lt a c = true := by
  rcases h.tri a c with h3 | rfl | h3
  · exact h3
  · rw [le_iff, h1] at h2; cases h2
  · have := h.trans _ _ _ h3 h1; rw [le_iff, this] at h2; cases h2
theorem STO.lt_of_le_lt (h : STO lt) {a b c : α} (h1 : leOf lt a b = true) (h2 : lt b c = true) : lt a c = true := by
  rcases h.tri a c with h3 | rfl | h3
  · exact h3
  · rw [le_iff, h2] at h1; cases h1
  · have := h.trans _ _ _ h2 h3; rw [le_iff, this] at h1; cases h1

theorem sortBy_perm (l : List α) : (sortBy lt l).Perm l := List.mergeSort_perm _ _
theorem sortBy_len (l : List α) : (sortBy lt l).length = l.length := (sortBy_perm l).length_eq
theorem STO.sorted (h : STO lt) (l : List α) : Srt lt (sortBy lt l) := List.pairwise_mergeSort (le := leOf lt) (fun _ _ _ => h.le_trans) (fun a b => by simpa using h.le_total a b) l
theorem STO.unique (h : STO lt) {l l' : List α} (hs : Srt lt l') (hp : l'.Perm l) : l' = sortBy lt l :=
  List.Perm.eq_of_pairwise (fun _ _ _ _ => h.le_antisymm) hs (h.sorted l) (hp.trans (sortBy_perm l).symm)
theorem STO.congr (h : STO lt) {l l' : List α} (hp : l.Perm l') : sortBy lt l = sortBy lt l' := h.unique (h.sorted l) ((sortBy_perm l).trans hp)
theorem STO.same (h : STO lt) {l : List α} (hs : Srt lt l) : sortBy lt l = l := (h.unique hs (List.Perm.refl l)).symm

theorem srt_append {l l' : List α} : Srt lt (l ++ l') ↔ Srt lt l ∧ Srt lt l' ∧ ∀ a ∈ l, ∀ b ∈ l', leOf lt a b = true := List.pairwise_append

section
variable [Inhabited α]
theorem ix_take {l : List α} {k j : Nat} (h : j < k) (hk : k ≤ l.length) : ix (l.take k) j = ix l j := by
  unfold ix; rw [List.getD_eq_getElem?_getD, List.getD_eq_getElem?_getD, List.getElem?_take_of_lt h]
theorem ix_drop {l : List α} {k j : Nat} : ix (l.drop k) j = ix l (k + j) := by
  unfold ix; rw [List.getD_eq_getElem?_getD, List.getD_eq_getElem?_getD, List.getElem?_drop]
theorem ix_app_l {l l' : List α} {j : Nat} (h : j < l.length) : ix (l ++ l') j = ix l j := by
  unfold ix; rw [List.getD_eq_getElem?_getD, List.getD_eq_getElem?_getD, List.getElem?_append_left h]
theorem ix_app_r {l l' : List α} {j : Nat} (h : l.length ≤ j) : ix (l ++ l') j = ix l' (j - l.length) := by
  unfold ix; rw [List.getD_eq_getElem?_getD, List.getD_eq_getElem?_getD, List.getElem?_append_right h]
theorem ix_at {l l' : List α} {x : α} : ix (l ++ x :: l') l.length = x := by rw [ix_app_r (Nat.le_refl _), Nat.sub_self]; rfl
theorem mem_ix {l : List α} {a : α} (h : a ∈ l) : ∃ j, j < l.length ∧ ix l j = a := by
  obtain ⟨j, hj, rfl⟩ := List.mem_iff_getElem.1 h
  exact ⟨j, hj, by unfold ix; rw [List.getD_eq_getElem?_getD, List.getElem?_eq_getElem hj]; rfl⟩
theorem drop_ix' {l : List α} {k : Nat} (h : k < l.length) : l.drop k = ix l k :: l.drop (k + 1) := by
  rw [List.drop_eq_getElem_cons h]
  unfold ix; rw [List.getD_eq_getElem?_getD, List.getElem?_eq_getElem h]; rfl
theorem take_ix {l : List α} {k : Nat} (h : k < l.length) : l.take (k + 1) = l.take k ++ [ix l k] := by
  rw [List.take_add_one, List.getElem?_eq_getElem h]
  unfold ix; rw [List.getD_eq_getElem?_getD, List.getElem?_eq_getElem h]; rfl
theorem Srt.le {l : List α} (h : Srt lt l) (ho : STO lt) {i j : Nat} (hij : i ≤ j) (hj : j < l.length) : leOf lt (ix l i) (ix l j) = true := by
  rcases Nat.eq_or_lt_of_le hij with rfl | hlt
  · exact ho.le_refl _
  · have := List.pairwise_iff_getElem.1 h i j (by omega) hj hlt
    unfold ix
    rwa [List.getD_eq_getElem?_getD, List.getD_eq_getElem?_getD, List.getElem?_eq_getElem (by omega), List.getElem?_eq_getElem hj]

/-- One more between those that are not greater and those that are. -/
theorem STO.put (h : STO lt) {S : List α} {y : α} {j : Nat} (hj : j ≤ S.length) (hs : Srt lt S) (h1 : ∀ k, k < j → leOf lt (ix S k) y = true) (h2 : ∀ k, j ≤ k → k < S.length → leOf lt y (ix S k) = true) : S.take j ++ y :: S.drop j = sortBy lt (y :: S) := by
  refine h.unique ?_ ?_
  · rw [srt_append]
    have hsp := hs
    rw [← List.take_append_drop j S, srt_append] at hsp
    refine ⟨hsp.1, ?_, ?_⟩
    · rw [Srt, List.pairwise_cons]
      refine ⟨fun b hb => ?_, hsp.2.1⟩
      obtain ⟨k, hk, rfl⟩ := mem_ix hb
      rw [ix_drop]
      exact h2 _ (by omega) (by simp at hk; omega)
    · intro a ha b hb
      obtain ⟨k, hk, rfl⟩ := mem_ix ha
      have hk' : k < j := by simp at hk; omega
      have ha' : leOf lt (ix (S.take j) k) y = true := by rw [ix_take hk' hj]; exact h1 k hk'
      rw [List.mem_cons] at hb
      rcases hb with rfl | hb
      · exact ha'
      · exact hsp.2.2 _ ha _ hb
  · have : (S.take j ++ y :: S.drop j).Perm (y :: (S.take j ++ S.drop j)) := List.perm_middle
    rwa [List.take_append_drop] at this
end

/-- Two sorted lists, divided so that each left part comes before each right part, merged. -/
theorem STO.split (h : STO lt) {X1 X2 Y1 Y2 : List α} (h1 : Srt lt (X1 ++ X2)) (h2 : Srt lt (Y1 ++ Y2)) (h3 : ∀ a ∈ X1, ∀ b ∈ Y2, leOf lt a b = true) (h4 : ∀ a ∈ Y1, ∀ b ∈ X2, leOf lt a b = true) :
    sortBy lt (X1 ++ Y1) ++ sortBy lt (X2 ++ Y2) = sortBy lt (X1 ++ X2 ++ (Y1 ++ Y2)) := by
  rw [srt_append] at h1 h2
  refine h.unique ?_ ?_
  · rw [srt_append]
    refine ⟨h.sorted _, h.sorted _, fun a ha b hb => ?_⟩
    rw [(sortBy_perm _).mem_iff, List.mem_append] at ha hb
    rcases ha with ha | ha <;> rcases hb with hb | hb
    · exact h1.2.2 a ha b hb
    · exact h3 a ha b hb
    · exact h4 a ha b hb
    · exact h2.2.2 a ha b hb
  · refine ((sortBy_perm _).append (sortBy_perm _)).trans ?_
    rw [List.append_assoc, List.append_assoc]
    refine List.Perm.append_left X1 ?_
    rw [← List.append_assoc, ← List.append_assoc]
    exact List.Perm.append_right Y2 List.perm_append_comm
end

/-! Swaps. -/
def swp {α : Type} [Inhabited α] (l : List α) (i j : Nat) : List α := (l.set i (ix l j)).set j (ix l i)
theorem set_at {α : Type} {P Q : List α} {a x : α} {i : Nat} (h : i = P.length) : (P ++ a :: Q).set i x = P ++ x :: Q := by
  subst h; rw [List.set_append_right _ _ (Nat.le_refl _), Nat.sub_self]; rfl
section
variable {α : Type} [Inhabited α]
theorem swp_at {P Q R : List α} {x y : α} {i j : Nat} (hi : i = P.length) (hj : j = i + 1 + Q.length) : swp (P ++ x :: (Q ++ y :: R)) i j = P ++ y :: (Q ++ x :: R) := by
  subst hi
  have e1 : ix (P ++ x :: (Q ++ y :: R)) P.length = x := ix_at
  have e2 : ix (P ++ x :: (Q ++ y :: R)) j = y := by
    rw [show P ++ x :: (Q ++ y :: R) = (P ++ x :: Q) ++ y :: R by simp, show j = (P ++ x :: Q).length by simp; omega]
    exact ix_at
  unfold swp
  rw [e1, e2, set_at rfl, show P ++ y :: (Q ++ y :: R) = (P ++ y :: Q) ++ y :: R by simp, set_at (by simp; omega)]
  simp
theorem swp_next {P R : List α} {x y : α} {i : Nat} (hi : i = P.length) : swp (P ++ x :: y :: R) i (i + 1) = P ++ y :: x :: R := swp_at (Q := []) hi (by simp)
theorem swp_comm {l : List α} {i j : Nat} (h : i ≠ j) : swp l i j = swp l j i := by
  unfold swp; rw [List.set_comm _ _ h]
theorem swp_len {l : List α} {i j : Nat} : (swp l i j).length = l.length := by simp [swp]
end
end Go.Pm

/- LkS13: code, resolved. Written by gen.py out of what ShowSC.lean printed. -/
namespace Go.Pm
open Go Go.Proofs

/-- ironbark/link.Map$1 -/
def c41 : SC :=
  (.seq (.ops [⟨(some 2), .plain (.box 3), [.tmp 0], none⟩,
    ⟨(some 3), .plain (.box 3), [.tmp 1], none⟩,
    ⟨(some 4), .plain .mv, [.lit (.int .i64 0)], none⟩] [])
  (.seq (.block 0
   (.seq (.ops [⟨(some 6), .plain (.fieldAddr 0), [.tmp 2], none⟩,
     ⟨(some 7), .plain (.load false 1), [.tmp 6], none⟩,
     ⟨(some 8), .plain (.fieldAddr 0), [.tmp 3], none⟩,
     ⟨(some 9), .plain (.load false 1), [.tmp 8], none⟩,
     ⟨(some 10), .plain (.bin .neq), [.tmp 7, .tmp 9], none⟩,
     ⟨(some 5), .plain .mv, [.tmp 10], none⟩] [6, 7, 8, 9, 10])
   (.cond (.tmp 5)
    (.seq (.ops [⟨(some 11), .plain (.fieldAddr 0), [.tmp 2], none⟩,
      ⟨(some 12), .plain (.load false 1), [.tmp 11], none⟩,
      ⟨(some 13), .plain (.fieldAddr 0), [.tmp 3], none⟩,
      ⟨(some 14), .plain (.load false 1), [.tmp 13], none⟩,
      ⟨(some 15), .plain (.bin .sub), [.tmp 12, .tmp 14], none⟩,
      ⟨(some 4), .plain .mv, [.tmp 15], none⟩] [11, 12, 13, 14, 15])
    .ret)
    (.seq (.ops [⟨(some 17), .plain (.fieldAddr 1), [.tmp 2], none⟩,
      ⟨(some 18), .plain (.load false 1), [.tmp 17], none⟩,
      ⟨(some 19), .plain (.fieldAddr 1), [.tmp 3], none⟩,
      ⟨(some 20), .plain (.load false 1), [.tmp 19], none⟩,
      ⟨(some 21), .plain (.eqBool true), [.tmp 18, .tmp 20], none⟩,
      ⟨(some 22), .plain .mv, [.tmp 21], none⟩,
      ⟨(some 23), .plain (.fieldAddr 1), [.tmp 3], (some (22, true))⟩,
      ⟨(some 24), .plain (.load false 1), [.tmp 23], (some (22, true))⟩,
      ⟨(some 25), .plain .pick, [.tmp 22, .tmp 24, .lit (.bool false)], none⟩,
      ⟨(some 16), .plain .mv, [.tmp 25], none⟩] [17, 18, 19, 20, 21, 22, 23, 24, 25])
    (.cond (.tmp 16)
     (.seq (.ops [⟨(some 4), .plain .mv, [.lit (.int .i64 (-1))], none⟩] [])
     .ret)
     (.seq (.ops [⟨(some 27), .plain (.fieldAddr 1), [.tmp 2], none⟩,
       ⟨(some 28), .plain (.load false 1), [.tmp 27], none⟩,
       ⟨(some 29), .plain (.fieldAddr 1), [.tmp 3], none⟩,
       ⟨(some 30), .plain (.load false 1), [.tmp 29], none⟩,
       ⟨(some 31), .plain (.eqBool true), [.tmp 28, .tmp 30], none⟩,
       ⟨(some 26), .plain .mv, [.tmp 31], none⟩] [27, 28, 29, 30, 31])
     (.cond (.tmp 26)
      (.seq (.ops [⟨(some 4), .plain .mv, [.lit (.int .i64 1)], none⟩] [])
      .ret)
      .skip)))))))
  (.seq (.ops [⟨(some 32), .plain (.fieldAddr 2), [.tmp 2], none⟩,
    ⟨(some 33), .plain (.load false 1), [.tmp 32], none⟩,
    ⟨(some 34), .plain (.fieldAddr 2), [.tmp 3], none⟩,
    ⟨(some 35), .plain (.load false 1), [.tmp 34], none⟩,
    ⟨(some 36), .call 42, [.tmp 33, .tmp 35], none⟩,
    ⟨(some 4), .plain .mv, [.tmp 36], none⟩] [32, 33, 34, 35, 36])
  .ret)))
def cr41 : List Res := [(4, none)]
theorem ok41 : FOk Try.prog Lk.imp 41 c41 cr41 Try.f41.ntmps := ⟨Try.f41, _, Try.func41, rfl, by kernel_rfl, by kernel_rfl, by kernel_rfl, rfl⟩

/-- slices.insertionSortCmpFunc[ironbark/link.row] -/
def c84 : SC :=
  (.seq (.ops [⟨(some 10), .plain .mv, [.tmp 1], none⟩,
    ⟨(some 11), .plain (.bin .add), [.tmp 10, .lit (.int .i64 1)], none⟩,
    ⟨(some 8), .plain .mv, [.tmp 11], none⟩] [10, 11])
  (.block 0
   (.loop
    (.seq (.seq (.ops [⟨(some 12), .plain .mv, [.tmp 8], none⟩,
      ⟨(some 13), .plain .mv, [.tmp 2], none⟩,
      ⟨(some 14), .plain (.bin .lss), [.tmp 12, .tmp 13], none⟩] [12, 13])
    (.cond (.tmp 14)
     .skip
     (.exit 0)))
    (.seq (.block 1
     (.seq (.ops [⟨(some 17), .plain .mv, [.tmp 8], none⟩,
       ⟨(some 9), .plain .mv, [.tmp 17], none⟩] [17])
     (.block 2
      (.loop
       (.seq (.seq (.draw (.step ⟨(some 18), .plain .mv, [.tmp 9], none⟩
         (.step ⟨(some 19), .plain .mv, [.tmp 1], none⟩
         (.step ⟨(some 20), .plain (.bin .gtr), [.tmp 18, .tmp 19], none⟩
         (.step ⟨(some 21), .plain .mv, [.tmp 20], none⟩
         (.step ⟨(some 22), .plain .mv, [.tmp 3], (some (21, true))⟩
         (.step ⟨(some 23), .plain .mv, [.tmp 0], (some (21, true))⟩
         (.step ⟨(some 24), .plain .mv, [.tmp 9], (some (21, true))⟩
         (.step ⟨(some 25), .plain (.indexAddr 3), [.tmp 23, .tmp 24], (some (21, true))⟩
         (.step ⟨(some 26), .plain (.load true 3), [.tmp 25], (some (21, true))⟩
         (.step ⟨(some 27), .plain .mv, [.tmp 0], (some (21, true))⟩
         (.step ⟨(some 28), .plain .mv, [.tmp 9], (some (21, true))⟩
         (.step ⟨(some 29), .plain (.bin .sub), [.tmp 28, .lit (.int .i64 1)], (some (21, true))⟩
         (.step ⟨(some 30), .plain (.indexAddr 3), [.tmp 27, .tmp 29], (some (21, true))⟩
         (.step ⟨(some 31), .plain (.load true 3), [.tmp 30], (some (21, true))⟩
         (.step ⟨(some 32), .callv, [.tmp 22, .tmp 26, .tmp 31], (some (21, true))⟩
         (.step ⟨(some 33), .plain (.bin .lss), [.tmp 32, .lit (.int .i64 0)], (some (21, true))⟩
         (.step ⟨(some 34), .plain .pick, [.tmp 21, .tmp 33, .lit (.bool false)], none⟩
         .done))))))))))))))))) [18, 19, 20, 21, 22, 23, 24, 25, 26, 27, 28, 29, 30, 31, 32, 33])
       (.cond (.tmp 34)
        .skip
        (.exit 2)))
       (.seq (.block 3
        (.draw (.step ⟨(some 37), .plain .mv, [.tmp 0], none⟩
          (.step ⟨(some 38), .plain .mv, [.tmp 9], none⟩
          (.step ⟨(some 39), .plain .mv, [.tmp 0], none⟩
          (.step ⟨(some 40), .plain .mv, [.tmp 9], none⟩
          (.step ⟨(some 41), .plain (.bin .sub), [.tmp 40, .lit (.int .i64 1)], none⟩
          (.step ⟨(some 42), .plain .mv, [.tmp 0], none⟩
          (.step ⟨(some 43), .plain .mv, [.tmp 9], none⟩
          (.step ⟨(some 44), .plain (.bin .sub), [.tmp 43, .lit (.int .i64 1)], none⟩
          (.step ⟨(some 45), .plain (.indexAddr 3), [.tmp 42, .tmp 44], none⟩
          (.step ⟨(some 46), .plain (.load true 3), [.tmp 45], none⟩
          (.step ⟨(some 47), .plain .mv, [.tmp 0], none⟩
          (.step ⟨(some 48), .plain .mv, [.tmp 9], none⟩
          (.step ⟨(some 49), .plain (.indexAddr 3), [.tmp 47, .tmp 48], none⟩
          (.step ⟨(some 50), .plain (.load true 3), [.tmp 49], none⟩
          (.step ⟨(some 51), .plain (.indexAddr 3), [.tmp 37, .tmp 38], none⟩
          (.step ⟨none, .plain (.store 3), [.tmp 51, .tmp 46], none⟩
          (.step ⟨(some 52), .plain (.indexAddr 3), [.tmp 39, .tmp 41], none⟩
          (.step ⟨none, .plain (.store 3), [.tmp 52, .tmp 50], none⟩
          .done)))))))))))))))))) [37, 38, 39, 40, 41, 42, 43, 44, 45, 46, 47, 48, 49, 50, 51, 52]))
       (.ops [⟨(some 35), .plain .mv, [.tmp 9], none⟩,
         ⟨(some 36), .plain (.bin .sub), [.tmp 35, .lit (.int .i64 1)], none⟩,
         ⟨(some 9), .plain .mv, [.tmp 36], none⟩] [35, 36])))))))
    (.ops [⟨(some 15), .plain .mv, [.tmp 8], none⟩,
      ⟨(some 16), .plain (.bin .add), [.tmp 15, .lit (.int .i64 1)], none⟩,
      ⟨(some 8), .plain .mv, [.tmp 16], none⟩] [15, 16]))))))
def cr84 : List Res := []
theorem ok84 : FOk Try.prog Lk.imp 84 c84 cr84 Try.f84.ntmps := ⟨Try.f84, _, Try.func84, rfl, by kernel_rfl, by kernel_rfl, by kernel_rfl, rfl⟩

/-- slices.swapRangeCmpFunc[ironbark/link.row] -/
def c117 : SC :=
  (.seq (.ops [⟨(some 10), .plain .mv, [.lit (.int .i64 0)], none⟩] [])
  (.block 0
   (.loop
    (.seq (.seq (.ops [⟨(some 11), .plain .mv, [.tmp 10], none⟩,
      ⟨(some 12), .plain .mv, [.tmp 3], none⟩,
      ⟨(some 13), .plain (.bin .lss), [.tmp 11, .tmp 12], none⟩] [11, 12])
    (.cond (.tmp 13)
     .skip
     (.exit 0)))
    (.seq (.block 1
     (.draw (.step ⟨(some 16), .plain .mv, [.tmp 0], none⟩
       (.step ⟨(some 17), .plain .mv, [.tmp 1], none⟩
       (.step ⟨(some 18), .plain .mv, [.tmp 10], none⟩
       (.step ⟨(some 19), .plain (.bin .add), [.tmp 17, .tmp 18], none⟩
       (.step ⟨(some 20), .plain .mv, [.tmp 0], none⟩
       (.step ⟨(some 21), .plain .mv, [.tmp 2], none⟩
       (.step ⟨(some 22), .plain .mv, [.tmp 10], none⟩
       (.step ⟨(some 23), .plain (.bin .add), [.tmp 21, .tmp 22], none⟩
       (.step ⟨(some 24), .plain .mv, [.tmp 0], none⟩
       (.step ⟨(some 25), .plain .mv, [.tmp 2], none⟩
       (.step ⟨(some 26), .plain .mv, [.tmp 10], none⟩
       (.step ⟨(some 27), .plain (.bin .add), [.tmp 25, .tmp 26], none⟩
       (.step ⟨(some 28), .plain (.indexAddr 3), [.tmp 24, .tmp 27], none⟩
       (.step ⟨(some 29), .plain (.load true 3), [.tmp 28], none⟩
       (.step ⟨(some 30), .plain .mv, [.tmp 0], none⟩
       (.step ⟨(some 31), .plain .mv, [.tmp 1], none⟩
       (.step ⟨(some 32), .plain .mv, [.tmp 10], none⟩
       (.step ⟨(some 33), .plain (.bin .add), [.tmp 31, .tmp 32], none⟩
       (.step ⟨(some 34), .plain (.indexAddr 3), [.tmp 30, .tmp 33], none⟩
       (.step ⟨(some 35), .plain (.load true 3), [.tmp 34], none⟩
       (.step ⟨(some 36), .plain (.indexAddr 3), [.tmp 16, .tmp 19], none⟩
       (.step ⟨none, .plain (.store 3), [.tmp 36, .tmp 29], none⟩
       (.step ⟨(some 37), .plain (.indexAddr 3), [.tmp 20, .tmp 23], none⟩
       (.step ⟨none, .plain (.store 3), [.tmp 37, .tmp 35], none⟩
       .done)))))))))))))))))))))))) [16, 17, 18, 19, 20, 21, 22, 23, 24, 25, 26, 27, 28, 29, 30, 31, 32, 33, 34, 35, 36, 37]))
    (.ops [⟨(some 14), .plain .mv, [.tmp 10], none⟩,
      ⟨(some 15), .plain (.bin .add), [.tmp 14, .lit (.int .i64 1)], none⟩,
      ⟨(some 10), .plain .mv, [.tmp 15], none⟩] [14, 15]))))))
def cr117 : List Res := []
theorem ok117 : FOk Try.prog Lk.imp 117 c117 cr117 Try.f117.ntmps := ⟨Try.f117, _, Try.func117, rfl, by kernel_rfl, by kernel_rfl, by kernel_rfl, rfl⟩

/-- slices.rotateCmpFunc[ironbark/link.row] -/
def c108 : SC :=
  (.seq (.ops [⟨(some 12), .plain .mv, [.tmp 2], none⟩,
    ⟨(some 13), .plain .mv, [.tmp 1], none⟩,
    ⟨(some 14), .plain (.bin .sub), [.tmp 12, .tmp 13], none⟩,
    ⟨(some 10), .plain .mv, [.tmp 14], none⟩] [12, 13, 14])
  (.seq (.ops [⟨(some 15), .plain .mv, [.tmp 3], none⟩,
    ⟨(some 16), .plain .mv, [.tmp 2], none⟩,
    ⟨(some 17), .plain (.bin .sub), [.tmp 15, .tmp 16], none⟩,
    ⟨(some 11), .plain .mv, [.tmp 17], none⟩] [15, 16, 17])
  (.seq (.block 0
   (.loop
    (.seq (.seq (.ops [⟨(some 18), .plain .mv, [.tmp 10], none⟩,
      ⟨(some 19), .plain .mv, [.tmp 11], none⟩,
      ⟨(some 20), .plain (.bin .neq), [.tmp 18, .tmp 19], none⟩] [18, 19])
    (.cond (.tmp 20)
     .skip
     (.exit 0)))
    (.block 1
     (.seq (.ops [⟨(some 21), .plain .mv, [.tmp 10], none⟩,
       ⟨(some 22), .plain .mv, [.tmp 11], none⟩,
       ⟨(some 23), .plain (.bin .gtr), [.tmp 21, .tmp 22], none⟩] [21, 22])
     (.cond (.tmp 23)
      (.seq (.ops [⟨(some 24), .plain .mv, [.tmp 0], none⟩,
        ⟨(some 25), .plain .mv, [.tmp 2], none⟩,
        ⟨(some 26), .plain .mv, [.tmp 10], none⟩,
        ⟨(some 27), .plain (.bin .sub), [.tmp 25, .tmp 26], none⟩,
        ⟨(some 28), .plain .mv, [.tmp 2], none⟩,
        ⟨(some 29), .plain .mv, [.tmp 11], none⟩,
        ⟨(some 30), .plain .mv, [.tmp 4], none⟩,
        ⟨(some 31), .call 117, [.tmp 24, .tmp 27, .tmp 28, .tmp 29, .tmp 30], none⟩] [24, 25, 26, 27, 28, 29, 30, 31])
      (.ops [⟨(some 32), .plain .mv, [.tmp 10], none⟩,
        ⟨(some 33), .plain .mv, [.tmp 11], none⟩,
        ⟨(some 34), .plain (.bin .sub), [.tmp 32, .tmp 33], none⟩,
        ⟨(some 10), .plain .mv, [.tmp 34], none⟩] [32, 33, 34]))
      (.seq (.ops [⟨(some 35), .plain .mv, [.tmp 0], none⟩,
        ⟨(some 36), .plain .mv, [.tmp 2], none⟩,
        ⟨(some 37), .plain .mv, [.tmp 10], none⟩,
        ⟨(some 38), .plain (.bin .sub), [.tmp 36, .tmp 37], none⟩,
        ⟨(some 39), .plain .mv, [.tmp 2], none⟩,
        ⟨(some 40), .plain .mv, [.tmp 11], none⟩,
        ⟨(some 41), .plain (.bin .add), [.tmp 39, .tmp 40], none⟩,
        ⟨(some 42), .plain .mv, [.tmp 10], none⟩,
        ⟨(some 43), .plain (.bin .sub), [.tmp 41, .tmp 42], none⟩,
        ⟨(some 44), .plain .mv, [.tmp 10], none⟩,
        ⟨(some 45), .plain .mv, [.tmp 4], none⟩,
        ⟨(some 46), .call 117, [.tmp 35, .tmp 38, .tmp 43, .tmp 44, .tmp 45], none⟩] [35, 36, 37, 38, 39, 40, 41, 42, 43, 44, 45, 46])
      (.ops [⟨(some 47), .plain .mv, [.tmp 11], none⟩,
        ⟨(some 48), .plain .mv, [.tmp 10], none⟩,
        ⟨(some 49), .plain (.bin .sub), [.tmp 47, .tmp 48], none⟩,
        ⟨(some 11), .plain .mv, [.tmp 49], none⟩] [47, 48, 49]))))))))
  (.ops [⟨(some 50), .plain .mv, [.tmp 0], none⟩,
    ⟨(some 51), .plain .mv, [.tmp 2], none⟩,
    ⟨(some 52), .plain .mv, [.tmp 10], none⟩,
    ⟨(some 53), .plain (.bin .sub), [.tmp 51, .tmp 52], none⟩,
    ⟨(some 54), .plain .mv, [.tmp 2], none⟩,
    ⟨(some 55), .plain .mv, [.tmp 10], none⟩,
    ⟨(some 56), .plain .mv, [.tmp 4], none⟩,
    ⟨(some 57), .call 117, [.tmp 50, .tmp 53, .tmp 54, .tmp 55, .tmp 56], none⟩] [50, 51, 52, 53, 54, 55, 56, 57]))))
def cr108 : List Res := []
theorem ok108 : FOk Try.prog Lk.imp 108 c108 cr108 Try.f108.ntmps := ⟨Try.f108, _, Try.func108, rfl, by kernel_rfl, by kernel_rfl, by kernel_rfl, rfl⟩

/-- slices.symMergeCmpFunc[ironbark/link.row] -/
def c85 : SC :=
  (.seq (.seq (.ops [⟨(some 25), .plain .mv, [.tmp 2], none⟩,
    ⟨(some 26), .plain .mv, [.tmp 1], none⟩,
    ⟨(some 27), .plain (.bin .sub), [.tmp 25, .tmp 26], none⟩,
    ⟨(some 28), .plain (.bin .eql), [.tmp 27, .lit (.int .i64 1)], none⟩] [25, 26, 27])
  (.cond (.tmp 28)
   (.seq (.ops [⟨(some 29), .plain .mv, [.tmp 2], none⟩,
     ⟨(some 10), .plain .mv, [.tmp 29], none⟩] [29])
   (.seq (.ops [⟨(some 30), .plain .mv, [.tmp 3], none⟩,
     ⟨(some 11), .plain .mv, [.tmp 30], none⟩] [30])
   (.seq (.block 0
    (.loop
     (.seq (.seq (.ops [⟨(some 31), .plain .mv, [.tmp 10], none⟩,
       ⟨(some 32), .plain .mv, [.tmp 11], none⟩,
       ⟨(some 33), .plain (.bin .lss), [.tmp 31, .tmp 32], none⟩] [31, 32])
     (.cond (.tmp 33)
      .skip
      (.exit 0)))
     (.block 1
      (.seq (.ops [⟨(some 34), .plain .mv, [.tmp 10], none⟩,
        ⟨(some 35), .plain .mv, [.tmp 11], none⟩,
        ⟨(some 36), .plain (.bin .add), [.tmp 34, .tmp 35], none⟩,
        ⟨(some 37), .plain (.convInt .u64), [.tmp 36], none⟩,
        ⟨(some 38), .plain (.bin .shr), [.tmp 37, .lit (.int .u64 1)], none⟩,
        ⟨(some 39), .plain (.convInt .i64), [.tmp 38], none⟩,
        ⟨(some 12), .plain .mv, [.tmp 39], none⟩] [34, 35, 36, 37, 38, 39])
      (.seq (.draw (.step ⟨(some 40), .plain .mv, [.tmp 4], none⟩
        (.step ⟨(some 41), .plain .mv, [.tmp 0], none⟩
        (.step ⟨(some 42), .plain .mv, [.tmp 12], none⟩
        (.step ⟨(some 43), .plain (.indexAddr 3), [.tmp 41, .tmp 42], none⟩
        (.step ⟨(some 44), .plain (.load true 3), [.tmp 43], none⟩
        (.step ⟨(some 45), .plain .mv, [.tmp 0], none⟩
        (.step ⟨(some 46), .plain .mv, [.tmp 1], none⟩
        (.step ⟨(some 47), .plain (.indexAddr 3), [.tmp 45, .tmp 46], none⟩
        (.step ⟨(some 48), .plain (.load true 3), [.tmp 47], none⟩
        (.step ⟨(some 49), .callv, [.tmp 40, .tmp 44, .tmp 48], none⟩
        (.step ⟨(some 50), .plain (.bin .lss), [.tmp 49, .lit (.int .i64 0)], none⟩
        .done))))))))))) [40, 41, 42, 43, 44, 45, 46, 47, 48, 49])
      (.cond (.tmp 50)
       (.ops [⟨(some 51), .plain .mv, [.tmp 12], none⟩,
         ⟨(some 52), .plain (.bin .add), [.tmp 51, .lit (.int .i64 1)], none⟩,
         ⟨(some 10), .plain .mv, [.tmp 52], none⟩] [51, 52])
       (.ops [⟨(some 53), .plain .mv, [.tmp 12], none⟩,
         ⟨(some 11), .plain .mv, [.tmp 53], none⟩] [53]))))))))
   (.seq (.seq (.ops [⟨(some 54), .plain .mv, [.tmp 1], none⟩,
     ⟨(some 13), .plain .mv, [.tmp 54], none⟩] [54])
   (.block 2
    (.loop
     (.seq (.seq (.ops [⟨(some 55), .plain .mv, [.tmp 13], none⟩,
       ⟨(some 56), .plain .mv, [.tmp 10], none⟩,
       ⟨(some 57), .plain (.bin .sub), [.tmp 56, .lit (.int .i64 1)], none⟩,
       ⟨(some 58), .plain (.bin .lss), [.tmp 55, .tmp 57], none⟩] [55, 56, 57])
     (.cond (.tmp 58)
      .skip
      (.exit 2)))
     (.seq (.block 3
      (.draw (.step ⟨(some 61), .plain .mv, [.tmp 0], none⟩
        (.step ⟨(some 62), .plain .mv, [.tmp 13], none⟩
        (.step ⟨(some 63), .plain .mv, [.tmp 0], none⟩
        (.step ⟨(some 64), .plain .mv, [.tmp 13], none⟩
        (.step ⟨(some 65), .plain (.bin .add), [.tmp 64, .lit (.int .i64 1)], none⟩
        (.step ⟨(some 66), .plain .mv, [.tmp 0], none⟩
        (.step ⟨(some 67), .plain .mv, [.tmp 13], none⟩
        (.step ⟨(some 68), .plain (.bin .add), [.tmp 67, .lit (.int .i64 1)], none⟩
        (.step ⟨(some 69), .plain (.indexAddr 3), [.tmp 66, .tmp 68], none⟩
        (.step ⟨(some 70), .plain (.load true 3), [.tmp 69], none⟩
        (.step ⟨(some 71), .plain .mv, [.tmp 0], none⟩
        (.step ⟨(some 72), .plain .mv, [.tmp 13], none⟩
        (.step ⟨(some 73), .plain (.indexAddr 3), [.tmp 71, .tmp 72], none⟩
        (.step ⟨(some 74), .plain (.load true 3), [.tmp 73], none⟩
        (.step ⟨(some 75), .plain (.indexAddr 3), [.tmp 61, .tmp 62], none⟩
        (.step ⟨none, .plain (.store 3), [.tmp 75, .tmp 70], none⟩
        (.step ⟨(some 76), .plain (.indexAddr 3), [.tmp 63, .tmp 65], none⟩
        (.step ⟨none, .plain (.store 3), [.tmp 76, .tmp 74], none⟩
        .done)))))))))))))))))) [61, 62, 63, 64, 65, 66, 67, 68, 69, 70, 71, 72, 73, 74, 75, 76]))
     (.ops [⟨(some 59), .plain .mv, [.tmp 13], none⟩,
       ⟨(some 60), .plain (.bin .add), [.tmp 59, .lit (.int .i64 1)], none⟩,
       ⟨(some 13), .plain .mv, [.tmp 60], none⟩] [59, 60]))))))
   .ret))))
   .skip))
  (.seq (.seq (.ops [⟨(some 77), .plain .mv, [.tmp 3], none⟩,
    ⟨(some 78), .plain .mv, [.tmp 2], none⟩,
    ⟨(some 79), .plain (.bin .sub), [.tmp 77, .tmp 78], none⟩,
    ⟨(some 80), .plain (.bin .eql), [.tmp 79, .lit (.int .i64 1)], none⟩] [77, 78, 79])
  (.cond (.tmp 80)
   (.seq (.ops [⟨(some 81), .plain .mv, [.tmp 1], none⟩,
     ⟨(some 14), .plain .mv, [.tmp 81], none⟩] [81])
   (.seq (.ops [⟨(some 82), .plain .mv, [.tmp 2], none⟩,
     ⟨(some 15), .plain .mv, [.tmp 82], none⟩] [82])
   (.seq (.block 4
    (.loop
     (.seq (.seq (.ops [⟨(some 83), .plain .mv, [.tmp 14], none⟩,
       ⟨(some 84), .plain .mv, [.tmp 15], none⟩,
       ⟨(some 85), .plain (.bin .lss), [.tmp 83, .tmp 84], none⟩] [83, 84])
     (.cond (.tmp 85)
      .skip
      (.exit 4)))
     (.block 5
      (.seq (.ops [⟨(some 86), .plain .mv, [.tmp 14], none⟩,
        ⟨(some 87), .plain .mv, [.tmp 15], none⟩,
        ⟨(some 88), .plain (.bin .add), [.tmp 86, .tmp 87], none⟩,
        ⟨(some 89), .plain (.convInt .u64), [.tmp 88], none⟩,
        ⟨(some 90), .plain (.bin .shr), [.tmp 89, .lit (.int .u64 1)], none⟩,
        ⟨(some 91), .plain (.convInt .i64), [.tmp 90], none⟩,
        ⟨(some 16), .plain .mv, [.tmp 91], none⟩] [86, 87, 88, 89, 90, 91])
      (.seq (.draw (.step ⟨(some 92), .plain .mv, [.tmp 4], none⟩
        (.step ⟨(some 93), .plain .mv, [.tmp 0], none⟩
        (.step ⟨(some 94), .plain .mv, [.tmp 2], none⟩
        (.step ⟨(some 95), .plain (.indexAddr 3), [.tmp 93, .tmp 94], none⟩
        (.step ⟨(some 96), .plain (.load true 3), [.tmp 95], none⟩
        (.step ⟨(some 97), .plain .mv, [.tmp 0], none⟩
        (.step ⟨(some 98), .plain .mv, [.tmp 16], none⟩
        (.step ⟨(some 99), .plain (.indexAddr 3), [.tmp 97, .tmp 98], none⟩
        (.step ⟨(some 100), .plain (.load true 3), [.tmp 99], none⟩
        (.step ⟨(some 101), .callv, [.tmp 92, .tmp 96, .tmp 100], none⟩
        (.step ⟨(some 102), .plain (.bin .lss), [.tmp 101, .lit (.int .i64 0)], none⟩
        (.step ⟨(some 103), .plain (.un .not), [.tmp 102], none⟩
        .done)))))))))))) [92, 93, 94, 95, 96, 97, 98, 99, 100, 101, 102])
      (.cond (.tmp 103)
       (.ops [⟨(some 104), .plain .mv, [.tmp 16], none⟩,
         ⟨(some 105), .plain (.bin .add), [.tmp 104, .lit (.int .i64 1)], none⟩,
         ⟨(some 14), .plain .mv, [.tmp 105], none⟩] [104, 105])
       (.ops [⟨(some 106), .plain .mv, [.tmp 16], none⟩,
         ⟨(some 15), .plain .mv, [.tmp 106], none⟩] [106]))))))))
   (.seq (.seq (.ops [⟨(some 107), .plain .mv, [.tmp 2], none⟩,
     ⟨(some 17), .plain .mv, [.tmp 107], none⟩] [107])
   (.block 6
    (.loop
     (.seq (.seq (.ops [⟨(some 108), .plain .mv, [.tmp 17], none⟩,
       ⟨(some 109), .plain .mv, [.tmp 14], none⟩,
       ⟨(some 110), .plain (.bin .gtr), [.tmp 108, .tmp 109], none⟩] [108, 109])
     (.cond (.tmp 110)
      .skip
      (.exit 6)))
     (.seq (.block 7
      (.draw (.step ⟨(some 113), .plain .mv, [.tmp 0], none⟩
        (.step ⟨(some 114), .plain .mv, [.tmp 17], none⟩
        (.step ⟨(some 115), .plain .mv, [.tmp 0], none⟩
        (.step ⟨(some 116), .plain .mv, [.tmp 17], none⟩
        (.step ⟨(some 117), .plain (.bin .sub), [.tmp 116, .lit (.int .i64 1)], none⟩
        (.step ⟨(some 118), .plain .mv, [.tmp 0], none⟩
        (.step ⟨(some 119), .plain .mv, [.tmp 17], none⟩
        (.step ⟨(some 120), .plain (.bin .sub), [.tmp 119, .lit (.int .i64 1)], none⟩
        (.step ⟨(some 121), .plain (.indexAddr 3), [.tmp 118, .tmp 120], none⟩
        (.step ⟨(some 122), .plain (.load true 3), [.tmp 121], none⟩
        (.step ⟨(some 123), .plain .mv, [.tmp 0], none⟩
        (.step ⟨(some 124), .plain .mv, [.tmp 17], none⟩
        (.step ⟨(some 125), .plain (.indexAddr 3), [.tmp 123, .tmp 124], none⟩
        (.step ⟨(some 126), .plain (.load true 3), [.tmp 125], none⟩
        (.step ⟨(some 127), .plain (.indexAddr 3), [.tmp 113, .tmp 114], none⟩
        (.step ⟨none, .plain (.store 3), [.tmp 127, .tmp 122], none⟩
        (.step ⟨(some 128), .plain (.indexAddr 3), [.tmp 115, .tmp 117], none⟩
        (.step ⟨none, .plain (.store 3), [.tmp 128, .tmp 126], none⟩
        .done)))))))))))))))))) [113, 114, 115, 116, 117, 118, 119, 120, 121, 122, 123, 124, 125, 126, 127, 128]))
     (.ops [⟨(some 111), .plain .mv, [.tmp 17], none⟩,
       ⟨(some 112), .plain (.bin .sub), [.tmp 111, .lit (.int .i64 1)], none⟩,
       ⟨(some 17), .plain .mv, [.tmp 112], none⟩] [111, 112]))))))
   .ret))))
   .skip))
  (.seq (.ops [⟨(some 129), .plain .mv, [.tmp 1], none⟩,
    ⟨(some 130), .plain .mv, [.tmp 3], none⟩,
    ⟨(some 131), .plain (.bin .add), [.tmp 129, .tmp 130], none⟩,
    ⟨(some 132), .plain (.convInt .u64), [.tmp 131], none⟩,
    ⟨(some 133), .plain (.bin .shr), [.tmp 132, .lit (.int .u64 1)], none⟩,
    ⟨(some 134), .plain (.convInt .i64), [.tmp 133], none⟩,
    ⟨(some 18), .plain .mv, [.tmp 134], none⟩] [129, 130, 131, 132, 133, 134])
  (.seq (.ops [⟨(some 135), .plain .mv, [.tmp 18], none⟩,
    ⟨(some 136), .plain .mv, [.tmp 2], none⟩,
    ⟨(some 137), .plain (.bin .add), [.tmp 135, .tmp 136], none⟩,
    ⟨(some 19), .plain .mv, [.tmp 137], none⟩] [135, 136, 137])
  (.seq (.ops [⟨(some 20), .plain .mv, [.lit (.int .i64 0)], none⟩,
    ⟨(some 21), .plain .mv, [.lit (.int .i64 0)], none⟩] [])
  (.seq (.seq (.ops [⟨(some 138), .plain .mv, [.tmp 2], none⟩,
    ⟨(some 139), .plain .mv, [.tmp 18], none⟩,
    ⟨(some 140), .plain (.bin .gtr), [.tmp 138, .tmp 139], none⟩] [138, 139])
  (.cond (.tmp 140)
   (.seq (.ops [⟨(some 141), .plain .mv, [.tmp 19], none⟩,
     ⟨(some 142), .plain .mv, [.tmp 3], none⟩,
     ⟨(some 143), .plain (.bin .sub), [.tmp 141, .tmp 142], none⟩,
     ⟨(some 20), .plain .mv, [.tmp 143], none⟩] [141, 142, 143])
   (.ops [⟨(some 144), .plain .mv, [.tmp 18], none⟩,
     ⟨(some 21), .plain .mv, [.tmp 144], none⟩] [144]))
   (.seq (.ops [⟨(some 145), .plain .mv, [.tmp 1], none⟩,
     ⟨(some 20), .plain .mv, [.tmp 145], none⟩] [145])
   (.ops [⟨(some 146), .plain .mv, [.tmp 2], none⟩,
     ⟨(some 21), .plain .mv, [.tmp 146], none⟩] [146]))))
  (.seq (.ops [⟨(some 147), .plain .mv, [.tmp 19], none⟩,
    ⟨(some 148), .plain (.bin .sub), [.tmp 147, .lit (.int .i64 1)], none⟩,
    ⟨(some 22), .plain .mv, [.tmp 148], none⟩] [147, 148])
  (.seq (.block 8
   (.loop
    (.seq (.seq (.ops [⟨(some 149), .plain .mv, [.tmp 20], none⟩,
      ⟨(some 150), .plain .mv, [.tmp 21], none⟩,
      ⟨(some 151), .plain (.bin .lss), [.tmp 149, .tmp 150], none⟩] [149, 150])
    (.cond (.tmp 151)
     .skip
     (.exit 8)))
    (.block 9
     (.seq (.ops [⟨(some 152), .plain .mv, [.tmp 20], none⟩,
       ⟨(some 153), .plain .mv, [.tmp 21], none⟩,
       ⟨(some 154), .plain (.bin .add), [.tmp 152, .tmp 153], none⟩,
       ⟨(some 155), .plain (.convInt .u64), [.tmp 154], none⟩,
       ⟨(some 156), .plain (.bin .shr), [.tmp 155, .lit (.int .u64 1)], none⟩,
       ⟨(some 157), .plain (.convInt .i64), [.tmp 156], none⟩,
       ⟨(some 23), .plain .mv, [.tmp 157], none⟩] [152, 153, 154, 155, 156, 157])
     (.seq (.draw (.step ⟨(some 158), .plain .mv, [.tmp 4], none⟩
       (.step ⟨(some 159), .plain .mv, [.tmp 0], none⟩
       (.step ⟨(some 160), .plain .mv, [.tmp 22], none⟩
       (.step ⟨(some 161), .plain .mv, [.tmp 23], none⟩
       (.step ⟨(some 162), .plain (.bin .sub), [.tmp 160, .tmp 161], none⟩
       (.step ⟨(some 163), .plain (.indexAddr 3), [.tmp 159, .tmp 162], none⟩
       (.step ⟨(some 164), .plain (.load true 3), [.tmp 163], none⟩
       (.step ⟨(some 165), .plain .mv, [.tmp 0], none⟩
       (.step ⟨(some 166), .plain .mv, [.tmp 23], none⟩
       (.step ⟨(some 167), .plain (.indexAddr 3), [.tmp 165, .tmp 166], none⟩
       (.step ⟨(some 168), .plain (.load true 3), [.tmp 167], none⟩
       (.step ⟨(some 169), .callv, [.tmp 158, .tmp 164, .tmp 168], none⟩
       (.step ⟨(some 170), .plain (.bin .lss), [.tmp 169, .lit (.int .i64 0)], none⟩
       (.step ⟨(some 171), .plain (.un .not), [.tmp 170], none⟩
       .done)))))))))))))) [158, 159, 160, 161, 162, 163, 164, 165, 166, 167, 168, 169, 170])
     (.cond (.tmp 171)
      (.ops [⟨(some 172), .plain .mv, [.tmp 23], none⟩,
        ⟨(some 173), .plain (.bin .add), [.tmp 172, .lit (.int .i64 1)], none⟩,
        ⟨(some 20), .plain .mv, [.tmp 173], none⟩] [172, 173])
      (.ops [⟨(some 174), .plain .mv, [.tmp 23], none⟩,
        ⟨(some 21), .plain .mv, [.tmp 174], none⟩] [174]))))))))
  (.seq (.ops [⟨(some 175), .plain .mv, [.tmp 19], none⟩,
    ⟨(some 176), .plain .mv, [.tmp 20], none⟩,
    ⟨(some 177), .plain (.bin .sub), [.tmp 175, .tmp 176], none⟩,
    ⟨(some 24), .plain .mv, [.tmp 177], none⟩] [175, 176, 177])
  (.seq (.seq (.ops [⟨(some 178), .plain .mv, [.tmp 20], none⟩,
    ⟨(some 179), .plain .mv, [.tmp 2], none⟩,
    ⟨(some 180), .plain (.bin .lss), [.tmp 178, .tmp 179], none⟩,
    ⟨(some 181), .plain .mv, [.tmp 180], none⟩,
    ⟨(some 182), .plain .mv, [.tmp 2], (some (181, true))⟩,
    ⟨(some 183), .plain .mv, [.tmp 24], (some (181, true))⟩,
    ⟨(some 184), .plain (.bin .lss), [.tmp 182, .tmp 183], (some (181, true))⟩,
    ⟨(some 185), .plain .pick, [.tmp 181, .tmp 184, .lit (.bool false)], none⟩] [178, 179, 180, 181, 182, 183, 184])
  (.cond (.tmp 185)
   (.ops [⟨(some 186), .plain .mv, [.tmp 0], none⟩,
     ⟨(some 187), .plain .mv, [.tmp 20], none⟩,
     ⟨(some 188), .plain .mv, [.tmp 2], none⟩,
     ⟨(some 189), .plain .mv, [.tmp 24], none⟩,
     ⟨(some 190), .plain .mv, [.tmp 4], none⟩,
     ⟨(some 191), .call 108, [.tmp 186, .tmp 187, .tmp 188, .tmp 189, .tmp 190], none⟩] [186, 187, 188, 189, 190, 191])
   .skip))
  (.seq (.seq (.ops [⟨(some 192), .plain .mv, [.tmp 1], none⟩,
    ⟨(some 193), .plain .mv, [.tmp 20], none⟩,
    ⟨(some 194), .plain (.bin .lss), [.tmp 192, .tmp 193], none⟩,
    ⟨(some 195), .plain .mv, [.tmp 194], none⟩,
    ⟨(some 196), .plain .mv, [.tmp 20], (some (195, true))⟩,
    ⟨(some 197), .plain .mv, [.tmp 18], (some (195, true))⟩,
    ⟨(some 198), .plain (.bin .lss), [.tmp 196, .tmp 197], (some (195, true))⟩,
    ⟨(some 199), .plain .pick, [.tmp 195, .tmp 198, .lit (.bool false)], none⟩] [192, 193, 194, 195, 196, 197, 198])
  (.cond (.tmp 199)
   (.ops [⟨(some 200), .plain .mv, [.tmp 0], none⟩,
     ⟨(some 201), .plain .mv, [.tmp 1], none⟩,
     ⟨(some 202), .plain .mv, [.tmp 20], none⟩,
     ⟨(some 203), .plain .mv, [.tmp 18], none⟩,
     ⟨(some 204), .plain .mv, [.tmp 4], none⟩,
     ⟨(some 205), .call 85, [.tmp 200, .tmp 201, .tmp 202, .tmp 203, .tmp 204], none⟩] [200, 201, 202, 203, 204, 205])
   .skip))
  (.seq (.ops [⟨(some 206), .plain .mv, [.tmp 18], none⟩,
    ⟨(some 207), .plain .mv, [.tmp 24], none⟩,
    ⟨(some 208), .plain (.bin .lss), [.tmp 206, .tmp 207], none⟩,
    ⟨(some 209), .plain .mv, [.tmp 208], none⟩,
    ⟨(some 210), .plain .mv, [.tmp 24], (some (209, true))⟩,
    ⟨(some 211), .plain .mv, [.tmp 3], (some (209, true))⟩,
    ⟨(some 212), .plain (.bin .lss), [.tmp 210, .tmp 211], (some (209, true))⟩,
    ⟨(some 213), .plain .pick, [.tmp 209, .tmp 212, .lit (.bool false)], none⟩] [206, 207, 208, 209, 210, 211, 212])
  (.cond (.tmp 213)
   (.ops [⟨(some 214), .plain .mv, [.tmp 0], none⟩,
     ⟨(some 215), .plain .mv, [.tmp 18], none⟩,
     ⟨(some 216), .plain .mv, [.tmp 24], none⟩,
     ⟨(some 217), .plain .mv, [.tmp 3], none⟩,
     ⟨(some 218), .plain .mv, [.tmp 4], none⟩,
     ⟨(some 219), .call 85, [.tmp 214, .tmp 215, .tmp 216, .tmp 217, .tmp 218], none⟩] [214, 215, 216, 217, 218, 219])
   .skip)))))))))))))
def cr85 : List Res := []
theorem ok85 : FOk Try.prog Lk.imp 85 c85 cr85 Try.f85.ntmps := ⟨Try.f85, _, Try.func85, rfl, by kernel_rfl, by kernel_rfl, by kernel_rfl, rfl⟩

/-- slices.stableCmpFunc[ironbark/link.row] -/
def c72 : SC :=
  (.seq (.ops [⟨(some 6), .plain .mv, [.lit (.int .i64 20)], none⟩] [])
  (.seq (.ops [⟨(some 10), .plain .mv, [.tmp 6], none⟩,
    ⟨(some 7), .plain .mv, [.lit (.int .i64 0)], none⟩,
    ⟨(some 8), .plain .mv, [.tmp 10], none⟩] [10])
  (.seq (.block 0
   (.loop
    (.seq (.seq (.ops [⟨(some 11), .plain .mv, [.tmp 8], none⟩,
      ⟨(some 12), .plain .mv, [.tmp 1], none⟩,
      ⟨(some 13), .plain (.bin .leq), [.tmp 11, .tmp 12], none⟩] [11, 12])
    (.cond (.tmp 13)
     .skip
     (.exit 0)))
    (.block 1
     (.seq (.ops [⟨(some 14), .plain .mv, [.tmp 0], none⟩,
       ⟨(some 15), .plain .mv, [.tmp 7], none⟩,
       ⟨(some 16), .plain .mv, [.tmp 8], none⟩,
       ⟨(some 17), .plain .mv, [.tmp 2], none⟩,
       ⟨(some 18), .call 84, [.tmp 14, .tmp 15, .tmp 16, .tmp 17], none⟩] [14, 15, 16, 17, 18])
     (.seq (.ops [⟨(some 19), .plain .mv, [.tmp 8], none⟩,
       ⟨(some 7), .plain .mv, [.tmp 19], none⟩] [19])
     (.ops [⟨(some 20), .plain .mv, [.tmp 8], none⟩,
       ⟨(some 21), .plain .mv, [.tmp 6], none⟩,
       ⟨(some 22), .plain (.bin .add), [.tmp 20, .tmp 21], none⟩,
       ⟨(some 8), .plain .mv, [.tmp 22], none⟩] [20, 21, 22])))))))
  (.seq (.ops [⟨(some 23), .plain .mv, [.tmp 0], none⟩,
    ⟨(some 24), .plain .mv, [.tmp 7], none⟩,
    ⟨(some 25), .plain .mv, [.tmp 1], none⟩,
    ⟨(some 26), .plain .mv, [.tmp 2], none⟩,
    ⟨(some 27), .call 84, [.tmp 23, .tmp 24, .tmp 25, .tmp 26], none⟩] [23, 24, 25, 26, 27])
  (.block 2
   (.loop
    (.seq (.seq (.ops [⟨(some 28), .plain .mv, [.tmp 6], none⟩,
      ⟨(some 29), .plain .mv, [.tmp 1], none⟩,
      ⟨(some 30), .plain (.bin .lss), [.tmp 28, .tmp 29], none⟩] [28, 29])
    (.cond (.tmp 30)
     .skip
     (.exit 2)))
    (.block 3
     (.seq (.ops [⟨(some 31), .plain .mv, [.tmp 6], none⟩,
       ⟨(some 32), .plain (.bin .mul), [.lit (.int .i64 2), .tmp 31], none⟩,
       ⟨(some 7), .plain .mv, [.lit (.int .i64 0)], none⟩,
       ⟨(some 8), .plain .mv, [.tmp 32], none⟩] [31, 32])
     (.seq (.block 4
      (.loop
       (.seq (.seq (.ops [⟨(some 33), .plain .mv, [.tmp 8], none⟩,
         ⟨(some 34), .plain .mv, [.tmp 1], none⟩,
         ⟨(some 35), .plain (.bin .leq), [.tmp 33, .tmp 34], none⟩] [33, 34])
       (.cond (.tmp 35)
        .skip
        (.exit 4)))
       (.block 5
        (.seq (.ops [⟨(some 36), .plain .mv, [.tmp 0], none⟩,
          ⟨(some 37), .plain .mv, [.tmp 7], none⟩,
          ⟨(some 38), .plain .mv, [.tmp 7], none⟩,
          ⟨(some 39), .plain .mv, [.tmp 6], none⟩,
          ⟨(some 40), .plain (.bin .add), [.tmp 38, .tmp 39], none⟩,
          ⟨(some 41), .plain .mv, [.tmp 8], none⟩,
          ⟨(some 42), .plain .mv, [.tmp 2], none⟩,
          ⟨(some 43), .call 85, [.tmp 36, .tmp 37, .tmp 40, .tmp 41, .tmp 42], none⟩] [36, 37, 38, 39, 40, 41, 42, 43])
        (.seq (.ops [⟨(some 44), .plain .mv, [.tmp 8], none⟩,
          ⟨(some 7), .plain .mv, [.tmp 44], none⟩] [44])
        (.ops [⟨(some 45), .plain .mv, [.tmp 8], none⟩,
          ⟨(some 46), .plain .mv, [.tmp 6], none⟩,
          ⟨(some 47), .plain (.bin .mul), [.lit (.int .i64 2), .tmp 46], none⟩,
          ⟨(some 48), .plain (.bin .add), [.tmp 45, .tmp 47], none⟩,
          ⟨(some 8), .plain .mv, [.tmp 48], none⟩] [45, 46, 47, 48])))))))
     (.seq (.seq (.ops [⟨(some 49), .plain .mv, [.tmp 7], none⟩,
       ⟨(some 50), .plain .mv, [.tmp 6], none⟩,
       ⟨(some 51), .plain (.bin .add), [.tmp 49, .tmp 50], none⟩,
       ⟨(some 9), .plain .mv, [.tmp 51], none⟩] [49, 50, 51])
     (.seq (.ops [⟨(some 52), .plain .mv, [.tmp 9], none⟩,
       ⟨(some 53), .plain .mv, [.tmp 1], none⟩,
       ⟨(some 54), .plain (.bin .lss), [.tmp 52, .tmp 53], none⟩] [52, 53])
     (.cond (.tmp 54)
      (.ops [⟨(some 55), .plain .mv, [.tmp 0], none⟩,
        ⟨(some 56), .plain .mv, [.tmp 7], none⟩,
        ⟨(some 57), .plain .mv, [.tmp 9], none⟩,
        ⟨(some 58), .plain .mv, [.tmp 1], none⟩,
        ⟨(some 59), .plain .mv, [.tmp 2], none⟩,
        ⟨(some 60), .call 85, [.tmp 55, .tmp 56, .tmp 57, .tmp 58, .tmp 59], none⟩] [55, 56, 57, 58, 59, 60])
      .skip)))
     (.ops [⟨(some 61), .plain .mv, [.tmp 6], none⟩,
       ⟨(some 62), .plain (.bin .mul), [.tmp 61, .lit (.int .i64 2)], none⟩,
       ⟨(some 6), .plain .mv, [.tmp 62], none⟩] [61, 62]))))))))))))
def cr72 : List Res := []
theorem ok72 : FOk Try.prog Lk.imp 72 c72 cr72 Try.f72.ntmps := ⟨Try.f72, _, Try.func72, rfl, by kernel_rfl, by kernel_rfl, by kernel_rfl, rfl⟩

/-- slices.SortStableFunc[[]ironbark/link.row,ironbark/link.row] -/
def c40 : SC :=
  (.ops [⟨(some 4), .plain .mv, [.tmp 0], none⟩,
    ⟨(some 5), .plain .mv, [.tmp 0], none⟩,
    ⟨(some 6), .plain (.len 1), [.tmp 5], none⟩,
    ⟨(some 7), .plain .mv, [.tmp 1], none⟩,
    ⟨(some 8), .call 72, [.tmp 4, .tmp 6, .tmp 7], none⟩] [4, 5, 6, 7, 8])
def cr40 : List Res := []
theorem ok40 : FOk Try.prog Lk.imp 40 c40 cr40 Try.f40.ntmps := ⟨Try.f40, _, Try.func40, rfl, by kernel_rfl, by kernel_rfl, by kernel_rfl, rfl⟩

end Go.Pm

/-
  DERIVED: THE SHELF's CONTRACTS AT THIS DUMP, IN PLAIN WORDS (tools/lay-plain.mjs out of 'TrySrtShelf.lean', which tools/lay-shelf.mjs wrote): THE SAME DECLARATIONS UNDER THE SAME NAMES: 'import', 'namespace', 'open', 'def', 'theorem' AND NOTHING ELSE: no command of the shelf's: FOR A HAND-IN. Each laying: the table of numbers ('.._ren') and one theorem, a field a fact of the dump's own or the kernel's comparison; each contract: ONE APPLICATION.
-/

namespace Go.Proofs
open Go.Shelf
def Try.sortDef_ren : Go.Shelf.Ren := ⟨fun | 6 => 57 | 15 => 76 | 14 => 82 | 28 => 96 | 29 => 97 | 20 => 100 | 21 => 101 | 22 => 102 | 23 => 103 | 24 => 104 | 25 => 105 | 26 => 106 | 27 => 107 | 46 => 114 | 47 => 110 | 48 => 111 | 49 => 115 | 50 => 116 | 57 => 119 | n => n, fun | 22 => 26 | 24 => 40 | 25 => 109 | 3 => 3 | 39 => 71 | 0 => 0 | 53 => 42 | 55 => 143 | 4 => 4 | 46 => 135 | 45 => 134 | 50 => 98 | 5 => 5 | 9 => 9 | 66 => 151 | 70 => 155 | 76 => 159 | 77 => 160 | n => n, fun | n => n⟩
theorem Try.sortDef : Go.Proofs.SlLaysF0.n6 Try.prog Try.sortDef_ren := {
  mixed := by kernel_rfl
  f6 := ⟨Try.f57.name, by decide, Try.func57.trans (congrArg some (by kernel_rfl))⟩
  f14 := ⟨Try.f82.name, by decide, Try.func82.trans (congrArg some (by kernel_rfl))⟩
  f15 := Try.func76.trans (congrArg some (by kernel_rfl))
  f20 := ⟨Try.f100.name, by decide, Try.func100.trans (congrArg some (by kernel_rfl))⟩
  f21 := ⟨Try.f101.name, by decide, Try.func101.trans (congrArg some (by kernel_rfl))⟩
  f22 := ⟨Try.f102.name, by decide, Try.func102.trans (congrArg some (by kernel_rfl))⟩
  f23 := ⟨Try.f103.name, by decide, Try.func103.trans (congrArg some (by kernel_rfl))⟩
  f24 := ⟨Try.f104.name, by decide, Try.func104.trans (congrArg some (by kernel_rfl))⟩
  f25 := ⟨Try.f105.name, by decide, Try.func105.trans (congrArg some (by kernel_rfl))⟩
  f26 := ⟨Try.f106.name, by decide, Try.func106.trans (congrArg some (by kernel_rfl))⟩
  f27 := ⟨Try.f107.name, by decide, Try.func107.trans (congrArg some (by kernel_rfl))⟩
  f28 := Try.func96.trans (congrArg some (by kernel_rfl))
  f29 := Try.func97.trans (congrArg some (by kernel_rfl))
  f46 := ⟨Try.f114.name, by decide, Try.func114.trans (congrArg some (by kernel_rfl))⟩
  f47 := Try.func110.trans (congrArg some (by kernel_rfl))
  f48 := Try.func111.trans (congrArg some (by kernel_rfl))
  f49 := ⟨Try.f115.name, by decide, Try.func115.trans (congrArg some (by kernel_rfl))⟩
  f50 := ⟨Try.f116.name, by decide, Try.func116.trans (congrArg some (by kernel_rfl))⟩
  f57 := ⟨Try.f119.name, by decide, Try.func119.trans (congrArg some (by kernel_rfl))⟩
  t0 := Try.underlying0
  a0 := Try.isAgg0
  z0 := Try.sizeOf0
  v0 := Try.zeroValue0
  t3 := Try.underlying3
  a3 := Try.isAgg3
  z3 := Try.sizeOf3
  v3 := Try.zeroValue3
  t4 := Try.underlying4
  a4 := Try.isAgg4
  z4 := Try.sizeOf4
  v4 := Try.zeroValue4
  t5 := Try.underlying5
  a5 := Try.isAgg5
  z5 := Try.sizeOf5
  v5 := Try.zeroValue5
  t9 := Try.underlying9
  a9 := Try.isAgg9
  z9 := Try.sizeOf9
  v9 := Try.zeroValue9
  t22 := Try.underlying26
  a22 := Try.isAgg26
  z22 := Try.sizeOf26
  v22 := Try.zeroValue26
  t25 := Try.underlying109
  a25 := Try.isAgg109
  z25 := Try.sizeOf109
  v25 := Try.zeroValue109
  t39 := Try.underlying71
  a39 := Try.isAgg71
  z39 := Try.sizeOf71
  v39 := Try.zeroValue71
  t45 := Try.underlying134
  a45 := Try.isAgg134
  z45 := Try.sizeOf134
  v45 := Try.zeroValue134
  t46 := Try.underlying135
  a46 := Try.isAgg135
  z46 := Try.sizeOf135
  v46 := Try.zeroValue135
  t50 := Try.underlying98
  a50 := Try.isAgg98
  z50 := Try.sizeOf98
  v50 := Try.zeroValue98
  t53 := Try.underlying42
  a53 := Try.isAgg42
  z53 := Try.sizeOf42
  v53 := Try.zeroValue42
  t55 := Try.underlying143
  a55 := Try.isAgg143
  z55 := Try.sizeOf143
  v55 := Try.zeroValue143
  t66 := Try.underlying151
  a66 := Try.isAgg151
  z66 := Try.sizeOf151
  v66 := Try.zeroValue151
  t70 := Try.underlying155
  a70 := Try.isAgg155
  z70 := Try.sizeOf155
  v70 := Try.zeroValue155
  t76 := Try.underlying159
  a76 := Try.isAgg159
  z76 := Try.sizeOf159
  v76 := Try.zeroValue159
  t77 := Try.underlying160
  a77 := Try.isAgg160
  z77 := Try.sizeOf160
  v77 := Try.zeroValue160 }
end Go.Proofs

/- LkC23: the library's sort, as a contract. -/
namespace Go.Pm
open Go Go.Proofs Go.Shelf Go.RowKit Go.Lib Go.Sort
attribute [-simp] List.getElem?_map

def encD (d : DDef) : List Value := [.string d.name, .int .i64 d.at_]
def cmpD (a b : DDef) : Int := if ltS a.name b.name then -1 else if ltS b.name a.name then 1 else 0

set_option maxHeartbeats 2000000 in
theorem compare42 (x y : ByteArray) (W : World) : Calls Try.prog 42 #[.string x, .string y] W fun e w' => e = .returned (.int .i64 (if ltS x y then -1 else if ltS y x then 1 else 0)) ∧ w' = W := by
  have hg : ∀ W, (binOp .gtr 9 (.string x) (.string y)).run Try.prog W = .ok (.bool !(Op.bytesLess x.toList y.toList || x.toList == y.toList)) W := fun W => by simp [binOp, Op.stringOp]
  unfold ltS
  rcases less_tri x.toList y.toList with h | h | h
  · have h2 := less_asymm _ _ h
    rw [h, h2]
    go_enter Try.func42, Try.ntmps42
    go_wp2
    all_goals go_ret
    all_goals simp
  · have h2 := less_irrefl y.toList
    rw [h] at hg ⊢
    rw [h2] at hg ⊢
    simp only [beq_self_eq_true, Bool.or_true, Bool.not_true] at hg
    go_enter Try.func42, Try.ntmps42
    go_wp2
    all_goals go_ret
    all_goals simp
  · have h2 := less_asymm _ _ h
    have hne : (x.toList == y.toList) = false := by
      cases he : x.toList == y.toList with
      | false => rfl
      | true => rw [eq_of_beq he, less_irrefl] at h; cases h
    rw [h2, hne] at hg
    rw [h, h2]
    go_enter Try.func42, Try.ntmps42
    go_wp2
    all_goals go_ret
    all_goals simp

set_option maxHeartbeats 1000000 in
theorem closure58 (x y : DDef) (W : World) : Calls Try.prog 58 #[.agg #[.string x.name, .int .i64 x.at_], .agg #[.string y.name, .int .i64 y.at_]] W fun e w' => e = .returned (.int .i64 (cmpD x y)) ∧ ∃ q os', w' = grow (W.drewN q) os' := by
  have hcon := fun W' => compare42 x.name y.name W'
  change ∀ W', Calls Try.prog 42 _ _ _ at hcon
  unfold cmpD
  generalize (if ltS x.name y.name = true then (-1 : Int) else if ltS y.name x.name = true then 1 else 0) = r at hcon ⊢
  go_enter Try.func58, Try.ntmps58
  go_wp2_with (go_at_call 42; refine (hcon _).mono ?_; rintro e w' ⟨rfl, rfl⟩)
  go_ret
  exact ⟨rfl, 0, _, by rw [alloc_eq_grow, alloc_eq_grow, grow_grow]; rfl⟩

theorem cmpLays58 (blk off size : Nat) (w : World) : CmpLays Try.prog 58 #[] encD 2 cmpD blk off size w := fun _ _ _ _ x y => closure58 x y _

theorem ltOf_cmpD (x y : DDef) : ltOf cmpD x y = ltS x.name y.name := by
  unfold ltOf cmpD
  rcases ltS_tri x.name y.name with h | h | h
  · simp [h]
  · simp [h, ltS_irrefl]
  · simp [h, ltS_asymm h]
theorem swoD : SWO (ltOf cmpD) where
  irrefl x := by rw [ltOf_cmpD]; exact ltS_irrefl _
  trans x y z h1 h2 := by rw [ltOf_cmpD] at *; exact ltS_trans h1 h2
  ntrans x y z h1 h2 := by
    rw [ltOf_cmpD] at *
    cases h : ltS x.name z.name with
    | false => rfl
    | true =>
      rcases ltS_tri x.name y.name with h3 | h3 | h3
      · rw [h3] at h1; cases h1
      · rw [← h3, h] at h2; cases h2
      · rw [ltS_trans h3 h] at h2; cases h2

theorem sorted_world_heap (w : World) (b n : Nat) (d : Array DDef) (os : Array Obj) (hb : b < w.heap.size) {cur : Array Value} {e : TypeId} {fr : Nat × Nat} (h : w.heap[b]? = some (.cells cur e fr)) :
    (sortWorldK encD 2 w b 0 n d os).heap[b]? = some (.cells (putCells id 0 (flatK encD 2 d) cur) e fr) := by
  unfold sortWorldK
  rw [heap_grow_old _ _ (by rw [size_putRowK]; exact hb)]
  unfold putRowK putRow mapBlock
  show (w.heap.modify b _)[b]? = _
  rw [Array.getElem?_modify, if_pos rfl, h]
  rfl
theorem sorted_world_other (w : World) (b n k : Nat) (d : Array DDef) (os : Array Obj) (hk : k < w.heap.size) (hne : k ≠ b) : (sortWorldK encD 2 w b 0 n d os).heap[k]? = w.heap[k]? := by
  unfold sortWorldK
  rw [heap_grow_old _ _ (by rw [size_putRowK]; exact hk)]
  unfold putRowK putRow mapBlock
  show (w.heap.modify b _)[k]? = _
  rw [Array.getElem?_modify, if_neg (fun e => hne e.symm)]

theorem holds_of_rows {σ : Sig} {K : Bool → Nat → Prop} {w : World} {b : Nat} {ds : List DDef} {cur : Array Value} {e : TypeId} (hh : w.heap[b]? = some (.cells cur e (0, 0))) (h : LR σ K w b 0 2 (ds.map DDef.av)) : HoldsK encD 2 w b 0 ds.toArray := by
  intro t ht
  rw [size_flatK] at ht
  rw [get_flatK _ _ _ _ ht]
  have ht2 : t / 2 < ds.length := by simp at ht; omega
  have hd : (ds.toArray)[t / 2]! = ds[t / 2] := by rw [getElem!_pos _ _ (by simpa using ht2)]; simp
  rw [hd]
  obtain ⟨_, hc⟩ := LR_iff.1 h (t / 2) (DDef.av ds[t / 2]) (by rw [List.getElem?_map, List.getElem?_eq_getElem ht2]; rfl)
  refine ⟨?_, by simp [World.frozen?, hh]⟩
  have hm : t % 2 = 0 ∨ t % 2 = 1 := by omega
  rcases hm with hm | hm
  · obtain ⟨u, hu, _, hV⟩ := CR_iff.1 hc 0 (.str ds[t / 2].name) rfl
    rw [VR] at hV
    rw [hm, show 0 + t = 0 + t / 2 * 2 + 0 by omega, hu, hV]
    rfl
  · obtain ⟨u, hu, _, hV⟩ := CR_iff.1 hc 1 (.int .i64 ds[t / 2].at_) rfl
    rw [VR] at hV
    rw [hm, show 0 + t = 0 + t / 2 * 2 + 1 by omega, hu, hV]
    rfl

theorem rows_of_holds {σ : Sig} {K : Bool → Nat → Prop} {w : World} {b : Nat} {d : Array DDef} (h : HoldsK encD 2 w b 0 d) : LR σ K w b 0 2 (d.toList.map DDef.av) := by
  refine LR_iff.2 fun i c hc => ?_
  rw [List.getElem?_map, Option.map_eq_some_iff] at hc
  obtain ⟨x, hx, rfl⟩ := hc
  have hi : i < d.size := by have := (List.getElem?_eq_some_iff.1 hx).1; simpa using this
  have hx' : d[i]! = x := by
    rw [getElem!_pos d i hi]
    have := (List.getElem?_eq_some_iff.1 hx).2
    simpa using this
  have hs : (flatK encD 2 d).size = d.size * 2 := size_flatK _ _ _
  refine ⟨rfl, CR_iff.2 fun j y hj => ?_⟩
  have hj2 : j < 2 := (List.getElem?_eq_some_iff.1 hj).1
  have hh := (h (i * 2 + j) (by rw [hs]; omega)).1
  rw [get_flatK _ _ _ _ (by omega), show (i * 2 + j) / 2 = i by omega, hx'] at hh
  have hm : j = 0 ∨ j = 1 := by omega
  rcases hm with rfl | rfl
  · have : y = .str x.name := by simpa [DDef.av] using hj.symm
    subst this
    refine ⟨.string x.name, ?_, rfl, by rw [VR]⟩
    rw [show 0 + i * 2 + 0 = 0 + (i * 2 + 0) by omega, hh, show (i * 2 + 0) % 2 = 0 by omega]
    rfl
  · have : y = .int .i64 x.at_ := by simpa [DDef.av] using hj.symm
    subst this
    refine ⟨.int .i64 x.at_, ?_, rfl, by rw [VR]⟩
    rw [show 0 + i * 2 + 1 = 0 + (i * 2 + 1) by omega, hh, show (i * 2 + 1) % 2 = 1 by omega]
    rfl
end Go.Pm

/- LkSo: definitions sorted by name. -/
namespace Go.Pm
open Go Go.Proofs
attribute [-simp] List.getElem?_map

def sortD (ds : List DDef) : List DDef := ds.foldl definedF []
theorem insPos_le (l : List DDef) (n : ByteArray) : insPos l n ≤ l.length := by
  unfold insPos
  exact (List.takeWhile_prefix _).length_le
theorem definedF_perm {l : List DDef} {d : DDef} (h : d.name ∉ l.map (·.name)) : (definedF l d).Perm (l ++ [d]) := by
  have hne : ¬ (insPos l d.name < l.length ∧ eqS (ix l (insPos l d.name)).name d.name = true) := by
    rintro ⟨h1, h2⟩
    exact h (List.mem_map.2 ⟨_, ix_mem h1, eqS_t.1 h2⟩)
  unfold definedF
  rw [if_neg hne]
  have h1 : (List.take (insPos l d.name) l ++ d :: List.drop (insPos l d.name) l).Perm (d :: (List.take (insPos l d.name) l ++ List.drop (insPos l d.name) l)) := List.perm_middle
  rw [List.take_append_drop] at h1
  exact h1.trans (List.perm_append_comm (l₁ := [d]) (l₂ := l))
theorem sortD_from : ∀ {ds acc : List DDef}, ((acc ++ ds).map (·.name)).Nodup → (ds.foldl definedF acc).Perm (acc ++ ds)
  | [], acc, _ => by simp
  | d :: ds, acc, h => by
    rw [List.foldl_cons]
    have hn : d.name ∉ acc.map (·.name) := by
      rw [List.map_append, List.nodup_append] at h
      intro hm
      exact h.2.2 _ hm _ (by simp) rfl
    have hp := definedF_perm hn
    have e : acc ++ d :: ds = (acc ++ [d]) ++ ds := by simp
    have hp2 : (definedF acc d ++ ds).Perm (acc ++ d :: ds) := by rw [e]; exact hp.append_right ds
    have h' : ((definedF acc d ++ ds).map (·.name)).Nodup := (hp2.map (·.name)).nodup_iff.2 h
    exact (sortD_from h').trans hp2
theorem sortD_perm {ds : List DDef} (h : (ds.map (·.name)).Nodup) : (sortD ds).Perm ds := by
  have := sortD_from (ds := ds) (acc := []) (by simpa using h)
  simpa [sortD] using this
theorem sortD_len {ds : List DDef} (h : (ds.map (·.name)).Nodup) : (sortD ds).length = ds.length := (sortD_perm h).length_eq


def LtD (a b : DDef) : Prop := ltS a.name b.name = true
theorem take_while_all {α : Type} {p : α → Bool} : ∀ {l : List α}, ∀ x ∈ l.take (l.takeWhile p).length, p x = true
  | [], x, h => by simp at h
  | a :: l, x, h => by
    rw [List.takeWhile_cons] at h
    split at h
    · rename_i ha
      rw [List.length_cons, List.take_succ_cons] at h
      rcases List.mem_cons.1 h with rfl | h
      · exact ha
      · exact take_while_all x h
    · simp at h
theorem drop_while_head {α : Type} {p : α → Bool} : ∀ {l : List α} {x : α} {r : List α}, l.drop (l.takeWhile p).length = x :: r → p x = false
  | [], x, r, h => by simp at h
  | a :: l, x, r, h => by
    rw [List.takeWhile_cons] at h
    split at h
    · rw [List.length_cons, List.drop_succ_cons] at h
      exact drop_while_head h
    · rename_i ha
      rw [List.length_nil, List.drop_zero] at h
      injection h with h1 h2
      subst h1
      simpa using ha
theorem definedF_sorted {l : List DDef} {d : DDef} (hs : l.Pairwise LtD) : (definedF l d).Pairwise LtD := by
  unfold definedF
  split
  · exact hs
  · rename_i hne
    have hsp : l = l.take (insPos l d.name) ++ l.drop (insPos l d.name) := (List.take_append_drop _ _).symm
    have hs2 := hs
    rw [hsp, List.pairwise_append] at hs2
    obtain ⟨h1, h2, h3⟩ := hs2
    rw [List.pairwise_append, List.pairwise_cons]
    have ht : ∀ x ∈ l.take (insPos l d.name), LtD x d := fun x hx => take_while_all (p := fun x : DDef => ltS x.name d.name) (l := l) x (by exact hx)
    have hd : ∀ x ∈ l.drop (insPos l d.name), LtD d x := by
      cases hdr : l.drop (insPos l d.name) with
      | nil => simp
      | cons y r =>
        have hy : ltS y.name d.name = false := drop_while_head (p := fun x : DDef => ltS x.name d.name) (l := l) (by exact hdr)
        have hlt : insPos l d.name < l.length := by
          have := congrArg List.length hdr
          simp at this
          omega
        have hix : ix l (insPos l d.name) = y := by
          have := drop_ix hlt
          rw [hdr] at this
          injection this with h _
          exact h.symm
        have hyd : LtD d y := by
          rcases ltS_tri y.name d.name with h | h | h
          · rw [h] at hy; cases hy
          · exact absurd ⟨hlt, by rw [hix]; exact eqS_t.2 h⟩ hne
          · exact h
        rw [hdr, List.pairwise_cons] at h2
        intro x hx
        rcases List.mem_cons.1 hx with rfl | hx
        · exact hyd
        · exact ltS_trans hyd (h2.1 x hx)
    exact ⟨h1, ⟨hd, h2⟩, fun a ha b hb => by
      rcases List.mem_cons.1 hb with rfl | hb
      · exact ht a ha
      · exact h3 a ha b hb⟩
theorem foldl_sorted : ∀ {ds acc : List DDef}, acc.Pairwise LtD → (ds.foldl definedF acc).Pairwise LtD
  | [], _, h => h
  | d :: ds, acc, h => by rw [List.foldl_cons]; exact foldl_sorted (definedF_sorted h)
theorem sortD_sorted (ds : List DDef) : (sortD ds).Pairwise LtD := foldl_sorted List.Pairwise.nil
theorem LtD_antisymm {a b : DDef} (h : LtD a b) (h' : LtD b a) : a = b := by
  unfold LtD at h h'
  rw [ltS_asymm h] at h'; cases h'
/-- There is one sorted permutation. -/
theorem sorted_unique {l l' : List DDef} (h : l.Pairwise LtD) (h' : l'.Pairwise LtD) (hp : l.Perm l') : l = l' := List.Perm.eq_of_pairwise (fun _ _ _ _ h1 h2 => LtD_antisymm h1 h2) h h' hp
end Go.Pm

/- LkC24: contract: the library's sort of definitions by name. -/
namespace Go.Pm
open Go Go.Proofs Go.Shelf Go.RowKit Go.Lib Go.Sort
attribute [-simp] List.getElem?_map

theorem sorted_is {ds : List DDef} {d : Array DDef} (hd : (ds.map (·.name)).Nodup) (hp : PermIn 0 ds.toArray.size ds.toArray d) (hs : SortedIn (ltOf cmpD) 0 ds.toArray.size d) : d.toList = sortD ds := by
  obtain ⟨h1, _, h2⟩ := hp
  have hsz : d.size = ds.length := by rw [h1]; simp
  have e1 : (d.extract 0 ds.toArray.size).toList = d.toList := by
    rw [← h1]; simp
  have e2 : (ds.toArray.extract 0 ds.toArray.size).toList = ds := by simp
  rw [e1, e2] at h2
  have hnd : (d.toList.map (·.name)).Nodup := (h2.map (·.name)).nodup_iff.2 hd
  refine sorted_unique ?_ (sortD_sorted ds) (h2.trans (sortD_perm hd).symm)
  rw [List.pairwise_iff_getElem]
  intro i j hi hj hij
  have hj' : j < d.size := by simpa using hj
  have hi' : i < d.size := by simpa using hi
  have := hs i j (Nat.zero_le _) hij (by simp; omega)
  rw [getElem!_pos d i hi', getElem!_pos d j hj', ltOf_cmpD] at this
  unfold LtD
  rw [Array.getElem_toList, Array.getElem_toList]
  rcases ltS_tri d[i].name d[j].name with h | h | h
  · exact h
  · exfalso
    have hne := List.pairwise_iff_getElem.1 hnd i j (by simpa using hi) (by simpa using hj) hij
    simp only [List.getElem_map, Array.getElem_toList] at hne
    exact hne h
  · rw [h] at this; cases this

theorem call57 (m : Mem) (pos gen n : Nat) (ds : List DDef) (h : m.obj pos gen = some (.row 40 2 (ds.map DDef.av))) (hn : ds.length = n) (hd : (ds.map (·.name)).Nodup) (hl : n ≤ 3000000000000) :
    ACalls Try.prog 57 [.row pos gen 2 0 n, .fn 58 []] m fun out m' => out = .ret (.tuple []) ∧ m' = m.put pos gen (.row 40 2 ((sortD ds).map DDef.av)) := by
  refine ⟨⟨Try.f57, Try.func57, rfl, by kernel_rfl⟩, fun β K σ w vals hrel hv => ?_⟩
  obtain ⟨u, us, rfl, hV, u2, us2, rfl, hV2, hnil⟩ := hv
  rw [VRs] at hnil
  subst hnil
  have hf : u2 = .func (.func 58) #[] #[] := by
    rw [VR] at hV2
    obtain ⟨cs, h1, h2⟩ := hV2
    rw [VRs] at h2
    have : cs = #[] := by apply Array.ext'; simpa using h2
    rw [h1, this]
  subst hf
  have hpos := Mem.obj_some h
  rcases Nat.eq_zero_or_pos n with h0 | h0
  · -- nothing
    have hds : ds = [] := List.eq_nil_of_length_eq_zero (by omega)
    subst hds
    have hu : ∃ p c, u = .slice p 0 c := by
      obtain ⟨ad, cap, he⟩ := row_value hV
      exact ⟨ad, cap, by rw [he, h0]⟩
    obtain ⟨p, c, rfl⟩ := hu
    refine (AnyF.slices_SortFunc_none Try.sortDef p c (.func (.func 58) #[] #[]) w).mono ?_
    rintro e w' ⟨rfl, rfl⟩
    refine ⟨K, σ, m, .ret (.tuple []), ⟨rfl, ?_⟩, hrel, List.prefix_refl _, fun _ _ h => h, fun _ _ _ => rfl, .tuple #[], rfl, by rw [VR]; exact ⟨#[], rfl, rfl⟩⟩
    exact (Mem.put_same hpos).symm
  · rw [VR] at hV
    rcases hV with ⟨b, c, hg, hoc, rfl⟩ | ⟨_, hl0, _⟩ | ⟨hl0, _⟩
    · obtain ⟨cur, hheap, hcs, hcap, hmax, hpos2, hlr⟩ := hrel.obj_row h hg
      have hH := holds_of_rows hheap hlr
      have hb : b < w.heap.size := (Array.getElem?_eq_some_iff.1 hheap).1
      have eg : ∀ args w, (callFunc 58 args).run Try.prog w = .ok (.enter 58 args) w := enters_of Try.func58 (by kernel_rfl) rfl
      have hcon := AnyQ.slices_SortFunc Try.sortDef 2 Try.isAgg40 Try.sizeOf40 encD (fun _ => rfl) (fun x v hv => by simp [encD] at hv; rcases hv with rfl | rfl <;> rfl) cmpD swoD 58 #[] b 0 c ds.toArray w eg (cmpLays58 b 0 ds.toArray.size w) hH hb (by simp; omega)
      have hargs : ([Value.slice (some ⟨b, 0 * 2, none⟩) n (c - 0), .func (.func 58) #[] #[]] : List Value).toArray = #[.slice (some ⟨b, 0, none⟩) ds.toArray.size c, .func (.func 58) #[] #[]] := by
        simp [hn]
      rw [hargs]
      refine Calls.mono hcon ?_
      rintro e w' ⟨rfl, d', n', os, hp, hs, rfl⟩
      have hd' := sorted_is hd hp hs
      have hsz : d'.size = ds.length := by rw [hp.1]; simp
      have hheap' := sorted_world_heap w b n' d' os hb hheap
      have hle : w.heap.size ≤ (sortWorldK encD 2 w b 0 n' d' os).heap.size := size_sortWorldK_c encD 2 w b 0 n' d' os
      have hgr : w.grownBy (sortWorldK encD 2 w b 0 n' d' os) (some b) := ⟨rfl, rfl, rfl, hle, fun k hk hne => sorted_world_other w b n' k d' os hk (fun e => hne (by rw [e]))⟩
      have hH' := holdsK_sortWorldK_c encD 2 w b 0 ds.toArray d' n' os hH hb hp.1
      have hKs := hrel.kept_same hgr (hrel.not_kept h hg)
      refine ⟨K, σ, _, .ret (.tuple []), ⟨rfl, rfl⟩, hrel.put hpos hg hgr ⟨_, hheap', ?_, ?_, hmax, hpos2, ?_⟩, List.prefix_refl _, fun _ _ h => h, hKs, .tuple #[], rfl, by rw [VR]; exact ⟨#[], rfl, rfl⟩⟩
      · simp [putCells, hcs]
      · rw [← hd']
        simp [hsz]
        simpa using hcap
      · rw [← hd']
        exact rows_of_holds hH'
    · omega
    · omega
end Go.Pm

/- LkT2: contracts: the rows of a map: their comparison; swaps and turns of pieces. -/
namespace Go.Pm
open Go Go.Proofs
attribute [-simp] List.getElem?_map

structure DRow where
  at_ : Int
  isDef : Bool
  text : ByteArray
  deriving Inhabited
def DRow.av (r : DRow) : List AV := [.int .i64 r.at_, .bool r.isDef, .str r.text]
def DRow.Fit (r : DRow) : Prop := 0 ≤ r.at_ ∧ r.at_ ≤ 1048576

def ltR (a b : DRow) : Bool := if eqI a.at_ b.at_ then (if a.isDef == b.isDef then ltS a.text b.text else b.isDef) else ltI a.at_ b.at_
theorem stoR : STO ltR where
  irrefl a := by simp [ltR, eqI_t.2 rfl, ltS_irrefl]
  trans a b c h1 h2 := by
    unfold ltR at *
    cases e1 : eqI a.at_ b.at_ <;> cases e2 : eqI b.at_ c.at_ <;> simp only [e1, e2, if_true, Bool.false_eq_true, if_false] at h1 h2
    · have e3 : eqI a.at_ c.at_ = false := eqI_f.2 (by have := ltI_t.1 h1; have := ltI_t.1 h2; omega)
      simp only [e3, Bool.false_eq_true, if_false]
      exact ltI_t.2 (by have := ltI_t.1 h1; have := ltI_t.1 h2; omega)
    · have h := eqI_t.1 e2
      rw [← h]; simp only [e1, Bool.false_eq_true, if_false]; exact h1
    · have h := eqI_t.1 e1
      rw [h]; simp only [e2, Bool.false_eq_true, if_false]; exact h2
    · have e3 : eqI a.at_ c.at_ = true := eqI_t.2 ((eqI_t.1 e1).trans (eqI_t.1 e2))
      simp only [e3, if_true]
      cases ha : a.isDef <;> cases hb : b.isDef <;> cases hc : c.isDef <;> simp [ha, hb, hc] at h1 h2 ⊢
      · exact ltS_trans h1 h2
      · exact ltS_trans h1 h2
  tri a b := by
    obtain ⟨x, p, s⟩ := a
    obtain ⟨y, q, t⟩ := b
    simp only [ltR]
    rcases Int.lt_trichotomy x y with h | rfl | h
    · left; rw [if_neg (by simp [eqI]; omega)]; exact ltI_t.2 h
    · have e : eqI x x = true := eqI_t.2 rfl
      simp only [e, if_true]
      cases p <;> cases q <;> simp
      · exact ltS_tri s t
      · exact ltS_tri s t
    · right; right; rw [if_neg (by simp [eqI]; omega)]; exact ltI_t.2 h

def cmpR (a b : DRow) : Int := if eqI a.at_ b.at_ then (if a.isDef == b.isDef then (if ltS a.text b.text then -1 else if ltS b.text a.text then 1 else 0) else (if b.isDef then -1 else 1)) else a.at_ - b.at_
theorem cmpR_lt (a b : DRow) : ltI (cmpR a b) 0 = ltR a b := by
  unfold cmpR ltR
  cases h1 : eqI a.at_ b.at_ <;> simp only [if_true, Bool.false_eq_true, if_false]
  · simp only [ltI]; by_cases h : a.at_ < b.at_ <;> simp [h] <;> omega
  · cases h2 : (a.isDef == b.isDef) <;> simp only [if_true, Bool.false_eq_true, if_false]
    · cases b.isDef <;> rfl
    · cases h3 : ltS a.text b.text <;> simp only [if_true, Bool.false_eq_true, if_false]
      · cases ltS b.text a.text <;> rfl
      · rfl

theorem pcalls_of_same {P : Program} {f : FuncId} {xs : List AV} {R : AOut → Prop} {v : AV} (hf : ∃ fn, P.funcs[f]? = some fn ∧ fn.body.isSome = true ∧ (fn.name == "runtime.NumGoroutine") = false) (hR : R (.ret v)) (hp : v.perm = true)
    (h : ∀ (K : Bool → Nat → Prop) (w : World) (vals : List Value), VRs [] K w xs vals → Calls P f vals.toArray w fun e w' => ∃ u, e = .returned u ∧ w' = w ∧ VR [] K w v u) : PCalls P f xs R :=
  ⟨hf, fun K w vals _ hv => (h K w vals hv).mono fun e w' ⟨u, h1, h2, h3⟩ => by
    subst h2
    exact ⟨K, .ret v, hR, hp, ⟨rfl, rfl, rfl, Nat.le_refl _, fun _ _ _ => rfl⟩, fun _ _ h => h, fun _ _ h => .inl h, u, h1, h3⟩⟩

theorem call42 (x y : ByteArray) : PCalls Try.prog 42 [.str x, .str y] fun out => out = .ret (.int .i64 (if ltS x y then -1 else if ltS y x then 1 else 0)) := by
  refine pcalls_of_same (v := .int .i64 (if ltS x y then -1 else if ltS y x then 1 else 0)) ⟨Try.f42, Try.func42, rfl, by kernel_rfl⟩ rfl rfl fun K w vals hv => ?_
  obtain ⟨u, us, rfl, hV, u', us', rfl, hV', rfl⟩ := hv
  rw [VR] at hV hV'
  subst hV; subst hV'
  refine (compare42 x y w).mono ?_
  rintro e w' ⟨rfl, rfl⟩
  exact ⟨_, rfl, rfl, by rw [VR]⟩

theorem call41 (a b : DRow) (ha : a.Fit) (hb : b.Fit) : PCalls Try.prog 41 [.agg a.av, .agg b.av] fun out => out = .ret (.int .i64 (cmpR a b)) := by
  refine ok41.pcalls (by simp) ?_
  obtain ⟨ha0, ha1⟩ := ha
  obtain ⟨hb0, hb1⟩ := hb
  have hw : IntKind.i64.wrap (a.at_ - b.at_) = a.at_ - b.at_ := wrap64 (by omega) (by omega)
  simp [c41, DRow.av]
  cases h1 : eqI a.at_ b.at_ with
  | false => simp [hw, cr41, cmpR, h1]
  | true =>
    simp
    cases h2 : (a.isDef == b.isDef) with
    | false =>
      have h3 : b.isDef = !a.isDef := by cases ha : a.isDef <;> cases hb : b.isDef <;> simp [ha, hb] at h2 ⊢
      cases h4 : a.isDef <;> simp [h4, h3, cr41, cmpR, h1]
    | true =>
      have h3 : b.isDef = a.isDef := by cases ha : a.isDef <;> cases hb : b.isDef <;> simp [ha, hb] at h2 ⊢
      simp [h3]
      refine xcall_p (call42 a.text b.text) (by simp) ?_
      simp [cr41, cmpR, h1, h3]
end Go.Pm
