/- LkS4: code, resolved. Written by gen.py out of what ShowSC.lean printed. -/
import Derived.Test.YtolfkdphlgkekaaLkS3
namespace Go.Pm
open Go Go.Proofs

/-- ironbark/ironbarkref34.double -/
def c36 : SC :=
  (.seq (.ops [⟨(some 2), .plain .mv, [.lit (.str ⟨#[]⟩)], none⟩] [])
  (.seq (.ops [⟨(some 8), .plain .mkMap, [], none⟩,
    ⟨(some 3), .plain .mv, [.tmp 8], none⟩] [8])
  (.seq (.seq (.ops [⟨(some 4), .plain .mv, [.lit (.int .i64 0)], none⟩] [])
  (.block 0
   (.loop
    (.seq (.seq (.ops [⟨(some 9), .plain .mv, [.tmp 4], none⟩,
      ⟨(some 10), .plain .mv, [.tmp 0], none⟩,
      ⟨(some 11), .plain (.len 1), [.tmp 10], none⟩,
      ⟨(some 12), .plain (.bin .lss), [.tmp 9, .tmp 11], none⟩] [9, 10, 11])
    (.cond (.tmp 12)
     .skip
     (.exit 0)))
    (.seq (.block 1
     (.seq (.seq (.ops [⟨(some 15), .plain .mv, [.tmp 3], none⟩,
       ⟨(some 16), .plain .mv, [.tmp 0], none⟩,
       ⟨(some 17), .plain .mv, [.tmp 4], none⟩,
       ⟨(some 18), .plain (.indexAddr 5), [.tmp 16, .tmp 17], none⟩,
       ⟨(some 19), .plain (.fieldAddr 0), [.tmp 18], none⟩,
       ⟨(some 20), .plain (.load false 1), [.tmp 19], none⟩,
       ⟨(some 21), .plain (.lookup .str (.bool false) false), [.tmp 15, .tmp 20], none⟩] [15, 16, 17, 18, 19, 20])
     (.cond (.tmp 21)
      (.seq (.ops [⟨(some 22), .plain .mv, [.tmp 0], none⟩,
        ⟨(some 23), .plain .mv, [.tmp 4], none⟩,
        ⟨(some 24), .plain (.indexAddr 5), [.tmp 22, .tmp 23], none⟩,
        ⟨(some 25), .plain (.fieldAddr 0), [.tmp 24], none⟩,
        ⟨(some 26), .plain (.load false 1), [.tmp 25], none⟩,
        ⟨(some 2), .plain .mv, [.tmp 26], none⟩] [22, 23, 24, 25, 26])
      .ret)
      .skip))
     (.seq (.seq (.ops [⟨(some 5), .plain .mv, [.lit (.int .i64 0)], none⟩] [])
     (.block 2
      (.loop
       (.seq (.seq (.ops [⟨(some 27), .plain .mv, [.tmp 5], none⟩,
         ⟨(some 28), .plain .mv, [.tmp 0], none⟩,
         ⟨(some 29), .plain .mv, [.tmp 4], none⟩,
         ⟨(some 30), .plain (.indexAddr 5), [.tmp 28, .tmp 29], none⟩,
         ⟨(some 31), .plain (.fieldAddr 2), [.tmp 30], none⟩,
         ⟨(some 32), .plain (.load false 1), [.tmp 31], none⟩,
         ⟨(some 33), .plain (.len 1), [.tmp 32], none⟩,
         ⟨(some 34), .plain (.bin .lss), [.tmp 27, .tmp 33], none⟩] [27, 28, 29, 30, 31, 32, 33])
       (.cond (.tmp 34)
        .skip
        (.exit 2)))
       (.seq (.block 3
        (.seq (.ops [⟨(some 37), .plain .mv, [.tmp 3], none⟩,
          ⟨(some 38), .plain .mv, [.tmp 0], none⟩,
          ⟨(some 39), .plain .mv, [.tmp 4], none⟩,
          ⟨(some 40), .plain (.indexAddr 5), [.tmp 38, .tmp 39], none⟩,
          ⟨(some 41), .plain (.fieldAddr 2), [.tmp 40], none⟩,
          ⟨(some 42), .plain (.load false 1), [.tmp 41], none⟩,
          ⟨(some 43), .plain .mv, [.tmp 5], none⟩,
          ⟨(some 44), .plain (.indexAddr 2), [.tmp 42, .tmp 43], none⟩,
          ⟨(some 45), .plain (.fieldAddr 0), [.tmp 44], none⟩,
          ⟨(some 46), .plain (.load false 1), [.tmp 45], none⟩,
          ⟨(some 47), .plain (.lookup .str (.bool false) false), [.tmp 37, .tmp 46], none⟩] [37, 38, 39, 40, 41, 42, 43, 44, 45, 46])
        (.cond (.tmp 47)
         (.seq (.ops [⟨(some 48), .plain .mv, [.tmp 0], none⟩,
           ⟨(some 49), .plain .mv, [.tmp 4], none⟩,
           ⟨(some 50), .plain (.indexAddr 5), [.tmp 48, .tmp 49], none⟩,
           ⟨(some 51), .plain (.fieldAddr 2), [.tmp 50], none⟩,
           ⟨(some 52), .plain (.load false 1), [.tmp 51], none⟩,
           ⟨(some 53), .plain .mv, [.tmp 5], none⟩,
           ⟨(some 54), .plain (.indexAddr 2), [.tmp 52, .tmp 53], none⟩,
           ⟨(some 55), .plain (.fieldAddr 0), [.tmp 54], none⟩,
           ⟨(some 56), .plain (.load false 1), [.tmp 55], none⟩,
           ⟨(some 2), .plain .mv, [.tmp 56], none⟩] [48, 49, 50, 51, 52, 53, 54, 55, 56])
         .ret)
         .skip)))
       (.ops [⟨(some 35), .plain .mv, [.tmp 5], none⟩,
         ⟨(some 36), .plain (.bin .add), [.tmp 35, .lit (.int .i64 1)], none⟩,
         ⟨(some 5), .plain .mv, [.tmp 36], none⟩] [35, 36]))))))
     (.seq (.ops [⟨(some 57), .plain .mv, [.tmp 0], none⟩,
       ⟨(some 58), .plain .mv, [.tmp 4], none⟩,
       ⟨(some 59), .plain (.indexAddr 5), [.tmp 57, .tmp 58], none⟩,
       ⟨(some 60), .plain (.load true 5), [.tmp 59], none⟩,
       ⟨(some 61), .call 64, [.tmp 60], none⟩,
       ⟨(some 6), .plain .mv, [.tmp 61], none⟩] [57, 58, 59, 60, 61])
     (.seq (.ops [⟨(some 7), .plain .mv, [.lit (.int .i64 0)], none⟩] [])
     (.block 4
      (.loop
       (.seq (.seq (.ops [⟨(some 62), .plain .mv, [.tmp 7], none⟩,
         ⟨(some 63), .plain .mv, [.tmp 6], none⟩,
         ⟨(some 64), .plain (.len 1), [.tmp 63], none⟩,
         ⟨(some 65), .plain (.bin .lss), [.tmp 62, .tmp 64], none⟩] [62, 63, 64])
       (.cond (.tmp 65)
        .skip
        (.exit 4)))
       (.seq (.block 5
        (.ops [⟨(some 68), .plain .mv, [.tmp 3], none⟩,
          ⟨(some 69), .plain .mv, [.tmp 6], none⟩,
          ⟨(some 70), .plain .mv, [.tmp 7], none⟩,
          ⟨(some 71), .plain (.indexAddr 2), [.tmp 69, .tmp 70], none⟩,
          ⟨(some 72), .plain (.fieldAddr 0), [.tmp 71], none⟩,
          ⟨(some 73), .plain (.load false 1), [.tmp 72], none⟩,
          ⟨none, .plain (.mapUpdate .str), [.tmp 68, .tmp 73, .lit (.bool true)], none⟩] [68, 69, 70, 71, 72, 73]))
       (.ops [⟨(some 66), .plain .mv, [.tmp 7], none⟩,
         ⟨(some 67), .plain (.bin .add), [.tmp 66, .lit (.int .i64 1)], none⟩,
         ⟨(some 7), .plain .mv, [.tmp 67], none⟩] [66, 67]))))))))))
    (.ops [⟨(some 13), .plain .mv, [.tmp 4], none⟩,
      ⟨(some 14), .plain (.bin .add), [.tmp 13, .lit (.int .i64 1)], none⟩,
      ⟨(some 4), .plain .mv, [.tmp 14], none⟩] [13, 14]))))))
  (.seq (.ops [⟨(some 2), .plain .mv, [.lit (.str ⟨#[]⟩)], none⟩] [])
  .ret))))
def cr36 : List Res := [(2, none)]
theorem ok36 : FOk Try.prog Lk.imp 36 c36 cr36 Try.f36.ntmps := ⟨Try.f36, _, Try.func36, rfl, by kernel_rfl, by kernel_rfl, by kernel_rfl, rfl⟩

/-- ironbark/ironbarkref34.gathered -/
def c37 : SC :=
  (.seq (.ops [⟨(some 6), .plain .mv, [.lit .nilS], none⟩,
    ⟨(some 7), .plain .mv, [.lit .nilS], none⟩] [])
  (.seq (.ops [⟨(some 16), .plain .mv, [.tmp 0], none⟩,
    ⟨(some 17), .plain (.append 51 5 104), [.lit .nilS, .tmp 16], none⟩,
    ⟨(some 0), .plain .mv, [.tmp 17], none⟩] [16, 17])
  (.block 0
   (.loop
    (.block 1
     (.seq (.ops [⟨(some 8), .plain .mv, [.lit .nilS], none⟩] [])
     (.seq (.ops [⟨(some 9), .plain (.alloc [(.str ⟨#[]⟩), (.str ⟨#[]⟩), .nilS, .nilS, .nilS]), [], none⟩] [])
     (.seq (.ops [⟨(some 10), .plain .mv, [.lit (.bool false)], none⟩] [])
     (.seq (.seq (.ops [⟨(some 11), .plain .mv, [.lit (.int .i64 0)], none⟩] [])
     (.block 2
      (.loop
       (.seq (.seq (.ops [⟨(some 18), .plain .mv, [.tmp 11], none⟩,
         ⟨(some 19), .plain .mv, [.tmp 0], none⟩,
         ⟨(some 20), .plain (.len 1), [.tmp 19], none⟩,
         ⟨(some 21), .plain (.bin .lss), [.tmp 18, .tmp 20], none⟩,
         ⟨(some 22), .plain .mv, [.tmp 21], none⟩,
         ⟨(some 23), .plain .mv, [.tmp 10], (some (22, true))⟩,
         ⟨(some 24), .plain (.un .not), [.tmp 23], (some (22, true))⟩,
         ⟨(some 25), .plain .pick, [.tmp 22, .tmp 24, .lit (.bool false)], none⟩] [18, 19, 20, 21, 22, 23, 24])
       (.cond (.tmp 25)
        .skip
        (.exit 2)))
       (.seq (.block 3
        (.seq (.ops [⟨(some 12), .plain .mv, [.lit (.int .i64 0)], none⟩] [])
        (.block 4
         (.loop
          (.seq (.seq (.ops [⟨(some 28), .plain .mv, [.tmp 12], none⟩,
            ⟨(some 29), .plain .mv, [.tmp 0], none⟩,
            ⟨(some 30), .plain .mv, [.tmp 11], none⟩,
            ⟨(some 31), .plain (.indexAddr 5), [.tmp 29, .tmp 30], none⟩,
            ⟨(some 32), .plain (.fieldAddr 3), [.tmp 31], none⟩,
            ⟨(some 33), .plain (.load false 1), [.tmp 32], none⟩,
            ⟨(some 34), .plain (.len 1), [.tmp 33], none⟩,
            ⟨(some 35), .plain (.bin .lss), [.tmp 28, .tmp 34], none⟩,
            ⟨(some 36), .plain .mv, [.tmp 35], none⟩,
            ⟨(some 37), .plain .mv, [.tmp 10], (some (36, true))⟩,
            ⟨(some 38), .plain (.un .not), [.tmp 37], (some (36, true))⟩,
            ⟨(some 39), .plain .pick, [.tmp 36, .tmp 38, .lit (.bool false)], none⟩] [28, 29, 30, 31, 32, 33, 34, 35, 36, 37, 38])
          (.cond (.tmp 39)
           .skip
           (.exit 4)))
          (.seq (.block 5
           (.seq (.ops [⟨(some 42), .plain .mv, [.tmp 0], none⟩,
             ⟨(some 43), .plain .mv, [.tmp 11], none⟩,
             ⟨(some 44), .plain (.indexAddr 5), [.tmp 42, .tmp 43], none⟩,
             ⟨(some 45), .plain (.fieldAddr 3), [.tmp 44], none⟩,
             ⟨(some 46), .plain (.load false 1), [.tmp 45], none⟩,
             ⟨(some 47), .plain .mv, [.tmp 12], none⟩,
             ⟨(some 48), .plain (.indexAddr 3), [.tmp 46, .tmp 47], none⟩,
             ⟨(some 49), .plain (.fieldAddr 1), [.tmp 48], none⟩,
             ⟨(some 50), .plain (.load false 1), [.tmp 49], none⟩,
             ⟨(some 13), .plain .mv, [.tmp 50], none⟩] [42, 43, 44, 45, 46, 47, 48, 49, 50])
           (.seq (.seq (.ops [⟨(some 52), .plain .mv, [.tmp 2], none⟩,
             ⟨(some 53), .plain .mv, [.tmp 13], none⟩,
             ⟨(some 54), .call 65, [.tmp 52, .tmp 53], none⟩,
             ⟨(some 51), .plain .mv, [.tmp 54], none⟩,
             ⟨(some 55), .plain (.extract 0), [.tmp 51], none⟩,
             ⟨(some 56), .plain (.extract 1), [.tmp 51], none⟩,
             ⟨(some 14), .plain .mv, [.tmp 55], none⟩,
             ⟨(some 15), .plain .mv, [.tmp 56], none⟩] [52, 53, 54, 51, 55, 56, 14])
           (.seq (.ops [⟨(some 57), .plain .mv, [.tmp 15], none⟩,
             ⟨(some 58), .plain .mv, [.tmp 57], none⟩,
             ⟨(some 59), .plain .mv, [.tmp 0], (some (58, false))⟩,
             ⟨(some 60), .plain .mv, [.tmp 13], (some (58, false))⟩,
             ⟨(some 61), .call 66, [.tmp 59, .tmp 60], (some (58, false))⟩,
             ⟨(some 62), .plain .pick, [.tmp 58, .lit (.bool true), .tmp 61], none⟩] [57, 58, 59, 60, 61])
           (.cond (.tmp 62)
            (.exit 5)
            .skip)))
           (.seq (.ops [⟨(some 64), .plain .mv, [.tmp 0], none⟩,
             ⟨(some 65), .plain .mv, [.tmp 1], none⟩,
             ⟨(some 66), .plain .mv, [.tmp 13], none⟩,
             ⟨(some 67), .call 67, [.tmp 64, .tmp 65, .tmp 66], none⟩,
             ⟨(some 63), .plain .mv, [.tmp 67], none⟩,
             ⟨(some 68), .plain (.extract 0), [.tmp 63], none⟩,
             ⟨(some 69), .plain (.extract 1), [.tmp 63], none⟩,
             ⟨none, .plain (.store 5), [.tmp 9, .tmp 68], none⟩,
             ⟨(some 10), .plain .mv, [.tmp 69], none⟩] [64, 65, 66, 67, 63, 68, 69])
           (.seq (.ops [⟨(some 70), .plain .mv, [.tmp 10], none⟩,
             ⟨(some 71), .plain (.un .not), [.tmp 70], none⟩] [70])
           (.cond (.tmp 71)
            (.ops [⟨(some 72), .plain .mv, [.tmp 8], none⟩,
              ⟨(some 73), .plain .mv, [.tmp 13], none⟩,
              ⟨(some 74), .plain (.buildRow 9 1 1 [(.str ⟨#[]⟩)] [0]), [.tmp 73], none⟩,
              ⟨(some 75), .plain (.append 9 1 16), [.tmp 72, .tmp 74], none⟩,
              ⟨(some 8), .plain .mv, [.tmp 75], none⟩] [72, 73, 74, 75])
            .skip))))))
          (.ops [⟨(some 40), .plain .mv, [.tmp 12], none⟩,
            ⟨(some 41), .plain (.bin .add), [.tmp 40, .lit (.int .i64 1)], none⟩,
            ⟨(some 12), .plain .mv, [.tmp 41], none⟩] [40, 41])))))))
       (.ops [⟨(some 26), .plain .mv, [.tmp 11], none⟩,
         ⟨(some 27), .plain (.bin .add), [.tmp 26, .lit (.int .i64 1)], none⟩,
         ⟨(some 11), .plain .mv, [.tmp 27], none⟩] [26, 27]))))))
     (.seq (.seq (.ops [⟨(some 76), .plain .mv, [.tmp 10], none⟩,
       ⟨(some 77), .plain (.un .not), [.tmp 76], none⟩] [76])
     (.cond (.tmp 77)
      (.seq (.ops [⟨(some 78), .plain .mv, [.tmp 0], none⟩,
        ⟨(some 79), .plain .mv, [.tmp 8], none⟩,
        ⟨(some 6), .plain .mv, [.tmp 78], none⟩,
        ⟨(some 7), .plain .mv, [.tmp 79], none⟩] [78, 79])
      .ret)
      .skip))
     (.ops [⟨(some 80), .plain .mv, [.tmp 0], none⟩,
       ⟨(some 81), .plain (.load true 5), [.tmp 9], none⟩,
       ⟨(some 82), .plain (.buildRow 51 5 1 [(.str ⟨#[]⟩), (.str ⟨#[]⟩), .nilS, .nilS, .nilS] [0]), [.tmp 81], none⟩,
       ⟨(some 83), .plain (.append 51 5 104), [.tmp 80, .tmp 82], none⟩,
       ⟨(some 0), .plain .mv, [.tmp 83], none⟩] [80, 81, 82, 83])))))))))))
def cr37 : List Res := [(6, none), (7, none)]
theorem ok37 : FOk Try.prog Lk.imp 37 c37 cr37 Try.f37.ntmps := ⟨Try.f37, _, Try.func37, rfl, by kernel_rfl, by kernel_rfl, by kernel_rfl, rfl⟩

/-- ironbark/ironbarkref34.put -/
def c38 : SC :=
  (.seq (.ops [⟨(some 6), .plain (.alloc [(.int .i64 0), (.str ⟨#[]⟩), .nilS, .nilS, .nilS]), [], none⟩] [])
  (.seq (.ops [⟨(some 20), .plain .mv, [.tmp 1], none⟩,
    ⟨(some 21), .plain (.build [(.int .i64 0), (.str ⟨#[]⟩), .nilS, .nilS, .nilS] [(0, 1)]), [.tmp 20], none⟩,
    ⟨(some 7), .plain (.alloc [(.int .i64 0), (.str ⟨#[]⟩), .nilS, .nilS, .nilS]), [], none⟩,
    ⟨none, .plain (.store 5), [.tmp 7, .tmp 21], none⟩] [20, 21])
  (.seq (.ops [⟨(some 8), .plain .mv, [.lit .nilS], none⟩] [])
  (.seq (.seq (.ops [⟨(some 9), .plain .mv, [.lit (.int .i64 0)], none⟩] [])
  (.block 0
   (.loop
    (.seq (.seq (.ops [⟨(some 22), .plain .mv, [.tmp 9], none⟩,
      ⟨(some 23), .plain .mv, [.tmp 0], none⟩,
      ⟨(some 24), .plain (.len 1), [.tmp 23], none⟩,
      ⟨(some 25), .plain (.bin .lss), [.tmp 22, .tmp 24], none⟩] [22, 23, 24])
    (.cond (.tmp 25)
     .skip
     (.exit 0)))
    (.seq (.block 1
     (.seq (.block 2
      (.loop
       (.seq (.seq (.ops [⟨(some 28), .plain (.fieldAddr 1), [.tmp 7], none⟩,
         ⟨(some 29), .plain (.load false 1), [.tmp 28], none⟩,
         ⟨(some 30), .plain (.len 0), [.tmp 29], none⟩,
         ⟨(some 31), .plain (.bin .rem), [.tmp 30, .lit (.int .i64 8)], none⟩,
         ⟨(some 32), .plain (.bin .neq), [.tmp 31, .lit (.int .i64 0)], none⟩] [28, 29, 30, 31])
       (.cond (.tmp 32)
        .skip
        (.exit 2)))
       (.block 3
        (.ops [⟨(some 33), .plain (.fieldAddr 1), [.tmp 7], none⟩,
          ⟨(some 34), .plain (.load false 1), [.tmp 33], none⟩,
          ⟨(some 35), .plain (.bin .add), [.tmp 34, .lit (.str ⟨#[0]⟩)], none⟩,
          ⟨(some 36), .plain (.fieldAddr 1), [.tmp 7], none⟩,
          ⟨none, .plain (.store 1), [.tmp 36, .tmp 35], none⟩] [33, 34, 35, 36])))))
     (.seq (.ops [⟨(some 37), .plain .mv, [.tmp 1], none⟩,
       ⟨(some 38), .plain (.fieldAddr 1), [.tmp 7], none⟩,
       ⟨(some 39), .plain (.load false 1), [.tmp 38], none⟩,
       ⟨(some 40), .plain (.len 0), [.tmp 39], none⟩,
       ⟨(some 41), .plain (.bin .add), [.tmp 37, .tmp 40], none⟩,
       ⟨(some 10), .plain .mv, [.tmp 41], none⟩] [37, 38, 39, 40, 41])
     (.seq (.ops [⟨(some 42), .plain .mv, [.tmp 8], none⟩,
       ⟨(some 43), .plain .mv, [.tmp 10], none⟩,
       ⟨(some 44), .plain (.buildRow 3 1 1 [(.int .i64 0)] [0]), [.tmp 43], none⟩,
       ⟨(some 45), .plain (.append 3 1 8), [.tmp 42, .tmp 44], none⟩,
       ⟨(some 8), .plain .mv, [.tmp 45], none⟩] [42, 43, 44, 45])
     (.seq (.draw (.step ⟨(some 46), .plain (.fieldAddr 1), [.tmp 7], none⟩
       (.step ⟨(some 47), .plain (.load false 1), [.tmp 46], none⟩
       (.step ⟨(some 48), .plain .mv, [.tmp 0], none⟩
       (.step ⟨(some 49), .plain .mv, [.tmp 9], none⟩
       (.step ⟨(some 50), .plain (.indexAddr 5), [.tmp 48, .tmp 49], none⟩
       (.step ⟨(some 51), .plain (.fieldAddr 1), [.tmp 50], none⟩
       (.step ⟨(some 52), .plain (.load false 1), [.tmp 51], none⟩
       (.step ⟨(some 53), .plain (.bin .add), [.tmp 47, .tmp 52], none⟩
       (.step ⟨(some 54), .plain (.fieldAddr 1), [.tmp 7], none⟩
       (.step ⟨none, .plain (.store 1), [.tmp 54, .tmp 53], none⟩
       .done)))))))))) [46, 47, 48, 49, 50, 51, 52, 53, 54])
     (.seq (.draw (.step ⟨(some 55), .plain (.fieldAddr 4), [.tmp 7], none⟩
       (.step ⟨(some 56), .plain (.load false 1), [.tmp 55], none⟩
       (.step ⟨(some 57), .plain .mv, [.tmp 0], none⟩
       (.step ⟨(some 58), .plain .mv, [.tmp 9], none⟩
       (.step ⟨(some 59), .plain (.indexAddr 5), [.tmp 57, .tmp 58], none⟩
       (.step ⟨(some 60), .plain (.fieldAddr 0), [.tmp 59], none⟩
       (.step ⟨(some 61), .plain (.load false 1), [.tmp 60], none⟩
       (.step ⟨(some 62), .plain .mv, [.tmp 10], none⟩
       (.step ⟨(some 63), .plain (.build [(.str ⟨#[]⟩), (.int .i64 0)] [(0, 1), (1, 1)]), [.tmp 61, .tmp 62], none⟩
       (.step ⟨(some 64), .plain (.buildRow 40 2 1 [(.str ⟨#[]⟩), (.int .i64 0)] [0]), [.tmp 63], none⟩
       (.step ⟨(some 65), .plain (.append 40 2 24), [.tmp 56, .tmp 64], none⟩
       (.step ⟨(some 66), .plain (.fieldAddr 4), [.tmp 7], none⟩
       (.step ⟨none, .plain (.store 1), [.tmp 66, .tmp 65], none⟩
       .done))))))))))))) [55, 56, 57, 58, 59, 60, 61, 62, 63, 64, 65, 66])
     (.seq (.ops [⟨(some 67), .plain .mv, [.tmp 0], none⟩,
       ⟨(some 68), .plain .mv, [.tmp 9], none⟩,
       ⟨(some 69), .plain (.indexAddr 5), [.tmp 67, .tmp 68], none⟩,
       ⟨(some 70), .plain (.load true 5), [.tmp 69], none⟩,
       ⟨(some 71), .call 64, [.tmp 70], none⟩,
       ⟨(some 11), .plain .mv, [.tmp 71], none⟩] [67, 68, 69, 70, 71])
     (.seq (.seq (.ops [⟨(some 12), .plain .mv, [.lit (.int .i64 0)], none⟩] [])
     (.block 4
      (.loop
       (.seq (.seq (.ops [⟨(some 72), .plain .mv, [.tmp 12], none⟩,
         ⟨(some 73), .plain .mv, [.tmp 11], none⟩,
         ⟨(some 74), .plain (.len 1), [.tmp 73], none⟩,
         ⟨(some 75), .plain (.bin .lss), [.tmp 72, .tmp 74], none⟩] [72, 73, 74])
       (.cond (.tmp 75)
        .skip
        (.exit 4)))
       (.seq (.block 5
        (.draw (.step ⟨(some 78), .plain (.fieldAddr 2), [.tmp 7], none⟩
          (.step ⟨(some 79), .plain (.load false 1), [.tmp 78], none⟩
          (.step ⟨(some 80), .plain .mv, [.tmp 11], none⟩
          (.step ⟨(some 81), .plain .mv, [.tmp 12], none⟩
          (.step ⟨(some 82), .plain (.indexAddr 2), [.tmp 80, .tmp 81], none⟩
          (.step ⟨(some 83), .plain (.fieldAddr 0), [.tmp 82], none⟩
          (.step ⟨(some 84), .plain (.load false 1), [.tmp 83], none⟩
          (.step ⟨(some 85), .plain .mv, [.tmp 10], none⟩
          (.step ⟨(some 86), .plain .mv, [.tmp 11], none⟩
          (.step ⟨(some 87), .plain .mv, [.tmp 12], none⟩
          (.step ⟨(some 88), .plain (.indexAddr 2), [.tmp 86, .tmp 87], none⟩
          (.step ⟨(some 89), .plain (.fieldAddr 1), [.tmp 88], none⟩
          (.step ⟨(some 90), .plain (.load false 1), [.tmp 89], none⟩
          (.step ⟨(some 91), .plain (.bin .add), [.tmp 85, .tmp 90], none⟩
          (.step ⟨(some 92), .plain (.build [(.str ⟨#[]⟩), (.int .i64 0)] [(0, 1), (1, 1)]), [.tmp 84, .tmp 91], none⟩
          (.step ⟨(some 93), .call 68, [.tmp 79, .tmp 92], none⟩
          (.step ⟨(some 94), .plain (.fieldAddr 2), [.tmp 7], none⟩
          (.step ⟨none, .plain (.store 1), [.tmp 94, .tmp 93], none⟩
          .done)))))))))))))))))) [78, 79, 80, 81, 82, 83, 84, 85, 86, 87, 88, 89, 90, 91, 92, 93, 94]))
       (.ops [⟨(some 76), .plain .mv, [.tmp 12], none⟩,
         ⟨(some 77), .plain (.bin .add), [.tmp 76, .lit (.int .i64 1)], none⟩,
         ⟨(some 12), .plain .mv, [.tmp 77], none⟩] [76, 77]))))))
     (.seq (.ops [⟨(some 13), .plain .mv, [.lit (.int .i64 0)], none⟩] [])
     (.block 6
      (.loop
       (.seq (.seq (.ops [⟨(some 95), .plain .mv, [.tmp 13], none⟩,
         ⟨(some 96), .plain .mv, [.tmp 0], none⟩,
         ⟨(some 97), .plain .mv, [.tmp 9], none⟩,
         ⟨(some 98), .plain (.indexAddr 5), [.tmp 96, .tmp 97], none⟩,
         ⟨(some 99), .plain (.fieldAddr 4), [.tmp 98], none⟩,
         ⟨(some 100), .plain (.load false 1), [.tmp 99], none⟩,
         ⟨(some 101), .plain (.len 1), [.tmp 100], none⟩,
         ⟨(some 102), .plain (.bin .lss), [.tmp 95, .tmp 101], none⟩] [95, 96, 97, 98, 99, 100, 101])
       (.cond (.tmp 102)
        .skip
        (.exit 6)))
       (.seq (.block 7
        (.draw (.step ⟨(some 105), .plain (.fieldAddr 3), [.tmp 7], none⟩
          (.step ⟨(some 106), .plain (.load false 1), [.tmp 105], none⟩
          (.step ⟨(some 107), .plain .mv, [.tmp 10], none⟩
          (.step ⟨(some 108), .plain .mv, [.tmp 0], none⟩
          (.step ⟨(some 109), .plain .mv, [.tmp 9], none⟩
          (.step ⟨(some 110), .plain (.indexAddr 5), [.tmp 108, .tmp 109], none⟩
          (.step ⟨(some 111), .plain (.fieldAddr 4), [.tmp 110], none⟩
          (.step ⟨(some 112), .plain (.load false 1), [.tmp 111], none⟩
          (.step ⟨(some 113), .plain .mv, [.tmp 13], none⟩
          (.step ⟨(some 114), .plain (.indexAddr 2), [.tmp 112, .tmp 113], none⟩
          (.step ⟨(some 115), .plain (.fieldAddr 0), [.tmp 114], none⟩
          (.step ⟨(some 116), .plain (.load false 1), [.tmp 115], none⟩
          (.step ⟨(some 117), .plain (.bin .add), [.tmp 107, .tmp 116], none⟩
          (.step ⟨(some 118), .plain .mv, [.tmp 0], none⟩
          (.step ⟨(some 119), .plain .mv, [.tmp 9], none⟩
          (.step ⟨(some 120), .plain (.indexAddr 5), [.tmp 118, .tmp 119], none⟩
          (.step ⟨(some 121), .plain (.fieldAddr 4), [.tmp 120], none⟩
          (.step ⟨(some 122), .plain (.load false 1), [.tmp 121], none⟩
          (.step ⟨(some 123), .plain .mv, [.tmp 13], none⟩
          (.step ⟨(some 124), .plain (.indexAddr 2), [.tmp 122, .tmp 123], none⟩
          (.step ⟨(some 125), .plain (.fieldAddr 1), [.tmp 124], none⟩
          (.step ⟨(some 126), .plain (.load false 1), [.tmp 125], none⟩
          (.step ⟨(some 127), .plain (.build [(.int .i64 0), (.int .i64 0)] [(0, 1), (1, 1)]), [.tmp 117, .tmp 126], none⟩
          (.step ⟨(some 128), .plain (.buildRow 102 2 1 [(.int .i64 0), (.int .i64 0)] [0]), [.tmp 127], none⟩
          (.step ⟨(some 129), .plain (.append 102 2 16), [.tmp 106, .tmp 128], none⟩
          (.step ⟨(some 130), .plain (.fieldAddr 3), [.tmp 7], none⟩
          (.step ⟨none, .plain (.store 1), [.tmp 130, .tmp 129], none⟩
          .done))))))))))))))))))))))))))) [105, 106, 107, 108, 109, 110, 111, 112, 113, 114, 115, 116, 117, 118, 119, 120, 121, 122, 123, 124, 125, 126, 127, 128, 129, 130]))
       (.ops [⟨(some 103), .plain .mv, [.tmp 13], none⟩,
         ⟨(some 104), .plain (.bin .add), [.tmp 103, .lit (.int .i64 1)], none⟩,
         ⟨(some 13), .plain .mv, [.tmp 104], none⟩] [103, 104]))))))))))))))
    (.ops [⟨(some 26), .plain .mv, [.tmp 9], none⟩,
      ⟨(some 27), .plain (.bin .add), [.tmp 26, .lit (.int .i64 1)], none⟩,
      ⟨(some 9), .plain .mv, [.tmp 27], none⟩] [26, 27]))))))
  (.seq (.seq (.ops [⟨(some 14), .plain .mv, [.lit (.int .i64 0)], none⟩] [])
  (.block 8
   (.loop
    (.seq (.seq (.ops [⟨(some 131), .plain .mv, [.tmp 14], none⟩,
      ⟨(some 132), .plain .mv, [.tmp 0], none⟩,
      ⟨(some 133), .plain (.len 1), [.tmp 132], none⟩,
      ⟨(some 134), .plain (.bin .lss), [.tmp 131, .tmp 133], none⟩] [131, 132, 133])
    (.cond (.tmp 134)
     .skip
     (.exit 8)))
    (.seq (.block 9
     (.seq (.ops [⟨(some 15), .plain .mv, [.lit (.int .i64 0)], none⟩] [])
     (.block 10
      (.loop
       (.seq (.seq (.ops [⟨(some 137), .plain .mv, [.tmp 15], none⟩,
         ⟨(some 138), .plain .mv, [.tmp 0], none⟩,
         ⟨(some 139), .plain .mv, [.tmp 14], none⟩,
         ⟨(some 140), .plain (.indexAddr 5), [.tmp 138, .tmp 139], none⟩,
         ⟨(some 141), .plain (.fieldAddr 3), [.tmp 140], none⟩,
         ⟨(some 142), .plain (.load false 1), [.tmp 141], none⟩,
         ⟨(some 143), .plain (.len 1), [.tmp 142], none⟩,
         ⟨(some 144), .plain (.bin .lss), [.tmp 137, .tmp 143], none⟩] [137, 138, 139, 140, 141, 142, 143])
       (.cond (.tmp 144)
        .skip
        (.exit 10)))
       (.seq (.block 11
        (.seq (.ops [⟨(some 147), .plain .mv, [.tmp 0], none⟩,
          ⟨(some 148), .plain .mv, [.tmp 14], none⟩,
          ⟨(some 149), .plain (.indexAddr 5), [.tmp 147, .tmp 148], none⟩,
          ⟨(some 150), .plain (.fieldAddr 3), [.tmp 149], none⟩,
          ⟨(some 151), .plain (.load false 1), [.tmp 150], none⟩,
          ⟨(some 152), .plain .mv, [.tmp 15], none⟩,
          ⟨(some 153), .plain (.indexAddr 3), [.tmp 151, .tmp 152], none⟩,
          ⟨(some 154), .plain (.load true 3), [.tmp 153], none⟩,
          ⟨(some 16), .plain (.alloc [(.int .i64 0), (.str ⟨#[]⟩), (.int .i64 0)]), [], none⟩,
          ⟨none, .plain (.store 3), [.tmp 16, .tmp 154], none⟩] [147, 148, 149, 150, 151, 152, 153, 154])
        (.seq (.ops [⟨(some 156), .plain .mv, [.tmp 2], none⟩,
          ⟨(some 157), .plain (.fieldAddr 1), [.tmp 16], none⟩,
          ⟨(some 158), .plain (.load false 1), [.tmp 157], none⟩,
          ⟨(some 159), .call 65, [.tmp 156, .tmp 158], none⟩,
          ⟨(some 155), .plain .mv, [.tmp 159], none⟩,
          ⟨(some 160), .plain (.extract 0), [.tmp 155], none⟩,
          ⟨(some 161), .plain (.extract 1), [.tmp 155], none⟩,
          ⟨(some 17), .plain .mv, [.tmp 160], none⟩,
          ⟨(some 18), .plain .mv, [.tmp 161], none⟩] [156, 157, 158, 159, 155, 160, 161])
        (.seq (.seq (.ops [⟨(some 162), .plain .mv, [.tmp 18], none⟩,
          ⟨(some 163), .plain (.un .not), [.tmp 162], none⟩] [162])
        (.cond (.tmp 163)
         (.ops [⟨(some 165), .plain (.fieldAddr 2), [.tmp 7], none⟩,
           ⟨(some 166), .plain (.load false 1), [.tmp 165], none⟩,
           ⟨(some 167), .plain (.fieldAddr 1), [.tmp 16], none⟩,
           ⟨(some 168), .plain (.load false 1), [.tmp 167], none⟩,
           ⟨(some 169), .call 65, [.tmp 166, .tmp 168], none⟩,
           ⟨(some 164), .plain .mv, [.tmp 169], none⟩,
           ⟨(some 170), .plain (.extract 0), [.tmp 164], none⟩,
           ⟨(some 171), .plain (.extract 1), [.tmp 164], none⟩,
           ⟨(some 17), .plain .mv, [.tmp 170], none⟩] [165, 166, 167, 168, 169, 164, 170, 171])
         .skip))
        (.seq (.draw (.step ⟨(some 172), .plain .mv, [.tmp 8], none⟩
          (.step ⟨(some 173), .plain .mv, [.tmp 14], none⟩
          (.step ⟨(some 174), .plain (.indexAddr 1), [.tmp 172, .tmp 173], none⟩
          (.step ⟨(some 175), .plain (.load false 1), [.tmp 174], none⟩
          (.step ⟨(some 176), .plain .mv, [.tmp 1], none⟩
          (.step ⟨(some 177), .plain (.bin .sub), [.tmp 175, .tmp 176], none⟩
          (.step ⟨(some 178), .plain (.fieldAddr 0), [.tmp 16], none⟩
          (.step ⟨(some 179), .plain (.load false 1), [.tmp 178], none⟩
          (.step ⟨(some 180), .plain (.bin .add), [.tmp 177, .tmp 179], none⟩
          (.step ⟨(some 19), .plain .mv, [.tmp 180], none⟩
          .done)))))))))) [172, 173, 174, 175, 176, 177, 178, 179, 180])
        (.draw (.step ⟨(some 181), .plain (.fieldAddr 1), [.tmp 7], none⟩
          (.step ⟨(some 182), .plain (.load false 1), [.tmp 181], none⟩
          (.step ⟨(some 183), .plain .mv, [.tmp 19], none⟩
          (.step ⟨(some 184), .plain (.slice false true 0), [.tmp 182, .tmp 183], none⟩
          (.step ⟨(some 185), .plain .mv, [.tmp 17], none⟩
          (.step ⟨(some 186), .plain (.fieldAddr 2), [.tmp 16], none⟩
          (.step ⟨(some 187), .plain (.load false 1), [.tmp 186], none⟩
          (.step ⟨(some 188), .plain (.bin .add), [.tmp 185, .tmp 187], none⟩
          (.step ⟨(some 189), .call 69, [.tmp 188], none⟩
          (.step ⟨(some 190), .plain (.bin .add), [.tmp 184, .tmp 189], none⟩
          (.step ⟨(some 191), .plain (.fieldAddr 1), [.tmp 7], none⟩
          (.step ⟨(some 192), .plain (.load false 1), [.tmp 191], none⟩
          (.step ⟨(some 193), .plain .mv, [.tmp 19], none⟩
          (.step ⟨(some 194), .plain (.bin .add), [.tmp 193, .lit (.int .i64 4)], none⟩
          (.step ⟨(some 195), .plain (.slice true false 0), [.tmp 192, .tmp 194], none⟩
          (.step ⟨(some 196), .plain (.bin .add), [.tmp 190, .tmp 195], none⟩
          (.step ⟨(some 197), .plain (.fieldAddr 1), [.tmp 7], none⟩
          (.step ⟨none, .plain (.store 1), [.tmp 197, .tmp 196], none⟩
          .done)))))))))))))))))) [181, 182, 183, 184, 185, 186, 187, 188, 189, 190, 191, 192, 193, 194, 195, 196, 197]))))))
       (.ops [⟨(some 145), .plain .mv, [.tmp 15], none⟩,
         ⟨(some 146), .plain (.bin .add), [.tmp 145, .lit (.int .i64 1)], none⟩,
         ⟨(some 15), .plain .mv, [.tmp 146], none⟩] [145, 146])))))))
    (.ops [⟨(some 135), .plain .mv, [.tmp 14], none⟩,
      ⟨(some 136), .plain (.bin .add), [.tmp 135, .lit (.int .i64 1)], none⟩,
      ⟨(some 14), .plain .mv, [.tmp 136], none⟩] [135, 136]))))))
  (.seq (.ops [⟨(some 198), .plain (.load true 5), [.tmp 7], none⟩,
    ⟨none, .plain (.store 5), [.tmp 6, .tmp 198], none⟩] [198])
  .ret))))))
def cr38 : List Res := [(6, some (true, 5))]
theorem ok38 : FOk Try.prog Lk.imp 38 c38 cr38 Try.f38.ntmps := ⟨Try.f38, _, Try.func38, rfl, by kernel_rfl, by kernel_rfl, by kernel_rfl, rfl⟩

/-- ironbark/ironbarkref34.defined -/
def c68 : SC :=
  (.seq (.ops [⟨(some 3), .plain (.box 2), [.tmp 1], none⟩,
    ⟨(some 4), .plain .mv, [.lit .nilS], none⟩] [])
  (.seq (.ops [⟨(some 5), .plain .mv, [.lit (.int .i64 0)], none⟩] [])
  (.seq (.block 0
   (.loop
    (.seq (.seq (.draw (.step ⟨(some 7), .plain .mv, [.tmp 5], none⟩
      (.step ⟨(some 8), .plain .mv, [.tmp 0], none⟩
      (.step ⟨(some 9), .plain (.len 1), [.tmp 8], none⟩
      (.step ⟨(some 10), .plain (.bin .lss), [.tmp 7, .tmp 9], none⟩
      (.step ⟨(some 11), .plain .mv, [.tmp 10], none⟩
      (.step ⟨(some 12), .plain .mv, [.tmp 0], (some (11, true))⟩
      (.step ⟨(some 13), .plain .mv, [.tmp 5], (some (11, true))⟩
      (.step ⟨(some 14), .plain (.indexAddr 2), [.tmp 12, .tmp 13], (some (11, true))⟩
      (.step ⟨(some 15), .plain (.fieldAddr 0), [.tmp 14], (some (11, true))⟩
      (.step ⟨(some 16), .plain (.load false 1), [.tmp 15], (some (11, true))⟩
      (.step ⟨(some 17), .plain (.fieldAddr 0), [.tmp 3], (some (11, true))⟩
      (.step ⟨(some 18), .plain (.load false 1), [.tmp 17], (some (11, true))⟩
      (.step ⟨(some 19), .plain (.bin .lss), [.tmp 16, .tmp 18], (some (11, true))⟩
      (.step ⟨(some 20), .plain .pick, [.tmp 11, .tmp 19, .lit (.bool false)], none⟩
      .done)))))))))))))) [7, 8, 9, 10, 11, 12, 13, 14, 15, 16, 17, 18, 19])
    (.cond (.tmp 20)
     .skip
     (.exit 0)))
    (.block 1
     (.ops [⟨(some 21), .plain .mv, [.tmp 5], none⟩,
       ⟨(some 22), .plain (.bin .add), [.tmp 21, .lit (.int .i64 1)], none⟩,
       ⟨(some 5), .plain .mv, [.tmp 22], none⟩] [21, 22])))))
  (.seq (.seq (.draw (.step ⟨(some 23), .plain .mv, [.tmp 5], none⟩
    (.step ⟨(some 24), .plain .mv, [.tmp 0], none⟩
    (.step ⟨(some 25), .plain (.len 1), [.tmp 24], none⟩
    (.step ⟨(some 26), .plain (.bin .lss), [.tmp 23, .tmp 25], none⟩
    (.step ⟨(some 27), .plain .mv, [.tmp 26], none⟩
    (.step ⟨(some 28), .plain .mv, [.tmp 0], (some (27, true))⟩
    (.step ⟨(some 29), .plain .mv, [.tmp 5], (some (27, true))⟩
    (.step ⟨(some 30), .plain (.indexAddr 2), [.tmp 28, .tmp 29], (some (27, true))⟩
    (.step ⟨(some 31), .plain (.fieldAddr 0), [.tmp 30], (some (27, true))⟩
    (.step ⟨(some 32), .plain (.load false 1), [.tmp 31], (some (27, true))⟩
    (.step ⟨(some 33), .plain (.fieldAddr 0), [.tmp 3], (some (27, true))⟩
    (.step ⟨(some 34), .plain (.load false 1), [.tmp 33], (some (27, true))⟩
    (.step ⟨(some 35), .plain (.bin .eql), [.tmp 32, .tmp 34], (some (27, true))⟩
    (.step ⟨(some 36), .plain .pick, [.tmp 27, .tmp 35, .lit (.bool false)], none⟩
    .done)))))))))))))) [23, 24, 25, 26, 27, 28, 29, 30, 31, 32, 33, 34, 35])
  (.cond (.tmp 36)
   (.seq (.ops [⟨(some 37), .plain .mv, [.tmp 0], none⟩,
     ⟨(some 4), .plain .mv, [.tmp 37], none⟩] [37])
   .ret)
   .skip))
  (.seq (.draw (.step ⟨(some 38), .plain .mv, [.tmp 0], none⟩
    (.step ⟨(some 39), .plain .mv, [.tmp 5], none⟩
    (.step ⟨(some 40), .plain (.slice false true 2), [.tmp 38, .tmp 39], none⟩
    (.or (.step ⟨(some 41), .plain (.append 40 2 24), [.lit .nilS, .tmp 40], none⟩
    (.step ⟨(some 42), .plain (.load true 2), [.tmp 3], none⟩
    (.step ⟨(some 43), .plain (.buildRow 40 2 1 [(.str ⟨#[]⟩), (.int .i64 0)] [0]), [.tmp 42], none⟩
    (.step ⟨(some 44), .plain (.append 40 2 24), [.tmp 41, .tmp 43], none⟩
    (.step ⟨(some 6), .plain .mv, [.tmp 44], none⟩
    .done)))))
    (.step ⟨(some 42), .plain (.load true 2), [.tmp 3], none⟩
    (.or (.step ⟨(some 41), .plain (.append 40 2 24), [.lit .nilS, .tmp 40], none⟩
    (.step ⟨(some 43), .plain (.buildRow 40 2 1 [(.str ⟨#[]⟩), (.int .i64 0)] [0]), [.tmp 42], none⟩
    (.step ⟨(some 44), .plain (.append 40 2 24), [.tmp 41, .tmp 43], none⟩
    (.step ⟨(some 6), .plain .mv, [.tmp 44], none⟩
    .done))))
    (.step ⟨(some 43), .plain (.buildRow 40 2 1 [(.str ⟨#[]⟩), (.int .i64 0)] [0]), [.tmp 42], none⟩
    (.step ⟨(some 41), .plain (.append 40 2 24), [.lit .nilS, .tmp 40], none⟩
    (.step ⟨(some 44), .plain (.append 40 2 24), [.tmp 41, .tmp 43], none⟩
    (.step ⟨(some 6), .plain .mv, [.tmp 44], none⟩
    .done)))))))))) [38, 39, 40, 41, 42, 43, 44])
  (.seq (.ops [⟨(some 45), .plain .mv, [.tmp 6], none⟩,
    ⟨(some 46), .plain .mv, [.tmp 0], none⟩,
    ⟨(some 47), .plain .mv, [.tmp 5], none⟩,
    ⟨(some 48), .plain (.slice true false 2), [.tmp 46, .tmp 47], none⟩,
    ⟨(some 49), .plain (.append 40 2 24), [.tmp 45, .tmp 48], none⟩,
    ⟨(some 4), .plain .mv, [.tmp 49], none⟩] [45, 46, 47, 48, 49])
  .ret))))))
def cr68 : List Res := [(4, none)]
theorem ok68 : FOk Try.prog Lk.imp 68 c68 cr68 Try.f68.ntmps := ⟨Try.f68, _, Try.func68, rfl, by kernel_rfl, by kernel_rfl, by kernel_rfl, rfl⟩

end Go.Pm
