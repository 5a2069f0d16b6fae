/- LkS2: code, resolved. Written by gen.py out of what ShowSC.lean printed. -/
import Derived.Test.YtolfkdphlgkekaaLkS1
namespace Go.Pm
open Go Go.Proofs

/-- ironbark/ironbarkref34.Valid -/
def c63 : SC :=
  (.seq (.ops [⟨(some 1), .plain (.box 5), [.tmp 0], none⟩,
    ⟨(some 2), .plain .mv, [.lit (.bool false)], none⟩] [])
  (.seq (.ops [⟨(some 11), .plain (.fieldAddr 1), [.tmp 1], none⟩,
    ⟨(some 12), .plain (.load false 1), [.tmp 11], none⟩,
    ⟨(some 13), .plain (.len 0), [.tmp 12], none⟩,
    ⟨(some 3), .plain .mv, [.tmp 13], none⟩] [11, 12, 13])
  (.seq (.seq (.ops [⟨(some 14), .plain (.fieldAddr 0), [.tmp 1], none⟩,
    ⟨(some 15), .plain (.load false 1), [.tmp 14], none⟩,
    ⟨(some 16), .call 61, [.tmp 15], none⟩,
    ⟨(some 17), .plain (.un .not), [.tmp 16], none⟩,
    ⟨(some 18), .plain .mv, [.tmp 17], none⟩,
    ⟨(some 19), .plain .mv, [.tmp 3], (some (18, false))⟩,
    ⟨(some 20), .plain (.bin .gtr), [.tmp 19, .lit (.int .i64 20000)], (some (18, false))⟩,
    ⟨(some 21), .plain .pick, [.tmp 18, .lit (.bool true), .tmp 20], none⟩,
    ⟨(some 22), .plain .mv, [.tmp 21], none⟩,
    ⟨(some 23), .plain .mv, [.tmp 3], (some (22, false))⟩,
    ⟨(some 24), .plain (.bin .rem), [.tmp 23, .lit (.int .i64 2)], (some (22, false))⟩,
    ⟨(some 25), .plain (.bin .neq), [.tmp 24, .lit (.int .i64 0)], (some (22, false))⟩,
    ⟨(some 26), .plain .pick, [.tmp 22, .lit (.bool true), .tmp 25], none⟩] [14, 15, 16, 17, 18, 19, 20, 21, 22, 23, 24, 25])
  (.cond (.tmp 26)
   (.seq (.ops [⟨(some 2), .plain .mv, [.lit (.bool false)], none⟩] [])
   .ret)
   .skip))
  (.seq (.seq (.ops [⟨(some 4), .plain .mv, [.lit (.int .i64 0)], none⟩] [])
  (.block 0
   (.loop
    (.seq (.seq (.ops [⟨(some 27), .plain .mv, [.tmp 4], none⟩,
      ⟨(some 28), .plain (.fieldAddr 2), [.tmp 1], none⟩,
      ⟨(some 29), .plain (.load false 1), [.tmp 28], none⟩,
      ⟨(some 30), .plain (.len 1), [.tmp 29], none⟩,
      ⟨(some 31), .plain (.bin .lss), [.tmp 27, .tmp 30], none⟩] [27, 28, 29, 30])
    (.cond (.tmp 31)
     .skip
     (.exit 0)))
    (.seq (.block 1
     (.seq (.seq (.ops [⟨(some 34), .plain (.fieldAddr 2), [.tmp 1], none⟩,
       ⟨(some 35), .plain (.load false 1), [.tmp 34], none⟩,
       ⟨(some 36), .plain .mv, [.tmp 4], none⟩,
       ⟨(some 37), .plain (.indexAddr 2), [.tmp 35, .tmp 36], none⟩,
       ⟨(some 38), .plain (.fieldAddr 0), [.tmp 37], none⟩,
       ⟨(some 39), .plain (.load false 1), [.tmp 38], none⟩,
       ⟨(some 40), .call 61, [.tmp 39], none⟩,
       ⟨(some 41), .plain (.un .not), [.tmp 40], none⟩,
       ⟨(some 42), .plain .mv, [.tmp 41], none⟩,
       ⟨(some 43), .plain (.fieldAddr 2), [.tmp 1], (some (42, false))⟩,
       ⟨(some 44), .plain (.load false 1), [.tmp 43], (some (42, false))⟩,
       ⟨(some 45), .plain .mv, [.tmp 4], (some (42, false))⟩,
       ⟨(some 46), .plain (.indexAddr 2), [.tmp 44, .tmp 45], (some (42, false))⟩,
       ⟨(some 47), .plain (.fieldAddr 1), [.tmp 46], (some (42, false))⟩,
       ⟨(some 48), .plain (.load false 1), [.tmp 47], (some (42, false))⟩,
       ⟨(some 49), .plain .mv, [.tmp 3], (some (42, false))⟩,
       ⟨(some 50), .call 62, [.tmp 48, .lit (.int .i64 0), .tmp 49], (some (42, false))⟩,
       ⟨(some 51), .plain (.un .not), [.tmp 50], (some (42, false))⟩,
       ⟨(some 52), .plain .pick, [.tmp 42, .lit (.bool true), .tmp 51], none⟩,
       ⟨(some 53), .plain .mv, [.tmp 52], none⟩,
       ⟨(some 54), .plain (.fieldAddr 2), [.tmp 1], (some (53, false))⟩,
       ⟨(some 55), .plain (.load false 1), [.tmp 54], (some (53, false))⟩,
       ⟨(some 56), .plain .mv, [.tmp 4], (some (53, false))⟩,
       ⟨(some 57), .plain (.indexAddr 2), [.tmp 55, .tmp 56], (some (53, false))⟩,
       ⟨(some 58), .plain (.fieldAddr 1), [.tmp 57], (some (53, false))⟩,
       ⟨(some 59), .plain (.load false 1), [.tmp 58], (some (53, false))⟩,
       ⟨(some 60), .plain (.bin .rem), [.tmp 59, .lit (.int .i64 2)], (some (53, false))⟩,
       ⟨(some 61), .plain (.bin .neq), [.tmp 60, .lit (.int .i64 0)], (some (53, false))⟩,
       ⟨(some 62), .plain .pick, [.tmp 53, .lit (.bool true), .tmp 61], none⟩] [34, 35, 36, 37, 38, 39, 40, 41, 42, 43, 44, 45, 46, 47, 48, 49, 50, 51, 52, 53, 54, 55, 56, 57, 58, 59, 60, 61])
     (.cond (.tmp 62)
      (.seq (.ops [⟨(some 2), .plain .mv, [.lit (.bool false)], none⟩] [])
      .ret)
      .skip))
     (.seq (.ops [⟨(some 5), .plain .mv, [.lit (.int .i64 0)], none⟩] [])
     (.block 2
      (.loop
       (.seq (.seq (.ops [⟨(some 63), .plain .mv, [.tmp 5], none⟩,
         ⟨(some 64), .plain .mv, [.tmp 4], none⟩,
         ⟨(some 65), .plain (.bin .lss), [.tmp 63, .tmp 64], none⟩] [63, 64])
       (.cond (.tmp 65)
        .skip
        (.exit 2)))
       (.seq (.block 3
        (.seq (.draw (.step ⟨(some 68), .plain (.fieldAddr 2), [.tmp 1], none⟩
          (.step ⟨(some 69), .plain (.load false 1), [.tmp 68], none⟩
          (.step ⟨(some 70), .plain .mv, [.tmp 5], none⟩
          (.step ⟨(some 71), .plain (.indexAddr 2), [.tmp 69, .tmp 70], none⟩
          (.step ⟨(some 72), .plain (.fieldAddr 0), [.tmp 71], none⟩
          (.step ⟨(some 73), .plain (.load false 1), [.tmp 72], none⟩
          (.step ⟨(some 74), .plain (.fieldAddr 2), [.tmp 1], none⟩
          (.step ⟨(some 75), .plain (.load false 1), [.tmp 74], none⟩
          (.step ⟨(some 76), .plain .mv, [.tmp 4], none⟩
          (.step ⟨(some 77), .plain (.indexAddr 2), [.tmp 75, .tmp 76], none⟩
          (.step ⟨(some 78), .plain (.fieldAddr 0), [.tmp 77], none⟩
          (.step ⟨(some 79), .plain (.load false 1), [.tmp 78], none⟩
          (.step ⟨(some 80), .plain (.bin .eql), [.tmp 73, .tmp 79], none⟩
          .done))))))))))))) [68, 69, 70, 71, 72, 73, 74, 75, 76, 77, 78, 79])
        (.cond (.tmp 80)
         (.seq (.ops [⟨(some 2), .plain .mv, [.lit (.bool false)], none⟩] [])
         .ret)
         .skip)))
       (.ops [⟨(some 66), .plain .mv, [.tmp 5], none⟩,
         ⟨(some 67), .plain (.bin .add), [.tmp 66, .lit (.int .i64 1)], none⟩,
         ⟨(some 5), .plain .mv, [.tmp 67], none⟩] [66, 67]))))))))
    (.ops [⟨(some 32), .plain .mv, [.tmp 4], none⟩,
      ⟨(some 33), .plain (.bin .add), [.tmp 32, .lit (.int .i64 1)], none⟩,
      ⟨(some 4), .plain .mv, [.tmp 33], none⟩] [32, 33]))))))
  (.seq (.seq (.ops [⟨(some 6), .plain .mv, [.lit (.int .i64 0)], none⟩] [])
  (.block 4
   (.loop
    (.seq (.seq (.ops [⟨(some 81), .plain .mv, [.tmp 6], none⟩,
      ⟨(some 82), .plain (.fieldAddr 3), [.tmp 1], none⟩,
      ⟨(some 83), .plain (.load false 1), [.tmp 82], none⟩,
      ⟨(some 84), .plain (.len 1), [.tmp 83], none⟩,
      ⟨(some 85), .plain (.bin .lss), [.tmp 81, .tmp 84], none⟩] [81, 82, 83, 84])
    (.cond (.tmp 85)
     .skip
     (.exit 4)))
    (.seq (.block 5
     (.seq (.ops [⟨(some 88), .plain (.fieldAddr 3), [.tmp 1], none⟩,
       ⟨(some 89), .plain (.load false 1), [.tmp 88], none⟩,
       ⟨(some 90), .plain .mv, [.tmp 6], none⟩,
       ⟨(some 91), .plain (.indexAddr 3), [.tmp 89, .tmp 90], none⟩,
       ⟨(some 92), .plain (.load true 3), [.tmp 91], none⟩,
       ⟨(some 7), .plain (.alloc [(.int .i64 0), (.str ⟨#[]⟩), (.int .i64 0)]), [], none⟩,
       ⟨none, .plain (.store 3), [.tmp 7, .tmp 92], none⟩] [88, 89, 90, 91, 92])
     (.seq (.seq (.ops [⟨(some 93), .plain (.fieldAddr 1), [.tmp 7], none⟩,
       ⟨(some 94), .plain (.load false 1), [.tmp 93], none⟩,
       ⟨(some 95), .call 61, [.tmp 94], none⟩,
       ⟨(some 96), .plain (.un .not), [.tmp 95], none⟩,
       ⟨(some 97), .plain .mv, [.tmp 96], none⟩,
       ⟨(some 98), .plain (.fieldAddr 0), [.tmp 7], (some (97, false))⟩,
       ⟨(some 99), .plain (.load false 1), [.tmp 98], (some (97, false))⟩,
       ⟨(some 100), .plain .mv, [.tmp 3], (some (97, false))⟩,
       ⟨(some 101), .plain (.bin .sub), [.tmp 100, .lit (.int .i64 4)], (some (97, false))⟩,
       ⟨(some 102), .call 62, [.tmp 99, .lit (.int .i64 0), .tmp 101], (some (97, false))⟩,
       ⟨(some 103), .plain (.un .not), [.tmp 102], (some (97, false))⟩,
       ⟨(some 104), .plain .pick, [.tmp 97, .lit (.bool true), .tmp 103], none⟩,
       ⟨(some 105), .plain .mv, [.tmp 104], none⟩,
       ⟨(some 106), .plain (.fieldAddr 0), [.tmp 7], (some (105, false))⟩,
       ⟨(some 107), .plain (.load false 1), [.tmp 106], (some (105, false))⟩,
       ⟨(some 108), .plain (.bin .rem), [.tmp 107, .lit (.int .i64 4)], (some (105, false))⟩,
       ⟨(some 109), .plain (.bin .neq), [.tmp 108, .lit (.int .i64 0)], (some (105, false))⟩,
       ⟨(some 110), .plain .pick, [.tmp 105, .lit (.bool true), .tmp 109], none⟩,
       ⟨(some 111), .plain .mv, [.tmp 110], none⟩,
       ⟨(some 112), .plain (.fieldAddr 2), [.tmp 7], (some (111, false))⟩,
       ⟨(some 113), .plain (.load false 1), [.tmp 112], (some (111, false))⟩,
       ⟨(some 114), .call 62, [.tmp 113, .lit (.int .i64 (-1000000000)), .lit (.int .i64 1000000000)], (some (111, false))⟩,
       ⟨(some 115), .plain (.un .not), [.tmp 114], (some (111, false))⟩,
       ⟨(some 116), .plain .pick, [.tmp 111, .lit (.bool true), .tmp 115], none⟩] [93, 94, 95, 96, 97, 98, 99, 100, 101, 102, 103, 104, 105, 106, 107, 108, 109, 110, 111, 112, 113, 114, 115])
     (.cond (.tmp 116)
      (.seq (.ops [⟨(some 2), .plain .mv, [.lit (.bool false)], none⟩] [])
      .ret)
      .skip))
     (.seq (.ops [⟨(some 8), .plain .mv, [.lit (.int .i64 0)], none⟩] [])
     (.block 6
      (.loop
       (.seq (.seq (.ops [⟨(some 117), .plain .mv, [.tmp 8], none⟩,
         ⟨(some 118), .plain .mv, [.tmp 6], none⟩,
         ⟨(some 119), .plain (.bin .lss), [.tmp 117, .tmp 118], none⟩] [117, 118])
       (.cond (.tmp 119)
        .skip
        (.exit 6)))
       (.seq (.block 7
        (.seq (.draw (.step ⟨(some 122), .plain (.fieldAddr 3), [.tmp 1], none⟩
          (.step ⟨(some 123), .plain (.load false 1), [.tmp 122], none⟩
          (.step ⟨(some 124), .plain .mv, [.tmp 8], none⟩
          (.step ⟨(some 125), .plain (.indexAddr 3), [.tmp 123, .tmp 124], none⟩
          (.step ⟨(some 126), .plain (.fieldAddr 0), [.tmp 125], none⟩
          (.step ⟨(some 127), .plain (.load false 1), [.tmp 126], none⟩
          (.step ⟨(some 128), .plain (.fieldAddr 0), [.tmp 7], none⟩
          (.step ⟨(some 129), .plain (.load false 1), [.tmp 128], none⟩
          (.step ⟨(some 130), .plain (.bin .eql), [.tmp 127, .tmp 129], none⟩
          .done))))))))) [122, 123, 124, 125, 126, 127, 128, 129])
        (.cond (.tmp 130)
         (.seq (.ops [⟨(some 2), .plain .mv, [.lit (.bool false)], none⟩] [])
         .ret)
         .skip)))
       (.ops [⟨(some 120), .plain .mv, [.tmp 8], none⟩,
         ⟨(some 121), .plain (.bin .add), [.tmp 120, .lit (.int .i64 1)], none⟩,
         ⟨(some 8), .plain .mv, [.tmp 121], none⟩] [120, 121])))))))))
    (.ops [⟨(some 86), .plain .mv, [.tmp 6], none⟩,
      ⟨(some 87), .plain (.bin .add), [.tmp 86, .lit (.int .i64 1)], none⟩,
      ⟨(some 6), .plain .mv, [.tmp 87], none⟩] [86, 87]))))))
  (.seq (.seq (.ops [⟨(some 9), .plain .mv, [.lit (.int .i64 0)], none⟩] [])
  (.block 8
   (.loop
    (.seq (.seq (.ops [⟨(some 131), .plain .mv, [.tmp 9], none⟩,
      ⟨(some 132), .plain (.fieldAddr 4), [.tmp 1], none⟩,
      ⟨(some 133), .plain (.load false 1), [.tmp 132], none⟩,
      ⟨(some 134), .plain (.len 1), [.tmp 133], none⟩,
      ⟨(some 135), .plain (.bin .lss), [.tmp 131, .tmp 134], none⟩] [131, 132, 133, 134])
    (.cond (.tmp 135)
     .skip
     (.exit 8)))
    (.seq (.block 9
     (.seq (.ops [⟨(some 138), .plain (.fieldAddr 4), [.tmp 1], none⟩,
       ⟨(some 139), .plain (.load false 1), [.tmp 138], none⟩,
       ⟨(some 140), .plain .mv, [.tmp 9], none⟩,
       ⟨(some 141), .plain (.indexAddr 2), [.tmp 139, .tmp 140], none⟩,
       ⟨(some 142), .plain (.load true 2), [.tmp 141], none⟩,
       ⟨(some 10), .plain (.alloc [(.int .i64 0), (.int .i64 0)]), [], none⟩,
       ⟨none, .plain (.store 2), [.tmp 10, .tmp 142], none⟩] [138, 139, 140, 141, 142])
     (.seq (.draw (.step ⟨(some 143), .plain (.fieldAddr 0), [.tmp 10], none⟩
       (.step ⟨(some 144), .plain (.load false 1), [.tmp 143], none⟩
       (.step ⟨(some 145), .plain .mv, [.tmp 3], none⟩
       (.step ⟨(some 146), .plain (.bin .sub), [.tmp 145, .lit (.int .i64 1)], none⟩
       (.step ⟨(some 147), .call 62, [.tmp 144, .lit (.int .i64 0), .tmp 146], none⟩
       (.step ⟨(some 148), .plain (.un .not), [.tmp 147], none⟩
       (.step ⟨(some 149), .plain .mv, [.tmp 148], none⟩
       (.step ⟨(some 150), .plain (.fieldAddr 0), [.tmp 10], (some (149, false))⟩
       (.step ⟨(some 151), .plain (.load false 1), [.tmp 150], (some (149, false))⟩
       (.step ⟨(some 152), .plain (.bin .rem), [.tmp 151, .lit (.int .i64 2)], (some (149, false))⟩
       (.step ⟨(some 153), .plain (.bin .neq), [.tmp 152, .lit (.int .i64 0)], (some (149, false))⟩
       (.step ⟨(some 154), .plain .pick, [.tmp 149, .lit (.bool true), .tmp 153], none⟩
       (.step ⟨(some 155), .plain .mv, [.tmp 154], none⟩
       (.step ⟨(some 156), .plain (.fieldAddr 1), [.tmp 10], (some (155, false))⟩
       (.step ⟨(some 157), .plain (.load false 1), [.tmp 156], (some (155, false))⟩
       (.step ⟨(some 158), .call 62, [.tmp 157, .lit (.int .i64 0), .lit (.int .i64 1000000000)], (some (155, false))⟩
       (.step ⟨(some 159), .plain (.un .not), [.tmp 158], (some (155, false))⟩
       (.step ⟨(some 160), .plain .pick, [.tmp 155, .lit (.bool true), .tmp 159], none⟩
       (.step ⟨(some 161), .plain .mv, [.tmp 160], none⟩
       (.step ⟨(some 162), .plain .mv, [.tmp 9], (some (161, false))⟩
       (.step ⟨(some 163), .plain (.bin .gtr), [.tmp 162, .lit (.int .i64 0)], (some (161, false))⟩
       (.step ⟨(some 164), .plain .mv, [.tmp 163], (some (161, false))⟩
       (.step ⟨(some 165), .plain (.fieldAddr 4), [.tmp 1], (some (164, true))⟩
       (.step ⟨(some 166), .plain (.load false 1), [.tmp 165], (some (164, true))⟩
       (.step ⟨(some 167), .plain .mv, [.tmp 9], (some (164, true))⟩
       (.step ⟨(some 168), .plain (.bin .sub), [.tmp 167, .lit (.int .i64 1)], (some (164, true))⟩
       (.step ⟨(some 169), .plain (.indexAddr 2), [.tmp 166, .tmp 168], (some (164, true))⟩
       (.step ⟨(some 170), .plain (.fieldAddr 0), [.tmp 169], (some (164, true))⟩
       (.step ⟨(some 171), .plain (.load false 1), [.tmp 170], (some (164, true))⟩
       (.step ⟨(some 172), .plain (.fieldAddr 0), [.tmp 10], (some (164, true))⟩
       (.step ⟨(some 173), .plain (.load false 1), [.tmp 172], (some (164, true))⟩
       (.step ⟨(some 174), .plain (.bin .geq), [.tmp 171, .tmp 173], (some (164, true))⟩
       (.step ⟨(some 175), .plain .pick, [.tmp 164, .tmp 174, .lit (.bool false)], (some (161, false))⟩
       (.step ⟨(some 176), .plain .pick, [.tmp 161, .lit (.bool true), .tmp 175], none⟩
       .done)))))))))))))))))))))))))))))))))) [143, 144, 145, 146, 147, 148, 149, 150, 151, 152, 153, 154, 155, 156, 157, 158, 159, 160, 161, 162, 163, 164, 165, 166, 167, 168, 169, 170, 171, 172, 173, 174, 175])
     (.cond (.tmp 176)
      (.seq (.ops [⟨(some 2), .plain .mv, [.lit (.bool false)], none⟩] [])
      .ret)
      .skip))))
    (.ops [⟨(some 136), .plain .mv, [.tmp 9], none⟩,
      ⟨(some 137), .plain (.bin .add), [.tmp 136, .lit (.int .i64 1)], none⟩,
      ⟨(some 9), .plain .mv, [.tmp 137], none⟩] [136, 137]))))))
  (.seq (.ops [⟨(some 2), .plain .mv, [.lit (.bool true)], none⟩] [])
  .ret)))))))
def cr63 : List Res := [(2, none)]
theorem ok63 : FOk Try.prog Lk.imp 63 c63 cr63 Try.f63.ntmps := ⟨Try.f63, _, Try.func63, rfl, by kernel_rfl, by kernel_rfl, by kernel_rfl, rfl⟩

/-- ironbark/link.Valid -/
def c52 : SC :=
  (.seq (.ops [⟨(some 1), .plain (.box 5), [.tmp 0], none⟩,
    ⟨(some 2), .plain .mv, [.lit (.bool false)], none⟩] [])
  (.seq (.ops [⟨(some 13), .plain (.fieldAddr 1), [.tmp 1], none⟩,
    ⟨(some 14), .plain (.load false 1), [.tmp 13], none⟩,
    ⟨(some 15), .plain (.len 0), [.tmp 14], none⟩,
    ⟨(some 3), .plain .mv, [.tmp 15], none⟩] [13, 14, 15])
  (.seq (.seq (.ops [⟨(some 16), .plain (.fieldAddr 0), [.tmp 1], none⟩,
    ⟨(some 17), .plain (.load false 1), [.tmp 16], none⟩,
    ⟨(some 18), .call 71, [.tmp 17], none⟩,
    ⟨(some 19), .plain (.un .not), [.tmp 18], none⟩,
    ⟨(some 20), .plain .mv, [.tmp 19], none⟩,
    ⟨(some 21), .plain .mv, [.tmp 3], (some (20, false))⟩,
    ⟨(some 22), .plain (.bin .gtr), [.tmp 21, .lit (.int .i64 20000)], (some (20, false))⟩,
    ⟨(some 23), .plain .pick, [.tmp 20, .lit (.bool true), .tmp 22], none⟩,
    ⟨(some 24), .plain .mv, [.tmp 23], none⟩,
    ⟨(some 25), .plain .mv, [.tmp 3], (some (24, false))⟩,
    ⟨(some 26), .plain (.bin .rem), [.tmp 25, .lit (.int .i64 2)], (some (24, false))⟩,
    ⟨(some 27), .plain (.bin .neq), [.tmp 26, .lit (.int .i64 0)], (some (24, false))⟩,
    ⟨(some 28), .plain .pick, [.tmp 24, .lit (.bool true), .tmp 27], none⟩] [16, 17, 18, 19, 20, 21, 22, 23, 24, 25, 26, 27])
  (.cond (.tmp 28)
   (.seq (.ops [⟨(some 2), .plain .mv, [.lit (.bool false)], none⟩] [])
   .ret)
   .skip))
  (.seq (.ops [⟨(some 29), .plain .mkMap, [], none⟩,
    ⟨(some 30), .plain .mkMap, [], none⟩,
    ⟨(some 4), .plain .mv, [.tmp 29], none⟩,
    ⟨(some 5), .plain .mv, [.tmp 30], none⟩] [29, 30])
  (.seq (.seq (.ops [⟨(some 31), .plain (.fieldAddr 2), [.tmp 1], none⟩,
    ⟨(some 32), .plain (.load false 1), [.tmp 31], none⟩,
    ⟨(some 33), .plain (.len 1), [.tmp 32], none⟩,
    ⟨(some 34), .plain .mv, [.lit (.int .i64 0)], none⟩] [31])
  (.block 0
   (.loop
    (.seq (.ops [⟨(some 35), .plain (.bin .lss), [.tmp 34, .tmp 33], none⟩] [])
    (.seq (.cond (.tmp 35)
     .skip
     (.exit 0))
    (.seq (.block 1
     (.seq (.ops [⟨(some 36), .plain (.indexAddr 2), [.tmp 32, .tmp 34], none⟩,
       ⟨(some 37), .plain (.load true 2), [.tmp 36], none⟩,
       ⟨(some 7), .plain (.alloc [(.str ⟨#[]⟩), (.int .i64 0)]), [], none⟩,
       ⟨none, .plain (.store 2), [.tmp 7, .tmp 37], none⟩] [36, 37])
     (.seq (.seq (.ops [⟨(some 38), .plain (.fieldAddr 0), [.tmp 7], none⟩,
       ⟨(some 39), .plain (.load false 1), [.tmp 38], none⟩,
       ⟨(some 40), .call 71, [.tmp 39], none⟩,
       ⟨(some 41), .plain (.un .not), [.tmp 40], none⟩,
       ⟨(some 42), .plain .mv, [.tmp 41], none⟩,
       ⟨(some 43), .plain .mv, [.tmp 4], (some (42, false))⟩,
       ⟨(some 44), .plain (.fieldAddr 0), [.tmp 7], (some (42, false))⟩,
       ⟨(some 45), .plain (.load false 1), [.tmp 44], (some (42, false))⟩,
       ⟨(some 46), .plain (.lookup .str (.bool false) false), [.tmp 43, .tmp 45], (some (42, false))⟩,
       ⟨(some 47), .plain .pick, [.tmp 42, .lit (.bool true), .tmp 46], none⟩,
       ⟨(some 48), .plain .mv, [.tmp 47], none⟩,
       ⟨(some 49), .plain (.fieldAddr 1), [.tmp 7], (some (48, false))⟩,
       ⟨(some 50), .plain (.load false 1), [.tmp 49], (some (48, false))⟩,
       ⟨(some 51), .plain (.bin .lss), [.tmp 50, .lit (.int .i64 0)], (some (48, false))⟩,
       ⟨(some 52), .plain .pick, [.tmp 48, .lit (.bool true), .tmp 51], none⟩,
       ⟨(some 53), .plain .mv, [.tmp 52], none⟩,
       ⟨(some 54), .plain (.fieldAddr 1), [.tmp 7], (some (53, false))⟩,
       ⟨(some 55), .plain (.load false 1), [.tmp 54], (some (53, false))⟩,
       ⟨(some 56), .plain .mv, [.tmp 3], (some (53, false))⟩,
       ⟨(some 57), .plain (.bin .gtr), [.tmp 55, .tmp 56], (some (53, false))⟩,
       ⟨(some 58), .plain .pick, [.tmp 53, .lit (.bool true), .tmp 57], none⟩,
       ⟨(some 59), .plain .mv, [.tmp 58], none⟩,
       ⟨(some 60), .plain (.fieldAddr 1), [.tmp 7], (some (59, false))⟩,
       ⟨(some 61), .plain (.load false 1), [.tmp 60], (some (59, false))⟩,
       ⟨(some 62), .plain (.bin .rem), [.tmp 61, .lit (.int .i64 2)], (some (59, false))⟩,
       ⟨(some 63), .plain (.bin .neq), [.tmp 62, .lit (.int .i64 0)], (some (59, false))⟩,
       ⟨(some 64), .plain .pick, [.tmp 59, .lit (.bool true), .tmp 63], none⟩] [38, 39, 40, 41, 42, 43, 44, 45, 46, 47, 48, 49, 50, 51, 52, 53, 54, 55, 56, 57, 58, 59, 60, 61, 62, 63])
     (.cond (.tmp 64)
      (.seq (.ops [⟨(some 2), .plain .mv, [.lit (.bool false)], none⟩] [])
      .ret)
      .skip))
     (.ops [⟨(some 65), .plain .mv, [.tmp 4], none⟩,
       ⟨(some 66), .plain (.fieldAddr 0), [.tmp 7], none⟩,
       ⟨(some 67), .plain (.load false 1), [.tmp 66], none⟩,
       ⟨none, .plain (.mapUpdate .str), [.tmp 65, .tmp 67, .lit (.bool true)], none⟩] [65, 66, 67]))))
    (.ops [⟨(some 68), .plain (.bin .add), [.tmp 34, .lit (.int .i64 1)], none⟩,
      ⟨(some 34), .plain .mv, [.tmp 68], none⟩] [68])))))))
  (.seq (.seq (.ops [⟨(some 69), .plain (.fieldAddr 3), [.tmp 1], none⟩,
    ⟨(some 70), .plain (.load false 1), [.tmp 69], none⟩,
    ⟨(some 71), .plain (.len 1), [.tmp 70], none⟩,
    ⟨(some 72), .plain .mv, [.lit (.int .i64 0)], none⟩] [69])
  (.block 2
   (.loop
    (.seq (.ops [⟨(some 73), .plain (.bin .lss), [.tmp 72, .tmp 71], none⟩] [])
    (.seq (.cond (.tmp 73)
     .skip
     (.exit 2))
    (.seq (.block 3
     (.seq (.ops [⟨(some 74), .plain (.indexAddr 3), [.tmp 70, .tmp 72], none⟩,
       ⟨(some 75), .plain (.load true 3), [.tmp 74], none⟩,
       ⟨(some 9), .plain (.alloc [(.int .i64 0), (.str ⟨#[]⟩), (.int .i64 0)]), [], none⟩,
       ⟨none, .plain (.store 3), [.tmp 9, .tmp 75], none⟩] [74, 75])
     (.seq (.seq (.ops [⟨(some 76), .plain (.fieldAddr 1), [.tmp 9], none⟩,
       ⟨(some 77), .plain (.load false 1), [.tmp 76], none⟩,
       ⟨(some 78), .call 71, [.tmp 77], none⟩,
       ⟨(some 79), .plain (.un .not), [.tmp 78], none⟩,
       ⟨(some 80), .plain .mv, [.tmp 79], none⟩,
       ⟨(some 81), .plain .mv, [.tmp 5], (some (80, false))⟩,
       ⟨(some 82), .plain (.fieldAddr 0), [.tmp 9], (some (80, false))⟩,
       ⟨(some 83), .plain (.load false 1), [.tmp 82], (some (80, false))⟩,
       ⟨(some 84), .plain (.lookup .int (.bool false) false), [.tmp 81, .tmp 83], (some (80, false))⟩,
       ⟨(some 85), .plain .pick, [.tmp 80, .lit (.bool true), .tmp 84], none⟩,
       ⟨(some 86), .plain .mv, [.tmp 85], none⟩,
       ⟨(some 87), .plain (.fieldAddr 0), [.tmp 9], (some (86, false))⟩,
       ⟨(some 88), .plain (.load false 1), [.tmp 87], (some (86, false))⟩,
       ⟨(some 89), .plain (.bin .lss), [.tmp 88, .lit (.int .i64 0)], (some (86, false))⟩,
       ⟨(some 90), .plain .pick, [.tmp 86, .lit (.bool true), .tmp 89], none⟩,
       ⟨(some 91), .plain .mv, [.tmp 90], none⟩,
       ⟨(some 92), .plain (.fieldAddr 0), [.tmp 9], (some (91, false))⟩,
       ⟨(some 93), .plain (.load false 1), [.tmp 92], (some (91, false))⟩,
       ⟨(some 94), .plain .mv, [.tmp 3], (some (91, false))⟩,
       ⟨(some 95), .plain (.bin .sub), [.tmp 94, .lit (.int .i64 4)], (some (91, false))⟩,
       ⟨(some 96), .plain (.bin .gtr), [.tmp 93, .tmp 95], (some (91, false))⟩,
       ⟨(some 97), .plain .pick, [.tmp 91, .lit (.bool true), .tmp 96], none⟩,
       ⟨(some 98), .plain .mv, [.tmp 97], none⟩,
       ⟨(some 99), .plain (.fieldAddr 0), [.tmp 9], (some (98, false))⟩,
       ⟨(some 100), .plain (.load false 1), [.tmp 99], (some (98, false))⟩,
       ⟨(some 101), .plain (.bin .rem), [.tmp 100, .lit (.int .i64 4)], (some (98, false))⟩,
       ⟨(some 102), .plain (.bin .neq), [.tmp 101, .lit (.int .i64 0)], (some (98, false))⟩,
       ⟨(some 103), .plain .pick, [.tmp 98, .lit (.bool true), .tmp 102], none⟩,
       ⟨(some 104), .plain .mv, [.tmp 103], none⟩,
       ⟨(some 105), .plain (.fieldAddr 2), [.tmp 9], (some (104, false))⟩,
       ⟨(some 106), .plain (.load false 1), [.tmp 105], (some (104, false))⟩,
       ⟨(some 107), .plain (.bin .gtr), [.tmp 106, .lit (.int .i64 1000000000)], (some (104, false))⟩,
       ⟨(some 108), .plain .pick, [.tmp 104, .lit (.bool true), .tmp 107], none⟩,
       ⟨(some 109), .plain .mv, [.tmp 108], none⟩,
       ⟨(some 110), .plain (.fieldAddr 2), [.tmp 9], (some (109, false))⟩,
       ⟨(some 111), .plain (.load false 1), [.tmp 110], (some (109, false))⟩,
       ⟨(some 112), .plain (.bin .lss), [.tmp 111, .lit (.int .i64 (-1000000000))], (some (109, false))⟩,
       ⟨(some 113), .plain .pick, [.tmp 109, .lit (.bool true), .tmp 112], none⟩] [76, 77, 78, 79, 80, 81, 82, 83, 84, 85, 86, 87, 88, 89, 90, 91, 92, 93, 94, 95, 96, 97, 98, 99, 100, 101, 102, 103, 104, 105, 106, 107, 108, 109, 110, 111, 112])
     (.cond (.tmp 113)
      (.seq (.ops [⟨(some 2), .plain .mv, [.lit (.bool false)], none⟩] [])
      .ret)
      .skip))
     (.ops [⟨(some 114), .plain .mv, [.tmp 5], none⟩,
       ⟨(some 115), .plain (.fieldAddr 0), [.tmp 9], none⟩,
       ⟨(some 116), .plain (.load false 1), [.tmp 115], none⟩,
       ⟨none, .plain (.mapUpdate .int), [.tmp 114, .tmp 116, .lit (.bool true)], none⟩] [114, 115, 116]))))
    (.ops [⟨(some 117), .plain (.bin .add), [.tmp 72, .lit (.int .i64 1)], none⟩,
      ⟨(some 72), .plain .mv, [.tmp 117], none⟩] [117])))))))
  (.seq (.ops [⟨(some 10), .plain .mv, [.lit (.int .i64 (-1))], none⟩] [])
  (.seq (.seq (.ops [⟨(some 118), .plain (.fieldAddr 4), [.tmp 1], none⟩,
    ⟨(some 119), .plain (.load false 1), [.tmp 118], none⟩,
    ⟨(some 120), .plain (.len 1), [.tmp 119], none⟩,
    ⟨(some 121), .plain .mv, [.lit (.int .i64 0)], none⟩] [118])
  (.block 4
   (.loop
    (.seq (.ops [⟨(some 122), .plain (.bin .lss), [.tmp 121, .tmp 120], none⟩] [])
    (.seq (.cond (.tmp 122)
     .skip
     (.exit 4))
    (.seq (.block 5
     (.seq (.ops [⟨(some 123), .plain (.indexAddr 2), [.tmp 119, .tmp 121], none⟩,
       ⟨(some 124), .plain (.load true 2), [.tmp 123], none⟩,
       ⟨(some 12), .plain (.alloc [(.int .i64 0), (.int .i64 0)]), [], none⟩,
       ⟨none, .plain (.store 2), [.tmp 12, .tmp 124], none⟩] [123, 124])
     (.seq (.seq (.ops [⟨(some 125), .plain (.fieldAddr 0), [.tmp 12], none⟩,
       ⟨(some 126), .plain (.load false 1), [.tmp 125], none⟩,
       ⟨(some 127), .plain .mv, [.tmp 10], none⟩,
       ⟨(some 128), .plain (.bin .leq), [.tmp 126, .tmp 127], none⟩,
       ⟨(some 129), .plain .mv, [.tmp 128], none⟩,
       ⟨(some 130), .plain (.fieldAddr 0), [.tmp 12], (some (129, false))⟩,
       ⟨(some 131), .plain (.load false 1), [.tmp 130], (some (129, false))⟩,
       ⟨(some 132), .plain .mv, [.tmp 3], (some (129, false))⟩,
       ⟨(some 133), .plain (.bin .geq), [.tmp 131, .tmp 132], (some (129, false))⟩,
       ⟨(some 134), .plain .pick, [.tmp 129, .lit (.bool true), .tmp 133], none⟩,
       ⟨(some 135), .plain .mv, [.tmp 134], none⟩,
       ⟨(some 136), .plain (.fieldAddr 0), [.tmp 12], (some (135, false))⟩,
       ⟨(some 137), .plain (.load false 1), [.tmp 136], (some (135, false))⟩,
       ⟨(some 138), .plain (.bin .rem), [.tmp 137, .lit (.int .i64 2)], (some (135, false))⟩,
       ⟨(some 139), .plain (.bin .neq), [.tmp 138, .lit (.int .i64 0)], (some (135, false))⟩,
       ⟨(some 140), .plain .pick, [.tmp 135, .lit (.bool true), .tmp 139], none⟩,
       ⟨(some 141), .plain .mv, [.tmp 140], none⟩,
       ⟨(some 142), .plain (.fieldAddr 1), [.tmp 12], (some (141, false))⟩,
       ⟨(some 143), .plain (.load false 1), [.tmp 142], (some (141, false))⟩,
       ⟨(some 144), .plain (.bin .lss), [.tmp 143, .lit (.int .i64 0)], (some (141, false))⟩,
       ⟨(some 145), .plain .pick, [.tmp 141, .lit (.bool true), .tmp 144], none⟩,
       ⟨(some 146), .plain .mv, [.tmp 145], none⟩,
       ⟨(some 147), .plain (.fieldAddr 1), [.tmp 12], (some (146, false))⟩,
       ⟨(some 148), .plain (.load false 1), [.tmp 147], (some (146, false))⟩,
       ⟨(some 149), .plain (.bin .gtr), [.tmp 148, .lit (.int .i64 1000000000)], (some (146, false))⟩,
       ⟨(some 150), .plain .pick, [.tmp 146, .lit (.bool true), .tmp 149], none⟩] [125, 126, 127, 128, 129, 130, 131, 132, 133, 134, 135, 136, 137, 138, 139, 140, 141, 142, 143, 144, 145, 146, 147, 148, 149])
     (.cond (.tmp 150)
      (.seq (.ops [⟨(some 2), .plain .mv, [.lit (.bool false)], none⟩] [])
      .ret)
      .skip))
     (.ops [⟨(some 151), .plain (.fieldAddr 0), [.tmp 12], none⟩,
       ⟨(some 152), .plain (.load false 1), [.tmp 151], none⟩,
       ⟨(some 10), .plain .mv, [.tmp 152], none⟩] [151, 152]))))
    (.ops [⟨(some 153), .plain (.bin .add), [.tmp 121, .lit (.int .i64 1)], none⟩,
      ⟨(some 121), .plain .mv, [.tmp 153], none⟩] [153])))))))
  (.seq (.ops [⟨(some 2), .plain .mv, [.lit (.bool true)], none⟩] [])
  .ret)))))))))
def cr52 : List Res := [(2, none)]
theorem ok52 : FOk Try.prog Lk.imp 52 c52 cr52 Try.f52.ntmps := ⟨Try.f52, _, Try.func52, rfl, by kernel_rfl, by kernel_rfl, by kernel_rfl, rfl⟩

end Go.Pm
