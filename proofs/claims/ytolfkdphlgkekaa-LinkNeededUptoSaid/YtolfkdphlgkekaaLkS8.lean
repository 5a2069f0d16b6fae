/- LkS8: code, resolved. Written by gen.py out of what ShowSC.lean printed. -/
import Derived.Test.YtolfkdphlgkekaaLkS7
namespace Go.Pm
open Go Go.Proofs

/-- (*ironbark/link.linking).needed -/
def c28 : SC :=
  (.seq (.ops [⟨(some 4), .plain .mv, [.lit .nilS], none⟩] [])
  (.seq .skip
  (.block 0
   (.loop
    (.block 1
     (.seq (.ops [⟨(some 10), .plain .mv, [.tmp 0], none⟩,
       ⟨(some 11), .call 55, [.tmp 10], none⟩,
       ⟨(some 5), .plain .mv, [.tmp 11], none⟩] [10, 11])
     (.seq (.seq (.ops [⟨(some 12), .plain .mv, [.tmp 5], none⟩,
       ⟨(some 13), .plain (.len 1), [.tmp 12], none⟩,
       ⟨(some 14), .plain .mv, [.lit (.int .i64 0)], none⟩] [])
     (.block 2
      (.loop
       (.seq (.ops [⟨(some 15), .plain (.bin .lss), [.tmp 14, .tmp 13], none⟩] [])
       (.seq (.cond (.tmp 15)
        .skip
        (.exit 2))
       (.seq (.block 3
        (.seq (.ops [⟨(some 16), .plain (.indexAddr 1), [.tmp 12, .tmp 14], none⟩,
          ⟨(some 17), .plain (.load false 1), [.tmp 16], none⟩,
          ⟨(some 7), .plain .mv, [.tmp 17], none⟩] [16, 17])
        (.seq (.ops [⟨(some 19), .plain .mv, [.tmp 0], none⟩,
          ⟨(some 20), .plain .mv, [.tmp 7], none⟩,
          ⟨(some 21), .plain .mv, [.tmp 1], none⟩,
          ⟨(some 22), .call 56, [.tmp 19, .tmp 20, .tmp 21], none⟩,
          ⟨(some 18), .plain .mv, [.tmp 22], none⟩,
          ⟨(some 23), .plain (.extract 0), [.tmp 18], none⟩,
          ⟨(some 24), .plain (.extract 1), [.tmp 18], none⟩,
          ⟨(some 8), .plain (.alloc [(.str ⟨#[]⟩), (.str ⟨#[]⟩), .nilS, .nilS, .nilS]), [], none⟩,
          ⟨none, .plain (.store 5), [.tmp 8, .tmp 23], none⟩,
          ⟨(some 9), .plain .mv, [.tmp 24], none⟩] [19, 20, 21, 22, 18, 23, 24])
        (.seq (.ops [⟨(some 25), .plain .mv, [.tmp 9], none⟩] [])
        (.cond (.tmp 25)
         (.seq (.ops [⟨(some 26), .plain .mv, [.tmp 0], none⟩,
           ⟨(some 27), .plain (.load true 5), [.tmp 8], none⟩,
           ⟨(some 28), .call 27, [.tmp 26, .tmp 27, .lit (.bool false)], none⟩] [26, 27, 28])
         (.exit 1))
         .skip)))))
       (.ops [⟨(some 29), .plain (.bin .add), [.tmp 14, .lit (.int .i64 1)], none⟩,
         ⟨(some 14), .plain .mv, [.tmp 29], none⟩] [29])))))))
     (.seq (.ops [⟨(some 30), .plain .mv, [.tmp 5], none⟩,
       ⟨(some 4), .plain .mv, [.tmp 30], none⟩] [30])
     .ret))))))))
def cr28 : List Res := [(4, none)]
theorem ok28 : FOk Try.prog Lk.imp 28 c28 cr28 Try.f28.ntmps := ⟨Try.f28, _, Try.func28, rfl, by kernel_rfl, by kernel_rfl, by kernel_rfl, rfl⟩

/-- (*ironbark/link.linking).done -/
def c29 : SC :=
  (.seq (.ops [⟨(some 2), .plain (.alloc [(.int .i64 0), (.str ⟨#[]⟩), .nilS, .nilS, .nilS]), [], none⟩] [])
  (.seq (.draw (.step ⟨(some 10), .plain .mv, [.tmp 0], none⟩
    (.step ⟨(some 11), .plain .nilCheck, [.tmp 10], none⟩
    (.step ⟨(some 12), .plain (.fieldAddr 8), [.tmp 11], none⟩
    (.step ⟨(some 13), .plain (.load false 1), [.tmp 12], none⟩
    (.step ⟨(some 14), .plain .mv, [.tmp 0], none⟩
    (.step ⟨(some 15), .plain .nilCheck, [.tmp 14], none⟩
    (.step ⟨(some 16), .plain (.fieldAddr 0), [.tmp 15], none⟩
    (.step ⟨(some 17), .plain (.fieldAddr 0), [.tmp 16], none⟩
    (.step ⟨(some 18), .plain (.load false 1), [.tmp 17], none⟩
    (.step ⟨(some 19), .plain (.bin .sub), [.tmp 13, .tmp 18], none⟩
    (.step ⟨(some 20), .plain (.mkRow 5 [(.int .u8 0)] 1), [.tmp 19, .tmp 19], none⟩
    (.step ⟨(some 3), .plain .mv, [.tmp 20], none⟩
    .done)))))))))))) [10, 11, 12, 13, 14, 15, 16, 17, 18, 19, 20])
  (.seq (.seq (.ops [⟨(some 21), .plain .mv, [.tmp 0], none⟩,
    ⟨(some 22), .plain .nilCheck, [.tmp 21], none⟩,
    ⟨(some 23), .plain (.fieldAddr 5), [.tmp 22], none⟩,
    ⟨(some 24), .plain (.load false 1), [.tmp 23], none⟩,
    ⟨(some 25), .plain (.len 1), [.tmp 24], none⟩,
    ⟨(some 26), .plain .mv, [.lit (.int .i64 0)], none⟩] [21, 22, 23])
  (.block 0
   (.loop
    (.seq (.ops [⟨(some 27), .plain (.bin .lss), [.tmp 26, .tmp 25], none⟩] [])
    (.seq (.cond (.tmp 27)
     .skip
     (.exit 0))
    (.seq (.block 1
     (.seq (.ops [⟨(some 28), .plain .mv, [.tmp 26], none⟩,
       ⟨(some 29), .plain (.indexAddr 5), [.tmp 24, .tmp 26], none⟩,
       ⟨(some 30), .plain (.load true 5), [.tmp 29], none⟩,
       ⟨(some 5), .plain (.alloc [(.str ⟨#[]⟩), (.str ⟨#[]⟩), .nilS, .nilS, .nilS]), [], none⟩,
       ⟨(some 4), .plain .mv, [.tmp 28], none⟩,
       ⟨none, .plain (.store 5), [.tmp 5, .tmp 30], none⟩] [28, 29, 30])
     (.seq (.draw (.step ⟨(some 31), .plain .mv, [.tmp 0], none⟩
       (.step ⟨(some 32), .plain .nilCheck, [.tmp 31], none⟩
       (.step ⟨(some 33), .plain (.fieldAddr 0), [.tmp 32], none⟩
       (.step ⟨(some 34), .plain (.fieldAddr 4), [.tmp 33], none⟩
       (.step ⟨(some 35), .plain (.load false 1), [.tmp 34], none⟩
       (.step ⟨(some 36), .plain .mv, [.tmp 4], none⟩
       (.step ⟨(some 37), .plain (.indexAddr 2), [.tmp 35, .tmp 36], none⟩
       (.step ⟨(some 38), .plain (.fieldAddr 1), [.tmp 37], none⟩
       (.step ⟨(some 39), .plain (.load false 1), [.tmp 38], none⟩
       (.step ⟨(some 40), .plain .mv, [.tmp 0], none⟩
       (.step ⟨(some 41), .plain .nilCheck, [.tmp 40], none⟩
       (.step ⟨(some 42), .plain (.fieldAddr 0), [.tmp 41], none⟩
       (.step ⟨(some 43), .plain (.fieldAddr 0), [.tmp 42], none⟩
       (.step ⟨(some 44), .plain (.load false 1), [.tmp 43], none⟩
       (.step ⟨(some 45), .plain (.bin .sub), [.tmp 39, .tmp 44], none⟩
       (.step ⟨(some 6), .plain .mv, [.tmp 45], none⟩
       .done)))))))))))))))) [31, 32, 33, 34, 35, 36, 37, 38, 39, 40, 41, 42, 43, 44, 45])
     (.seq (.draw (.step ⟨(some 46), .plain .mv, [.tmp 3], none⟩
       (.step ⟨(some 47), .plain .mv, [.tmp 6], none⟩
       (.step ⟨(some 48), .plain (.slice true false 1), [.tmp 46, .tmp 47], none⟩
       (.step ⟨(some 49), .plain (.fieldAddr 1), [.tmp 5], none⟩
       (.step ⟨(some 50), .plain (.load false 1), [.tmp 49], none⟩
       (.step ⟨(some 51), .plain (.copy 5 1), [.tmp 48, .tmp 50], none⟩
       .done)))))) [46, 47, 48, 49, 50, 51])
     (.seq (.ops [⟨(some 52), .plain (.fieldAddr 3), [.tmp 5], none⟩,
       ⟨(some 53), .plain (.load false 1), [.tmp 52], none⟩,
       ⟨(some 54), .plain (.len 1), [.tmp 53], none⟩,
       ⟨(some 55), .plain .mv, [.lit (.int .i64 0)], none⟩] [52])
     (.block 2
      (.loop
       (.seq (.ops [⟨(some 56), .plain (.bin .lss), [.tmp 55, .tmp 54], none⟩] [])
       (.seq (.cond (.tmp 56)
        .skip
        (.exit 2))
       (.seq (.block 3
        (.seq (.ops [⟨(some 57), .plain (.indexAddr 3), [.tmp 53, .tmp 55], none⟩,
          ⟨(some 58), .plain (.load true 3), [.tmp 57], none⟩,
          ⟨(some 8), .plain (.alloc [(.int .i64 0), (.str ⟨#[]⟩), (.int .i64 0)]), [], none⟩,
          ⟨none, .plain (.store 3), [.tmp 8, .tmp 58], none⟩] [57, 58])
        (.seq (.draw (.step ⟨(some 59), .plain .mv, [.tmp 0], none⟩
          (.step ⟨(some 60), .plain .nilCheck, [.tmp 59], none⟩
          (.step ⟨(some 61), .plain (.fieldAddr 6), [.tmp 60], none⟩
          (.step ⟨(some 62), .plain (.load false 1), [.tmp 61], none⟩
          (.step ⟨(some 63), .plain (.fieldAddr 1), [.tmp 8], none⟩
          (.step ⟨(some 64), .plain (.load false 1), [.tmp 63], none⟩
          (.step ⟨(some 65), .plain (.lookup .str (.int .i64 0) false), [.tmp 62, .tmp 64], none⟩
          (.step ⟨(some 66), .plain (.fieldAddr 2), [.tmp 8], none⟩
          (.step ⟨(some 67), .plain (.load false 1), [.tmp 66], none⟩
          (.step ⟨(some 68), .plain (.bin .add), [.tmp 65, .tmp 67], none⟩
          (.step ⟨(some 69), .plain (.convInt .u32), [.tmp 68], none⟩
          (.step ⟨(some 9), .plain .mv, [.tmp 69], none⟩
          .done)))))))))))) [59, 60, 61, 62, 63, 64, 65, 66, 67, 68, 69])
        (.ops [⟨(some 70), .plain .mv, [.tmp 3], none⟩,
          ⟨(some 71), .plain .mv, [.tmp 6], none⟩,
          ⟨(some 72), .plain (.fieldAddr 0), [.tmp 8], none⟩,
          ⟨(some 73), .plain (.load false 1), [.tmp 72], none⟩,
          ⟨(some 74), .plain (.bin .add), [.tmp 71, .tmp 73], none⟩,
          ⟨(some 75), .plain (.slice true false 1), [.tmp 70, .tmp 74], none⟩,
          ⟨(some 76), .plain .mv, [.tmp 9], none⟩,
          ⟨(some 77), .plain (.bin .shr), [.tmp 76, .lit (.int .u64 24)], none⟩,
          ⟨(some 78), .plain (.convInt .u8), [.tmp 77], none⟩,
          ⟨(some 79), .plain .mv, [.tmp 9], none⟩,
          ⟨(some 80), .plain (.bin .shr), [.tmp 79, .lit (.int .u64 16)], none⟩,
          ⟨(some 81), .plain (.convInt .u8), [.tmp 80], none⟩,
          ⟨(some 82), .plain .mv, [.tmp 9], none⟩,
          ⟨(some 83), .plain (.bin .shr), [.tmp 82, .lit (.int .u64 8)], none⟩,
          ⟨(some 84), .plain (.convInt .u8), [.tmp 83], none⟩,
          ⟨(some 85), .plain .mv, [.tmp 9], none⟩,
          ⟨(some 86), .plain (.convInt .u8), [.tmp 85], none⟩,
          ⟨(some 87), .plain (.buildRow 5 1 4 [(.int .u8 0)] [0, 1, 2, 3]), [.tmp 78, .tmp 81, .tmp 84, .tmp 86], none⟩,
          ⟨(some 88), .plain (.copy 5 1), [.tmp 75, .tmp 87], none⟩] [70, 71, 72, 73, 74, 75, 76, 77, 78, 79, 80, 81, 82, 83, 84, 85, 86, 87, 88]))))
       (.ops [⟨(some 89), .plain (.bin .add), [.tmp 55, .lit (.int .i64 1)], none⟩,
         ⟨(some 55), .plain .mv, [.tmp 89], none⟩] [89])))))))))))
    (.ops [⟨(some 90), .plain (.bin .add), [.tmp 26, .lit (.int .i64 1)], none⟩,
      ⟨(some 26), .plain .mv, [.tmp 90], none⟩] [90])))))))
  (.seq (.ops [⟨(some 91), .plain .mv, [.tmp 0], none⟩,
    ⟨(some 92), .plain .mv, [.tmp 3], none⟩,
    ⟨(some 93), .plain .bytesToStr, [.tmp 92], none⟩,
    ⟨(some 94), .plain .nilCheck, [.tmp 91], none⟩,
    ⟨(some 95), .plain (.fieldAddr 0), [.tmp 94], none⟩,
    ⟨(some 96), .plain (.fieldAddr 1), [.tmp 95], none⟩,
    ⟨none, .plain (.store 1), [.tmp 96, .tmp 93], none⟩] [91, 92, 93, 94, 95, 96])
  (.seq (.ops [⟨(some 97), .plain .mv, [.tmp 0], none⟩,
    ⟨(some 98), .plain .nilCheck, [.tmp 97], none⟩,
    ⟨(some 99), .plain (.fieldAddr 0), [.tmp 98], none⟩,
    ⟨(some 100), .plain (.fieldAddr 2), [.tmp 99], none⟩,
    ⟨(some 101), .plain (.load false 1), [.tmp 100], none⟩,
    ⟨(some 102), .call 57, [.tmp 101, .lit (.fn 58 [])], none⟩] [97, 98, 99, 100, 101, 102])
  (.seq (.ops [⟨(some 103), .plain .mv, [.tmp 0], none⟩,
    ⟨(some 104), .plain .nilCheck, [.tmp 103], none⟩,
    ⟨(some 105), .plain (.fieldAddr 0), [.tmp 104], none⟩,
    ⟨(some 106), .plain (.load true 5), [.tmp 105], none⟩,
    ⟨none, .plain (.store 5), [.tmp 2, .tmp 106], none⟩] [103, 104, 105, 106])
  .ret))))))
def cr29 : List Res := [(2, some (true, 5))]
theorem ok29 : FOk Try.prog Lk.imp 29 c29 cr29 Try.f29.ntmps := ⟨Try.f29, _, Try.func29, rfl, by kernel_rfl, by kernel_rfl, by kernel_rfl, rfl⟩

/-- ironbark/link.Link, its front -/
def cx9 : SC :=
  (.seq (.ops [⟨(some 6), .plain (.alloc [(.int .i64 0), (.str ⟨#[]⟩), .nilS, .nilS, .nilS]), [], none⟩,
    ⟨(some 7), .plain (.alloc [(.int .i64 0)]), [], none⟩,
    ⟨(some 8), .plain (.alloc [(.str ⟨#[]⟩)]), [], none⟩] [])
  (.seq (.block 0
   (.seq (.ops [⟨(some 14), .plain .mv, [.tmp 0], none⟩,
     ⟨(some 15), .plain .mv, [.tmp 1], none⟩,
     ⟨(some 16), .call 23, [.tmp 14, .tmp 15], none⟩,
     ⟨(some 17), .plain (.un .not), [.tmp 16], none⟩,
     ⟨(some 13), .plain .mv, [.tmp 17], none⟩] [14, 15, 16, 17])
   (.cond (.tmp 13)
    (.seq (.ops [⟨(some 18), .plain (.build [(.int .i64 0), (.str ⟨#[]⟩), .nilS, .nilS, .nilS] []), [], none⟩,
      ⟨none, .plain (.store 5), [.tmp 6, .tmp 18], none⟩,
      ⟨none, .plain (.store 1), [.tmp 7, .lit (.int .i64 1)], none⟩,
      ⟨none, .plain (.store 1), [.tmp 8, .lit (.str ⟨#[]⟩)], none⟩] [18])
    .ret)
    (.seq (.ops [⟨(some 20), .plain .mv, [.tmp 2], none⟩,
      ⟨(some 21), .call 24, [.tmp 20], none⟩,
      ⟨(some 22), .plain (.un .not), [.tmp 21], none⟩,
      ⟨(some 19), .plain .mv, [.tmp 22], none⟩] [20, 21, 22])
    (.cond (.tmp 19)
     (.seq (.ops [⟨(some 23), .plain (.build [(.int .i64 0), (.str ⟨#[]⟩), .nilS, .nilS, .nilS] []), [], none⟩,
       ⟨none, .plain (.store 5), [.tmp 6, .tmp 23], none⟩,
       ⟨none, .plain (.store 1), [.tmp 7, .lit (.int .i64 7)], none⟩,
       ⟨none, .plain (.store 1), [.tmp 8, .lit (.str ⟨#[]⟩)], none⟩] [23])
     .ret)
     .skip)))))
  .skip))
/-- ironbark/link.Link, behind what it defers -/
def cy9 : SC :=
  (.seq (.ops [⟨(some 25), .plain .mv, [.tmp 2], none⟩,
    ⟨(some 26), .call 26, [.tmp 25, .lit .nilS], none⟩,
    ⟨(some 9), .plain .mv, [.tmp 26], none⟩] [25, 26])
  (.seq (.seq (.ops [⟨(some 27), .plain .mv, [.tmp 0], none⟩,
    ⟨(some 28), .plain (.len 1), [.tmp 27], none⟩,
    ⟨(some 29), .plain .mv, [.lit (.int .i64 0)], none⟩] [])
  (.block 1
   (.loop
    (.seq (.ops [⟨(some 30), .plain (.bin .lss), [.tmp 29, .tmp 28], none⟩] [])
    (.seq (.cond (.tmp 30)
     .skip
     (.exit 1))
    (.seq (.block 2
     (.seq (.ops [⟨(some 31), .plain (.indexAddr 5), [.tmp 27, .tmp 29], none⟩,
       ⟨(some 32), .plain (.load true 5), [.tmp 31], none⟩,
       ⟨(some 11), .plain (.alloc [(.str ⟨#[]⟩), (.str ⟨#[]⟩), .nilS, .nilS, .nilS]), [], none⟩,
       ⟨none, .plain (.store 5), [.tmp 11, .tmp 32], none⟩] [31, 32])
     (.ops [⟨(some 33), .plain .mv, [.tmp 9], none⟩,
       ⟨(some 34), .plain (.load true 5), [.tmp 11], none⟩,
       ⟨(some 35), .call 27, [.tmp 33, .tmp 34, .lit (.bool true)], none⟩] [33, 34, 35])))
    (.ops [⟨(some 36), .plain (.bin .add), [.tmp 29, .lit (.int .i64 1)], none⟩,
      ⟨(some 29), .plain .mv, [.tmp 36], none⟩] [36])))))))
  (.seq (.seq (.ops [⟨(some 37), .plain .mv, [.tmp 9], none⟩,
    ⟨(some 38), .plain .mv, [.tmp 1], none⟩,
    ⟨(some 39), .call 28, [.tmp 37, .tmp 38], none⟩,
    ⟨(some 12), .plain .mv, [.tmp 39], none⟩] [37, 38, 39])
  (.seq (.ops [⟨(some 40), .plain .mv, [.tmp 12], none⟩,
    ⟨(some 41), .plain (.len 1), [.tmp 40], none⟩,
    ⟨(some 42), .plain (.bin .gtr), [.tmp 41, .lit (.int .i64 0)], none⟩] [40, 41])
  (.cond (.tmp 42)
   (.ops [⟨(some 43), .plain .mv, [.tmp 12], none⟩,
     ⟨(some 44), .plain (.indexAddr 1), [.tmp 43, .lit (.int .i64 0)], none⟩,
     ⟨(some 45), .plain (.load false 1), [.tmp 44], none⟩,
     ⟨(some 46), .plain (.build [(.int .i64 0), (.str ⟨#[]⟩)] [(0, 1), (1, 1)]), [.lit (.int .i64 5), .tmp 45], none⟩,
     ⟨(some 47), .plain (.mkIface 58), [.tmp 46], none⟩,
     ⟨none, .panic, [.tmp 47], none⟩] [43, 44, 45, 46, 47])
   .skip)))
  (.seq (.seq (.ops [⟨(some 48), .plain .mv, [.tmp 9], none⟩,
    ⟨(some 49), .plain .nilCheck, [.tmp 48], none⟩,
    ⟨(some 50), .plain (.fieldAddr 8), [.tmp 49], none⟩,
    ⟨(some 51), .plain (.load false 1), [.tmp 50], none⟩,
    ⟨(some 52), .plain (.bin .gtr), [.tmp 51, .lit (.int .i64 65536)], none⟩] [48, 49, 50, 51])
  (.cond (.tmp 52)
   (.ops [⟨(some 53), .plain (.build [(.int .i64 0), (.str ⟨#[]⟩)] [(0, 1), (1, 1)]), [.lit (.int .i64 11), .lit (.str ⟨#[]⟩)], none⟩,
     ⟨(some 54), .plain (.mkIface 58), [.tmp 53], none⟩,
     ⟨none, .panic, [.tmp 54], none⟩] [53, 54])
   .skip))
  (.seq (.ops [⟨(some 55), .plain .mv, [.tmp 9], none⟩,
    ⟨(some 56), .call 29, [.tmp 55], none⟩,
    ⟨none, .plain (.store 5), [.tmp 6, .tmp 56], none⟩,
    ⟨none, .plain (.store 1), [.tmp 7, .lit (.int .i64 0)], none⟩,
    ⟨none, .plain (.store 1), [.tmp 8, .lit (.str ⟨#[]⟩)], none⟩] [55, 56])
  .ret)))))
def cr9 : List Res := [(6, some (true, 5)), (7, some (false, 1)), (8, some (false, 1))]
theorem ok9 : FOkE Try.prog Lk.imp 9 cx9 24 25 [.tmp 6, .tmp 7, .tmp 8] cy9 cr9 Try.f9.ntmps := ⟨Try.f9, _, _, _, _, Try.func9, rfl, by kernel_rfl, rfl, by kernel_rfl, by kernel_rfl, by kernel_rfl, by kernel_rfl, rfl, by decide⟩

/-- ironbark/link.Link$1, behind its recover -/
def c25 : SC :=
  (.block 0
   (.seq (.ops [⟨(some 8), .plain (.eqNil false false), [.tmp 6, .lit (.const .nilIface)], none⟩] [])
   (.cond (.tmp 8)
    (.ops [⟨(some 3), .plain .mv, [.tmp 6], none⟩] [3])
    (.seq (.ops [⟨(some 9), .plain (.typeAssert 58 (.agg [(.int .i64 0), (.str ⟨#[]⟩)])), [.tmp 6], none⟩,
      ⟨(some 10), .plain (.extract 1), [.tmp 9], none⟩,
      ⟨(some 11), .plain (.extract 0), [.tmp 9], none⟩] [9])
    (.cond (.tmp 10)
     (.seq (.ops [⟨(some 4), .plain (.alloc [(.int .i64 0), (.str ⟨#[]⟩)]), [], none⟩,
       ⟨none, .plain (.store 2), [.tmp 4, .tmp 11], none⟩] [])
     (.draw (.step ⟨(some 12), .plain (.build [(.int .i64 0), (.str ⟨#[]⟩), .nilS, .nilS, .nilS] []), [], none⟩
       (.step ⟨(some 13), .plain (.fieldAddr 0), [.tmp 4], none⟩
       (.step ⟨(some 15), .plain (.fieldAddr 1), [.tmp 4], none⟩
       (.or (.step ⟨(some 14), .plain (.load false 1), [.tmp 13], none⟩
       (.or (.step ⟨(some 16), .plain (.load false 1), [.tmp 15], none⟩
       (.step ⟨none, .plain (.store 5), [.tmp 0, .tmp 12], none⟩
       (.step ⟨none, .plain (.store 1), [.tmp 1, .tmp 14], none⟩
       (.step ⟨none, .plain (.store 1), [.tmp 2, .tmp 16], none⟩
       .done))))
       (.step ⟨none, .plain (.store 5), [.tmp 0, .tmp 12], none⟩
       (.or (.step ⟨(some 16), .plain (.load false 1), [.tmp 15], none⟩
       (.step ⟨none, .plain (.store 1), [.tmp 1, .tmp 14], none⟩
       (.step ⟨none, .plain (.store 1), [.tmp 2, .tmp 16], none⟩
       .done)))
       (.step ⟨none, .plain (.store 1), [.tmp 1, .tmp 14], none⟩
       (.step ⟨(some 16), .plain (.load false 1), [.tmp 15], none⟩
       (.step ⟨none, .plain (.store 1), [.tmp 2, .tmp 16], none⟩
       .done)))))))
       (.or (.step ⟨(some 16), .plain (.load false 1), [.tmp 15], none⟩
       (.or (.step ⟨(some 14), .plain (.load false 1), [.tmp 13], none⟩
       (.step ⟨none, .plain (.store 5), [.tmp 0, .tmp 12], none⟩
       (.step ⟨none, .plain (.store 1), [.tmp 1, .tmp 14], none⟩
       (.step ⟨none, .plain (.store 1), [.tmp 2, .tmp 16], none⟩
       .done))))
       (.step ⟨none, .plain (.store 5), [.tmp 0, .tmp 12], none⟩
       (.step ⟨(some 14), .plain (.load false 1), [.tmp 13], none⟩
       (.step ⟨none, .plain (.store 1), [.tmp 1, .tmp 14], none⟩
       (.step ⟨none, .plain (.store 1), [.tmp 2, .tmp 16], none⟩
       .done))))))
       (.step ⟨none, .plain (.store 5), [.tmp 0, .tmp 12], none⟩
       (.step ⟨(some 14), .plain (.load false 1), [.tmp 13], none⟩
       (.or (.step ⟨(some 16), .plain (.load false 1), [.tmp 15], none⟩
       (.step ⟨none, .plain (.store 1), [.tmp 1, .tmp 14], none⟩
       (.step ⟨none, .plain (.store 1), [.tmp 2, .tmp 16], none⟩
       .done)))
       (.step ⟨none, .plain (.store 1), [.tmp 1, .tmp 14], none⟩
       (.step ⟨(some 16), .plain (.load false 1), [.tmp 15], none⟩
       (.step ⟨none, .plain (.store 1), [.tmp 2, .tmp 16], none⟩
       .done))))))))))) [12, 13, 15, 14, 16]))
     (.seq (.ops [⟨(some 5), .plain .mv, [.tmp 6], none⟩] [])
     (.ops [⟨(some 7), .plain .mv, [.tmp 5], none⟩,
       ⟨none, .panic, [.tmp 7], none⟩] [7])))))))
theorem ok25 : FOkR Try.prog Lk.imp 25 6 c25 Try.f25.ntmps := ⟨Try.f25, _, _, Try.func25, rfl, by kernel_rfl, rfl, by kernel_rfl, by kernel_rfl, rfl, by decide⟩

/-- ironbark/link.same -/
def c30 : SC :=
  (.seq (.ops [⟨(some 2), .plain (.box 5), [.tmp 0], none⟩,
    ⟨(some 3), .plain (.box 5), [.tmp 1], none⟩,
    ⟨(some 4), .plain .mv, [.lit (.bool false)], none⟩] [])
  (.seq (.ops [⟨(some 5), .plain (.fieldAddr 0), [.tmp 2], none⟩,
    ⟨(some 6), .plain (.load false 1), [.tmp 5], none⟩,
    ⟨(some 7), .plain (.fieldAddr 0), [.tmp 3], none⟩,
    ⟨(some 8), .plain (.load false 1), [.tmp 7], none⟩,
    ⟨(some 9), .plain (.bin .eql), [.tmp 6, .tmp 8], none⟩,
    ⟨(some 10), .plain .mv, [.tmp 9], none⟩,
    ⟨(some 11), .plain (.fieldAddr 1), [.tmp 2], (some (10, true))⟩,
    ⟨(some 12), .plain (.load false 1), [.tmp 11], (some (10, true))⟩,
    ⟨(some 13), .plain (.fieldAddr 1), [.tmp 3], (some (10, true))⟩,
    ⟨(some 14), .plain (.load false 1), [.tmp 13], (some (10, true))⟩,
    ⟨(some 15), .plain (.bin .eql), [.tmp 12, .tmp 14], (some (10, true))⟩,
    ⟨(some 16), .plain .pick, [.tmp 10, .tmp 15, .lit (.bool false)], none⟩,
    ⟨(some 17), .plain .mv, [.tmp 16], none⟩,
    ⟨(some 18), .plain (.fieldAddr 2), [.tmp 2], (some (17, true))⟩,
    ⟨(some 19), .plain (.load false 1), [.tmp 18], (some (17, true))⟩,
    ⟨(some 20), .plain (.fieldAddr 2), [.tmp 3], (some (17, true))⟩,
    ⟨(some 21), .plain (.load false 1), [.tmp 20], (some (17, true))⟩,
    ⟨(some 22), .call 59, [.tmp 19, .tmp 21], (some (17, true))⟩,
    ⟨(some 23), .plain .pick, [.tmp 17, .tmp 22, .lit (.bool false)], none⟩,
    ⟨(some 24), .plain .mv, [.tmp 23], none⟩,
    ⟨(some 25), .plain (.fieldAddr 3), [.tmp 2], (some (24, true))⟩,
    ⟨(some 26), .plain (.load false 1), [.tmp 25], (some (24, true))⟩,
    ⟨(some 27), .plain (.fieldAddr 3), [.tmp 3], (some (24, true))⟩,
    ⟨(some 28), .plain (.load false 1), [.tmp 27], (some (24, true))⟩,
    ⟨(some 29), .call 60, [.tmp 26, .tmp 28], (some (24, true))⟩,
    ⟨(some 30), .plain .pick, [.tmp 24, .tmp 29, .lit (.bool false)], none⟩,
    ⟨(some 31), .plain .mv, [.tmp 30], none⟩,
    ⟨(some 32), .plain (.fieldAddr 4), [.tmp 2], (some (31, true))⟩,
    ⟨(some 33), .plain (.load false 1), [.tmp 32], (some (31, true))⟩,
    ⟨(some 34), .plain (.fieldAddr 4), [.tmp 3], (some (31, true))⟩,
    ⟨(some 35), .plain (.load false 1), [.tmp 34], (some (31, true))⟩,
    ⟨(some 36), .call 59, [.tmp 33, .tmp 35], (some (31, true))⟩,
    ⟨(some 37), .plain .pick, [.tmp 31, .tmp 36, .lit (.bool false)], none⟩,
    ⟨(some 4), .plain .mv, [.tmp 37], none⟩] [5, 6, 7, 8, 9, 10, 11, 12, 13, 14, 15, 16, 17, 18, 19, 20, 21, 22, 23, 24, 25, 26, 27, 28, 29, 30, 31, 32, 33, 34, 35, 36, 37])
  .ret))
def cr30 : List Res := [(4, none)]
theorem ok30 : FOk Try.prog Lk.imp 30 c30 cr30 Try.f30.ntmps := ⟨Try.f30, _, Try.func30, rfl, by kernel_rfl, by kernel_rfl, by kernel_rfl, rfl⟩

/-- slices.Equal[[]ironbark/api.Def,ironbark/api.Def] -/
def c59 : SC :=
  (.seq (.ops [⟨(some 4), .plain .mv, [.lit (.bool false)], none⟩] [])
  (.seq (.seq (.ops [⟨(some 6), .plain .mv, [.tmp 0], none⟩,
    ⟨(some 7), .plain (.len 1), [.tmp 6], none⟩,
    ⟨(some 8), .plain .mv, [.tmp 1], none⟩,
    ⟨(some 9), .plain (.len 1), [.tmp 8], none⟩,
    ⟨(some 10), .plain (.bin .neq), [.tmp 7, .tmp 9], none⟩] [6, 7, 8, 9])
  (.cond (.tmp 10)
   (.seq (.ops [⟨(some 4), .plain .mv, [.lit (.bool false)], none⟩] [])
   .ret)
   .skip))
  (.seq (.seq (.ops [⟨(some 11), .plain .mv, [.tmp 0], none⟩,
    ⟨(some 12), .plain (.len 1), [.tmp 11], none⟩,
    ⟨(some 13), .plain .mv, [.lit (.int .i64 0)], none⟩] [11])
  (.block 0
   (.loop
    (.seq (.ops [⟨(some 14), .plain (.bin .lss), [.tmp 13, .tmp 12], none⟩] [])
    (.seq (.cond (.tmp 14)
     .skip
     (.exit 0))
    (.seq (.block 1
     (.seq (.ops [⟨(some 15), .plain .mv, [.tmp 13], none⟩,
       ⟨(some 5), .plain .mv, [.tmp 15], none⟩] [15])
     (.seq (.draw (.step ⟨(some 16), .plain .mv, [.tmp 0], none⟩
       (.step ⟨(some 17), .plain .mv, [.tmp 5], none⟩
       (.step ⟨(some 18), .plain (.indexAddr 2), [.tmp 16, .tmp 17], none⟩
       (.step ⟨(some 19), .plain (.load true 2), [.tmp 18], none⟩
       (.step ⟨(some 20), .plain .mv, [.tmp 1], none⟩
       (.step ⟨(some 21), .plain .mv, [.tmp 5], none⟩
       (.step ⟨(some 22), .plain (.indexAddr 2), [.tmp 20, .tmp 21], none⟩
       (.step ⟨(some 23), .plain (.load true 2), [.tmp 22], none⟩
       (.step ⟨(some 24), .plain (.eqAgg true [.str, .int]), [.tmp 19, .tmp 23], none⟩
       .done))))))))) [16, 17, 18, 19, 20, 21, 22, 23])
     (.cond (.tmp 24)
      (.seq (.ops [⟨(some 4), .plain .mv, [.lit (.bool false)], none⟩] [])
      .ret)
      .skip))))
    (.ops [⟨(some 25), .plain (.bin .add), [.tmp 13, .lit (.int .i64 1)], none⟩,
      ⟨(some 13), .plain .mv, [.tmp 25], none⟩] [25])))))))
  (.seq (.ops [⟨(some 4), .plain .mv, [.lit (.bool true)], none⟩] [])
  .ret))))
def cr59 : List Res := [(4, none)]
theorem ok59 : FOk Try.prog Lk.imp 59 c59 cr59 Try.f59.ntmps := ⟨Try.f59, _, Try.func59, rfl, by kernel_rfl, by kernel_rfl, by kernel_rfl, rfl⟩

/-- slices.Equal[[]ironbark/api.Line,ironbark/api.Line] -/
def c60 : SC :=
  (.seq (.ops [⟨(some 4), .plain .mv, [.lit (.bool false)], none⟩] [])
  (.seq (.seq (.ops [⟨(some 6), .plain .mv, [.tmp 0], none⟩,
    ⟨(some 7), .plain (.len 1), [.tmp 6], none⟩,
    ⟨(some 8), .plain .mv, [.tmp 1], none⟩,
    ⟨(some 9), .plain (.len 1), [.tmp 8], none⟩,
    ⟨(some 10), .plain (.bin .neq), [.tmp 7, .tmp 9], none⟩] [6, 7, 8, 9])
  (.cond (.tmp 10)
   (.seq (.ops [⟨(some 4), .plain .mv, [.lit (.bool false)], none⟩] [])
   .ret)
   .skip))
  (.seq (.seq (.ops [⟨(some 11), .plain .mv, [.tmp 0], none⟩,
    ⟨(some 12), .plain (.len 1), [.tmp 11], none⟩,
    ⟨(some 13), .plain .mv, [.lit (.int .i64 0)], none⟩] [11])
  (.block 0
   (.loop
    (.seq (.ops [⟨(some 14), .plain (.bin .lss), [.tmp 13, .tmp 12], none⟩] [])
    (.seq (.cond (.tmp 14)
     .skip
     (.exit 0))
    (.seq (.block 1
     (.seq (.ops [⟨(some 15), .plain .mv, [.tmp 13], none⟩,
       ⟨(some 5), .plain .mv, [.tmp 15], none⟩] [15])
     (.seq (.draw (.step ⟨(some 16), .plain .mv, [.tmp 0], none⟩
       (.step ⟨(some 17), .plain .mv, [.tmp 5], none⟩
       (.step ⟨(some 18), .plain (.indexAddr 2), [.tmp 16, .tmp 17], none⟩
       (.step ⟨(some 19), .plain (.load true 2), [.tmp 18], none⟩
       (.step ⟨(some 20), .plain .mv, [.tmp 1], none⟩
       (.step ⟨(some 21), .plain .mv, [.tmp 5], none⟩
       (.step ⟨(some 22), .plain (.indexAddr 2), [.tmp 20, .tmp 21], none⟩
       (.step ⟨(some 23), .plain (.load true 2), [.tmp 22], none⟩
       (.step ⟨(some 24), .plain (.eqAgg true [.int, .int]), [.tmp 19, .tmp 23], none⟩
       .done))))))))) [16, 17, 18, 19, 20, 21, 22, 23])
     (.cond (.tmp 24)
      (.seq (.ops [⟨(some 4), .plain .mv, [.lit (.bool false)], none⟩] [])
      .ret)
      .skip))))
    (.ops [⟨(some 25), .plain (.bin .add), [.tmp 13, .lit (.int .i64 1)], none⟩,
      ⟨(some 13), .plain .mv, [.tmp 25], none⟩] [25])))))))
  (.seq (.ops [⟨(some 4), .plain .mv, [.lit (.bool true)], none⟩] [])
  .ret))))
def cr60 : List Res := [(4, none)]
theorem ok60 : FOk Try.prog Lk.imp 60 c60 cr60 Try.f60.ntmps := ⟨Try.f60, _, Try.func60, rfl, by kernel_rfl, by kernel_rfl, by kernel_rfl, rfl⟩

/-- ironbark/link.Move -/
def c12 : SC :=
  (.seq (.ops [⟨(some 4), .plain (.box 5), [.tmp 0], none⟩,
    ⟨(some 8), .plain (.alloc [(.int .i64 0), (.str ⟨#[]⟩), .nilS, .nilS, .nilS]), [], none⟩,
    ⟨(some 9), .plain .mv, [.lit (.int .i64 0)], none⟩] [])
  (.seq (.ops [⟨(some 16), .plain .mv, [.tmp 1], none⟩,
    ⟨(some 17), .plain .mv, [.tmp 2], none⟩,
    ⟨(some 18), .plain (.fieldAddr 0), [.tmp 4], none⟩,
    ⟨(some 19), .plain (.load false 1), [.tmp 18], none⟩,
    ⟨(some 20), .call 9, [.tmp 16, .tmp 17, .tmp 19], none⟩,
    ⟨(some 15), .plain .mv, [.tmp 20], none⟩,
    ⟨(some 21), .plain (.extract 0), [.tmp 15], none⟩,
    ⟨(some 22), .plain (.extract 1), [.tmp 15], none⟩,
    ⟨(some 23), .plain (.extract 2), [.tmp 15], none⟩,
    ⟨(some 10), .plain (.alloc [(.int .i64 0), (.str ⟨#[]⟩), .nilS, .nilS, .nilS]), [], none⟩,
    ⟨none, .plain (.store 5), [.tmp 10, .tmp 21], none⟩,
    ⟨(some 11), .plain .mv, [.tmp 22], none⟩,
    ⟨(some 12), .plain .mv, [.tmp 23], none⟩] [16, 17, 18, 19, 20, 15, 21, 22, 23, 12])
  (.seq (.seq (.ops [⟨(some 24), .plain .mv, [.tmp 11], none⟩,
    ⟨(some 25), .plain (.bin .neq), [.tmp 24, .lit (.int .i64 0)], none⟩,
    ⟨(some 26), .plain .mv, [.tmp 25], none⟩,
    ⟨(some 27), .plain (.load true 5), [.tmp 10], (some (26, false))⟩,
    ⟨(some 28), .plain (.load true 5), [.tmp 4], (some (26, false))⟩,
    ⟨(some 29), .call 30, [.tmp 27, .tmp 28], (some (26, false))⟩,
    ⟨(some 30), .plain (.un .not), [.tmp 29], (some (26, false))⟩,
    ⟨(some 31), .plain .pick, [.tmp 26, .lit (.bool true), .tmp 30], none⟩] [24, 25, 26, 27, 28, 29, 30])
  (.cond (.tmp 31)
   (.seq (.ops [⟨(some 32), .plain (.build [(.int .i64 0), (.str ⟨#[]⟩), .nilS, .nilS, .nilS] []), [], none⟩,
     ⟨none, .plain (.store 5), [.tmp 8, .tmp 32], none⟩,
     ⟨(some 9), .plain .mv, [.lit (.int .i64 1)], none⟩] [32])
   .ret)
   .skip))
  (.seq (.ops [⟨(some 34), .plain .mv, [.tmp 1], none⟩,
    ⟨(some 35), .plain .mv, [.tmp 2], none⟩,
    ⟨(some 36), .plain .mv, [.tmp 3], none⟩,
    ⟨(some 37), .call 9, [.tmp 34, .tmp 35, .tmp 36], none⟩,
    ⟨(some 33), .plain .mv, [.tmp 37], none⟩,
    ⟨(some 38), .plain (.extract 0), [.tmp 33], none⟩,
    ⟨(some 39), .plain (.extract 1), [.tmp 33], none⟩,
    ⟨(some 40), .plain (.extract 2), [.tmp 33], none⟩,
    ⟨(some 13), .plain (.alloc [(.int .i64 0), (.str ⟨#[]⟩), .nilS, .nilS, .nilS]), [], none⟩,
    ⟨none, .plain (.store 5), [.tmp 13, .tmp 38], none⟩,
    ⟨(some 11), .plain .mv, [.tmp 39], none⟩,
    ⟨(some 14), .plain .mv, [.tmp 40], none⟩] [34, 35, 36, 37, 33, 38, 39, 40, 14])
  (.seq (.ops [⟨(some 41), .plain (.load true 5), [.tmp 13], none⟩,
    ⟨(some 42), .plain .mv, [.tmp 11], none⟩,
    ⟨none, .plain (.store 5), [.tmp 8, .tmp 41], none⟩,
    ⟨(some 9), .plain .mv, [.tmp 42], none⟩] [41, 42])
  .ret)))))
def cr12 : List Res := [(8, some (true, 5)), (9, none)]
theorem ok12 : FOk Try.prog Lk.imp 12 c12 cr12 Try.f12.ntmps := ⟨Try.f12, _, Try.func12, rfl, by kernel_rfl, by kernel_rfl, by kernel_rfl, rfl⟩

end Go.Pm
