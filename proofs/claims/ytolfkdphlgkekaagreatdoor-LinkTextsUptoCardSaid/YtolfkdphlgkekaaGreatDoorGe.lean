/- ZkS8: code, resolved. Written by gen.py out of what ShowSC.lean printed. -/
import Derived.Test.YtolfkdphlgkekaaGreatDoorGd
import Derived.Test.YtolfkdphlgkekaaGreatDoorGb
import Derived.Test.YtolfkdphlgkekaaGreatDoorGa
namespace Go.Pm
open Go Go.Proofs

/-- (*ironbark/link.linking).needed -/
def c72 : SC :=
  (.seq (.ops [⟨(some 4), .plain .mv, [.lit .nilS], none⟩] [])
  (.seq .skip
  (.block 0
   (.loop
    (.block 1
     (.seq (.ops [⟨(some 10), .plain .mv, [.tmp 0], none⟩,
       ⟨(some 11), .call 113, [.tmp 10], none⟩,
       ⟨(some 5), .plain .mv, [.tmp 11], none⟩] [10, 11])
     (.seq (.seq (.ops [⟨(some 12), .plain .mv, [.tmp 5], none⟩,
       ⟨(some 13), .plain (.len 1), [.tmp 12], none⟩,
       ⟨(some 14), .plain .mv, [.lit (.int .i64 0)], none⟩] [])
     (.block 2
      (.loop
       (.seq (.ops [⟨(some 15), .plain (.bin .lss), [.tmp 14, .tmp 13], none⟩] [])
       (.seq (.cond (.tmp 15)
        .skip
        (.exit 2))
       (.seq (.block 3
        (.seq (.ops [⟨(some 16), .plain (.indexAddr 1), [.tmp 12, .tmp 14], none⟩,
          ⟨(some 17), .plain (.load false 1), [.tmp 16], none⟩,
          ⟨(some 7), .plain .mv, [.tmp 17], none⟩] [16, 17])
        (.seq (.ops [⟨(some 19), .plain .mv, [.tmp 0], none⟩,
          ⟨(some 20), .plain .mv, [.tmp 7], none⟩,
          ⟨(some 21), .plain .mv, [.tmp 1], none⟩,
          ⟨(some 22), .call 114, [.tmp 19, .tmp 20, .tmp 21], none⟩,
          ⟨(some 18), .plain .mv, [.tmp 22], none⟩,
          ⟨(some 23), .plain (.extract 0), [.tmp 18], none⟩,
          ⟨(some 24), .plain (.extract 1), [.tmp 18], none⟩,
          ⟨(some 8), .plain (.alloc [(.str ⟨#[]⟩), (.str ⟨#[]⟩), .nilS, .nilS, .nilS]), [], none⟩,
          ⟨none, .plain (.store 5), [.tmp 8, .tmp 23], none⟩,
          ⟨(some 9), .plain .mv, [.tmp 24], none⟩] [19, 20, 21, 22, 18, 23, 24])
        (.seq (.ops [⟨(some 25), .plain .mv, [.tmp 9], none⟩] [])
        (.cond (.tmp 25)
         (.seq (.ops [⟨(some 26), .plain .mv, [.tmp 0], none⟩,
           ⟨(some 27), .plain (.load true 5), [.tmp 8], none⟩,
           ⟨(some 28), .call 71, [.tmp 26, .tmp 27, .lit (.bool false)], none⟩] [26, 27, 28])
         (.exit 1))
         .skip)))))
       (.ops [⟨(some 29), .plain (.bin .add), [.tmp 14, .lit (.int .i64 1)], none⟩,
         ⟨(some 14), .plain .mv, [.tmp 29], none⟩] [29])))))))
     (.seq (.ops [⟨(some 30), .plain .mv, [.tmp 5], none⟩,
       ⟨(some 4), .plain .mv, [.tmp 30], none⟩] [30])
     .ret))))))))
def cr72 : List Res := [(4, none)]
theorem ok72 : FOk Zk.pg.toProgram Zk.imp 72 c72 cr72 Tryz.f72.ntmps := ⟨Tryz.f72, _, Tryz.func72, rfl, by kernel_rfl, by kernel_rfl, by kernel_rfl, rfl⟩

/-- (*ironbark/link.linking).done -/
def c73 : SC :=
  (.seq (.ops [⟨(some 2), .plain (.alloc [(.int .i64 0), (.str ⟨#[]⟩), .nilS, .nilS, .nilS]), [], none⟩] [])
  (.seq (.draw (.step ⟨(some 10), .plain .mv, [.tmp 0], none⟩
    (.step ⟨(some 11), .plain .nilCheck, [.tmp 10], none⟩
    (.step ⟨(some 12), .plain (.fieldAddr 8), [.tmp 11], none⟩
    (.step ⟨(some 13), .plain (.load false 1), [.tmp 12], none⟩
    (.step ⟨(some 14), .plain .mv, [.tmp 0], none⟩
    (.step ⟨(some 15), .plain .nilCheck, [.tmp 14], none⟩
    (.step ⟨(some 16), .plain (.fieldAddr 0), [.tmp 15], none⟩
    (.step ⟨(some 17), .plain (.fieldAddr 0), [.tmp 16], none⟩
    (.step ⟨(some 18), .plain (.load false 1), [.tmp 17], none⟩
    (.step ⟨(some 19), .plain (.bin .sub), [.tmp 13, .tmp 18], none⟩
    (.step ⟨(some 20), .plain (.mkRow 5 [(.int .u8 0)] 1), [.tmp 19, .tmp 19], none⟩
    (.step ⟨(some 3), .plain .mv, [.tmp 20], none⟩
    .done)))))))))))) [10, 11, 12, 13, 14, 15, 16, 17, 18, 19, 20])
  (.seq (.seq (.ops [⟨(some 21), .plain .mv, [.tmp 0], none⟩,
    ⟨(some 22), .plain .nilCheck, [.tmp 21], none⟩,
    ⟨(some 23), .plain (.fieldAddr 5), [.tmp 22], none⟩,
    ⟨(some 24), .plain (.load false 1), [.tmp 23], none⟩,
    ⟨(some 25), .plain (.len 1), [.tmp 24], none⟩,
    ⟨(some 26), .plain .mv, [.lit (.int .i64 0)], none⟩] [21, 22, 23])
  (.block 0
   (.loop
    (.seq (.ops [⟨(some 27), .plain (.bin .lss), [.tmp 26, .tmp 25], none⟩] [])
    (.seq (.cond (.tmp 27)
     .skip
     (.exit 0))
    (.seq (.block 1
     (.seq (.ops [⟨(some 28), .plain .mv, [.tmp 26], none⟩,
       ⟨(some 29), .plain (.indexAddr 5), [.tmp 24, .tmp 26], none⟩,
       ⟨(some 30), .plain (.load true 5), [.tmp 29], none⟩,
       ⟨(some 5), .plain (.alloc [(.str ⟨#[]⟩), (.str ⟨#[]⟩), .nilS, .nilS, .nilS]), [], none⟩,
       ⟨(some 4), .plain .mv, [.tmp 28], none⟩,
       ⟨none, .plain (.store 5), [.tmp 5, .tmp 30], none⟩] [28, 29, 30])
     (.seq (.draw (.step ⟨(some 31), .plain .mv, [.tmp 0], none⟩
       (.step ⟨(some 32), .plain .nilCheck, [.tmp 31], none⟩
       (.step ⟨(some 33), .plain (.fieldAddr 0), [.tmp 32], none⟩
       (.step ⟨(some 34), .plain (.fieldAddr 4), [.tmp 33], none⟩
       (.step ⟨(some 35), .plain (.load false 1), [.tmp 34], none⟩
       (.step ⟨(some 36), .plain .mv, [.tmp 4], none⟩
       (.step ⟨(some 37), .plain (.indexAddr 2), [.tmp 35, .tmp 36], none⟩
       (.step ⟨(some 38), .plain (.fieldAddr 1), [.tmp 37], none⟩
       (.step ⟨(some 39), .plain (.load false 1), [.tmp 38], none⟩
       (.step ⟨(some 40), .plain .mv, [.tmp 0], none⟩
       (.step ⟨(some 41), .plain .nilCheck, [.tmp 40], none⟩
       (.step ⟨(some 42), .plain (.fieldAddr 0), [.tmp 41], none⟩
       (.step ⟨(some 43), .plain (.fieldAddr 0), [.tmp 42], none⟩
       (.step ⟨(some 44), .plain (.load false 1), [.tmp 43], none⟩
       (.step ⟨(some 45), .plain (.bin .sub), [.tmp 39, .tmp 44], none⟩
       (.step ⟨(some 6), .plain .mv, [.tmp 45], none⟩
       .done)))))))))))))))) [31, 32, 33, 34, 35, 36, 37, 38, 39, 40, 41, 42, 43, 44, 45])
     (.seq (.draw (.step ⟨(some 46), .plain .mv, [.tmp 3], none⟩
       (.step ⟨(some 47), .plain .mv, [.tmp 6], none⟩
       (.step ⟨(some 48), .plain (.slice true false 1), [.tmp 46, .tmp 47], none⟩
       (.step ⟨(some 49), .plain (.fieldAddr 1), [.tmp 5], none⟩
       (.step ⟨(some 50), .plain (.load false 1), [.tmp 49], none⟩
       (.step ⟨(some 51), .plain (.copy 5 1), [.tmp 48, .tmp 50], none⟩
       .done)))))) [46, 47, 48, 49, 50, 51])
     (.seq (.ops [⟨(some 52), .plain (.fieldAddr 3), [.tmp 5], none⟩,
       ⟨(some 53), .plain (.load false 1), [.tmp 52], none⟩,
       ⟨(some 54), .plain (.len 1), [.tmp 53], none⟩,
       ⟨(some 55), .plain .mv, [.lit (.int .i64 0)], none⟩] [52])
     (.block 2
      (.loop
       (.seq (.ops [⟨(some 56), .plain (.bin .lss), [.tmp 55, .tmp 54], none⟩] [])
       (.seq (.cond (.tmp 56)
        .skip
        (.exit 2))
       (.seq (.block 3
        (.seq (.ops [⟨(some 57), .plain (.indexAddr 3), [.tmp 53, .tmp 55], none⟩,
          ⟨(some 58), .plain (.load true 3), [.tmp 57], none⟩,
          ⟨(some 8), .plain (.alloc [(.int .i64 0), (.str ⟨#[]⟩), (.int .i64 0)]), [], none⟩,
          ⟨none, .plain (.store 3), [.tmp 8, .tmp 58], none⟩] [57, 58])
        (.seq (.draw (.step ⟨(some 59), .plain .mv, [.tmp 0], none⟩
          (.step ⟨(some 60), .plain .nilCheck, [.tmp 59], none⟩
          (.step ⟨(some 61), .plain (.fieldAddr 6), [.tmp 60], none⟩
          (.step ⟨(some 62), .plain (.load false 1), [.tmp 61], none⟩
          (.step ⟨(some 63), .plain (.fieldAddr 1), [.tmp 8], none⟩
          (.step ⟨(some 64), .plain (.load false 1), [.tmp 63], none⟩
          (.step ⟨(some 65), .plain (.lookup .str (.int .i64 0) false), [.tmp 62, .tmp 64], none⟩
          (.step ⟨(some 66), .plain (.fieldAddr 2), [.tmp 8], none⟩
          (.step ⟨(some 67), .plain (.load false 1), [.tmp 66], none⟩
          (.step ⟨(some 68), .plain (.bin .add), [.tmp 65, .tmp 67], none⟩
          (.step ⟨(some 69), .plain (.convInt .u32), [.tmp 68], none⟩
          (.step ⟨(some 9), .plain .mv, [.tmp 69], none⟩
          .done)))))))))))) [59, 60, 61, 62, 63, 64, 65, 66, 67, 68, 69])
        (.ops [⟨(some 70), .plain .mv, [.tmp 3], none⟩,
          ⟨(some 71), .plain .mv, [.tmp 6], none⟩,
          ⟨(some 72), .plain (.fieldAddr 0), [.tmp 8], none⟩,
          ⟨(some 73), .plain (.load false 1), [.tmp 72], none⟩,
          ⟨(some 74), .plain (.bin .add), [.tmp 71, .tmp 73], none⟩,
          ⟨(some 75), .plain (.slice true false 1), [.tmp 70, .tmp 74], none⟩,
          ⟨(some 76), .plain .mv, [.tmp 9], none⟩,
          ⟨(some 77), .plain (.bin .shr), [.tmp 76, .lit (.int .u64 24)], none⟩,
          ⟨(some 78), .plain (.convInt .u8), [.tmp 77], none⟩,
          ⟨(some 79), .plain .mv, [.tmp 9], none⟩,
          ⟨(some 80), .plain (.bin .shr), [.tmp 79, .lit (.int .u64 16)], none⟩,
          ⟨(some 81), .plain (.convInt .u8), [.tmp 80], none⟩,
          ⟨(some 82), .plain .mv, [.tmp 9], none⟩,
          ⟨(some 83), .plain (.bin .shr), [.tmp 82, .lit (.int .u64 8)], none⟩,
          ⟨(some 84), .plain (.convInt .u8), [.tmp 83], none⟩,
          ⟨(some 85), .plain .mv, [.tmp 9], none⟩,
          ⟨(some 86), .plain (.convInt .u8), [.tmp 85], none⟩,
          ⟨(some 87), .plain (.buildRow 5 1 4 [(.int .u8 0)] [0, 1, 2, 3]), [.tmp 78, .tmp 81, .tmp 84, .tmp 86], none⟩,
          ⟨(some 88), .plain (.copy 5 1), [.tmp 75, .tmp 87], none⟩] [70, 71, 72, 73, 74, 75, 76, 77, 78, 79, 80, 81, 82, 83, 84, 85, 86, 87, 88]))))
       (.ops [⟨(some 89), .plain (.bin .add), [.tmp 55, .lit (.int .i64 1)], none⟩,
         ⟨(some 55), .plain .mv, [.tmp 89], none⟩] [89])))))))))))
    (.ops [⟨(some 90), .plain (.bin .add), [.tmp 26, .lit (.int .i64 1)], none⟩,
      ⟨(some 26), .plain .mv, [.tmp 90], none⟩] [90])))))))
  (.seq (.ops [⟨(some 91), .plain .mv, [.tmp 0], none⟩,
    ⟨(some 92), .plain .mv, [.tmp 3], none⟩,
    ⟨(some 93), .plain .bytesToStr, [.tmp 92], none⟩,
    ⟨(some 94), .plain .nilCheck, [.tmp 91], none⟩,
    ⟨(some 95), .plain (.fieldAddr 0), [.tmp 94], none⟩,
    ⟨(some 96), .plain (.fieldAddr 1), [.tmp 95], none⟩,
    ⟨none, .plain (.store 1), [.tmp 96, .tmp 93], none⟩] [91, 92, 93, 94, 95, 96])
  (.seq (.ops [⟨(some 97), .plain .mv, [.tmp 0], none⟩,
    ⟨(some 98), .plain .nilCheck, [.tmp 97], none⟩,
    ⟨(some 99), .plain (.fieldAddr 0), [.tmp 98], none⟩,
    ⟨(some 100), .plain (.fieldAddr 2), [.tmp 99], none⟩,
    ⟨(some 101), .plain (.load false 1), [.tmp 100], none⟩,
    ⟨(some 102), .call 115, [.tmp 101, .lit (.fn 116 [])], none⟩] [97, 98, 99, 100, 101, 102])
  (.seq (.ops [⟨(some 103), .plain .mv, [.tmp 0], none⟩,
    ⟨(some 104), .plain .nilCheck, [.tmp 103], none⟩,
    ⟨(some 105), .plain (.fieldAddr 0), [.tmp 104], none⟩,
    ⟨(some 106), .plain (.load true 5), [.tmp 105], none⟩,
    ⟨none, .plain (.store 5), [.tmp 2, .tmp 106], none⟩] [103, 104, 105, 106])
  .ret))))))
def cr73 : List Res := [(2, some (true, 5))]
theorem ok73 : FOk Zk.pg.toProgram Zk.imp 73 c73 cr73 Tryz.f73.ntmps := ⟨Tryz.f73, _, Tryz.func73, rfl, by kernel_rfl, by kernel_rfl, by kernel_rfl, rfl⟩

/-- ironbark/link.Link, its front -/
def cx21 : SC :=
  (.seq (.ops [⟨(some 6), .plain (.alloc [(.int .i64 0), (.str ⟨#[]⟩), .nilS, .nilS, .nilS]), [], none⟩,
    ⟨(some 7), .plain (.alloc [(.int .i64 0)]), [], none⟩,
    ⟨(some 8), .plain (.alloc [(.str ⟨#[]⟩)]), [], none⟩] [])
  (.seq (.block 0
   (.seq (.ops [⟨(some 14), .plain .mv, [.tmp 0], none⟩,
     ⟨(some 15), .plain .mv, [.tmp 1], none⟩,
     ⟨(some 16), .call 33, [.tmp 14, .tmp 15], none⟩,
     ⟨(some 17), .plain (.un .not), [.tmp 16], none⟩,
     ⟨(some 13), .plain .mv, [.tmp 17], none⟩] [14, 15, 16, 17])
   (.cond (.tmp 13)
    (.seq (.ops [⟨(some 18), .plain (.build [(.int .i64 0), (.str ⟨#[]⟩), .nilS, .nilS, .nilS] []), [], none⟩,
      ⟨none, .plain (.store 5), [.tmp 6, .tmp 18], none⟩,
      ⟨none, .plain (.store 1), [.tmp 7, .lit (.int .i64 1)], none⟩,
      ⟨none, .plain (.store 1), [.tmp 8, .lit (.str ⟨#[]⟩)], none⟩] [18])
    .ret)
    (.seq (.ops [⟨(some 20), .plain .mv, [.tmp 2], none⟩,
      ⟨(some 21), .call 68, [.tmp 20], none⟩,
      ⟨(some 22), .plain (.un .not), [.tmp 21], none⟩,
      ⟨(some 19), .plain .mv, [.tmp 22], none⟩] [20, 21, 22])
    (.cond (.tmp 19)
     (.seq (.ops [⟨(some 23), .plain (.build [(.int .i64 0), (.str ⟨#[]⟩), .nilS, .nilS, .nilS] []), [], none⟩,
       ⟨none, .plain (.store 5), [.tmp 6, .tmp 23], none⟩,
       ⟨none, .plain (.store 1), [.tmp 7, .lit (.int .i64 7)], none⟩,
       ⟨none, .plain (.store 1), [.tmp 8, .lit (.str ⟨#[]⟩)], none⟩] [23])
     .ret)
     .skip)))))
  .skip))
/-- ironbark/link.Link, behind what it defers -/
def cy21 : SC :=
  (.seq (.ops [⟨(some 25), .plain .mv, [.tmp 2], none⟩,
    ⟨(some 26), .call 70, [.tmp 25, .lit .nilS], none⟩,
    ⟨(some 9), .plain .mv, [.tmp 26], none⟩] [25, 26])
  (.seq (.seq (.ops [⟨(some 27), .plain .mv, [.tmp 0], none⟩,
    ⟨(some 28), .plain (.len 1), [.tmp 27], none⟩,
    ⟨(some 29), .plain .mv, [.lit (.int .i64 0)], none⟩] [])
  (.block 1
   (.loop
    (.seq (.ops [⟨(some 30), .plain (.bin .lss), [.tmp 29, .tmp 28], none⟩] [])
    (.seq (.cond (.tmp 30)
     .skip
     (.exit 1))
    (.seq (.block 2
     (.seq (.ops [⟨(some 31), .plain (.indexAddr 5), [.tmp 27, .tmp 29], none⟩,
       ⟨(some 32), .plain (.load true 5), [.tmp 31], none⟩,
       ⟨(some 11), .plain (.alloc [(.str ⟨#[]⟩), (.str ⟨#[]⟩), .nilS, .nilS, .nilS]), [], none⟩,
       ⟨none, .plain (.store 5), [.tmp 11, .tmp 32], none⟩] [31, 32])
     (.ops [⟨(some 33), .plain .mv, [.tmp 9], none⟩,
       ⟨(some 34), .plain (.load true 5), [.tmp 11], none⟩,
       ⟨(some 35), .call 71, [.tmp 33, .tmp 34, .lit (.bool true)], none⟩] [33, 34, 35])))
    (.ops [⟨(some 36), .plain (.bin .add), [.tmp 29, .lit (.int .i64 1)], none⟩,
      ⟨(some 29), .plain .mv, [.tmp 36], none⟩] [36])))))))
  (.seq (.seq (.ops [⟨(some 37), .plain .mv, [.tmp 9], none⟩,
    ⟨(some 38), .plain .mv, [.tmp 1], none⟩,
    ⟨(some 39), .call 72, [.tmp 37, .tmp 38], none⟩,
    ⟨(some 12), .plain .mv, [.tmp 39], none⟩] [37, 38, 39])
  (.seq (.ops [⟨(some 40), .plain .mv, [.tmp 12], none⟩,
    ⟨(some 41), .plain (.len 1), [.tmp 40], none⟩,
    ⟨(some 42), .plain (.bin .gtr), [.tmp 41, .lit (.int .i64 0)], none⟩] [40, 41])
  (.cond (.tmp 42)
   (.ops [⟨(some 43), .plain .mv, [.tmp 12], none⟩,
     ⟨(some 44), .plain (.indexAddr 1), [.tmp 43, .lit (.int .i64 0)], none⟩,
     ⟨(some 45), .plain (.load false 1), [.tmp 44], none⟩,
     ⟨(some 46), .plain (.build [(.int .i64 0), (.str ⟨#[]⟩)] [(0, 1), (1, 1)]), [.lit (.int .i64 5), .tmp 45], none⟩,
     ⟨(some 47), .plain (.mkIface 138), [.tmp 46], none⟩,
     ⟨none, .panic, [.tmp 47], none⟩] [43, 44, 45, 46, 47])
   .skip)))
  (.seq (.seq (.ops [⟨(some 48), .plain .mv, [.tmp 9], none⟩,
    ⟨(some 49), .plain .nilCheck, [.tmp 48], none⟩,
    ⟨(some 50), .plain (.fieldAddr 8), [.tmp 49], none⟩,
    ⟨(some 51), .plain (.load false 1), [.tmp 50], none⟩,
    ⟨(some 52), .plain (.bin .gtr), [.tmp 51, .lit (.int .i64 65536)], none⟩] [48, 49, 50, 51])
  (.cond (.tmp 52)
   (.ops [⟨(some 53), .plain (.build [(.int .i64 0), (.str ⟨#[]⟩)] [(0, 1), (1, 1)]), [.lit (.int .i64 11), .lit (.str ⟨#[]⟩)], none⟩,
     ⟨(some 54), .plain (.mkIface 138), [.tmp 53], none⟩,
     ⟨none, .panic, [.tmp 54], none⟩] [53, 54])
   .skip))
  (.seq (.ops [⟨(some 55), .plain .mv, [.tmp 9], none⟩,
    ⟨(some 56), .call 73, [.tmp 55], none⟩,
    ⟨none, .plain (.store 5), [.tmp 6, .tmp 56], none⟩,
    ⟨none, .plain (.store 1), [.tmp 7, .lit (.int .i64 0)], none⟩,
    ⟨none, .plain (.store 1), [.tmp 8, .lit (.str ⟨#[]⟩)], none⟩] [55, 56])
  .ret)))))
def cr21 : List Res := [(6, some (true, 5)), (7, some (false, 1)), (8, some (false, 1))]
theorem ok21 : FOkE Zk.pg.toProgram Zk.imp 21 cx21 24 69 [.tmp 6, .tmp 7, .tmp 8] cy21 cr21 Tryz.f21.ntmps := ⟨Tryz.f21, _, _, _, _, Tryz.func21, rfl, by kernel_rfl, rfl, by kernel_rfl, by kernel_rfl, by kernel_rfl, by kernel_rfl, rfl, by decide⟩

/-- ironbark/link.Link$1, behind its recover -/
def c69 : SC :=
  (.block 0
   (.seq (.ops [⟨(some 8), .plain (.eqNil false false), [.tmp 6, .lit (.const .nilIface)], none⟩] [])
   (.cond (.tmp 8)
    (.ops [⟨(some 3), .plain .mv, [.tmp 6], none⟩] [3])
    (.seq (.ops [⟨(some 9), .plain (.typeAssert 138 (.agg [(.int .i64 0), (.str ⟨#[]⟩)])), [.tmp 6], none⟩,
      ⟨(some 10), .plain (.extract 1), [.tmp 9], none⟩,
      ⟨(some 11), .plain (.extract 0), [.tmp 9], none⟩] [9])
    (.cond (.tmp 10)
     (.seq (.ops [⟨(some 4), .plain (.alloc [(.int .i64 0), (.str ⟨#[]⟩)]), [], none⟩,
       ⟨none, .plain (.store 2), [.tmp 4, .tmp 11], none⟩] [])
     (.draw (.step ⟨(some 12), .plain (.build [(.int .i64 0), (.str ⟨#[]⟩), .nilS, .nilS, .nilS] []), [], none⟩
       (.step ⟨(some 13), .plain (.fieldAddr 0), [.tmp 4], none⟩
       (.step ⟨(some 15), .plain (.fieldAddr 1), [.tmp 4], none⟩
       (.or (.step ⟨(some 14), .plain (.load false 1), [.tmp 13], none⟩
       (.or (.step ⟨(some 16), .plain (.load false 1), [.tmp 15], none⟩
       (.step ⟨none, .plain (.store 5), [.tmp 0, .tmp 12], none⟩
       (.step ⟨none, .plain (.store 1), [.tmp 1, .tmp 14], none⟩
       (.step ⟨none, .plain (.store 1), [.tmp 2, .tmp 16], none⟩
       .done))))
       (.step ⟨none, .plain (.store 5), [.tmp 0, .tmp 12], none⟩
       (.or (.step ⟨(some 16), .plain (.load false 1), [.tmp 15], none⟩
       (.step ⟨none, .plain (.store 1), [.tmp 1, .tmp 14], none⟩
       (.step ⟨none, .plain (.store 1), [.tmp 2, .tmp 16], none⟩
       .done)))
       (.step ⟨none, .plain (.store 1), [.tmp 1, .tmp 14], none⟩
       (.step ⟨(some 16), .plain (.load false 1), [.tmp 15], none⟩
       (.step ⟨none, .plain (.store 1), [.tmp 2, .tmp 16], none⟩
       .done)))))))
       (.or (.step ⟨(some 16), .plain (.load false 1), [.tmp 15], none⟩
       (.or (.step ⟨(some 14), .plain (.load false 1), [.tmp 13], none⟩
       (.step ⟨none, .plain (.store 5), [.tmp 0, .tmp 12], none⟩
       (.step ⟨none, .plain (.store 1), [.tmp 1, .tmp 14], none⟩
       (.step ⟨none, .plain (.store 1), [.tmp 2, .tmp 16], none⟩
       .done))))
       (.step ⟨none, .plain (.store 5), [.tmp 0, .tmp 12], none⟩
       (.step ⟨(some 14), .plain (.load false 1), [.tmp 13], none⟩
       (.step ⟨none, .plain (.store 1), [.tmp 1, .tmp 14], none⟩
       (.step ⟨none, .plain (.store 1), [.tmp 2, .tmp 16], none⟩
       .done))))))
       (.step ⟨none, .plain (.store 5), [.tmp 0, .tmp 12], none⟩
       (.step ⟨(some 14), .plain (.load false 1), [.tmp 13], none⟩
       (.or (.step ⟨(some 16), .plain (.load false 1), [.tmp 15], none⟩
       (.step ⟨none, .plain (.store 1), [.tmp 1, .tmp 14], none⟩
       (.step ⟨none, .plain (.store 1), [.tmp 2, .tmp 16], none⟩
       .done)))
       (.step ⟨none, .plain (.store 1), [.tmp 1, .tmp 14], none⟩
       (.step ⟨(some 16), .plain (.load false 1), [.tmp 15], none⟩
       (.step ⟨none, .plain (.store 1), [.tmp 2, .tmp 16], none⟩
       .done))))))))))) [12, 13, 15, 14, 16]))
     (.seq (.ops [⟨(some 5), .plain .mv, [.tmp 6], none⟩] [])
     (.ops [⟨(some 7), .plain .mv, [.tmp 5], none⟩,
       ⟨none, .panic, [.tmp 7], none⟩] [7])))))))
theorem ok69 : FOkR Zk.pg.toProgram Zk.imp 69 6 c69 Tryz.f69.ntmps := ⟨Tryz.f69, _, _, Tryz.func69, rfl, by kernel_rfl, rfl, by kernel_rfl, by kernel_rfl, rfl, by decide⟩

end Go.Pm

/- ZkS9: code, resolved. Written by gen.py out of what ShowSC.lean printed. -/
namespace Go.Pm
open Go Go.Proofs

/-- ironbark/ironbarklaw34.large -/
def c10 : SC :=
  (.seq (.ops [⟨(some 4), .plain .mv, [.lit (.bool false)], none⟩] [])
  (.seq (.ops [⟨(some 5), .plain .mv, [.lit (.int .i64 0)], none⟩] [])
  (.seq (.ops [⟨(some 10), .plain .mv, [.tmp 0], none⟩,
    ⟨(some 11), .plain (.buildRow 35 1 1 [.nilS] [0]), [.tmp 10], none⟩,
    ⟨(some 12), .plain .mv, [.tmp 1], none⟩,
    ⟨(some 13), .plain (.append 35 1 24), [.tmp 11, .tmp 12], none⟩,
    ⟨(some 6), .plain .mv, [.tmp 13], none⟩] [10, 11, 12, 13])
  (.seq (.seq (.ops [⟨(some 14), .plain .mv, [.tmp 6], none⟩,
    ⟨(some 15), .plain (.len 1), [.tmp 14], none⟩,
    ⟨(some 16), .plain (.bin .gtr), [.tmp 15, .lit (.int .i64 6)], none⟩] [14, 15])
  (.cond (.tmp 16)
   (.seq (.ops [⟨(some 4), .plain .mv, [.lit (.bool true)], none⟩] [])
   .ret)
   .skip))
  (.seq (.seq (.ops [⟨(some 7), .plain .mv, [.lit (.int .i64 0)], none⟩] [])
  (.block 0
   (.loop
    (.seq (.seq (.ops [⟨(some 17), .plain .mv, [.tmp 7], none⟩,
      ⟨(some 18), .plain .mv, [.tmp 6], none⟩,
      ⟨(some 19), .plain (.len 1), [.tmp 18], none⟩,
      ⟨(some 20), .plain (.bin .lss), [.tmp 17, .tmp 19], none⟩] [17, 18, 19])
    (.cond (.tmp 20)
     .skip
     (.exit 0)))
    (.seq (.block 1
     (.seq (.ops [⟨(some 8), .plain .mv, [.lit (.int .i64 0)], none⟩] [])
     (.block 2
      (.loop
       (.seq (.seq (.ops [⟨(some 23), .plain .mv, [.tmp 8], none⟩,
         ⟨(some 24), .plain .mv, [.tmp 6], none⟩,
         ⟨(some 25), .plain .mv, [.tmp 7], none⟩,
         ⟨(some 26), .plain (.indexAddr 1), [.tmp 24, .tmp 25], none⟩,
         ⟨(some 27), .plain (.load false 1), [.tmp 26], none⟩,
         ⟨(some 28), .plain (.len 1), [.tmp 27], none⟩,
         ⟨(some 29), .plain (.bin .lss), [.tmp 23, .tmp 28], none⟩] [23, 24, 25, 26, 27, 28])
       (.cond (.tmp 29)
        .skip
        (.exit 2)))
       (.seq (.block 3
        (.seq (.ops [⟨(some 32), .plain .mv, [.tmp 6], none⟩,
          ⟨(some 33), .plain .mv, [.tmp 7], none⟩,
          ⟨(some 34), .plain (.indexAddr 1), [.tmp 32, .tmp 33], none⟩,
          ⟨(some 35), .plain (.load false 1), [.tmp 34], none⟩,
          ⟨(some 36), .plain .mv, [.tmp 8], none⟩,
          ⟨(some 37), .plain (.indexAddr 5), [.tmp 35, .tmp 36], none⟩,
          ⟨(some 38), .plain (.load true 5), [.tmp 37], none⟩,
          ⟨(some 9), .plain (.alloc [(.str ⟨#[]⟩), (.str ⟨#[]⟩), .nilS, .nilS, .nilS]), [], none⟩,
          ⟨none, .plain (.store 5), [.tmp 9, .tmp 38], none⟩] [32, 33, 34, 35, 36, 37, 38])
        (.seq (.ops [⟨(some 39), .plain .mv, [.tmp 5], none⟩,
          ⟨(some 40), .plain (.fieldAddr 0), [.tmp 9], none⟩,
          ⟨(some 41), .plain (.load false 1), [.tmp 40], none⟩,
          ⟨(some 42), .plain (.len 0), [.tmp 41], none⟩,
          ⟨(some 43), .plain (.bin .add), [.lit (.int .i64 20), .tmp 42], none⟩,
          ⟨(some 44), .plain (.fieldAddr 2), [.tmp 9], none⟩,
          ⟨(some 45), .plain (.load false 1), [.tmp 44], none⟩,
          ⟨(some 46), .plain (.len 1), [.tmp 45], none⟩,
          ⟨(some 47), .plain (.fieldAddr 3), [.tmp 9], none⟩,
          ⟨(some 48), .plain (.load false 1), [.tmp 47], none⟩,
          ⟨(some 49), .plain (.len 1), [.tmp 48], none⟩,
          ⟨(some 50), .plain (.bin .add), [.tmp 46, .tmp 49], none⟩,
          ⟨(some 51), .plain (.fieldAddr 4), [.tmp 9], none⟩,
          ⟨(some 52), .plain (.load false 1), [.tmp 51], none⟩,
          ⟨(some 53), .plain (.len 1), [.tmp 52], none⟩,
          ⟨(some 54), .plain (.bin .add), [.tmp 50, .tmp 53], none⟩,
          ⟨(some 55), .plain (.bin .mul), [.lit (.int .i64 10), .tmp 54], none⟩,
          ⟨(some 56), .plain (.bin .add), [.tmp 43, .tmp 55], none⟩,
          ⟨(some 57), .plain (.bin .add), [.tmp 39, .tmp 56], none⟩,
          ⟨(some 5), .plain .mv, [.tmp 57], none⟩] [39, 40, 41, 42, 43, 44, 45, 46, 47, 48, 49, 50, 51, 52, 53, 54, 55, 56, 57])
        (.seq (.ops [⟨(some 58), .plain (.fieldAddr 1), [.tmp 9], none⟩,
          ⟨(some 59), .plain (.load false 1), [.tmp 58], none⟩,
          ⟨(some 60), .plain (.len 0), [.tmp 59], none⟩,
          ⟨(some 61), .plain (.bin .lss), [.tmp 60, .lit (.int .i64 19900)], none⟩] [58, 59, 60])
        (.cond (.tmp 61)
         (.ops [⟨(some 62), .plain .mv, [.tmp 5], none⟩,
           ⟨(some 63), .plain (.fieldAddr 1), [.tmp 9], none⟩,
           ⟨(some 64), .plain (.load false 1), [.tmp 63], none⟩,
           ⟨(some 65), .plain (.len 0), [.tmp 64], none⟩,
           ⟨(some 66), .plain (.bin .add), [.tmp 62, .tmp 65], none⟩,
           ⟨(some 5), .plain .mv, [.tmp 66], none⟩] [62, 63, 64, 65, 66])
         .skip)))))
       (.ops [⟨(some 30), .plain .mv, [.tmp 8], none⟩,
         ⟨(some 31), .plain (.bin .add), [.tmp 30, .lit (.int .i64 1)], none⟩,
         ⟨(some 8), .plain .mv, [.tmp 31], none⟩] [30, 31])))))))
    (.ops [⟨(some 21), .plain .mv, [.tmp 7], none⟩,
      ⟨(some 22), .plain (.bin .add), [.tmp 21, .lit (.int .i64 1)], none⟩,
      ⟨(some 7), .plain .mv, [.tmp 22], none⟩] [21, 22]))))))
  (.seq (.ops [⟨(some 67), .plain .mv, [.tmp 5], none⟩,
    ⟨(some 68), .plain (.bin .gtr), [.tmp 67, .lit (.int .i64 6000)], none⟩,
    ⟨(some 4), .plain .mv, [.tmp 68], none⟩] [67, 68])
  .ret))))))
def cr10 : List Res := [(4, none)]
theorem ok10 : FOk Zk.pg.toProgram Zk.imp 10 c10 cr10 Tryz.f10.ntmps := ⟨Tryz.f10, _, Tryz.func10, rfl, by kernel_rfl, by kernel_rfl, by kernel_rfl, rfl⟩

/-- ironbark/ironbarkref34.Given -/
def c13 : SC :=
  (.seq (.ops [⟨(some 2), .plain .mv, [.lit .nilS], none⟩] [])
  (.seq (.ops [⟨(some 4), .plain .mv, [.tmp 0], none⟩,
    ⟨(some 5), .plain (.append 27 5 104), [.lit .nilS, .tmp 4], none⟩,
    ⟨(some 0), .plain .mv, [.tmp 5], none⟩] [4, 5])
  (.seq (.seq (.ops [⟨(some 3), .plain .mv, [.lit (.int .i64 0)], none⟩] [])
  (.block 0
   (.loop
    (.seq (.seq (.ops [⟨(some 6), .plain .mv, [.tmp 3], none⟩,
      ⟨(some 7), .plain .mv, [.tmp 0], none⟩,
      ⟨(some 8), .plain (.len 1), [.tmp 7], none⟩,
      ⟨(some 9), .plain (.bin .lss), [.tmp 6, .tmp 8], none⟩] [6, 7, 8])
    (.cond (.tmp 9)
     .skip
     (.exit 0)))
    (.seq (.block 1
     (.seq (.ops [⟨(some 12), .plain .mv, [.tmp 0], none⟩,
       ⟨(some 13), .plain .mv, [.tmp 3], none⟩,
       ⟨(some 14), .plain .mv, [.tmp 0], none⟩,
       ⟨(some 15), .plain .mv, [.tmp 3], none⟩,
       ⟨(some 16), .plain (.indexAddr 5), [.tmp 14, .tmp 15], none⟩,
       ⟨(some 17), .plain (.fieldAddr 2), [.tmp 16], none⟩,
       ⟨(some 18), .plain (.load false 1), [.tmp 17], none⟩,
       ⟨(some 19), .plain (.append 65 2 24), [.lit .nilS, .tmp 18], none⟩,
       ⟨(some 20), .plain (.indexAddr 5), [.tmp 12, .tmp 13], none⟩,
       ⟨(some 21), .plain (.fieldAddr 2), [.tmp 20], none⟩,
       ⟨none, .plain (.store 1), [.tmp 21, .tmp 19], none⟩] [12, 13, 14, 15, 16, 17, 18, 19, 20, 21])
     (.seq (.ops [⟨(some 22), .plain .mv, [.tmp 0], none⟩,
       ⟨(some 23), .plain .mv, [.tmp 3], none⟩,
       ⟨(some 24), .plain .mv, [.tmp 0], none⟩,
       ⟨(some 25), .plain .mv, [.tmp 3], none⟩,
       ⟨(some 26), .plain (.indexAddr 5), [.tmp 24, .tmp 25], none⟩,
       ⟨(some 27), .plain (.fieldAddr 3), [.tmp 26], none⟩,
       ⟨(some 28), .plain (.load false 1), [.tmp 27], none⟩,
       ⟨(some 29), .plain (.append 77 3 32), [.lit .nilS, .tmp 28], none⟩,
       ⟨(some 30), .plain (.indexAddr 5), [.tmp 22, .tmp 23], none⟩,
       ⟨(some 31), .plain (.fieldAddr 3), [.tmp 30], none⟩,
       ⟨none, .plain (.store 1), [.tmp 31, .tmp 29], none⟩] [22, 23, 24, 25, 26, 27, 28, 29, 30, 31])
     (.ops [⟨(some 32), .plain .mv, [.tmp 0], none⟩,
       ⟨(some 33), .plain .mv, [.tmp 3], none⟩,
       ⟨(some 34), .plain .mv, [.tmp 0], none⟩,
       ⟨(some 35), .plain .mv, [.tmp 3], none⟩,
       ⟨(some 36), .plain (.indexAddr 5), [.tmp 34, .tmp 35], none⟩,
       ⟨(some 37), .plain (.fieldAddr 4), [.tmp 36], none⟩,
       ⟨(some 38), .plain (.load false 1), [.tmp 37], none⟩,
       ⟨(some 39), .plain (.append 79 2 16), [.lit .nilS, .tmp 38], none⟩,
       ⟨(some 40), .plain (.indexAddr 5), [.tmp 32, .tmp 33], none⟩,
       ⟨(some 41), .plain (.fieldAddr 4), [.tmp 40], none⟩,
       ⟨none, .plain (.store 1), [.tmp 41, .tmp 39], none⟩] [32, 33, 34, 35, 36, 37, 38, 39, 40, 41]))))
    (.ops [⟨(some 10), .plain .mv, [.tmp 3], none⟩,
      ⟨(some 11), .plain (.bin .add), [.tmp 10, .lit (.int .i64 1)], none⟩,
      ⟨(some 3), .plain .mv, [.tmp 11], none⟩] [10, 11]))))))
  (.seq (.ops [⟨(some 42), .plain .mv, [.tmp 0], none⟩,
    ⟨(some 2), .plain .mv, [.tmp 42], none⟩] [42])
  .ret))))
def cr13 : List Res := [(2, none)]
theorem ok13 : FOk Zk.pg.toProgram Zk.imp 13 c13 cr13 Tryz.f13.ntmps := ⟨Tryz.f13, _, Tryz.func13, rfl, by kernel_rfl, by kernel_rfl, by kernel_rfl, rfl⟩

/-- ironbark/ironbarkref34.GivenLists -/
def c14 : SC :=
  (.seq (.ops [⟨(some 2), .plain .mv, [.lit .nilS], none⟩] [])
  (.seq (.ops [⟨(some 4), .plain .mv, [.tmp 0], none⟩,
    ⟨(some 5), .plain (.append 35 1 24), [.lit .nilS, .tmp 4], none⟩,
    ⟨(some 0), .plain .mv, [.tmp 5], none⟩] [4, 5])
  (.seq (.seq (.ops [⟨(some 3), .plain .mv, [.lit (.int .i64 0)], none⟩] [])
  (.block 0
   (.loop
    (.seq (.seq (.ops [⟨(some 6), .plain .mv, [.tmp 3], none⟩,
      ⟨(some 7), .plain .mv, [.tmp 0], none⟩,
      ⟨(some 8), .plain (.len 1), [.tmp 7], none⟩,
      ⟨(some 9), .plain (.bin .lss), [.tmp 6, .tmp 8], none⟩] [6, 7, 8])
    (.cond (.tmp 9)
     .skip
     (.exit 0)))
    (.seq (.block 1
     (.ops [⟨(some 12), .plain .mv, [.tmp 0], none⟩,
       ⟨(some 13), .plain .mv, [.tmp 3], none⟩,
       ⟨(some 14), .plain .mv, [.tmp 0], none⟩,
       ⟨(some 15), .plain .mv, [.tmp 3], none⟩,
       ⟨(some 16), .plain (.indexAddr 1), [.tmp 14, .tmp 15], none⟩,
       ⟨(some 17), .plain (.load false 1), [.tmp 16], none⟩,
       ⟨(some 18), .call 13, [.tmp 17], none⟩,
       ⟨(some 19), .plain (.indexAddr 1), [.tmp 12, .tmp 13], none⟩,
       ⟨none, .plain (.store 1), [.tmp 19, .tmp 18], none⟩] [12, 13, 14, 15, 16, 17, 18, 19]))
    (.ops [⟨(some 10), .plain .mv, [.tmp 3], none⟩,
      ⟨(some 11), .plain (.bin .add), [.tmp 10, .lit (.int .i64 1)], none⟩,
      ⟨(some 3), .plain .mv, [.tmp 11], none⟩] [10, 11]))))))
  (.seq (.ops [⟨(some 20), .plain .mv, [.tmp 0], none⟩,
    ⟨(some 2), .plain .mv, [.tmp 20], none⟩] [20])
  .ret))))
def cr14 : List Res := [(2, none)]
theorem ok14 : FOk Zk.pg.toProgram Zk.imp 14 c14 cr14 Tryz.f14.ntmps := ⟨Tryz.f14, _, Tryz.func14, rfl, by kernel_rfl, by kernel_rfl, by kernel_rfl, rfl⟩

/-- ironbark/ironbarkref34.GivenImage -/
def c12 : SC :=
  (.seq (.ops [⟨(some 1), .plain (.box 5), [.tmp 0], none⟩,
    ⟨(some 2), .plain (.alloc [(.int .i64 0), (.str ⟨#[]⟩), .nilS, .nilS, .nilS]), [], none⟩] [])
  (.seq (.ops [⟨(some 3), .plain (.fieldAddr 2), [.tmp 1], none⟩,
    ⟨(some 4), .plain (.load false 1), [.tmp 3], none⟩,
    ⟨(some 5), .plain (.append 65 2 24), [.lit .nilS, .tmp 4], none⟩,
    ⟨(some 6), .plain (.fieldAddr 2), [.tmp 1], none⟩,
    ⟨none, .plain (.store 1), [.tmp 6, .tmp 5], none⟩] [3, 4, 5, 6])
  (.seq (.ops [⟨(some 7), .plain (.fieldAddr 3), [.tmp 1], none⟩,
    ⟨(some 8), .plain (.load false 1), [.tmp 7], none⟩,
    ⟨(some 9), .plain (.append 79 2 16), [.lit .nilS, .tmp 8], none⟩,
    ⟨(some 10), .plain (.fieldAddr 3), [.tmp 1], none⟩,
    ⟨none, .plain (.store 1), [.tmp 10, .tmp 9], none⟩] [7, 8, 9, 10])
  (.seq (.ops [⟨(some 11), .plain (.fieldAddr 4), [.tmp 1], none⟩,
    ⟨(some 12), .plain (.load false 1), [.tmp 11], none⟩,
    ⟨(some 13), .plain (.append 65 2 24), [.lit .nilS, .tmp 12], none⟩,
    ⟨(some 14), .plain (.fieldAddr 4), [.tmp 1], none⟩,
    ⟨none, .plain (.store 1), [.tmp 14, .tmp 13], none⟩] [11, 12, 13, 14])
  (.seq (.ops [⟨(some 15), .plain (.load true 5), [.tmp 1], none⟩,
    ⟨none, .plain (.store 5), [.tmp 2, .tmp 15], none⟩] [15])
  .ret)))))
def cr12 : List Res := [(2, some (true, 5))]
theorem ok12 : FOk Zk.pg.toProgram Zk.imp 12 c12 cr12 Tryz.f12.ntmps := ⟨Tryz.f12, _, Tryz.func12, rfl, by kernel_rfl, by kernel_rfl, by kernel_rfl, rfl⟩

/-- ironbark/ironbarklaw34.awake -/
def c6 : SC :=
  (.seq (.ops [⟨(some 0), .plain .mv, [.lit (.bool false)], none⟩] [])
  (.seq (.ops [⟨(some 5), .plain (.build [(.str ⟨#[]⟩), (.str ⟨#[]⟩), .nilS, .nilS, .nilS] [(0, 1), (1, 1)]), [.lit (.str ⟨#[65]⟩), .lit (.str ⟨#[97, 98, 99, 100, 101, 102]⟩)], none⟩,
    ⟨(some 6), .plain (.build [(.str ⟨#[]⟩), (.str ⟨#[]⟩), .nilS, .nilS, .nilS] [(0, 1), (1, 1)]), [.lit (.str ⟨#[66]⟩), .lit (.str ⟨#[119, 120, 121, 122]⟩)], none⟩,
    ⟨(some 7), .plain (.buildRow 27 5 2 [(.str ⟨#[]⟩), (.str ⟨#[]⟩), .nilS, .nilS, .nilS] [0, 1]), [.tmp 5, .tmp 6], none⟩,
    ⟨(some 8), .call 21, [.tmp 7, .lit .nilS, .lit (.int .i64 16)], none⟩,
    ⟨(some 4), .plain .mv, [.tmp 8], none⟩,
    ⟨(some 9), .plain (.extract 0), [.tmp 4], none⟩,
    ⟨(some 10), .plain (.extract 1), [.tmp 4], none⟩,
    ⟨(some 11), .plain (.extract 2), [.tmp 4], none⟩,
    ⟨(some 1), .plain (.alloc [(.int .i64 0), (.str ⟨#[]⟩), .nilS, .nilS, .nilS]), [], none⟩,
    ⟨none, .plain (.store 5), [.tmp 1, .tmp 9], none⟩,
    ⟨(some 2), .plain .mv, [.tmp 10], none⟩,
    ⟨(some 3), .plain .mv, [.tmp 11], none⟩] [5, 6, 7, 8, 4, 9, 10, 11])
  (.seq (.ops [⟨(some 12), .plain .mv, [.tmp 2], none⟩,
    ⟨(some 13), .plain (.bin .eql), [.tmp 12, .lit (.int .i64 0)], none⟩,
    ⟨(some 14), .plain .mv, [.tmp 13], none⟩,
    ⟨(some 15), .plain .mv, [.tmp 3], (some (14, true))⟩,
    ⟨(some 16), .plain (.bin .eql), [.tmp 15, .lit (.str ⟨#[]⟩)], (some (14, true))⟩,
    ⟨(some 17), .plain .pick, [.tmp 14, .tmp 16, .lit (.bool false)], none⟩,
    ⟨(some 18), .plain .mv, [.tmp 17], none⟩,
    ⟨(some 19), .plain (.fieldAddr 4), [.tmp 1], (some (18, true))⟩,
    ⟨(some 20), .plain (.load false 1), [.tmp 19], (some (18, true))⟩,
    ⟨(some 21), .plain (.len 1), [.tmp 20], (some (18, true))⟩,
    ⟨(some 22), .plain (.bin .eql), [.tmp 21, .lit (.int .i64 2)], (some (18, true))⟩,
    ⟨(some 23), .plain .pick, [.tmp 18, .tmp 22, .lit (.bool false)], none⟩,
    ⟨(some 24), .plain .mv, [.tmp 23], none⟩,
    ⟨(some 25), .plain (.fieldAddr 4), [.tmp 1], (some (24, true))⟩,
    ⟨(some 26), .plain (.load false 1), [.tmp 25], (some (24, true))⟩,
    ⟨(some 27), .plain (.indexAddr 2), [.tmp 26, .lit (.int .i64 0)], (some (24, true))⟩,
    ⟨(some 28), .plain (.fieldAddr 1), [.tmp 27], (some (24, true))⟩,
    ⟨(some 29), .plain (.load false 1), [.tmp 28], (some (24, true))⟩,
    ⟨(some 30), .plain (.bin .eql), [.tmp 29, .lit (.int .i64 16)], (some (24, true))⟩,
    ⟨(some 31), .plain .pick, [.tmp 24, .tmp 30, .lit (.bool false)], none⟩,
    ⟨(some 32), .plain .mv, [.tmp 31], none⟩,
    ⟨(some 33), .plain (.fieldAddr 4), [.tmp 1], (some (32, true))⟩,
    ⟨(some 34), .plain (.load false 1), [.tmp 33], (some (32, true))⟩,
    ⟨(some 35), .plain (.indexAddr 2), [.tmp 34, .lit (.int .i64 1)], (some (32, true))⟩,
    ⟨(some 36), .plain (.fieldAddr 1), [.tmp 35], (some (32, true))⟩,
    ⟨(some 37), .plain (.load false 1), [.tmp 36], (some (32, true))⟩,
    ⟨(some 38), .plain (.bin .eql), [.tmp 37, .lit (.int .i64 24)], (some (32, true))⟩,
    ⟨(some 39), .plain .pick, [.tmp 32, .tmp 38, .lit (.bool false)], none⟩,
    ⟨(some 40), .plain .mv, [.tmp 39], none⟩,
    ⟨(some 41), .plain (.fieldAddr 1), [.tmp 1], (some (40, true))⟩,
    ⟨(some 42), .plain (.load false 1), [.tmp 41], (some (40, true))⟩,
    ⟨(some 43), .plain (.bin .eql), [.tmp 42, .lit (.str ⟨#[97, 98, 99, 100, 101, 102, 0, 0, 119, 120, 121, 122]⟩)], (some (40, true))⟩,
    ⟨(some 44), .plain .pick, [.tmp 40, .tmp 43, .lit (.bool false)], none⟩,
    ⟨(some 0), .plain .mv, [.tmp 44], none⟩] [12, 13, 14, 15, 16, 17, 18, 19, 20, 21, 22, 23, 24, 25, 26, 27, 28, 29, 30, 31, 32, 33, 34, 35, 36, 37, 38, 39, 40, 41, 42, 43, 44])
  .ret)))
def cr6 : List Res := [(0, none)]
theorem ok6 : FOk Zk.pg.toProgram Zk.imp 6 c6 cr6 Tryz.f6.ntmps := ⟨Tryz.f6, _, Tryz.func6, rfl, by kernel_rfl, by kernel_rfl, by kernel_rfl, rfl⟩

end Go.Pm

/- ZkS3: code, resolved. Written by gen.py out of what ShowSC.lean printed. -/
namespace Go.Pm
open Go Go.Proofs

/-- ironbark/ironbarkref34.all -/
def c41 : SC :=
  (.seq (.ops [⟨(some 4), .plain .mv, [.lit (.bool false)], none⟩] [])
  (.seq (.seq (.ops [⟨(some 5), .plain .mv, [.lit (.int .i64 0)], none⟩] [])
  (.block 0
   (.loop
    (.seq (.seq (.ops [⟨(some 8), .plain .mv, [.tmp 5], none⟩,
      ⟨(some 9), .plain .mv, [.tmp 0], none⟩,
      ⟨(some 10), .plain (.len 1), [.tmp 9], none⟩,
      ⟨(some 11), .plain (.bin .lss), [.tmp 8, .tmp 10], none⟩] [8, 9, 10])
    (.cond (.tmp 11)
     .skip
     (.exit 0)))
    (.seq (.block 1
     (.seq (.ops [⟨(some 14), .plain .mv, [.tmp 0], none⟩,
       ⟨(some 15), .plain .mv, [.tmp 5], none⟩,
       ⟨(some 16), .plain (.indexAddr 5), [.tmp 14, .tmp 15], none⟩,
       ⟨(some 17), .plain (.load true 5), [.tmp 16], none⟩,
       ⟨(some 18), .call 29, [.tmp 17], none⟩,
       ⟨(some 19), .plain (.un .not), [.tmp 18], none⟩] [14, 15, 16, 17, 18])
     (.cond (.tmp 19)
      (.seq (.ops [⟨(some 4), .plain .mv, [.lit (.bool false)], none⟩] [])
      .ret)
      .skip)))
    (.ops [⟨(some 12), .plain .mv, [.tmp 5], none⟩,
      ⟨(some 13), .plain (.bin .add), [.tmp 12, .lit (.int .i64 1)], none⟩,
      ⟨(some 5), .plain .mv, [.tmp 13], none⟩] [12, 13]))))))
  (.seq (.seq (.ops [⟨(some 6), .plain .mv, [.lit (.int .i64 0)], none⟩] [])
  (.block 2
   (.loop
    (.seq (.seq (.ops [⟨(some 20), .plain .mv, [.tmp 6], none⟩,
      ⟨(some 21), .plain .mv, [.tmp 1], none⟩,
      ⟨(some 22), .plain (.len 1), [.tmp 21], none⟩,
      ⟨(some 23), .plain (.bin .lss), [.tmp 20, .tmp 22], none⟩] [20, 21, 22])
    (.cond (.tmp 23)
     .skip
     (.exit 2)))
    (.seq (.block 3
     (.seq (.ops [⟨(some 7), .plain .mv, [.lit (.int .i64 0)], none⟩] [])
     (.block 4
      (.loop
       (.seq (.seq (.ops [⟨(some 26), .plain .mv, [.tmp 7], none⟩,
         ⟨(some 27), .plain .mv, [.tmp 1], none⟩,
         ⟨(some 28), .plain .mv, [.tmp 6], none⟩,
         ⟨(some 29), .plain (.indexAddr 1), [.tmp 27, .tmp 28], none⟩,
         ⟨(some 30), .plain (.load false 1), [.tmp 29], none⟩,
         ⟨(some 31), .plain (.len 1), [.tmp 30], none⟩,
         ⟨(some 32), .plain (.bin .lss), [.tmp 26, .tmp 31], none⟩] [26, 27, 28, 29, 30, 31])
       (.cond (.tmp 32)
        .skip
        (.exit 4)))
       (.seq (.block 5
        (.seq (.ops [⟨(some 35), .plain .mv, [.tmp 1], none⟩,
          ⟨(some 36), .plain .mv, [.tmp 6], none⟩,
          ⟨(some 37), .plain (.indexAddr 1), [.tmp 35, .tmp 36], none⟩,
          ⟨(some 38), .plain (.load false 1), [.tmp 37], none⟩,
          ⟨(some 39), .plain .mv, [.tmp 7], none⟩,
          ⟨(some 40), .plain (.indexAddr 5), [.tmp 38, .tmp 39], none⟩,
          ⟨(some 41), .plain (.load true 5), [.tmp 40], none⟩,
          ⟨(some 42), .call 29, [.tmp 41], none⟩,
          ⟨(some 43), .plain (.un .not), [.tmp 42], none⟩] [35, 36, 37, 38, 39, 40, 41, 42])
        (.cond (.tmp 43)
         (.seq (.ops [⟨(some 4), .plain .mv, [.lit (.bool false)], none⟩] [])
         .ret)
         .skip)))
       (.ops [⟨(some 33), .plain .mv, [.tmp 7], none⟩,
         ⟨(some 34), .plain (.bin .add), [.tmp 33, .lit (.int .i64 1)], none⟩,
         ⟨(some 7), .plain .mv, [.tmp 34], none⟩] [33, 34])))))))
    (.ops [⟨(some 24), .plain .mv, [.tmp 6], none⟩,
      ⟨(some 25), .plain (.bin .add), [.tmp 24, .lit (.int .i64 1)], none⟩,
      ⟨(some 6), .plain .mv, [.tmp 25], none⟩] [24, 25]))))))
  (.seq (.ops [⟨(some 4), .plain .mv, [.lit (.bool true)], none⟩] [])
  .ret))))
def cr41 : List Res := [(4, none)]
theorem ok41 : FOk Zk.pg.toProgram Zk.imp 41 c41 cr41 Tryz.f41.ntmps := ⟨Tryz.f41, _, Tryz.func41, rfl, by kernel_rfl, by kernel_rfl, by kernel_rfl, rfl⟩

/-- ironbark/ironbarkref34.defs -/
def c30 : SC :=
  (.seq (.ops [⟨(some 4), .plain .mv, [.lit (.bool false)], none⟩] [])
  (.seq (.seq (.ops [⟨(some 6), .plain .mv, [.tmp 0], none⟩,
    ⟨(some 7), .plain (.len 1), [.tmp 6], none⟩,
    ⟨(some 8), .plain .mv, [.tmp 1], none⟩,
    ⟨(some 9), .plain (.len 1), [.tmp 8], none⟩,
    ⟨(some 10), .plain (.bin .neq), [.tmp 7, .tmp 9], none⟩] [6, 7, 8, 9])
  (.cond (.tmp 10)
   (.seq (.ops [⟨(some 4), .plain .mv, [.lit (.bool false)], none⟩] [])
   .ret)
   .skip))
  (.seq (.seq (.ops [⟨(some 5), .plain .mv, [.lit (.int .i64 0)], none⟩] [])
  (.block 0
   (.loop
    (.seq (.seq (.ops [⟨(some 11), .plain .mv, [.tmp 5], none⟩,
      ⟨(some 12), .plain .mv, [.tmp 0], none⟩,
      ⟨(some 13), .plain (.len 1), [.tmp 12], none⟩,
      ⟨(some 14), .plain (.bin .lss), [.tmp 11, .tmp 13], none⟩] [11, 12, 13])
    (.cond (.tmp 14)
     .skip
     (.exit 0)))
    (.seq (.block 1
     (.seq (.draw (.step ⟨(some 17), .plain .mv, [.tmp 0], none⟩
       (.step ⟨(some 18), .plain .mv, [.tmp 5], none⟩
       (.step ⟨(some 19), .plain (.indexAddr 2), [.tmp 17, .tmp 18], none⟩
       (.step ⟨(some 20), .plain (.load true 2), [.tmp 19], none⟩
       (.step ⟨(some 21), .plain .mv, [.tmp 1], none⟩
       (.step ⟨(some 22), .plain .mv, [.tmp 5], none⟩
       (.step ⟨(some 23), .plain (.indexAddr 2), [.tmp 21, .tmp 22], none⟩
       (.step ⟨(some 24), .plain (.load true 2), [.tmp 23], none⟩
       (.step ⟨(some 25), .plain (.eqAgg true [.str, .int]), [.tmp 20, .tmp 24], none⟩
       .done))))))))) [17, 18, 19, 20, 21, 22, 23, 24])
     (.cond (.tmp 25)
      (.seq (.ops [⟨(some 4), .plain .mv, [.lit (.bool false)], none⟩] [])
      .ret)
      .skip)))
    (.ops [⟨(some 15), .plain .mv, [.tmp 5], none⟩,
      ⟨(some 16), .plain (.bin .add), [.tmp 15, .lit (.int .i64 1)], none⟩,
      ⟨(some 5), .plain .mv, [.tmp 16], none⟩] [15, 16]))))))
  (.seq (.ops [⟨(some 4), .plain .mv, [.lit (.bool true)], none⟩] [])
  .ret))))
def cr30 : List Res := [(4, none)]
theorem ok30 : FOk Zk.pg.toProgram Zk.imp 30 c30 cr30 Tryz.f30.ntmps := ⟨Tryz.f30, _, Tryz.func30, rfl, by kernel_rfl, by kernel_rfl, by kernel_rfl, rfl⟩

/-- ironbark/ironbarkref34.lines -/
def c31 : SC :=
  (.seq (.ops [⟨(some 4), .plain .mv, [.lit (.bool false)], none⟩] [])
  (.seq (.seq (.ops [⟨(some 6), .plain .mv, [.tmp 0], none⟩,
    ⟨(some 7), .plain (.len 1), [.tmp 6], none⟩,
    ⟨(some 8), .plain .mv, [.tmp 1], none⟩,
    ⟨(some 9), .plain (.len 1), [.tmp 8], none⟩,
    ⟨(some 10), .plain (.bin .neq), [.tmp 7, .tmp 9], none⟩] [6, 7, 8, 9])
  (.cond (.tmp 10)
   (.seq (.ops [⟨(some 4), .plain .mv, [.lit (.bool false)], none⟩] [])
   .ret)
   .skip))
  (.seq (.seq (.ops [⟨(some 5), .plain .mv, [.lit (.int .i64 0)], none⟩] [])
  (.block 0
   (.loop
    (.seq (.seq (.ops [⟨(some 11), .plain .mv, [.tmp 5], none⟩,
      ⟨(some 12), .plain .mv, [.tmp 0], none⟩,
      ⟨(some 13), .plain (.len 1), [.tmp 12], none⟩,
      ⟨(some 14), .plain (.bin .lss), [.tmp 11, .tmp 13], none⟩] [11, 12, 13])
    (.cond (.tmp 14)
     .skip
     (.exit 0)))
    (.seq (.block 1
     (.seq (.draw (.step ⟨(some 17), .plain .mv, [.tmp 0], none⟩
       (.step ⟨(some 18), .plain .mv, [.tmp 5], none⟩
       (.step ⟨(some 19), .plain (.indexAddr 2), [.tmp 17, .tmp 18], none⟩
       (.step ⟨(some 20), .plain (.load true 2), [.tmp 19], none⟩
       (.step ⟨(some 21), .plain .mv, [.tmp 1], none⟩
       (.step ⟨(some 22), .plain .mv, [.tmp 5], none⟩
       (.step ⟨(some 23), .plain (.indexAddr 2), [.tmp 21, .tmp 22], none⟩
       (.step ⟨(some 24), .plain (.load true 2), [.tmp 23], none⟩
       (.step ⟨(some 25), .plain (.eqAgg true [.int, .int]), [.tmp 20, .tmp 24], none⟩
       .done))))))))) [17, 18, 19, 20, 21, 22, 23, 24])
     (.cond (.tmp 25)
      (.seq (.ops [⟨(some 4), .plain .mv, [.lit (.bool false)], none⟩] [])
      .ret)
      .skip)))
    (.ops [⟨(some 15), .plain .mv, [.tmp 5], none⟩,
      ⟨(some 16), .plain (.bin .add), [.tmp 15, .lit (.int .i64 1)], none⟩,
      ⟨(some 5), .plain .mv, [.tmp 16], none⟩] [15, 16]))))))
  (.seq (.ops [⟨(some 4), .plain .mv, [.lit (.bool true)], none⟩] [])
  .ret))))
def cr31 : List Res := [(4, none)]
theorem ok31 : FOk Zk.pg.toProgram Zk.imp 31 c31 cr31 Tryz.f31.ntmps := ⟨Tryz.f31, _, Tryz.func31, rfl, by kernel_rfl, by kernel_rfl, by kernel_rfl, rfl⟩

/-- ironbark/ironbarkref34.Image -/
def c40 : SC :=
  (.seq (.ops [⟨(some 1), .plain (.box 5), [.tmp 0], none⟩,
    ⟨(some 2), .plain .mv, [.lit (.bool false)], none⟩] [])
  (.seq (.ops [⟨(some 7), .plain (.fieldAddr 0), [.tmp 1], none⟩,
    ⟨(some 8), .plain (.load false 1), [.tmp 7], none⟩,
    ⟨(some 9), .plain (.fieldAddr 1), [.tmp 1], none⟩,
    ⟨(some 10), .plain (.load false 1), [.tmp 9], none⟩,
    ⟨(some 11), .plain (.len 0), [.tmp 10], none⟩,
    ⟨(some 12), .plain (.bin .add), [.tmp 8, .tmp 11], none⟩,
    ⟨(some 3), .plain .mv, [.tmp 12], none⟩] [7, 8, 9, 10, 11, 12])
  (.seq (.seq (.ops [⟨(some 13), .plain (.fieldAddr 0), [.tmp 1], none⟩,
    ⟨(some 14), .plain (.load false 1), [.tmp 13], none⟩,
    ⟨(some 15), .call 89, [.tmp 14], none⟩,
    ⟨(some 16), .plain (.un .not), [.tmp 15], none⟩,
    ⟨(some 17), .plain .mv, [.tmp 16], none⟩,
    ⟨(some 18), .plain .mv, [.tmp 3], (some (17, false))⟩,
    ⟨(some 19), .plain (.bin .gtr), [.tmp 18, .lit (.int .i64 65536)], (some (17, false))⟩,
    ⟨(some 20), .plain .pick, [.tmp 17, .lit (.bool true), .tmp 19], none⟩] [13, 14, 15, 16, 17, 18, 19])
  (.cond (.tmp 20)
   (.seq (.ops [⟨(some 2), .plain .mv, [.lit (.bool false)], none⟩] [])
   .ret)
   .skip))
  (.seq (.seq (.ops [⟨(some 4), .plain .mv, [.lit (.int .i64 0)], none⟩] [])
  (.block 0
   (.loop
    (.seq (.seq (.ops [⟨(some 21), .plain .mv, [.tmp 4], none⟩,
      ⟨(some 22), .plain (.fieldAddr 2), [.tmp 1], none⟩,
      ⟨(some 23), .plain (.load false 1), [.tmp 22], none⟩,
      ⟨(some 24), .plain (.len 1), [.tmp 23], none⟩,
      ⟨(some 25), .plain (.bin .lss), [.tmp 21, .tmp 24], none⟩] [21, 22, 23, 24])
    (.cond (.tmp 25)
     .skip
     (.exit 0)))
    (.seq (.block 1
     (.seq (.draw (.step ⟨(some 28), .plain (.fieldAddr 2), [.tmp 1], none⟩
       (.step ⟨(some 29), .plain (.load false 1), [.tmp 28], none⟩
       (.step ⟨(some 30), .plain .mv, [.tmp 4], none⟩
       (.step ⟨(some 31), .plain (.indexAddr 2), [.tmp 29, .tmp 30], none⟩
       (.step ⟨(some 32), .plain (.fieldAddr 0), [.tmp 31], none⟩
       (.step ⟨(some 33), .plain (.load false 1), [.tmp 32], none⟩
       (.step ⟨(some 34), .call 85, [.tmp 33], none⟩
       (.step ⟨(some 35), .plain (.un .not), [.tmp 34], none⟩
       (.step ⟨(some 36), .plain .mv, [.tmp 35], none⟩
       (.step ⟨(some 37), .plain (.fieldAddr 2), [.tmp 1], (some (36, false))⟩
       (.step ⟨(some 38), .plain (.load false 1), [.tmp 37], (some (36, false))⟩
       (.step ⟨(some 39), .plain .mv, [.tmp 4], (some (36, false))⟩
       (.step ⟨(some 40), .plain (.indexAddr 2), [.tmp 38, .tmp 39], (some (36, false))⟩
       (.step ⟨(some 41), .plain (.fieldAddr 1), [.tmp 40], (some (36, false))⟩
       (.step ⟨(some 42), .plain (.load false 1), [.tmp 41], (some (36, false))⟩
       (.step ⟨(some 43), .plain (.fieldAddr 0), [.tmp 1], (some (36, false))⟩
       (.step ⟨(some 44), .plain (.load false 1), [.tmp 43], (some (36, false))⟩
       (.step ⟨(some 45), .plain .mv, [.tmp 3], (some (36, false))⟩
       (.step ⟨(some 46), .call 86, [.tmp 42, .tmp 44, .tmp 45], (some (36, false))⟩
       (.step ⟨(some 47), .plain (.un .not), [.tmp 46], (some (36, false))⟩
       (.step ⟨(some 48), .plain .pick, [.tmp 36, .lit (.bool true), .tmp 47], none⟩
       (.step ⟨(some 49), .plain .mv, [.tmp 48], none⟩
       (.step ⟨(some 50), .plain .mv, [.tmp 4], (some (49, false))⟩
       (.step ⟨(some 51), .plain (.bin .gtr), [.tmp 50, .lit (.int .i64 0)], (some (49, false))⟩
       (.step ⟨(some 52), .plain .mv, [.tmp 51], (some (49, false))⟩
       (.step ⟨(some 53), .plain (.fieldAddr 2), [.tmp 1], (some (52, true))⟩
       (.step ⟨(some 54), .plain (.load false 1), [.tmp 53], (some (52, true))⟩
       (.step ⟨(some 55), .plain .mv, [.tmp 4], (some (52, true))⟩
       (.step ⟨(some 56), .plain (.bin .sub), [.tmp 55, .lit (.int .i64 1)], (some (52, true))⟩
       (.step ⟨(some 57), .plain (.indexAddr 2), [.tmp 54, .tmp 56], (some (52, true))⟩
       (.step ⟨(some 58), .plain (.fieldAddr 0), [.tmp 57], (some (52, true))⟩
       (.step ⟨(some 59), .plain (.load false 1), [.tmp 58], (some (52, true))⟩
       (.step ⟨(some 60), .plain (.fieldAddr 2), [.tmp 1], (some (52, true))⟩
       (.step ⟨(some 61), .plain (.load false 1), [.tmp 60], (some (52, true))⟩
       (.step ⟨(some 62), .plain .mv, [.tmp 4], (some (52, true))⟩
       (.step ⟨(some 63), .plain (.indexAddr 2), [.tmp 61, .tmp 62], (some (52, true))⟩
       (.step ⟨(some 64), .plain (.fieldAddr 0), [.tmp 63], (some (52, true))⟩
       (.step ⟨(some 65), .plain (.load false 1), [.tmp 64], (some (52, true))⟩
       (.step ⟨(some 66), .plain (.bin .geq), [.tmp 59, .tmp 65], (some (52, true))⟩
       (.step ⟨(some 67), .plain .pick, [.tmp 52, .tmp 66, .lit (.bool false)], (some (49, false))⟩
       (.step ⟨(some 68), .plain .pick, [.tmp 49, .lit (.bool true), .tmp 67], none⟩
       .done))))))))))))))))))))))))))))))))))))))))) [28, 29, 30, 31, 32, 33, 34, 35, 36, 37, 38, 39, 40, 41, 42, 43, 44, 45, 46, 47, 48, 49, 50, 51, 52, 53, 54, 55, 56, 57, 58, 59, 60, 61, 62, 63, 64, 65, 66, 67])
     (.cond (.tmp 68)
      (.seq (.ops [⟨(some 2), .plain .mv, [.lit (.bool false)], none⟩] [])
      .ret)
      .skip)))
    (.ops [⟨(some 26), .plain .mv, [.tmp 4], none⟩,
      ⟨(some 27), .plain (.bin .add), [.tmp 26, .lit (.int .i64 1)], none⟩,
      ⟨(some 4), .plain .mv, [.tmp 27], none⟩] [26, 27]))))))
  (.seq (.seq (.ops [⟨(some 5), .plain .mv, [.lit (.int .i64 0)], none⟩] [])
  (.block 2
   (.loop
    (.seq (.seq (.ops [⟨(some 69), .plain .mv, [.tmp 5], none⟩,
      ⟨(some 70), .plain (.fieldAddr 4), [.tmp 1], none⟩,
      ⟨(some 71), .plain (.load false 1), [.tmp 70], none⟩,
      ⟨(some 72), .plain (.len 1), [.tmp 71], none⟩,
      ⟨(some 73), .plain (.bin .lss), [.tmp 69, .tmp 72], none⟩] [69, 70, 71, 72])
    (.cond (.tmp 73)
     .skip
     (.exit 2)))
    (.seq (.block 3
     (.seq (.draw (.step ⟨(some 76), .plain (.fieldAddr 4), [.tmp 1], none⟩
       (.step ⟨(some 77), .plain (.load false 1), [.tmp 76], none⟩
       (.step ⟨(some 78), .plain .mv, [.tmp 5], none⟩
       (.step ⟨(some 79), .plain (.indexAddr 2), [.tmp 77, .tmp 78], none⟩
       (.step ⟨(some 80), .plain (.fieldAddr 0), [.tmp 79], none⟩
       (.step ⟨(some 81), .plain (.load false 1), [.tmp 80], none⟩
       (.step ⟨(some 82), .call 85, [.tmp 81], none⟩
       (.step ⟨(some 83), .plain (.un .not), [.tmp 82], none⟩
       (.step ⟨(some 84), .plain .mv, [.tmp 83], none⟩
       (.step ⟨(some 85), .plain (.fieldAddr 4), [.tmp 1], (some (84, false))⟩
       (.step ⟨(some 86), .plain (.load false 1), [.tmp 85], (some (84, false))⟩
       (.step ⟨(some 87), .plain .mv, [.tmp 5], (some (84, false))⟩
       (.step ⟨(some 88), .plain (.indexAddr 2), [.tmp 86, .tmp 87], (some (84, false))⟩
       (.step ⟨(some 89), .plain (.fieldAddr 1), [.tmp 88], (some (84, false))⟩
       (.step ⟨(some 90), .plain (.load false 1), [.tmp 89], (some (84, false))⟩
       (.step ⟨(some 91), .plain (.fieldAddr 0), [.tmp 1], (some (84, false))⟩
       (.step ⟨(some 92), .plain (.load false 1), [.tmp 91], (some (84, false))⟩
       (.step ⟨(some 93), .plain .mv, [.tmp 3], (some (84, false))⟩
       (.step ⟨(some 94), .call 86, [.tmp 90, .tmp 92, .tmp 93], (some (84, false))⟩
       (.step ⟨(some 95), .plain (.un .not), [.tmp 94], (some (84, false))⟩
       (.step ⟨(some 96), .plain .pick, [.tmp 84, .lit (.bool true), .tmp 95], none⟩
       (.step ⟨(some 97), .plain .mv, [.tmp 96], none⟩
       (.step ⟨(some 98), .plain (.fieldAddr 4), [.tmp 1], (some (97, false))⟩
       (.step ⟨(some 99), .plain (.load false 1), [.tmp 98], (some (97, false))⟩
       (.step ⟨(some 100), .plain .mv, [.tmp 5], (some (97, false))⟩
       (.step ⟨(some 101), .plain (.indexAddr 2), [.tmp 99, .tmp 100], (some (97, false))⟩
       (.step ⟨(some 102), .plain (.fieldAddr 1), [.tmp 101], (some (97, false))⟩
       (.step ⟨(some 103), .plain (.load false 1), [.tmp 102], (some (97, false))⟩
       (.step ⟨(some 104), .plain (.bin .rem), [.tmp 103, .lit (.int .i64 8)], (some (97, false))⟩
       (.step ⟨(some 105), .plain (.bin .neq), [.tmp 104, .lit (.int .i64 0)], (some (97, false))⟩
       (.step ⟨(some 106), .plain .pick, [.tmp 97, .lit (.bool true), .tmp 105], none⟩
       (.step ⟨(some 107), .plain .mv, [.tmp 106], none⟩
       (.step ⟨(some 108), .plain .mv, [.tmp 5], (some (107, false))⟩
       (.step ⟨(some 109), .plain (.bin .gtr), [.tmp 108, .lit (.int .i64 0)], (some (107, false))⟩
       (.step ⟨(some 110), .plain .mv, [.tmp 109], (some (107, false))⟩
       (.step ⟨(some 111), .plain (.fieldAddr 4), [.tmp 1], (some (110, true))⟩
       (.step ⟨(some 112), .plain (.load false 1), [.tmp 111], (some (110, true))⟩
       (.step ⟨(some 113), .plain .mv, [.tmp 5], (some (110, true))⟩
       (.step ⟨(some 114), .plain (.bin .sub), [.tmp 113, .lit (.int .i64 1)], (some (110, true))⟩
       (.step ⟨(some 115), .plain (.indexAddr 2), [.tmp 112, .tmp 114], (some (110, true))⟩
       (.step ⟨(some 116), .plain (.fieldAddr 1), [.tmp 115], (some (110, true))⟩
       (.step ⟨(some 117), .plain (.load false 1), [.tmp 116], (some (110, true))⟩
       (.step ⟨(some 118), .plain (.fieldAddr 4), [.tmp 1], (some (110, true))⟩
       (.step ⟨(some 119), .plain (.load false 1), [.tmp 118], (some (110, true))⟩
       (.step ⟨(some 120), .plain .mv, [.tmp 5], (some (110, true))⟩
       (.step ⟨(some 121), .plain (.indexAddr 2), [.tmp 119, .tmp 120], (some (110, true))⟩
       (.step ⟨(some 122), .plain (.fieldAddr 1), [.tmp 121], (some (110, true))⟩
       (.step ⟨(some 123), .plain (.load false 1), [.tmp 122], (some (110, true))⟩
       (.step ⟨(some 124), .plain (.bin .gtr), [.tmp 117, .tmp 123], (some (110, true))⟩
       (.step ⟨(some 125), .plain .pick, [.tmp 110, .tmp 124, .lit (.bool false)], (some (107, false))⟩
       (.step ⟨(some 126), .plain .pick, [.tmp 107, .lit (.bool true), .tmp 125], none⟩
       .done))))))))))))))))))))))))))))))))))))))))))))))))))) [76, 77, 78, 79, 80, 81, 82, 83, 84, 85, 86, 87, 88, 89, 90, 91, 92, 93, 94, 95, 96, 97, 98, 99, 100, 101, 102, 103, 104, 105, 106, 107, 108, 109, 110, 111, 112, 113, 114, 115, 116, 117, 118, 119, 120, 121, 122, 123, 124, 125])
     (.cond (.tmp 126)
      (.seq (.ops [⟨(some 2), .plain .mv, [.lit (.bool false)], none⟩] [])
      .ret)
      .skip)))
    (.ops [⟨(some 74), .plain .mv, [.tmp 5], none⟩,
      ⟨(some 75), .plain (.bin .add), [.tmp 74, .lit (.int .i64 1)], none⟩,
      ⟨(some 5), .plain .mv, [.tmp 75], none⟩] [74, 75]))))))
  (.seq (.seq (.ops [⟨(some 6), .plain .mv, [.lit (.int .i64 0)], none⟩] [])
  (.block 4
   (.loop
    (.seq (.seq (.ops [⟨(some 127), .plain .mv, [.tmp 6], none⟩,
      ⟨(some 128), .plain (.fieldAddr 3), [.tmp 1], none⟩,
      ⟨(some 129), .plain (.load false 1), [.tmp 128], none⟩,
      ⟨(some 130), .plain (.len 1), [.tmp 129], none⟩,
      ⟨(some 131), .plain (.bin .lss), [.tmp 127, .tmp 130], none⟩] [127, 128, 129, 130])
    (.cond (.tmp 131)
     .skip
     (.exit 4)))
    (.seq (.block 5
     (.seq (.draw (.step ⟨(some 134), .plain (.fieldAddr 3), [.tmp 1], none⟩
       (.step ⟨(some 135), .plain (.load false 1), [.tmp 134], none⟩
       (.step ⟨(some 136), .plain .mv, [.tmp 6], none⟩
       (.step ⟨(some 137), .plain (.indexAddr 2), [.tmp 135, .tmp 136], none⟩
       (.step ⟨(some 138), .plain (.fieldAddr 0), [.tmp 137], none⟩
       (.step ⟨(some 139), .plain (.load false 1), [.tmp 138], none⟩
       (.step ⟨(some 140), .plain (.fieldAddr 0), [.tmp 1], none⟩
       (.step ⟨(some 141), .plain (.load false 1), [.tmp 140], none⟩
       (.step ⟨(some 142), .plain .mv, [.tmp 3], none⟩
       (.step ⟨(some 143), .call 86, [.tmp 139, .tmp 141, .tmp 142], none⟩
       (.step ⟨(some 144), .plain (.un .not), [.tmp 143], none⟩
       (.step ⟨(some 145), .plain .mv, [.tmp 144], none⟩
       (.step ⟨(some 146), .plain .mv, [.tmp 6], (some (145, false))⟩
       (.step ⟨(some 147), .plain (.bin .gtr), [.tmp 146, .lit (.int .i64 0)], (some (145, false))⟩
       (.step ⟨(some 148), .plain .mv, [.tmp 147], (some (145, false))⟩
       (.step ⟨(some 149), .plain (.fieldAddr 3), [.tmp 1], (some (148, true))⟩
       (.step ⟨(some 150), .plain (.load false 1), [.tmp 149], (some (148, true))⟩
       (.step ⟨(some 151), .plain .mv, [.tmp 6], (some (148, true))⟩
       (.step ⟨(some 152), .plain (.bin .sub), [.tmp 151, .lit (.int .i64 1)], (some (148, true))⟩
       (.step ⟨(some 153), .plain (.indexAddr 2), [.tmp 150, .tmp 152], (some (148, true))⟩
       (.step ⟨(some 154), .plain (.fieldAddr 0), [.tmp 153], (some (148, true))⟩
       (.step ⟨(some 155), .plain (.load false 1), [.tmp 154], (some (148, true))⟩
       (.step ⟨(some 156), .plain (.fieldAddr 3), [.tmp 1], (some (148, true))⟩
       (.step ⟨(some 157), .plain (.load false 1), [.tmp 156], (some (148, true))⟩
       (.step ⟨(some 158), .plain .mv, [.tmp 6], (some (148, true))⟩
       (.step ⟨(some 159), .plain (.indexAddr 2), [.tmp 157, .tmp 158], (some (148, true))⟩
       (.step ⟨(some 160), .plain (.fieldAddr 0), [.tmp 159], (some (148, true))⟩
       (.step ⟨(some 161), .plain (.load false 1), [.tmp 160], (some (148, true))⟩
       (.step ⟨(some 162), .plain (.bin .geq), [.tmp 155, .tmp 161], (some (148, true))⟩
       (.step ⟨(some 163), .plain .pick, [.tmp 148, .tmp 162, .lit (.bool false)], (some (145, false))⟩
       (.step ⟨(some 164), .plain .pick, [.tmp 145, .lit (.bool true), .tmp 163], none⟩
       .done))))))))))))))))))))))))))))))) [134, 135, 136, 137, 138, 139, 140, 141, 142, 143, 144, 145, 146, 147, 148, 149, 150, 151, 152, 153, 154, 155, 156, 157, 158, 159, 160, 161, 162, 163])
     (.cond (.tmp 164)
      (.seq (.ops [⟨(some 2), .plain .mv, [.lit (.bool false)], none⟩] [])
      .ret)
      .skip)))
    (.ops [⟨(some 132), .plain .mv, [.tmp 6], none⟩,
      ⟨(some 133), .plain (.bin .add), [.tmp 132, .lit (.int .i64 1)], none⟩,
      ⟨(some 6), .plain .mv, [.tmp 133], none⟩] [132, 133]))))))
  (.seq (.ops [⟨(some 2), .plain .mv, [.lit (.bool true)], none⟩] [])
  .ret)))))))
def cr40 : List Res := [(2, none)]
theorem ok40 : FOk Zk.pg.toProgram Zk.imp 40 c40 cr40 Tryz.f40.ntmps := ⟨Tryz.f40, _, Tryz.func40, rfl, by kernel_rfl, by kernel_rfl, by kernel_rfl, rfl⟩

/-- ironbark/ironbarkref34.Defs -/
def c130 : SC :=
  (.seq (.ops [⟨(some 1), .plain (.box 5), [.tmp 0], none⟩,
    ⟨(some 2), .plain .mv, [.lit .nilS], none⟩] [])
  (.seq (.ops [⟨(some 5), .plain (.fieldAddr 2), [.tmp 1], none⟩,
    ⟨(some 6), .plain (.load false 1), [.tmp 5], none⟩,
    ⟨(some 7), .plain (.append 65 2 24), [.lit .nilS, .tmp 6], none⟩,
    ⟨(some 3), .plain .mv, [.tmp 7], none⟩] [5, 6, 7])
  (.seq (.seq (.ops [⟨(some 4), .plain .mv, [.lit (.int .i64 0)], none⟩] [])
  (.block 0
   (.loop
    (.seq (.seq (.ops [⟨(some 8), .plain .mv, [.tmp 4], none⟩,
      ⟨(some 9), .plain .mv, [.tmp 3], none⟩,
      ⟨(some 10), .plain (.len 1), [.tmp 9], none⟩,
      ⟨(some 11), .plain (.bin .lss), [.tmp 8, .tmp 10], none⟩] [8, 9, 10])
    (.cond (.tmp 11)
     .skip
     (.exit 0)))
    (.seq (.block 1
     (.seq (.draw (.step ⟨(some 14), .plain .mv, [.tmp 3], none⟩
       (.step ⟨(some 15), .plain .mv, [.tmp 4], none⟩
       (.step ⟨(some 16), .plain (.indexAddr 2), [.tmp 14, .tmp 15], none⟩
       (.step ⟨(some 17), .plain (.fieldAddr 0), [.tmp 16], none⟩
       (.step ⟨(some 18), .plain (.load false 1), [.tmp 17], none⟩
       (.step ⟨(some 19), .plain (.fieldAddr 0), [.tmp 1], none⟩
       (.step ⟨(some 20), .plain (.load false 1), [.tmp 19], none⟩
       (.step ⟨(some 21), .plain (.bin .eql), [.tmp 18, .tmp 20], none⟩
       .done)))))))) [14, 15, 16, 17, 18, 19, 20])
     (.cond (.tmp 21)
      (.seq (.ops [⟨(some 22), .plain .mv, [.tmp 3], none⟩,
        ⟨(some 2), .plain .mv, [.tmp 22], none⟩] [22])
      .ret)
      .skip)))
    (.ops [⟨(some 12), .plain .mv, [.tmp 4], none⟩,
      ⟨(some 13), .plain (.bin .add), [.tmp 12, .lit (.int .i64 1)], none⟩,
      ⟨(some 4), .plain .mv, [.tmp 13], none⟩] [12, 13]))))))
  (.seq (.ops [⟨(some 23), .plain .mv, [.tmp 3], none⟩,
    ⟨(some 24), .plain (.fieldAddr 0), [.tmp 1], none⟩,
    ⟨(some 25), .plain (.load false 1), [.tmp 24], none⟩,
    ⟨(some 26), .plain (.build [(.str ⟨#[]⟩), (.int .i64 0)] [(0, 1)]), [.tmp 25], none⟩,
    ⟨(some 27), .plain (.buildRow 65 2 1 [(.str ⟨#[]⟩), (.int .i64 0)] [0]), [.tmp 26], none⟩,
    ⟨(some 28), .plain (.append 65 2 24), [.tmp 23, .tmp 27], none⟩,
    ⟨(some 2), .plain .mv, [.tmp 28], none⟩] [23, 24, 25, 26, 27, 28])
  .ret))))
def cr130 : List Res := [(2, none)]
theorem ok130 : FOk Zk.pg.toProgram Zk.imp 130 c130 cr130 Tryz.f130.ntmps := ⟨Tryz.f130, _, Tryz.func130, rfl, by kernel_rfl, by kernel_rfl, by kernel_rfl, rfl⟩

/-- ironbark/ironbarkref34.outer -/
def c127 : SC :=
  (.seq (.ops [⟨(some 4), .plain .mv, [.lit (.int .i64 0)], none⟩,
    ⟨(some 5), .plain .mv, [.lit (.bool false)], none⟩] [])
  (.seq (.seq (.ops [⟨(some 6), .plain .mv, [.lit (.int .i64 0)], none⟩] [])
  (.block 0
   (.loop
    (.seq (.seq (.ops [⟨(some 7), .plain .mv, [.tmp 6], none⟩,
      ⟨(some 8), .plain .mv, [.tmp 0], none⟩,
      ⟨(some 9), .plain (.len 1), [.tmp 8], none⟩,
      ⟨(some 10), .plain (.bin .lss), [.tmp 7, .tmp 9], none⟩] [7, 8, 9])
    (.cond (.tmp 10)
     .skip
     (.exit 0)))
    (.seq (.block 1
     (.seq (.ops [⟨(some 13), .plain .mv, [.tmp 0], none⟩,
       ⟨(some 14), .plain .mv, [.tmp 6], none⟩,
       ⟨(some 15), .plain (.indexAddr 2), [.tmp 13, .tmp 14], none⟩,
       ⟨(some 16), .plain (.fieldAddr 0), [.tmp 15], none⟩,
       ⟨(some 17), .plain (.load false 1), [.tmp 16], none⟩,
       ⟨(some 18), .plain .mv, [.tmp 1], none⟩,
       ⟨(some 19), .plain (.bin .eql), [.tmp 17, .tmp 18], none⟩] [13, 14, 15, 16, 17, 18])
     (.cond (.tmp 19)
      (.seq (.ops [⟨(some 20), .plain .mv, [.tmp 0], none⟩,
        ⟨(some 21), .plain .mv, [.tmp 6], none⟩,
        ⟨(some 22), .plain (.indexAddr 2), [.tmp 20, .tmp 21], none⟩,
        ⟨(some 23), .plain (.fieldAddr 1), [.tmp 22], none⟩,
        ⟨(some 24), .plain (.load false 1), [.tmp 23], none⟩,
        ⟨(some 4), .plain .mv, [.tmp 24], none⟩,
        ⟨(some 5), .plain .mv, [.lit (.bool true)], none⟩] [20, 21, 22, 23, 24])
      .ret)
      .skip)))
    (.ops [⟨(some 11), .plain .mv, [.tmp 6], none⟩,
      ⟨(some 12), .plain (.bin .add), [.tmp 11, .lit (.int .i64 1)], none⟩,
      ⟨(some 6), .plain .mv, [.tmp 12], none⟩] [11, 12]))))))
  (.seq (.ops [⟨(some 4), .plain .mv, [.lit (.int .i64 0)], none⟩,
    ⟨(some 5), .plain .mv, [.lit (.bool false)], none⟩] [])
  .ret)))
def cr127 : List Res := [(4, none), (5, none)]
theorem ok127 : FOk Zk.pg.toProgram Zk.imp 127 c127 cr127 Tryz.f127.ntmps := ⟨Tryz.f127, _, Tryz.func127, rfl, by kernel_rfl, by kernel_rfl, by kernel_rfl, rfl⟩

/-- ironbark/ironbarkref34.known -/
def c128 : SC :=
  (.seq (.ops [⟨(some 4), .plain .mv, [.lit (.bool false)], none⟩] [])
  (.seq (.seq (.ops [⟨(some 5), .plain .mv, [.lit (.int .i64 0)], none⟩] [])
  (.block 0
   (.loop
    (.seq (.seq (.ops [⟨(some 6), .plain .mv, [.tmp 5], none⟩,
      ⟨(some 7), .plain .mv, [.tmp 0], none⟩,
      ⟨(some 8), .plain (.len 1), [.tmp 7], none⟩,
      ⟨(some 9), .plain (.bin .lss), [.tmp 6, .tmp 8], none⟩] [6, 7, 8])
    (.cond (.tmp 9)
     .skip
     (.exit 0)))
    (.seq (.block 1
     (.seq (.ops [⟨(some 12), .plain .mv, [.tmp 0], none⟩,
       ⟨(some 13), .plain .mv, [.tmp 5], none⟩,
       ⟨(some 14), .plain (.indexAddr 5), [.tmp 12, .tmp 13], none⟩,
       ⟨(some 15), .plain (.load true 5), [.tmp 14], none⟩,
       ⟨(some 16), .plain .mv, [.tmp 1], none⟩,
       ⟨(some 17), .call 161, [.tmp 15, .tmp 16], none⟩] [12, 13, 14, 15, 16])
     (.cond (.tmp 17)
      (.seq (.ops [⟨(some 4), .plain .mv, [.lit (.bool true)], none⟩] [])
      .ret)
      .skip)))
    (.ops [⟨(some 10), .plain .mv, [.tmp 5], none⟩,
      ⟨(some 11), .plain (.bin .add), [.tmp 10, .lit (.int .i64 1)], none⟩,
      ⟨(some 5), .plain .mv, [.tmp 11], none⟩] [10, 11]))))))
  (.seq (.ops [⟨(some 4), .plain .mv, [.lit (.bool false)], none⟩] [])
  .ret)))
def cr128 : List Res := [(4, none)]
theorem ok128 : FOk Zk.pg.toProgram Zk.imp 128 c128 cr128 Tryz.f128.ntmps := ⟨Tryz.f128, _, Tryz.func128, rfl, by kernel_rfl, by kernel_rfl, by kernel_rfl, rfl⟩

/-- ironbark/ironbarkref34.defines -/
def c161 : SC :=
  (.seq (.ops [⟨(some 2), .plain (.box 5), [.tmp 0], none⟩,
    ⟨(some 4), .plain .mv, [.lit (.bool false)], none⟩] [])
  (.seq (.ops [⟨(some 7), .plain (.load true 5), [.tmp 2], none⟩,
    ⟨(some 8), .call 130, [.tmp 7], none⟩,
    ⟨(some 5), .plain .mv, [.tmp 8], none⟩] [7, 8])
  (.seq (.seq (.ops [⟨(some 6), .plain .mv, [.lit (.int .i64 0)], none⟩] [])
  (.block 0
   (.loop
    (.seq (.seq (.ops [⟨(some 9), .plain .mv, [.tmp 6], none⟩,
      ⟨(some 10), .plain .mv, [.tmp 5], none⟩,
      ⟨(some 11), .plain (.len 1), [.tmp 10], none⟩,
      ⟨(some 12), .plain (.bin .lss), [.tmp 9, .tmp 11], none⟩] [9, 10, 11])
    (.cond (.tmp 12)
     .skip
     (.exit 0)))
    (.seq (.block 1
     (.seq (.ops [⟨(some 15), .plain .mv, [.tmp 5], none⟩,
       ⟨(some 16), .plain .mv, [.tmp 6], none⟩,
       ⟨(some 17), .plain (.indexAddr 2), [.tmp 15, .tmp 16], none⟩,
       ⟨(some 18), .plain (.fieldAddr 0), [.tmp 17], none⟩,
       ⟨(some 19), .plain (.load false 1), [.tmp 18], none⟩,
       ⟨(some 20), .plain .mv, [.tmp 1], none⟩,
       ⟨(some 21), .plain (.bin .eql), [.tmp 19, .tmp 20], none⟩] [15, 16, 17, 18, 19, 20])
     (.cond (.tmp 21)
      (.seq (.ops [⟨(some 4), .plain .mv, [.lit (.bool true)], none⟩] [])
      .ret)
      .skip)))
    (.ops [⟨(some 13), .plain .mv, [.tmp 6], none⟩,
      ⟨(some 14), .plain (.bin .add), [.tmp 13, .lit (.int .i64 1)], none⟩,
      ⟨(some 6), .plain .mv, [.tmp 14], none⟩] [13, 14]))))))
  (.seq (.ops [⟨(some 4), .plain .mv, [.lit (.bool false)], none⟩] [])
  .ret))))
def cr161 : List Res := [(4, none)]
theorem ok161 : FOk Zk.pg.toProgram Zk.imp 161 c161 cr161 Tryz.f161.ntmps := ⟨Tryz.f161, _, Tryz.func161, rfl, by kernel_rfl, by kernel_rfl, by kernel_rfl, rfl⟩

/-- ironbark/ironbarkref34.found -/
def c129 : SC :=
  (.seq (.ops [⟨(some 6), .plain (.alloc [(.str ⟨#[]⟩), (.str ⟨#[]⟩), .nilS, .nilS, .nilS]), [], none⟩,
    ⟨(some 7), .plain .mv, [.lit (.bool false)], none⟩] [])
  (.seq (.seq (.ops [⟨(some 8), .plain .mv, [.lit (.int .i64 0)], none⟩] [])
  (.block 0
   (.loop
    (.seq (.seq (.ops [⟨(some 13), .plain .mv, [.tmp 8], none⟩,
      ⟨(some 14), .plain .mv, [.tmp 1], none⟩,
      ⟨(some 15), .plain (.len 1), [.tmp 14], none⟩,
      ⟨(some 16), .plain (.bin .lss), [.tmp 13, .tmp 15], none⟩] [13, 14, 15])
    (.cond (.tmp 16)
     .skip
     (.exit 0)))
    (.seq (.block 1
     (.seq (.ops [⟨(some 9), .plain .mv, [.lit (.int .i64 0)], none⟩] [])
     (.block 2
      (.loop
       (.seq (.seq (.ops [⟨(some 19), .plain .mv, [.tmp 9], none⟩,
         ⟨(some 20), .plain .mv, [.tmp 1], none⟩,
         ⟨(some 21), .plain .mv, [.tmp 8], none⟩,
         ⟨(some 22), .plain (.indexAddr 1), [.tmp 20, .tmp 21], none⟩,
         ⟨(some 23), .plain (.load false 1), [.tmp 22], none⟩,
         ⟨(some 24), .plain (.len 1), [.tmp 23], none⟩,
         ⟨(some 25), .plain (.bin .lss), [.tmp 19, .tmp 24], none⟩] [19, 20, 21, 22, 23, 24])
       (.cond (.tmp 25)
        .skip
        (.exit 2)))
       (.seq (.block 3
        (.seq (.ops [⟨(some 28), .plain .mv, [.tmp 1], none⟩,
          ⟨(some 29), .plain .mv, [.tmp 8], none⟩,
          ⟨(some 30), .plain (.indexAddr 1), [.tmp 28, .tmp 29], none⟩,
          ⟨(some 31), .plain (.load false 1), [.tmp 30], none⟩,
          ⟨(some 32), .plain .mv, [.tmp 9], none⟩,
          ⟨(some 33), .plain (.indexAddr 5), [.tmp 31, .tmp 32], none⟩,
          ⟨(some 34), .plain (.load true 5), [.tmp 33], none⟩,
          ⟨(some 10), .plain (.alloc [(.str ⟨#[]⟩), (.str ⟨#[]⟩), .nilS, .nilS, .nilS]), [], none⟩,
          ⟨none, .plain (.store 5), [.tmp 10, .tmp 34], none⟩] [28, 29, 30, 31, 32, 33, 34])
        (.seq (.ops [⟨(some 11), .plain .mv, [.lit (.bool false)], none⟩] [])
        (.seq (.seq (.ops [⟨(some 12), .plain .mv, [.lit (.int .i64 0)], none⟩] [])
        (.block 4
         (.loop
          (.seq (.seq (.ops [⟨(some 35), .plain .mv, [.tmp 12], none⟩,
            ⟨(some 36), .plain .mv, [.tmp 0], none⟩,
            ⟨(some 37), .plain (.len 1), [.tmp 36], none⟩,
            ⟨(some 38), .plain (.bin .lss), [.tmp 35, .tmp 37], none⟩] [35, 36, 37])
          (.cond (.tmp 38)
           .skip
           (.exit 4)))
          (.seq (.block 5
           (.draw (.step ⟨(some 41), .plain .mv, [.tmp 11], none⟩
             (.step ⟨(some 42), .plain .mv, [.tmp 41], none⟩
             (.step ⟨(some 43), .plain .mv, [.tmp 0], (some (42, false))⟩
             (.step ⟨(some 44), .plain .mv, [.tmp 12], (some (42, false))⟩
             (.step ⟨(some 45), .plain (.indexAddr 5), [.tmp 43, .tmp 44], (some (42, false))⟩
             (.step ⟨(some 46), .plain (.fieldAddr 0), [.tmp 45], (some (42, false))⟩
             (.step ⟨(some 47), .plain (.load false 1), [.tmp 46], (some (42, false))⟩
             (.step ⟨(some 48), .plain (.fieldAddr 0), [.tmp 10], (some (42, false))⟩
             (.step ⟨(some 49), .plain (.load false 1), [.tmp 48], (some (42, false))⟩
             (.step ⟨(some 50), .plain (.bin .eql), [.tmp 47, .tmp 49], (some (42, false))⟩
             (.step ⟨(some 51), .plain .pick, [.tmp 42, .lit (.bool true), .tmp 50], none⟩
             (.step ⟨(some 11), .plain .mv, [.tmp 51], none⟩
             .done)))))))))))) [41, 42, 43, 44, 45, 46, 47, 48, 49, 50, 51]))
          (.ops [⟨(some 39), .plain .mv, [.tmp 12], none⟩,
            ⟨(some 40), .plain (.bin .add), [.tmp 39, .lit (.int .i64 1)], none⟩,
            ⟨(some 12), .plain .mv, [.tmp 40], none⟩] [39, 40]))))))
        (.seq (.ops [⟨(some 52), .plain .mv, [.tmp 11], none⟩,
          ⟨(some 53), .plain (.un .not), [.tmp 52], none⟩,
          ⟨(some 54), .plain .mv, [.tmp 53], none⟩,
          ⟨(some 55), .plain (.load true 5), [.tmp 10], (some (54, true))⟩,
          ⟨(some 56), .plain .mv, [.tmp 2], (some (54, true))⟩,
          ⟨(some 57), .call 161, [.tmp 55, .tmp 56], (some (54, true))⟩,
          ⟨(some 58), .plain .pick, [.tmp 54, .tmp 57, .lit (.bool false)], none⟩] [52, 53, 54, 55, 56, 57])
        (.cond (.tmp 58)
         (.seq (.ops [⟨(some 59), .plain (.load true 5), [.tmp 10], none⟩,
           ⟨none, .plain (.store 5), [.tmp 6, .tmp 59], none⟩,
           ⟨(some 7), .plain .mv, [.lit (.bool true)], none⟩] [59])
         .ret)
         .skip))))))
       (.ops [⟨(some 26), .plain .mv, [.tmp 9], none⟩,
         ⟨(some 27), .plain (.bin .add), [.tmp 26, .lit (.int .i64 1)], none⟩,
         ⟨(some 9), .plain .mv, [.tmp 27], none⟩] [26, 27])))))))
    (.ops [⟨(some 17), .plain .mv, [.tmp 8], none⟩,
      ⟨(some 18), .plain (.bin .add), [.tmp 17, .lit (.int .i64 1)], none⟩,
      ⟨(some 8), .plain .mv, [.tmp 18], none⟩] [17, 18]))))))
  (.seq (.ops [⟨(some 60), .plain (.build [(.str ⟨#[]⟩), (.str ⟨#[]⟩), .nilS, .nilS, .nilS] []), [], none⟩,
    ⟨none, .plain (.store 5), [.tmp 6, .tmp 60], none⟩,
    ⟨(some 7), .plain .mv, [.lit (.bool false)], none⟩] [60])
  .ret)))
def cr129 : List Res := [(6, some (true, 5)), (7, none)]
theorem ok129 : FOk Zk.pg.toProgram Zk.imp 129 c129 cr129 Tryz.f129.ntmps := ⟨Tryz.f129, _, Tryz.func129, rfl, by kernel_rfl, by kernel_rfl, by kernel_rfl, rfl⟩

/-- ironbark/link.defs -/
def c112 : SC :=
  (.seq (.ops [⟨(some 1), .plain (.box 5), [.tmp 0], none⟩,
    ⟨(some 2), .plain .mv, [.lit .nilS], none⟩] [])
  (.seq (.seq (.ops [⟨(some 3), .plain (.fieldAddr 2), [.tmp 1], none⟩,
    ⟨(some 4), .plain (.load false 1), [.tmp 3], none⟩,
    ⟨(some 5), .plain (.mkFn 143), [.tmp 1], none⟩,
    ⟨(some 6), .call 142, [.tmp 4, .tmp 5], none⟩] [3, 4, 5])
  (.cond (.tmp 6)
   (.seq (.ops [⟨(some 7), .plain (.fieldAddr 2), [.tmp 1], none⟩,
     ⟨(some 8), .plain (.load false 1), [.tmp 7], none⟩,
     ⟨(some 2), .plain .mv, [.tmp 8], none⟩] [7, 8])
   .ret)
   .skip))
  (.seq (.ops [⟨(some 9), .plain (.fieldAddr 0), [.tmp 1], none⟩,
    ⟨(some 10), .plain (.load false 1), [.tmp 9], none⟩,
    ⟨(some 11), .plain (.build [(.str ⟨#[]⟩), (.int .i64 0)] [(0, 1)]), [.tmp 10], none⟩,
    ⟨(some 12), .plain (.buildRow 65 2 1 [(.str ⟨#[]⟩), (.int .i64 0)] [0]), [.tmp 11], none⟩,
    ⟨(some 13), .plain (.fieldAddr 2), [.tmp 1], none⟩,
    ⟨(some 14), .plain (.load false 1), [.tmp 13], none⟩,
    ⟨(some 15), .plain (.append 65 2 24), [.tmp 12, .tmp 14], none⟩,
    ⟨(some 2), .plain .mv, [.tmp 15], none⟩] [9, 10, 11, 12, 13, 14, 15])
  .ret)))
def cr112 : List Res := [(2, none)]
theorem ok112 : FOk Zk.pg.toProgram Zk.imp 112 c112 cr112 Tryz.f112.ntmps := ⟨Tryz.f112, _, Tryz.func112, rfl, by kernel_rfl, by kernel_rfl, by kernel_rfl, rfl⟩

/-- slices.ContainsFunc[[]ironbark/api.Def,ironbark/api.Def] -/
def c142 : SC :=
  (.seq (.ops [⟨(some 4), .plain .mv, [.lit (.bool false)], none⟩] [])
  (.seq (.ops [⟨(some 5), .plain .mv, [.tmp 0], none⟩,
    ⟨(some 6), .plain .mv, [.tmp 1], none⟩,
    ⟨(some 7), .call 179, [.tmp 5, .tmp 6], none⟩,
    ⟨(some 8), .plain (.bin .geq), [.tmp 7, .lit (.int .i64 0)], none⟩,
    ⟨(some 4), .plain .mv, [.tmp 8], none⟩] [5, 6, 7, 8])
  .ret))
def cr142 : List Res := [(4, none)]
theorem ok142 : FOk Zk.pg.toProgram Zk.imp 142 c142 cr142 Tryz.f142.ntmps := ⟨Tryz.f142, _, Tryz.func142, rfl, by kernel_rfl, by kernel_rfl, by kernel_rfl, rfl⟩

/-- ironbark/link.defs$1 -/
def c143 : SC :=
  (.seq (.ops [⟨(some 2), .plain (.box 2), [.tmp 0], none⟩,
    ⟨(some 3), .plain .mv, [.lit (.bool false)], none⟩] [])
  (.seq (.ops [⟨(some 4), .plain (.fieldAddr 0), [.tmp 2], none⟩,
    ⟨(some 5), .plain (.load false 1), [.tmp 4], none⟩,
    ⟨(some 6), .plain (.fieldAddr 0), [.tmp 1], none⟩,
    ⟨(some 7), .plain (.load false 1), [.tmp 6], none⟩,
    ⟨(some 8), .plain (.bin .eql), [.tmp 5, .tmp 7], none⟩,
    ⟨(some 3), .plain .mv, [.tmp 8], none⟩] [4, 5, 6, 7, 8])
  .ret))
def cr143 : List Res := [(3, none)]
theorem ok143 : FOk Zk.pg.toProgram Zk.imp 143 c143 cr143 Tryz.f143.ntmps := ⟨Tryz.f143, _, Tryz.func143, rfl, by kernel_rfl, by kernel_rfl, by kernel_rfl, rfl⟩

/-- slices.Contains[[]string,string] -/
def c144 : SC :=
  (.seq (.ops [⟨(some 4), .plain .mv, [.lit (.bool false)], none⟩] [])
  (.seq (.ops [⟨(some 5), .plain .mv, [.tmp 0], none⟩,
    ⟨(some 6), .plain .mv, [.tmp 1], none⟩,
    ⟨(some 7), .call 180, [.tmp 5, .tmp 6], none⟩,
    ⟨(some 8), .plain (.bin .geq), [.tmp 7, .lit (.int .i64 0)], none⟩,
    ⟨(some 4), .plain .mv, [.tmp 8], none⟩] [5, 6, 7, 8])
  .ret))
def cr144 : List Res := [(4, none)]
theorem ok144 : FOk Zk.pg.toProgram Zk.imp 144 c144 cr144 Tryz.f144.ntmps := ⟨Tryz.f144, _, Tryz.func144, rfl, by kernel_rfl, by kernel_rfl, by kernel_rfl, rfl⟩

end Go.Pm

/- ZkC5: contracts: the names that an object defines. -/
namespace Go.Pm
open Go Go.Proofs
attribute [-simp] List.getElem?_map

theorem drop_ix {α : Type} [Inhabited α] {l : List α} {i : Nat} (h : i < l.length) : l.drop i = ix l i :: l.drop (i + 1) := by
  rw [List.drop_eq_getElem_cons h]
  simp [ix, List.getD, h]

@[simp] theorem take_map {α β : Type} {l : List α} {f : α → β} : (l.map f).take l.length = l.map f := by
  rw [List.take_of_length_le (by simp)]

def outerF (ds : List DDef) (name : ByteArray) : Option Int := (ds.find? fun d => eqS d.name name).map (·.at_)

theorem call127 (p : Bool) (ds : List DDef) (name : ByteArray) (hl : ds.length ≤ 4000000000000) : PCalls Zk.pg 127 [.list p 2 (ds.map DDef.av), .str name] fun out => out = .ret (.tuple [.int .i64 ((outerF ds name).getD 0), .bool (outerF ds name).isSome]) := by
  refine ok127.pcalls (by simp) ?_
  simp [c127]
  refine wpS_loop (ι := Nat) (fun i => [(0, .list p 2 (ds.map DDef.av)), (1, .str name), (6, .int .i64 i)]) (fun _ => ⟨[], 0⟩) (fun i => ds.length - i) (fun i => i ≤ ds.length ∧ outerF (ds.drop i) name = outerF ds name) 0 (by simp) (Env.le_of (by simp)) rfl ?_
  intro i ⟨hi, hall⟩
  have hw : IntKind.i64.wrap (i + 1) = i + 1 := wrap64 (by omega) (by omega)
  simp
  refine br_cond rfl (fun h => ?_) (fun h => ?_)
  · have hlt : i < ds.length := by have := ltI_t.1 h; omega
    rw [drop_ix hlt] at hall
    simp [h, idxM, DDef.av]
    refine br_cond rfl (fun h1 => ?_) (fun h1 => ?_)
    · have : outerF ds name = some (ix ds i).at_ := by rw [← hall]; simp [outerF, h1]
      simp [h, idxM, DDef.av, cr127, this]
    · simp [hw]
      exact ⟨i + 1, ⟨by omega, by rw [← hall]; simp [outerF, h1]⟩, by omega, Env.le_of (by simp), Mem.le_of rfl (by simp)⟩
  · have hid : i = ds.length := by have := ltI_f.1 h; omega
    have : outerF ds name = none := by rw [← hall, hid]; simp [outerF]
    simp [h, cr127, this]

def defsF (o : Deck) : List DDef := if o.defs.any (fun d => eqS d.name o.name) then o.defs else o.defs ++ [⟨o.name, 0⟩]

theorem call130 (o : Deck) (hs : o.Small) : PCalls Zk.pg 130 [.agg o.av] fun out => out = .ret (.list true 2 ((defsF o).map DDef.av)) := by
  refine ok130.pcalls (by simp) ?_
  simp [c130, Deck.av, appendA]
  have dl := hs.defs
  have hc : o.defs.length * 24 ≤ 140737488355328 ∧ o.defs.length ≤ 9223372036854775807 := ⟨by omega, by omega⟩
  simp [hc]
  refine wpS_loop (ι := Nat) (fun i => [(1, .ptr 0 0 0), (3, .row 1 1 2 0 o.defs.length), (4, .int .i64 i)]) (fun _ => ⟨[(0, .cells o.av), (1, .row 65 2 (o.defs.map DDef.av))], 2⟩) (fun i => o.defs.length - i)
    (fun i => i ≤ o.defs.length ∧ o.defs.any (fun d => eqS d.name o.name) = (o.defs.drop i).any fun d => eqS d.name o.name) 0 (by simp) (Env.le_of (by simp)) (by simp [Deck.av]) ?_
  intro i ⟨hi, hall⟩
  have hw : IntKind.i64.wrap (i + 1) = i + 1 := wrap64 (by omega) (by omega)
  simp [Deck.av]
  refine br_cond rfl (fun h => ?_) (fun h => ?_)
  · have hlt : i < o.defs.length := by have := ltI_t.1 h; omega
    rw [drop_ix hlt] at hall
    simp [h, idxM, DDef.av]
    refine br_cond rfl (fun h1 => ?_) (fun h1 => ?_)
    · have hd : defsF o = o.defs := by unfold defsF; rw [hall]; simp [h1]
      simp [cr130, hd]
    · simp [hw]
      exact ⟨i + 1, ⟨by omega, by rw [hall]; simp [h1]⟩, by omega, Env.le_of (by simp), Mem.le_of rfl (by simp)⟩
  · have hid : i = o.defs.length := by have := ltI_f.1 h; omega
    have hd : defsF o = o.defs ++ [⟨o.name, 0⟩] := by unfold defsF; rw [hall, hid]; simp
    have hc2 : (o.defs.length + 1) * 24 ≤ 140737488355328 ∧ o.defs.length + 1 ≤ 9223372036854775807 := ⟨by omega, by omega⟩
    simp [h, cr130, hd, appendA, hc2]
    have e : o.defs.map DDef.av ++ [[AV.str o.name, AV.int IntKind.i64 0]] = (o.defs ++ [(⟨o.name, 0⟩ : DDef)]).map DDef.av := by simp [DDef.av]
    have e1 : o.defs.length + 1 = (o.defs ++ [(⟨o.name, 0⟩ : DDef)]).length := by simp
    have e2 : o.defs.map DDef.av ++ [DDef.av ⟨o.name, 0⟩] = (o.defs ++ [(⟨o.name, 0⟩ : DDef)]).map DDef.av := by simp
    rw [e, e1, take_map, perm_defs, e2]
    exact ⟨rfl, rfl⟩

def definesF (o : Deck) (name : ByteArray) : Bool := (defsF o).any fun d => eqS d.name name

theorem defsF_len (o : Deck) : (defsF o).length ≤ o.defs.length + 1 := by
  unfold defsF; split <;> simp

theorem call161 (o : Deck) (hs : o.Small) (name : ByteArray) : PCalls Zk.pg 161 [.agg o.av, .str name] fun out => out = .ret (.bool (definesF o name)) := by
  refine ok161.pcalls (by simp) ?_
  have hal : o.av.all AV.one = true := by simp [Deck.av]
  have hol : o.av.length = 5 := by simp [Deck.av]
  simp [c161, hal, hol]
  rw [List.take_of_length_le (by omega)]
  refine xcall_p (call130 o hs) (by simp) ?_
  simp
  have dl := hs.defs
  have dl2 := defsF_len o
  generalize hds : defsF o = ds at *
  have hdf : definesF o name = ds.any fun d => eqS d.name name := by rw [← hds]; rfl
  refine wpS_loop (ι := Nat) (fun i => [(1, .str name), (5, .list true 2 (ds.map DDef.av)), (6, .int .i64 i)]) (fun _ => ⟨[(0, .cells o.av)], 1⟩) (fun i => ds.length - i)
    (fun i => i ≤ ds.length ∧ definesF o name = (ds.drop i).any fun d => eqS d.name name) 0 (by simp [hdf]) (Env.le_of (by simp)) (by simp) ?_
  intro i ⟨hi, hall⟩
  have hw : IntKind.i64.wrap (i + 1) = i + 1 := wrap64 (by omega) (by omega)
  simp
  refine br_cond rfl (fun h => ?_) (fun h => ?_)
  · have hlt : i < ds.length := by have := ltI_t.1 h; omega
    rw [drop_ix hlt] at hall
    simp [h, idxM, DDef.av]
    refine br_cond rfl (fun h1 => ?_) (fun h1 => ?_)
    · simp [cr161, hall, h1]
    · simp [hw]
      exact ⟨i + 1, ⟨by omega, by rw [hall]; simp [h1]⟩, by omega, Env.le_of (by simp), Mem.le_of rfl (by simp)⟩
  · have hid : i = ds.length := by have := ltI_f.1 h; omega
    subst hid
    simp [h, cr161, hall]

structure SmallL (l : List Deck) : Prop where
  len : l.length ≤ 2000000
  each : ∀ o ∈ l, o.Small

def knownF (l : List Deck) (name : ByteArray) : Bool := l.any fun o => definesF o name

theorem deck_take (o : Deck) : o.av.take 5 = o.av := List.take_of_length_le (by simp [Deck.av])
@[simp] theorem deck_len (o : Deck) : o.av.length = 5 := by simp [Deck.av]
@[simp] theorem deck_one (o : Deck) : o.av.all AV.one = true := by simp [Deck.av]

theorem call128 (p : Bool) (l : List Deck) (hl : SmallL l) (name : ByteArray) : PCalls Zk.pg 128 [.list p 5 (l.map Deck.av), .str name] fun out => out = .ret (.bool (knownF l name)) := by
  refine ok128.pcalls (by simp) ?_
  have dl := hl.len
  simp [c128]
  refine wpS_loop (ι := Nat) (fun i => [(0, .list p 5 (l.map Deck.av)), (1, .str name), (5, .int .i64 i)]) (fun _ => ⟨[], 0⟩) (fun i => l.length - i)
    (fun i => i ≤ l.length ∧ knownF l name = (l.drop i).any fun o => definesF o name) 0 (by simp [knownF]) (Env.le_of (by simp)) (by simp) ?_
  intro i ⟨hi, hall⟩
  have hw : IntKind.i64.wrap (i + 1) = i + 1 := wrap64 (by omega) (by omega)
  simp
  refine br_cond rfl (fun h => ?_) (fun h => ?_)
  · have hlt : i < l.length := by have := ltI_t.1 h; omega
    rw [drop_ix hlt] at hall
    simp [h, idxM, deck_take]
    refine xcall_p (call161 (ix l i) (hl.each _ (ix_mem hlt)) name) (by simp) ?_
    simp
    refine br_cond rfl (fun h1 => ?_) (fun h1 => ?_)
    · simp [cr128, hall, h1]
    · simp [hw]
      exact ⟨i + 1, ⟨by omega, by rw [hall]; simp [h1]⟩, by omega, Env.le_of (by simp), Mem.le_of rfl (by simp)⟩
  · have hid : i = l.length := by have := ltI_f.1 h; omega
    subst hid
    simp [h, cr128, hall]
end Go.Pm

/- ZkC6: contracts: all valid; lists that are the same; an object of a library. -/
namespace Go.Pm
open Go Go.Proofs
attribute [-simp] List.getElem?_map

structure SmallLL (l : List (List Deck)) : Prop where
  len : l.length ≤ 2000000
  each : ∀ o ∈ l, SmallL o

def libAV (l : List Deck) : List AV := [decksAV l]

def allF (l : List Deck) (libs : List (List Deck)) : Bool := l.all deckOk && libs.all fun x => x.all deckOk

theorem call41 (p q : Bool) (l : List Deck) (libs : List (List Deck)) (hl : SmallL l) (hb : SmallLL libs) : PCalls Zk.pg 41 [.list p 5 (l.map Deck.av), .list q 1 (libs.map libAV)] fun out => out = .ret (.bool (allF l libs)) := by
  refine ok41.pcalls (by simp) ?_
  have dl := hl.len
  have bl := hb.len
  simp [c41]
  refine wpS_loop (ι := Nat) (fun i => [(0, .list p 5 (l.map Deck.av)), (1, .list q 1 (libs.map libAV)), (5, .int .i64 i)]) (fun _ => ⟨[], 0⟩) (fun i => l.length - i)
    (fun i => i ≤ l.length ∧ l.all deckOk = (l.drop i).all deckOk) 0 (by simp) (Env.le_of (by simp)) (by simp) ?_
  intro i ⟨hi, hall⟩
  have hw : IntKind.i64.wrap (i + 1) = i + 1 := wrap64 (by omega) (by omega)
  simp
  refine br_cond rfl (fun h => ?_) (fun h => ?_)
  · have hlt : i < l.length := by have := ltI_t.1 h; omega
    rw [drop_ix hlt] at hall
    simp [h, idxM, deck_take]
    refine xcall_p (call29 (ix l i) (hl.each _ (ix_mem hlt))) (by simp) ?_
    simp
    refine br_cond rfl (fun h1 => ?_) (fun h1 => ?_) <;> simp at h1
    · simp [cr41, allF, hall, h1]
    · simp [hw]
      exact ⟨i + 1, ⟨by omega, by rw [hall]; simp [h1]⟩, by omega, Env.le_of (by simp), Mem.le_of rfl (by simp)⟩
  have hid : i = l.length := by have := ltI_f.1 h; omega
  subst hid
  have hA : l.all deckOk = true := by rw [hall]; simp
  clear hall hw
  simp [h]
  clear h
  refine wpS_loop (ι := Nat) (fun i => [(0, .list p 5 (l.map Deck.av)), (1, .list q 1 (libs.map libAV)), (6, .int .i64 i)]) (fun _ => ⟨[], 0⟩) (fun i => libs.length - i)
    (fun i => i ≤ libs.length ∧ (libs.all fun x => x.all deckOk) = (libs.drop i).all fun x => x.all deckOk) 0 (by simp) (Env.le_of (by simp)) (by simp) ?_
  intro i ⟨hi, hall⟩
  have hw : IntKind.i64.wrap (i + 1) = i + 1 := wrap64 (by omega) (by omega)
  simp
  refine br_cond rfl (fun h => ?_) (fun h => ?_)
  · have hlt : i < libs.length := by have := ltI_t.1 h; omega
    rw [drop_ix hlt] at hall
    have hs := hb.each _ (ix_mem hlt)
    have sl := hs.len
    simp [h]
    refine wpS_loop (ι := Nat) (fun k => [(0, .list p 5 (l.map Deck.av)), (1, .list q 1 (libs.map libAV)), (6, .int .i64 i), (7, .int .i64 k)]) (fun _ => ⟨[], 0⟩) (fun k => (ix libs i).length - k)
      (fun k => k ≤ (ix libs i).length ∧ (ix libs i).all deckOk = ((ix libs i).drop k).all deckOk) 0 (by simp) (Env.le_of (by simp)) (by simp) ?_
    intro k ⟨hk, hka⟩
    have hwk : IntKind.i64.wrap (k + 1) = k + 1 := wrap64 (by omega) (by omega)
    simp [h, idxM, libAV, decksAV]
    refine br_cond rfl (fun h2 => ?_) (fun h2 => ?_)
    · have hlk : k < (ix libs i).length := by have := ltI_t.1 h2; omega
      rw [drop_ix hlk] at hka
      simp [h, h2, idxM, libAV, decksAV, deck_take]
      refine xcall_p (call29 (ix (ix libs i) k) (hs.each _ (ix_mem hlk))) (by simp) ?_
      simp
      refine br_cond rfl (fun h1 => ?_) (fun h1 => ?_) <;> simp at h1
      · simp only [List.all_cons, h1, Bool.false_and] at hka
        simp [cr41, allF, hall, hka]
      · simp [hwk]
        exact ⟨k + 1, ⟨by omega, by rw [hka]; simp [h1]⟩, by omega, Env.le_of (by simp), Mem.le_of rfl (by simp)⟩
    · have hkd : k = (ix libs i).length := by have := ltI_f.1 h2; omega
      have hk1 : (ix libs i).all deckOk = true := by rw [hka, hkd]; simp
      simp [h2, hw]
      exact ⟨i + 1, ⟨by omega, by rw [hall]; simp [hk1]⟩, by omega, Env.le_of (by simp), Mem.le_of rfl (by simp)⟩
  · have hid : i = libs.length := by have := ltI_f.1 h; omega
    subst hid
    simp [h, cr41, allF, hA, hall]

/-- Two names at places are the same. -/
def eqD (a b : DDef) : Bool := eqS a.name b.name && eqI a.at_ b.at_
def eqL (a b : DLine) : Bool := eqI a.at_ b.at_ && eqI a.stmt b.stmt
def defsEq (a b : List DDef) : Bool := eqI a.length b.length && (List.range a.length).all fun i => eqD (ix a i) (ix b i)
def linesEq (a b : List DLine) : Bool := eqI a.length b.length && (List.range a.length).all fun i => eqL (ix a i) (ix b i)

theorem sEq_D (a b : DDef) : scalarsEq [.str, .int] a.av b.av = some (eqD a b) := by
  simp only [DDef.av, scalarsEq, scalarEq, if_true]
  rw [beq_eqS, show (a.at_ == b.at_) = eqI a.at_ b.at_ from rfl]
  have : eqS b.name a.name = eqS a.name b.name := by rw [← beq_eqS, ← beq_eqS]; cases h : (a.name == b.name) with
    | true => rw [beq_bytes] at h; rw [h]; exact ((beq_bytes _ _).2 rfl).symm
    | false => cases h2 : (b.name == a.name) with
      | false => rfl
      | true => rw [beq_bytes] at h2; rw [h2] at h; rw [(beq_bytes _ _).2 rfl] at h; cases h
  rw [this]
  unfold eqD
  rcases Bool.eq_false_or_eq_true (eqS a.name b.name) with h | h <;> rcases Bool.eq_false_or_eq_true (eqI a.at_ b.at_) with h' | h' <;> simp [h, h']
theorem sEq_L (a b : DLine) : scalarsEq [.int, .int] a.av b.av = some (eqL a b) := by
  simp only [DLine.av, scalarsEq, scalarEq, if_true]
  rw [show (a.at_ == b.at_) = eqI a.at_ b.at_ from rfl, show (a.stmt == b.stmt) = eqI a.stmt b.stmt from rfl]
  unfold eqL
  rcases Bool.eq_false_or_eq_true (eqI a.at_ b.at_) with h | h <;> rcases Bool.eq_false_or_eq_true (eqI a.stmt b.stmt) with h' | h' <;> simp [h, h']
theorem def_take (o : DDef) : o.av.take 2 = o.av := rfl
theorem line_take (o : DLine) : o.av.take 2 = o.av := rfl
@[simp] theorem def_len (o : DDef) : o.av.length = 2 := rfl
@[simp] theorem line_len (o : DLine) : o.av.length = 2 := rfl

theorem call30 (p q : Bool) (a b : List DDef) (ha : a.length ≤ 4000000000000) (_hb : b.length ≤ 4000000000000) : PCalls Zk.pg 30 [.list p 2 (a.map DDef.av), .list q 2 (b.map DDef.av)] fun out => out = .ret (.bool (defsEq a b)) := by
  refine ok30.pcalls (by simp) ?_
  simp [c30]
  refine br_cond rfl (fun h => ?_) (fun h => ?_) <;> simp at h
  · simp [cr30, defsEq, h]
  simp
  have hlen := eqI_t.1 h
  refine wpS_loop (ι := Nat) (fun i => [(0, .list p 2 (a.map DDef.av)), (1, .list q 2 (b.map DDef.av)), (5, .int .i64 i)]) (fun _ => ⟨[], 0⟩) (fun i => a.length - i)
    (fun i => i ≤ a.length ∧ ∀ j, j < i → eqD (ix a j) (ix b j) = true) 0 (by simp) (Env.le_of (by simp)) (by simp) ?_
  intro i ⟨hi, hall⟩
  have hw : IntKind.i64.wrap (i + 1) = i + 1 := wrap64 (by omega) (by omega)
  simp
  refine br_cond rfl (fun h1 => ?_) (fun h1 => ?_)
  · have hlt : i < a.length := by have := ltI_t.1 h1; omega
    have h2 : ltI ↑i ↑b.length = true := ltN (by omega)
    simp [h1, h2, idxM, def_take, sEq_D]
    refine br_cond rfl (fun h3 => ?_) (fun h3 => ?_) <;> simp at h3
    · have hA : ((List.range a.length).all fun i => eqD (ix a i) (ix b i)) = false := all_f (p := fun i => eqD (ix a i) (ix b i)) hlt h3
      have hE : defsEq a b = false := by unfold defsEq; rw [hA, Bool.and_false]
      simp [cr30, hE]
    · simp [hw]
      exact ⟨i + 1, ⟨by omega, upto hall h3⟩, by omega, Env.le_of (by simp), Mem.le_of rfl (by simp)⟩
  · have hid : i = a.length := by have := ltI_f.1 h1; omega
    have hA : ((List.range a.length).all fun i => eqD (ix a i) (ix b i)) = true := all_t (by rw [← hid]; exact hall)
    have hE : defsEq a b = true := by unfold defsEq; rw [hA, h]; rfl
    simp [h1, cr30, hE]

theorem call31 (p q : Bool) (a b : List DLine) (ha : a.length ≤ 4000000000000) (_hb : b.length ≤ 4000000000000) : PCalls Zk.pg 31 [.list p 2 (a.map DLine.av), .list q 2 (b.map DLine.av)] fun out => out = .ret (.bool (linesEq a b)) := by
  refine ok31.pcalls (by simp) ?_
  simp [c31]
  refine br_cond rfl (fun h => ?_) (fun h => ?_) <;> simp at h
  · simp [cr31, linesEq, h]
  simp
  have hlen := eqI_t.1 h
  refine wpS_loop (ι := Nat) (fun i => [(0, .list p 2 (a.map DLine.av)), (1, .list q 2 (b.map DLine.av)), (5, .int .i64 i)]) (fun _ => ⟨[], 0⟩) (fun i => a.length - i)
    (fun i => i ≤ a.length ∧ ∀ j, j < i → eqL (ix a j) (ix b j) = true) 0 (by simp) (Env.le_of (by simp)) (by simp) ?_
  intro i ⟨hi, hall⟩
  have hw : IntKind.i64.wrap (i + 1) = i + 1 := wrap64 (by omega) (by omega)
  simp
  refine br_cond rfl (fun h1 => ?_) (fun h1 => ?_)
  · have hlt : i < a.length := by have := ltI_t.1 h1; omega
    have h2 : ltI ↑i ↑b.length = true := ltN (by omega)
    simp [h1, h2, idxM, line_take, sEq_L]
    refine br_cond rfl (fun h3 => ?_) (fun h3 => ?_) <;> simp at h3
    · have hA : ((List.range a.length).all fun i => eqL (ix a i) (ix b i)) = false := all_f (p := fun i => eqL (ix a i) (ix b i)) hlt h3
      have hE : linesEq a b = false := by unfold linesEq; rw [hA, Bool.and_false]
      simp [cr31, hE]
    · simp [hw]
      exact ⟨i + 1, ⟨by omega, upto hall h3⟩, by omega, Env.le_of (by simp), Mem.le_of rfl (by simp)⟩
  · have hid : i = a.length := by have := ltI_f.1 h1; omega
    have hA : ((List.range a.length).all fun i => eqL (ix a i) (ix b i)) = true := all_t (by rw [← hid]; exact hall)
    have hE : linesEq a b = true := by unfold linesEq; rw [hA, h]; rfl
    simp [h1, cr31, hE]

structure Img.Small (x : Img) : Prop where
  code : x.code.size ≤ 4000000000000
  defs : x.defs.length ≤ 4000000000000
  lines : x.lines.length ≤ 4000000000000
  names : x.names.length ≤ 4000000000000
  dname : ∀ d ∈ x.defs, d.name.size ≤ 1048576
  nname : ∀ d ∈ x.names, d.name.size ≤ 1048576

def sameF (a b : Img) : Bool := eqI a.base b.base && eqS a.code b.code && defsEq a.defs b.defs && defsEq a.names b.names && linesEq a.lines b.lines

end Go.Pm

/- ZkC26: contracts: copies of what is given. -/
namespace Go.Pm
open Go Go.Proofs
attribute [-simp] List.getElem?_map

theorem call12 (x : Img) (hx : x.Small) : PCalls Zk.pg 12 [.agg x.av] fun out => out = .ret (.agg x.av) := by
  refine ok12.pcallsD 1 (by simp) ?_
  have h1 := hx.defs
  have h2 := hx.lines
  have h3 := hx.names
  have b1 : x.defs.length * 24 ≤ 140737488355328 ∧ x.defs.length ≤ 9223372036854775807 := ⟨by omega, by omega⟩
  have b2 : x.lines.length * 16 ≤ 140737488355328 ∧ x.lines.length ≤ 9223372036854775807 := ⟨by omega, by omega⟩
  have b3 : x.names.length * 24 ≤ 140737488355328 ∧ x.names.length ≤ 9223372036854775807 := ⟨by omega, by omega⟩
  simp [c12, Img.av, appendA, b1, b2, b3, cr12, permD, mapO]

def rowsOf : Nat → List Deck → List (Nat × AObj)
  | _, [] => []
  | g, o :: l => (g, .row 65 2 (o.defs.map DDef.av)) :: (g + 1, .row 77 3 (o.refs.map DRef.av)) :: (g + 2, .row 79 2 (o.lines.map DLine.av)) :: rowsOf (g + 3) l
def givenC (g : Nat) (o : Deck) : List AV := [.str o.name, .str o.code, .row g g 2 0 o.defs.length, .row (g + 1) (g + 1) 3 0 o.refs.length, .row (g + 2) (g + 2) 2 0 o.lines.length]
def givenCells : Nat → List Deck → List (List AV)
  | _, [] => []
  | g, o :: l => givenC g o :: givenCells (g + 3) l
theorem rowsOf_len : ∀ (l : List Deck) (g : Nat), (rowsOf g l).length = 3 * l.length
  | [], _ => rfl
  | o :: l, g => by simp [rowsOf, rowsOf_len l]; omega
theorem rowsOf_snoc : ∀ (l : List Deck) (g : Nat) (o : Deck), rowsOf g (l ++ [o]) = rowsOf g l ++ [(g + 3 * l.length, .row 65 2 (o.defs.map DDef.av)), (g + 3 * l.length + 1, .row 77 3 (o.refs.map DRef.av)), (g + 3 * l.length + 2, .row 79 2 (o.lines.map DLine.av))]
  | [], g, o => by simp [rowsOf]
  | x :: l, g, o => by
    have ih := rowsOf_snoc l (g + 3) o
    simp only [List.cons_append, rowsOf, ih, List.length_cons]
    rw [show g + 3 + 3 * l.length = g + 3 * (l.length + 1) by omega]
theorem givenCells_snoc : ∀ (l : List Deck) (g : Nat) (o : Deck), givenCells g (l ++ [o]) = givenCells g l ++ [givenC (g + 3 * l.length) o]
  | [], g, o => by simp [givenCells]
  | x :: l, g, o => by
    simp only [List.cons_append, givenCells, givenCells_snoc l (g + 3) o, List.length_cons]
    rw [show g + 3 + 3 * l.length = g + 3 * (l.length + 1) by omega]
theorem givenCells_len : ∀ (l : List Deck) (g : Nat), (givenCells g l).length = l.length
  | [], _ => rfl
  | o :: l, g => by simp [givenCells, givenCells_len l]

/-- The rows are found where they lie. -/
theorem given_perm {S : List (Nat × AObj)} {nx : Nat} : ∀ (l : List Deck) (g : Nat), (∀ j x, (rowsOf g l)[j]? = some x → S[g + j]? = some x) → mapOO (permD 0 ⟨S, nx⟩) (givenCells g l) = some (l.map Deck.av)
  | [], _, _ => rfl
  | o :: l, g, h => by
    have ih := given_perm (S := S) (nx := nx) l (g + 3) fun j x hj => by
      have := h (j + 3) x (by simpa [rowsOf] using hj)
      rwa [show g + 3 + j = g + (j + 3) by omega]
    have e0 := h 0 _ rfl
    have e1 := h 1 _ rfl
    have e2 := h 2 _ rfl
    rw [Nat.add_zero] at e0
    simp only [givenCells, mapOO, ih, givenC]
    simp [mapO, permD, e0, e1, e2, Deck.av]

/-- The objects' row when some are copied. -/
def elsAt (l : List Deck) (i : Nat) : List (List AV) := givenCells 1 (l.take i) ++ (l.drop i).map Deck.av
theorem elsAt_zero (l : List Deck) : elsAt l 0 = l.map Deck.av := by simp [elsAt, givenCells]
theorem elsAt_full (l : List Deck) : elsAt l l.length = givenCells 1 l := by simp [elsAt]
theorem elsAt_len {l : List Deck} {i : Nat} (h : i ≤ l.length) : (elsAt l i).length = l.length := by
  unfold elsAt; rw [List.length_append, givenCells_len, List.length_take, List.length_map, List.length_drop]; omega
theorem elsAt_get {l : List Deck} {i : Nat} (h : i < l.length) : (elsAt l i)[i]? = some (ix l i).av := by
  have htl : (l.take i).length = i := by rw [List.length_take]; omega
  unfold elsAt
  rw [List.getElem?_append_right (by rw [givenCells_len, htl]; exact Nat.le_refl _), givenCells_len, htl, Nat.sub_self, drop_ix h]; rfl
theorem elsAt_set {l : List Deck} {i : Nat} (h : i < l.length) : (elsAt l i).set i (givenC (3 * i + 1) (ix l i)) = elsAt l (i + 1) := by
  have htl : (l.take i).length = i := by rw [List.length_take]; omega
  unfold elsAt
  rw [List.set_append_right _ _ (by rw [givenCells_len, htl]; exact Nat.le_refl _), givenCells_len, htl, Nat.sub_self, drop_ix h, List.take_add_one, idx (ltN h)]
  show givenCells 1 (l.take i) ++ givenC (3 * i + 1) (ix l i) :: (l.drop (i + 1)).map Deck.av = givenCells 1 (l.take i ++ [ix l i]) ++ _
  rw [givenCells_snoc, htl, show 1 + 3 * i = 3 * i + 1 by omega]
  simp

set_option maxHeartbeats 4000000 in
theorem call13 (p : Bool) (l : List Deck) (hl : SmallL l) : PCalls Zk.pg 13 [.list p 5 (l.map Deck.av)] fun out => out = .ret (decksAV l) := by
  refine ok13.pcallsD 1 (by simp) ?_
  have dl := hl.len
  have hc : l.length * 104 ≤ 140737488355328 ∧ l.length ≤ 9223372036854775807 := ⟨by omega, by omega⟩
  simp [c13, appendA, hc]
  refine wpS_loop (ι := Nat) (fun i => [(0, .row 0 0 5 0 l.length), (3, .int .i64 i)]) (fun i => ⟨(0, .row 27 5 (elsAt l i)) :: rowsOf 1 (l.take i), 3 * i + 1⟩) (fun i => l.length - i) (fun i => i ≤ l.length) 0 (Nat.zero_le _)
    (Env.le_of (by simp)) (by simp [elsAt_zero, rowsOf]) ?_
  intro i hi
  have hw : IntKind.i64.wrap (i + 1) = i + 1 := wrap64 (by omega) (by omega)
  have htl : (l.take i).length = i := by rw [List.length_take, Nat.min_eq_left hi]
  have hrl : (rowsOf 1 (l.take i)).length = 3 * i := by rw [rowsOf_len, htl]
  simp
  refine br_cond rfl (fun h => ?_) (fun h => ?_)
  · have hlt : i < l.length := by have := ltI_t.1 h; omega
    have hos := hl.each _ (ix_mem hlt)
    have htk : l.take (i + 1) = l.take i ++ [ix l i] := by rw [List.take_add_one, idx h]; rfl
    have hge := elsAt_get hlt
    have hel := elsAt_len hi
    have hset := elsAt_set hlt
    have hsn := rowsOf_snoc (l.take i) 1 (ix l i)
    rw [htl] at hsn
    generalize hE : elsAt l i = E at *
    generalize hoi : ix l i = o at *
    generalize hR : rowsOf 1 (l.take i) = R at *
    have d1 := hos.defs
    have d2 := hos.refs
    have d3 := hos.lines
    have b1 : o.defs.length * 24 ≤ 140737488355328 ∧ o.defs.length ≤ 9223372036854775807 := ⟨by omega, by omega⟩
    have b2 : o.refs.length * 32 ≤ 140737488355328 ∧ o.refs.length ≤ 9223372036854775807 := ⟨by omega, by omega⟩
    have b3 : o.lines.length * 16 ≤ 140737488355328 ∧ o.lines.length ≤ 9223372036854775807 := ⟨by omega, by omega⟩
    have hiE : i < E.length := by omega
    have hs1 : ∀ x, (E.set i x)[i]? = some x := fun x => List.getElem?_set_self hiE
    simp [h, hge, hs1, hrl, hw, Deck.av, appendA, b1, b2, b3]
    refine ⟨i + 1, by omega, by omega, Env.le_of (by simp), Mem.le_of (by simp; omega) ?_⟩
    have e : 3 * i + 1 + 1 + 1 = 3 * i + 3 := by omega
    rw [htk, hsn]
    simp only [givenC] at hset
    rw [← hset]
    rw [show 1 + 3 * i = 3 * i + 1 by omega]
    simp
    rw [List.take_of_length_le (by simp)]
  · have hil : i = l.length := by have := ltI_f.1 h; omega
    subst hil
    rw [elsAt_full, List.take_length]
    have hgp := given_perm (S := (0, .row 27 5 (givenCells 1 l)) :: rowsOf 1 l) (nx := 3 * l.length + 1) l 1 (fun j x hj => by rw [Nat.add_comm]; exact hj)
    have hels : elsOf ⟨(0, .row 27 5 (givenCells 1 l)) :: rowsOf 1 l, 3 * l.length + 1⟩ 5 (.row 0 0 5 0 l.length) = some (givenCells 1 l) := by simp [givenCells_len, List.take_of_length_le]
    simp only [h, br_cond, wpS_cond_f, Opnd.eval, Env.get]
    simp [cr13]
    show (match elsOf _ 5 (.row 0 0 5 0 l.length) with | some els => (mapOO (permD 0 _) els).map (AV.list true 5) | none => none) = _
    rw [hels]
    simp only [hgp]
    rfl

set_option maxHeartbeats 4000000 in
theorem call14 (q : Bool) (libs : List (List Deck)) (hb : SmallLL libs) : PCalls Zk.pg 14 [.list q 1 (libs.map libAV)] fun out => out = .ret (.list true 1 (libs.map libAV)) := by
  refine ok14.pcallsD 1 (by simp) ?_
  have dl := hb.len
  have hc : libs.length * 24 ≤ 140737488355328 ∧ libs.length ≤ 9223372036854775807 := ⟨by omega, by omega⟩
  simp [c14, appendA, hc]
  refine wpS_loop (ι := Nat) (fun i => [(0, .row 0 0 1 0 libs.length), (3, .int .i64 i)]) (fun i => ⟨[(0, .row 35 1 (libs.map libAV))], 1⟩) (fun i => libs.length - i) (fun i => i ≤ libs.length) 0 (Nat.zero_le _)
    (Env.le_of (by simp)) (by simp) ?_
  intro i hi
  have hw : IntKind.i64.wrap (i + 1) = i + 1 := wrap64 (by omega) (by omega)
  simp
  refine br_cond rfl (fun h => ?_) (fun h => ?_)
  · have hlt : i < libs.length := by have := ltI_t.1 h; omega
    have hsl := hb.each _ (ix_mem hlt)
    have hset : (libs.map libAV).set i (libAV (ix libs i)) = libs.map libAV := by
      apply List.ext_getElem?
      intro j
      rw [List.getElem?_set]
      split
      · rename_i hj; subst hj
        rw [if_pos (by simpa using hlt), idxM h]
      · rfl
    have hset2 : (libs.map libAV).set i [.list true 5 ((ix libs i).map Deck.av)] = libs.map libAV := hset
    simp [h, idxM, libAV, decksAV]
    refine xcall_p (call13 true (ix libs i) hsl) (by simp) ?_
    simp [h, idxM, libAV, decksAV, hw]
    exact ⟨i + 1, by omega, by omega, Env.le_of (by simp), Mem.le_of rfl (by simp [hset2])⟩
  · have hil : i = libs.length := by have := ltI_f.1 h; omega
    subst hil
    have hm : ∀ m : Mem, mapOO (permD 0 m) (libs.map libAV) = some (libs.map libAV) := fun m => mapOO_map (g := libAV) (g' := libAV) (fun x => by simp [mapO, permD, libAV, decksAV]) libs
    simp only [h, br_cond, wpS_cond_f, Opnd.eval, Env.get]
    simp [cr14]
    show (match elsOf _ 1 (.row 0 0 1 0 libs.length) with | some els => (mapOO (permD 0 _) els).map (AV.list true 1) | none => none) = _
    have hels : elsOf ⟨[(0, .row 35 1 (libs.map libAV))], 1⟩ 1 (.row 0 0 1 0 libs.length) = some (libs.map libAV) := by simp
    rw [hels]
    simp only [hm]
    rfl
end Go.Pm

/- ZkS4: code, resolved. Written by gen.py out of what ShowSC.lean printed. -/
namespace Go.Pm
open Go Go.Proofs

/-- ironbark/ironbarkref34.gathered -/
def c97 : SC :=
  (.seq (.ops [⟨(some 6), .plain .mv, [.lit .nilS], none⟩,
    ⟨(some 7), .plain .mv, [.lit .nilS], none⟩] [])
  (.seq (.ops [⟨(some 16), .plain .mv, [.tmp 0], none⟩,
    ⟨(some 17), .plain (.append 27 5 104), [.lit .nilS, .tmp 16], none⟩,
    ⟨(some 0), .plain .mv, [.tmp 17], none⟩] [16, 17])
  (.block 0
   (.loop
    (.block 1
     (.seq (.ops [⟨(some 8), .plain .mv, [.lit .nilS], none⟩] [])
     (.seq (.ops [⟨(some 9), .plain (.alloc [(.str ⟨#[]⟩), (.str ⟨#[]⟩), .nilS, .nilS, .nilS]), [], none⟩] [])
     (.seq (.ops [⟨(some 10), .plain .mv, [.lit (.bool false)], none⟩] [])
     (.seq (.seq (.ops [⟨(some 11), .plain .mv, [.lit (.int .i64 0)], none⟩] [])
     (.block 2
      (.loop
       (.seq (.seq (.ops [⟨(some 18), .plain .mv, [.tmp 11], none⟩,
         ⟨(some 19), .plain .mv, [.tmp 0], none⟩,
         ⟨(some 20), .plain (.len 1), [.tmp 19], none⟩,
         ⟨(some 21), .plain (.bin .lss), [.tmp 18, .tmp 20], none⟩,
         ⟨(some 22), .plain .mv, [.tmp 21], none⟩,
         ⟨(some 23), .plain .mv, [.tmp 10], (some (22, true))⟩,
         ⟨(some 24), .plain (.un .not), [.tmp 23], (some (22, true))⟩,
         ⟨(some 25), .plain .pick, [.tmp 22, .tmp 24, .lit (.bool false)], none⟩] [18, 19, 20, 21, 22, 23, 24])
       (.cond (.tmp 25)
        .skip
        (.exit 2)))
       (.seq (.block 3
        (.seq (.ops [⟨(some 12), .plain .mv, [.lit (.int .i64 0)], none⟩] [])
        (.block 4
         (.loop
          (.seq (.seq (.ops [⟨(some 28), .plain .mv, [.tmp 12], none⟩,
            ⟨(some 29), .plain .mv, [.tmp 0], none⟩,
            ⟨(some 30), .plain .mv, [.tmp 11], none⟩,
            ⟨(some 31), .plain (.indexAddr 5), [.tmp 29, .tmp 30], none⟩,
            ⟨(some 32), .plain (.fieldAddr 3), [.tmp 31], none⟩,
            ⟨(some 33), .plain (.load false 1), [.tmp 32], none⟩,
            ⟨(some 34), .plain (.len 1), [.tmp 33], none⟩,
            ⟨(some 35), .plain (.bin .lss), [.tmp 28, .tmp 34], none⟩,
            ⟨(some 36), .plain .mv, [.tmp 35], none⟩,
            ⟨(some 37), .plain .mv, [.tmp 10], (some (36, true))⟩,
            ⟨(some 38), .plain (.un .not), [.tmp 37], (some (36, true))⟩,
            ⟨(some 39), .plain .pick, [.tmp 36, .tmp 38, .lit (.bool false)], none⟩] [28, 29, 30, 31, 32, 33, 34, 35, 36, 37, 38])
          (.cond (.tmp 39)
           .skip
           (.exit 4)))
          (.seq (.block 5
           (.seq (.ops [⟨(some 42), .plain .mv, [.tmp 0], none⟩,
             ⟨(some 43), .plain .mv, [.tmp 11], none⟩,
             ⟨(some 44), .plain (.indexAddr 5), [.tmp 42, .tmp 43], none⟩,
             ⟨(some 45), .plain (.fieldAddr 3), [.tmp 44], none⟩,
             ⟨(some 46), .plain (.load false 1), [.tmp 45], none⟩,
             ⟨(some 47), .plain .mv, [.tmp 12], none⟩,
             ⟨(some 48), .plain (.indexAddr 3), [.tmp 46, .tmp 47], none⟩,
             ⟨(some 49), .plain (.fieldAddr 1), [.tmp 48], none⟩,
             ⟨(some 50), .plain (.load false 1), [.tmp 49], none⟩,
             ⟨(some 13), .plain .mv, [.tmp 50], none⟩] [42, 43, 44, 45, 46, 47, 48, 49, 50])
           (.seq (.seq (.ops [⟨(some 52), .plain .mv, [.tmp 2], none⟩,
             ⟨(some 53), .plain .mv, [.tmp 13], none⟩,
             ⟨(some 54), .call 127, [.tmp 52, .tmp 53], none⟩,
             ⟨(some 51), .plain .mv, [.tmp 54], none⟩,
             ⟨(some 55), .plain (.extract 0), [.tmp 51], none⟩,
             ⟨(some 56), .plain (.extract 1), [.tmp 51], none⟩,
             ⟨(some 14), .plain .mv, [.tmp 55], none⟩,
             ⟨(some 15), .plain .mv, [.tmp 56], none⟩] [52, 53, 54, 51, 55, 56, 14])
           (.seq (.ops [⟨(some 57), .plain .mv, [.tmp 15], none⟩,
             ⟨(some 58), .plain .mv, [.tmp 57], none⟩,
             ⟨(some 59), .plain .mv, [.tmp 0], (some (58, false))⟩,
             ⟨(some 60), .plain .mv, [.tmp 13], (some (58, false))⟩,
             ⟨(some 61), .call 128, [.tmp 59, .tmp 60], (some (58, false))⟩,
             ⟨(some 62), .plain .pick, [.tmp 58, .lit (.bool true), .tmp 61], none⟩] [57, 58, 59, 60, 61])
           (.cond (.tmp 62)
            (.exit 5)
            .skip)))
           (.seq (.ops [⟨(some 64), .plain .mv, [.tmp 0], none⟩,
             ⟨(some 65), .plain .mv, [.tmp 1], none⟩,
             ⟨(some 66), .plain .mv, [.tmp 13], none⟩,
             ⟨(some 67), .call 129, [.tmp 64, .tmp 65, .tmp 66], none⟩,
             ⟨(some 63), .plain .mv, [.tmp 67], none⟩,
             ⟨(some 68), .plain (.extract 0), [.tmp 63], none⟩,
             ⟨(some 69), .plain (.extract 1), [.tmp 63], none⟩,
             ⟨none, .plain (.store 5), [.tmp 9, .tmp 68], none⟩,
             ⟨(some 10), .plain .mv, [.tmp 69], none⟩] [64, 65, 66, 67, 63, 68, 69])
           (.seq (.ops [⟨(some 70), .plain .mv, [.tmp 10], none⟩,
             ⟨(some 71), .plain (.un .not), [.tmp 70], none⟩] [70])
           (.cond (.tmp 71)
            (.ops [⟨(some 72), .plain .mv, [.tmp 8], none⟩,
              ⟨(some 73), .plain .mv, [.tmp 13], none⟩,
              ⟨(some 74), .plain (.buildRow 9 1 1 [(.str ⟨#[]⟩)] [0]), [.tmp 73], none⟩,
              ⟨(some 75), .plain (.append 9 1 16), [.tmp 72, .tmp 74], none⟩,
              ⟨(some 8), .plain .mv, [.tmp 75], none⟩] [72, 73, 74, 75])
            .skip))))))
          (.ops [⟨(some 40), .plain .mv, [.tmp 12], none⟩,
            ⟨(some 41), .plain (.bin .add), [.tmp 40, .lit (.int .i64 1)], none⟩,
            ⟨(some 12), .plain .mv, [.tmp 41], none⟩] [40, 41])))))))
       (.ops [⟨(some 26), .plain .mv, [.tmp 11], none⟩,
         ⟨(some 27), .plain (.bin .add), [.tmp 26, .lit (.int .i64 1)], none⟩,
         ⟨(some 11), .plain .mv, [.tmp 27], none⟩] [26, 27]))))))
     (.seq (.seq (.ops [⟨(some 76), .plain .mv, [.tmp 10], none⟩,
       ⟨(some 77), .plain (.un .not), [.tmp 76], none⟩] [76])
     (.cond (.tmp 77)
      (.seq (.ops [⟨(some 78), .plain .mv, [.tmp 0], none⟩,
        ⟨(some 79), .plain .mv, [.tmp 8], none⟩,
        ⟨(some 6), .plain .mv, [.tmp 78], none⟩,
        ⟨(some 7), .plain .mv, [.tmp 79], none⟩] [78, 79])
      .ret)
      .skip))
     (.ops [⟨(some 80), .plain .mv, [.tmp 0], none⟩,
       ⟨(some 81), .plain (.load true 5), [.tmp 9], none⟩,
       ⟨(some 82), .plain (.buildRow 27 5 1 [(.str ⟨#[]⟩), (.str ⟨#[]⟩), .nilS, .nilS, .nilS] [0]), [.tmp 81], none⟩,
       ⟨(some 83), .plain (.append 27 5 104), [.tmp 80, .tmp 82], none⟩,
       ⟨(some 0), .plain .mv, [.tmp 83], none⟩] [80, 81, 82, 83])))))))))))
def cr97 : List Res := [(6, none), (7, none)]
theorem ok97 : FOk Zk.pg.toProgram Zk.imp 97 c97 cr97 Tryz.f97.ntmps := ⟨Tryz.f97, _, Tryz.func97, rfl, by kernel_rfl, by kernel_rfl, by kernel_rfl, rfl⟩

/-- ironbark/ironbarkref34.put -/
def c98 : SC :=
  (.seq (.ops [⟨(some 6), .plain (.alloc [(.int .i64 0), (.str ⟨#[]⟩), .nilS, .nilS, .nilS]), [], none⟩] [])
  (.seq (.ops [⟨(some 20), .plain .mv, [.tmp 1], none⟩,
    ⟨(some 21), .plain (.build [(.int .i64 0), (.str ⟨#[]⟩), .nilS, .nilS, .nilS] [(0, 1)]), [.tmp 20], none⟩,
    ⟨(some 7), .plain (.alloc [(.int .i64 0), (.str ⟨#[]⟩), .nilS, .nilS, .nilS]), [], none⟩,
    ⟨none, .plain (.store 5), [.tmp 7, .tmp 21], none⟩] [20, 21])
  (.seq (.ops [⟨(some 8), .plain .mv, [.lit .nilS], none⟩] [])
  (.seq (.seq (.ops [⟨(some 9), .plain .mv, [.lit (.int .i64 0)], none⟩] [])
  (.block 0
   (.loop
    (.seq (.seq (.ops [⟨(some 22), .plain .mv, [.tmp 9], none⟩,
      ⟨(some 23), .plain .mv, [.tmp 0], none⟩,
      ⟨(some 24), .plain (.len 1), [.tmp 23], none⟩,
      ⟨(some 25), .plain (.bin .lss), [.tmp 22, .tmp 24], none⟩] [22, 23, 24])
    (.cond (.tmp 25)
     .skip
     (.exit 0)))
    (.seq (.block 1
     (.seq (.block 2
      (.loop
       (.seq (.seq (.ops [⟨(some 28), .plain (.fieldAddr 1), [.tmp 7], none⟩,
         ⟨(some 29), .plain (.load false 1), [.tmp 28], none⟩,
         ⟨(some 30), .plain (.len 0), [.tmp 29], none⟩,
         ⟨(some 31), .plain (.bin .rem), [.tmp 30, .lit (.int .i64 8)], none⟩,
         ⟨(some 32), .plain (.bin .neq), [.tmp 31, .lit (.int .i64 0)], none⟩] [28, 29, 30, 31])
       (.cond (.tmp 32)
        .skip
        (.exit 2)))
       (.block 3
        (.ops [⟨(some 33), .plain (.fieldAddr 1), [.tmp 7], none⟩,
          ⟨(some 34), .plain (.load false 1), [.tmp 33], none⟩,
          ⟨(some 35), .plain (.bin .add), [.tmp 34, .lit (.str ⟨#[0]⟩)], none⟩,
          ⟨(some 36), .plain (.fieldAddr 1), [.tmp 7], none⟩,
          ⟨none, .plain (.store 1), [.tmp 36, .tmp 35], none⟩] [33, 34, 35, 36])))))
     (.seq (.ops [⟨(some 37), .plain .mv, [.tmp 1], none⟩,
       ⟨(some 38), .plain (.fieldAddr 1), [.tmp 7], none⟩,
       ⟨(some 39), .plain (.load false 1), [.tmp 38], none⟩,
       ⟨(some 40), .plain (.len 0), [.tmp 39], none⟩,
       ⟨(some 41), .plain (.bin .add), [.tmp 37, .tmp 40], none⟩,
       ⟨(some 10), .plain .mv, [.tmp 41], none⟩] [37, 38, 39, 40, 41])
     (.seq (.ops [⟨(some 42), .plain .mv, [.tmp 8], none⟩,
       ⟨(some 43), .plain .mv, [.tmp 10], none⟩,
       ⟨(some 44), .plain (.buildRow 3 1 1 [(.int .i64 0)] [0]), [.tmp 43], none⟩,
       ⟨(some 45), .plain (.append 3 1 8), [.tmp 42, .tmp 44], none⟩,
       ⟨(some 8), .plain .mv, [.tmp 45], none⟩] [42, 43, 44, 45])
     (.seq (.draw (.step ⟨(some 46), .plain (.fieldAddr 1), [.tmp 7], none⟩
       (.step ⟨(some 47), .plain (.load false 1), [.tmp 46], none⟩
       (.step ⟨(some 48), .plain .mv, [.tmp 0], none⟩
       (.step ⟨(some 49), .plain .mv, [.tmp 9], none⟩
       (.step ⟨(some 50), .plain (.indexAddr 5), [.tmp 48, .tmp 49], none⟩
       (.step ⟨(some 51), .plain (.fieldAddr 1), [.tmp 50], none⟩
       (.step ⟨(some 52), .plain (.load false 1), [.tmp 51], none⟩
       (.step ⟨(some 53), .plain (.bin .add), [.tmp 47, .tmp 52], none⟩
       (.step ⟨(some 54), .plain (.fieldAddr 1), [.tmp 7], none⟩
       (.step ⟨none, .plain (.store 1), [.tmp 54, .tmp 53], none⟩
       .done)))))))))) [46, 47, 48, 49, 50, 51, 52, 53, 54])
     (.seq (.draw (.step ⟨(some 55), .plain (.fieldAddr 4), [.tmp 7], none⟩
       (.step ⟨(some 56), .plain (.load false 1), [.tmp 55], none⟩
       (.step ⟨(some 57), .plain .mv, [.tmp 0], none⟩
       (.step ⟨(some 58), .plain .mv, [.tmp 9], none⟩
       (.step ⟨(some 59), .plain (.indexAddr 5), [.tmp 57, .tmp 58], none⟩
       (.step ⟨(some 60), .plain (.fieldAddr 0), [.tmp 59], none⟩
       (.step ⟨(some 61), .plain (.load false 1), [.tmp 60], none⟩
       (.step ⟨(some 62), .plain .mv, [.tmp 10], none⟩
       (.step ⟨(some 63), .plain (.build [(.str ⟨#[]⟩), (.int .i64 0)] [(0, 1), (1, 1)]), [.tmp 61, .tmp 62], none⟩
       (.step ⟨(some 64), .plain (.buildRow 65 2 1 [(.str ⟨#[]⟩), (.int .i64 0)] [0]), [.tmp 63], none⟩
       (.step ⟨(some 65), .plain (.append 65 2 24), [.tmp 56, .tmp 64], none⟩
       (.step ⟨(some 66), .plain (.fieldAddr 4), [.tmp 7], none⟩
       (.step ⟨none, .plain (.store 1), [.tmp 66, .tmp 65], none⟩
       .done))))))))))))) [55, 56, 57, 58, 59, 60, 61, 62, 63, 64, 65, 66])
     (.seq (.ops [⟨(some 67), .plain .mv, [.tmp 0], none⟩,
       ⟨(some 68), .plain .mv, [.tmp 9], none⟩,
       ⟨(some 69), .plain (.indexAddr 5), [.tmp 67, .tmp 68], none⟩,
       ⟨(some 70), .plain (.load true 5), [.tmp 69], none⟩,
       ⟨(some 71), .call 130, [.tmp 70], none⟩,
       ⟨(some 11), .plain .mv, [.tmp 71], none⟩] [67, 68, 69, 70, 71])
     (.seq (.seq (.ops [⟨(some 12), .plain .mv, [.lit (.int .i64 0)], none⟩] [])
     (.block 4
      (.loop
       (.seq (.seq (.ops [⟨(some 72), .plain .mv, [.tmp 12], none⟩,
         ⟨(some 73), .plain .mv, [.tmp 11], none⟩,
         ⟨(some 74), .plain (.len 1), [.tmp 73], none⟩,
         ⟨(some 75), .plain (.bin .lss), [.tmp 72, .tmp 74], none⟩] [72, 73, 74])
       (.cond (.tmp 75)
        .skip
        (.exit 4)))
       (.seq (.block 5
        (.draw (.step ⟨(some 78), .plain (.fieldAddr 2), [.tmp 7], none⟩
          (.step ⟨(some 79), .plain (.load false 1), [.tmp 78], none⟩
          (.step ⟨(some 80), .plain .mv, [.tmp 11], none⟩
          (.step ⟨(some 81), .plain .mv, [.tmp 12], none⟩
          (.step ⟨(some 82), .plain (.indexAddr 2), [.tmp 80, .tmp 81], none⟩
          (.step ⟨(some 83), .plain (.fieldAddr 0), [.tmp 82], none⟩
          (.step ⟨(some 84), .plain (.load false 1), [.tmp 83], none⟩
          (.step ⟨(some 85), .plain .mv, [.tmp 10], none⟩
          (.step ⟨(some 86), .plain .mv, [.tmp 11], none⟩
          (.step ⟨(some 87), .plain .mv, [.tmp 12], none⟩
          (.step ⟨(some 88), .plain (.indexAddr 2), [.tmp 86, .tmp 87], none⟩
          (.step ⟨(some 89), .plain (.fieldAddr 1), [.tmp 88], none⟩
          (.step ⟨(some 90), .plain (.load false 1), [.tmp 89], none⟩
          (.step ⟨(some 91), .plain (.bin .add), [.tmp 85, .tmp 90], none⟩
          (.step ⟨(some 92), .plain (.build [(.str ⟨#[]⟩), (.int .i64 0)] [(0, 1), (1, 1)]), [.tmp 84, .tmp 91], none⟩
          (.step ⟨(some 93), .call 105, [.tmp 79, .tmp 92], none⟩
          (.step ⟨(some 94), .plain (.fieldAddr 2), [.tmp 7], none⟩
          (.step ⟨none, .plain (.store 1), [.tmp 94, .tmp 93], none⟩
          .done)))))))))))))))))) [78, 79, 80, 81, 82, 83, 84, 85, 86, 87, 88, 89, 90, 91, 92, 93, 94]))
       (.ops [⟨(some 76), .plain .mv, [.tmp 12], none⟩,
         ⟨(some 77), .plain (.bin .add), [.tmp 76, .lit (.int .i64 1)], none⟩,
         ⟨(some 12), .plain .mv, [.tmp 77], none⟩] [76, 77]))))))
     (.seq (.ops [⟨(some 13), .plain .mv, [.lit (.int .i64 0)], none⟩] [])
     (.block 6
      (.loop
       (.seq (.seq (.ops [⟨(some 95), .plain .mv, [.tmp 13], none⟩,
         ⟨(some 96), .plain .mv, [.tmp 0], none⟩,
         ⟨(some 97), .plain .mv, [.tmp 9], none⟩,
         ⟨(some 98), .plain (.indexAddr 5), [.tmp 96, .tmp 97], none⟩,
         ⟨(some 99), .plain (.fieldAddr 4), [.tmp 98], none⟩,
         ⟨(some 100), .plain (.load false 1), [.tmp 99], none⟩,
         ⟨(some 101), .plain (.len 1), [.tmp 100], none⟩,
         ⟨(some 102), .plain (.bin .lss), [.tmp 95, .tmp 101], none⟩] [95, 96, 97, 98, 99, 100, 101])
       (.cond (.tmp 102)
        .skip
        (.exit 6)))
       (.seq (.block 7
        (.draw (.step ⟨(some 105), .plain (.fieldAddr 3), [.tmp 7], none⟩
          (.step ⟨(some 106), .plain (.load false 1), [.tmp 105], none⟩
          (.step ⟨(some 107), .plain .mv, [.tmp 10], none⟩
          (.step ⟨(some 108), .plain .mv, [.tmp 0], none⟩
          (.step ⟨(some 109), .plain .mv, [.tmp 9], none⟩
          (.step ⟨(some 110), .plain (.indexAddr 5), [.tmp 108, .tmp 109], none⟩
          (.step ⟨(some 111), .plain (.fieldAddr 4), [.tmp 110], none⟩
          (.step ⟨(some 112), .plain (.load false 1), [.tmp 111], none⟩
          (.step ⟨(some 113), .plain .mv, [.tmp 13], none⟩
          (.step ⟨(some 114), .plain (.indexAddr 2), [.tmp 112, .tmp 113], none⟩
          (.step ⟨(some 115), .plain (.fieldAddr 0), [.tmp 114], none⟩
          (.step ⟨(some 116), .plain (.load false 1), [.tmp 115], none⟩
          (.step ⟨(some 117), .plain (.bin .add), [.tmp 107, .tmp 116], none⟩
          (.step ⟨(some 118), .plain .mv, [.tmp 0], none⟩
          (.step ⟨(some 119), .plain .mv, [.tmp 9], none⟩
          (.step ⟨(some 120), .plain (.indexAddr 5), [.tmp 118, .tmp 119], none⟩
          (.step ⟨(some 121), .plain (.fieldAddr 4), [.tmp 120], none⟩
          (.step ⟨(some 122), .plain (.load false 1), [.tmp 121], none⟩
          (.step ⟨(some 123), .plain .mv, [.tmp 13], none⟩
          (.step ⟨(some 124), .plain (.indexAddr 2), [.tmp 122, .tmp 123], none⟩
          (.step ⟨(some 125), .plain (.fieldAddr 1), [.tmp 124], none⟩
          (.step ⟨(some 126), .plain (.load false 1), [.tmp 125], none⟩
          (.step ⟨(some 127), .plain (.build [(.int .i64 0), (.int .i64 0)] [(0, 1), (1, 1)]), [.tmp 117, .tmp 126], none⟩
          (.step ⟨(some 128), .plain (.buildRow 79 2 1 [(.int .i64 0), (.int .i64 0)] [0]), [.tmp 127], none⟩
          (.step ⟨(some 129), .plain (.append 79 2 16), [.tmp 106, .tmp 128], none⟩
          (.step ⟨(some 130), .plain (.fieldAddr 3), [.tmp 7], none⟩
          (.step ⟨none, .plain (.store 1), [.tmp 130, .tmp 129], none⟩
          .done))))))))))))))))))))))))))) [105, 106, 107, 108, 109, 110, 111, 112, 113, 114, 115, 116, 117, 118, 119, 120, 121, 122, 123, 124, 125, 126, 127, 128, 129, 130]))
       (.ops [⟨(some 103), .plain .mv, [.tmp 13], none⟩,
         ⟨(some 104), .plain (.bin .add), [.tmp 103, .lit (.int .i64 1)], none⟩,
         ⟨(some 13), .plain .mv, [.tmp 104], none⟩] [103, 104]))))))))))))))
    (.ops [⟨(some 26), .plain .mv, [.tmp 9], none⟩,
      ⟨(some 27), .plain (.bin .add), [.tmp 26, .lit (.int .i64 1)], none⟩,
      ⟨(some 9), .plain .mv, [.tmp 27], none⟩] [26, 27]))))))
  (.seq (.seq (.ops [⟨(some 14), .plain .mv, [.lit (.int .i64 0)], none⟩] [])
  (.block 8
   (.loop
    (.seq (.seq (.ops [⟨(some 131), .plain .mv, [.tmp 14], none⟩,
      ⟨(some 132), .plain .mv, [.tmp 0], none⟩,
      ⟨(some 133), .plain (.len 1), [.tmp 132], none⟩,
      ⟨(some 134), .plain (.bin .lss), [.tmp 131, .tmp 133], none⟩] [131, 132, 133])
    (.cond (.tmp 134)
     .skip
     (.exit 8)))
    (.seq (.block 9
     (.seq (.ops [⟨(some 15), .plain .mv, [.lit (.int .i64 0)], none⟩] [])
     (.block 10
      (.loop
       (.seq (.seq (.ops [⟨(some 137), .plain .mv, [.tmp 15], none⟩,
         ⟨(some 138), .plain .mv, [.tmp 0], none⟩,
         ⟨(some 139), .plain .mv, [.tmp 14], none⟩,
         ⟨(some 140), .plain (.indexAddr 5), [.tmp 138, .tmp 139], none⟩,
         ⟨(some 141), .plain (.fieldAddr 3), [.tmp 140], none⟩,
         ⟨(some 142), .plain (.load false 1), [.tmp 141], none⟩,
         ⟨(some 143), .plain (.len 1), [.tmp 142], none⟩,
         ⟨(some 144), .plain (.bin .lss), [.tmp 137, .tmp 143], none⟩] [137, 138, 139, 140, 141, 142, 143])
       (.cond (.tmp 144)
        .skip
        (.exit 10)))
       (.seq (.block 11
        (.seq (.ops [⟨(some 147), .plain .mv, [.tmp 0], none⟩,
          ⟨(some 148), .plain .mv, [.tmp 14], none⟩,
          ⟨(some 149), .plain (.indexAddr 5), [.tmp 147, .tmp 148], none⟩,
          ⟨(some 150), .plain (.fieldAddr 3), [.tmp 149], none⟩,
          ⟨(some 151), .plain (.load false 1), [.tmp 150], none⟩,
          ⟨(some 152), .plain .mv, [.tmp 15], none⟩,
          ⟨(some 153), .plain (.indexAddr 3), [.tmp 151, .tmp 152], none⟩,
          ⟨(some 154), .plain (.load true 3), [.tmp 153], none⟩,
          ⟨(some 16), .plain (.alloc [(.int .i64 0), (.str ⟨#[]⟩), (.int .i64 0)]), [], none⟩,
          ⟨none, .plain (.store 3), [.tmp 16, .tmp 154], none⟩] [147, 148, 149, 150, 151, 152, 153, 154])
        (.seq (.ops [⟨(some 156), .plain .mv, [.tmp 2], none⟩,
          ⟨(some 157), .plain (.fieldAddr 1), [.tmp 16], none⟩,
          ⟨(some 158), .plain (.load false 1), [.tmp 157], none⟩,
          ⟨(some 159), .call 127, [.tmp 156, .tmp 158], none⟩,
          ⟨(some 155), .plain .mv, [.tmp 159], none⟩,
          ⟨(some 160), .plain (.extract 0), [.tmp 155], none⟩,
          ⟨(some 161), .plain (.extract 1), [.tmp 155], none⟩,
          ⟨(some 17), .plain .mv, [.tmp 160], none⟩,
          ⟨(some 18), .plain .mv, [.tmp 161], none⟩] [156, 157, 158, 159, 155, 160, 161])
        (.seq (.seq (.ops [⟨(some 162), .plain .mv, [.tmp 18], none⟩,
          ⟨(some 163), .plain (.un .not), [.tmp 162], none⟩] [162])
        (.cond (.tmp 163)
         (.ops [⟨(some 165), .plain (.fieldAddr 2), [.tmp 7], none⟩,
           ⟨(some 166), .plain (.load false 1), [.tmp 165], none⟩,
           ⟨(some 167), .plain (.fieldAddr 1), [.tmp 16], none⟩,
           ⟨(some 168), .plain (.load false 1), [.tmp 167], none⟩,
           ⟨(some 169), .call 127, [.tmp 166, .tmp 168], none⟩,
           ⟨(some 164), .plain .mv, [.tmp 169], none⟩,
           ⟨(some 170), .plain (.extract 0), [.tmp 164], none⟩,
           ⟨(some 171), .plain (.extract 1), [.tmp 164], none⟩,
           ⟨(some 17), .plain .mv, [.tmp 170], none⟩] [165, 166, 167, 168, 169, 164, 170, 171])
         .skip))
        (.seq (.draw (.step ⟨(some 172), .plain .mv, [.tmp 8], none⟩
          (.step ⟨(some 173), .plain .mv, [.tmp 14], none⟩
          (.step ⟨(some 174), .plain (.indexAddr 1), [.tmp 172, .tmp 173], none⟩
          (.step ⟨(some 175), .plain (.load false 1), [.tmp 174], none⟩
          (.step ⟨(some 176), .plain .mv, [.tmp 1], none⟩
          (.step ⟨(some 177), .plain (.bin .sub), [.tmp 175, .tmp 176], none⟩
          (.step ⟨(some 178), .plain (.fieldAddr 0), [.tmp 16], none⟩
          (.step ⟨(some 179), .plain (.load false 1), [.tmp 178], none⟩
          (.step ⟨(some 180), .plain (.bin .add), [.tmp 177, .tmp 179], none⟩
          (.step ⟨(some 19), .plain .mv, [.tmp 180], none⟩
          .done)))))))))) [172, 173, 174, 175, 176, 177, 178, 179, 180])
        (.draw (.step ⟨(some 181), .plain (.fieldAddr 1), [.tmp 7], none⟩
          (.step ⟨(some 182), .plain (.load false 1), [.tmp 181], none⟩
          (.step ⟨(some 183), .plain .mv, [.tmp 19], none⟩
          (.step ⟨(some 184), .plain (.slice false true 0), [.tmp 182, .tmp 183], none⟩
          (.step ⟨(some 185), .plain .mv, [.tmp 17], none⟩
          (.step ⟨(some 186), .plain (.fieldAddr 2), [.tmp 16], none⟩
          (.step ⟨(some 187), .plain (.load false 1), [.tmp 186], none⟩
          (.step ⟨(some 188), .plain (.bin .add), [.tmp 185, .tmp 187], none⟩
          (.step ⟨(some 189), .call 131, [.tmp 188], none⟩
          (.step ⟨(some 190), .plain (.bin .add), [.tmp 184, .tmp 189], none⟩
          (.step ⟨(some 191), .plain (.fieldAddr 1), [.tmp 7], none⟩
          (.step ⟨(some 192), .plain (.load false 1), [.tmp 191], none⟩
          (.step ⟨(some 193), .plain .mv, [.tmp 19], none⟩
          (.step ⟨(some 194), .plain (.bin .add), [.tmp 193, .lit (.int .i64 4)], none⟩
          (.step ⟨(some 195), .plain (.slice true false 0), [.tmp 192, .tmp 194], none⟩
          (.step ⟨(some 196), .plain (.bin .add), [.tmp 190, .tmp 195], none⟩
          (.step ⟨(some 197), .plain (.fieldAddr 1), [.tmp 7], none⟩
          (.step ⟨none, .plain (.store 1), [.tmp 197, .tmp 196], none⟩
          .done)))))))))))))))))) [181, 182, 183, 184, 185, 186, 187, 188, 189, 190, 191, 192, 193, 194, 195, 196, 197]))))))
       (.ops [⟨(some 145), .plain .mv, [.tmp 15], none⟩,
         ⟨(some 146), .plain (.bin .add), [.tmp 145, .lit (.int .i64 1)], none⟩,
         ⟨(some 15), .plain .mv, [.tmp 146], none⟩] [145, 146])))))))
    (.ops [⟨(some 135), .plain .mv, [.tmp 14], none⟩,
      ⟨(some 136), .plain (.bin .add), [.tmp 135, .lit (.int .i64 1)], none⟩,
      ⟨(some 14), .plain .mv, [.tmp 136], none⟩] [135, 136]))))))
  (.seq (.ops [⟨(some 198), .plain (.load true 5), [.tmp 7], none⟩,
    ⟨none, .plain (.store 5), [.tmp 6, .tmp 198], none⟩] [198])
  .ret))))))
def cr98 : List Res := [(6, some (true, 5))]
theorem ok98 : FOk Zk.pg.toProgram Zk.imp 98 c98 cr98 Tryz.f98.ntmps := ⟨Tryz.f98, _, Tryz.func98, rfl, by kernel_rfl, by kernel_rfl, by kernel_rfl, rfl⟩

/-- ironbark/ironbarkref34.defined -/
def c105 : SC :=
  (.seq (.ops [⟨(some 3), .plain (.box 2), [.tmp 1], none⟩,
    ⟨(some 4), .plain .mv, [.lit .nilS], none⟩] [])
  (.seq (.ops [⟨(some 5), .plain .mv, [.lit (.int .i64 0)], none⟩] [])
  (.seq (.block 0
   (.loop
    (.seq (.seq (.draw (.step ⟨(some 7), .plain .mv, [.tmp 5], none⟩
      (.step ⟨(some 8), .plain .mv, [.tmp 0], none⟩
      (.step ⟨(some 9), .plain (.len 1), [.tmp 8], none⟩
      (.step ⟨(some 10), .plain (.bin .lss), [.tmp 7, .tmp 9], none⟩
      (.step ⟨(some 11), .plain .mv, [.tmp 10], none⟩
      (.step ⟨(some 12), .plain .mv, [.tmp 0], (some (11, true))⟩
      (.step ⟨(some 13), .plain .mv, [.tmp 5], (some (11, true))⟩
      (.step ⟨(some 14), .plain (.indexAddr 2), [.tmp 12, .tmp 13], (some (11, true))⟩
      (.step ⟨(some 15), .plain (.fieldAddr 0), [.tmp 14], (some (11, true))⟩
      (.step ⟨(some 16), .plain (.load false 1), [.tmp 15], (some (11, true))⟩
      (.step ⟨(some 17), .plain (.fieldAddr 0), [.tmp 3], (some (11, true))⟩
      (.step ⟨(some 18), .plain (.load false 1), [.tmp 17], (some (11, true))⟩
      (.step ⟨(some 19), .plain (.bin .lss), [.tmp 16, .tmp 18], (some (11, true))⟩
      (.step ⟨(some 20), .plain .pick, [.tmp 11, .tmp 19, .lit (.bool false)], none⟩
      .done)))))))))))))) [7, 8, 9, 10, 11, 12, 13, 14, 15, 16, 17, 18, 19])
    (.cond (.tmp 20)
     .skip
     (.exit 0)))
    (.block 1
     (.ops [⟨(some 21), .plain .mv, [.tmp 5], none⟩,
       ⟨(some 22), .plain (.bin .add), [.tmp 21, .lit (.int .i64 1)], none⟩,
       ⟨(some 5), .plain .mv, [.tmp 22], none⟩] [21, 22])))))
  (.seq (.seq (.draw (.step ⟨(some 23), .plain .mv, [.tmp 5], none⟩
    (.step ⟨(some 24), .plain .mv, [.tmp 0], none⟩
    (.step ⟨(some 25), .plain (.len 1), [.tmp 24], none⟩
    (.step ⟨(some 26), .plain (.bin .lss), [.tmp 23, .tmp 25], none⟩
    (.step ⟨(some 27), .plain .mv, [.tmp 26], none⟩
    (.step ⟨(some 28), .plain .mv, [.tmp 0], (some (27, true))⟩
    (.step ⟨(some 29), .plain .mv, [.tmp 5], (some (27, true))⟩
    (.step ⟨(some 30), .plain (.indexAddr 2), [.tmp 28, .tmp 29], (some (27, true))⟩
    (.step ⟨(some 31), .plain (.fieldAddr 0), [.tmp 30], (some (27, true))⟩
    (.step ⟨(some 32), .plain (.load false 1), [.tmp 31], (some (27, true))⟩
    (.step ⟨(some 33), .plain (.fieldAddr 0), [.tmp 3], (some (27, true))⟩
    (.step ⟨(some 34), .plain (.load false 1), [.tmp 33], (some (27, true))⟩
    (.step ⟨(some 35), .plain (.bin .eql), [.tmp 32, .tmp 34], (some (27, true))⟩
    (.step ⟨(some 36), .plain .pick, [.tmp 27, .tmp 35, .lit (.bool false)], none⟩
    .done)))))))))))))) [23, 24, 25, 26, 27, 28, 29, 30, 31, 32, 33, 34, 35])
  (.cond (.tmp 36)
   (.seq (.ops [⟨(some 37), .plain .mv, [.tmp 0], none⟩,
     ⟨(some 4), .plain .mv, [.tmp 37], none⟩] [37])
   .ret)
   .skip))
  (.seq (.draw (.step ⟨(some 38), .plain .mv, [.tmp 0], none⟩
    (.step ⟨(some 39), .plain .mv, [.tmp 5], none⟩
    (.step ⟨(some 40), .plain (.slice false true 2), [.tmp 38, .tmp 39], none⟩
    (.or (.step ⟨(some 41), .plain (.append 65 2 24), [.lit .nilS, .tmp 40], none⟩
    (.step ⟨(some 42), .plain (.load true 2), [.tmp 3], none⟩
    (.step ⟨(some 43), .plain (.buildRow 65 2 1 [(.str ⟨#[]⟩), (.int .i64 0)] [0]), [.tmp 42], none⟩
    (.step ⟨(some 44), .plain (.append 65 2 24), [.tmp 41, .tmp 43], none⟩
    (.step ⟨(some 6), .plain .mv, [.tmp 44], none⟩
    .done)))))
    (.step ⟨(some 42), .plain (.load true 2), [.tmp 3], none⟩
    (.or (.step ⟨(some 41), .plain (.append 65 2 24), [.lit .nilS, .tmp 40], none⟩
    (.step ⟨(some 43), .plain (.buildRow 65 2 1 [(.str ⟨#[]⟩), (.int .i64 0)] [0]), [.tmp 42], none⟩
    (.step ⟨(some 44), .plain (.append 65 2 24), [.tmp 41, .tmp 43], none⟩
    (.step ⟨(some 6), .plain .mv, [.tmp 44], none⟩
    .done))))
    (.step ⟨(some 43), .plain (.buildRow 65 2 1 [(.str ⟨#[]⟩), (.int .i64 0)] [0]), [.tmp 42], none⟩
    (.step ⟨(some 41), .plain (.append 65 2 24), [.lit .nilS, .tmp 40], none⟩
    (.step ⟨(some 44), .plain (.append 65 2 24), [.tmp 41, .tmp 43], none⟩
    (.step ⟨(some 6), .plain .mv, [.tmp 44], none⟩
    .done)))))))))) [38, 39, 40, 41, 42, 43, 44])
  (.seq (.ops [⟨(some 45), .plain .mv, [.tmp 6], none⟩,
    ⟨(some 46), .plain .mv, [.tmp 0], none⟩,
    ⟨(some 47), .plain .mv, [.tmp 5], none⟩,
    ⟨(some 48), .plain (.slice true false 2), [.tmp 46, .tmp 47], none⟩,
    ⟨(some 49), .plain (.append 65 2 24), [.tmp 45, .tmp 48], none⟩,
    ⟨(some 4), .plain .mv, [.tmp 49], none⟩] [45, 46, 47, 48, 49])
  .ret))))))
def cr105 : List Res := [(4, none)]
theorem ok105 : FOk Zk.pg.toProgram Zk.imp 105 c105 cr105 Tryz.f105.ntmps := ⟨Tryz.f105, _, Tryz.func105, rfl, by kernel_rfl, by kernel_rfl, by kernel_rfl, rfl⟩

end Go.Pm

/- ZkS5: code, resolved. Written by gen.py out of what ShowSC.lean printed. -/
namespace Go.Pm
open Go Go.Proofs

/-- slices.IndexFunc[[]ironbark/api.Def,ironbark/api.Def] -/
def c179 : SC :=
  (.seq (.ops [⟨(some 4), .plain .mv, [.lit (.int .i64 0)], none⟩] [])
  (.seq (.seq (.ops [⟨(some 6), .plain .mv, [.tmp 0], none⟩,
    ⟨(some 7), .plain (.len 1), [.tmp 6], none⟩,
    ⟨(some 8), .plain .mv, [.lit (.int .i64 0)], none⟩] [6])
  (.block 0
   (.loop
    (.seq (.ops [⟨(some 9), .plain (.bin .lss), [.tmp 8, .tmp 7], none⟩] [])
    (.seq (.cond (.tmp 9)
     .skip
     (.exit 0))
    (.seq (.block 1
     (.seq (.ops [⟨(some 10), .plain .mv, [.tmp 8], none⟩,
       ⟨(some 5), .plain .mv, [.tmp 10], none⟩] [10])
     (.seq (.ops [⟨(some 11), .plain .mv, [.tmp 1], none⟩,
       ⟨(some 12), .plain .mv, [.tmp 0], none⟩,
       ⟨(some 13), .plain .mv, [.tmp 5], none⟩,
       ⟨(some 14), .plain (.indexAddr 2), [.tmp 12, .tmp 13], none⟩,
       ⟨(some 15), .plain (.load true 2), [.tmp 14], none⟩,
       ⟨(some 16), .callv, [.tmp 11, .tmp 15], none⟩] [11, 12, 13, 14, 15])
     (.cond (.tmp 16)
      (.seq (.ops [⟨(some 17), .plain .mv, [.tmp 5], none⟩,
        ⟨(some 4), .plain .mv, [.tmp 17], none⟩] [17])
      .ret)
      .skip))))
    (.ops [⟨(some 18), .plain (.bin .add), [.tmp 8, .lit (.int .i64 1)], none⟩,
      ⟨(some 8), .plain .mv, [.tmp 18], none⟩] [18])))))))
  (.seq (.ops [⟨(some 4), .plain .mv, [.lit (.int .i64 (-1))], none⟩] [])
  .ret)))
def cr179 : List Res := [(4, none)]
theorem ok179 : FOk Zk.pg.toProgram Zk.imp 179 c179 cr179 Tryz.f179.ntmps := ⟨Tryz.f179, _, Tryz.func179, rfl, by kernel_rfl, by kernel_rfl, by kernel_rfl, rfl⟩

/-- slices.Index[[]string,string] -/
def c180 : SC :=
  (.seq (.ops [⟨(some 4), .plain .mv, [.lit (.int .i64 0)], none⟩] [])
  (.seq (.seq (.ops [⟨(some 6), .plain .mv, [.tmp 0], none⟩,
    ⟨(some 7), .plain (.len 1), [.tmp 6], none⟩,
    ⟨(some 8), .plain .mv, [.lit (.int .i64 0)], none⟩] [6])
  (.block 0
   (.loop
    (.seq (.ops [⟨(some 9), .plain (.bin .lss), [.tmp 8, .tmp 7], none⟩] [])
    (.seq (.cond (.tmp 9)
     .skip
     (.exit 0))
    (.seq (.block 1
     (.seq (.ops [⟨(some 10), .plain .mv, [.tmp 8], none⟩,
       ⟨(some 5), .plain .mv, [.tmp 10], none⟩] [10])
     (.seq (.ops [⟨(some 11), .plain .mv, [.tmp 1], none⟩,
       ⟨(some 12), .plain .mv, [.tmp 0], none⟩,
       ⟨(some 13), .plain .mv, [.tmp 5], none⟩,
       ⟨(some 14), .plain (.indexAddr 1), [.tmp 12, .tmp 13], none⟩,
       ⟨(some 15), .plain (.load false 1), [.tmp 14], none⟩,
       ⟨(some 16), .plain (.bin .eql), [.tmp 11, .tmp 15], none⟩] [11, 12, 13, 14, 15])
     (.cond (.tmp 16)
      (.seq (.ops [⟨(some 17), .plain .mv, [.tmp 5], none⟩,
        ⟨(some 4), .plain .mv, [.tmp 17], none⟩] [17])
      .ret)
      .skip))))
    (.ops [⟨(some 18), .plain (.bin .add), [.tmp 8, .lit (.int .i64 1)], none⟩,
      ⟨(some 8), .plain .mv, [.tmp 18], none⟩] [18])))))))
  (.seq (.ops [⟨(some 4), .plain .mv, [.lit (.int .i64 (-1))], none⟩] [])
  .ret)))
def cr180 : List Res := [(4, none)]
theorem ok180 : FOk Zk.pg.toProgram Zk.imp 180 c180 cr180 Tryz.f180.ntmps := ⟨Tryz.f180, _, Tryz.func180, rfl, by kernel_rfl, by kernel_rfl, by kernel_rfl, rfl⟩

end Go.Pm

/- ZkC13: contracts: the first one of which something is so. -/
namespace Go.Pm
open Go Go.Proofs
attribute [-simp] List.getElem?_map

def indexF {α : Type} (φ : α → Bool) : List α → Nat → Int
  | [], _ => -1
  | x :: l, n => if φ x then n else indexF φ l (n + 1)

theorem indexF_shift {α : Type} {φ : α → Bool} {l : List α} {i : Nat} [Inhabited α] (h : i < l.length) (hφ : φ (ix l i) = false) : indexF φ (l.drop i) i = indexF φ (l.drop (i + 1)) (i + 1) := by
  rw [List.drop_eq_getElem_cons h]
  have : l[i] = ix l i := by simp [ix, List.getD, h]
  rw [this, indexF, if_neg (by rw [hφ]; simp)]

theorem call179 (p : Bool) (ds : List DDef) (f : FuncId) (caps : List AV) (φ : DDef → Bool) (hl : ds.length ≤ 2000000) (hb : tmpAs ⟨[], 0⟩ caps = some caps)
    (hf : ∀ d, PCalls Zk.pg f (.agg d.av :: caps) fun out => out = .ret (.bool (φ d))) :
    PCalls Zk.pg 179 [.list p 2 (ds.map DDef.av), .fn f caps] fun out => out = .ret (.int .i64 (indexF φ ds 0)) := by
  refine ok179.pcalls (by simp) ?_
  simp [c179]
  refine wpS_loop (ι := Nat) (fun i => [(0, .list p 2 (ds.map DDef.av)), (1, .fn f caps), (7, .int .i64 ds.length), (8, .int .i64 i)]) (fun _ => ⟨[], 0⟩) (fun i => ds.length - i)
    (fun i => i ≤ ds.length ∧ indexF φ ds 0 = indexF φ (ds.drop i) i) 0 (by simp) (Env.le_of (by simp)) rfl ?_
  intro i ⟨hi, hall⟩
  have hw : IntKind.i64.wrap (i + 1) = i + 1 := wrap64 (by omega) (by omega)
  simp
  refine br_cond rfl (fun h => ?_) (fun h => ?_)
  · have hlt : i < ds.length := by have := ltI_t.1 h; omega
    have ht : (ix ds i).av.take 2 = (ix ds i).av := rfl
    have hn : norefL (ix ds i).av = true := by simp [DDef.av]
    have hlen : (ix ds i).av.length = 2 := rfl
    simp [h, idxM, ht, hlen]
    refine xcall_p (hf (ix ds i)) (by simp [hb, hn]) ?_
    simp
    refine br_cond rfl (fun h1 => ?_) (fun h1 => ?_)
    · have : indexF φ (ds.drop i) i = i := by
        rw [List.drop_eq_getElem_cons hlt]
        have e : ds[i] = ix ds i := by simp [ix, List.getD, hlt]
        rw [e, indexF, if_pos h1]
      simp [cr179, hall, this]
    · simp [hw]
      exact ⟨i + 1, ⟨by omega, by rw [hall]; exact indexF_shift hlt h1⟩, by omega, Env.le_of (by simp), Mem.le_of rfl (by simp)⟩
  · have hid : i = ds.length := by have := ltI_f.1 h; omega
    subst hid
    simp [h, cr179, hall, indexF]
end Go.Pm

/- ZkC14: contracts: the names that an object defines, as the linker says it. -/
namespace Go.Pm
open Go Go.Proofs
attribute [-simp] List.getElem?_map

theorem call143 (d : DDef) (o : Deck) (q : Bool) : PCalls Zk.pg 143 [.agg d.av, .iptr q o.av] fun out => out = .ret (.bool (eqS d.name o.name)) := by
  refine ok143.pcalls (by simp) ?_
  simp [c143, cr143, DDef.av, Deck.av]

theorem call142 (p : Bool) (ds : List DDef) (f : FuncId) (caps : List AV) (φ : DDef → Bool) (hl : ds.length ≤ 2000000) (hb : tmpAs ⟨[], 0⟩ caps = some caps) (hb2 : tmpBs ⟨[], 0⟩ caps = some caps)
    (hf : ∀ d, PCalls Zk.pg f (.agg d.av :: caps) fun out => out = .ret (.bool (φ d))) :
    PCalls Zk.pg 142 [.list p 2 (ds.map DDef.av), .fn f caps] fun out => out = .ret (.bool (leI 0 (indexF φ ds 0))) := by
  refine ok142.pcalls (by simp) ?_
  simp [c142]
  refine xcall_p (call179 p ds f caps φ hl hb hf) (by simp [hb2]) ?_
  simp [cr142]

theorem index_any {α : Type} {φ : α → Bool} : ∀ (l : List α) (n : Nat), leI 0 (indexF φ l n) = l.any φ
  | [], n => by simp [indexF, leI]
  | x :: l, n => by
    rw [indexF, List.any_cons]
    rcases Bool.eq_false_or_eq_true (φ x) with h | h
    · rw [if_pos h, h]; simp [leI]
    · rw [if_neg (by rw [h]; simp), h, index_any l (n + 1)]; rfl

/-- The names that an object defines, its own one ahead. -/
def linkDefs (o : Deck) : List DDef := if o.defs.any (fun d => eqS d.name o.name) then o.defs else ⟨o.name, 0⟩ :: o.defs

set_option maxRecDepth 20000 in
theorem call112 (o : Deck) (hs : o.Small) : PCalls Zk.pg 112 [.agg o.av] fun out => out = .ret (.list true 2 ((linkDefs o).map DDef.av)) := by
  refine ok112.pcalls (by simp) ?_
  have dl := hs.defs
  have hn := norefL_deck o
  simp [c112, Deck.av]
  refine xcall_p (call142 true o.defs 143 [.iptr false o.av] (fun d => eqS d.name o.name) (by omega) (by simp [tmpAs, tmpA, tmpB]) (by simp) (fun d => call143 d o false)) (by simp [Deck.av]) ?_
  rw [index_any]
  simp
  generalize hb : (o.defs.any fun d => eqS d.name o.name) = b
  refine br_cond rfl (fun h => ?_) (fun h => ?_)
  · have hd : linkDefs o = o.defs := by unfold linkDefs; rw [hb, if_pos h]
    simp [cr112, hd]
  · have hd : linkDefs o = ⟨o.name, 0⟩ :: o.defs := by unfold linkDefs; rw [hb, if_neg (by rw [h]; simp)]
    have hc2 : (1 + o.defs.length) * 24 ≤ 140737488355328 ∧ 1 + o.defs.length ≤ 9223372036854775807 := ⟨by omega, by omega⟩
    simp [cr112, hd, appendA, hc2, List.range_succ, DDef.av]
    rw [if_pos (by omega), List.take_of_length_le (by simp; omega)]
    simp [permLL]
end Go.Pm

/- ZkC7: contracts: an object of a library; a number's bytes. -/
namespace Go.Pm
open Go Go.Proofs
attribute [-simp] List.getElem?_map

def takes (l : List Deck) (name : ByteArray) (o : Deck) : Bool := !(l.any fun x => eqS x.name o.name) && definesF o name
def foundF (l : List Deck) (libs : List (List Deck)) (name : ByteArray) : Option Deck := libs.flatten.find? (takes l name)

/-- Whether one of the first is there. -/
def thereF (l : List Deck) (o : Deck) (j : Nat) : Bool := (l.take j).any fun x => eqS x.name o.name
theorem there_succ {l : List Deck} {o : Deck} {j : Nat} (h : j < l.length) : thereF l o (j + 1) = (thereF l o j || eqS (ix l j).name o.name) := by
  unfold thereF
  rw [List.take_add_one, List.any_append, idx (ltN h)]
  simp
theorem there_all {l : List Deck} {o : Deck} : thereF l o l.length = l.any fun x => eqS x.name o.name := by
  unfold thereF; rw [List.take_length]

/-- A struct that holds an object; the empty one. -/
def deckOr : Option Deck → List AV
  | some o => o.av
  | none => [.str ⟨#[]⟩, .str ⟨#[]⟩, .nilS, .nilS, .nilS]

set_option maxHeartbeats 4000000 in
theorem call129 (p q : Bool) (l : List Deck) (libs : List (List Deck)) (name : ByteArray) (hl : SmallL l) (hb : SmallLL libs) : PCalls Zk.pg 129 [.list p 5 (l.map Deck.av), .list q 1 (libs.map libAV), .str name]
    fun out => out = .ret (.tuple [.agg (deckOr (foundF l libs name)), .bool (foundF l libs name).isSome]) := by
  refine ok129.pcalls (by simp) ?_
  have dl := hl.len
  have bl := hb.len
  simp [c129]
  refine wpS_loop (ι := Nat × Nat) (fun s => [(0, .list p 5 (l.map Deck.av)), (1, .list q 1 (libs.map libAV)), (2, .str name), (6, .ptr 0 0 0), (8, .int .i64 s.1)]) (fun s => ⟨[(0, .cells (deckOr none))], s.2⟩) (fun s => libs.length - s.1)
    (fun s => s.1 ≤ libs.length ∧ foundF l libs name = (libs.drop s.1).flatten.find? (takes l name)) (0, 1) (by simp [foundF]) (Env.le_of (by simp)) (by simp [deckOr]) ?_
  intro ⟨i, nx⟩ ⟨hi, hall⟩
  simp only at hi hall
  have hw : IntKind.i64.wrap (i + 1) = i + 1 := wrap64 (by omega) (by omega)
  simp
  refine br_cond rfl (fun h => ?_) (fun h => ?_)
  · have hlt : i < libs.length := by have := ltI_t.1 h; omega
    rw [drop_ix hlt, List.flatten_cons] at hall
    have hs := hb.each _ (ix_mem hlt)
    have sl := hs.len
    simp [h]
    refine wpS_loop (ι := Nat × Nat) (fun s => [(0, .list p 5 (l.map Deck.av)), (1, .list q 1 (libs.map libAV)), (2, .str name), (6, .ptr 0 0 0), (8, .int .i64 i), (9, .int .i64 s.1)]) (fun s => ⟨[(0, .cells (deckOr none))], s.2⟩) (fun s => (ix libs i).length - s.1)
      (fun s => s.1 ≤ (ix libs i).length ∧ foundF l libs name = (((ix libs i).drop s.1) ++ (libs.drop (i + 1)).flatten).find? (takes l name)) (0, nx) (by simpa using hall) (Env.le_of (by simp)) (by simp) ?_
    intro ⟨k, nx⟩ ⟨hk, hka⟩
    simp only at hk hka
    have hwk : IntKind.i64.wrap (k + 1) = k + 1 := wrap64 (by omega) (by omega)
    simp [h, idxM, libAV, decksAV]
    refine br_cond rfl (fun h2 => ?_) (fun h2 => ?_)
    · have hlk : k < (ix libs i).length := by have := ltI_t.1 h2; omega
      rw [drop_ix hlk, List.cons_append, List.find?_cons] at hka
      generalize hox : ix (ix libs i) k = o at hka
      have hos : o.Small := by rw [← hox]; exact hs.each _ (ix_mem hlk)
      simp [h, h2, idxM, libAV, decksAV, deck_take, hox]
      refine wpS_loop (ι := Nat) (fun j => [(0, .list p 5 (l.map Deck.av)), (1, .list q 1 (libs.map libAV)), (2, .str name), (6, .ptr 0 0 0), (8, .int .i64 i), (9, .int .i64 k), (10, .ptr 1 nx 0), (11, .bool (thereF l o j)), (12, .int .i64 j)])
        (fun _ => ⟨[(0, .cells (deckOr none)), (nx, .cells o.av)], nx + 1⟩) (fun j => l.length - j) (fun j => j ≤ l.length) 0 (by simp) (Env.le_of (by simp [thereF])) (by simp [deckOr]) ?_
      intro j hj
      have hwj : IntKind.i64.wrap (j + 1) = j + 1 := wrap64 (by omega) (by omega)
      simp
      refine br_cond rfl (fun h3 => ?_) (fun h3 => ?_)
      · have hlj : j < l.length := by have := ltI_t.1 h3; omega
        simp [h3]
        refine br_dguard_f rfl (fun h4 => ?_) (fun h4 => ?_)
        · simp [h4, hwj]
          exact ⟨j + 1, by omega, by omega, Env.le_of (by simp [there_succ hlj, h4]), Mem.le_of rfl (by simp)⟩
        · simp [h3, h4, hwj, idxM, Deck.av]
          exact ⟨j + 1, by omega, by omega, Env.le_of (by simp [there_succ hlj, h4]), Mem.le_of rfl (by simp)⟩
      · have hjl : j = l.length := by have := ltI_f.1 h3; omega
        subst hjl
        have ht : takes l name o = (!(thereF l o l.length) && definesF o name) := by rw [there_all]; rfl
        simp [h3]
        refine br_guard_t rfl (fun h4 => ?_) (fun h4 => ?_) <;> simp at h4
        · simp [h4, deck_take]
          refine xcall_p (call161 o hos name) (by simp) ?_
          simp
          refine br_cond rfl (fun h5 => ?_) (fun h5 => ?_)
          · have hf : foundF l libs name = some o := by rw [hka, ht, h4, h5]; rfl
            simp [h5, cr129, hf, deckOr, deck_take]
          · have hf : takes l name o = false := by rw [ht, h4, h5]; rfl
            rw [hf] at hka
            simp [hwk]
            exact ⟨k + 1, ⟨by omega, by rw [hka]; simp⟩, by omega, Env.le_of (by simp), nx + 1, Mem.le_of rfl (by simp)⟩
        · have hf : takes l name o = false := by rw [ht, h4]; rfl
          rw [hf] at hka
          simp [h4, hwk]
          exact ⟨k + 1, ⟨by omega, by rw [hka]; simp⟩, by omega, Env.le_of (by simp), nx + 1, Mem.le_of rfl (by simp)⟩
    · have hkl : k = (ix libs i).length := by have := ltI_f.1 h2; omega
      subst hkl
      simp [h2, hw]
      exact ⟨i + 1, ⟨by omega, by rw [hka]; simp⟩, by omega, Env.le_of (by simp), nx, Mem.le_of rfl (by simp)⟩
  · have hid : i = libs.length := by have := ltI_f.1 h; omega
    subst hid
    have hn : foundF l libs name = none := by rw [hall]; simp
    simp [h, cr129, hn, deckOr]
end Go.Pm

/- ZkC8: contracts: a number's bytes; what is defined twice. -/
namespace Go.Pm
open Go Go.Proofs
attribute [-simp] List.getElem?_map

def byteF (n : Int) (k : Nat) : UInt8 := UInt8.ofNat (IntKind.u8.wrap (n.fdiv (2 ^ k))).toNat
def fourF (n : Int) : ByteArray := ⟨#[byteF n 24, byteF n 16, byteF n 8, byteF n 0]⟩

theorem addS_upd (s : ByteArray) : ∀ l : List ByteArray, updA (.str s) (.bool true) (setS l) = some (setS (if hasS l s then l else l ++ [s]))
  | [] => rfl
  | x :: l => by
    have ih := addS_upd s l
    unfold setS at ih ⊢
    rw [List.map_cons, updA]
    unfold hasS at ih ⊢
    simp only [keyEq, beq_eqS, List.any_cons]
    rcases Bool.eq_false_or_eq_true (eqS x s) with h | h
    · have := eqS_t.1 h
      subst this
      simp [h]
    · simp only [h, ih, Bool.false_or, Option.map_some]
      split <;> rfl

def addS (l : List ByteArray) (s : ByteArray) : List ByteArray := if hasS l s then l else l ++ [s]
theorem updAdd (s : ByteArray) (l : List ByteArray) : updA (.str s) (.bool true) (setS l) = some (setS (addS l s)) := addS_upd s l

/-- The names that were met, with those of one more object. -/
def meets (met : List ByteArray) (o : Deck) : List ByteArray := (defsF o).foldl (fun l d => addS l d.name) met
def doubleF : List ByteArray → List Deck → ByteArray
  | _, [] => ⟨#[]⟩
  | met, o :: l => if hasS met o.name then o.name else match o.defs.find? fun d => hasS met d.name with
    | some d => d.name
    | none => doubleF (meets met o) l

attribute [simp] updAdd

end Go.Pm
