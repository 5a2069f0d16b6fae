/- ZkS11: code, resolved. Written by gen.py out of what ShowSC.lean printed. -/
import Derived.Test.YtolfkdphlgkekaaGreatDoorGa
import Derived.Test.YtolfkdphlgkekaaGreatDoorGb
import Derived.KernelRfl
namespace Go.Pm
open Go Go.Proofs

/-- ironbark/link.must -/
def c24 : SC :=
  (.seq (.ops [⟨(some 2), .plain .mv, [.tmp 0], none⟩,
    ⟨(some 3), .plain (.un .not), [.tmp 2], none⟩] [2])
  (.cond (.tmp 3)
   (.ops [⟨(some 4), .plain (.build [] []), [], none⟩,
     ⟨(some 5), .plain (.mkIface 67), [.tmp 4], none⟩,
     ⟨none, .panic, [.tmp 5], none⟩] [4, 5])
   .skip))
def cr24 : List Res := []
theorem ok24 : FOk Zk.pg.toProgram Zk.imp 24 c24 cr24 Tryz.f24.ntmps := ⟨Tryz.f24, _, Tryz.func24, rfl, by kernel_rfl, by kernel_rfl, by kernel_rfl, rfl⟩

/-- ironbark/link.lines$1 -/
def c74 : SC :=
  (.block 0
   (.loop
    (.seq (.seq (.ops [⟨(some 10), .plain (.load false 1), [.tmp 1], none⟩,
      ⟨(some 11), .plain (.bin .neq), [.tmp 10, .lit (.str ⟨#[]⟩)], none⟩] [10])
    (.cond (.tmp 11)
     .skip
     (.exit 0)))
    (.block 1
     (.seq (.ops [⟨(some 13), .plain (.load false 1), [.tmp 1], none⟩,
       ⟨(some 14), .call 75, [.tmp 13, .lit (.str ⟨#[10]⟩)], none⟩,
       ⟨(some 12), .plain .mv, [.tmp 14], none⟩,
       ⟨(some 15), .plain (.extract 0), [.tmp 12], none⟩,
       ⟨(some 16), .plain (.extract 1), [.tmp 12], none⟩,
       ⟨(some 17), .plain (.extract 2), [.tmp 12], none⟩,
       ⟨(some 3), .plain .mv, [.tmp 15], none⟩,
       ⟨(some 4), .plain .mv, [.tmp 16], none⟩,
       ⟨(some 5), .plain .mv, [.tmp 17], none⟩] [13, 14, 12, 15, 16, 17])
     (.seq (.ops [⟨(some 18), .plain .mv, [.tmp 5], none⟩,
       ⟨(some 19), .call 24, [.tmp 18], none⟩] [18, 19])
     (.seq (.ops [⟨(some 20), .plain .mv, [.tmp 3], none⟩,
       ⟨(some 21), .call 76, [.tmp 20, .lit (.str ⟨#[32]⟩)], none⟩,
       ⟨(some 6), .plain .mv, [.tmp 21], none⟩] [20, 21])
     (.seq (.seq (.ops [⟨(some 22), .plain .mv, [.tmp 6], none⟩,
       ⟨(some 23), .plain (.len 1), [.tmp 22], none⟩,
       ⟨(some 24), .plain .mv, [.lit (.int .i64 0)], none⟩] [])
     (.block 2
      (.loop
       (.seq (.ops [⟨(some 25), .plain (.bin .lss), [.tmp 24, .tmp 23], none⟩] [])
       (.seq (.cond (.tmp 25)
        .skip
        (.exit 2))
       (.seq (.block 3
        (.seq (.ops [⟨(some 26), .plain (.indexAddr 1), [.tmp 22, .tmp 24], none⟩,
          ⟨(some 27), .plain (.load false 1), [.tmp 26], none⟩,
          ⟨(some 8), .plain .mv, [.tmp 27], none⟩] [26, 27])
        (.seq (.ops [⟨(some 28), .plain .mv, [.tmp 8], none⟩,
          ⟨(some 29), .plain (.bin .neq), [.tmp 28, .lit (.str ⟨#[]⟩)], none⟩,
          ⟨(some 30), .call 24, [.tmp 29], none⟩] [28, 29, 30])
        (.seq (.ops [⟨(some 31), .plain .mv, [.tmp 8], none⟩,
          ⟨(some 32), .plain (.len 0), [.tmp 31], none⟩,
          ⟨(some 33), .plain .mv, [.lit (.int .i64 0)], none⟩] [31])
        (.block 4
         (.loop
          (.seq (.ops [⟨(some 34), .plain (.bin .lss), [.tmp 33, .tmp 32], none⟩] [])
          (.seq (.cond (.tmp 34)
           .skip
           (.exit 4))
          (.seq (.block 5
           (.seq (.ops [⟨(some 35), .plain .mv, [.tmp 33], none⟩,
             ⟨(some 9), .plain .mv, [.tmp 35], none⟩] [35])
           (.ops [⟨(some 36), .plain .mv, [.tmp 8], none⟩,
             ⟨(some 37), .plain .mv, [.tmp 9], none⟩,
             ⟨(some 38), .plain .index, [.tmp 36, .tmp 37], none⟩,
             ⟨(some 39), .plain (.bin .geq), [.tmp 38, .lit (.int .u8 33)], none⟩,
             ⟨(some 40), .plain .mv, [.tmp 39], none⟩,
             ⟨(some 41), .plain .mv, [.tmp 8], (some (40, true))⟩,
             ⟨(some 42), .plain .mv, [.tmp 9], (some (40, true))⟩,
             ⟨(some 43), .plain .index, [.tmp 41, .tmp 42], (some (40, true))⟩,
             ⟨(some 44), .plain (.bin .leq), [.tmp 43, .lit (.int .u8 126)], (some (40, true))⟩,
             ⟨(some 45), .plain .pick, [.tmp 40, .tmp 44, .lit (.bool false)], none⟩,
             ⟨(some 46), .call 24, [.tmp 45], none⟩] [36, 37, 38, 39, 40, 41, 42, 43, 44, 45, 46])))
          (.ops [⟨(some 47), .plain (.bin .add), [.tmp 33, .lit (.int .i64 1)], none⟩,
            ⟨(some 33), .plain .mv, [.tmp 47], none⟩] [47]))))))))))
       (.ops [⟨(some 48), .plain (.bin .add), [.tmp 24, .lit (.int .i64 1)], none⟩,
         ⟨(some 24), .plain .mv, [.tmp 48], none⟩] [48])))))))
     (.seq (.seq (.ops [⟨(some 49), .plain .mv, [.tmp 0], none⟩,
       ⟨(some 50), .plain .mv, [.tmp 6], none⟩,
       ⟨(some 51), .callv, [.tmp 49, .tmp 50], none⟩,
       ⟨(some 52), .plain (.un .not), [.tmp 51], none⟩] [49, 50, 51])
     (.cond (.tmp 52)
      .ret
      .skip))
     (.ops [⟨(some 53), .plain .mv, [.tmp 4], none⟩,
       ⟨none, .plain (.store 1), [.tmp 1, .tmp 53], none⟩] [53]))))))))))
def cr74 : List Res := []
theorem ok74 : FOk Zk.pg.toProgram Zk.imp 74 c74 cr74 Tryz.f74.ntmps := ⟨Tryz.f74, _, Tryz.func74, rfl, by kernel_rfl, by kernel_rfl, by kernel_rfl, rfl⟩

/-- ironbark/link.lines -/
def c23 : SC :=
  (.seq (.ops [⟨(some 1), .plain (.box 1), [.tmp 0], none⟩,
    ⟨(some 2), .plain .mv, [.lit (.const .nilFunc)], none⟩] [])
  (.seq (.ops [⟨(some 3), .plain (.mkFn 74), [.tmp 1], none⟩,
    ⟨(some 2), .plain .mv, [.tmp 3], none⟩] [3])
  .ret))
def cr23 : List Res := [(2, none)]
theorem ok23 : FOk Zk.pg.toProgram Zk.imp 23 c23 cr23 Tryz.f23.ntmps := ⟨Tryz.f23, _, Tryz.func23, rfl, by kernel_rfl, by kernel_rfl, by kernel_rfl, rfl⟩

/-- ironbark/link.bytes -/
def c25 : SC :=
  (.seq (.ops [⟨(some 2), .plain .mv, [.lit (.str ⟨#[]⟩)], none⟩] [])
  (.seq (.ops [⟨(some 7), .plain .mv, [.tmp 0], none⟩,
    ⟨(some 8), .plain (.len 0), [.tmp 7], none⟩,
    ⟨(some 9), .plain (.bin .rem), [.tmp 8, .lit (.int .i64 2)], none⟩,
    ⟨(some 10), .plain (.bin .eql), [.tmp 9, .lit (.int .i64 0)], none⟩,
    ⟨(some 11), .call 24, [.tmp 10], none⟩] [7, 8, 9, 10, 11])
  (.seq (.ops [⟨(some 3), .plain .mv, [.lit .nilS], none⟩] [])
  (.seq (.seq (.ops [⟨(some 4), .plain .mv, [.lit (.int .i64 0)], none⟩] [])
  (.block 0
   (.loop
    (.seq (.seq (.ops [⟨(some 12), .plain .mv, [.tmp 4], none⟩,
      ⟨(some 13), .plain .mv, [.tmp 0], none⟩,
      ⟨(some 14), .plain (.len 0), [.tmp 13], none⟩,
      ⟨(some 15), .plain (.bin .lss), [.tmp 12, .tmp 14], none⟩] [12, 13, 14])
    (.cond (.tmp 15)
     .skip
     (.exit 0)))
    (.seq (.block 1
     (.seq (.draw (.step ⟨(some 18), .plain .mv, [.tmp 0], none⟩
       (.step ⟨(some 19), .plain .mv, [.tmp 4], none⟩
       (.step ⟨(some 20), .plain .index, [.tmp 18, .tmp 19], none⟩
       (.step ⟨(some 21), .call 77, [.lit (.str ⟨#[48, 49, 50, 51, 52, 53, 54, 55, 56, 57, 65, 66, 67, 68, 69, 70]⟩), .tmp 20], none⟩
       (.step ⟨(some 22), .plain .mv, [.tmp 0], none⟩
       (.step ⟨(some 23), .plain .mv, [.tmp 4], none⟩
       (.step ⟨(some 24), .plain (.bin .add), [.tmp 23, .lit (.int .i64 1)], none⟩
       (.step ⟨(some 25), .plain .index, [.tmp 22, .tmp 24], none⟩
       (.step ⟨(some 26), .call 77, [.lit (.str ⟨#[48, 49, 50, 51, 52, 53, 54, 55, 56, 57, 65, 66, 67, 68, 69, 70]⟩), .tmp 25], none⟩
       (.step ⟨(some 5), .plain .mv, [.tmp 21], none⟩
       (.step ⟨(some 6), .plain .mv, [.tmp 26], none⟩
       .done))))))))))) [18, 19, 20, 21, 22, 23, 24, 25, 26])
     (.seq (.ops [⟨(some 27), .plain .mv, [.tmp 5], none⟩,
       ⟨(some 28), .plain (.bin .geq), [.tmp 27, .lit (.int .i64 0)], none⟩,
       ⟨(some 29), .plain .mv, [.tmp 28], none⟩,
       ⟨(some 30), .plain .mv, [.tmp 6], (some (29, true))⟩,
       ⟨(some 31), .plain (.bin .geq), [.tmp 30, .lit (.int .i64 0)], (some (29, true))⟩,
       ⟨(some 32), .plain .pick, [.tmp 29, .tmp 31, .lit (.bool false)], none⟩,
       ⟨(some 33), .call 24, [.tmp 32], none⟩] [27, 28, 29, 30, 31, 32, 33])
     (.ops [⟨(some 34), .plain .mv, [.tmp 3], none⟩,
       ⟨(some 35), .plain .mv, [.tmp 5], none⟩,
       ⟨(some 36), .plain (.bin .shl), [.tmp 35, .lit (.int .u64 4)], none⟩,
       ⟨(some 37), .plain .mv, [.tmp 6], none⟩,
       ⟨(some 38), .plain (.bin .or), [.tmp 36, .tmp 37], none⟩,
       ⟨(some 39), .plain (.convInt .u8), [.tmp 38], none⟩,
       ⟨(some 40), .plain (.buildRow 5 1 1 [(.int .u8 0)] [0]), [.tmp 39], none⟩,
       ⟨(some 41), .plain (.append 5 1 1), [.tmp 34, .tmp 40], none⟩,
       ⟨(some 3), .plain .mv, [.tmp 41], none⟩] [34, 35, 36, 37, 38, 39, 40, 41]))))
    (.ops [⟨(some 16), .plain .mv, [.tmp 4], none⟩,
      ⟨(some 17), .plain (.bin .add), [.tmp 16, .lit (.int .i64 2)], none⟩,
      ⟨(some 4), .plain .mv, [.tmp 17], none⟩] [16, 17]))))))
  (.seq (.ops [⟨(some 42), .plain .mv, [.tmp 3], none⟩,
    ⟨(some 43), .plain .bytesToStr, [.tmp 42], none⟩,
    ⟨(some 2), .plain .mv, [.tmp 43], none⟩] [42, 43])
  .ret)))))
def cr25 : List Res := [(2, none)]
theorem ok25 : FOk Zk.pg.toProgram Zk.imp 25 c25 cr25 Tryz.f25.ntmps := ⟨Tryz.f25, _, Tryz.func25, rfl, by kernel_rfl, by kernel_rfl, by kernel_rfl, rfl⟩

/-- ironbark/link.number -/
def c26 : SC :=
  (.seq (.ops [⟨(some 2), .plain .mv, [.lit (.int .i64 0)], none⟩] [])
  (.seq (.ops [⟨(some 6), .plain .mv, [.tmp 0], none⟩,
    ⟨(some 7), .call 78, [.tmp 6], none⟩,
    ⟨(some 5), .plain .mv, [.tmp 7], none⟩,
    ⟨(some 8), .plain (.extract 0), [.tmp 5], none⟩,
    ⟨(some 9), .plain (.extract 1), [.tmp 5], none⟩,
    ⟨(some 3), .plain .mv, [.tmp 8], none⟩,
    ⟨(some 4), .plain .mv, [.tmp 9], none⟩] [6, 7, 5, 8, 9])
  (.seq (.ops [⟨(some 10), .plain .mv, [.tmp 4], none⟩,
    ⟨(some 11), .plain (.eqNil false false), [.tmp 10, .lit (.const .nilIface)], none⟩,
    ⟨(some 12), .plain .mv, [.tmp 11], none⟩,
    ⟨(some 13), .plain .mv, [.tmp 0], (some (12, true))⟩,
    ⟨(some 14), .call 79, [.tmp 13, .lit (.str ⟨#[45]⟩)], (some (12, true))⟩,
    ⟨(some 15), .plain (.len 0), [.tmp 14], (some (12, true))⟩,
    ⟨(some 16), .plain (.bin .leq), [.tmp 15, .lit (.int .i64 10)], (some (12, true))⟩,
    ⟨(some 17), .plain .pick, [.tmp 12, .tmp 16, .lit (.bool false)], none⟩,
    ⟨(some 18), .plain .mv, [.tmp 17], none⟩,
    ⟨(some 19), .plain .mv, [.tmp 3], (some (18, true))⟩,
    ⟨(some 20), .call 63, [.tmp 19], (some (18, true))⟩,
    ⟨(some 21), .plain .mv, [.tmp 0], (some (18, true))⟩,
    ⟨(some 22), .plain (.bin .eql), [.tmp 20, .tmp 21], (some (18, true))⟩,
    ⟨(some 23), .plain .pick, [.tmp 18, .tmp 22, .lit (.bool false)], none⟩,
    ⟨(some 24), .call 24, [.tmp 23], none⟩] [10, 11, 12, 13, 14, 15, 16, 17, 18, 19, 20, 21, 22, 23, 24])
  (.seq (.ops [⟨(some 25), .plain .mv, [.tmp 3], none⟩,
    ⟨(some 2), .plain .mv, [.tmp 25], none⟩] [25])
  .ret))))
def cr26 : List Res := [(2, none)]
theorem ok26 : FOk Zk.pg.toProgram Zk.imp 26 c26 cr26 Tryz.f26.ntmps := ⟨Tryz.f26, _, Tryz.func26, rfl, by kernel_rfl, by kernel_rfl, by kernel_rfl, rfl⟩

/-- ironbark/link.Read$1, behind its recover -/
def c22 : SC :=
  (.block 0
   (.seq (.ops [⟨(some 7), .plain (.eqNil false false), [.tmp 5, .lit (.const .nilIface)], none⟩] [])
   (.cond (.tmp 7)
    (.ops [⟨(some 2), .plain .mv, [.tmp 5], none⟩] [2])
    (.seq (.ops [⟨(some 8), .plain (.typeAssert 67 (.agg [])), [.tmp 5], none⟩,
      ⟨(some 9), .plain (.extract 1), [.tmp 8], none⟩,
      ⟨(some 10), .plain (.extract 0), [.tmp 8], none⟩] [8])
    (.cond (.tmp 9)
     (.seq (.ops [⟨(some 3), .plain (.alloc []), [], none⟩,
       ⟨none, .plain (.store 0), [.tmp 3, .tmp 10], none⟩] [3])
     (.ops [⟨(some 11), .plain (.build [(.str ⟨#[]⟩), (.str ⟨#[]⟩), .nilS, .nilS, .nilS] []), [], none⟩,
       ⟨none, .plain (.store 5), [.tmp 0, .tmp 11], none⟩,
       ⟨none, .plain (.store 1), [.tmp 1, .lit (.int .i64 2)], none⟩] [11]))
     (.seq (.ops [⟨(some 4), .plain .mv, [.tmp 5], none⟩] [])
     (.ops [⟨(some 6), .plain .mv, [.tmp 4], none⟩,
       ⟨none, .panic, [.tmp 6], none⟩] [6])))))))
theorem ok22 : FOkR Zk.pg.toProgram Zk.imp 22 5 c22 Tryz.f22.ntmps := ⟨Tryz.f22, _, _, Tryz.func22, rfl, by kernel_rfl, rfl, by kernel_rfl, by kernel_rfl, rfl, by decide, rfl⟩

/-- ironbark/link.Read, its front -/
def cx7 : SC :=
  (.seq (.ops [⟨(some 2), .plain (.alloc [(.str ⟨#[]⟩), (.str ⟨#[]⟩), .nilS, .nilS, .nilS]), [], none⟩,
    ⟨(some 3), .plain (.alloc [(.int .i64 0)]), [], none⟩,
    ⟨(some 4), .plain (.alloc [(.int .i64 0)]), [], none⟩] [])
  (.seq (.seq (.ops [⟨(some 12), .plain .mv, [.tmp 0], none⟩,
    ⟨(some 13), .plain (.len 0), [.tmp 12], none⟩,
    ⟨(some 14), .plain (.bin .gtr), [.tmp 13, .lit (.int .i64 200000)], none⟩] [12, 13])
  (.cond (.tmp 14)
   (.seq (.ops [⟨(some 15), .plain (.build [(.str ⟨#[]⟩), (.str ⟨#[]⟩), .nilS, .nilS, .nilS] []), [], none⟩,
     ⟨none, .plain (.store 5), [.tmp 2, .tmp 15], none⟩,
     ⟨none, .plain (.store 1), [.tmp 3, .lit (.int .i64 0)], none⟩,
     ⟨none, .plain (.store 1), [.tmp 4, .lit (.int .i64 3)], none⟩] [15])
   .ret)
   .skip))
  .skip))
/-- What a round of ironbark/link.Read assigns first. -/
def a7 : SC := (.ops [⟨(some 8), .plain .mv, [.tmp 21], none⟩] [])
/-- A round of ironbark/link.Read. -/
def b7 : SC :=
    (.block 1
     (.seq (.ops [⟨(some 9), .plain .mv, [.lit (.int .i64 0)], none⟩] [])
     (.seq (.block 2
      (.loop
       (.seq (.seq (.draw (.step ⟨(some 22), .plain .mv, [.tmp 9], none⟩
         (.step ⟨(some 23), .plain (.load false 1), [.tmp 6], none⟩
         (.step ⟨(some 24), .plain (.len 1), [.tmp 23], none⟩
         (.step ⟨(some 25), .plain (.bin .lss), [.tmp 22, .tmp 24], none⟩
         (.step ⟨(some 26), .plain .mv, [.tmp 25], none⟩
         (.step ⟨(some 27), .plain (.load false 1), [.tmp 6], (some (26, true))⟩
         (.step ⟨(some 28), .plain .mv, [.tmp 9], (some (26, true))⟩
         (.step ⟨(some 29), .plain (.indexAddr 1), [.tmp 27, .tmp 28], (some (26, true))⟩
         (.step ⟨(some 30), .plain (.load false 1), [.tmp 29], (some (26, true))⟩
         (.step ⟨(some 31), .plain .mv, [.tmp 8], (some (26, true))⟩
         (.step ⟨(some 32), .plain (.indexAddr 1), [.tmp 31, .lit (.int .i64 0)], (some (26, true))⟩
         (.step ⟨(some 33), .plain (.load false 1), [.tmp 32], (some (26, true))⟩
         (.step ⟨(some 34), .plain (.bin .neq), [.tmp 30, .tmp 33], (some (26, true))⟩
         (.step ⟨(some 35), .plain .pick, [.tmp 26, .tmp 34, .lit (.bool false)], none⟩
         .done)))))))))))))) [22, 23, 24, 25, 26, 27, 28, 29, 30, 31, 32, 33, 34])
       (.cond (.tmp 35)
        .skip
        (.exit 2)))
       (.block 3
        (.ops [⟨(some 36), .plain .mv, [.tmp 9], none⟩,
          ⟨(some 37), .plain (.bin .add), [.tmp 36, .lit (.int .i64 1)], none⟩,
          ⟨(some 9), .plain .mv, [.tmp 37], none⟩] [36, 37])))))
     (.seq (.ops [⟨(some 38), .plain .mv, [.tmp 9], none⟩,
       ⟨(some 39), .plain (.load false 1), [.tmp 6], none⟩,
       ⟨(some 40), .plain (.len 1), [.tmp 39], none⟩,
       ⟨(some 41), .plain (.bin .lss), [.tmp 38, .tmp 40], none⟩,
       ⟨(some 42), .plain .mv, [.tmp 41], none⟩,
       ⟨(some 43), .plain .mv, [.tmp 9], (some (42, true))⟩,
       ⟨(some 44), .plain (.load false 1), [.tmp 5], (some (42, true))⟩,
       ⟨(some 45), .plain (.bin .geq), [.tmp 43, .tmp 44], (some (42, true))⟩,
       ⟨(some 46), .plain .pick, [.tmp 42, .tmp 45, .lit (.bool false)], none⟩,
       ⟨(some 47), .plain .mv, [.tmp 46], none⟩,
       ⟨(some 48), .plain (.load false 1), [.tmp 5], (some (47, true))⟩,
       ⟨(some 49), .plain (.load false 1), [.tmp 6], (some (47, true))⟩,
       ⟨(some 50), .plain (.len 1), [.tmp 49], (some (47, true))⟩,
       ⟨(some 51), .plain (.bin .lss), [.tmp 48, .tmp 50], (some (47, true))⟩,
       ⟨(some 52), .plain .pick, [.tmp 47, .tmp 51, .lit (.bool false)], none⟩,
       ⟨(some 53), .plain .mv, [.tmp 52], none⟩,
       ⟨(some 54), .plain .mv, [.tmp 9], (some (53, true))⟩,
       ⟨(some 55), .plain (.bin .gtr), [.tmp 54, .lit (.int .i64 0)], (some (53, true))⟩,
       ⟨(some 56), .plain (.load false 1), [.tmp 5], (some (53, true))⟩,
       ⟨(some 57), .plain (.bin .gtr), [.tmp 56, .lit (.int .i64 0)], (some (53, true))⟩,
       ⟨(some 58), .plain (.eqBool false), [.tmp 55, .tmp 57], (some (53, true))⟩,
       ⟨(some 59), .plain .pick, [.tmp 53, .tmp 58, .lit (.bool false)], none⟩,
       ⟨(some 60), .plain .mv, [.tmp 59], none⟩,
       ⟨(some 61), .plain .mv, [.tmp 8], (some (60, true))⟩,
       ⟨(some 62), .plain (.len 1), [.tmp 61], (some (60, true))⟩,
       ⟨(some 63), .plain (.load false 1), [.tmp 7], (some (60, true))⟩,
       ⟨(some 64), .plain .mv, [.tmp 9], (some (60, true))⟩,
       ⟨(some 65), .plain (.indexAddr 1), [.tmp 63, .tmp 64], (some (60, true))⟩,
       ⟨(some 66), .plain (.load false 1), [.tmp 65], (some (60, true))⟩,
       ⟨(some 67), .plain (.bin .eql), [.tmp 62, .tmp 66], (some (60, true))⟩,
       ⟨(some 68), .plain .pick, [.tmp 60, .tmp 67, .lit (.bool false)], none⟩,
       ⟨(some 69), .call 24, [.tmp 68], none⟩] [38, 39, 40, 41, 42, 43, 44, 45, 46, 47, 48, 49, 50, 51, 52, 53, 54, 55, 56, 57, 58, 59, 60, 61, 62, 63, 64, 65, 66, 67, 68, 69])
     (.seq (.seq (.ops [⟨(some 70), .plain .mv, [.tmp 9], none⟩] [])
     (.block 4
      (.seq (.ops [⟨(some 72), .plain (.bin .eql), [.tmp 70, .lit (.int .i64 0)], none⟩,
        ⟨(some 71), .plain .mv, [.tmp 72], none⟩] [72])
      (.cond (.tmp 71)
       (.ops [⟨(some 73), .plain .mv, [.tmp 8], none⟩,
         ⟨(some 74), .plain (.indexAddr 1), [.tmp 73, .lit (.int .i64 1)], none⟩,
         ⟨(some 75), .plain (.load false 1), [.tmp 74], none⟩,
         ⟨(some 76), .plain (.fieldAddr 0), [.tmp 2], none⟩,
         ⟨none, .plain (.store 1), [.tmp 76, .tmp 75], none⟩] [73, 74, 75, 76])
       (.seq (.ops [⟨(some 78), .plain (.bin .eql), [.tmp 70, .lit (.int .i64 1)], none⟩,
         ⟨(some 77), .plain .mv, [.tmp 78], none⟩] [78])
       (.cond (.tmp 77)
        (.seq (.ops [⟨(some 79), .plain .mv, [.tmp 8], none⟩,
          ⟨(some 80), .plain (.indexAddr 1), [.tmp 79, .lit (.int .i64 1)], none⟩,
          ⟨(some 81), .plain (.load false 1), [.tmp 80], none⟩,
          ⟨(some 82), .plain (.len 0), [.tmp 81], none⟩,
          ⟨(some 83), .plain (.bin .leq), [.tmp 82, .lit (.int .i64 64)], none⟩,
          ⟨(some 84), .plain .mv, [.tmp 83], none⟩,
          ⟨(some 85), .plain (.fieldAddr 1), [.tmp 2], (some (84, true))⟩,
          ⟨(some 86), .plain (.load false 1), [.tmp 85], (some (84, true))⟩,
          ⟨(some 87), .plain (.len 0), [.tmp 86], (some (84, true))⟩,
          ⟨(some 88), .plain (.bin .rem), [.tmp 87, .lit (.int .i64 32)], (some (84, true))⟩,
          ⟨(some 89), .plain (.bin .eql), [.tmp 88, .lit (.int .i64 0)], (some (84, true))⟩,
          ⟨(some 90), .plain .pick, [.tmp 84, .tmp 89, .lit (.bool false)], none⟩,
          ⟨(some 91), .call 24, [.tmp 90], none⟩] [79, 80, 81, 82, 83, 84, 85, 86, 87, 88, 89, 90, 91])
        (.draw (.step ⟨(some 92), .plain (.fieldAddr 1), [.tmp 2], none⟩
          (.step ⟨(some 93), .plain (.load false 1), [.tmp 92], none⟩
          (.step ⟨(some 94), .plain .mv, [.tmp 8], none⟩
          (.step ⟨(some 95), .plain (.indexAddr 1), [.tmp 94, .lit (.int .i64 1)], none⟩
          (.step ⟨(some 96), .plain (.load false 1), [.tmp 95], none⟩
          (.last ⟨(some 97), .call 25, [.tmp 96], none⟩
          (.step ⟨(some 98), .plain (.bin .add), [.tmp 93, .tmp 97], none⟩
          (.step ⟨(some 99), .plain (.fieldAddr 1), [.tmp 2], none⟩
          (.step ⟨none, .plain (.store 1), [.tmp 99, .tmp 98], none⟩
          .done))))))))) [92, 93, 94, 95, 96, 97, 98, 99]))
        (.seq (.ops [⟨(some 101), .plain (.bin .eql), [.tmp 70, .lit (.int .i64 2)], none⟩,
          ⟨(some 100), .plain .mv, [.tmp 101], none⟩] [101])
        (.cond (.tmp 100)
         (.draw (.step ⟨(some 102), .plain (.fieldAddr 2), [.tmp 2], none⟩
           (.step ⟨(some 103), .plain (.load false 1), [.tmp 102], none⟩
           (.step ⟨(some 104), .plain .mv, [.tmp 8], none⟩
           (.step ⟨(some 105), .plain (.indexAddr 1), [.tmp 104, .lit (.int .i64 1)], none⟩
           (.step ⟨(some 106), .plain (.load false 1), [.tmp 105], none⟩
           (.step ⟨(some 107), .plain .mv, [.tmp 8], none⟩
           (.step ⟨(some 108), .plain (.indexAddr 1), [.tmp 107, .lit (.int .i64 2)], none⟩
           (.step ⟨(some 109), .plain (.load false 1), [.tmp 108], none⟩
           (.last ⟨(some 110), .call 26, [.tmp 109], none⟩
           (.step ⟨(some 111), .plain (.build [(.str ⟨#[]⟩), (.int .i64 0)] [(0, 1), (1, 1)]), [.tmp 106, .tmp 110], none⟩
           (.step ⟨(some 112), .plain (.buildRow 65 2 1 [(.str ⟨#[]⟩), (.int .i64 0)] [0]), [.tmp 111], none⟩
           (.step ⟨(some 113), .plain (.append 65 2 24), [.tmp 103, .tmp 112], none⟩
           (.step ⟨(some 114), .plain (.fieldAddr 2), [.tmp 2], none⟩
           (.step ⟨none, .plain (.store 1), [.tmp 114, .tmp 113], none⟩
           .done)))))))))))))) [102, 103, 104, 105, 106, 107, 108, 109, 110, 111, 112, 113, 114])
         (.seq (.ops [⟨(some 116), .plain (.bin .eql), [.tmp 70, .lit (.int .i64 3)], none⟩,
           ⟨(some 115), .plain .mv, [.tmp 116], none⟩] [116])
         (.cond (.tmp 115)
          (.seq (.ops [⟨(some 117), .plain .mv, [.tmp 8], none⟩,
            ⟨(some 118), .plain (.indexAddr 1), [.tmp 117, .lit (.int .i64 1)], none⟩,
            ⟨(some 119), .plain (.load false 1), [.tmp 118], none⟩,
            ⟨(some 120), .call 26, [.tmp 119], none⟩,
            ⟨(some 10), .plain .mv, [.tmp 120], none⟩] [117, 118, 119, 120])
          (.draw (.step ⟨(some 121), .plain (.fieldAddr 3), [.tmp 2], none⟩
            (.step ⟨(some 122), .plain (.load false 1), [.tmp 121], none⟩
            (.step ⟨(some 123), .plain .mv, [.tmp 10], none⟩
            (.step ⟨(some 124), .plain .mv, [.tmp 8], none⟩
            (.step ⟨(some 125), .plain (.indexAddr 1), [.tmp 124, .lit (.int .i64 2)], none⟩
            (.step ⟨(some 126), .plain (.load false 1), [.tmp 125], none⟩
            (.step ⟨(some 127), .plain .mv, [.tmp 8], none⟩
            (.step ⟨(some 128), .plain (.indexAddr 1), [.tmp 127, .lit (.int .i64 3)], none⟩
            (.step ⟨(some 129), .plain (.load false 1), [.tmp 128], none⟩
            (.last ⟨(some 130), .call 26, [.tmp 129], none⟩
            (.step ⟨(some 131), .plain (.build [(.int .i64 0), (.str ⟨#[]⟩), (.int .i64 0)] [(0, 1), (1, 1), (2, 1)]), [.tmp 123, .tmp 126, .tmp 130], none⟩
            (.step ⟨(some 132), .plain (.buildRow 77 3 1 [(.int .i64 0), (.str ⟨#[]⟩), (.int .i64 0)] [0]), [.tmp 131], none⟩
            (.step ⟨(some 133), .plain (.append 77 3 32), [.tmp 122, .tmp 132], none⟩
            (.step ⟨(some 134), .plain (.fieldAddr 3), [.tmp 2], none⟩
            (.step ⟨none, .plain (.store 1), [.tmp 134, .tmp 133], none⟩
            .done))))))))))))))) [121, 122, 123, 124, 125, 126, 127, 128, 129, 130, 131, 132, 133, 134]))
          (.seq (.ops [⟨(some 136), .plain (.bin .eql), [.tmp 70, .lit (.int .i64 4)], none⟩,
            ⟨(some 135), .plain .mv, [.tmp 136], none⟩] [136])
          (.cond (.tmp 135)
           (.seq (.ops [⟨(some 137), .plain .mv, [.tmp 8], none⟩,
             ⟨(some 138), .plain (.indexAddr 1), [.tmp 137, .lit (.int .i64 1)], none⟩,
             ⟨(some 139), .plain (.load false 1), [.tmp 138], none⟩,
             ⟨(some 140), .call 26, [.tmp 139], none⟩,
             ⟨(some 11), .plain .mv, [.tmp 140], none⟩] [137, 138, 139, 140])
           (.draw (.step ⟨(some 141), .plain (.fieldAddr 4), [.tmp 2], none⟩
             (.step ⟨(some 142), .plain (.load false 1), [.tmp 141], none⟩
             (.step ⟨(some 143), .plain .mv, [.tmp 11], none⟩
             (.step ⟨(some 144), .plain .mv, [.tmp 8], none⟩
             (.step ⟨(some 145), .plain (.indexAddr 1), [.tmp 144, .lit (.int .i64 2)], none⟩
             (.step ⟨(some 146), .plain (.load false 1), [.tmp 145], none⟩
             (.last ⟨(some 147), .call 26, [.tmp 146], none⟩
             (.step ⟨(some 148), .plain (.build [(.int .i64 0), (.int .i64 0)] [(0, 1), (1, 1)]), [.tmp 143, .tmp 147], none⟩
             (.step ⟨(some 149), .plain (.buildRow 79 2 1 [(.int .i64 0), (.int .i64 0)] [0]), [.tmp 148], none⟩
             (.step ⟨(some 150), .plain (.append 79 2 16), [.tmp 142, .tmp 149], none⟩
             (.step ⟨(some 151), .plain (.fieldAddr 4), [.tmp 2], none⟩
             (.step ⟨none, .plain (.store 1), [.tmp 151, .tmp 150], none⟩
             .done)))))))))))) [141, 142, 143, 144, 145, 146, 147, 148, 149, 150, 151]))
           .skip))))))))))))
     (.seq (.ops [⟨(some 152), .plain .mv, [.tmp 9], none⟩,
       ⟨(some 153), .plain .max2, [.tmp 152, .lit (.int .i64 1)], none⟩,
       ⟨none, .plain (.store 1), [.tmp 5, .tmp 153], none⟩] [152, 153])
     (.seq (.seq (.ops [⟨(some 154), .plain .mv, [.tmp 9], none⟩,
       ⟨(some 155), .plain (.load false 1), [.tmp 6], none⟩,
       ⟨(some 156), .plain (.len 1), [.tmp 155], none⟩,
       ⟨(some 157), .plain (.bin .sub), [.tmp 156, .lit (.int .i64 1)], none⟩,
       ⟨(some 158), .plain (.bin .eql), [.tmp 154, .tmp 157], none⟩] [154, 155, 156, 157])
     (.cond (.tmp 158)
      (.ops [⟨(some 159), .plain (.load false 1), [.tmp 6], none⟩,
        ⟨(some 160), .plain (.len 1), [.tmp 159], none⟩,
        ⟨none, .plain (.store 1), [.tmp 5, .tmp 160], none⟩] [159, 160])
      .skip))
     (.ops [⟨(some 161), .plain (.load false 1), [.tmp 3], none⟩,
       ⟨(some 162), .plain (.bin .add), [.tmp 161, .lit (.int .i64 1)], none⟩,
       ⟨none, .plain (.store 1), [.tmp 3, .tmp 162], none⟩] [161, 162]))))))))
/-- ironbark/link.Read, behind what it defers -/
def cy7 : SC :=
  (.seq (.ops [⟨(some 5), .plain (.alloc [(.int .i64 0)]), [], none⟩,
    ⟨none, .plain (.store 1), [.tmp 5, .lit (.int .i64 0)], none⟩] [])
  (.seq (.ops [⟨(some 17), .plain (.buildRow 9 1 6 [(.str ⟨#[]⟩)] [0, 1, 2, 3, 4, 5]), [.lit (.str ⟨#[79, 66, 74, 69, 67, 84]⟩), .lit (.str ⟨#[67, 79, 68, 69]⟩), .lit (.str ⟨#[68, 69, 70]⟩), .lit (.str ⟨#[82, 69, 70]⟩), .lit (.str ⟨#[76, 73, 78, 69]⟩), .lit (.str ⟨#[69, 78, 68]⟩)], none⟩,
    ⟨(some 6), .plain (.alloc [.nilS]), [], none⟩,
    ⟨none, .plain (.store 1), [.tmp 6, .tmp 17], none⟩] [17])
  (.seq (.ops [⟨(some 18), .plain (.buildRow 3 1 6 [(.int .i64 0)] [0, 1, 2, 3, 4, 5]), [.lit (.int .i64 2), .lit (.int .i64 2), .lit (.int .i64 3), .lit (.int .i64 4), .lit (.int .i64 3), .lit (.int .i64 1)], none⟩,
    ⟨(some 7), .plain (.alloc [.nilS]), [], none⟩,
    ⟨none, .plain (.store 1), [.tmp 7, .tmp 18], none⟩] [18])
  (.seq (.seq (.ops [⟨(some 19), .plain .mv, [.tmp 0], none⟩,
    ⟨(some 20), .call 23, [.tmp 19], none⟩] [19])
  (.block 0
   (.rangeF (.tmp 20) [21]
    a7
    b7)))
  (.seq (.ops [⟨(some 163), .plain (.load false 1), [.tmp 5], none⟩,
    ⟨(some 164), .plain (.load false 1), [.tmp 6], none⟩,
    ⟨(some 165), .plain (.len 1), [.tmp 164], none⟩,
    ⟨(some 166), .plain (.bin .eql), [.tmp 163, .tmp 165], none⟩,
    ⟨(some 167), .call 24, [.tmp 166], none⟩] [163, 164, 165, 166, 167])
  (.seq (.seq (.ops [⟨(some 168), .plain (.load true 5), [.tmp 2], none⟩,
    ⟨(some 169), .call 27, [.tmp 168], none⟩,
    ⟨(some 170), .plain (.un .not), [.tmp 169], none⟩] [168, 169])
  (.cond (.tmp 170)
   (.seq (.draw (.step ⟨(some 171), .plain (.build [(.str ⟨#[]⟩), (.str ⟨#[]⟩), .nilS, .nilS, .nilS] []), [], none⟩
     (.or (.step ⟨(some 172), .plain (.load false 1), [.tmp 3], none⟩
     (.step ⟨none, .plain (.store 5), [.tmp 2, .tmp 171], none⟩
     (.step ⟨none, .plain (.store 1), [.tmp 3, .tmp 172], none⟩
     (.step ⟨none, .plain (.store 1), [.tmp 4, .lit (.int .i64 1)], none⟩
     .done))))
     (.step ⟨none, .plain (.store 5), [.tmp 2, .tmp 171], none⟩
     (.step ⟨(some 172), .plain (.load false 1), [.tmp 3], none⟩
     (.step ⟨none, .plain (.store 1), [.tmp 3, .tmp 172], none⟩
     (.step ⟨none, .plain (.store 1), [.tmp 4, .lit (.int .i64 1)], none⟩
     .done)))))) [171, 172])
   .ret)
   .skip))
  (.seq (.ops [⟨(some 173), .plain (.load true 5), [.tmp 2], none⟩,
    ⟨none, .plain (.store 5), [.tmp 2, .tmp 173], none⟩,
    ⟨none, .plain (.store 1), [.tmp 3, .lit (.int .i64 0)], none⟩,
    ⟨none, .plain (.store 1), [.tmp 4, .lit (.int .i64 0)], none⟩] [173])
  .ret)))))))
def cr7 : List Res := [(2, some (true, 5)), (3, some (false, 1)), (4, some (false, 1))]
theorem ok7 : FOkE Zk.pg.toProgram Zk.imp 7 cx7 16 22 [.tmp 2, .tmp 4] cy7 cr7 Tryz.f7.ntmps := ⟨Tryz.f7, _, _, _, _, Tryz.func7, rfl, by kernel_rfl, rfl, by kernel_rfl, by kernel_rfl, by kernel_rfl, by kernel_rfl, rfl, by decide, rfl⟩

end Go.Pm

/- ZkR1: contracts: must; the lines of a text. -/
namespace Go.Pm
open Go Go.Proofs
attribute [-simp] List.getElem?_map Mem.obj Mem.put

/-- What a bad line panics with. -/
abbrev badV : AV := .iface 67 (.agg [])

theorem postP_norm {rs : List Res} {R : AOut → Prop} {e : Env} {m : Mem} : postP rs R .norm e m = postP rs R .ret e m := rfl
theorem postA_normR {rs : List Res} {R : AOut → Mem → Prop} {e : Env} {m : Mem} : postA rs R .norm e m = postA rs R .ret e m := rfl

theorem call24 {b : Bool} : PCalls Zk.pg 24 [.bool b] fun out => out = if b then .ret (.tuple []) else .panic badV := by
  refine ok24.pcalls (by simp) ?_
  cases b
  · simp [c24]
    exact ⟨67, .agg [], ⟨rfl, rfl⟩, rfl⟩
  · simp [c24, postP_norm, cr24]

theorem xcall_must {imp : List FuncId} {b : Bool} {dst : Option Nat} {l : List SOp} {d : List Nat} {fs : List Fr} {Q : Post} {e : Env} {m : Mem} (hk : b = true → xops Zk.pg imp l d fs Q (e.put dst (.tuple [])) m) (hp : b = false → lv Zk.pg imp (.panic badV) fs Q e m) : xcall Zk.pg imp 24 [.bool b] dst l d fs Q e m := by
  refine xcall_r ((call24 (b := b)).acalls (m := m) (xs := [.bool b]) rfl) ?_ ?_
  · rintro v m' ⟨h1, rfl⟩
    cases b
    · cases h1
    · injection h1 with h1; subst h1; exact hk rfl
  · rintro v m' ⟨h1, rfl⟩
    cases b
    · injection h1 with h1; subst h1; exact hp rfl
    · cases h1

/-- A part of a line: not empty, of printable signs. -/
def okPart (x : ByteArray) : Bool := !(eqS x ⟨#[]⟩) && x.data.toList.all fun b => decide (33 ≤ b.toNat) && decide (b.toNat ≤ 126)

def nl : ByteArray := ⟨#[10]⟩
def sp : ByteArray := ⟨#[32]⟩
def partsOf (s : ByteArray) : List ByteArray := Lib.splitB sp 0 (Lib.countB s sp) s
abbrev cutL (t : ByteArray) : ByteArray := ⟨(Lib.cut t.data.toList nl.data.toList).1.toArray⟩
abbrev cutR (t : ByteArray) : ByteArray := ⟨(Lib.cut t.data.toList nl.data.toList).2.1.toArray⟩
abbrev cutB (t : ByteArray) : Bool := (Lib.cut t.data.toList nl.data.toList).2.2

/-- The next line's parts, and what is behind it; none: no line. -/
def nextLine (t : ByteArray) : Option (List ByteArray × ByteArray) :=
  if cutB t then (if (partsOf (cutL t)).all okPart then some (partsOf (cutL t), cutR t) else none) else none

theorem cut_less (t : ByteArray) (h : cutB t = true) : (cutL t).size < t.size ∧ (cutR t).size < t.size := by
  rcases Lib.indexB_cases t nl with h1 | ⟨i, h1, hroom⟩
  · have := (Lib.cutB_miss t nl h1).2.2
    unfold cutB at h
    rw [this] at h; cases h
  · obtain ⟨e1, e2, _⟩ := Lib.cutB_hit t nl i h1
    have hn : nl.size = 1 := rfl
    rw [hn] at e2 hroom
    unfold cutL cutR
    rw [e1, e2, ByteArray.size_extract, ByteArray.size_extract]
    omega

def lAV (l : List ByteArray) : AV := .list true 1 (l.map fun x => [.str x])

theorem call76' {s : ByteArray} (hs : s.size < 4294967281) : PCalls Zk.pg 76 [.str s, .str sp] fun out => out = .ret (.list true 1 ((partsOf s).map fun x => [.str x])) := call76 hs (by decide)
theorem parts_len (s : ByteArray) : (partsOf s).length ≤ s.size + 1 := by
  have h1 : 1 ≤ sp.size := by decide
  have := Lib.splitB_all sp h1 0 (Lib.countB s sp) s rfl
  have := Lib.countB_le sp h1 s.size s (Nat.le_refl _)
  unfold partsOf
  omega
theorem split_le (sep : ByteArray) : ∀ (n : Nat) (s x : ByteArray), x ∈ Lib.splitB sep 0 n s → x.size ≤ s.size
  | 0, s, x, h => by simp [Lib.splitB] at h; subst h; exact Nat.le_refl _
  | n + 1, s, x, h => by
    simp only [Lib.splitB] at h
    split at h
    · simp at h; subst h; exact Nat.le_refl _
    · rcases List.mem_cons.1 h with rfl | h
      · rw [ByteArray.size_extract]; omega
      · have := split_le sep n _ x h
        rw [ByteArray.size_extract] at this; omega
theorem part_le {s x : ByteArray} (h : x ∈ partsOf s) : x.size ≤ s.size := split_le _ _ _ _ h

/-- The signs of a part, from the first on. -/
def okSigns (x : ByteArray) (k : Nat) : Bool := (x.data.toList.take k).all fun b => decide (33 ≤ b.toNat) && decide (b.toNat ≤ 126)

theorem signs_succ {x : ByteArray} {k : Nat} (h : k < x.size) : okSigns x (k + 1) = (okSigns x k && (leI 33 (byteAt x k).toNat && leI (byteAt x k).toNat 126)) := by
  have hlen : k < x.data.toList.length := by simpa using h
  unfold okSigns
  rw [List.take_add_one, List.all_append, List.getElem?_eq_getElem hlen]
  have e : x.data.toList[k] = byteAt x k := by
    unfold byteAt
    rw [List.getD, List.getElem?_eq_getElem hlen]; rfl
  rw [e]
  simp only [Option.toList_some, List.all_cons, List.all_nil, Bool.and_true]
  congr 1
  have e1 : leI 33 (byteAt x k).toNat = decide (33 ≤ (byteAt x k).toNat) := by
    unfold leI
    exact decide_eq_decide.2 (by omega)
  have e2 : leI (byteAt x k).toNat 126 = decide ((byteAt x k).toNat ≤ 126) := by
    unfold leI
    exact decide_eq_decide.2 (by omega)
  rw [e1, e2]
theorem signs_all {x : ByteArray} {k : Nat} (h : x.size ≤ k) : okSigns x k = x.data.toList.all fun b => decide (33 ≤ b.toNat) && decide (b.toNat ≤ 126) := by
  unfold okSigns
  rw [List.take_of_length_le (by simpa using h)]
theorem signs_le {x : ByteArray} {k : Nat} (h : okSigns x x.size = true) : okSigns x k = true := by
  rw [signs_all (Nat.le_refl _)] at h
  unfold okSigns
  exact List.all_eq_true.2 fun b hb => List.all_eq_true.1 h b (List.mem_of_mem_take hb)

/-- (link.lines's iterator.) -/
theorem call74 {pos gen p g : Nat} {Inv : ByteArray → Mem → Prop} {X : Mem → Prop} {Y : AV → Mem → Prop} {t0 : ByteArray} {m0 : Mem}
    (hY : ∀ t m l rest, Inv t m → nextLine t = some (l, rest) → YCalls Zk.pg pos gen [lAV l] m fun out m' => (out = .ret (.bool true) ∧ m'.obj p g = some (.cells [.str t]) ∧ Inv rest (m'.put p g (.cells [.str rest]))) ∨ (out = .ret (.bool false) ∧ X m') ∨ ∃ v, out = .panic v ∧ Y v m')
    (hc : ∀ t m, Inv t m → m.obj p g = some (.cells [.str t]) ∧ t.size < 4294967281)
    (h0 : Inv t0 m0) : ACalls Zk.pg 74 [.yield pos gen, .ptr p g 0] m0 fun out m' => (out = .ret (.tuple []) ∧ ((∃ t, eqS t ⟨#[]⟩ = true ∧ Inv t m') ∨ X m')) ∨ ∃ v, out = .panic v ∧ (Y v m' ∨ (v = badV ∧ ∃ t, eqS t ⟨#[]⟩ = false ∧ nextLine t = none ∧ Inv t m')) := by
  refine ok74.acalls (by simp) ?_
  simp [c74]
  refine wpS_loop (ι := ByteArray × Mem) (fun _ => [(0, .yield pos gen), (1, .ptr p g 0)]) (fun s => s.2) (fun s => s.1.size) (fun s => Inv s.1 s.2) (t0, m0) h0 (Env.le_of (by simp)) rfl ?_
  rintro ⟨t, m⟩ hI
  simp only at hI
  obtain ⟨hobj, hsz⟩ := hc t m hI
  simp [hobj]
  refine br_cond rfl (fun h1 => ?_) (fun h1 => ?_)
  · simp
    have h1' : eqS t ⟨#[]⟩ = false := by simpa using h1
    simp [hobj]
    refine xcall_p (call75 (t := nl) hsz) rfl ?_
    simp
    refine xcall_must (b := cutB t) (fun h2 => ?_) (fun h2 => ?_)
    · have hless := cut_less t h2
      simp
      obtain ⟨l, hl⟩ : ∃ l, l = partsOf (cutL t) := ⟨_, rfl⟩
      have h76 := call76' (s := cutL t) (by omega)
      have hll := parts_len (cutL t)
      rw [← hl] at h76 hll
      refine xcall_p h76 rfl ?_
      simp
      refine wpS_loop (ι := Nat) (fun i => [(0, .yield pos gen), (1, .ptr p g 0), (4, .str (cutR t)), (6, .list true 1 (l.map fun x => [.str x])), (22, .list true 1 (l.map fun x => [.str x])), (23, .int .i64 l.length), (24, .int .i64 i)]) (fun _ => m) (fun i => l.length - i)
        (fun i => i ≤ l.length ∧ (l.take i).all okPart = true) 0 ⟨Nat.zero_le _, rfl⟩ (Env.le_of (by simp)) rfl ?_
      rintro i ⟨hi, hall⟩
      have hw : IntKind.i64.wrap (i + 1) = i + 1 := wrap64 (by omega) (by omega)
      simp
      refine br_cond rfl (fun h3 => ?_) (fun h3 => ?_)
      · have hlt : i < l.length := by have := ltI_t.1 h3; omega
        obtain ⟨x, hx⟩ : ∃ x, x = ix l i := ⟨_, rfl⟩
        simp [h3, idxM, ← hx]
        have hmem : x ∈ l := by rw [hx]; exact ix_mem hlt
        have hxs : x.size ≤ (cutL t).size := part_le (by rw [← hl]; exact hmem)
        have bad : okPart x = false → nextLine t = none := fun hb => by
          have : (partsOf (cutL t)).all okPart = false := by
            rw [← hl]
            exact List.all_eq_false.2 ⟨x, hmem, by simp [hb]⟩
          simp [nextLine, h2, this]
        refine xcall_must (fun h4 => ?_) (fun h4 => ?_)
        · simp
          refine wpS_loop (ι := Nat) (fun k => [(0, .yield pos gen), (1, .ptr p g 0), (4, .str (cutR t)), (6, .list true 1 (l.map fun x => [.str x])), (8, .str x), (22, .list true 1 (l.map fun x => [.str x])), (23, .int .i64 l.length), (24, .int .i64 i), (32, .int .i64 x.size), (33, .int .i64 k)]) (fun _ => m) (fun k => x.size - k)
            (fun k => k ≤ x.size ∧ okSigns x k = true) 0 ⟨Nat.zero_le _, rfl⟩ (Env.le_of (by simp)) rfl ?_
          rintro k ⟨hk, hok⟩
          simp
          refine br_cond rfl (fun h5 => ?_) (fun h5 => ?_)
          · have hlk : k < x.size := by have := ltI_t.1 h5; omega
            have hwk : IntKind.i64.wrap (k + 1) = k + 1 := wrap64 (by omega) (by omega)
            simp [h5, idxS]
            have key : ∀ b : Bool, (b = (leI 33 (byteAt x k).toNat && leI (byteAt x k).toNat 126)) → (b = true → okSigns x (k + 1) = true) ∧ (b = false → okPart x = false) := by
              intro b hb
              have e := signs_succ hlk
              rw [hok, ← hb, Bool.true_and] at e
              refine ⟨fun h => by rw [e, h], fun h => ?_⟩
              cases ho : okPart x with
              | false => rfl
              | true =>
                unfold okPart at ho
                rw [Bool.and_eq_true] at ho
                have := signs_le (k := k + 1) ((signs_all (Nat.le_refl _)).trans ho.2)
                rw [e, h] at this; cases this
            refine br_guard_t rfl (fun h6 => ?_) (fun h6 => ?_)
            · simp [h5, idxS, h6]
              refine xcall_must (fun h7 => ?_) (fun h7 => ?_)
              · simp [hwk]
                exact ⟨k + 1, ⟨by omega, (key _ rfl).1 (by simp [h6, h7])⟩, by omega, Env.le_of (by simp), Mem.le_refl _⟩
              · simp [postA_panic]
                exact .inr ⟨t, h1', bad ((key _ rfl).2 (by simp [h7])), hI⟩
            · simp [h6]
              refine xcall_must (fun h7 => ?_) (fun h7 => ?_)
              · cases h7
              · simp [postA_panic]
                exact .inr ⟨t, h1', bad ((key _ rfl).2 (by simp [h6])), hI⟩
          · simp [hw]
            have hxk : okPart x = true := by
              have hk' : x.size ≤ k := by have := ltI_f.1 h5; omega
              unfold okPart
              rw [← signs_all hk', hok, h4]; rfl
            refine ⟨i + 1, ⟨by omega, ?_⟩, by omega, Env.le_of (by simp), Mem.le_refl _⟩
            intro y hy
            rw [List.take_add_one, idx h3, ← hx] at hy
            simp only [Option.toList_some, List.mem_append, List.mem_singleton] at hy
            rcases hy with hy | rfl
            · exact List.all_eq_true.1 hall y hy
            · exact hxk
        · simp [postA_panic]
          exact .inr ⟨t, h1', bad (by simp [okPart, h4]), hI⟩
      · have hnext : nextLine t = some (l, cutR t) := by
          have hlen : l.length ≤ i := by have := ltI_f.1 h3; omega
          rw [List.take_of_length_le hlen] at hall
          simp [nextLine, h2, ← hl, hall]
        simp
        refine ⟨pos, gen, _, ⟨⟨rfl, rfl⟩, rfl⟩, ycall_r (hY t m l (cutR t) hI hnext) ?_ ?_⟩
        · rintro v m' (⟨hv, ho, hI'⟩ | ⟨hv, hX⟩ | ⟨v', hv, _⟩)
          · injection hv with hv; subst hv
            simp [ho]
            exact ⟨cutR t, _, hI', hless.2, Env.le_of (by simp), Mem.le_refl _⟩
          · injection hv with hv; subst hv
            simp [postA_ret, cr74]
            exact .inr hX
          · cases hv
        · rintro v m' (⟨hv, _⟩ | ⟨hv, _⟩ | ⟨v', hv, hYv⟩)
          · cases hv
          · cases hv
          · injection hv with hv; subst hv
            simp [postA_panic]
            exact .inl hYv
    · simp [postA_panic]
      exact .inr ⟨t, h1', by simp [nextLine, h2], hI⟩
  · have h1' : eqS t ⟨#[]⟩ = true := by simpa using h1
    simp [postA_normR, postA_ret, cr74]
    exact .inl ⟨t, h1', hI⟩

end Go.Pm

/- ZkR2: contracts: lines; numbers. -/
namespace Go.Pm
open Go Go.Proofs
attribute [-simp] List.getElem?_map

/-- link.lines: an iterator over a text of its own. -/
theorem call23 {t : ByteArray} {m : Mem} : ACalls Zk.pg 23 [.str t] m fun out m' => out = .ret (.fn 74 [.ptr m.store.length m.next 0]) ∧ m' = m.new (.cells [.str t]) := by
  refine ok23.acalls (by simp) ?_
  simp [c23, cr23, postA_ret, Mem.new]

def trimF (s : ByteArray) : ByteArray := ⟨(Lib.trimPrefix s.data.toList [45]).toArray⟩
def itoaF (n : Int) : ByteArray := ⟨(Lib.itoa n).toArray⟩
theorem call79' {s : ByteArray} : PCalls Zk.pg 79 [.str s, .str ⟨#[45]⟩] fun out => out = .ret (.str (trimF s)) := call79
theorem call63' {n : Int} (h0 : -9223372036854775808 ≤ n) (h1 : n ≤ 9223372036854775807) : PCalls Zk.pg 63 [.int .i64 n] fun out => out = .ret (.str (itoaF n)) := call63 h0 h1

/-- A number as it is written: what it is. -/
def numT (s : ByteArray) : Option Int :=
  if (atoiN s).2 && (leI (trimF s).size 10 && eqS (itoaF (atoiN s).1) s) then some (atoiN s).1 else none

theorem atoi_small {s : ByteArray} (h : (atoiN s).2 = true) : -9223372036854775808 ≤ (atoiN s).1 ∧ (atoiN s).1 ≤ 9223372036854775807 := by
  unfold atoiN at h ⊢
  rcases ha : Lib.atoiAll s.data.toList with v | _ | _
  rotate_left
  · rw [ha] at h; cases h
  · rw [ha] at h; cases h
  · simp only
    unfold Lib.atoiAll at ha
    split at ha
    · cases ha
    · simp only at ha
      split at ha
      · cases ha
      · cases ha
      · rename_i u hu
        split at ha
        · cases ha
        · rename_i h1
          split at ha
          · cases ha
          · rename_i h2
            injection ha with ha
            subst ha
            split <;> rename_i h3
            · have : ¬ 9223372036854775808 < u := fun h => h2 ⟨h3, h⟩
              omega
            · have : ¬ 9223372036854775808 ≤ u := fun h => h1 ⟨h3, h⟩
              omega

theorem call26 {s : ByteArray} (hs : s.size ≤ 281474976710656) : PCalls Zk.pg 26 [.str s] fun out => out = match numT s with | some n => .ret (.int .i64 n) | none => .panic badV := by
  refine ok26.pcalls (by simp) ?_
  have h78 := call78 hs
  obtain ⟨n, hn⟩ : ∃ n, n = (atoiN s).1 := ⟨_, rfl⟩
  obtain ⟨b, hb⟩ : ∃ b, b = (atoiN s).2 := ⟨_, rfl⟩
  have hsm := atoi_small (s := s)
  have hnum : numT s = if b && (leI (trimF s).size 10 && eqS (itoaF n) s) then some n else none := by rw [hn, hb]; rfl
  rw [hnum]
  rw [← hn, ← hb] at h78 hsm
  simp [c26]
  refine xcall_p h78 rfl ?_
  cases b with
  | false =>
    simp [atoiE]
    refine xcall_must (fun h7 => ?_) (fun h7 => ?_)
    · cases h7
    · simp [postP_panic]
  | true =>
    obtain ⟨k1, k2⟩ := hsm rfl
    simp [atoiE]
    refine xcall_p call79' rfl ?_
    simp
    refine br_guard_t rfl (fun h6 => ?_) (fun h6 => ?_)
    · simp [h6]
      refine xcall_p (call63' k1 k2) rfl ?_
      simp
      refine xcall_must (fun h7 => ?_) (fun h7 => ?_)
      · simp [postP_ret, cr26, h7]
      · simp [postP_panic, h7]
    · simp [h6]
      refine xcall_must (fun h7 => ?_) (fun h7 => ?_)
      · cases h7
      · simp [postP_panic]
end Go.Pm

/- ZkT3: contracts: the linker's Text. -/
namespace Go.Pm
open Go Go.Proofs
attribute [-simp] List.getElem?_map

/-- What the linker's Text tells of an object. -/
def textAV (o : Deck) : AV := if deckOk o then (if ltI 200000 (textOf (partsD o)).length then .tuple [.str ⟨#[]⟩, .int .i64 3] else .tuple [.str (mkB (textOf (partsD o))), .int .i64 0]) else .tuple [.str ⟨#[]⟩, .int .i64 1]

def memT (o : Deck) (t : ByteArray) (rn nx : Nat) : Mem :=
  ⟨[(0, .cells o.av), (1, .row 126 2 [[.rptr 1 1 2 0 0, .row 3 rn 1 0 t.size]]), (2, .row 9 1 [[.str wOBJ], [.str o.name]]), (rn, .row 5 1 (bytesOf t))], nx⟩
theorem lineT_eq (xs : List ByteArray) : lineT xs = mkB (lineOf xs) := rfl
theorem mkB_len (l : List UInt8) : (mkB l).size = l.length := rfl

theorem call64 (m : Mem) (bpos bgen rpos rgen n : Nat) (a : AV) (hb : m.obj bpos bgen = some (.row 126 2 [[a, .row rpos rgen 1 0 n]])) : ACalls Zk.pg 64 [.rptr bpos bgen 2 0 0] m fun out m' => out = .ret (.int .i64 n) ∧ m' = m := by
  refine ok64.acalls (by simp) ?_
  simp only [Mem.obj] at hb
  simp [c64, nilCheckA, hb, postA_ret, cr64]

theorem line_len2 (a b : ByteArray) : (lineOf [a, b]).length = a.size + b.size + 2 := by
  unfold lineOf Lib.join
  simp [List.intercalate]; omega
theorem line_len3 (a b c : ByteArray) : (lineOf [a, b, c]).length = a.size + b.size + c.size + 3 := by
  unfold lineOf Lib.join
  simp [List.intercalate]; omega
theorem line_len4 (a b c d : ByteArray) : (lineOf [a, b, c, d]).length = a.size + b.size + c.size + d.size + 4 := by
  unfold lineOf Lib.join
  simp [List.intercalate]; omega
theorem text_len {B : Nat} : ∀ l : List (List ByteArray), (∀ x ∈ l, (lineOf x).length ≤ B) → (textOf l).length ≤ B * l.length
  | [], _ => by simp [textOf]
  | x :: l, h => by
    have h1 := h x (by simp)
    have h2 := text_len l fun y hy => h y (List.mem_cons_of_mem _ hy)
    have e : textOf (x :: l) = lineOf x ++ textOf l := by simp [textOf]
    rw [e, List.length_append, List.length_cons, Nat.mul_add]
    omega
theorem text_write (l : List (List ByteArray)) (xs : List ByteArray) : mkB (textOf l) ++ lineT xs = mkB (textOf (l ++ [xs])) := by
  rw [lineT_eq, mkB_append, textOf_snoc]
theorem hexs_len (l : List UInt8) : (hexs l).length = 2 * l.length := by
  unfold hexs
  induction l with
  | nil => rfl
  | cons a l ih => simp [List.flatMap_cons, ih, hex2]; omega
theorem hexs_snoc (l : List UInt8) (b : UInt8) : hexs (l ++ [b]) = hexs l ++ hex2 b := by simp [hexs]
theorem itB_len {n : Int} (h0 : -9223372036854775807 ≤ n) (h1 : n ≤ 9223372036854775807) : (itB n).size ≤ 20 := by
  unfold itB Lib.itoa
  rw [mkB_len]
  split
  · have := decs_len 19 n.natAbs (by omega) (by omega)
    simp; omega
  · have := decs_len 19 n.toNat (by omega) (by omega)
    omega
theorem chunk_len (l : List UInt8) (k : Nat) : (chunk l k).length ≤ 32 := by unfold chunk; rw [List.length_take]; omega
theorem snoc_take {α β : Type} [Inhabited α] (f : α → β) {l : List α} {i : Nat} (h : i < l.length) : (l.take (i + 1)).map f = (l.take i).map f ++ [f (ix l i)] := by
  have e : l[i] = ix l i := by simp [ix, List.getD, h]
  rw [List.take_add_one, List.getElem?_eq_getElem h, List.map_append, e]
  rfl

set_option maxHeartbeats 8000000 in
theorem call19 (o : Deck) (hs : o.Small) : PCalls Zk.pg 19 [.agg o.av] fun out => out = .ret (textAV o) := by
  refine ok19.pcalls (by simp) ?_
  generalize hX : textAV o = X
  obtain ⟨nm, code, defs, refs, lines⟩ := o
  simp [c19, Deck.av]
  refine xcall_p (call27 ⟨nm, code, defs, refs, lines⟩ hs) (by simp [Deck.av]) ?_
  cases hok : deckOk ⟨nm, code, defs, refs, lines⟩ with
  | false =>
    simp [cr19, postP_ret, AV.perm]
    rw [← hX]
    simp [textAV, hok]
  | true =>
    have hT := deckOk_txt hok
    have q1 : (Value.pointer none).oneCell' = true := rfl
    have hnm : nm.size ≤ 1048576 := hs.name
    have hcs : code.size ≤ 20000 := hT.code
    have hdl : defs.length ≤ 1048576 := hs.defs
    have hrl : refs.length ≤ 1048576 := hs.refs
    have hll : lines.length ≤ 1048576 := hs.lines
    have hl0 : (lineOf [wOBJ, nm]).length ≤ 1100000 := by rw [line_len2, show wOBJ.size = 6 from rfl]; omega
    have hl1 : ∀ k, (lineOf (codeP code.data.toList k)).length ≤ 1100000 := fun k => by
      have := chunk_len code.data.toList k
      unfold codeP
      rw [line_len2, mkB_len, hexs_len, show wCODE.size = 4 from rfl]; omega
    have hl2 : ∀ d ∈ defs, (lineOf (defP d)).length ≤ 1100000 := fun d hd => by
      have h1 : d.name.size ≤ 1048576 := hs.dname d hd
      have h2 := hT.defs d hd
      have h3 := itB_len (n := d.at_) (by omega) (by omega)
      unfold defP
      rw [line_len3, show wDEF.size = 3 from rfl]; omega
    have hl3 : ∀ d ∈ refs, (lineOf (refP d)).length ≤ 1100000 := fun d hd => by
      have h1 : d.name.size ≤ 1048576 := hs.rname d hd
      have h2 := hT.refs d hd
      have h3 := itB_len (n := d.at_) (by omega) (by omega)
      have h4 := itB_len (n := d.plus) (by omega) (by omega)
      unfold refP
      rw [line_len4, show wREF.size = 3 from rfl]; omega
    have hl4 : ∀ d ∈ lines, (lineOf (lineP d)).length ≤ 1100000 := fun d hd => by
      have h2 := hT.lines d hd
      have h3 := itB_len (n := d.at_) (by omega) (by omega)
      have h4 := itB_len (n := d.stmt) (by omega) (by omega)
      unfold lineP
      rw [line_len3, show wLINE.size = 4 from rfl]; omega
    obtain ⟨L, hL⟩ : ∃ L, L = code.data.toList := ⟨_, rfl⟩
    rw [← hL] at hl1
    have hLl : L.length = code.size := by rw [hL]; simp
    obtain ⟨N, hN⟩ : ∃ N, N = nChunks L := ⟨_, rfl⟩
    have hNl : N = (code.size + 31) / 32 := by rw [hN, nChunks, hLl]
    obtain ⟨A1, hA1⟩ : ∃ A1 : Nat → List (List ByteArray), A1 = fun j => [[wOBJ, nm]] ++ (List.range j).map (codeP L) := ⟨_, rfl⟩
    obtain ⟨A2, hA2⟩ : ∃ A2 : Nat → List (List ByteArray), A2 = fun i => A1 N ++ (defs.take i).map defP := ⟨_, rfl⟩
    obtain ⟨A3, hA3⟩ : ∃ A3 : Nat → List (List ByteArray), A3 = fun i => A2 defs.length ++ (refs.take i).map refP := ⟨_, rfl⟩
    obtain ⟨A4, hA4⟩ : ∃ A4 : Nat → List (List ByteArray), A4 = fun i => A3 refs.length ++ (lines.take i).map lineP := ⟨_, rfl⟩
    have b1 : ∀ j, j ≤ N → (textOf (A1 j)).length ≤ 1100000 * 700 := fun j hj => by
      have h := text_len (B := 1100000) (A1 j) (fun x hx => by
        rw [hA1] at hx
        rcases List.mem_append.1 hx with hx | hx
        · rw [List.mem_singleton.1 hx]; exact hl0
        · obtain ⟨k, _, rfl⟩ := List.mem_map.1 hx; exact hl1 k)
      have : (A1 j).length = j + 1 := by rw [hA1]; simp
      rw [this] at h
      have h2 : 1100000 * (j + 1) ≤ 1100000 * 700 := Nat.mul_le_mul_left _ (by omega)
      omega
    have b2 : ∀ i, i ≤ defs.length → (textOf (A2 i)).length ≤ 1100000 * 700 + 1100000 * 1048576 := fun i hi => by
      have h := text_len (B := 1100000) ((defs.take i).map defP) (fun x hx => by
        obtain ⟨d, hd, rfl⟩ := List.mem_map.1 hx; exact hl2 d (List.mem_of_mem_take hd))
      have h1 := b1 N (Nat.le_refl _)
      have e : (textOf (A2 i)).length = (textOf (A1 N)).length + (textOf ((defs.take i).map defP)).length := by rw [hA2]; simp [textOf]
      have h2 : 1100000 * ((defs.take i).map defP).length ≤ 1100000 * 1048576 := Nat.mul_le_mul_left _ (by simp; omega)
      omega
    have b3 : ∀ i, i ≤ refs.length → (textOf (A3 i)).length ≤ 1100000 * 700 + 2 * (1100000 * 1048576) := fun i hi => by
      have h := text_len (B := 1100000) ((refs.take i).map refP) (fun x hx => by
        obtain ⟨d, hd, rfl⟩ := List.mem_map.1 hx; exact hl3 d (List.mem_of_mem_take hd))
      have h1 := b2 _ (Nat.le_refl _)
      have e : (textOf (A3 i)).length = (textOf (A2 defs.length)).length + (textOf ((refs.take i).map refP)).length := by rw [hA3]; simp [textOf]
      have h2 : 1100000 * ((refs.take i).map refP).length ≤ 1100000 * 1048576 := Nat.mul_le_mul_left _ (by simp; omega)
      omega
    have b4 : ∀ i, i ≤ lines.length → (textOf (A4 i)).length ≤ 1100000 * 700 + 3 * (1100000 * 1048576) := fun i hi => by
      have h := text_len (B := 1100000) ((lines.take i).map lineP) (fun x hx => by
        obtain ⟨d, hd, rfl⟩ := List.mem_map.1 hx; exact hl4 d (List.mem_of_mem_take hd))
      have h1 := b3 _ (Nat.le_refl _)
      have e : (textOf (A4 i)).length = (textOf (A3 refs.length)).length + (textOf ((lines.take i).map lineP)).length := by rw [hA4]; simp [textOf]
      have h2 : 1100000 * ((lines.take i).map lineP).length ≤ 1100000 * 1048576 := Nat.mul_le_mul_left _ (by simp; omega)
      omega
    have hA10 : mkB (textOf (A1 0)) = lineT [wOBJ, nm] := by rw [hA1]; simp [textOf, lineT_eq]
    simp [List.range_succ, q1, callArgs]
    refine xcall_a (ACalls.resay (m2 := ⟨[(0, .cells (Deck.av ⟨nm, code, defs, refs, lines⟩)), (1, .row 126 2 [[.const (.pointer none), .row 3 3 1 0 0]]), (2, .row 9 1 [[.str wOBJ], [.str nm]]), (3, .row 5 1 [])], 4⟩)
      (fun β K σ w h => ⟨_, List.prefix_append _ _, h.nil_elem (pos := 1) (g := 1) (els := [[.const (.pointer none), .nilS]]) (vs := [.const (.pointer none), .nilS]) 0 1 5 (sz2 := 1) (by decide) rfl rfl rfl⟩)
      (call59 _ 1 1 3 3 2 2 (.const (.pointer none)) ⟨#[]⟩ [wOBJ, nm] rfl rfl (by decide) (.inl rfl) rfl (by simp) (by simp) (by rw [lineT_eq, mkB_len]; show 0 + _ ≤ _; omega))) ?_
    have e0 : (⟨#[]⟩ : ByteArray) ++ lineT [wOBJ, nm] = mkB (textOf (A1 0)) := by
      rw [hA10, show (⟨#[]⟩ : ByteArray) = mkB [] from rfl, lineT, mkB_append]; rfl
    simp [writeM, e0]
    -- the code's lines
    refine wpS_loopS (ι := Nat × Nat × Nat) (fun g => [(1, .ptr 0 0 0), (4, .rptr 1 1 2 0 0), (5, .fn 59 [.rptr 1 1 2 0 0]), (6, .int .i64 (32 * g.1 : Nat))])
      (fun g => memT ⟨nm, code, defs, refs, lines⟩ (mkB (textOf (A1 g.1))) g.2.1 g.2.2) (fun g => N - g.1) (fun g => g.1 ≤ N) (0, 4, 5) (Nat.zero_le _) (Sim.of_le (Env.le_of (by simp)) (Mem.le_of rfl (by simp [memT, wOBJ]))) ?_
    rintro ⟨j, rn, nx⟩ hj
    simp only at hj
    obtain ⟨at_, hat⟩ : ∃ a, a = 32 * j := ⟨_, rfl⟩
    simp only [← hat]
    simp [memT, Deck.av]
    refine br_cond rfl (fun h1 => ?_) (fun h1 => ?_)
    · have hlt : at_ < code.size := by have := ltI_t.1 h1; omega
      obtain ⟨mn, hmn⟩ : ∃ mn, mn = min (at_ + 32) code.size := ⟨_, rfl⟩
      have w32 : IntKind.i64.wrap ((at_ : Int) + 32) = at_ + 32 := wrap64 (by omega) (by omega)
      have hmnI : (if (code.size : Int) < (at_ : Int) + 32 then (code.size : Int) else (at_ : Int) + 32) = mn := by split <;> omega
      simp
      refine wpS_loop (ι := Nat) (fun i => [(1, .ptr 0 0 0), (4, .rptr 1 1 2 0 0), (5, .fn 59 [.rptr 1 1 2 0 0]), (6, .int .i64 at_), (7, .str (mkB (hexs ((L.drop at_).take (i - at_))))), (8, .int .i64 i)])
        (fun _ => memT ⟨nm, code, defs, refs, lines⟩ (mkB (textOf (A1 j))) rn nx) (fun i => mn - i) (fun i => at_ ≤ i ∧ i ≤ mn) at_ ⟨Nat.le_refl _, by omega⟩ (Env.le_of (by simp [hexs, mkB])) (by simp [memT, Deck.av]) ?_
      rintro i ⟨hi1, hi2⟩
      have hwi : IntKind.i64.wrap ((i : Int) + 1) = i + 1 := wrap64 (by omega) (by omega)
      simp [memT, Deck.av, w32, hmnI]
      refine br_cond rfl (fun h2 => ?_) (fun h2 => ?_)
      · have hlti : i < mn := by have := ltI_t.1 h2; omega
        have hltc : i < code.size := by omega
        have hIc : ltI (i : Int) code.size = true := ltN hltc
        have hbw : IntKind.i64.wrap ((byteAt code i).toNat : Int) = (byteAt code i).toNat := by have := (byteAt code i).toNat_lt; exact wrap64 (by omega) (by omega)
        have hdrop : (L.drop at_).take (i + 1 - at_) = (L.drop at_).take (i - at_) ++ [byteAt code i] := by
          have h3 : i + 1 - at_ = (i - at_) + 1 := by omega
          have h4 : i - at_ < (L.drop at_).length := by rw [List.length_drop]; omega
          rw [h3, List.take_add_one, List.getElem?_eq_getElem h4, List.getElem_drop]
          have h5 : at_ + (i - at_) < code.data.toList.length := by rw [← hL, hLl]; omega
          have h6 : L[at_ + (i - at_)]'(by rw [hLl]; omega) = byteAt code i := by
            subst hL
            rw [byteAt_eq h5]
            congr 1; omega
          rw [h6]; rfl
        have hlen : (mkB (hexs ((L.drop at_).take (i - at_)))).size + (mkB (hex2 (byteAt code i))).size ≤ 9223372036854775807 := by
          rw [mkB_len, mkB_len, hexs_len]
          have : ((L.drop at_).take (i - at_)).length ≤ i := by rw [List.length_take]; omega
          simp [hex2]; omega
        simp [idxS hIc, hbw]
        refine xcall_p (call62 (byteAt code i)) rfl ?_
        simp [hlen, mkB_append, ← hexs_snoc, ← hdrop, hwi]
        exact ⟨i + 1, ⟨by omega, by omega⟩, by omega, Env.le_of (by simp), Mem.le_of rfl (by simp)⟩
      · have hie : i = mn := by have := ltI_f.1 h2; omega
        have hck : (L.drop at_).take (i - at_) = chunk L j := by
          unfold chunk
          rw [← hat, hie, hmn]
          rcases Nat.lt_or_ge (at_ + 32) code.size with h | h
          · rw [Nat.min_eq_left (by omega)]; congr 1; omega
          · rw [Nat.min_eq_right h, List.take_of_length_le (by rw [List.length_drop, hLl]; omega), List.take_of_length_le (by rw [List.length_drop, hLl]; omega)]
        have hjN : j < N := by omega
        have hbj := b1 j hj
        have hlj := hl1 j
        simp [hck, callArgs, List.range_succ]
        refine xcall_a (call59 _ 1 1 3 rn 4 nx (.rptr 1 1 2 0 0) (mkB (textOf (A1 j))) (codeP L j) rfl (by simp) (by decide) (.inr rfl) (by simp [codeP, wCODE]) (by simp [codeP]) (by simp [codeP]) (by rw [lineT_eq, mkB_len, mkB_len]; omega)) ?_
        have e1 : mkB (textOf (A1 j)) ++ lineT (codeP L j) = mkB (textOf (A1 (j + 1))) := by rw [text_write, hA1]; simp [List.range_succ]
        have w32' : IntKind.i64.wrap ((at_ : Int) + 32) = ((32 * (j + 1) : Nat) : Int) := by rw [w32]; omega
        simp [writeM, e1, w32']
        exact ⟨j + 1, by omega, by omega, nx + 1, nx + 2, Sim.of_le (Env.le_of (by simp)) (Mem.le_of rfl (by simp))⟩
    have hjN : j = N := by have := ltI_f.1 h1; omega
    subst hjN
    have hA20 : A1 j = A2 0 := by rw [hA2]; simp
    rw [hA20]
    simp
    -- the definitions' lines
    refine wpS_loopS (ι := Nat × Nat × Nat) (fun g => [(1, .ptr 0 0 0), (4, .rptr 1 1 2 0 0), (5, .fn 59 [.rptr 1 1 2 0 0]), (55, .list true 2 (defs.map DDef.av)), (56, .int .i64 defs.length), (57, .int .i64 g.1)])
      (fun g => memT ⟨nm, code, defs, refs, lines⟩ (mkB (textOf (A2 g.1))) g.2.1 g.2.2) (fun g => defs.length - g.1) (fun g => g.1 ≤ defs.length) (0, rn, nx) (Nat.zero_le _) (Sim.of_le (Env.le_of (by simp)) (Mem.le_of rfl (by simp [memT, Deck.av]))) ?_
    rintro ⟨i, rn, nx⟩ hi
    simp only at hi
    have hwi : IntKind.i64.wrap ((i : Int) + 1) = i + 1 := wrap64 (by omega) (by omega)
    simp [memT, Deck.av]
    refine br_cond rfl (fun h1 => ?_) (fun h1 => ?_)
    · have hlt : i < defs.length := by have := ltI_t.1 h1; omega
      have hmem := ix_mem hlt
      have hnum := hT.defs _ hmem
      have hlj := hl2 _ hmem
      have hbj := b2 i hi
      have e1 : mkB (textOf (A2 i)) ++ lineT (defP (ix defs i)) = mkB (textOf (A2 (i + 1))) := by rw [text_write, hA2]; simp [snoc_take defP hlt]
      obtain ⟨d, hd⟩ : ∃ d, d = ix defs i := ⟨_, rfl⟩
      rw [← hd] at hmem hnum hlj e1
      simp [h1, idxM h1, ← hd, DDef.av]
      refine xdcall_p rfl (call63' (n := d.at_) (by omega) (by omega)) rfl ?_
      simp [List.range_succ]
      refine xdops_callw (f := 59) (caps := [.rptr 1 1 2 0 0]) (xs := [.row 5 (nx + 1) 1 0 3]) (by rfl) (by simp) (call59 _ 1 1 3 rn 5 (nx + 1) (.rptr 1 1 2 0 0) (mkB (textOf (A2 i))) (defP d) rfl (by simp) (by decide) (.inr rfl) (by simp [defP, wDEF, itB, mkB, itoaF]) (by simp [defP]) (by simp [defP]) (by rw [lineT_eq, mkB_len, mkB_len]; omega)) ?_
      simp [writeM, e1, hwi]
      exact ⟨i + 1, by omega, by omega, nx + 2, nx + 3, Sim.of_le (Env.le_of (by simp)) (Mem.le_of rfl (by simp))⟩
    have hiN : i = defs.length := by have := ltI_f.1 h1; omega
    subst hiN
    have hA30 : A2 defs.length = A3 0 := by rw [hA3]; simp
    rw [hA30]
    simp
    -- the references' lines
    refine wpS_loopS (ι := Nat × Nat × Nat) (fun g => [(1, .ptr 0 0 0), (4, .rptr 1 1 2 0 0), (5, .fn 59 [.rptr 1 1 2 0 0]), (71, .list true 3 (refs.map DRef.av)), (72, .int .i64 refs.length), (73, .int .i64 g.1)])
      (fun g => memT ⟨nm, code, defs, refs, lines⟩ (mkB (textOf (A3 g.1))) g.2.1 g.2.2) (fun g => refs.length - g.1) (fun g => g.1 ≤ refs.length) (0, rn, nx) (Nat.zero_le _) (Sim.of_le (Env.le_of (by simp)) (Mem.le_of rfl (by simp [memT, Deck.av]))) ?_
    clear hi hwi h1 hA30 hA20 rn nx
    rintro ⟨i, rn, nx⟩ hi
    simp only at hi
    have hwi : IntKind.i64.wrap ((i : Int) + 1) = i + 1 := wrap64 (by omega) (by omega)
    simp [memT, Deck.av]
    refine br_cond rfl (fun h1 => ?_) (fun h1 => ?_)
    · have hlt : i < refs.length := by have := ltI_t.1 h1; omega
      have hmem := ix_mem hlt
      have hnum := hT.refs _ hmem
      have hlj := hl3 _ hmem
      have hbj := b3 i hi
      have e1 : mkB (textOf (A3 i)) ++ lineT (refP (ix refs i)) = mkB (textOf (A3 (i + 1))) := by rw [text_write, hA3]; simp [snoc_take refP hlt]
      obtain ⟨d, hd⟩ : ∃ d, d = ix refs i := ⟨_, rfl⟩
      rw [← hd] at hmem hnum hlj e1
      simp [h1, idxM h1, ← hd, DRef.av]
      refine xdcall_p rfl (call63' (n := d.at_) (by omega) (by omega)) rfl ?_
      simp
      refine xdcall_p rfl (call63' (n := d.plus) (by omega) (by omega)) rfl ?_
      simp [List.range_succ]
      refine xdops_callw (f := 59) (caps := [.rptr 1 1 2 0 0]) (xs := [.row 5 (nx + 1) 1 0 4]) (by rfl) (by simp) (call59 _ 1 1 3 rn 5 (nx + 1) (.rptr 1 1 2 0 0) (mkB (textOf (A3 i))) (refP d) rfl (by simp) (by decide) (.inr rfl) (by simp [refP, wREF, itB, mkB, itoaF]) (by simp [refP]) (by simp [refP]) (by rw [lineT_eq, mkB_len, mkB_len]; omega)) ?_
      simp [writeM, e1, hwi]
      exact ⟨i + 1, by omega, by omega, nx + 2, nx + 3, Sim.of_le (Env.le_of (by simp)) (Mem.le_of rfl (by simp))⟩
    have hiN : i = refs.length := by have := ltI_f.1 h1; omega
    subst hiN
    have hA40 : A3 refs.length = A4 0 := by rw [hA4]; simp
    rw [hA40]
    simp
    -- the lines' lines
    refine wpS_loopS (ι := Nat × Nat × Nat) (fun g => [(1, .ptr 0 0 0), (4, .rptr 1 1 2 0 0), (5, .fn 59 [.rptr 1 1 2 0 0]), (90, .list true 2 (lines.map DLine.av)), (91, .int .i64 lines.length), (92, .int .i64 g.1)])
      (fun g => memT ⟨nm, code, defs, refs, lines⟩ (mkB (textOf (A4 g.1))) g.2.1 g.2.2) (fun g => lines.length - g.1) (fun g => g.1 ≤ lines.length) (0, rn, nx) (Nat.zero_le _) (Sim.of_le (Env.le_of (by simp)) (Mem.le_of rfl (by simp [memT, Deck.av]))) ?_
    clear hi hwi h1 hA40 rn nx
    rintro ⟨i, rn, nx⟩ hi
    simp only at hi
    have hwi : IntKind.i64.wrap ((i : Int) + 1) = i + 1 := wrap64 (by omega) (by omega)
    simp [memT, Deck.av]
    refine br_cond rfl (fun h1 => ?_) (fun h1 => ?_)
    · have hlt : i < lines.length := by have := ltI_t.1 h1; omega
      have hmem := ix_mem hlt
      have hnum := hT.lines _ hmem
      have hlj := hl4 _ hmem
      have hbj := b4 i hi
      have e1 : mkB (textOf (A4 i)) ++ lineT (lineP (ix lines i)) = mkB (textOf (A4 (i + 1))) := by rw [text_write, hA4]; simp [snoc_take lineP hlt]
      obtain ⟨d, hd⟩ : ∃ d, d = ix lines i := ⟨_, rfl⟩
      rw [← hd] at hmem hnum hlj e1
      simp [h1, idxM h1, ← hd, DLine.av]
      refine xdcall_p rfl (call63' (n := d.at_) (by omega) (by omega)) rfl ?_
      simp
      refine xdcall_p rfl (call63' (n := d.stmt) (by omega) (by omega)) rfl ?_
      simp [List.range_succ]
      refine xdops_callw (f := 59) (caps := [.rptr 1 1 2 0 0]) (xs := [.row 5 (nx + 1) 1 0 3]) (by rfl) (by simp) (call59 _ 1 1 3 rn 5 (nx + 1) (.rptr 1 1 2 0 0) (mkB (textOf (A4 i))) (lineP d) rfl (by simp) (by decide) (.inr rfl) (by simp [lineP, wLINE, itB, mkB, itoaF]) (by simp [lineP]) (by simp [lineP]) (by rw [lineT_eq, mkB_len, mkB_len]; omega)) ?_
      simp [writeM, e1, hwi]
      exact ⟨i + 1, by omega, by omega, nx + 2, nx + 3, Sim.of_le (Env.le_of (by simp)) (Mem.le_of rfl (by simp))⟩
    have hiN : i = lines.length := by have := ltI_f.1 h1; omega
    subst hiN
    -- the end
    have hb4 := b4 _ (Nat.le_refl _)
    have hP : A4 lines.length ++ [[wEND]] = partsD ⟨nm, code, defs, refs, lines⟩ := by
      rw [hA4, hA3, hA2, hA1, hN, hL]
      simp [partsD]
    have hE : mkB (textOf (A4 lines.length)) ++ (⟨#[69, 78, 68, 10]⟩ : ByteArray) = mkB (textOf (partsD ⟨nm, code, defs, refs, lines⟩)) := by
      rw [← hP, textOf_snoc, ← mkB_append]; rfl
    simp
    refine xcall_a (call60 _ 1 1 3 rn (.rptr 1 1 2 0 0) (mkB (textOf (A4 lines.length))) ⟨#[69, 78, 68, 10]⟩ rfl (by simp) (by decide) (.inr rfl) (by rw [mkB_len]; show _ + 4 ≤ _; omega)) ?_
    simp [writeM, hE]
    obtain ⟨T, hT2⟩ : ∃ T, T = textOf (partsD ⟨nm, code, defs, refs, lines⟩) := ⟨_, rfl⟩
    simp only [textAV, hok, if_true] at hX
    rw [← hT2] at hX ⊢
    refine xcall_a (call64 _ 1 1 3 nx (mkB T).size (.rptr 1 1 2 0 0) rfl) ?_
    simp
    refine br_cond rfl (fun h2 => ?_) (fun h2 => ?_)
    · have hgt : ltI 200000 (T.length : Int) = true := h2
      rw [if_pos hgt] at hX
      simp [cr19, postP_ret, ← hX]
    · have hgt : ltI 200000 (T.length : Int) = false := h2
      rw [hgt] at hX
      simp
      refine xcall_a (call65 _ 1 1 3 nx (.rptr 1 1 2 0 0) (mkB T) rfl (by simp)) ?_
      simp [cr19, postP_ret, ← hX]
end Go.Pm

/- ZkX1: plain: the code's lines, byte by byte. -/
namespace Go.Pm
open Go Go.Proofs
attribute [-simp] List.getElem?_map

/-- What a byte of the code adds to the text. -/
def bitR (L : List UInt8) (k : Nat) : List UInt8 := (if k % 32 = 0 then [67, 79, 68, 69, 32] else []) ++ hex2 (L.getD k 0) ++ (if k % 32 = 31 ∨ k + 1 = L.length then [10] else [])
def codeR (L : List UInt8) (i : Nat) : List UInt8 := (List.range i).flatMap (bitR L)
theorem codeR_succ (L : List UInt8) (i : Nat) : codeR L (i + 1) = codeR L i ++ bitR L i := by
  unfold codeR
  rw [List.range_succ, List.flatMap_append]
  simp
theorem codeR_in (L : List UInt8) (j : Nat) : ∀ i, 32 * j + i ≤ L.length → i ≤ 32 →
    codeR L (32 * j + i) = codeR L (32 * j) ++ (if i = 0 then [] else [67, 79, 68, 69, 32] ++ hexs ((L.drop (32 * j)).take i) ++ (if i = 32 ∨ 32 * j + i = L.length then [10] else []))
  | 0, _, _ => by simp
  | i + 1, h, h2 => by
    have hlt : 32 * j + i < L.length := by omega
    have hg : L.getD (32 * j + i) 0 = L[32 * j + i] := by simp [List.getD, hlt]
    have ht : (L.drop (32 * j)).take (i + 1) = (L.drop (32 * j)).take i ++ [L[32 * j + i]] := by
      have h4 : i < (L.drop (32 * j)).length := by rw [List.length_drop]; omega
      rw [List.take_add_one, List.getElem?_eq_getElem h4, List.getElem_drop]
      rfl
    rw [show 32 * j + (i + 1) = (32 * j + i) + 1 by omega, codeR_succ, codeR_in L j i (by omega) (by omega), if_neg (by omega : ¬ i + 1 = 0), ht, hexs_snoc]
    have m1 : (32 * j + i) % 32 = i := by omega
    have n1 : ¬ (i = 32 ∨ 32 * j + i = L.length) := by omega
    have n2 : (i = 31 ∨ 32 * j + i + 1 = L.length) ↔ (i + 1 = 32 ∨ 32 * j + i + 1 = L.length) := by omega
    unfold bitR
    rw [m1, hg, if_neg n1]
    simp only [n2]
    by_cases h0 : i = 0
    · subst h0; simp [hexs]
    · rw [if_neg h0, if_neg h0]; simp [List.append_assoc]
theorem codeR_full (L : List UInt8) : ∀ j, j ≤ nChunks L → codeR L (min (32 * j) L.length) = textOf ((List.range j).map (codeP L))
  | 0, _ => by simp [codeR, textOf]
  | j + 1, h => by
    unfold nChunks at h
    have h1 : 32 * j < L.length := by omega
    have ih := codeR_full L j (by unfold nChunks; omega)
    rw [Nat.min_eq_left (by omega)] at ih
    obtain ⟨c, hc⟩ : ∃ c, c = min 32 (L.length - 32 * j) := ⟨_, rfl⟩
    have e : min (32 * (j + 1)) L.length = 32 * j + c := by omega
    have hck : (L.drop (32 * j)).take c = chunk L j := by
      unfold chunk
      rcases Nat.lt_or_ge 32 (L.length - 32 * j) with h5 | h5
      · rw [hc, Nat.min_eq_left (by omega)]
      · rw [List.take_of_length_le (by rw [List.length_drop]; omega), List.take_of_length_le (by rw [List.length_drop]; omega)]
    rw [e, codeR_in L j c (by omega) (by omega), ih, hck, if_neg (by omega), if_pos (by omega), List.range_succ, List.map_append, List.map_singleton, textOf_snoc]
    congr 1
    simp [lineOf, codeP, Lib.join, wCODE, mkB, List.intercalate]
theorem codeR_all (L : List UInt8) : codeR L L.length = textOf ((List.range (nChunks L)).map (codeP L)) := by
  rw [← codeR_full L _ (Nat.le_refl _), Nat.min_eq_right (by unfold nChunks; omega)]
theorem codeR_len (L : List UInt8) : ∀ i, (codeR L i).length ≤ 8 * i
  | 0 => by simp [codeR]
  | i + 1 => by
    have := codeR_len L i
    rw [codeR_succ, List.length_append]
    have : (bitR L i).length ≤ 8 := by
      unfold bitR
      split <;> split <;> simp [hex2]
    omega

theorem line2 (a b : ByteArray) : lineOf [a, b] = a.data.toList ++ [32] ++ b.data.toList ++ [10] := by
  simp [lineOf, Lib.join, List.intercalate]
theorem line3 (a b c : ByteArray) : lineOf [a, b, c] = a.data.toList ++ [32] ++ b.data.toList ++ [32] ++ c.data.toList ++ [10] := by
  simp [lineOf, Lib.join, List.intercalate]
theorem line4 (a b c d : ByteArray) : lineOf [a, b, c, d] = a.data.toList ++ [32] ++ b.data.toList ++ [32] ++ c.data.toList ++ [32] ++ d.data.toList ++ [10] := by
  simp [lineOf, Lib.join, List.intercalate]
end Go.Pm

/- ZkR3: contracts: bytes out of hexadecimal figures. -/
namespace Go.Pm
open Go Go.Proofs
attribute [-simp] List.getElem?_map

def figs : ByteArray := ⟨#[48, 49, 50, 51, 52, 53, 54, 55, 56, 57, 65, 66, 67, 68, 69, 70]⟩
def figI (b : UInt8) : Int := Lib.indexByte figs.data.toList b
theorem call77' {b : UInt8} : PCalls Zk.pg 77 [.str figs, .int .u8 b.toNat] fun out => out = .ret (.int .i64 (figI b)) := by
  have := call77 (s := figs) (c := b.toNat)
  have e : ((b.toNat : Int)).toNat.toUInt8 = b := by simp
  rw [e] at this
  exact this

/-- The byte of two figures. -/
def pairV (a b : Int) : Int := IntKind.u8.wrap (IntKind.i64.wrap ↑((IntKind.i64.wrap (a * 2 ^ min 4 IntKind.i64.bits) % 2 ^ IntKind.i64.bits).toNat ||| (b % 2 ^ IntKind.i64.bits).toNat))
def pairB (s : ByteArray) (k : Nat) : Int := pairV (figI (byteAt s (2 * k))) (figI (byteAt s (2 * k + 1)))
theorem mapM_bytes (f : Nat → Int) : ∀ l : List Nat, (l.map fun k => [AV.int .u8 (f k)]).mapM byteOf = some (l.map fun k => UInt8.ofNat (f k).toNat)
  | [] => rfl
  | k :: l => by
    have ih := mapM_bytes f l
    simp only [List.map_cons, List.mapM_cons, byteOf, ih]; rfl
theorem app_byte {L : List (List AV)} {x : AV} {k g nx : Nat} (hL : L.length = k) (hk : k ≤ 140737488355327) : appendA 5 1 1 ⟨[(g, .row 5 1 L), (nx, .row 5 1 [[x]])], nx + 1⟩ (.row 0 g 1 0 k) (.row 1 nx 1 0 1) = some (.row 0 (nx + 1) 1 0 (k + 1), ⟨[(nx + 1, .row 5 1 (L ++ [[x]])), (nx, .row 5 1 [[x]])], nx + 2⟩) := by
  subst hL
  have h1 : (L.length + 1) * 1 ≤ 140737488355328 := by omega
  have h2 : L.length + 1 ≤ 9223372036854775807 := by omega
  simp [appendA, appendN, elsOf, Mem.obj, Mem.turn, h1, h2]
  omega
def okPair (s : ByteArray) (k : Nat) : Bool := leI 0 (figI (byteAt s (2 * k))) && leI 0 (figI (byteAt s (2 * k + 1)))
/-- The bytes that hexadecimal figures say. -/
def bytesT (s : ByteArray) : Option ByteArray :=
  if eqI (Int.tmod s.size 2) 0 && (List.range (s.size / 2)).all (okPair s) then some ⟨((List.range (s.size / 2)).map fun k => UInt8.ofNat (pairB s k).toNat).toArray⟩ else none

theorem call25 {s : ByteArray} (hs : s.size ≤ 281474976710656) : PCalls Zk.pg 25 [.str s] fun out => out = match bytesT s with | some n => .ret (.str n) | none => .panic badV := by
  refine ok25.pcalls (by simp) ?_
  simp [c25]
  refine xcall_must (fun h1 => ?_) (fun h1 => ?_)
  · have hev : s.size = 2 * (s.size / 2) := by
      have h0 := eqI_t.1 h1
      rw [Int.tmod_eq_emod_of_nonneg (by omega)] at h0
      omega
    simp
    refine wpS_loopS (ι := Nat × Nat × Nat) (fun g => [(0, .str s), (3, .row 0 g.2.1 1 0 g.1), (4, .int .i64 (2 * g.1 : Nat))]) (fun g => ⟨[(g.2.1, .row 5 1 ((List.range g.1).map fun k => [.int .u8 (pairB s k)]))], g.2.2⟩) (fun g => s.size / 2 - g.1)
      (fun g => g.1 ≤ s.size / 2 ∧ (List.range g.1).all (okPair s) = true) (0, 0, 1) ⟨Nat.zero_le _, rfl⟩ (Sim.trans (Sim.of_le (Env.le_of (by simp)) (Mem.le_of rfl (by simp))) (Sim.nil_env 3 5 (sz := 1) (by decide) (by simp))) ?_
    rintro ⟨k, g, nx⟩ ⟨hk, hall⟩
    simp only at hk hall
    obtain ⟨p, hp⟩ : ∃ p, p = 2 * k := ⟨_, rfl⟩
    simp only [← hp]
    simp
    refine br_cond rfl (fun h3 => ?_) (fun h3 => ?_)
    · have hlt : p < s.size := by have := ltI_t.1 h3; omega
      obtain ⟨q, hq⟩ : ∃ q, q = p + 1 := ⟨_, rfl⟩
      have hwq : IntKind.i64.wrap (p + 1) = (q : Int) := by rw [wrap64 (by omega) (by omega)]; omega
      have hwp : IntKind.i64.wrap (p + 2) = ((p + 2 : Nat) : Int) := by rw [wrap64 (by omega) (by omega)]; omega
      have hlq : ltI (q : Int) s.size = true := ltN (by omega)
      simp [idxS h3, idxS hlq, hwq]
      refine xdcall_p rfl (call77' (b := byteAt s p)) rfl ?_
      simp [idxS h3, idxS hlq, hwq]
      refine xdcall_p rfl (call77' (b := byteAt s q)) rfl ?_
      simp
      have hpr : okPair s k = (leI 0 (figI (byteAt s p)) && leI 0 (figI (byteAt s q))) := by rw [okPair, hp, hq, hp]
      have hpb : pairB s k = pairV (figI (byteAt s p)) (figI (byteAt s q)) := by rw [pairB, hp, hq, hp]
      have hwp' : IntKind.i64.wrap (p + 2) = 2 * ((k : Int) + 1) := by rw [hwp]; omega
      have hlk : ((List.range k).map fun k => [AV.int .u8 (pairB s k)]).length = k := by simp
      have bad : okPair s k = false → bytesT s = none := fun hb => by
        have : (List.range (s.size / 2)).all (okPair s) = false := List.all_eq_false.2 ⟨k, List.mem_range.2 (by omega), by simp [hb]⟩
        simp [bytesT, this]
      refine br_guard_t rfl (fun h6 => ?_) (fun h6 => ?_)
      · simp [h6]
        refine xcall_must (fun h7 => ?_) (fun h7 => ?_)
        · simp
          rw [app_byte hlk (by omega)]
          simp [hwp']
          refine ⟨k + 1, ⟨by omega, ?_⟩, by omega, nx + 1, nx + 2, Sim.of_le (Env.le_of (by simp)) (Mem.le_of rfl ?_)⟩
          · intro y hy
            by_cases hyk : y = k
            · subst hyk; rw [hpr, h6, h7]; rfl
            · exact List.all_eq_true.1 hall y (List.mem_range.2 (by omega))
          · simp [List.range_succ, hpb, pairV]
        · have hb := bad (by rw [hpr, h7]; simp)
          simp [postP_panic, hb]
      · simp [h6]
        refine xcall_must (fun h7 => ?_) (fun h7 => ?_)
        · cases h7
        · have hb := bad (by rw [hpr, h6]; rfl)
          simp [postP_panic, hb]
    · have hke : k = s.size / 2 := by have := ltI_f.1 h3; omega
      simp
      rw [List.take_of_length_le (by simp), mapM_bytes]
      have hb : bytesT s = some ⟨((List.range k).map fun k => UInt8.ofNat (pairB s k).toNat).toArray⟩ := by
        rw [hke] at hall
        rw [bytesT, h1, hall, hke]; rfl
      simp [postP_ret, cr25, hb]
  · simp [postP_panic, bytesT, h1]
end Go.Pm

/- ZkR4: contracts: what link.Read defers. -/
namespace Go.Pm
open Go Go.Proofs
attribute [-simp] List.getElem?_map Mem.obj Mem.put

def noDeck : List AV := [.str ⟨#[]⟩, .str ⟨#[]⟩, .nilS, .nilS, .nilS]

theorem call22n {x y : AV} {m : Mem} : DCalls Zk.pg 22 [x, y] none m fun m' => m' = m := by
  refine ok22.dcalls (by simp) ?_
  simp [c22]

theorem over_all {vs ws : List AV} (h : vs.length = ws.length) : over vs 0 ws = ws := by
  simp [over, ← h]

/-- A bad line is caught: no object, an error. -/
theorem call22b {p g p2 g2 p3 g3 : Nat} {m : Mem} {vs : List AV} {v : AV} {o3 : AObj} (ho : m.obj p g = some (.cells vs)) (hvs : vs.length = 5) (he : m.obj p2 g2 = some (.cells [v])) (h3 : m.obj p3 g3 = some o3) (hne : p2 ≠ p) (hn1 : p3 ≠ p) (hn2 : p3 ≠ p2) :
    DCalls Zk.pg 22 [.ptr p g 0, .ptr p2 g2 0] (some badV) m fun m' => m'.obj p g = some (.cells noDeck) ∧ m'.obj p2 g2 = some (.cells [.int .i64 2]) ∧ m'.obj p3 g3 = some o3 := by
  refine ok22.dcalls (by simp) ?_
  simp [c22, postR_norm]
  obtain ⟨M, hM⟩ : ∃ M : Mem, M = ⟨m.store ++ [(m.next, .cells [])], m.next + 1⟩ := ⟨_, rfl⟩
  have hnew : M = m.new (.cells []) := hM
  have k0 : M.obj m.store.length m.next = some (.cells []) := by rw [hM]; simp [Mem.obj]
  have k1 : M.obj p g = some (.cells vs) := by rw [hnew]; exact obj_new ho
  have k2 : M.obj p2 g2 = some (.cells [v]) := by rw [hnew]; exact obj_new he
  have k3 : M.obj p3 g3 = some o3 := by rw [hnew]; exact obj_new h3
  rw [← hM]
  have ks : M.put m.store.length m.next (.cells []) = M := Mem.put_same (Mem.obj_some k0)
  have q1 : ∀ (M : Mem) (a b c d : Nat) (o o' : AObj), c ≠ a → M.obj c d = some o' → (M.put a b o).obj c d = some o' := by
    intro M a b c d o o' hne h
    unfold Mem.obj Mem.put at *
    simp only [List.getElem?_set_ne (Ne.symm hne)]
    exact h
  have q2 : ∀ (M : Mem) (a b : Nat) (o o' : AObj), M.obj a b = some o' → (M.put a b o).obj a b = some o := by
    intro M a b o o' h
    have hs := Mem.obj_some h
    have hlt := (List.getElem?_eq_some_iff.1 hs).1
    unfold Mem.obj Mem.put
    simp [hlt]
  have hd : List.drop 5 vs = [] := List.drop_of_length_le (by omega)
  have h5 : 5 ≤ vs.length := by omega
  obtain ⟨M2, hM2⟩ : ∃ M2, M2 = M.put p g (.cells [.str ⟨#[]⟩, .str ⟨#[]⟩, .nilS, .nilS, .nilS]) := ⟨_, rfl⟩
  have r1 : M2.obj p g = some (.cells noDeck) := by rw [hM2]; exact q2 _ _ _ _ _ k1
  have r2 : M2.obj p2 g2 = some (.cells [v]) := by rw [hM2]; exact q1 _ _ _ _ _ _ _ hne k2
  have r3 : M2.obj p3 g3 = some o3 := by rw [hM2]; exact q1 _ _ _ _ _ _ _ hn1 k3
  simp [k0, ks, k1, hd, h5, ← hM2, r2]
  exact ⟨q1 _ _ _ _ _ _ _ (Ne.symm hne) r1, q2 _ _ _ _ _ r2, q1 _ _ _ _ _ _ _ hn2 r3⟩
end Go.Pm

/- ZkR5: what a line of a text says; a round of the linker's Read. -/
namespace Go.Pm
open Go Go.Proofs
attribute [-simp] List.getElem?_map

/-- What lines begin with: OBJECT, CODE, DEF, REF, LINE, END; how many parts they have. -/
def wordsL : List ByteArray := [⟨#[79, 66, 74, 69, 67, 84]⟩, ⟨#[67, 79, 68, 69]⟩, ⟨#[68, 69, 70]⟩, ⟨#[82, 69, 70]⟩, ⟨#[76, 73, 78, 69]⟩, ⟨#[69, 78, 68]⟩]
def partsL : List Int := [2, 2, 3, 4, 3, 1]
def kOf (x : ByteArray) : Nat := wordsL.findIdx fun w => eqS w x

theorem kOf_is {x : ByteArray} {k : Nat} (h : k ≤ 6) (h1 : ∀ j, j < k → eqS (ix wordsL j) x = false) (h2 : k < 6 → eqS (ix wordsL k) x = true) : kOf x = k := by
  unfold kOf
  have hlen : wordsL.length = 6 := rfl
  rcases Nat.lt_or_ge k 6 with hk | hk
  · rw [List.findIdx_eq (by omega)]
    have e : ∀ (j : Nat) (hj : j < wordsL.length), wordsL[j] = ix wordsL j := fun j hj => by simp [ix, List.getD, hj]
    exact ⟨by rw [e]; exact h2 hk, fun j hj => by rw [e, h1 j hj]⟩
  · have : k = wordsL.length := by omega
    rw [this]
    refine List.findIdx_eq_length.2 fun x hx => ?_
    obtain ⟨j, hj, rfl⟩ := List.getElem_of_mem hx
    have e : wordsL[j] = ix wordsL j := by simp [ix, List.getD, hj]
    rw [e]
    exact h1 j (by omega)

/-- What is read so far: the object, the place in the order of lines, the number of lines. -/
structure RdSt where
  o : Deck
  stage : Nat
  n : Nat

def bodyR (o : Deck) (k : Nat) (l : List ByteArray) : Option Deck := match k with
  | 0 => some { o with name := ix l 1 }
  | 1 => if leI (ix l 1).size 64 && eqI ((o.code.size : Int).tmod 32) 0 then (bytesT (ix l 1)).map fun b => { o with code := o.code ++ b } else none
  | 2 => (numT (ix l 2)).map fun n => { o with defs := o.defs ++ [⟨ix l 1, n⟩] }
  | 3 => (numT (ix l 1)).bind fun a => (numT (ix l 3)).map fun b => { o with refs := o.refs ++ [⟨a, ix l 2, b⟩] }
  | 4 => (numT (ix l 1)).bind fun a => (numT (ix l 2)).map fun b => { o with lines := o.lines ++ [⟨a, b⟩] }
  | _ => some o
def stepOk (stage k : Nat) (l : List ByteArray) : Bool := ltI k 6 && (leI stage k && (ltI stage 6 && ((ltI 0 k == ltI 0 stage) && eqI l.length (ix partsL k))))
def stepR (S : RdSt) (l : List ByteArray) : Option RdSt :=
  if stepOk S.stage (kOf (ix l 0)) l then (bodyR S.o (kOf (ix l 0)) l).map fun o => ⟨o, if kOf (ix l 0) = 5 then 6 else max (kOf (ix l 0)) 1, S.n + 1⟩ else none

/-- The memory while a text is read. -/
def memR (t : ByteArray) (S : RdSt) (G : Nat × Nat × Nat) (nx : Nat) (lo : AObj) : Mem :=
  ⟨[(0, .cells [.str S.o.name, .str S.o.code, .row 9 G.1 2 0 S.o.defs.length, .row 10 G.2.1 3 0 S.o.refs.length, .row 11 G.2.2 2 0 S.o.lines.length]), (1, .cells [.int .i64 S.n]), (2, .cells [.int .i64 0]), (3, .cells [.int .i64 S.stage]),
    (4, .row 9 1 (wordsL.map fun x => [.str x])), (5, .cells [.row 4 4 1 0 6]), (6, .row 3 1 (partsL.map fun x => [.int .i64 x])), (7, .cells [.row 6 6 1 0 6]), (8, .cells [.str t]),
    (G.1, .row 65 2 (S.o.defs.map DDef.av)), (G.2.1, .row 77 3 (S.o.refs.map DRef.av)), (G.2.2, .row 79 2 (S.o.lines.map DLine.av)), (12, lo)], nx⟩
def e7 : Env := [(2, .ptr 0 0 0), (3, .ptr 1 1 0), (4, .ptr 2 2 0), (5, .ptr 3 3 0), (6, .ptr 5 5 0), (7, .ptr 7 7 0), (20, .fn 74 [.ptr 8 8 0])]
def okR : Loop → Prop := loopOk Zk.pg.toProgram Zk.imp [21] a7 b7

/-- A bad line: what the function's variables hold. -/
def BadM (n : Nat) (m : Mem) : Prop := ∃ vs v, m.obj 0 0 = some (.cells vs) ∧ vs.length = 5 ∧ m.obj 2 2 = some (.cells [v]) ∧ m.obj 1 1 = some (.cells [.int .i64 n])
/-- What comes of a round. -/
def R7 (t : ByteArray) (S : RdSt) (l : List ByteArray) (out : AOut) (m' : Mem) : Prop := match stepR S l with
  | some S' => out = .ret (.bool true) ∧ ∃ G' nx', m' = memR t S' G' nx' (.loop .ready e7 okR)
  | none => out = .panic badV ∧ BadM S.n m'

theorem rp_norm {pos gen : Nat} {e e1 : Env} {ok : Loop → Prop} {R : AOut → Mem → Prop} {m : Mem} : roundPost' pos gen e ok R .norm e1 m = (m.obj pos gen = some (.loop .busy e ok) ∧ ∃ m', Mem.le m' (m.put pos gen (.loop .ready e ok)) ∧ R (.ret (.bool true)) m') := rfl
theorem rp_panic {pos gen : Nat} {e e1 : Env} {ok : Loop → Prop} {R : AOut → Mem → Prop} {m : Mem} {v : AV} : roundPost' pos gen e ok R (.panic v) e1 m = R (.panic v) m := rfl

structure RdSt.Fit (S : RdSt) : Prop where
  n : S.n ≤ 300000
  stage : S.stage ≤ 6
  code : S.o.code.size ≤ 32 * S.n
  defs : S.o.defs.length ≤ S.n
  refs : S.o.refs.length ≤ S.n
  lines : S.o.lines.length ≤ S.n

theorem R7_bad {t : ByteArray} {S : RdSt} {G : Nat × Nat × Nat} {nx : Nat} {lo : AObj} {l : List ByteArray} (h : stepR S l = none) : R7 t S l (.panic badV) (memR t S G nx lo) := by
  unfold R7
  rw [h]
  exact ⟨rfl, _, _, rfl, rfl, rfl, rfl⟩
theorem R7_ok {t : ByteArray} {S S' : RdSt} {G : Nat × Nat × Nat} {nx : Nat} {l : List ByteArray} (h : stepR S l = some S') : R7 t S l (.ret (.bool true)) (memR t S' G nx (.loop .ready e7 okR)) := by
  unfold R7
  rw [h]
  exact ⟨rfl, _, _, rfl⟩

theorem eqq : (eqI 0 0 = true ∧ eqI 0 5 = false) ∧ (eqI 1 0 = false ∧ eqI 1 1 = true ∧ eqI 1 5 = false) ∧ (eqI 2 0 = false ∧ eqI 2 1 = false ∧ eqI 2 2 = true ∧ eqI 2 5 = false) ∧ (eqI 3 0 = false ∧ eqI 3 1 = false ∧ eqI 3 2 = false ∧ eqI 3 3 = true ∧ eqI 3 5 = false) ∧
    (eqI 4 0 = false ∧ eqI 4 1 = false ∧ eqI 4 2 = false ∧ eqI 4 3 = false ∧ eqI 4 4 = true ∧ eqI 4 5 = false) ∧ (eqI 5 0 = false ∧ eqI 5 1 = false ∧ eqI 5 2 = false ∧ eqI 5 3 = false ∧ eqI 5 4 = false ∧ eqI 5 5 = true) ∧ IntKind.i64.wrap 5 = 5 := by decide

theorem len2 {α : Type} {l : List α} (h : l.length = 2) : ∃ a b, l = [a, b] := by
  match l, h with
  | [a, b], _ => exact ⟨a, b, rfl⟩
theorem len3 {α : Type} {l : List α} (h : l.length = 3) : ∃ a b c, l = [a, b, c] := by
  match l, h with
  | [a, b, c], _ => exact ⟨a, b, c, rfl⟩

theorem bytes_size {s b : ByteArray} (h : bytesT s = some b) : b.size = s.size / 2 := by
  unfold bytesT at h
  split at h
  · injection h with h
    rw [← h]
    show (List.map _ _).toArray.size = _
    rw [List.size_toArray, List.length_map, List.length_range]
  · cases h

set_option maxHeartbeats 4000000 in
theorem round7 {t : ByteArray} {S : RdSt} {G : Nat × Nat × Nat} {nx : Nat} {l : List ByteArray} (hl : l ≠ []) (hS : S.Fit) (hx : ∀ x ∈ l, x.size ≤ 200000) : YCalls Zk.pg 12 12 [lAV l] (memR t S G nx (.loop .ready e7 okR)) (R7 t S l) := by
  obtain ⟨w0, ls, rfl⟩ : ∃ w0 ls, l = w0 :: ls := by cases l with
    | nil => exact absurd rfl hl
    | cons a b => exact ⟨a, b, rfl⟩
  refine ycalls_S (ps := [21]) (a := a7) (b := b7) (e := e7) rfl rfl ?_
  rw [show loopOk Zk.pg.toProgram Zk.imp [21] a7 b7 = okR from rfl]
  obtain ⟨⟨nm, code, defs, refs, lines⟩, stage, n⟩ := S
  obtain ⟨gd, gr, gl⟩ := G
  simp [a7, Env.sets, e7, memR]
  have hwl : wordsL.length = 6 := rfl
  have hpl : partsL.length = 6 := rfl
  have hn := hS.n
  have hstage := hS.stage
  have hcode := hS.code
  simp only at hn hstage hcode
  have hwn : IntKind.i64.wrap ((n : Int) + 1) = n + 1 := wrap64 (by omega) (by omega)
  simp [b7]
  refine wpS_loopS (ι := Nat) (fun k => [(2, .ptr 0 0 0), (3, .ptr 1 1 0), (4, .ptr 2 2 0), (5, .ptr 3 3 0), (6, .ptr 5 5 0), (7, .ptr 7 7 0), (8, lAV (w0 :: ls)), (9, .int .i64 k)])
    (fun _ => memR t ⟨⟨nm, code, defs, refs, lines⟩, stage, n⟩ (gd, gr, gl) nx (.loop .busy e7 okR)) (fun k => 6 - k) (fun k => k ≤ 6 ∧ ∀ j, j < k → eqS (ix wordsL j) w0 = false) 0 ⟨by omega, fun _ h => by omega⟩
    (Sim.of_le (Env.le_of (by simp)) (Mem.le_of rfl (by simp [memR, e7]))) ?_
  rintro k ⟨hk, hall⟩
  have hwk : IntKind.i64.wrap ((k : Int) + 1) = k + 1 := wrap64 (by omega) (by omega)
  simp [memR]
  have hix0 : ix (w0 :: ls) 0 = w0 := rfl
  have bad : stepR ⟨⟨nm, code, defs, refs, lines⟩, stage, n⟩ (w0 :: ls) = none → R7 t ⟨⟨nm, code, defs, refs, lines⟩, stage, n⟩ (w0 :: ls) (.panic badV) (memR t ⟨⟨nm, code, defs, refs, lines⟩, stage, n⟩ (gd, gr, gl) nx (.loop .busy e7 okR)) := R7_bad
  have good : ∀ (o' : Deck) (st : Nat) G' nx', stepR ⟨⟨nm, code, defs, refs, lines⟩, stage, n⟩ (w0 :: ls) = some ⟨o', st, n + 1⟩ → R7 t ⟨⟨nm, code, defs, refs, lines⟩, stage, n⟩ (w0 :: ls) (.ret (.bool true)) (memR t ⟨o', st, n + 1⟩ G' nx' (.loop .ready e7 okR)) := fun _ _ _ _ h => R7_ok h
  refine br_dguard_t rfl (fun h1 => ?_) (fun h1 => ?_)
  case refine_2 =>
    have hk6 : kOf w0 = 6 := by
      have : k = 6 := by have := ltI_f.1 h1; omega
      rw [← this]
      exact kOf_is hk hall (fun h => by omega)
    simp [h1]
    refine xcall_must (fun h => by cases h) (fun _ => ?_)
    simp [rp_panic]
    exact bad (by simp [stepR, stepOk, hix0, hk6, ltI])
  have hk6 : ltI k wordsL.length = true := h1
  have hk6' : ltI k partsL.length = true := h1
  have hlt6 := ltI_t.1 h1
  simp [h1, idxM hk6, lAV]
  refine br_cond rfl (fun h2 => ?_) (fun h2 => ?_)
  · simp [hwk]
    exact ⟨k + 1, ⟨by omega, upto hall (by simpa using h2)⟩, by omega, Sim.of_le (Env.le_of (by simp [lAV])) (Mem.le_of rfl (by simp))⟩
  have hkO : kOf w0 = k := kOf_is hk hall (fun _ => by simpa using h2)
  have badk : stepOk stage k (w0 :: ls) = false → R7 t ⟨⟨nm, code, defs, refs, lines⟩, stage, n⟩ (w0 :: ls) (.panic badV) (memR t ⟨⟨nm, code, defs, refs, lines⟩, stage, n⟩ (gd, gr, gl) nx (.loop .busy e7 okR)) := fun h => bad (by simp [stepR, hix0, hkO, h])
  simp [h1]
  refine br_guard_t rfl (fun h3 => ?_) (fun h3 => ?_)
  case refine_2 =>
    simp [h3]
    refine xcall_must (fun h => by cases h) (fun _ => ?_)
    simp [rp_panic]
    exact badk (by simp [stepOk, h3])
  simp [h3]
  refine br_guard_t rfl (fun h4 => ?_) (fun h4 => ?_)
  case refine_2 =>
    simp [h4]
    refine xcall_must (fun h => by cases h) (fun _ => ?_)
    simp [rp_panic]
    exact badk (by simp [stepOk, h4])
  simp [h4]
  refine br_guard_t rfl (fun h5 => ?_) (fun h5 => ?_)
  case refine_2 =>
    simp [h5]
    refine xcall_must (fun h => by cases h) (fun _ => ?_)
    simp [rp_panic]
    exact badk (by simp [stepOk, h5])
  simp [h5, h1, idxM hk6']
  refine xcall_must (fun h6 => ?_) (fun h6 => ?_)
  case refine_2 =>
    simp [rp_panic]
    exact badk (by simp [stepOk, h6])
  have hstep : stepOk stage k (w0 :: ls) = true := by simp [stepOk, h1, h3, h4, h5, h6]
  have e6 := eqI_t.1 h6
  have hk' : k = 0 ∨ k = 1 ∨ k = 2 ∨ k = 3 ∨ k = 4 ∨ k = 5 := by omega
  have hx' : ∀ x ∈ ls, x.size ≤ 200000 := fun x h => hx x (List.mem_cons_of_mem _ h)
  clear h1 h3 h4 h5 h6 hk6 hk6' h2 hall hwk hk
  rcases hk' with rfl | rfl | rfl | rfl | rfl | rfl
  · obtain ⟨w1, rfl⟩ : ∃ w1, ls = [w1] := List.length_eq_one_iff.1 (by have : ix partsL 0 = 2 := rfl; omega)
    simp [eqq, hwn, rp_norm]
    exact ⟨rfl, memR t ⟨⟨w1, code, defs, refs, lines⟩, 1, n + 1⟩ (gd, gr, gl) nx (.loop .ready e7 okR), Mem.le_of rfl (by simp [memR, e7]), good _ _ _ _ (by simp [stepR, hix0, hkO, hstep, bodyR, ix])⟩
  · obtain ⟨w1, rfl⟩ : ∃ w1, ls = [w1] := List.length_eq_one_iff.1 (by have : ix partsL 1 = 2 := rfl; omega)
    have hw1 : w1.size ≤ 200000 := hx' _ (by simp)
    have hi1 : ix [w0, w1] 1 = w1 := rfl
    simp [eqq]
    refine br_guard_t rfl (fun h7 => ?_) (fun h7 => ?_)
    case refine_2 =>
      simp [h7]
      refine xcall_must (fun h => by cases h) (fun _ => ?_)
      simp [rp_panic]
      exact bad (by simp [stepR, hix0, hkO, hstep, bodyR, hi1, h7])
    simp [h7]
    refine xcall_must (fun h8 => ?_) (fun h8 => ?_)
    case refine_2 =>
      simp [rp_panic]
      exact bad (by simp [stepR, hix0, hkO, hstep, bodyR, hi1, h8])
    simp
    have h25 := call25 (s := w1) (by omega)
    have h64 := leI_t.1 h7
    cases hb : bytesT w1 with
    | none =>
      rw [hb] at h25
      refine xdlast_f rfl h25 rfl ?_
      simp [rp_panic]
      exact bad (by simp [stepR, hix0, hkO, hstep, bodyR, hi1, h7, h8, hb])
    | some b =>
      rw [hb] at h25
      have hbs := bytes_size hb
      have hcs : code.size + b.size ≤ 9223372036854775807 := by omega
      refine xdlast_p rfl h25 rfl ?_
      simp [hcs, eqq, hwn, rp_norm]
      exact ⟨rfl, memR t ⟨⟨nm, code ++ b, defs, refs, lines⟩, 1, n + 1⟩ (gd, gr, gl) nx (.loop .ready e7 okR), Mem.le_of rfl (by simp [memR, e7]), good _ _ _ _ (by simp [stepR, hix0, hkO, hstep, bodyR, hi1, h7, h8, hb])⟩
  · obtain ⟨w1, w2, rfl⟩ := len2 (l := ls) (by have : ix partsL 2 = 3 := rfl; omega)
    have hw2 : w2.size ≤ 200000 := hx' _ (by simp)
    have hi1 : ix [w0, w1, w2] 1 = w1 := rfl
    have hi2 : ix [w0, w1, w2] 2 = w2 := rfl
    have hdl := hS.defs
    simp only at hdl
    have hd1 : (defs.length + 1) * 24 ≤ 140737488355328 := by omega
    have hd2 : defs.length + 1 ≤ 9223372036854775807 := by omega
    simp [eqq]
    have h26 := call26 (s := w2) (by omega)
    cases hb : numT w2 with
    | none =>
      rw [hb] at h26
      refine xdlast_f rfl h26 rfl ?_
      simp [rp_panic]
      exact bad (by simp [stepR, hix0, hkO, hstep, bodyR, hi2, hb])
    | some b =>
      rw [hb] at h26
      refine xdlast_p rfl h26 rfl ?_
      simp [appendA, hd1, hd2, eqq, hwn, rp_norm]
      exact ⟨rfl, memR t ⟨⟨nm, code, defs ++ [⟨w1, b⟩], refs, lines⟩, 2, n + 1⟩ (nx + 1, gr, gl) (nx + 2) (.loop .ready e7 okR), Mem.le_of rfl (by simp [memR, e7, DDef.av, DRef.av, DLine.av]), good _ _ _ _ (by simp [stepR, hix0, hkO, hstep, bodyR, hi1, hi2, hb])⟩
  · obtain ⟨w1, w2, w3, rfl⟩ := len3 (l := ls) (by have : ix partsL 3 = 4 := rfl; omega)
    have hw1 : w1.size ≤ 200000 := hx' _ (by simp)
    have hw3 : w3.size ≤ 200000 := hx' _ (by simp)
    have hi1 : ix [w0, w1, w2, w3] 1 = w1 := rfl
    have hi2 : ix [w0, w1, w2, w3] 2 = w2 := rfl
    have hi3 : ix [w0, w1, w2, w3] 3 = w3 := rfl
    have hdl := hS.refs
    simp only at hdl
    have hd1 : (refs.length + 1) * 32 ≤ 140737488355328 := by omega
    have hd2 : refs.length + 1 ≤ 9223372036854775807 := by omega
    simp [eqq]
    have h26 := call26 (s := w1) (by omega)
    have h27 := call26 (s := w3) (by omega)
    cases ha : numT w1 with
    | none =>
      rw [ha] at h26
      refine xcall_r (h26.acalls rfl) (by rintro v m' ⟨h, _⟩; cases h) ?_
      rintro v m' ⟨h, rfl⟩
      injection h with h; subst h
      simp [rp_panic]
      exact bad (by simp [stepR, hix0, hkO, hstep, bodyR, hi1, ha])
    | some a =>
      rw [ha] at h26
      refine xcall_p h26 rfl ?_
      simp
      cases hb : numT w3 with
      | none =>
        rw [hb] at h27
        refine xdlast_f rfl h27 rfl ?_
        simp [rp_panic]
        exact bad (by simp [stepR, hix0, hkO, hstep, bodyR, hi1, hi3, ha, hb])
      | some b =>
        rw [hb] at h27
        refine xdlast_p rfl h27 rfl ?_
        simp [appendA, hd1, hd2, eqq, hwn, rp_norm]
        exact ⟨rfl, memR t ⟨⟨nm, code, defs, refs ++ [⟨a, w2, b⟩], lines⟩, 3, n + 1⟩ (gd, nx + 1, gl) (nx + 2) (.loop .ready e7 okR), Mem.le_of rfl (by simp [memR, e7, DDef.av, DRef.av, DLine.av]), good _ _ _ _ (by simp [stepR, hix0, hkO, hstep, bodyR, hi1, hi2, hi3, ha, hb])⟩
  · obtain ⟨w1, w2, rfl⟩ := len2 (l := ls) (by have : ix partsL 4 = 3 := rfl; omega)
    have hw1 : w1.size ≤ 200000 := hx' _ (by simp)
    have hw2 : w2.size ≤ 200000 := hx' _ (by simp)
    have hi1 : ix [w0, w1, w2] 1 = w1 := rfl
    have hi2 : ix [w0, w1, w2] 2 = w2 := rfl
    have hdl := hS.lines
    simp only at hdl
    have hd1 : (lines.length + 1) * 16 ≤ 140737488355328 := by omega
    have hd2 : lines.length + 1 ≤ 9223372036854775807 := by omega
    simp [eqq]
    have h26 := call26 (s := w1) (by omega)
    have h27 := call26 (s := w2) (by omega)
    cases ha : numT w1 with
    | none =>
      rw [ha] at h26
      refine xcall_r (h26.acalls rfl) (by rintro v m' ⟨h, _⟩; cases h) ?_
      rintro v m' ⟨h, rfl⟩
      injection h with h; subst h
      simp [rp_panic]
      exact bad (by simp [stepR, hix0, hkO, hstep, bodyR, hi1, ha])
    | some a =>
      rw [ha] at h26
      refine xcall_p h26 rfl ?_
      simp
      cases hb : numT w2 with
      | none =>
        rw [hb] at h27
        refine xdlast_f rfl h27 rfl ?_
        simp [rp_panic]
        exact bad (by simp [stepR, hix0, hkO, hstep, bodyR, hi1, hi2, ha, hb])
      | some b =>
        rw [hb] at h27
        refine xdlast_p rfl h27 rfl ?_
        simp [appendA, hd1, hd2, eqq, hwn, rp_norm]
        exact ⟨rfl, memR t ⟨⟨nm, code, defs, refs, lines ++ [⟨a, b⟩]⟩, 4, n + 1⟩ (gd, gr, nx + 1) (nx + 2) (.loop .ready e7 okR), Mem.le_of rfl (by simp [memR, e7, DDef.av, DRef.av, DLine.av]), good _ _ _ _ (by simp [stepR, hix0, hkO, hstep, bodyR, hi1, hi2, ha, hb])⟩
  · obtain rfl : ls = [] := List.eq_nil_of_length_eq_zero (by have : ix partsL 5 = 1 := rfl; omega)
    simp [eqq, hwn, rp_norm]
    exact ⟨rfl, memR t ⟨⟨nm, code, defs, refs, lines⟩, 6, n + 1⟩ (gd, gr, gl) nx (.loop .ready e7 okR), Mem.le_of rfl (by simp [memR, e7]), good _ _ _ _ (by simp [stepR, hix0, hkO, hstep, bodyR])⟩
end Go.Pm

/- ZkV1: plain: two ways to read a number are one. -/
namespace Go.Pm
open Go Go.Proofs

theorem u8_eq {a b : UInt8} (h : a.toNat = b.toNat) : a = b := UInt8.toNat.inj h
theorem dig_toNat {u : Nat} (h : u < 10) : (UInt8.ofNat (48 + u)).toNat = 48 + u := by
  simp; omega
theorem decDigits_step {u : Nat} (h : ¬ u < 10) : Lib.decDigits u = Lib.decDigits (u / 10) ++ [UInt8.ofNat (48 + u % 10)] := by rw [Lib.decDigits, dif_neg h]

theorem dec_facts : ∀ u : Nat, (Lib.decDigits u).all isDig = true ∧ valFrom 0 (Lib.decDigits u) = u ∧ Lib.decDigits u ≠ [] ∧ (u ≠ 0 → (Lib.decDigits u).head? ≠ some 48) := by
  intro u
  induction u using Nat.strongRecOn with
  | _ u ih =>
    by_cases h : u < 10
    · rw [Lib.decDigits_one h]
      have e := dig_toNat h
      refine ⟨?_, ?_, by simp, ?_⟩
      · simp only [List.all_cons, List.all_nil, isDig, e]; simp; omega
      · simp only [valFrom, List.foldl_cons, List.foldl_nil, e]; omega
      · intro hu hh
        simp only [List.head?_cons, Option.some.injEq] at hh
        have : (UInt8.ofNat (48 + u)).toNat = 48 := by rw [hh]; rfl
        omega
    · obtain ⟨h1, h2, h3, h4⟩ := ih (u / 10) (by omega)
      have e := dig_toNat (u := u % 10) (by omega)
      rw [decDigits_step h]
      refine ⟨?_, ?_, by simp, ?_⟩
      · rw [List.all_append, h1]
        simp only [List.all_cons, List.all_nil, isDig, e]; simp; omega
      · unfold valFrom at h2 ⊢
        rw [List.foldl_append, h2]
        simp only [List.foldl_cons, List.foldl_nil, e]; omega
      · intro _
        cases hd : Lib.decDigits (u / 10) with
        | nil => exact absurd hd h3
        | cons a l =>
          have := h4 (by omega)
          rw [hd] at this
          simpa using this

theorem valFrom_pos : ∀ (l : List UInt8) (a : Nat), 0 < a → 0 < valFrom a l
  | [], a, h => h
  | c :: l, a, h => valFrom_pos l (a * 10 + (c.toNat - 48)) (by omega)

theorem snoc_cases {α : Type} (l : List α) : l = [] ∨ ∃ l' c, l = l' ++ [c] := by
  rcases List.eq_nil_or_concat l with h | ⟨l', c, h⟩
  · exact .inl h
  · exact .inr ⟨l', c, by simpa using h⟩

theorem dec_of_val : ∀ (n : Nat) (l : List UInt8), l.length = n → l.all isDig = true → l ≠ [] → (l = [48] ∨ l.head? ≠ some 48) → Lib.decDigits (valFrom 0 l) = l := by
  intro n
  induction n with
  | zero => intro l hn _ hne; exact absurd (List.eq_nil_of_length_eq_zero hn) hne
  | succ n ih =>
    intro l hn hd hne hh
    obtain ⟨l', c, rfl⟩ := (snoc_cases l).resolve_left hne
    rw [List.all_append, Bool.and_eq_true] at hd
    obtain ⟨hd1, hd2⟩ := hd
    have hc : 48 ≤ c.toNat ∧ c.toNat ≤ 57 := by simpa [isDig] using hd2
    have hv : valFrom 0 (l' ++ [c]) = valFrom 0 l' * 10 + (c.toNat - 48) := by unfold valFrom; rw [List.foldl_append]; rfl
    rw [hv]
    have hcc : UInt8.ofNat (48 + (c.toNat - 48)) = c := by
      apply u8_eq
      rw [dig_toNat (by omega)]; omega
    cases l' with
    | nil =>
      have : valFrom 0 ([] : List UInt8) = 0 := rfl
      rw [this, Nat.zero_mul, Nat.zero_add, Lib.decDigits_one (by omega), hcc]; rfl
    | cons a m =>
      have hh' : (a :: m).head? ≠ some 48 := by
        rcases hh with hh | hh
        · simp at hh
        · simpa using hh
      have ha : 48 ≤ a.toNat ∧ a.toNat ≤ 57 := by
        rw [List.all_cons, Bool.and_eq_true] at hd1
        simpa [isDig] using hd1.1
      have ha' : a.toNat ≠ 48 := fun h => hh' (by rw [List.head?_cons]; exact congrArg some (u8_eq h))
      have hpos : 0 < valFrom 0 (a :: m) := by
        show 0 < valFrom (0 * 10 + (a.toNat - 48)) m
        exact valFrom_pos _ _ (by omega)
      rw [decDigits_step (by omega)]
      have e1 : (valFrom 0 (a :: m) * 10 + (c.toNat - 48)) / 10 = valFrom 0 (a :: m) := by omega
      have e2 : (valFrom 0 (a :: m) * 10 + (c.toNat - 48)) % 10 = c.toNat - 48 := by omega
      rw [e1, e2, hcc, ih (a :: m) (by simpa using hn) hd1 (by simp) (.inr hh')]

theorem parse_digits : ∀ (l : List UInt8) (a : Nat), l.all isDig = true → (a + 1) * 10 ^ l.length ≤ 10 ^ 19 → Lib.parseUint10 a l = .ok (valFrom a l)
  | [], a, _, _ => rfl
  | c :: l, a, hd, hb => by
    rw [List.all_cons, Bool.and_eq_true] at hd
    have hc : 48 ≤ c.toNat ∧ c.toNat ≤ 57 := by simpa [isDig] using hd.1
    have hb' : (a + 1) * 10 * 10 ^ l.length ≤ 10 ^ 19 := by
      rw [List.length_cons, Nat.pow_succ] at hb
      rw [Nat.mul_assoc, Nat.mul_comm 10]; exact hb
    have h1 : (a + 1) * 10 ≤ 10 ^ 19 := Nat.le_trans (Nat.le_mul_of_pos_right _ (Nat.pow_pos (by decide))) hb'
    unfold Lib.parseUint10
    rw [if_pos hc, if_neg (by omega), if_neg (by omega)]
    refine parse_digits l _ hd.2 (Nat.le_trans (Nat.mul_le_mul_right _ ?_) hb')
    omega

/-- Of a list of digits: what Atoi makes of it. -/
theorem parseMag_digits {t : List UInt8} (hne : t ≠ []) (hlen : t.length ≤ 10) (hd : t.all isDig = true) : Lib.parseMag t = .ok (valFrom 0 t) ∧ valFrom 0 t < 10000000000 := by
  have hp : 10 ^ t.length ≤ 10 ^ 10 := Nat.pow_le_pow_right (by decide) hlen
  refine ⟨?_, ?_⟩
  · unfold Lib.parseMag
    rw [if_neg hne]
    refine parse_digits t 0 hd ?_
    omega
  · have := val_lt t 0 hd
    omega

theorem numRL_some {s : List UInt8} {n : Int} (h : numRL s = some n) : Lib.atoiAll s = .ok n ∧ (tailN s).length ≤ 10 ∧ Lib.itoa n = s := by
  unfold numRL at h
  split at h
  · cases h
  rename_i h1
  split at h
  case isFalse => cases h
  rename_i hd
  injection h with h
  have hne : tailN s ≠ [] := fun e => h1 (.inl (by rw [e]; decide))
  have hlen : (tailN s).length ≤ 10 := by
    rcases Nat.lt_or_ge 10 (tailN s).length with h' | h'
    · exact absurd (.inr (.inl h')) h1
    · exact h'
  obtain ⟨hp, hlt⟩ := parseMag_digits hne hlen hd
  have hcan : tailN s = [48] ∨ (tailN s).head? ≠ some 48 := by
    by_cases hh : (tailN s).head? = some 48
    · left
      have : ¬ 1 < (tailN s).length := fun h' => h1 (.inr (.inr ⟨hh, .inl h'⟩))
      cases ht : tailN s with
      | nil => exact absurd ht hne
      | cons a m =>
        rw [ht] at hh this
        simp only [List.head?_cons, Option.some.injEq] at hh
        cases m with
        | nil => rw [hh]
        | cons b m => simp at this
    · exact .inr hh
  have hdec := dec_of_val _ (tailN s) rfl hd hne hcan
  by_cases hs : s.head? = some 45
  · obtain ⟨m, rfl⟩ : ∃ m, s = 45 :: m := by
      cases s with
      | nil => cases hs
      | cons a m => simp only [List.head?_cons, Option.some.injEq] at hs; exact ⟨m, by rw [hs]⟩
    have ht : tailN (45 :: m) = m := by simp [tailN]
    rw [ht] at hne hlen hd hp hlt hcan hdec h h1 ⊢
    have hpos : valFrom 0 m ≠ 0 := by
      intro hz
      rw [hz] at hdec
      have : m = [48] := by rw [← hdec]; exact Lib.decDigits_one (by decide)
      exact h1 (.inr (.inr ⟨by rw [this]; rfl, .inr (by rw [this]; decide)⟩))
    have hn : n = -(valFrom 0 m : Int) := by rw [← h, if_pos (by simp)]
    refine ⟨?_, hlen, ?_⟩
    · unfold Lib.atoiAll
      have : (45 : UInt8).toNat = 45 := rfl
      simp only [this, or_true, if_true, hp, not_true, false_and, if_false, true_and]
      rw [if_neg (by omega), hn]
    · unfold Lib.itoa
      rw [if_pos (by omega), hn, Int.natAbs_neg, Int.natAbs_natCast, hdec]
  · have ht : tailN s = s := by simp [tailN, hs]
    rw [ht] at hne hlen hd hp hlt hcan hdec h h1 ⊢
    have hn : n = (valFrom 0 s : Int) := by rw [← h, if_neg (by simp)]
    refine ⟨?_, hlen, ?_⟩
    · cases s with
      | nil => exact absurd rfl hne
      | cons a m =>
        have ha : 48 ≤ a.toNat ∧ a.toNat ≤ 57 := by
          rw [List.all_cons, Bool.and_eq_true] at hd
          simpa [isDig] using hd.1
        unfold Lib.atoiAll
        have h43 : ¬ a.toNat = 43 := by omega
        have h45 : ¬ a.toNat = 45 := by omega
        simp only [h43, h45, or_false, if_false, hp, not_false_eq_true, true_and, false_and]
        rw [if_neg (by omega), hn]
    · unfold Lib.itoa
      rw [if_neg (by omega), hn, Int.toNat_natCast, hdec]

theorem numRL_of {s : List UInt8} {n : Int} (hlen : (tailN s).length ≤ 10) (h : Lib.itoa n = s) : numRL s = some n := by
  unfold Lib.itoa at h
  by_cases hn : n < 0
  · rw [if_pos hn] at h
    obtain ⟨f1, f2, f3, f4⟩ := dec_facts n.natAbs
    have f4 := f4 (by omega)
    have ht : tailN s = Lib.decDigits n.natAbs := by rw [← h]; simp [tailN]
    have hl : 0 < (Lib.decDigits n.natAbs).length := List.length_pos_iff.2 f3
    unfold numRL
    rw [ht] at hlen ⊢
    rw [if_neg (by rintro (h' | h' | ⟨h', _⟩) <;> first | omega | exact f4 h'), if_pos f1, f2, if_pos (by rw [← h]; simp)]
    congr 1; omega
  · rw [if_neg hn] at h
    obtain ⟨f1, f2, f3, f4⟩ := dec_facts n.toNat
    have hl : 0 < (Lib.decDigits n.toNat).length := List.length_pos_iff.2 f3
    have h45 : s.head? ≠ some 45 := by
      rw [← h]
      cases hd : Lib.decDigits n.toNat with
      | nil => exact absurd hd f3
      | cons a m =>
        rw [hd, List.all_cons, Bool.and_eq_true] at f1
        have ha : 48 ≤ a.toNat ∧ a.toNat ≤ 57 := by simpa [isDig] using f1.1
        intro e
        simp only [List.head?_cons, Option.some.injEq] at e
        rw [e] at ha
        exact absurd ha.1 (by decide)
    have ht : tailN s = s := by simp [tailN, h45]
    unfold numRL
    rw [ht] at hlen ⊢
    rw [if_neg ?_, if_pos (by rw [← h]; exact f1), ← h, f2, if_neg (by simp)]
    · congr 1; omega
    · rintro (h' | h' | ⟨h', h''⟩)
      · rw [← h] at h'; omega
      · omega
      · by_cases h0 : n.toNat = 0
        · rw [← h, h0, Lib.decDigits_one (by decide)] at h''
          exact absurd h'' (by decide)
        · rw [← h] at h'
          exact f4 h0 h'

theorem trim_tail (s : ByteArray) : trimF s = ⟨(tailN s.data.toList).toArray⟩ := by
  unfold trimF Lib.trimPrefix Lib.hasPrefix tailN
  cases h : s.data.toList with
  | nil => rfl
  | cons a m =>
    by_cases ha : a = 45
    · subst ha; rfl
    · have : ([45] : List UInt8).isPrefixOf (a :: m) = false := by simp [List.isPrefixOf]; exact fun e => ha e.symm
      rw [this]
      simp [ha]

/-- The two readings of a number are one. -/
theorem numT_eq (s : ByteArray) : numT s = numRL s.data.toList := by
  have key : ∀ n, numT s = some n ↔ numRL s.data.toList = some n := by
    intro n
    have hts : (trimF s).size = (tailN s.data.toList).length := by rw [trim_tail]; simp [ByteArray.size]
    constructor
    · intro h
      unfold numT at h
      split at h
      case isFalse => cases h
      rename_i hc
      simp only [Bool.and_eq_true] at hc
      injection h with h
      obtain ⟨_, hc2, hc3⟩ := hc
      refine numRL_of ?_ ?_
      · have := leI_t.1 hc2; omega
      · have := eqS_t.1 hc3
        rw [h] at this
        rw [← this]; simp [itoaF]
    · intro h
      obtain ⟨h1, h2, h3⟩ := numRL_some h
      have ha : atoiN s = (n, true) := by unfold atoiN; rw [h1]
      unfold numT
      rw [ha, if_pos]
      simp only [Bool.and_eq_true]
      refine ⟨trivial, leI_t.2 (by omega), eqS_t.2 ?_⟩
      simp [itoaF, h3]
  cases h1 : numT s with
  | some n => exact ((key n).1 h1).symm
  | none =>
    cases h2 : numRL s.data.toList with
    | none => rfl
    | some n => rw [(key n).2 h2] at h1; cases h1
end Go.Pm

/- ZkV2: plain: a line's parts; a text's next line; figures. -/
namespace Go.Pm
open Go Go.Proofs

theorem index_eq (l : List UInt8) : Lib.index (32 :: l) [32] = 0 := by rw [Lib.index]; simp [List.isPrefixOf]
theorem index_ne {b : UInt8} (c : UInt8) (l : List UInt8) (h : b ≠ c) : Lib.index (b :: l) [c] = if Lib.index l [c] == -1 then -1 else Lib.index l [c] + 1 := by
  have hp : ([c] : List UInt8).isPrefixOf (b :: l) = false := by simp [List.isPrefixOf, Ne.symm h]
  rw [Lib.index, hp]; simp

theorem splitK_ne {b : UInt8} (h : b ≠ 32) : ∀ (k : Nat) (l : List UInt8), Lib.splitK [32] 0 k (b :: l) = consHead [b] (Lib.splitK [32] 0 k l)
  | 0, l => rfl
  | k + 1, l => by
    unfold Lib.splitK
    rw [index_ne 32 l h]
    have hge := Lib.index_ge l [32]
    by_cases hm : Lib.index l [32] = -1
    · simp [hm, consHead]
    · have h1 : (Lib.index l [32] == -1) = false := by simpa using hm
      obtain ⟨j, hj⟩ : ∃ j : Nat, Lib.index l [32] = j := ⟨(Lib.index l [32]).toNat, by omega⟩
      rw [h1]
      simp only [Bool.false_eq_true, if_false]
      rw [hj]
      have h2 : ((j : Int) + 1 == -1) = false := by rw [beq_eq_false_iff_ne]; omega
      have e : ((j : Int) + 1).toNat = j + 1 := by omega
      rw [h2, e]
      simp [consHead]

theorem splitK_spl : ∀ l : List UInt8, Lib.splitK [32] 0 (Lib.count l [32]) l = splW [] l
  | [] => by rw [Lib.count_miss (by simp [Lib.index])]; rfl
  | b :: l => by
    by_cases hb : b = 32
    · subst hb
      rw [Lib.count_cons_eq, Nat.add_comm, Lib.splitK, index_eq]
      simp only [splW]
      rw [← splitK_spl l]
      simp
    · rw [Lib.count_cons_ne b 32 l hb, splitK_ne hb, splitK_spl l]
      have e : splW [] (b :: l) = splW ([b] ++ []) l := by simp [splW, hb]
      rw [e]
      exact (splW_acc [b] l []).symm

theorem parts_eq (s : ByteArray) : partsOf s = (splW [] s.data.toList).map mkB := by
  have h := Lib.splitB_data sp 0 (Lib.countB s sp) s
  have h2 : Lib.splitK sp.data.toList 0 (Lib.countB s sp) s.data.toList = splW [] s.data.toList := splitK_spl s.data.toList
  rw [h2] at h
  rw [← h, List.map_map]
  unfold partsOf
  exact (List.map_id _).symm

theorem splW_ne (l acc : List UInt8) : splW acc l ≠ [] := by
  induction l generalizing acc with
  | nil => simp [splW]
  | cons b t ih => unfold splW; split
                   · simp
                   · exact ih _

theorem cut_spec : ∀ l : List UInt8, (Lib.index l [10] = -1 ∧ cutN l = none) ∨ ∃ i : Nat, Lib.index l [10] = i ∧ cutN l = some (l.take i, l.drop (i + 1))
  | [] => .inl ⟨by simp [Lib.index], rfl⟩
  | b :: l => by
    by_cases hb : b = 10
    · subst hb
      refine .inr ⟨0, ?_, ?_⟩
      · rw [Lib.index]; simp [List.isPrefixOf]
      · simp [cutN]
    · have hi := index_ne 10 l hb
      rcases cut_spec l with ⟨h1, h2⟩ | ⟨i, h1, h2⟩
      · exact .inl ⟨by rw [hi, h1]; rfl, by simp [cutN, hb, h2]⟩
      · refine .inr ⟨i + 1, ?_, by simp [cutN, hb, h2]⟩
        rw [hi, h1]
        have : ((i : Int) == -1) = false := by rw [beq_eq_false_iff_ne]; omega
        rw [this]; simp

theorem nextLine_eq (t : ByteArray) : nextLine t = match cutN t.data.toList with
    | none => none
    | some (x, y) => if ((splW [] x).map mkB).all okPart then some ((splW [] x).map mkB, mkB y) else none := by
  unfold nextLine cutB cutL cutR
  have hn : nl.data.toList = [10] := rfl
  rw [hn]
  rcases cut_spec t.data.toList with ⟨h1, h2⟩ | ⟨i, h1, h2⟩
  · unfold Lib.cut
    rw [h1, h2]; simp
  · unfold Lib.cut
    rw [h1, h2]
    simp only [Int.natCast_nonneg, if_true, Int.toNat_natCast, List.length_cons, List.length_nil, parts_eq]
    rfl

theorem cutN_size {l x y : List UInt8} (h : cutN l = some (x, y)) : l.length = x.length + 1 + y.length := by
  induction l generalizing x y with
  | nil => cases h
  | cons b t ih =>
    unfold cutN at h
    split at h
    · injection h with h; injection h with h1 h2; subst h1; subst h2; simp; omega
    · cases ht : cutN t with
      | none => rw [ht] at h; cases h
      | some p =>
        rw [ht] at h
        injection h with h; injection h with h1 h2; subst h1; subst h2
        have := ih (x := p.1) (y := p.2) ht
        simp; omega

theorem figs_all : ((List.range 256).all fun n => Lib.indexByte figs.data.toList (UInt8.ofNat n) == (if 48 ≤ n ∧ n ≤ 57 then (n : Int) - 48 else if 65 ≤ n ∧ n ≤ 70 then (n : Int) - 65 + 10 else -1)) = true := by kernel_rfl
theorem figI_eq (c : UInt8) : figI c = digitF c := by
  have h := List.all_eq_true.1 figs_all c.toNat (List.mem_range.2 c.toNat_lt)
  simp only [UInt8.ofNat_toNat, beq_iff_eq] at h
  exact h
theorem digitF_range (c : UInt8) : digitF c = -1 ∨ (0 ≤ digitF c ∧ digitF c < 16) := by
  unfold digitF
  split
  · right; omega
  · split
    · right; omega
    · exact .inl rfl
theorem pair_all : ((List.range 16).all fun a => (List.range 16).all fun b => UInt8.ofNat (pairV a b).toNat == UInt8.ofNat (16 * a + b)) = true := by kernel_rfl
theorem pair_eq {a b : Int} (ha : 0 ≤ a ∧ a < 16) (hb : 0 ≤ b ∧ b < 16) : UInt8.ofNat (pairV a b).toNat = UInt8.ofNat (16 * a + b).toNat := by
  have h := List.all_eq_true.1 (List.all_eq_true.1 pair_all a.toNat (List.mem_range.2 (by omega))) b.toNat (List.mem_range.2 (by omega))
  have e1 : ((a.toNat : Nat) : Int) = a := by omega
  have e2 : ((b.toNat : Nat) : Int) = b := by omega
  simp only [e1, e2, beq_iff_eq] at h
  rw [h]
  congr 1; omega
end Go.Pm

/- ZkF: contracts whose result is a Bool: temporary lists in the place of kept ones. -/
namespace Go.Pm
open Go Go.Proofs

def K2 (K : Bool → Nat → Prop) : Bool → Nat → Prop := fun _ b => K true b ∨ K false b
theorem K2_of {K : Bool → Nat → Prop} (p : Bool) (b : Nat) (h : K p b) (q : Bool) : K2 K q b := by
  cases p
  · exact .inr h
  · exact .inl h
/-- Whatever is the one is the other, too, all blocks taken as kept. -/
def SubL (xs ys : List AV) : Prop := ∀ (K : Bool → Nat → Prop) (w : World) (us : List Value), VRs [] K w xs us → VRs [] (K2 K) w ys us
theorem SubL.refl (xs : List AV) : SubL xs xs := fun K w us h => VRs.mono (List.prefix_refl _) (fun p b hb => K2_of p b hb p) (fun _ _ _ => rfl) xs us h
theorem SubL.cons {x : AV} {xs ys : List AV} (h : SubL xs ys) : SubL (x :: xs) (x :: ys) := by
  intro K w us hv
  obtain ⟨u, us', rfl, h1, h2⟩ := hv
  exact ⟨u, us', rfl, VR.mono (List.prefix_refl _) (fun p b hb => K2_of p b hb p) (fun _ _ _ => rfl) x u h1, h K w us' h2⟩
theorem SubL.list {p : Bool} {sz : Nat} {els : List (List AV)} {xs ys : List AV} (h : SubL xs ys) : SubL (.list p sz els :: xs) (.list true sz els :: ys) := by
  intro K w us hv
  obtain ⟨u, us', rfl, h1, h2⟩ := hv
  refine ⟨u, us', rfl, ?_, h K w us' h2⟩
  have h1' := VR.mono (K' := K2 K) (List.prefix_refl _) (fun p b hb => K2_of p b hb p) (fun _ _ _ => rfl) _ _ h1
  rw [VR] at h1 h1' ⊢
  obtain ⟨a, cap, b, o, k1, k2, k3, k4⟩ := h1'
  exact ⟨a, cap, b, o, k1, k2, k3.imp id fun ⟨e, hk⟩ => ⟨e, hk⟩, k4⟩
theorem SubL.nil {sz : Nat} {xs ys : List AV} (h : SubL xs ys) : SubL (.nilS :: xs) (.list true sz [] :: ys) := by
  intro K w us hv
  obtain ⟨u, us', rfl, h1, h2⟩ := hv
  refine ⟨u, us', rfl, ?_, h K w us' h2⟩
  simp only [VR] at h1 ⊢
  exact ⟨none, 0, 0, 0, h1, Nat.le_refl _, .inl trivial, by simp [LR]⟩
theorem SubL.agg {cs ds xs ys : List AV} (hc : SubL cs ds) (h : SubL xs ys) : SubL (.agg cs :: xs) (.agg ds :: ys) := by
  intro K w us hv
  obtain ⟨u, us', rfl, h1, h2⟩ := hv
  refine ⟨u, us', rfl, ?_, h K w us' h2⟩
  rw [VR] at h1 ⊢
  obtain ⟨vs, k1, k2⟩ := h1
  exact ⟨vs, k1, hc K w _ k2⟩

theorem PCalls.flip {P : Prg} {f : FuncId} {xs ys : List AV} {b : Bool} (h : PCalls P f ys fun out => out = .ret (.bool b)) (hs : SubL xs ys) : PCalls P f xs fun out => out = .ret (.bool b) := by
  refine ⟨h.1, fun K w vals hK hv hl => ?_⟩
  refine (h.2 (K2 K) w vals (fun p b hb => hb.elim (hK true b) (hK false b)) (hs K w vals hv) hl).mono ?_
  rintro e w' ⟨K', out, rfl, hp, hg, _, _, hout⟩
  refine ⟨fun p b => K p b ∨ w.heap.size ≤ b ∧ b < w'.heap.size, .ret (.bool b), rfl, rfl, hg, fun _ _ h => .inl h, fun _ _ h => h, ?_⟩
  obtain ⟨u, h1, h2⟩ := hout
  refine ⟨u, h1, ?_⟩
  rw [VR] at h2 ⊢
  exact h2
end Go.Pm

/- ZkR7: contracts: the linker's Read. -/
namespace Go.Pm
open Go Go.Proofs
attribute [-simp] List.getElem?_map

theorem YCalls.mono {P : Prg} {pos gen : Nat} {xs : List AV} {m : Mem} {R R' : AOut → Mem → Prop} (h : YCalls P pos gen xs m R) (hR : ∀ out m', R out m' → R' out m') : YCalls P pos gen xs m R' := by
  intro β K σ w vals b c hrel hv hg hβ
  obtain ⟨f, tmps, asg, bd, h1, h2⟩ := h β K σ w vals b c hrel hv hg hβ
  refine ⟨f, tmps, asg, bd, h1, fun r n => (h2 r n).mono ?_⟩
  rintro e w' ⟨K', σ', m', out, h3, h4⟩
  exact ⟨K', σ', m', out, hR _ _ h3, h4⟩

/-- What is read of a text line by line: all of it, or none; the number of lines till then. -/
def readL : Nat → RdSt → ByteArray → Option RdSt × Nat
  | 0, S, _ => (none, S.n)
  | f + 1, S, t => if eqS t ⟨#[]⟩ then (some S, S.n) else match nextLine t with
    | none => (none, S.n)
    | some (l, rest) => match stepR S l with
      | none => (none, S.n)
      | some S' => readL f S' rest
def startR : RdSt := ⟨⟨⟨#[]⟩, ⟨#[]⟩, [], [], []⟩, 0, 0⟩
/-- What the linker's Read tells of a text. -/
def readRes (t : ByteArray) : List AV × Nat × Int :=
  if ltI 200000 t.size then (noDeck, 0, 3) else match readL (t.size + 1) startR t with
  | (none, n) => (noDeck, n, 2)
  | (some S, n) => if eqI S.stage 6 then (if deckOk S.o then (S.o.av, 0, 0) else (noDeck, n, 1)) else (noDeck, n, 2)
def resAV (x : List AV × Nat × Int) : AV := .tuple [.agg x.1, .int .i64 x.2.1, .int .i64 x.2.2]

structure RdSt.Names (S : RdSt) : Prop where
  name : S.o.name.size ≤ 200000
  defs : ∀ d ∈ S.o.defs, d.name.size ≤ 200000
  refs : ∀ d ∈ S.o.refs, d.name.size ≤ 200000

theorem ix_size {l : List ByteArray} (h : ∀ x ∈ l, x.size ≤ 200000) (i : Nat) : (ix l i).size ≤ 200000 := by
  rcases Nat.lt_or_ge i l.length with hi | hi
  · exact h _ (ix_mem hi)
  · have : ix l i = default := by simp [ix, List.getD, hi]
    rw [this]
    exact Nat.zero_le _

theorem body_fit {o o' : Deck} {k : Nat} {l : List ByteArray} (h : bodyR o k l = some o') (hl : ∀ x ∈ l, x.size ≤ 200000) :
    o'.code.size ≤ o.code.size + 32 ∧ o'.defs.length ≤ o.defs.length + 1 ∧ o'.refs.length ≤ o.refs.length + 1 ∧ o'.lines.length ≤ o.lines.length + 1 ∧
    (o.name.size ≤ 200000 → o'.name.size ≤ 200000) ∧ ((∀ d ∈ o.defs, d.name.size ≤ 200000) → ∀ d ∈ o'.defs, d.name.size ≤ 200000) ∧ ((∀ d ∈ o.refs, d.name.size ≤ 200000) → ∀ d ∈ o'.refs, d.name.size ≤ 200000) := by
  unfold bodyR at h
  split at h
  · injection h with h; subst h
    exact ⟨by simp, by simp, by simp, by simp, fun _ => ix_size hl 1, fun h => h, fun h => h⟩
  · split at h
    · rename_i hc
      rw [Bool.and_eq_true] at hc
      have h64 := leI_t.1 hc.1
      rw [Option.map_eq_some_iff] at h
      obtain ⟨b, hb, rfl⟩ := h
      have hbs := bytes_size hb
      exact ⟨by simp only [ByteArray.size_append]; omega, by simp, by simp, by simp, fun h => h, fun h => h, fun h => h⟩
    · cases h
  · rw [Option.map_eq_some_iff] at h
    obtain ⟨b, hb, rfl⟩ := h
    refine ⟨by simp, by simp, by simp, by simp, fun h => h, fun h d hd => ?_, fun h => h⟩
    rcases List.mem_append.1 hd with hd | hd
    · exact h d hd
    · rw [List.mem_singleton.1 hd]; exact ix_size hl 1
  · rw [Option.bind_eq_some_iff] at h
    obtain ⟨a, ha, h⟩ := h
    rw [Option.map_eq_some_iff] at h
    obtain ⟨b, hb, rfl⟩ := h
    refine ⟨by simp, by simp, by simp, by simp, fun h => h, fun h => h, fun h d hd => ?_⟩
    rcases List.mem_append.1 hd with hd | hd
    · exact h d hd
    · rw [List.mem_singleton.1 hd]; exact ix_size hl 2
  · rw [Option.bind_eq_some_iff] at h
    obtain ⟨a, ha, h⟩ := h
    rw [Option.map_eq_some_iff] at h
    obtain ⟨b, hb, rfl⟩ := h
    exact ⟨by simp, by simp, by simp, by simp, fun h => h, fun h => h, fun h => h⟩
  · injection h with h; subst h
    exact ⟨by simp, by simp, by simp, by simp, fun h => h, fun h => h, fun h => h⟩

theorem body_code {o o' : Deck} {k B : Nat} {l : List ByteArray} (h : bodyR o k l = some o') (hl : (ix l 1).size ≤ B) : o'.code.size ≤ o.code.size + B := by
  unfold bodyR at h
  split at h
  · injection h with h; subst h; simp
  · split at h
    · rw [Option.map_eq_some_iff] at h
      obtain ⟨b, hb, rfl⟩ := h
      have hbs := bytes_size hb
      simp only [ByteArray.size_append]; omega
    · cases h
  · rw [Option.map_eq_some_iff] at h
    obtain ⟨b, hb, rfl⟩ := h
    simp
  · rw [Option.bind_eq_some_iff] at h
    obtain ⟨a, ha, h⟩ := h
    rw [Option.map_eq_some_iff] at h
    obtain ⟨b, hb, rfl⟩ := h
    simp
  · rw [Option.bind_eq_some_iff] at h
    obtain ⟨a, ha, h⟩ := h
    rw [Option.map_eq_some_iff] at h
    obtain ⟨b, hb, rfl⟩ := h
    simp
  · injection h with h; subst h; simp
theorem step_code {S S' : RdSt} {l : List ByteArray} {B : Nat} (h : stepR S l = some S') (hl : (ix l 1).size ≤ B) : S'.o.code.size ≤ S.o.code.size + B := by
  unfold stepR at h
  split at h
  case isFalse => cases h
  rw [Option.map_eq_some_iff] at h
  obtain ⟨o', hb, rfl⟩ := h
  exact body_code hb hl

theorem step_fit {S S' : RdSt} {l : List ByteArray} (h : stepR S l = some S') (hS : S.Fit) (hN : S.Names) (hn : S.n ≤ 200000) (hl : ∀ x ∈ l, x.size ≤ 200000) : S'.Fit ∧ S'.Names ∧ S'.n = S.n + 1 := by
  unfold stepR at h
  split at h
  case isFalse => cases h
  rename_i hok
  rw [Option.map_eq_some_iff] at h
  obtain ⟨o', hb, rfl⟩ := h
  obtain ⟨b1, b2, b3, b4, b5, b6, b7⟩ := body_fit hb hl
  have hk : kOf (ix l 0) < 6 := by
    unfold stepOk at hok
    rw [Bool.and_eq_true] at hok
    have := ltI_t.1 hok.1; omega
  refine ⟨⟨by simp only; omega, ?_, ?_, ?_, ?_, ?_⟩, ⟨b5 hN.name, b6 hN.defs, b7 hN.refs⟩, rfl⟩
  · simp only; split <;> omega
  · have := hS.code; simp only; omega
  · have := hS.defs; simp only; omega
  · have := hS.refs; simp only; omega
  · have := hS.lines; simp only; omega

theorem cut_sum (t : ByteArray) (h : cutB t = true) : (cutL t).size + (cutR t).size < t.size := by
  rcases Lib.indexB_cases t nl with h1 | ⟨i, h1, hroom⟩
  · have := (Lib.cutB_miss t nl h1).2.2
    unfold cutB at h
    rw [this] at h; cases h
  · obtain ⟨e1, e2, _⟩ := Lib.cutB_hit t nl i h1
    have hn : nl.size = 1 := rfl
    rw [hn] at e2 hroom
    unfold cutL cutR
    rw [e1, e2, ByteArray.size_extract, ByteArray.size_extract]
    omega
theorem nextLine_facts {t : ByteArray} {l : List ByteArray} {rest : ByteArray} (h : nextLine t = some (l, rest)) : l ≠ [] ∧ rest.size < t.size ∧ ∀ x ∈ l, x.size + rest.size < t.size := by
  unfold nextLine at h
  split at h
  case isFalse => cases h
  rename_i hc
  obtain ⟨c1, c2⟩ := cut_less t hc
  have c3 := cut_sum t hc
  split at h
  case isFalse => cases h
  injection h with h; injection h with h1 h2
  subst h1; subst h2
  refine ⟨?_, c2, fun x hx => ?_⟩
  · rw [parts_eq]
    intro e
    exact splW_ne _ _ (List.map_eq_nil_iff.1 e)
  · have := part_le hx; omega

/-- What is known while lines are read. -/
def InvR (t0 t : ByteArray) (m : Mem) : Prop := ∃ S G nx f, m = memR t S G nx (.loop .ready e7 okR) ∧ S.Fit ∧ S.Names ∧ S.n + t.size ≤ 200000 ∧ S.o.code.size + t.size ≤ 200000 ∧ t.size < f ∧ readL f S t = readL (t0.size + 1) startR t0
def YR (t0 : ByteArray) (v : AV) (m : Mem) : Prop := v = badV ∧ ∃ n, readL (t0.size + 1) startR t0 = (none, n) ∧ BadM n m

theorem readL_none {f : Nat} {S : RdSt} {t : ByteArray} (h1 : eqS t ⟨#[]⟩ = false) (h2 : nextLine t = none) (hf : t.size < f) : readL f S t = (none, S.n) := by
  cases f with
  | zero => omega
  | succ f => simp [readL, h1, h2]

theorem round_inv {t0 t : ByteArray} {m : Mem} {l : List ByteArray} {rest : ByteArray} (h : InvR t0 t m) (hn : nextLine t = some (l, rest)) :
    YCalls Zk.pg 12 12 [lAV l] m fun out m' => (out = .ret (.bool true) ∧ m'.obj 8 8 = some (.cells [.str t]) ∧ InvR t0 rest (m'.put 8 8 (.cells [.str rest]))) ∨ (out = .ret (.bool false) ∧ False) ∨ ∃ v, out = .panic v ∧ YR t0 v m' := by
  obtain ⟨S, G, nx, f, rfl, hF, hN, hsz, hcz, hf, hrd⟩ := h
  obtain ⟨n1, n2, n3⟩ := nextLine_facts hn
  have hl : ∀ x ∈ l, x.size ≤ 200000 := fun x hx => by have := n3 x hx; omega
  obtain ⟨f, rfl⟩ : ∃ g, f = g + 1 := ⟨f - 1, by omega⟩
  have hne : eqS t ⟨#[]⟩ = false := by
    cases he : eqS t ⟨#[]⟩ with
    | false => rfl
    | true => have := size_zero.2 (eqS_t.1 he); omega
  refine (round7 n1 hF hl).mono ?_
  intro out m' hR
  unfold R7 at hR
  cases hs : stepR S l with
  | none =>
    rw [hs] at hR
    obtain ⟨rfl, hB⟩ := hR
    refine .inr (.inr ⟨badV, rfl, rfl, S.n, ?_, hB⟩)
    rw [← hrd]
    simp [readL, hne, hn, hs]
  | some S' =>
    rw [hs] at hR
    obtain ⟨rfl, G', nx', rfl⟩ := hR
    obtain ⟨g1, g2, g3⟩ := step_fit hs hF hN (by omega) hl
    have hB : (ix l 1).size ≤ t.size - rest.size - 1 := by
      rcases Nat.lt_or_ge 1 l.length with hi | hi
      · have := n3 _ (ix_mem hi); omega
      · have : ix l 1 = default := by simp [ix, List.getD, hi]
        rw [this]
        exact Nat.zero_le _
    have hc := step_code hs hB
    refine .inl ⟨rfl, rfl, S', G', nx', f, rfl, g1, g2, by omega, by omega, by omega, ?_⟩
    rw [← hrd]
    simp [readL, hne, hn, hs]

theorem pan7 {e : Env} {m : Mem} {n : Nat} {x : AV} (hx : x = resAV (noDeck, n, 2)) (hb : BadM n m) (h2 : e.get 2 = .ptr 0 0 0) (h3 : e.get 3 = .ptr 1 1 0) (h4 : e.get 4 = .ptr 2 2 0) :
    postF Zk.pg cr7 (fun out m => permOD 1 m out = some (.ret x)) 22 [.ptr 0 0 0, .ptr 2 2 0] (.panic badV) e m := by
  obtain ⟨vs, v, k1, k2, k3, k4⟩ := hb
  rw [postF_panic]
  refine ⟨_, call22b k1 k2 k3 k4 (by decide) (by decide) (by decide), ?_⟩
  rintro m' ⟨j1, j2, j3⟩
  subst hx
  have d0 : m'.obj 0 0 = some (.cells noDeck) := j1
  simp only [Mem.obj] at d0 j2 j3
  simp [cr7, h2, h3, h4, d0, j2, j3, permOD, permD, mapO, resAV, noDeck]

def mem0 (t : ByteArray) : Mem :=
  ⟨[(0, .cells [.str ⟨#[]⟩, .str ⟨#[]⟩, .row 9 9 2 0 0, .row 10 10 3 0 0, .row 11 11 2 0 0]), (1, .cells [.int .i64 0]), (2, .cells [.int .i64 0]), (3, .cells [.int .i64 0]),
    (4, .row 9 1 (wordsL.map fun x => [.str x])), (5, .cells [.row 4 4 1 0 6]), (6, .row 3 1 (partsL.map fun x => [.int .i64 x])), (7, .cells [.row 6 6 1 0 6]), (8, .cells [.str t]),
    (9, .row 65 2 []), (10, .row 77 3 []), (11, .row 79 2 [])], 12⟩

def readAV (t : ByteArray) : AV := resAV (readRes t)

set_option maxHeartbeats 4000000 in
theorem call7 (t : ByteArray) (hs : t.size ≤ 1048576) : PCalls Zk.pg 7 [.str t] fun out => out = .ret (readAV t) := by
  refine pcalls_of_acalls 1 (ok7.acalls (by simp) ?_)
  generalize hX : readAV t = X
  simp [cx7]
  refine br_cond rfl (fun h0 => ?_) (fun h0 => ?_)
  · simp [cr7, permOD, permD, mapO]
    rw [← hX]
    simp [readAV, readRes, h0, resAV, noDeck]
  simp [cy7]
  refine xcall_a (call23 (t := t)) ?_
  simp
  have h200 : t.size ≤ 200000 := by have := ltI_f.1 h0; omega
  have sim1 : ∀ (e : Env), e.get 2 = .ptr 0 0 0 → Sim e (mem0 t) e ⟨(mem0 t).store.take 9 |>.set 0 (0, .cells [.str ⟨#[]⟩, .str ⟨#[]⟩, .nilS, .nilS, .nilS]), 9⟩ := fun e _ => by
    refine Sim.trans ?_ (Sim.nil_cell (pos := 0) (g := 0) (vs := [.str ⟨#[]⟩, .str ⟨#[]⟩, .nilS, .nilS, .nilS]) 2 65 (sz := 2) (by decide) rfl rfl)
    refine Sim.trans ?_ (Sim.nil_cell (pos := 0) (g := 0) (vs := [.str ⟨#[]⟩, .str ⟨#[]⟩, .row 9 9 2 0 0, .nilS, .nilS]) 3 77 (sz := 3) (by decide) rfl rfl)
    refine Sim.trans ?_ (Sim.nil_cell (pos := 0) (g := 0) (vs := [.str ⟨#[]⟩, .str ⟨#[]⟩, .row 9 9 2 0 0, .row 10 10 3 0 0, .nilS]) 4 79 (sz := 2) (by decide) rfl rfl)
    exact Sim.of_le (Env.le_refl e) (Mem.le_of rfl rfl)
  refine wpS_rangeS e7 (mem0 t) (Sim.trans (Sim.of_le (Env.le_of (by simp [e7])) (Mem.le_refl _)) (Sim.trans (sim1 _ rfl) (Sim.of_le (Env.le_refl _) (Mem.le_of rfl rfl)))) rfl
    (call74 (pos := 12) (gen := 12) (p := 8) (g := 8) (Inv := InvR t) (X := fun _ => False) (Y := YR t) (t0 := t) (fun t' m l rest h hn => round_inv h hn) ?hc ?h0) ?hr ?hp
  case hc =>
    rintro t' m ⟨S, G, nx, f, rfl, hF, hN, hsz, _⟩
    exact ⟨rfl, by omega⟩
  case h0 => exact ⟨startR, (9, 10, 11), 13, t.size + 1, rfl, ⟨by decide, by decide, by decide, by decide, by decide, by decide⟩, ⟨by decide, fun d h => (by cases h), fun d h => (by cases h)⟩, by show 0 + t.size ≤ 200000; omega, by show 0 + t.size ≤ 200000; omega, by omega, rfl⟩
  case hp =>
    rintro v m' (⟨h, _⟩ | ⟨v', h, hY⟩)
    · cases h
    injection h with h; subst h
    obtain ⟨n, hv, hn, hB⟩ : ∃ n, v = badV ∧ readL (t.size + 1) startR t = (none, n) ∧ BadM n m' := by
      rcases hY with ⟨hv, n, hn, hB⟩ | ⟨hv, t', he, hnl, S, G, nx, f, rfl, hF, hN, hsz, hcz, hf, hrd⟩
      · exact ⟨n, hv, hn, hB⟩
      · refine ⟨S.n, hv, ?_, _, _, rfl, rfl, rfl, rfl⟩
        rw [← hrd]
        exact readL_none he hnl hf
    subst hv
    simp
    exact pan7 (n := n) (by rw [← hX]; simp [readAV, readRes, h0, hn]) hB rfl rfl rfl
  case hr =>
    rintro v m' (⟨h, ⟨t', he, S, G, nx, f, rfl, hF, hN, hsz, hcz, hf, hrd⟩ | h'⟩ | ⟨v', h, _⟩)
    rotate_left
    · exact h'.elim
    · cases h
    have hrd' : readL (t.size + 1) startR t = (some S, S.n) := by
      rw [← hrd]
      cases f with
      | zero => omega
      | succ f => simp [readL, he]
    refine ⟨.ready, e7, okR, rfl, ?_⟩
    obtain ⟨⟨nm, code, defs, refs, lines⟩, stage, n⟩ := S
    obtain ⟨gd, gr, gl⟩ := G
    have l12 : (mem0 t).store.length = 12 := rfl
    have x12 : (mem0 t).next = 12 := rfl
    simp [e7, memR, l12, x12]
    refine xcall_must (b := eqI stage 6) (fun h1 => ?_) (fun h1 => ?_)
    case refine_2 =>
      simp
      exact pan7 (n := n) (by rw [← hX]; simp [readAV, readRes, h0, hrd', h1]) ⟨_, _, rfl, rfl, rfl, rfl⟩ rfl rfl rfl
    simp
    have hcode := hF.code
    have hdl := hF.defs
    have hrl := hF.refs
    have hll := hF.lines
    have hnm := hN.name
    simp only at hcode hdl hrl hll hnm hsz hcz
    have small : Deck.Small ⟨nm, code, defs, refs, lines⟩ := ⟨by simp only; omega, by simp only; omega, by simp only; omega, by simp only; omega, by simp only; omega, fun d h => by have := hN.defs d h; omega, fun d h => by have := hN.refs d h; omega⟩
    have t1 : (defs.map DDef.av).take defs.length = defs.map DDef.av := List.take_of_length_le (by simp)
    have t2 : (refs.map DRef.av).take refs.length = refs.map DRef.av := List.take_of_length_le (by simp)
    have t3 : (lines.map DLine.av).take lines.length = lines.map DLine.av := List.take_of_length_le (by simp)
    refine xcall_p ((call27 ⟨nm, code, defs, refs, lines⟩ small).flip (.agg (.cons (.cons (.list (p := false) (.list (p := false) (.list (p := false) (.refl [])))))) (.refl []))) (by simp [t1, t2, t3]) ?_
    simp
    refine br_cond rfl (fun h2 => ?_) (fun h2 => ?_)
    · simp at h2
      have hX' : X = resAV (noDeck, n, 1) := by rw [← hX]; simp [readAV, readRes, h0, hrd', h1, h2]
      simp [postF_ret]
      refine ⟨_, call22n, ?_⟩
      rintro m' rfl
      simp [cr7, permOD, permD, mapO, hX', resAV, noDeck]
    · simp at h2
      have hX' : X = resAV (Deck.av ⟨nm, code, defs, refs, lines⟩, 0, 0) := by rw [← hX]; simp [readAV, readRes, h0, hrd', h1, h2]
      simp [postF_ret]
      refine ⟨_, call22n, ?_⟩
      rintro m' rfl
      simp [cr7, permOD, permD, mapO, hX', resAV, Deck.av, t1, t2, t3]
end Go.Pm

/- ZkR10: contracts: a line, read by the reference. -/
namespace Go.Pm
open Go Go.Proofs
attribute [-simp] List.getElem?_map

theorem eqS_dec (a b : ByteArray) : eqS a b = decide (a = b) := by
  by_cases h : a = b
  · simp [h, eqS_t.2]
  · have : eqS a b ≠ true := fun e => h (eqS_t.1 e)
    simp [h, this]
theorem eqW : eqS ⟨#[79, 66, 74, 69, 67, 84]⟩ ⟨#[79, 66, 74, 69, 67, 84]⟩ = true ∧ eqS ⟨#[79, 66, 74, 69, 67, 84]⟩ ⟨#[67, 79, 68, 69]⟩ = false ∧ eqS ⟨#[79, 66, 74, 69, 67, 84]⟩ ⟨#[68, 69, 70]⟩ = false ∧ eqS ⟨#[79, 66, 74, 69, 67, 84]⟩ ⟨#[82, 69, 70]⟩ = false ∧ eqS ⟨#[79, 66, 74, 69, 67, 84]⟩ ⟨#[76, 73, 78, 69]⟩ = false ∧ eqS ⟨#[79, 66, 74, 69, 67, 84]⟩ ⟨#[69, 78, 68]⟩ = false ∧ eqS ⟨#[67, 79, 68, 69]⟩ ⟨#[79, 66, 74, 69, 67, 84]⟩ = false ∧ eqS ⟨#[67, 79, 68, 69]⟩ ⟨#[67, 79, 68, 69]⟩ = true ∧ eqS ⟨#[67, 79, 68, 69]⟩ ⟨#[68, 69, 70]⟩ = false ∧ eqS ⟨#[67, 79, 68, 69]⟩ ⟨#[82, 69, 70]⟩ = false ∧ eqS ⟨#[67, 79, 68, 69]⟩ ⟨#[76, 73, 78, 69]⟩ = false ∧ eqS ⟨#[67, 79, 68, 69]⟩ ⟨#[69, 78, 68]⟩ = false ∧ eqS ⟨#[68, 69, 70]⟩ ⟨#[79, 66, 74, 69, 67, 84]⟩ = false ∧ eqS ⟨#[68, 69, 70]⟩ ⟨#[67, 79, 68, 69]⟩ = false ∧ eqS ⟨#[68, 69, 70]⟩ ⟨#[68, 69, 70]⟩ = true ∧ eqS ⟨#[68, 69, 70]⟩ ⟨#[82, 69, 70]⟩ = false ∧ eqS ⟨#[68, 69, 70]⟩ ⟨#[76, 73, 78, 69]⟩ = false ∧ eqS ⟨#[68, 69, 70]⟩ ⟨#[69, 78, 68]⟩ = false ∧ eqS ⟨#[82, 69, 70]⟩ ⟨#[79, 66, 74, 69, 67, 84]⟩ = false ∧ eqS ⟨#[82, 69, 70]⟩ ⟨#[67, 79, 68, 69]⟩ = false ∧ eqS ⟨#[82, 69, 70]⟩ ⟨#[68, 69, 70]⟩ = false ∧ eqS ⟨#[82, 69, 70]⟩ ⟨#[82, 69, 70]⟩ = true ∧ eqS ⟨#[82, 69, 70]⟩ ⟨#[76, 73, 78, 69]⟩ = false ∧ eqS ⟨#[82, 69, 70]⟩ ⟨#[69, 78, 68]⟩ = false ∧ eqS ⟨#[76, 73, 78, 69]⟩ ⟨#[79, 66, 74, 69, 67, 84]⟩ = false ∧ eqS ⟨#[76, 73, 78, 69]⟩ ⟨#[67, 79, 68, 69]⟩ = false ∧ eqS ⟨#[76, 73, 78, 69]⟩ ⟨#[68, 69, 70]⟩ = false ∧ eqS ⟨#[76, 73, 78, 69]⟩ ⟨#[82, 69, 70]⟩ = false ∧ eqS ⟨#[76, 73, 78, 69]⟩ ⟨#[76, 73, 78, 69]⟩ = true ∧ eqS ⟨#[76, 73, 78, 69]⟩ ⟨#[69, 78, 68]⟩ = false ∧ eqS ⟨#[69, 78, 68]⟩ ⟨#[79, 66, 74, 69, 67, 84]⟩ = false ∧ eqS ⟨#[69, 78, 68]⟩ ⟨#[67, 79, 68, 69]⟩ = false ∧ eqS ⟨#[69, 78, 68]⟩ ⟨#[68, 69, 70]⟩ = false ∧ eqS ⟨#[69, 78, 68]⟩ ⟨#[82, 69, 70]⟩ = false ∧ eqS ⟨#[69, 78, 68]⟩ ⟨#[76, 73, 78, 69]⟩ = false ∧ eqS ⟨#[69, 78, 68]⟩ ⟨#[69, 78, 68]⟩ = true := by
  simp only [eqS_dec]; decide
theorem kOfW : kOf ⟨#[79, 66, 74, 69, 67, 84]⟩ = 0 ∧ kOf ⟨#[67, 79, 68, 69]⟩ = 1 ∧ kOf ⟨#[68, 69, 70]⟩ = 2 ∧ kOf ⟨#[82, 69, 70]⟩ = 3 ∧ kOf ⟨#[76, 73, 78, 69]⟩ = 4 ∧ kOf ⟨#[69, 78, 68]⟩ = 5 := by
  unfold kOf wordsL; simp only [eqS_dec]; decide

/-- The reference's state: the object, the part, whether the last CODE line was full. -/
structure QSt where
  o : Deck
  part : Nat
  full : Bool

def okPairF (s : ByteArray) (k : Nat) : Bool := !ltI (digitF (byteAt s (2 * k))) 0 && !ltI (digitF (byteAt s (2 * k + 1))) 0
def hexByte (s : ByteArray) (k : Nat) : UInt8 := UInt8.ofNat (16 * digitF (byteAt s (2 * k)) + digitF (byteAt s (2 * k + 1))).toNat
def hexT (s : ByteArray) : Option ByteArray := if (List.range (s.size / 2)).all (okPairF s) then some (mkB ((List.range (s.size / 2)).map (hexByte s))) else none

def lineK (S : QSt) (k : Nat) (w : List ByteArray) : Option QSt := match k with
  | 0 => if eqI w.length 2 && (eqI S.part 0 && namedF (ix w 1)) then some ⟨{ S.o with name := ix w 1 }, 1, true⟩ else none
  | 1 => if eqI S.part 0 then none else if eqI w.length 2 && (leI S.part 2 && S.full) then
      (if eqI (((ix w 1).size : Int).tmod 2) 0 && leI (ix w 1).size 64 then (hexT (ix w 1)).map fun b => ⟨{ S.o with code := S.o.code ++ b }, 2, eqI (ix w 1).size 64⟩ else none) else none
  | 2 => if eqI S.part 0 then none else if eqI w.length 3 && (leI S.part 3 && namedF (ix w 1)) then (numRL (ix w 2).data.toList).map fun n => ⟨{ S.o with defs := S.o.defs ++ [⟨ix w 1, n⟩] }, 3, S.full⟩ else none
  | 3 => if eqI S.part 0 then none else if eqI w.length 4 && (leI S.part 4 && namedF (ix w 2)) then (numRL (ix w 1).data.toList).bind fun a => (numRL (ix w 3).data.toList).map fun b => ⟨{ S.o with refs := S.o.refs ++ [⟨a, ix w 2, b⟩] }, 4, S.full⟩ else none
  | 4 => if eqI S.part 0 then none else if eqI w.length 3 && leI S.part 5 then (numRL (ix w 1).data.toList).bind fun a => (numRL (ix w 2).data.toList).map fun b => ⟨{ S.o with lines := S.o.lines ++ [⟨a, b⟩] }, 5, S.full⟩ else none
  | 5 => if eqI S.part 0 then none else if eqI w.length 1 then some ⟨S.o, 6, S.full⟩ else none
  | _ => none
def lineQ (S : QSt) (s : ByteArray) : Option QSt := match wordsF s with
  | none => none
  | some w => if eqI S.part 6 then none else lineK S (kOf (ix w 0)) w

/-- The memory while the reference reads. -/
def memQ (S : QSt) (G : Nat × Nat × Nat) (nx : Nat) : Mem :=
  ⟨[(0, .cells [.str ⟨#[]⟩, .str ⟨#[]⟩, .nilS, .nilS, .nilS]),
    (1, .cells [.str S.o.name, .str S.o.code, .row 2 G.1 2 0 S.o.defs.length, .row 3 G.2.1 3 0 S.o.refs.length, .row 4 G.2.2 2 0 S.o.lines.length, .int .i64 S.part, .bool S.full]),
    (G.1, .row 65 2 (S.o.defs.map DDef.av)), (G.2.1, .row 77 3 (S.o.refs.map DRef.av)), (G.2.2, .row 79 2 (S.o.lines.map DLine.av))], nx⟩
def R28 (S : QSt) (s : ByteArray) (out : AOut) (m' : Mem) : Prop := ∃ S' G' nx', Mem.le (memQ S' G' nx') m' ∧ ((out = .ret (.bool true) ∧ lineQ S s = some S') ∨ (out = .ret (.bool false) ∧ lineQ S s = none))

theorem splW_size : ∀ (l acc x : List UInt8), x ∈ splW acc l → x.length ≤ acc.length + l.length
  | [], acc, x, h => by simp [splW] at h; subst h; simp
  | b :: t, acc, x, h => by
    unfold splW at h
    split at h
    · rcases List.mem_cons.1 h with rfl | h
      · simp
      · have := splW_size t [] x h
        simp at this ⊢; omega
    · have := splW_size t _ x h
      simp at this ⊢; omega
theorem words_size {s : ByteArray} {w : List ByteArray} (h : wordsF s = some w) : (∀ x ∈ w, x.size ≤ s.size) ∧ w ≠ [] ∧ ∀ x ∈ w, x ≠ ⟨#[]⟩ := by
  unfold wordsF at h
  split at h
  · rename_i hall
    injection h with h; subst h
    refine ⟨fun x hx => ?_, fun e => ?_, fun x hx => ?_⟩
    · obtain ⟨y, hy, rfl⟩ := List.mem_map.1 hx
      have := splW_size _ _ _ hy
      rw [mkB_size]
      rw [← len_data s]; simpa using this
    · cases hs : splW [] s.data.toList with
      | nil =>
        have : ∀ (l acc : List UInt8), splW acc l ≠ [] := by
          intro l
          induction l with
          | nil => intro acc; simp [splW]
          | cons b t ih => intro acc; unfold splW; split
                           · simp
                           · exact ih _
        exact this _ _ hs
      | cons a l => rw [hs] at e; cases e
    · obtain ⟨y, hy, rfl⟩ := List.mem_map.1 hx
      have := List.all_eq_true.1 hall y hy
      intro e
      have e2 := congrArg (fun z : ByteArray => z.data.toList) e
      simp at e2 this
      exact this e2
  · cases h

structure QSt.Fit (S : QSt) : Prop where
  part : S.part ≤ 6
  code : S.o.code.size ≤ 400000
  defs : S.o.defs.length ≤ 400000
  refs : S.o.refs.length ≤ 400000
  lines : S.o.lines.length ≤ 400000

/-- A line of CODE, DEF, REF or LINE, as long as it must be. -/
def Kind (s : ByteArray) : Prop := (∃ w1, wordsF s = some [⟨#[67, 79, 68, 69]⟩, w1]) ∨ (∃ w1 w2, wordsF s = some [⟨#[68, 69, 70]⟩, w1, w2]) ∨ (∃ w1 w2 w3, wordsF s = some [⟨#[82, 69, 70]⟩, w1, w2, w3]) ∨ ∃ w1 w2, wordsF s = some [⟨#[76, 73, 78, 69]⟩, w1, w2]
end Go.Pm

/- ZkR11: contracts: a line, read by the reference: those of none or of two kinds. -/
namespace Go.Pm
open Go Go.Proofs
attribute [-simp] List.getElem?_map

set_option maxHeartbeats 8000000 in
theorem call28_no {S : QSt} {G : Nat × Nat × Nat} {nx : Nat} {s : ByteArray} (hs : s.size ≤ 200000) (hS : S.Fit) (hno : eqI S.part 6 = false → eqI S.part 0 = false → ¬ Kind s) : ACalls Zk.pg 28 [.ptr 1 1 0, .str s] (memQ S G nx) (R28 S s) := by
  refine ok28.acalls (by simp) ?_
  obtain ⟨⟨nm, code, defs, refs, lines⟩, part, full⟩ := S
  obtain ⟨gd, gr, gl⟩ := G
  have no : lineQ ⟨⟨nm, code, defs, refs, lines⟩, part, full⟩ s = none → ∀ S' G' nx' m', Mem.le (memQ S' G' nx') m' → R28 ⟨⟨nm, code, defs, refs, lines⟩, part, full⟩ s (.ret (.bool false)) m' := fun h S' G' nx' m' hm => ⟨S', G', nx', hm, .inr ⟨rfl, h⟩⟩
  have yes : ∀ S', lineQ ⟨⟨nm, code, defs, refs, lines⟩, part, full⟩ s = some S' → ∀ G' nx' m', Mem.le (memQ S' G' nx') m' → R28 ⟨⟨nm, code, defs, refs, lines⟩, part, full⟩ s (.ret (.bool true)) m' := fun S' h G' nx' m' hm => ⟨S', G', nx', hm, .inl ⟨rfl, h⟩⟩
  simp [c28, memQ]
  refine xcall_p (call81 s (by omega)) (by simp) ?_
  cases hw : wordsF s with
  | none =>
    have hv : wordsAV s = .nilS := by unfold wordsAV; rw [hw]
    have q0 : eqI 0 0 = true := rfl
    rw [hv]
    simp [q0, postA_ret, cr28]
    exact no (by unfold lineQ; rw [hw]) ⟨⟨nm, code, defs, refs, lines⟩, part, full⟩ (gd, gr, gl) nx _ (Mem.le_of rfl (by simp [memQ]))
  | some w =>
    obtain ⟨hsz, hne, hem⟩ := words_size hw
    have hv : wordsAV s = .list true 1 (w.map fun x => [.str x]) := by unfold wordsAV; rw [hw]
    have hlq : ∀ S, lineQ S s = if eqI S.part 6 then none else lineK S (kOf (ix w 0)) w := fun S => by unfold lineQ; rw [hw]
    obtain ⟨w0, ws, rfl⟩ : ∃ w0 ws, w = w0 :: ws := by cases w with
      | nil => exact absurd rfl hne
      | cons a b => exact ⟨a, b, rfl⟩
    have hix : ix (w0 :: ws) 0 = w0 := rfl
    rw [hix] at hlq
    have q0 : eqI ((ws.length : Int) + 1) 0 = false := by simp [eqI]; omega
    rw [hv]
    cases h6 : eqI (part : Int) 6 with
    | true =>
      simp [q0, nilCheckA, h6, postA_ret, cr28]
      exact no (by rw [hlq]; simp [h6]) ⟨⟨nm, code, defs, refs, lines⟩, part, full⟩ (gd, gr, gl) nx _ (Mem.le_of rfl (by simp [memQ]))
    | false =>
    have nol : lineK ⟨⟨nm, code, defs, refs, lines⟩, part, full⟩ (kOf w0) (w0 :: ws) = none → ∀ m', Mem.le (memQ ⟨⟨nm, code, defs, refs, lines⟩, part, full⟩ (gd, gr, gl) nx) m' → R28 ⟨⟨nm, code, defs, refs, lines⟩, part, full⟩ s (.ret (.bool false)) m' := fun h m' hm => no (by rw [hlq]; simp [h6, h]) _ _ _ _ hm
    have yesl : ∀ S', lineK ⟨⟨nm, code, defs, refs, lines⟩, part, full⟩ (kOf w0) (w0 :: ws) = some S' → ∀ G' nx' m', Mem.le (memQ S' G' nx') m' → R28 ⟨⟨nm, code, defs, refs, lines⟩, part, full⟩ s (.ret (.bool true)) m' := fun S' h => yes S' (by rw [hlq]; simp [h6, h])
    clear hlq hv no yes
    have hsz' : ∀ x ∈ ws, x.size ≤ 200000 := fun x hx => by have := hsz x (List.mem_cons_of_mem _ hx); omega
    simp [q0]
    by_cases e0 : w0 = ⟨#[79, 66, 74, 69, 67, 84]⟩
    · subst e0
      cases h0 : eqI (part : Int) 0 with
      | false =>
        cases hl : eqI ((ws.length : Int) + 1) 2 with
        | false =>
          simp [nilCheckA, h6, eqW, h0, hl, postA_ret, cr28]
          exact nol (by simp [lineK, kOfW, h0, hl]) _ (Mem.le_of rfl (by simp [memQ]))
        | true =>
          simp [nilCheckA, h6, eqW, h0, hl, postA_ret, cr28]
          exact nol (by simp [lineK, kOfW, h0, hl]) _ (Mem.le_of rfl (by simp [memQ]))
      | true =>
        cases hl : eqI ((ws.length : Int) + 1) 2 with
        | false =>
          simp [nilCheckA, h6, eqW, h0, hl, postA_ret, cr28]
          exact nol (by simp [lineK, kOfW, h0, hl]) _ (Mem.le_of rfl (by simp [memQ]))
        | true =>
          obtain ⟨w1, rfl⟩ : ∃ w1, ws = [w1] := List.length_eq_one_iff.1 (by have := eqI_t.1 hl; omega)
          have hw1 := hsz' w1 (by simp)
          have q2 : eqI 2 2 = true := rfl
          simp [nilCheckA, h6, eqW, h0, q2]
          refine xcall_p (call82 w1 (by omega)) rfl ?_
          cases hn : namedF w1 with
          | false =>
            simp [nilCheckA, h6, eqW, h0, hn, q2, postA_ret, cr28]
            exact nol (by simp [lineK, kOfW, h0, hn, q2, ix]) _ (Mem.le_of rfl (by simp [memQ]))
          | true =>
            simp [nilCheckA, postA_ret, cr28]
            exact yesl ⟨⟨w1, code, defs, refs, lines⟩, 1, true⟩ (by simp [lineK, kOfW, h0, hn, q2, ix]) (gd, gr, gl) nx _ (Mem.le_of rfl (by simp [memQ]))
    by_cases e1 : w0 = ⟨#[67, 79, 68, 69]⟩
    · subst e1
      cases h0 : eqI (part : Int) 0 with
      | true =>
        simp [nilCheckA, h6, eqW, h0, postA_ret, cr28]
        exact nol (by simp [lineK, kOfW, h0]) _ (Mem.le_of rfl (by simp [memQ]))
      | false =>
        cases hl : eqI ((ws.length : Int) + 1) 2 with
        | false =>
          simp [nilCheckA, h6, eqW, h0, hl, postA_ret, cr28]
          exact nol (by simp [lineK, kOfW, h0, hl]) _ (Mem.le_of rfl (by simp [memQ]))
        | true =>
          obtain ⟨w1, rfl⟩ : ∃ w1, ws = [w1] := List.length_eq_one_iff.1 (by have := eqI_t.1 hl; omega)
          exact (hno h6 h0 (.inl ⟨w1, hw⟩)).elim
    by_cases e2 : w0 = ⟨#[68, 69, 70]⟩
    · subst e2
      cases h0 : eqI (part : Int) 0 with
      | true =>
        simp [nilCheckA, h6, eqW, h0, postA_ret, cr28]
        exact nol (by simp [lineK, kOfW, h0]) _ (Mem.le_of rfl (by simp [memQ]))
      | false =>
        cases hl : eqI ((ws.length : Int) + 1) 3 with
        | false =>
          simp [nilCheckA, h6, eqW, h0, hl, postA_ret, cr28]
          exact nol (by simp [lineK, kOfW, h0, hl]) _ (Mem.le_of rfl (by simp [memQ]))
        | true =>
          obtain ⟨w1, w2, rfl⟩ : ∃ w1 w2, ws = [w1, w2] := len2 (by have := eqI_t.1 hl; omega)
          exact (hno h6 h0 (.inr (.inl ⟨w1, w2, hw⟩))).elim
    by_cases e3 : w0 = ⟨#[82, 69, 70]⟩
    · subst e3
      cases h0 : eqI (part : Int) 0 with
      | true =>
        simp [nilCheckA, h6, eqW, h0, postA_ret, cr28]
        exact nol (by simp [lineK, kOfW, h0]) _ (Mem.le_of rfl (by simp [memQ]))
      | false =>
        cases hl : eqI ((ws.length : Int) + 1) 4 with
        | false =>
          simp [nilCheckA, h6, eqW, h0, hl, postA_ret, cr28]
          exact nol (by simp [lineK, kOfW, h0, hl]) _ (Mem.le_of rfl (by simp [memQ]))
        | true =>
          obtain ⟨w1, w2, w3, rfl⟩ : ∃ w1 w2 w3, ws = [w1, w2, w3] := len3 (by have := eqI_t.1 hl; omega)
          exact (hno h6 h0 (.inr (.inr (.inl ⟨w1, w2, w3, hw⟩)))).elim
    by_cases e4 : w0 = ⟨#[76, 73, 78, 69]⟩
    · subst e4
      cases h0 : eqI (part : Int) 0 with
      | true =>
        simp [nilCheckA, h6, eqW, h0, postA_ret, cr28]
        exact nol (by simp [lineK, kOfW, h0]) _ (Mem.le_of rfl (by simp [memQ]))
      | false =>
        cases hl : eqI ((ws.length : Int) + 1) 3 with
        | false =>
          simp [nilCheckA, h6, eqW, h0, hl, postA_ret, cr28]
          exact nol (by simp [lineK, kOfW, h0, hl]) _ (Mem.le_of rfl (by simp [memQ]))
        | true =>
          obtain ⟨w1, w2, rfl⟩ : ∃ w1 w2, ws = [w1, w2] := len2 (by have := eqI_t.1 hl; omega)
          exact (hno h6 h0 (.inr (.inr (.inr ⟨w1, w2, hw⟩)))).elim
    by_cases e5 : w0 = ⟨#[69, 78, 68]⟩
    · subst e5
      cases h0 : eqI (part : Int) 0 with
      | true =>
        simp [nilCheckA, h6, eqW, h0, postA_ret, cr28]
        exact nol (by simp [lineK, kOfW, h0]) _ (Mem.le_of rfl (by simp [memQ]))
      | false =>
        cases hl : eqI ((ws.length : Int) + 1) 1 with
        | false =>
          simp [nilCheckA, h6, eqW, h0, hl, postA_ret, cr28]
          exact nol (by simp [lineK, kOfW, h0, hl]) _ (Mem.le_of rfl (by simp [memQ]))
        | true =>
          obtain rfl : ws = [] := List.eq_nil_of_length_eq_zero (by have := eqI_t.1 hl; omega)
          have q1 : eqI 1 1 = true := rfl
          simp [nilCheckA, h6, eqW, h0, q1, postA_ret, cr28]
          exact yesl ⟨⟨nm, code, defs, refs, lines⟩, 6, full⟩ (by simp [lineK, kOfW, h0, q1]) (gd, gr, gl) nx _ (Mem.le_of rfl (by simp [memQ]))
    have k6 : kOf w0 = 6 := by
      unfold kOf wordsL
      have f : ∀ x, w0 ≠ x → eqS x w0 = false := fun x h => by rw [eqS_dec]; simp [Ne.symm h]
      simp [List.findIdx_cons, f _ e0, f _ e1, f _ e2, f _ e3, f _ e4, f _ e5]
    have f : ∀ x, w0 ≠ x → eqS w0 x = false := fun x h => by rw [eqS_dec]; simp [h]
    have g0 := f _ e0; have g1 := f _ e1; have g2 := f _ e2; have g3 := f _ e3; have g4 := f _ e4; have g5 := f _ e5
    cases h0 : eqI (part : Int) 0 with
    | true =>
      simp [nilCheckA, h6, g0, g1, g2, g3, g4, g5, h0, postA_ret, cr28]
      exact nol (by simp [lineK, k6]) _ (Mem.le_of rfl (by simp [memQ]))
    | false =>
      simp [nilCheckA, h6, g0, g1, g2, g3, g4, g5, h0, postA_ret, cr28]
      exact nol (by simp [lineK, k6]) _ (Mem.le_of rfl (by simp [memQ]))
end Go.Pm
