/- LkS9: code, resolved. Written by gen.py out of what ShowSC.lean printed. -/
import Derived.Test.YtolfkdphlgkekaaLkS8
namespace Go.Pm
open Go Go.Proofs

/-- ironbark/ironbarklaw34.large -/
def c8 : SC :=
  (.seq (.ops [⟨(some 4), .plain .mv, [.lit (.bool false)], none⟩] [])
  (.seq (.ops [⟨(some 5), .plain .mv, [.lit (.int .i64 0)], none⟩] [])
  (.seq (.ops [⟨(some 10), .plain .mv, [.tmp 0], none⟩,
    ⟨(some 11), .plain (.buildRow 22 1 1 [.nilS] [0]), [.tmp 10], none⟩,
    ⟨(some 12), .plain .mv, [.tmp 1], none⟩,
    ⟨(some 13), .plain (.append 22 1 24), [.tmp 11, .tmp 12], none⟩,
    ⟨(some 6), .plain .mv, [.tmp 13], none⟩] [10, 11, 12, 13])
  (.seq (.seq (.ops [⟨(some 14), .plain .mv, [.tmp 6], none⟩,
    ⟨(some 15), .plain (.len 1), [.tmp 14], none⟩,
    ⟨(some 16), .plain (.bin .gtr), [.tmp 15, .lit (.int .i64 6)], none⟩] [14, 15])
  (.cond (.tmp 16)
   (.seq (.ops [⟨(some 4), .plain .mv, [.lit (.bool true)], none⟩] [])
   .ret)
   .skip))
  (.seq (.seq (.ops [⟨(some 7), .plain .mv, [.lit (.int .i64 0)], none⟩] [])
  (.block 0
   (.loop
    (.seq (.seq (.ops [⟨(some 17), .plain .mv, [.tmp 7], none⟩,
      ⟨(some 18), .plain .mv, [.tmp 6], none⟩,
      ⟨(some 19), .plain (.len 1), [.tmp 18], none⟩,
      ⟨(some 20), .plain (.bin .lss), [.tmp 17, .tmp 19], none⟩] [17, 18, 19])
    (.cond (.tmp 20)
     .skip
     (.exit 0)))
    (.seq (.block 1
     (.seq (.ops [⟨(some 8), .plain .mv, [.lit (.int .i64 0)], none⟩] [])
     (.block 2
      (.loop
       (.seq (.seq (.ops [⟨(some 23), .plain .mv, [.tmp 8], none⟩,
         ⟨(some 24), .plain .mv, [.tmp 6], none⟩,
         ⟨(some 25), .plain .mv, [.tmp 7], none⟩,
         ⟨(some 26), .plain (.indexAddr 1), [.tmp 24, .tmp 25], none⟩,
         ⟨(some 27), .plain (.load false 1), [.tmp 26], none⟩,
         ⟨(some 28), .plain (.len 1), [.tmp 27], none⟩,
         ⟨(some 29), .plain (.bin .lss), [.tmp 23, .tmp 28], none⟩] [23, 24, 25, 26, 27, 28])
       (.cond (.tmp 29)
        .skip
        (.exit 2)))
       (.seq (.block 3
        (.seq (.ops [⟨(some 32), .plain .mv, [.tmp 6], none⟩,
          ⟨(some 33), .plain .mv, [.tmp 7], none⟩,
          ⟨(some 34), .plain (.indexAddr 1), [.tmp 32, .tmp 33], none⟩,
          ⟨(some 35), .plain (.load false 1), [.tmp 34], none⟩,
          ⟨(some 36), .plain .mv, [.tmp 8], none⟩,
          ⟨(some 37), .plain (.indexAddr 5), [.tmp 35, .tmp 36], none⟩,
          ⟨(some 38), .plain (.load true 5), [.tmp 37], none⟩,
          ⟨(some 9), .plain (.alloc [(.str ⟨#[]⟩), (.str ⟨#[]⟩), .nilS, .nilS, .nilS]), [], none⟩,
          ⟨none, .plain (.store 5), [.tmp 9, .tmp 38], none⟩] [32, 33, 34, 35, 36, 37, 38])
        (.seq (.ops [⟨(some 39), .plain .mv, [.tmp 5], none⟩,
          ⟨(some 40), .plain (.fieldAddr 0), [.tmp 9], none⟩,
          ⟨(some 41), .plain (.load false 1), [.tmp 40], none⟩,
          ⟨(some 42), .plain (.len 0), [.tmp 41], none⟩,
          ⟨(some 43), .plain (.bin .add), [.lit (.int .i64 20), .tmp 42], none⟩,
          ⟨(some 44), .plain (.fieldAddr 2), [.tmp 9], none⟩,
          ⟨(some 45), .plain (.load false 1), [.tmp 44], none⟩,
          ⟨(some 46), .plain (.len 1), [.tmp 45], none⟩,
          ⟨(some 47), .plain (.fieldAddr 3), [.tmp 9], none⟩,
          ⟨(some 48), .plain (.load false 1), [.tmp 47], none⟩,
          ⟨(some 49), .plain (.len 1), [.tmp 48], none⟩,
          ⟨(some 50), .plain (.bin .add), [.tmp 46, .tmp 49], none⟩,
          ⟨(some 51), .plain (.fieldAddr 4), [.tmp 9], none⟩,
          ⟨(some 52), .plain (.load false 1), [.tmp 51], none⟩,
          ⟨(some 53), .plain (.len 1), [.tmp 52], none⟩,
          ⟨(some 54), .plain (.bin .add), [.tmp 50, .tmp 53], none⟩,
          ⟨(some 55), .plain (.bin .mul), [.lit (.int .i64 10), .tmp 54], none⟩,
          ⟨(some 56), .plain (.bin .add), [.tmp 43, .tmp 55], none⟩,
          ⟨(some 57), .plain (.bin .add), [.tmp 39, .tmp 56], none⟩,
          ⟨(some 5), .plain .mv, [.tmp 57], none⟩] [39, 40, 41, 42, 43, 44, 45, 46, 47, 48, 49, 50, 51, 52, 53, 54, 55, 56, 57])
        (.seq (.ops [⟨(some 58), .plain (.fieldAddr 1), [.tmp 9], none⟩,
          ⟨(some 59), .plain (.load false 1), [.tmp 58], none⟩,
          ⟨(some 60), .plain (.len 0), [.tmp 59], none⟩,
          ⟨(some 61), .plain (.bin .lss), [.tmp 60, .lit (.int .i64 19900)], none⟩] [58, 59, 60])
        (.cond (.tmp 61)
         (.ops [⟨(some 62), .plain .mv, [.tmp 5], none⟩,
           ⟨(some 63), .plain (.fieldAddr 1), [.tmp 9], none⟩,
           ⟨(some 64), .plain (.load false 1), [.tmp 63], none⟩,
           ⟨(some 65), .plain (.len 0), [.tmp 64], none⟩,
           ⟨(some 66), .plain (.bin .add), [.tmp 62, .tmp 65], none⟩,
           ⟨(some 5), .plain .mv, [.tmp 66], none⟩] [62, 63, 64, 65, 66])
         .skip)))))
       (.ops [⟨(some 30), .plain .mv, [.tmp 8], none⟩,
         ⟨(some 31), .plain (.bin .add), [.tmp 30, .lit (.int .i64 1)], none⟩,
         ⟨(some 8), .plain .mv, [.tmp 31], none⟩] [30, 31])))))))
    (.ops [⟨(some 21), .plain .mv, [.tmp 7], none⟩,
      ⟨(some 22), .plain (.bin .add), [.tmp 21, .lit (.int .i64 1)], none⟩,
      ⟨(some 7), .plain .mv, [.tmp 22], none⟩] [21, 22]))))))
  (.seq (.ops [⟨(some 67), .plain .mv, [.tmp 5], none⟩,
    ⟨(some 68), .plain (.bin .gtr), [.tmp 67, .lit (.int .i64 6000)], none⟩,
    ⟨(some 4), .plain .mv, [.tmp 68], none⟩] [67, 68])
  .ret))))))
def cr8 : List Res := [(4, none)]
theorem ok8 : FOk Try.prog Lk.imp 8 c8 cr8 Try.f8.ntmps := ⟨Try.f8, _, Try.func8, rfl, by kernel_rfl, by kernel_rfl, by kernel_rfl, rfl⟩

/-- ironbark/ironbarkref34.Given -/
def c10 : SC :=
  (.seq (.ops [⟨(some 2), .plain .mv, [.lit .nilS], none⟩] [])
  (.seq (.ops [⟨(some 4), .plain .mv, [.tmp 0], none⟩,
    ⟨(some 5), .plain (.append 51 5 104), [.lit .nilS, .tmp 4], none⟩,
    ⟨(some 0), .plain .mv, [.tmp 5], none⟩] [4, 5])
  (.seq (.seq (.ops [⟨(some 3), .plain .mv, [.lit (.int .i64 0)], none⟩] [])
  (.block 0
   (.loop
    (.seq (.seq (.ops [⟨(some 6), .plain .mv, [.tmp 3], none⟩,
      ⟨(some 7), .plain .mv, [.tmp 0], none⟩,
      ⟨(some 8), .plain (.len 1), [.tmp 7], none⟩,
      ⟨(some 9), .plain (.bin .lss), [.tmp 6, .tmp 8], none⟩] [6, 7, 8])
    (.cond (.tmp 9)
     .skip
     (.exit 0)))
    (.seq (.block 1
     (.seq (.ops [⟨(some 12), .plain .mv, [.tmp 0], none⟩,
       ⟨(some 13), .plain .mv, [.tmp 3], none⟩,
       ⟨(some 14), .plain .mv, [.tmp 0], none⟩,
       ⟨(some 15), .plain .mv, [.tmp 3], none⟩,
       ⟨(some 16), .plain (.indexAddr 5), [.tmp 14, .tmp 15], none⟩,
       ⟨(some 17), .plain (.fieldAddr 2), [.tmp 16], none⟩,
       ⟨(some 18), .plain (.load false 1), [.tmp 17], none⟩,
       ⟨(some 19), .plain (.append 40 2 24), [.lit .nilS, .tmp 18], none⟩,
       ⟨(some 20), .plain (.indexAddr 5), [.tmp 12, .tmp 13], none⟩,
       ⟨(some 21), .plain (.fieldAddr 2), [.tmp 20], none⟩,
       ⟨none, .plain (.store 1), [.tmp 21, .tmp 19], none⟩] [12, 13, 14, 15, 16, 17, 18, 19, 20, 21])
     (.seq (.ops [⟨(some 22), .plain .mv, [.tmp 0], none⟩,
       ⟨(some 23), .plain .mv, [.tmp 3], none⟩,
       ⟨(some 24), .plain .mv, [.tmp 0], none⟩,
       ⟨(some 25), .plain .mv, [.tmp 3], none⟩,
       ⟨(some 26), .plain (.indexAddr 5), [.tmp 24, .tmp 25], none⟩,
       ⟨(some 27), .plain (.fieldAddr 3), [.tmp 26], none⟩,
       ⟨(some 28), .plain (.load false 1), [.tmp 27], none⟩,
       ⟨(some 29), .plain (.append 107 3 32), [.lit .nilS, .tmp 28], none⟩,
       ⟨(some 30), .plain (.indexAddr 5), [.tmp 22, .tmp 23], none⟩,
       ⟨(some 31), .plain (.fieldAddr 3), [.tmp 30], none⟩,
       ⟨none, .plain (.store 1), [.tmp 31, .tmp 29], none⟩] [22, 23, 24, 25, 26, 27, 28, 29, 30, 31])
     (.ops [⟨(some 32), .plain .mv, [.tmp 0], none⟩,
       ⟨(some 33), .plain .mv, [.tmp 3], none⟩,
       ⟨(some 34), .plain .mv, [.tmp 0], none⟩,
       ⟨(some 35), .plain .mv, [.tmp 3], none⟩,
       ⟨(some 36), .plain (.indexAddr 5), [.tmp 34, .tmp 35], none⟩,
       ⟨(some 37), .plain (.fieldAddr 4), [.tmp 36], none⟩,
       ⟨(some 38), .plain (.load false 1), [.tmp 37], none⟩,
       ⟨(some 39), .plain (.append 102 2 16), [.lit .nilS, .tmp 38], none⟩,
       ⟨(some 40), .plain (.indexAddr 5), [.tmp 32, .tmp 33], none⟩,
       ⟨(some 41), .plain (.fieldAddr 4), [.tmp 40], none⟩,
       ⟨none, .plain (.store 1), [.tmp 41, .tmp 39], none⟩] [32, 33, 34, 35, 36, 37, 38, 39, 40, 41]))))
    (.ops [⟨(some 10), .plain .mv, [.tmp 3], none⟩,
      ⟨(some 11), .plain (.bin .add), [.tmp 10, .lit (.int .i64 1)], none⟩,
      ⟨(some 3), .plain .mv, [.tmp 11], none⟩] [10, 11]))))))
  (.seq (.ops [⟨(some 42), .plain .mv, [.tmp 0], none⟩,
    ⟨(some 2), .plain .mv, [.tmp 42], none⟩] [42])
  .ret))))
def cr10 : List Res := [(2, none)]
theorem ok10 : FOk Try.prog Lk.imp 10 c10 cr10 Try.f10.ntmps := ⟨Try.f10, _, Try.func10, rfl, by kernel_rfl, by kernel_rfl, by kernel_rfl, rfl⟩

/-- ironbark/ironbarkref34.GivenLists -/
def c11 : SC :=
  (.seq (.ops [⟨(some 2), .plain .mv, [.lit .nilS], none⟩] [])
  (.seq (.ops [⟨(some 4), .plain .mv, [.tmp 0], none⟩,
    ⟨(some 5), .plain (.append 22 1 24), [.lit .nilS, .tmp 4], none⟩,
    ⟨(some 0), .plain .mv, [.tmp 5], none⟩] [4, 5])
  (.seq (.seq (.ops [⟨(some 3), .plain .mv, [.lit (.int .i64 0)], none⟩] [])
  (.block 0
   (.loop
    (.seq (.seq (.ops [⟨(some 6), .plain .mv, [.tmp 3], none⟩,
      ⟨(some 7), .plain .mv, [.tmp 0], none⟩,
      ⟨(some 8), .plain (.len 1), [.tmp 7], none⟩,
      ⟨(some 9), .plain (.bin .lss), [.tmp 6, .tmp 8], none⟩] [6, 7, 8])
    (.cond (.tmp 9)
     .skip
     (.exit 0)))
    (.seq (.block 1
     (.ops [⟨(some 12), .plain .mv, [.tmp 0], none⟩,
       ⟨(some 13), .plain .mv, [.tmp 3], none⟩,
       ⟨(some 14), .plain .mv, [.tmp 0], none⟩,
       ⟨(some 15), .plain .mv, [.tmp 3], none⟩,
       ⟨(some 16), .plain (.indexAddr 1), [.tmp 14, .tmp 15], none⟩,
       ⟨(some 17), .plain (.load false 1), [.tmp 16], none⟩,
       ⟨(some 18), .call 10, [.tmp 17], none⟩,
       ⟨(some 19), .plain (.indexAddr 1), [.tmp 12, .tmp 13], none⟩,
       ⟨none, .plain (.store 1), [.tmp 19, .tmp 18], none⟩] [12, 13, 14, 15, 16, 17, 18, 19]))
    (.ops [⟨(some 10), .plain .mv, [.tmp 3], none⟩,
      ⟨(some 11), .plain (.bin .add), [.tmp 10, .lit (.int .i64 1)], none⟩,
      ⟨(some 3), .plain .mv, [.tmp 11], none⟩] [10, 11]))))))
  (.seq (.ops [⟨(some 20), .plain .mv, [.tmp 0], none⟩,
    ⟨(some 2), .plain .mv, [.tmp 20], none⟩] [20])
  .ret))))
def cr11 : List Res := [(2, none)]
theorem ok11 : FOk Try.prog Lk.imp 11 c11 cr11 Try.f11.ntmps := ⟨Try.f11, _, Try.func11, rfl, by kernel_rfl, by kernel_rfl, by kernel_rfl, rfl⟩

/-- ironbark/ironbarkref34.GivenImage -/
def c13 : SC :=
  (.seq (.ops [⟨(some 1), .plain (.box 5), [.tmp 0], none⟩,
    ⟨(some 2), .plain (.alloc [(.int .i64 0), (.str ⟨#[]⟩), .nilS, .nilS, .nilS]), [], none⟩] [])
  (.seq (.ops [⟨(some 3), .plain (.fieldAddr 2), [.tmp 1], none⟩,
    ⟨(some 4), .plain (.load false 1), [.tmp 3], none⟩,
    ⟨(some 5), .plain (.append 40 2 24), [.lit .nilS, .tmp 4], none⟩,
    ⟨(some 6), .plain (.fieldAddr 2), [.tmp 1], none⟩,
    ⟨none, .plain (.store 1), [.tmp 6, .tmp 5], none⟩] [3, 4, 5, 6])
  (.seq (.ops [⟨(some 7), .plain (.fieldAddr 3), [.tmp 1], none⟩,
    ⟨(some 8), .plain (.load false 1), [.tmp 7], none⟩,
    ⟨(some 9), .plain (.append 102 2 16), [.lit .nilS, .tmp 8], none⟩,
    ⟨(some 10), .plain (.fieldAddr 3), [.tmp 1], none⟩,
    ⟨none, .plain (.store 1), [.tmp 10, .tmp 9], none⟩] [7, 8, 9, 10])
  (.seq (.ops [⟨(some 11), .plain (.fieldAddr 4), [.tmp 1], none⟩,
    ⟨(some 12), .plain (.load false 1), [.tmp 11], none⟩,
    ⟨(some 13), .plain (.append 40 2 24), [.lit .nilS, .tmp 12], none⟩,
    ⟨(some 14), .plain (.fieldAddr 4), [.tmp 1], none⟩,
    ⟨none, .plain (.store 1), [.tmp 14, .tmp 13], none⟩] [11, 12, 13, 14])
  (.seq (.ops [⟨(some 15), .plain (.load true 5), [.tmp 1], none⟩,
    ⟨none, .plain (.store 5), [.tmp 2, .tmp 15], none⟩] [15])
  .ret)))))
def cr13 : List Res := [(2, some (true, 5))]
theorem ok13 : FOk Try.prog Lk.imp 13 c13 cr13 Try.f13.ntmps := ⟨Try.f13, _, Try.func13, rfl, by kernel_rfl, by kernel_rfl, by kernel_rfl, rfl⟩

/-- ironbark/ironbarkref34.Move -/
def c14 : SC :=
  (.seq (.ops [⟨(some 4), .plain (.box 5), [.tmp 0], none⟩,
    ⟨(some 8), .plain (.alloc [(.int .i64 0), (.str ⟨#[]⟩), .nilS, .nilS, .nilS]), [], none⟩,
    ⟨(some 9), .plain .mv, [.lit (.int .i64 0)], none⟩] [])
  (.seq (.seq (.ops [⟨(some 16), .plain (.load true 5), [.tmp 4], none⟩,
    ⟨(some 17), .call 31, [.tmp 16], none⟩,
    ⟨(some 18), .plain (.un .not), [.tmp 17], none⟩,
    ⟨(some 19), .plain .mv, [.tmp 18], none⟩,
    ⟨(some 20), .plain .mv, [.tmp 1], (some (19, false))⟩,
    ⟨(some 21), .plain .mv, [.tmp 2], (some (19, false))⟩,
    ⟨(some 22), .call 32, [.tmp 20, .tmp 21], (some (19, false))⟩,
    ⟨(some 23), .plain (.un .not), [.tmp 22], (some (19, false))⟩,
    ⟨(some 24), .plain .pick, [.tmp 19, .lit (.bool true), .tmp 23], none⟩] [16, 17, 18, 19, 20, 21, 22, 23])
  (.cond (.tmp 24)
   (.seq (.ops [⟨(some 25), .plain (.build [(.int .i64 0), (.str ⟨#[]⟩), .nilS, .nilS, .nilS] []), [], none⟩,
     ⟨none, .plain (.store 5), [.tmp 8, .tmp 25], none⟩,
     ⟨(some 9), .plain .mv, [.lit (.int .i64 1)], none⟩] [25])
   .ret)
   .skip))
  (.seq (.seq (.ops [⟨(some 27), .plain .mv, [.tmp 1], none⟩,
    ⟨(some 28), .plain .mv, [.tmp 2], none⟩,
    ⟨(some 29), .plain (.fieldAddr 0), [.tmp 4], none⟩,
    ⟨(some 30), .plain (.load false 1), [.tmp 29], none⟩,
    ⟨(some 31), .call 17, [.tmp 27, .tmp 28, .tmp 30], none⟩,
    ⟨(some 26), .plain .mv, [.tmp 31], none⟩,
    ⟨(some 32), .plain (.extract 0), [.tmp 26], none⟩,
    ⟨(some 33), .plain (.extract 1), [.tmp 26], none⟩,
    ⟨(some 34), .plain (.extract 2), [.tmp 26], none⟩,
    ⟨(some 10), .plain (.alloc [(.int .i64 0), (.str ⟨#[]⟩), .nilS, .nilS, .nilS]), [], none⟩,
    ⟨none, .plain (.store 5), [.tmp 10, .tmp 32], none⟩,
    ⟨(some 11), .plain .mv, [.tmp 33], none⟩,
    ⟨(some 12), .plain .mv, [.tmp 34], none⟩] [27, 28, 29, 30, 31, 26, 32, 33, 34, 12])
  (.seq (.ops [⟨(some 35), .plain .mv, [.tmp 11], none⟩,
    ⟨(some 36), .plain (.bin .neq), [.tmp 35, .lit (.int .i64 0)], none⟩,
    ⟨(some 37), .plain .mv, [.tmp 36], none⟩,
    ⟨(some 38), .plain (.load true 5), [.tmp 10], (some (37, false))⟩,
    ⟨(some 39), .plain (.load true 5), [.tmp 4], (some (37, false))⟩,
    ⟨(some 40), .call 15, [.tmp 38, .tmp 39], (some (37, false))⟩,
    ⟨(some 41), .plain (.un .not), [.tmp 40], (some (37, false))⟩,
    ⟨(some 42), .plain .pick, [.tmp 37, .lit (.bool true), .tmp 41], none⟩] [35, 36, 37, 38, 39, 40, 41])
  (.cond (.tmp 42)
   (.seq (.ops [⟨(some 43), .plain (.build [(.int .i64 0), (.str ⟨#[]⟩), .nilS, .nilS, .nilS] []), [], none⟩,
     ⟨none, .plain (.store 5), [.tmp 8, .tmp 43], none⟩,
     ⟨(some 9), .plain .mv, [.lit (.int .i64 1)], none⟩] [43])
   .ret)
   .skip)))
  (.seq (.ops [⟨(some 45), .plain .mv, [.tmp 1], none⟩,
    ⟨(some 46), .plain .mv, [.tmp 2], none⟩,
    ⟨(some 47), .plain .mv, [.tmp 3], none⟩,
    ⟨(some 48), .call 17, [.tmp 45, .tmp 46, .tmp 47], none⟩,
    ⟨(some 44), .plain .mv, [.tmp 48], none⟩,
    ⟨(some 49), .plain (.extract 0), [.tmp 44], none⟩,
    ⟨(some 50), .plain (.extract 1), [.tmp 44], none⟩,
    ⟨(some 51), .plain (.extract 2), [.tmp 44], none⟩,
    ⟨(some 13), .plain (.alloc [(.int .i64 0), (.str ⟨#[]⟩), .nilS, .nilS, .nilS]), [], none⟩,
    ⟨none, .plain (.store 5), [.tmp 13, .tmp 49], none⟩,
    ⟨(some 14), .plain .mv, [.tmp 50], none⟩,
    ⟨(some 15), .plain .mv, [.tmp 51], none⟩] [45, 46, 47, 48, 44, 49, 50, 51, 15])
  (.seq (.ops [⟨(some 52), .plain (.load true 5), [.tmp 13], none⟩,
    ⟨(some 53), .plain .mv, [.tmp 14], none⟩,
    ⟨none, .plain (.store 5), [.tmp 8, .tmp 52], none⟩,
    ⟨(some 9), .plain .mv, [.tmp 53], none⟩] [52, 53])
  .ret)))))
def cr14 : List Res := [(8, some (true, 5)), (9, none)]
theorem ok14 : FOk Try.prog Lk.imp 14 c14 cr14 Try.f14.ntmps := ⟨Try.f14, _, Try.func14, rfl, by kernel_rfl, by kernel_rfl, by kernel_rfl, rfl⟩

/-- ironbark/ironbarkref34.Link -/
def c17 : SC :=
  (.seq (.ops [⟨(some 6), .plain (.alloc [(.int .i64 0), (.str ⟨#[]⟩), .nilS, .nilS, .nilS]), [], none⟩,
    ⟨(some 7), .plain .mv, [.lit (.int .i64 0)], none⟩,
    ⟨(some 8), .plain .mv, [.lit (.str ⟨#[]⟩)], none⟩] [])
  (.seq (.seq (.ops [⟨(some 13), .plain .mv, [.tmp 0], none⟩,
    ⟨(some 14), .plain .mv, [.tmp 1], none⟩,
    ⟨(some 15), .call 32, [.tmp 13, .tmp 14], none⟩,
    ⟨(some 16), .plain (.un .not), [.tmp 15], none⟩] [13, 14, 15])
  (.cond (.tmp 16)
   (.seq (.ops [⟨(some 17), .plain (.build [(.int .i64 0), (.str ⟨#[]⟩), .nilS, .nilS, .nilS] []), [], none⟩,
     ⟨none, .plain (.store 5), [.tmp 6, .tmp 17], none⟩,
     ⟨(some 7), .plain .mv, [.lit (.int .i64 1)], none⟩,
     ⟨(some 8), .plain .mv, [.lit (.str ⟨#[]⟩)], none⟩] [17])
   .ret)
   .skip))
  (.seq (.seq (.ops [⟨(some 18), .plain .mv, [.tmp 2], none⟩,
    ⟨(some 19), .call 35, [.tmp 18], none⟩,
    ⟨(some 20), .plain (.un .not), [.tmp 19], none⟩] [18, 19])
  (.cond (.tmp 20)
   (.seq (.ops [⟨(some 21), .plain (.build [(.int .i64 0), (.str ⟨#[]⟩), .nilS, .nilS, .nilS] []), [], none⟩,
     ⟨none, .plain (.store 5), [.tmp 6, .tmp 21], none⟩,
     ⟨(some 7), .plain .mv, [.lit (.int .i64 7)], none⟩,
     ⟨(some 8), .plain .mv, [.lit (.str ⟨#[]⟩)], none⟩] [21])
   .ret)
   .skip))
  (.seq (.seq (.ops [⟨(some 22), .plain .mv, [.tmp 0], none⟩,
    ⟨(some 23), .call 36, [.tmp 22], none⟩,
    ⟨(some 9), .plain .mv, [.tmp 23], none⟩] [22, 23])
  (.seq (.ops [⟨(some 24), .plain .mv, [.tmp 9], none⟩,
    ⟨(some 25), .plain (.bin .neq), [.tmp 24, .lit (.str ⟨#[]⟩)], none⟩] [24])
  (.cond (.tmp 25)
   (.seq (.ops [⟨(some 26), .plain (.build [(.int .i64 0), (.str ⟨#[]⟩), .nilS, .nilS, .nilS] []), [], none⟩,
     ⟨(some 27), .plain .mv, [.tmp 9], none⟩,
     ⟨none, .plain (.store 5), [.tmp 6, .tmp 26], none⟩,
     ⟨(some 7), .plain .mv, [.lit (.int .i64 6)], none⟩,
     ⟨(some 8), .plain .mv, [.tmp 27], none⟩] [26, 27])
   .ret)
   .skip)))
  (.seq (.ops [⟨(some 29), .plain .mv, [.tmp 0], none⟩,
    ⟨(some 30), .plain .mv, [.tmp 1], none⟩,
    ⟨(some 31), .call 37, [.tmp 29, .tmp 30, .lit .nilS], none⟩,
    ⟨(some 28), .plain .mv, [.tmp 31], none⟩,
    ⟨(some 32), .plain (.extract 0), [.tmp 28], none⟩,
    ⟨(some 33), .plain (.extract 1), [.tmp 28], none⟩,
    ⟨(some 10), .plain .mv, [.tmp 32], none⟩,
    ⟨(some 11), .plain .mv, [.tmp 33], none⟩] [29, 30, 31, 28, 32, 33])
  (.seq (.seq (.ops [⟨(some 34), .plain .mv, [.tmp 11], none⟩,
    ⟨(some 35), .plain (.len 1), [.tmp 34], none⟩,
    ⟨(some 36), .plain (.bin .gtr), [.tmp 35, .lit (.int .i64 0)], none⟩] [34, 35])
  (.cond (.tmp 36)
   (.seq (.draw (.step ⟨(some 37), .plain (.build [(.int .i64 0), (.str ⟨#[]⟩), .nilS, .nilS, .nilS] []), [], none⟩
     (.step ⟨(some 38), .plain .mv, [.tmp 11], none⟩
     (.step ⟨(some 39), .plain (.indexAddr 1), [.tmp 38, .lit (.int .i64 0)], none⟩
     (.or (.step ⟨(some 40), .plain (.load false 1), [.tmp 39], none⟩
     (.step ⟨none, .plain (.store 5), [.tmp 6, .tmp 37], none⟩
     (.step ⟨(some 7), .plain .mv, [.lit (.int .i64 5)], none⟩
     (.step ⟨(some 8), .plain .mv, [.tmp 40], none⟩
     .done))))
     (.step ⟨none, .plain (.store 5), [.tmp 6, .tmp 37], none⟩
     (.step ⟨(some 40), .plain (.load false 1), [.tmp 39], none⟩
     (.step ⟨(some 7), .plain .mv, [.lit (.int .i64 5)], none⟩
     (.step ⟨(some 8), .plain .mv, [.tmp 40], none⟩
     .done)))))))) [37, 38, 39, 40])
   .ret)
   .skip))
  (.seq (.ops [⟨(some 41), .plain .mv, [.tmp 10], none⟩,
    ⟨(some 42), .plain .mv, [.tmp 2], none⟩,
    ⟨(some 43), .call 38, [.tmp 41, .tmp 42, .lit .nilS], none⟩,
    ⟨(some 12), .plain (.alloc [(.int .i64 0), (.str ⟨#[]⟩), .nilS, .nilS, .nilS]), [], none⟩,
    ⟨none, .plain (.store 5), [.tmp 12, .tmp 43], none⟩] [41, 42, 43])
  (.seq (.seq (.ops [⟨(some 44), .plain .mv, [.tmp 2], none⟩,
    ⟨(some 45), .plain (.fieldAddr 1), [.tmp 12], none⟩,
    ⟨(some 46), .plain (.load false 1), [.tmp 45], none⟩,
    ⟨(some 47), .plain (.len 0), [.tmp 46], none⟩,
    ⟨(some 48), .plain (.bin .add), [.tmp 44, .tmp 47], none⟩,
    ⟨(some 49), .plain (.bin .gtr), [.tmp 48, .lit (.int .i64 65536)], none⟩] [44, 45, 46, 47, 48])
  (.cond (.tmp 49)
   (.seq (.ops [⟨(some 50), .plain (.build [(.int .i64 0), (.str ⟨#[]⟩), .nilS, .nilS, .nilS] []), [], none⟩,
     ⟨none, .plain (.store 5), [.tmp 6, .tmp 50], none⟩,
     ⟨(some 7), .plain .mv, [.lit (.int .i64 11)], none⟩,
     ⟨(some 8), .plain .mv, [.lit (.str ⟨#[]⟩)], none⟩] [50])
   .ret)
   .skip))
  (.seq (.ops [⟨(some 51), .plain (.load true 5), [.tmp 12], none⟩,
    ⟨none, .plain (.store 5), [.tmp 6, .tmp 51], none⟩,
    ⟨(some 7), .plain .mv, [.lit (.int .i64 0)], none⟩,
    ⟨(some 8), .plain .mv, [.lit (.str ⟨#[]⟩)], none⟩] [51])
  .ret)))))))))
def cr17 : List Res := [(6, some (true, 5)), (7, none), (8, none)]
theorem ok17 : FOk Try.prog Lk.imp 17 c17 cr17 Try.f17.ntmps := ⟨Try.f17, _, Try.func17, rfl, by kernel_rfl, by kernel_rfl, by kernel_rfl, rfl⟩

/-- ironbark/ironbarklaw34.awake -/
def c7 : SC :=
  (.seq (.ops [⟨(some 0), .plain .mv, [.lit (.bool false)], none⟩] [])
  (.seq (.ops [⟨(some 5), .plain (.build [(.str ⟨#[]⟩), (.str ⟨#[]⟩), .nilS, .nilS, .nilS] [(0, 1), (1, 1)]), [.lit (.str ⟨#[65]⟩), .lit (.str ⟨#[97, 98, 99, 100, 101, 102]⟩)], none⟩,
    ⟨(some 6), .plain (.build [(.str ⟨#[]⟩), (.str ⟨#[]⟩), .nilS, .nilS, .nilS] [(0, 1), (1, 1)]), [.lit (.str ⟨#[66]⟩), .lit (.str ⟨#[119, 120, 121, 122]⟩)], none⟩,
    ⟨(some 7), .plain (.buildRow 51 5 2 [(.str ⟨#[]⟩), (.str ⟨#[]⟩), .nilS, .nilS, .nilS] [0, 1]), [.tmp 5, .tmp 6], none⟩,
    ⟨(some 8), .call 9, [.tmp 7, .lit .nilS, .lit (.int .i64 16)], none⟩,
    ⟨(some 4), .plain .mv, [.tmp 8], none⟩,
    ⟨(some 9), .plain (.extract 0), [.tmp 4], none⟩,
    ⟨(some 10), .plain (.extract 1), [.tmp 4], none⟩,
    ⟨(some 11), .plain (.extract 2), [.tmp 4], none⟩,
    ⟨(some 1), .plain (.alloc [(.int .i64 0), (.str ⟨#[]⟩), .nilS, .nilS, .nilS]), [], none⟩,
    ⟨none, .plain (.store 5), [.tmp 1, .tmp 9], none⟩,
    ⟨(some 2), .plain .mv, [.tmp 10], none⟩,
    ⟨(some 3), .plain .mv, [.tmp 11], none⟩] [5, 6, 7, 8, 4, 9, 10, 11])
  (.seq (.ops [⟨(some 12), .plain .mv, [.tmp 2], none⟩,
    ⟨(some 13), .plain (.bin .eql), [.tmp 12, .lit (.int .i64 0)], none⟩,
    ⟨(some 14), .plain .mv, [.tmp 13], none⟩,
    ⟨(some 15), .plain .mv, [.tmp 3], (some (14, true))⟩,
    ⟨(some 16), .plain (.bin .eql), [.tmp 15, .lit (.str ⟨#[]⟩)], (some (14, true))⟩,
    ⟨(some 17), .plain .pick, [.tmp 14, .tmp 16, .lit (.bool false)], none⟩,
    ⟨(some 18), .plain .mv, [.tmp 17], none⟩,
    ⟨(some 19), .plain (.fieldAddr 4), [.tmp 1], (some (18, true))⟩,
    ⟨(some 20), .plain (.load false 1), [.tmp 19], (some (18, true))⟩,
    ⟨(some 21), .plain (.len 1), [.tmp 20], (some (18, true))⟩,
    ⟨(some 22), .plain (.bin .eql), [.tmp 21, .lit (.int .i64 2)], (some (18, true))⟩,
    ⟨(some 23), .plain .pick, [.tmp 18, .tmp 22, .lit (.bool false)], none⟩,
    ⟨(some 24), .plain .mv, [.tmp 23], none⟩,
    ⟨(some 25), .plain (.fieldAddr 4), [.tmp 1], (some (24, true))⟩,
    ⟨(some 26), .plain (.load false 1), [.tmp 25], (some (24, true))⟩,
    ⟨(some 27), .plain (.indexAddr 2), [.tmp 26, .lit (.int .i64 0)], (some (24, true))⟩,
    ⟨(some 28), .plain (.fieldAddr 1), [.tmp 27], (some (24, true))⟩,
    ⟨(some 29), .plain (.load false 1), [.tmp 28], (some (24, true))⟩,
    ⟨(some 30), .plain (.bin .eql), [.tmp 29, .lit (.int .i64 16)], (some (24, true))⟩,
    ⟨(some 31), .plain .pick, [.tmp 24, .tmp 30, .lit (.bool false)], none⟩,
    ⟨(some 32), .plain .mv, [.tmp 31], none⟩,
    ⟨(some 33), .plain (.fieldAddr 4), [.tmp 1], (some (32, true))⟩,
    ⟨(some 34), .plain (.load false 1), [.tmp 33], (some (32, true))⟩,
    ⟨(some 35), .plain (.indexAddr 2), [.tmp 34, .lit (.int .i64 1)], (some (32, true))⟩,
    ⟨(some 36), .plain (.fieldAddr 1), [.tmp 35], (some (32, true))⟩,
    ⟨(some 37), .plain (.load false 1), [.tmp 36], (some (32, true))⟩,
    ⟨(some 38), .plain (.bin .eql), [.tmp 37, .lit (.int .i64 24)], (some (32, true))⟩,
    ⟨(some 39), .plain .pick, [.tmp 32, .tmp 38, .lit (.bool false)], none⟩,
    ⟨(some 40), .plain .mv, [.tmp 39], none⟩,
    ⟨(some 41), .plain (.fieldAddr 1), [.tmp 1], (some (40, true))⟩,
    ⟨(some 42), .plain (.load false 1), [.tmp 41], (some (40, true))⟩,
    ⟨(some 43), .plain (.bin .eql), [.tmp 42, .lit (.str ⟨#[97, 98, 99, 100, 101, 102, 0, 0, 119, 120, 121, 122]⟩)], (some (40, true))⟩,
    ⟨(some 44), .plain .pick, [.tmp 40, .tmp 43, .lit (.bool false)], none⟩,
    ⟨(some 0), .plain .mv, [.tmp 44], none⟩] [12, 13, 14, 15, 16, 17, 18, 19, 20, 21, 22, 23, 24, 25, 26, 27, 28, 29, 30, 31, 32, 33, 34, 35, 36, 37, 38, 39, 40, 41, 42, 43, 44])
  .ret)))
def cr7 : List Res := [(0, none)]
theorem ok7 : FOk Try.prog Lk.imp 7 c7 cr7 Try.f7.ntmps := ⟨Try.f7, _, Try.func7, rfl, by kernel_rfl, by kernel_rfl, by kernel_rfl, rfl⟩

/-- ironbark/ironbarklaw34.LinkMoves -/
def c3 : SC :=
  (.seq (.ops [⟨(some 8), .plain .mv, [.lit (.bool false)], none⟩] [])
  (.seq (.seq (.ops [⟨(some 20), .call 7, [], none⟩,
    ⟨(some 21), .plain (.un .not), [.tmp 20], none⟩] [20])
  (.cond (.tmp 21)
   (.seq (.ops [⟨(some 8), .plain .mv, [.lit (.bool false)], none⟩] [])
   .ret)
   .skip))
  (.seq (.seq (.ops [⟨(some 22), .plain .mv, [.tmp 0], none⟩,
    ⟨(some 23), .plain .mv, [.tmp 1], none⟩,
    ⟨(some 24), .call 8, [.tmp 22, .tmp 23], none⟩] [22, 23])
  (.cond (.tmp 24)
   (.seq (.ops [⟨(some 8), .plain .mv, [.lit (.bool true)], none⟩] [])
   .ret)
   .skip))
  (.seq (.ops [⟨(some 26), .plain .mv, [.tmp 0], none⟩,
    ⟨(some 27), .call 10, [.tmp 26], none⟩,
    ⟨(some 28), .plain .mv, [.tmp 1], none⟩,
    ⟨(some 29), .call 11, [.tmp 28], none⟩,
    ⟨(some 30), .plain .mv, [.tmp 2], none⟩,
    ⟨(some 31), .call 9, [.tmp 27, .tmp 29, .tmp 30], none⟩,
    ⟨(some 25), .plain .mv, [.tmp 31], none⟩,
    ⟨(some 32), .plain (.extract 0), [.tmp 25], none⟩,
    ⟨(some 33), .plain (.extract 1), [.tmp 25], none⟩,
    ⟨(some 34), .plain (.extract 2), [.tmp 25], none⟩,
    ⟨(some 9), .plain (.alloc [(.int .i64 0), (.str ⟨#[]⟩), .nilS, .nilS, .nilS]), [], none⟩,
    ⟨none, .plain (.store 5), [.tmp 9, .tmp 32], none⟩,
    ⟨(some 10), .plain .mv, [.tmp 33], none⟩,
    ⟨(some 11), .plain .mv, [.tmp 34], none⟩] [26, 27, 28, 29, 30, 31, 25, 32, 33, 34, 11])
  (.seq (.seq (.ops [⟨(some 35), .plain .mv, [.tmp 10], none⟩,
    ⟨(some 36), .plain (.bin .neq), [.tmp 35, .lit (.int .i64 0)], none⟩] [35])
  (.cond (.tmp 36)
   (.seq (.ops [⟨(some 8), .plain .mv, [.lit (.bool true)], none⟩] [])
   .ret)
   .skip))
  (.seq (.ops [⟨(some 38), .plain (.load true 5), [.tmp 9], none⟩,
    ⟨(some 39), .call 13, [.tmp 38], none⟩,
    ⟨(some 40), .plain .mv, [.tmp 0], none⟩,
    ⟨(some 41), .call 10, [.tmp 40], none⟩,
    ⟨(some 42), .plain .mv, [.tmp 1], none⟩,
    ⟨(some 43), .call 11, [.tmp 42], none⟩,
    ⟨(some 44), .plain .mv, [.tmp 3], none⟩,
    ⟨(some 45), .call 12, [.tmp 39, .tmp 41, .tmp 43, .tmp 44], none⟩,
    ⟨(some 37), .plain .mv, [.tmp 45], none⟩,
    ⟨(some 46), .plain (.extract 0), [.tmp 37], none⟩,
    ⟨(some 47), .plain (.extract 1), [.tmp 37], none⟩,
    ⟨(some 12), .plain (.alloc [(.int .i64 0), (.str ⟨#[]⟩), .nilS, .nilS, .nilS]), [], none⟩,
    ⟨none, .plain (.store 5), [.tmp 12, .tmp 46], none⟩,
    ⟨(some 10), .plain .mv, [.tmp 47], none⟩] [38, 39, 40, 41, 42, 43, 44, 45, 37, 46, 47])
  (.seq (.ops [⟨(some 49), .plain (.load true 5), [.tmp 9], none⟩,
    ⟨(some 50), .plain .mv, [.tmp 0], none⟩,
    ⟨(some 51), .plain .mv, [.tmp 1], none⟩,
    ⟨(some 52), .plain .mv, [.tmp 3], none⟩,
    ⟨(some 53), .call 14, [.tmp 49, .tmp 50, .tmp 51, .tmp 52], none⟩,
    ⟨(some 48), .plain .mv, [.tmp 53], none⟩,
    ⟨(some 54), .plain (.extract 0), [.tmp 48], none⟩,
    ⟨(some 55), .plain (.extract 1), [.tmp 48], none⟩,
    ⟨(some 13), .plain (.alloc [(.int .i64 0), (.str ⟨#[]⟩), .nilS, .nilS, .nilS]), [], none⟩,
    ⟨none, .plain (.store 5), [.tmp 13, .tmp 54], none⟩,
    ⟨(some 14), .plain .mv, [.tmp 55], none⟩] [49, 50, 51, 52, 53, 48, 54, 55])
  (.seq (.seq (.ops [⟨(some 56), .plain (.load true 5), [.tmp 12], none⟩,
    ⟨(some 57), .plain (.load true 5), [.tmp 13], none⟩,
    ⟨(some 58), .call 15, [.tmp 56, .tmp 57], none⟩,
    ⟨(some 59), .plain (.un .not), [.tmp 58], none⟩,
    ⟨(some 60), .plain .mv, [.tmp 59], none⟩,
    ⟨(some 61), .plain .mv, [.tmp 10], (some (60, false))⟩,
    ⟨(some 62), .plain .mv, [.tmp 14], (some (60, false))⟩,
    ⟨(some 63), .plain (.bin .neq), [.tmp 61, .tmp 62], (some (60, false))⟩,
    ⟨(some 64), .plain .pick, [.tmp 60, .lit (.bool true), .tmp 63], none⟩] [56, 57, 58, 59, 60, 61, 62, 63])
  (.cond (.tmp 64)
   (.seq (.ops [⟨(some 8), .plain .mv, [.lit (.bool false)], none⟩] [])
   .ret)
   .skip))
  (.seq (.seq (.ops [⟨(some 65), .plain .mv, [.tmp 10], none⟩,
    ⟨(some 66), .plain (.bin .neq), [.tmp 65, .lit (.int .i64 0)], none⟩] [65])
  (.cond (.tmp 66)
   (.seq (.ops [⟨(some 8), .plain .mv, [.lit (.bool true)], none⟩] [])
   .ret)
   .skip))
  (.seq (.seq (.ops [⟨(some 67), .plain (.fieldAddr 1), [.tmp 12], none⟩,
    ⟨(some 68), .plain (.load false 1), [.tmp 67], none⟩,
    ⟨(some 69), .plain (.len 0), [.tmp 68], none⟩,
    ⟨(some 70), .plain (.fieldAddr 1), [.tmp 9], none⟩,
    ⟨(some 71), .plain (.load false 1), [.tmp 70], none⟩,
    ⟨(some 72), .plain (.len 0), [.tmp 71], none⟩,
    ⟨(some 73), .plain (.bin .neq), [.tmp 69, .tmp 72], none⟩,
    ⟨(some 74), .plain .mv, [.tmp 73], none⟩,
    ⟨(some 75), .plain (.fieldAddr 4), [.tmp 12], (some (74, false))⟩,
    ⟨(some 76), .plain (.load false 1), [.tmp 75], (some (74, false))⟩,
    ⟨(some 77), .plain (.len 1), [.tmp 76], (some (74, false))⟩,
    ⟨(some 78), .plain (.fieldAddr 4), [.tmp 9], (some (74, false))⟩,
    ⟨(some 79), .plain (.load false 1), [.tmp 78], (some (74, false))⟩,
    ⟨(some 80), .plain (.len 1), [.tmp 79], (some (74, false))⟩,
    ⟨(some 81), .plain (.bin .neq), [.tmp 77, .tmp 80], (some (74, false))⟩,
    ⟨(some 82), .plain .pick, [.tmp 74, .lit (.bool true), .tmp 81], none⟩] [67, 68, 69, 70, 71, 72, 73, 74, 75, 76, 77, 78, 79, 80, 81])
  (.cond (.tmp 82)
   (.seq (.ops [⟨(some 8), .plain .mv, [.lit (.bool false)], none⟩] [])
   .ret)
   .skip))
  (.seq (.seq (.ops [⟨(some 15), .plain .mv, [.lit (.int .i64 0)], none⟩] [])
  (.block 0
   (.loop
    (.seq (.seq (.ops [⟨(some 83), .plain .mv, [.tmp 15], none⟩,
      ⟨(some 84), .plain (.fieldAddr 4), [.tmp 9], none⟩,
      ⟨(some 85), .plain (.load false 1), [.tmp 84], none⟩,
      ⟨(some 86), .plain (.len 1), [.tmp 85], none⟩,
      ⟨(some 87), .plain (.bin .lss), [.tmp 83, .tmp 86], none⟩] [83, 84, 85, 86])
    (.cond (.tmp 87)
     .skip
     (.exit 0)))
    (.seq (.block 1
     (.seq (.draw (.step ⟨(some 90), .plain (.fieldAddr 4), [.tmp 12], none⟩
       (.step ⟨(some 91), .plain (.load false 1), [.tmp 90], none⟩
       (.step ⟨(some 92), .plain .mv, [.tmp 15], none⟩
       (.step ⟨(some 93), .plain (.indexAddr 2), [.tmp 91, .tmp 92], none⟩
       (.step ⟨(some 94), .plain (.fieldAddr 1), [.tmp 93], none⟩
       (.step ⟨(some 95), .plain (.load false 1), [.tmp 94], none⟩
       (.step ⟨(some 96), .plain (.fieldAddr 4), [.tmp 9], none⟩
       (.step ⟨(some 97), .plain (.load false 1), [.tmp 96], none⟩
       (.step ⟨(some 98), .plain .mv, [.tmp 15], none⟩
       (.step ⟨(some 99), .plain (.indexAddr 2), [.tmp 97, .tmp 98], none⟩
       (.step ⟨(some 100), .plain (.fieldAddr 1), [.tmp 99], none⟩
       (.step ⟨(some 101), .plain (.load false 1), [.tmp 100], none⟩
       (.step ⟨(some 102), .plain (.bin .sub), [.tmp 95, .tmp 101], none⟩
       (.step ⟨(some 103), .plain .mv, [.tmp 3], none⟩
       (.step ⟨(some 104), .plain .mv, [.tmp 2], none⟩
       (.step ⟨(some 105), .plain (.bin .sub), [.tmp 103, .tmp 104], none⟩
       (.step ⟨(some 106), .plain (.bin .neq), [.tmp 102, .tmp 105], none⟩
       .done))))))))))))))))) [90, 91, 92, 93, 94, 95, 96, 97, 98, 99, 100, 101, 102, 103, 104, 105])
     (.cond (.tmp 106)
      (.seq (.ops [⟨(some 8), .plain .mv, [.lit (.bool false)], none⟩] [])
      .ret)
      .skip)))
    (.ops [⟨(some 88), .plain .mv, [.tmp 15], none⟩,
      ⟨(some 89), .plain (.bin .add), [.tmp 88, .lit (.int .i64 1)], none⟩,
      ⟨(some 15), .plain .mv, [.tmp 89], none⟩] [88, 89]))))))
  (.seq (.seq (.ops [⟨(some 16), .plain .mv, [.lit (.int .i64 0)], none⟩] [])
  (.block 2
   (.loop
    (.seq (.seq (.ops [⟨(some 107), .plain .mv, [.tmp 16], none⟩,
      ⟨(some 108), .plain (.bin .add), [.tmp 107, .lit (.int .i64 4)], none⟩,
      ⟨(some 109), .plain (.fieldAddr 1), [.tmp 9], none⟩,
      ⟨(some 110), .plain (.load false 1), [.tmp 109], none⟩,
      ⟨(some 111), .plain (.len 0), [.tmp 110], none⟩,
      ⟨(some 112), .plain (.bin .leq), [.tmp 108, .tmp 111], none⟩] [107, 108, 109, 110, 111])
    (.cond (.tmp 112)
     .skip
     (.exit 2)))
    (.seq (.block 3
     (.seq (.draw (.step ⟨(some 115), .plain (.fieldAddr 1), [.tmp 9], none⟩
       (.step ⟨(some 116), .plain (.load false 1), [.tmp 115], none⟩
       (.step ⟨(some 117), .plain .mv, [.tmp 16], none⟩
       (.step ⟨(some 118), .plain .mv, [.tmp 16], none⟩
       (.step ⟨(some 119), .plain (.bin .add), [.tmp 118, .lit (.int .i64 4)], none⟩
       (.step ⟨(some 120), .plain (.slice true true 0), [.tmp 116, .tmp 117, .tmp 119], none⟩
       (.step ⟨(some 121), .call 16, [.tmp 120], none⟩
       (.step ⟨(some 122), .plain (.fieldAddr 1), [.tmp 12], none⟩
       (.step ⟨(some 123), .plain (.load false 1), [.tmp 122], none⟩
       (.step ⟨(some 124), .plain .mv, [.tmp 16], none⟩
       (.step ⟨(some 125), .plain .mv, [.tmp 16], none⟩
       (.step ⟨(some 126), .plain (.bin .add), [.tmp 125, .lit (.int .i64 4)], none⟩
       (.step ⟨(some 127), .plain (.slice true true 0), [.tmp 123, .tmp 124, .tmp 126], none⟩
       (.step ⟨(some 128), .call 16, [.tmp 127], none⟩
       (.step ⟨(some 17), .plain .mv, [.tmp 121], none⟩
       (.step ⟨(some 18), .plain .mv, [.tmp 128], none⟩
       .done)))))))))))))))) [115, 116, 117, 118, 119, 120, 121, 122, 123, 124, 125, 126, 127, 128])
     (.seq (.ops [⟨(some 129), .plain .mv, [.tmp 17], none⟩,
       ⟨(some 130), .plain .mv, [.tmp 18], none⟩,
       ⟨(some 131), .plain (.bin .neq), [.tmp 129, .tmp 130], none⟩,
       ⟨(some 132), .plain .mv, [.tmp 131], none⟩,
       ⟨(some 133), .plain .mv, [.tmp 18], (some (132, true))⟩,
       ⟨(some 134), .plain .mv, [.tmp 17], (some (132, true))⟩,
       ⟨(some 135), .plain (.bin .sub), [.tmp 133, .tmp 134], (some (132, true))⟩,
       ⟨(some 136), .plain (.convInt .u32), [.tmp 135], (some (132, true))⟩,
       ⟨(some 137), .plain .mv, [.tmp 3], (some (132, true))⟩,
       ⟨(some 138), .plain .mv, [.tmp 2], (some (132, true))⟩,
       ⟨(some 139), .plain (.bin .sub), [.tmp 137, .tmp 138], (some (132, true))⟩,
       ⟨(some 140), .plain (.convInt .u32), [.tmp 139], (some (132, true))⟩,
       ⟨(some 141), .plain (.bin .neq), [.tmp 136, .tmp 140], (some (132, true))⟩,
       ⟨(some 142), .plain .pick, [.tmp 132, .tmp 141, .lit (.bool false)], none⟩] [129, 130, 131, 132, 133, 134, 135, 136, 137, 138, 139, 140, 141])
     (.cond (.tmp 142)
      (.seq (.ops [⟨(some 8), .plain .mv, [.lit (.bool false)], none⟩] [])
      .ret)
      .skip))))
    (.ops [⟨(some 113), .plain .mv, [.tmp 16], none⟩,
      ⟨(some 114), .plain (.bin .add), [.tmp 113, .lit (.int .i64 4)], none⟩,
      ⟨(some 16), .plain .mv, [.tmp 114], none⟩] [113, 114]))))))
  (.seq (.ops [⟨(some 143), .plain (.load true 5), [.tmp 9], none⟩,
    ⟨(some 19), .plain (.alloc [(.int .i64 0), (.str ⟨#[]⟩), .nilS, .nilS, .nilS]), [], none⟩,
    ⟨none, .plain (.store 5), [.tmp 19, .tmp 143], none⟩] [143])
  (.seq (.ops [⟨(some 144), .plain (.fieldAddr 1), [.tmp 19], none⟩,
    ⟨(some 145), .plain (.load false 1), [.tmp 144], none⟩,
    ⟨(some 146), .plain (.bin .add), [.tmp 145, .lit (.str ⟨#[0, 0]⟩)], none⟩,
    ⟨(some 147), .plain (.fieldAddr 1), [.tmp 19], none⟩,
    ⟨none, .plain (.store 1), [.tmp 147, .tmp 146], none⟩] [144, 145, 146, 147])
  (.seq (.ops [⟨(some 149), .plain (.load true 5), [.tmp 19], none⟩,
    ⟨(some 150), .call 13, [.tmp 149], none⟩,
    ⟨(some 151), .plain .mv, [.tmp 0], none⟩,
    ⟨(some 152), .call 10, [.tmp 151], none⟩,
    ⟨(some 153), .plain .mv, [.tmp 1], none⟩,
    ⟨(some 154), .call 11, [.tmp 153], none⟩,
    ⟨(some 155), .plain .mv, [.tmp 3], none⟩,
    ⟨(some 156), .call 12, [.tmp 150, .tmp 152, .tmp 154, .tmp 155], none⟩,
    ⟨(some 148), .plain .mv, [.tmp 156], none⟩,
    ⟨(some 157), .plain (.extract 0), [.tmp 148], none⟩,
    ⟨(some 158), .plain (.extract 1), [.tmp 148], none⟩,
    ⟨(some 10), .plain .mv, [.tmp 158], none⟩] [149, 150, 151, 152, 153, 154, 155, 156, 148, 157, 158])
  (.seq (.ops [⟨(some 159), .plain .mv, [.tmp 10], none⟩,
    ⟨(some 160), .plain (.bin .eql), [.tmp 159, .lit (.int .i64 1)], none⟩,
    ⟨(some 8), .plain .mv, [.tmp 160], none⟩] [159, 160])
  .ret))))))))))))))))
def cr3 : List Res := [(8, none)]
theorem ok3 : FOk Try.prog Lk.imp 3 c3 cr3 Try.f3.ntmps := ⟨Try.f3, _, Try.func3, rfl, by kernel_rfl, by kernel_rfl, by kernel_rfl, rfl⟩

end Go.Pm
