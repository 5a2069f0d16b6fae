/-
  DERIVED: THE SHELF's CONTRACTS AT THIS DUMP, IN PLAIN WORDS (tools/lay-plain.mjs out of 'TryStrShelf.lean', which tools/lay-shelf.mjs wrote): THE SAME DECLARATIONS UNDER THE SAME NAMES: 'import', 'namespace', 'open', 'def', 'theorem' AND NOTHING ELSE: no command of the shelf's: FOR A HAND-IN. Each laying: the table of numbers ('.._ren') and one theorem, a field a fact of the dump's own or the kernel's comparison; each contract: ONE APPLICATION.
-/
import Derived.Shelf.SortG.Plain
import Derived.Test.YtolfkdphlgkekaaLkA
import Derived.Test.YtolfkdphlgkekaaMi
import Derived.Shelf.SortG.SortNone
import Derived.Test.YtolfkdphlgkekaaMj
namespace Go.Proofs
open Go.Shelf
def Try.sortStr_ren : Go.Shelf.Ren := ⟨fun | 54 => 50 | 64 => 76 | 65 => 75 | 78 => 96 | 79 => 97 | 80 => 87 | 81 => 88 | 82 => 89 | 83 => 90 | 84 => 91 | 85 => 92 | 61 => 93 | 86 => 94 | 87 => 95 | 93 => 109 | 89 => 110 | 90 => 111 | 94 => 112 | 95 => 113 | 69 => 73 | 97 => 118 | n => n, fun | 25 => 52 | 26 => 9 | 3 => 3 | 51 => 71 | 0 => 0 | 67 => 42 | 69 => 143 | 4 => 4 | 61 => 135 | 60 => 134 | 44 => 98 | 5 => 5 | 9 => 9 | 75 => 151 | 79 => 155 | 83 => 159 | 84 => 160 | n => n, fun | n => n⟩
theorem Try.sortStr : Go.Proofs.SlLaysN.n54 Try.prog Try.sortStr_ren := {
  mixed := by kernel_rfl
  f54 := ⟨Try.f50.name, by decide, Try.func50.trans (congrArg some (by kernel_rfl))⟩
  f61 := ⟨Try.f93.name, by decide, Try.func93.trans (congrArg some (by kernel_rfl))⟩
  f64 := Try.func76.trans (congrArg some (by kernel_rfl))
  f65 := ⟨Try.f75.name, by decide, Try.func75.trans (congrArg some (by kernel_rfl))⟩
  f69 := ⟨Try.f73.name, by decide, Try.func73.trans (congrArg some (by kernel_rfl))⟩
  f78 := Try.func96.trans (congrArg some (by kernel_rfl))
  f79 := Try.func97.trans (congrArg some (by kernel_rfl))
  f80 := ⟨Try.f87.name, by decide, Try.func87.trans (congrArg some (by kernel_rfl))⟩
  f81 := ⟨Try.f88.name, by decide, Try.func88.trans (congrArg some (by kernel_rfl))⟩
  f82 := ⟨Try.f89.name, by decide, Try.func89.trans (congrArg some (by kernel_rfl))⟩
  f83 := ⟨Try.f90.name, by decide, Try.func90.trans (congrArg some (by kernel_rfl))⟩
  f84 := ⟨Try.f91.name, by decide, Try.func91.trans (congrArg some (by kernel_rfl))⟩
  f85 := ⟨Try.f92.name, by decide, Try.func92.trans (congrArg some (by kernel_rfl))⟩
  f86 := ⟨Try.f94.name, by decide, Try.func94.trans (congrArg some (by kernel_rfl))⟩
  f87 := ⟨Try.f95.name, by decide, Try.func95.trans (congrArg some (by kernel_rfl))⟩
  f89 := Try.func110.trans (congrArg some (by kernel_rfl))
  f90 := Try.func111.trans (congrArg some (by kernel_rfl))
  f93 := ⟨Try.f109.name, by decide, Try.func109.trans (congrArg some (by kernel_rfl))⟩
  f94 := ⟨Try.f112.name, by decide, Try.func112.trans (congrArg some (by kernel_rfl))⟩
  f95 := ⟨Try.f113.name, by decide, Try.func113.trans (congrArg some (by kernel_rfl))⟩
  f97 := ⟨Try.f118.name, by decide, Try.func118.trans (congrArg some (by kernel_rfl))⟩
  t0 := Try.underlying0
  a0 := Try.isAgg0
  z0 := Try.sizeOf0
  v0 := Try.zeroValue0
  t3 := Try.underlying3
  a3 := Try.isAgg3
  z3 := Try.sizeOf3
  v3 := Try.zeroValue3
  t4 := Try.underlying4
  a4 := Try.isAgg4
  z4 := Try.sizeOf4
  v4 := Try.zeroValue4
  t5 := Try.underlying5
  a5 := Try.isAgg5
  z5 := Try.sizeOf5
  v5 := Try.zeroValue5
  t9 := Try.underlying9
  a9 := Try.isAgg9
  z9 := Try.sizeOf9
  v9 := Try.zeroValue9
  t25 := Try.underlying52
  a25 := Try.isAgg52
  z25 := Try.sizeOf52
  v25 := Try.zeroValue52
  t26 := Try.underlying9
  a26 := Try.isAgg9
  z26 := Try.sizeOf9
  v26 := Try.zeroValue9
  t44 := Try.underlying98
  a44 := Try.isAgg98
  z44 := Try.sizeOf98
  v44 := Try.zeroValue98
  t51 := Try.underlying71
  a51 := Try.isAgg71
  z51 := Try.sizeOf71
  v51 := Try.zeroValue71
  t60 := Try.underlying134
  a60 := Try.isAgg134
  z60 := Try.sizeOf134
  v60 := Try.zeroValue134
  t61 := Try.underlying135
  a61 := Try.isAgg135
  z61 := Try.sizeOf135
  v61 := Try.zeroValue135
  t67 := Try.underlying42
  a67 := Try.isAgg42
  z67 := Try.sizeOf42
  v67 := Try.zeroValue42
  t69 := Try.underlying143
  a69 := Try.isAgg143
  z69 := Try.sizeOf143
  v69 := Try.zeroValue143
  t75 := Try.underlying151
  a75 := Try.isAgg151
  z75 := Try.sizeOf151
  v75 := Try.zeroValue151
  t79 := Try.underlying155
  a79 := Try.isAgg155
  z79 := Try.sizeOf155
  v79 := Try.zeroValue155
  t83 := Try.underlying159
  a83 := Try.isAgg159
  z83 := Try.sizeOf159
  v83 := Try.zeroValue159
  t84 := Try.underlying160
  a84 := Try.isAgg160
  z84 := Try.sizeOf160
  v84 := Try.zeroValue160 }
end Go.Proofs

/- LkS12: code, resolved. Written by gen.py out of what ShowSC.lean printed. -/
namespace Go.Pm
open Go Go.Proofs

/-- ironbark/link.Missing -/
def c22 : SC :=
  (.seq (.ops [⟨(some 4), .plain .mv, [.lit .nilS], none⟩,
    ⟨(some 5), .plain .mv, [.lit (.int .i64 0)], none⟩] [])
  (.seq (.seq (.ops [⟨(some 10), .plain .mv, [.tmp 0], none⟩,
    ⟨(some 11), .plain .mv, [.tmp 1], none⟩,
    ⟨(some 12), .call 23, [.tmp 10, .tmp 11], none⟩,
    ⟨(some 13), .plain (.un .not), [.tmp 12], none⟩] [10, 11, 12])
  (.cond (.tmp 13)
   (.seq (.ops [⟨(some 4), .plain .mv, [.lit .nilS], none⟩,
     ⟨(some 5), .plain .mv, [.lit (.int .i64 1)], none⟩] [])
   .ret)
   .skip))
  (.seq (.ops [⟨(some 14), .call 26, [.lit (.int .i64 0), .lit .nilS], none⟩,
    ⟨(some 6), .plain .mv, [.tmp 14], none⟩] [14])
  (.seq (.seq (.ops [⟨(some 15), .plain .mv, [.tmp 0], none⟩,
    ⟨(some 16), .plain (.len 1), [.tmp 15], none⟩,
    ⟨(some 17), .plain .mv, [.lit (.int .i64 0)], none⟩] [])
  (.block 0
   (.loop
    (.seq (.ops [⟨(some 18), .plain (.bin .lss), [.tmp 17, .tmp 16], none⟩] [])
    (.seq (.cond (.tmp 18)
     .skip
     (.exit 0))
    (.seq (.block 1
     (.seq (.ops [⟨(some 19), .plain (.indexAddr 5), [.tmp 15, .tmp 17], none⟩,
       ⟨(some 20), .plain (.load true 5), [.tmp 19], none⟩,
       ⟨(some 8), .plain (.alloc [(.str ⟨#[]⟩), (.str ⟨#[]⟩), .nilS, .nilS, .nilS]), [], none⟩,
       ⟨none, .plain (.store 5), [.tmp 8, .tmp 20], none⟩] [19, 20])
     (.ops [⟨(some 21), .plain .mv, [.tmp 6], none⟩,
       ⟨(some 22), .plain (.load true 5), [.tmp 8], none⟩,
       ⟨(some 23), .call 27, [.tmp 21, .tmp 22, .lit (.bool false)], none⟩] [21, 22, 23])))
    (.ops [⟨(some 24), .plain (.bin .add), [.tmp 17, .lit (.int .i64 1)], none⟩,
      ⟨(some 17), .plain .mv, [.tmp 24], none⟩] [24])))))))
  (.seq (.ops [⟨(some 25), .plain .mv, [.tmp 6], none⟩,
    ⟨(some 26), .plain .mv, [.tmp 1], none⟩,
    ⟨(some 27), .call 28, [.tmp 25, .tmp 26], none⟩,
    ⟨(some 9), .plain .mv, [.tmp 27], none⟩] [25, 26, 27])
  (.seq (.ops [⟨(some 28), .plain .mv, [.tmp 9], none⟩,
    ⟨(some 29), .call 50, [.tmp 28], none⟩] [28, 29])
  (.seq (.ops [⟨(some 30), .plain .mv, [.tmp 9], none⟩,
    ⟨(some 4), .plain .mv, [.tmp 30], none⟩,
    ⟨(some 5), .plain .mv, [.lit (.int .i64 0)], none⟩] [30])
  .ret)))))))
def cr22 : List Res := [(4, none), (5, none)]
theorem ok22 : FOk Try.prog Lk.imp 22 c22 cr22 Try.f22.ntmps := ⟨Try.f22, _, Try.func22, rfl, by kernel_rfl, by kernel_rfl, by kernel_rfl, rfl⟩

/-- ironbark/ironbarklaw34.LinkNeeded -/
def c6 : SC :=
  (.seq (.ops [⟨(some 6), .plain .mv, [.lit (.bool false)], none⟩] [])
  (.seq (.seq (.ops [⟨(some 15), .call 7, [], none⟩,
    ⟨(some 16), .plain (.un .not), [.tmp 15], none⟩] [15])
  (.cond (.tmp 16)
   (.seq (.ops [⟨(some 6), .plain .mv, [.lit (.bool false)], none⟩] [])
   .ret)
   .skip))
  (.seq (.seq (.ops [⟨(some 17), .plain .mv, [.tmp 0], none⟩,
    ⟨(some 18), .plain .mv, [.tmp 1], none⟩,
    ⟨(some 19), .call 8, [.tmp 17, .tmp 18], none⟩] [17, 18])
  (.cond (.tmp 19)
   (.seq (.ops [⟨(some 6), .plain .mv, [.lit (.bool true)], none⟩] [])
   .ret)
   .skip))
  (.seq (.ops [⟨(some 21), .plain .mv, [.tmp 0], none⟩,
    ⟨(some 22), .call 10, [.tmp 21], none⟩,
    ⟨(some 23), .plain .mv, [.tmp 1], none⟩,
    ⟨(some 24), .call 11, [.tmp 23], none⟩,
    ⟨(some 25), .plain .mv, [.tmp 2], none⟩,
    ⟨(some 26), .call 9, [.tmp 22, .tmp 24, .tmp 25], none⟩,
    ⟨(some 20), .plain .mv, [.tmp 26], none⟩,
    ⟨(some 27), .plain (.extract 0), [.tmp 20], none⟩,
    ⟨(some 28), .plain (.extract 1), [.tmp 20], none⟩,
    ⟨(some 29), .plain (.extract 2), [.tmp 20], none⟩,
    ⟨(some 7), .plain (.alloc [(.int .i64 0), (.str ⟨#[]⟩), .nilS, .nilS, .nilS]), [], none⟩,
    ⟨none, .plain (.store 5), [.tmp 7, .tmp 27], none⟩,
    ⟨(some 8), .plain .mv, [.tmp 28], none⟩,
    ⟨(some 9), .plain .mv, [.tmp 29], none⟩] [21, 22, 23, 24, 25, 26, 20, 27, 28, 29, 9])
  (.seq (.seq (.ops [⟨(some 30), .plain .mv, [.tmp 8], none⟩,
    ⟨(some 31), .plain (.bin .neq), [.tmp 30, .lit (.int .i64 0)], none⟩] [30])
  (.cond (.tmp 31)
   (.seq (.ops [⟨(some 6), .plain .mv, [.lit (.bool true)], none⟩] [])
   .ret)
   .skip))
  (.seq (.seq (.ops [⟨(some 32), .plain (.fieldAddr 4), [.tmp 7], none⟩,
    ⟨(some 33), .plain (.load false 1), [.tmp 32], none⟩,
    ⟨(some 34), .plain (.len 1), [.tmp 33], none⟩,
    ⟨(some 35), .plain .mv, [.tmp 0], none⟩,
    ⟨(some 36), .plain (.len 1), [.tmp 35], none⟩,
    ⟨(some 37), .plain (.bin .lss), [.tmp 34, .tmp 36], none⟩] [32, 33, 34, 35, 36])
  (.cond (.tmp 37)
   (.seq (.ops [⟨(some 6), .plain .mv, [.lit (.bool false)], none⟩] [])
   .ret)
   .skip))
  (.seq (.seq (.ops [⟨(some 10), .plain .mv, [.lit (.int .i64 0)], none⟩] [])
  (.block 0
   (.loop
    (.seq (.seq (.ops [⟨(some 38), .plain .mv, [.tmp 10], none⟩,
      ⟨(some 39), .plain .mv, [.tmp 0], none⟩,
      ⟨(some 40), .plain (.len 1), [.tmp 39], none⟩,
      ⟨(some 41), .plain (.bin .lss), [.tmp 38, .tmp 40], none⟩] [38, 39, 40])
    (.cond (.tmp 41)
     .skip
     (.exit 0)))
    (.seq (.block 1
     (.seq (.draw (.step ⟨(some 44), .plain (.fieldAddr 4), [.tmp 7], none⟩
       (.step ⟨(some 45), .plain (.load false 1), [.tmp 44], none⟩
       (.step ⟨(some 46), .plain .mv, [.tmp 10], none⟩
       (.step ⟨(some 47), .plain (.indexAddr 2), [.tmp 45, .tmp 46], none⟩
       (.step ⟨(some 48), .plain (.fieldAddr 0), [.tmp 47], none⟩
       (.step ⟨(some 49), .plain (.load false 1), [.tmp 48], none⟩
       (.step ⟨(some 50), .plain .mv, [.tmp 0], none⟩
       (.step ⟨(some 51), .plain .mv, [.tmp 10], none⟩
       (.step ⟨(some 52), .plain (.indexAddr 5), [.tmp 50, .tmp 51], none⟩
       (.step ⟨(some 53), .plain (.fieldAddr 0), [.tmp 52], none⟩
       (.step ⟨(some 54), .plain (.load false 1), [.tmp 53], none⟩
       (.step ⟨(some 55), .plain (.bin .neq), [.tmp 49, .tmp 54], none⟩
       .done)))))))))))) [44, 45, 46, 47, 48, 49, 50, 51, 52, 53, 54])
     (.cond (.tmp 55)
      (.seq (.ops [⟨(some 6), .plain .mv, [.lit (.bool false)], none⟩] [])
      .ret)
      .skip)))
    (.ops [⟨(some 42), .plain .mv, [.tmp 10], none⟩,
      ⟨(some 43), .plain (.bin .add), [.tmp 42, .lit (.int .i64 1)], none⟩,
      ⟨(some 10), .plain .mv, [.tmp 43], none⟩] [42, 43]))))))
  (.seq (.ops [⟨(some 57), .plain .mv, [.tmp 0], none⟩,
    ⟨(some 58), .call 10, [.tmp 57], none⟩,
    ⟨(some 59), .call 22, [.tmp 58, .lit .nilS], none⟩,
    ⟨(some 56), .plain .mv, [.tmp 59], none⟩,
    ⟨(some 60), .plain (.extract 0), [.tmp 56], none⟩,
    ⟨(some 61), .plain (.extract 1), [.tmp 56], none⟩,
    ⟨(some 11), .plain .mv, [.tmp 60], none⟩,
    ⟨(some 8), .plain .mv, [.tmp 61], none⟩] [57, 58, 59, 56, 60, 61])
  (.seq (.seq (.ops [⟨(some 62), .plain .mv, [.tmp 8], none⟩,
    ⟨(some 63), .plain (.bin .neq), [.tmp 62, .lit (.int .i64 0)], none⟩,
    ⟨(some 64), .plain .mv, [.tmp 63], none⟩,
    ⟨(some 65), .plain .mv, [.tmp 11], (some (64, false))⟩,
    ⟨(some 66), .plain (.len 1), [.tmp 65], (some (64, false))⟩,
    ⟨(some 67), .plain (.bin .gtr), [.tmp 66, .lit (.int .i64 0)], (some (64, false))⟩,
    ⟨(some 68), .plain (.fieldAddr 4), [.tmp 7], (some (64, false))⟩,
    ⟨(some 69), .plain (.load false 1), [.tmp 68], (some (64, false))⟩,
    ⟨(some 70), .plain (.len 1), [.tmp 69], (some (64, false))⟩,
    ⟨(some 71), .plain .mv, [.tmp 0], (some (64, false))⟩,
    ⟨(some 72), .plain (.len 1), [.tmp 71], (some (64, false))⟩,
    ⟨(some 73), .plain (.bin .gtr), [.tmp 70, .tmp 72], (some (64, false))⟩,
    ⟨(some 74), .plain (.eqBool true), [.tmp 67, .tmp 73], (some (64, false))⟩,
    ⟨(some 75), .plain .pick, [.tmp 64, .lit (.bool true), .tmp 74], none⟩] [62, 63, 64, 65, 66, 67, 68, 69, 70, 71, 72, 73, 74])
  (.cond (.tmp 75)
   (.seq (.ops [⟨(some 6), .plain .mv, [.lit (.bool false)], none⟩] [])
   .ret)
   .skip))
  (.seq (.seq (.ops [⟨(some 12), .plain .mv, [.lit (.int .i64 0)], none⟩] [])
  (.block 2
   (.loop
    (.seq (.seq (.ops [⟨(some 76), .plain .mv, [.tmp 12], none⟩,
      ⟨(some 77), .plain .mv, [.tmp 11], none⟩,
      ⟨(some 78), .plain (.len 1), [.tmp 77], none⟩,
      ⟨(some 79), .plain (.bin .lss), [.tmp 76, .tmp 78], none⟩] [76, 77, 78])
    (.cond (.tmp 79)
     .skip
     (.exit 2)))
    (.seq (.block 3
     (.seq (.ops [⟨(some 13), .plain .mv, [.lit (.bool false)], none⟩] [])
     (.seq (.seq (.ops [⟨(some 14), .plain .mv, [.lit (.int .i64 0)], none⟩] [])
     (.block 4
      (.loop
       (.seq (.seq (.ops [⟨(some 82), .plain .mv, [.tmp 14], none⟩,
         ⟨(some 83), .plain (.fieldAddr 2), [.tmp 7], none⟩,
         ⟨(some 84), .plain (.load false 1), [.tmp 83], none⟩,
         ⟨(some 85), .plain (.len 1), [.tmp 84], none⟩,
         ⟨(some 86), .plain (.bin .lss), [.tmp 82, .tmp 85], none⟩] [82, 83, 84, 85])
       (.cond (.tmp 86)
        .skip
        (.exit 4)))
       (.seq (.block 5
        (.draw (.step ⟨(some 89), .plain .mv, [.tmp 13], none⟩
          (.step ⟨(some 90), .plain .mv, [.tmp 89], none⟩
          (.step ⟨(some 91), .plain (.fieldAddr 2), [.tmp 7], (some (90, false))⟩
          (.step ⟨(some 92), .plain (.load false 1), [.tmp 91], (some (90, false))⟩
          (.step ⟨(some 93), .plain .mv, [.tmp 14], (some (90, false))⟩
          (.step ⟨(some 94), .plain (.indexAddr 2), [.tmp 92, .tmp 93], (some (90, false))⟩
          (.step ⟨(some 95), .plain (.fieldAddr 0), [.tmp 94], (some (90, false))⟩
          (.step ⟨(some 96), .plain (.load false 1), [.tmp 95], (some (90, false))⟩
          (.step ⟨(some 97), .plain .mv, [.tmp 11], (some (90, false))⟩
          (.step ⟨(some 98), .plain .mv, [.tmp 12], (some (90, false))⟩
          (.step ⟨(some 99), .plain (.indexAddr 1), [.tmp 97, .tmp 98], (some (90, false))⟩
          (.step ⟨(some 100), .plain (.load false 1), [.tmp 99], (some (90, false))⟩
          (.step ⟨(some 101), .plain (.bin .eql), [.tmp 96, .tmp 100], (some (90, false))⟩
          (.step ⟨(some 102), .plain .pick, [.tmp 90, .lit (.bool true), .tmp 101], none⟩
          (.step ⟨(some 13), .plain .mv, [.tmp 102], none⟩
          .done))))))))))))))) [89, 90, 91, 92, 93, 94, 95, 96, 97, 98, 99, 100, 101, 102]))
       (.ops [⟨(some 87), .plain .mv, [.tmp 14], none⟩,
         ⟨(some 88), .plain (.bin .add), [.tmp 87, .lit (.int .i64 1)], none⟩,
         ⟨(some 14), .plain .mv, [.tmp 88], none⟩] [87, 88]))))))
     (.seq (.ops [⟨(some 103), .plain .mv, [.tmp 13], none⟩,
       ⟨(some 104), .plain (.un .not), [.tmp 103], none⟩] [103])
     (.cond (.tmp 104)
      (.seq (.ops [⟨(some 6), .plain .mv, [.lit (.bool false)], none⟩] [])
      .ret)
      .skip)))))
    (.ops [⟨(some 80), .plain .mv, [.tmp 12], none⟩,
      ⟨(some 81), .plain (.bin .add), [.tmp 80, .lit (.int .i64 1)], none⟩,
      ⟨(some 12), .plain .mv, [.tmp 81], none⟩] [80, 81]))))))
  (.seq (.ops [⟨(some 6), .plain .mv, [.lit (.bool true)], none⟩] [])
  .ret)))))))))))
def cr6 : List Res := [(6, none)]
theorem ok6 : FOk Try.prog Lk.imp 6 c6 cr6 Try.f6.ntmps := ⟨Try.f6, _, Try.func6, rfl, by kernel_rfl, by kernel_rfl, by kernel_rfl, rfl⟩

end Go.Pm

/- LkN2: what is missing without libraries, and what is taken of them. -/
namespace Go.Pm
open Go Go.Proofs
attribute [-simp] List.getElem?_map List.length_flatten

theorem first_known {g : List Deck} {libs : List (List Deck)} : ∀ {ns : List ByteArray}, (ns.filter fun n => !knownF g n) = [] → firstF g libs ns = none
  | [], _ => rfl
  | n :: ns, h => by
    rw [List.filter_cons] at h
    cases hk : knownF g n with
    | true => rw [hk] at h; rw [firstF, if_pos hk]; exact first_known (by simpa using h)
    | false => rw [hk] at h; simp at h

structure GDone (l : List Deck) (libs : List (List Deck)) (g : List Deck) (ms : List ByteArray) : Prop where
  none_ : firstF g libs (refNames g) = none
  ms_ : ms = (refNames g).filter fun n => !knownF g n
  ext : ∃ t, g = l ++ t ∧ (t = [] ↔ firstF l libs (refNames l) = none)
theorem gath_done (libs : List (List Deck)) : ∀ (N : Nat) (l : List Deck), away libs l < N → GDone l libs (gathF [] libs N l).1 (gathF [] libs N l).2
  | 0, l, h => by omega
  | N + 1, l, h => by
    rw [gathF]
    have h2 := scan_first l libs (refNames l) []
    have h3 := scan_none l libs (refNames l) []
    cases hs : scanF [] l libs (refNames l) [] with
    | mk ms r =>
      rw [hs] at h2 h3
      simp only at h2 h3
      cases r with
      | none =>
        refine ⟨h2.symm, ?_, [], by simp, by simp [← h2]⟩
        simp only
        rw [h3 h2.symm]; simp
      | some o =>
        obtain ⟨n, hn⟩ := scan_found hs
        obtain ⟨h4, _⟩ := away_less hn
        have ih := gath_done libs N (l ++ [o]) (by omega)
        obtain ⟨t, ht, _⟩ := ih.ext
        refine ⟨ih.none_, ih.ms_, o :: t, by simp only; rw [ht]; simp, by simp [← h2]⟩

theorem places_names (base : Int) (g : List Deck) : (stF base g).places.map (·.name) = g.map (·.name) := by
  refine snoc_ind (P := fun g => (stF base g).places.map (·.name) = g.map (·.name)) rfl ?_ g
  intro g o ih
  obtain ⟨_, _, e3, _⟩ := putL_same (putL_false (stF base g) o)
  rw [stF_snoc, e3, List.map_append, List.map_append, ih]
  rfl
theorem lackL_sub (nm : List DDef) {n : ByteArray} : ∀ {ns ms : List ByteArray}, n ∈ lackL nm ns ms → n ∈ ms ∨ n ∈ ns
  | [], ms, h => .inl (by simpa [lackL] using h)
  | m :: ns, ms, h => by
    rw [lackL] at h
    split at h
    · rcases lackL_sub nm h with h | h
      · exact .inl h
      · exact .inr (List.mem_cons_of_mem _ h)
    · split at h
      · rcases lackL_sub nm h with h | h
        · exact .inl h
        · exact .inr (List.mem_cons_of_mem _ h)
      · rcases lackL_sub nm h with h | h
        · rcases List.mem_append.1 h with h | h
          · exact .inl h
          · rw [List.mem_singleton.1 h]; exact .inr List.mem_cons_self
        · exact .inr (List.mem_cons_of_mem _ h)

/-- What Missing tells, not yet sorted. -/
def missL (l : List Deck) : List ByteArray := lackL (stF 0 l).nmap (refNames l) []
theorem missL_nil (l : List Deck) : missL l = [] ↔ (refNames l).filter (fun n => !knownF l n) = [] := by
  have h := lack_head (got 0 l) (refNames l)
  unfold missL
  generalize lackL (stF 0 l).nmap (refNames l) [] = a at *
  cases a <;> cases hf : (refNames l).filter (fun n => !knownF l n) <;> rw [hf] at h <;> simp at h ⊢

structure Needs (l : List Deck) (i : Img) : Prop where
  len : l.length ≤ i.names.length
  name : ∀ k, k < l.length → (ix i.names k).name = (ix l k).name
  more : 0 < (missL l).length ↔ l.length < i.names.length
  defd : ∀ n ∈ missL l, ∃ k, k < i.defs.length ∧ (ix i.defs k).name = n
theorem needs {l : List Deck} {libs : List (List Deck)} {base : Int} {i : Img} (hl : SmallL l) (hb : SmallLL libs) (hsum : l.length + libs.flatten.length ≤ 2000000) (h : linkL l libs base = .good i) : Needs l i := by
  obtain ⟨g, hg⟩ := linkL_gath hl hb hsum h
  have hgood := linkG_good hg
  have haw : away libs l ≤ libs.flatten.length := List.length_filter_le _ _
  have hd := gath_done libs (libs.flatten.length + 1) l (by omega)
  rw [hg.gath] at hd
  obtain ⟨h1, h2, t, ht, htn⟩ := hd
  simp only at h1 h2 ht
  have hin : i.names = (stF base g).places := by rw [hg.img]; rfl
  have hid : i.defs = sortD (stF base g).defs := by rw [hg.img]; rfl
  have hpn := places_names base g
  have hil : i.names.length = g.length := by
    have := congrArg List.length hpn
    rw [List.length_map, List.length_map] at this
    rw [hin, this]
  have hlen : g.length = l.length + t.length := by rw [ht]; simp
  refine ⟨by omega, fun k hk => ?_, ?_, fun n hn => ?_⟩
  · have h3 : k < i.names.length := by omega
    have e := congrArg (fun x : List ByteArray => x[k]?) hpn
    rw [← hin, List.getElem?_map, List.getElem?_map, List.getElem?_eq_getElem h3, List.getElem?_eq_getElem (by omega)] at e
    simp only [Option.map_some, Option.some.injEq] at e
    have e2 : ix i.names k = i.names[k] := by simp [ix, List.getD, h3]
    have e3 : g[k]'(by omega) = ix l k := by
      have : (g[k]'(by omega)) = (l ++ t)[k]'(by simp; omega) := by congr 1
      rw [this, List.getElem_append_left hk]
      simp [ix, List.getD, hk]
    rw [e2, e, e3]
  · have hnil := missL_nil l
    rw [hil, hlen]
    constructor
    · intro hp
      rcases Nat.eq_zero_or_pos t.length with h0 | h0
      · exfalso
        have htz : t = [] := List.eq_nil_of_length_eq_zero h0
        have hgl : g = l := by rw [ht, htz]; simp
        rw [hgl] at h2
        rw [hnil.2 h2.symm] at hp
        simp at hp
      · omega
    · intro hp
      rcases Nat.eq_zero_or_pos (missL l).length with h0 | h0
      · exfalso
        have hf := hnil.1 (List.eq_nil_of_length_eq_zero h0)
        have := htn.2 (first_known hf)
        rw [this] at hp; simp at hp
      · exact h0
  · rcases lackL_sub _ hn with hm | hm
    · cases hm
    · have hmg : n ∈ refNames g := by
        unfold refNames at hm ⊢
        rw [ht, List.flatMap_append]
        exact List.mem_append_left _ hm
      have hk : knownF g n = true := by
        cases hx : knownF g n with
        | true => rfl
        | false =>
          have : n ∈ (refNames g).filter fun n => !knownF g n := List.mem_filter.2 ⟨hmg, by simp [hx]⟩
          rw [← h2] at this; cases this
      rw [← (got base g).known, hgood.same, outer_any, List.any_eq_true] at hk
      obtain ⟨d, hd1, hd2⟩ := hk
      have hd3 : d ∈ i.defs := by rw [hid]; exact (sortD_perm hgood.distinct).mem_iff.2 hd1
      obtain ⟨k, hk1, hk2⟩ := ix_of_mem hd3
      exact ⟨k, hk1, by rw [hk2]; exact eqS_t.1 hd2⟩
end Go.Pm

/- LkN1: contracts: the library's sort of texts; Missing. -/
namespace Go.Pm
open Go Go.Proofs Go.Shelf Go.RowKit Go.Lib Go.Sort
attribute [-simp] List.getElem?_map List.length_flatten

def sortT (ms : List ByteArray) : List ByteArray := ((ms.map fun s => s.data.toList).mergeSort fun x y => decide (x ≤ y)).map fun l => ⟨l.toArray⟩
theorem sortT_perm (ms : List ByteArray) : (sortT ms).Perm ms := by
  unfold sortT
  have h := (List.mergeSort_perm (ms.map fun s => s.data.toList) fun x y => decide (x ≤ y)).map fun l : List UInt8 => (⟨l.toArray⟩ : ByteArray)
  refine h.trans ?_
  rw [List.map_map]
  have : ((fun l : List UInt8 => (⟨l.toArray⟩ : ByteArray)) ∘ fun s : ByteArray => s.data.toList) = id := by funext s; simp
  rw [this, List.map_id]

theorem texts_world_heap (w : World) (b n : Nat) (d : Array (List UInt8)) (os : Array Obj) (hb : b < w.heap.size) {cur : Array Value} {e : TypeId} {fr : Nat × Nat} (h : w.heap[b]? = some (.cells cur e fr)) :
    (grow (putRow encStr (Sort.ahead w n) b 0 d) os).heap[b]? = some (.cells (putCells encStr 0 d cur) e fr) := by
  rw [heap_grow_old _ _ (by rw [show (putRow encStr (Sort.ahead w n) b 0 d).heap.size = w.heap.size by simp [putRow, mapBlock, Sort.ahead]]; exact hb)]
  unfold putRow mapBlock
  show (w.heap.modify b _)[b]? = _
  rw [Array.getElem?_modify, if_pos rfl, h]
  rfl
theorem texts_world_other (w : World) (b n k : Nat) (d : Array (List UInt8)) (os : Array Obj) (hk : k < w.heap.size) (hne : k ≠ b) : (grow (putRow encStr (Sort.ahead w n) b 0 d) os).heap[k]? = w.heap[k]? := by
  rw [heap_grow_old _ _ (by rw [show (putRow encStr (Sort.ahead w n) b 0 d).heap.size = w.heap.size by simp [putRow, mapBlock, Sort.ahead]]; exact hk)]
  unfold putRow mapBlock
  show (w.heap.modify b _)[k]? = _
  rw [Array.getElem?_modify, if_neg (fun e => hne e.symm)]

theorem texts_holds {σ : Sig} {K : Bool → Nat → Prop} {w : World} {b : Nat} {ms : List ByteArray} {cur : Array Value} {e : TypeId} (hh : w.heap[b]? = some (.cells cur e (0, 0))) (h : LR σ K w b 0 1 (textsR ms)) : Holds encStr w b 0 (ms.map fun s => s.data.toList).toArray := by
  intro t ht
  have ht2 : t < ms.length := by simpa using ht
  have hd : ((ms.map fun s => s.data.toList).toArray)[t]! = ms[t].data.toList := by rw [getElem!_pos (ms.map fun s => s.data.toList).toArray t ht]; simp
  rw [hd]
  obtain ⟨_, hc⟩ := LR_iff.1 h t [.str ms[t]] (by unfold textsR; rw [List.getElem?_map, List.getElem?_eq_getElem ht2]; rfl)
  refine ⟨?_, by simp [World.frozen?, hh]⟩
  obtain ⟨u, hu, _, hV⟩ := CR_iff.1 hc 0 (.str ms[t]) rfl
  rw [VR] at hV
  rw [show 0 + t = 0 + t * 1 + 0 by omega, hu, hV]
theorem texts_rows {σ : Sig} {K : Bool → Nat → Prop} {w : World} {b : Nat} {ls : List (List UInt8)} (h : Holds encStr w b 0 ls.toArray) : LR σ K w b 0 1 (textsR (ls.map fun l => ⟨l.toArray⟩)) := by
  refine LR_iff.2 fun i c hc => ?_
  unfold textsR at hc
  rw [List.getElem?_map, Option.map_eq_some_iff] at hc
  obtain ⟨x, hx, rfl⟩ := hc
  rw [List.getElem?_map, Option.map_eq_some_iff] at hx
  obtain ⟨y, hy, rfl⟩ := hx
  have hi : i < ls.length := (List.getElem?_eq_some_iff.1 hy).1
  refine ⟨rfl, CR_iff.2 fun j z hj => ?_⟩
  have hj0 : j = 0 := by have := (List.getElem?_eq_some_iff.1 hj).1; simp at this; omega
  subst hj0
  injection hj with hj; subst hj
  have hg := (h i (by simpa using hi)).1
  have e : ls.toArray[i]! = y := by
    rw [getElem!_pos _ _ (by simpa using hi)]
    simpa using (List.getElem?_eq_some_iff.1 hy).2
  rw [e] at hg
  exact ⟨.string ⟨y.toArray⟩, by rw [show 0 + i * 1 + 0 = 0 + i by omega, hg], rfl, by rw [VR]⟩

theorem call50 (m : Mem) (pos gen n : Nat) (ms : List ByteArray) (h : m.obj pos gen = some (.row 9 1 (textsR ms))) (hn : ms.length = n) (hl : n ≤ 3000000000000) :
    ACalls Try.prog 50 [.row pos gen 1 0 n] m fun out m' => out = .ret (.tuple []) ∧ m' = m.put pos gen (.row 9 1 (textsR (sortT ms))) := by
  refine ⟨⟨Try.f50, Try.func50, rfl, by kernel_rfl⟩, fun β K σ w vals hrel hv => ?_⟩
  obtain ⟨u, us, rfl, hV, hnil⟩ := hv
  rw [VRs] at hnil
  subst hnil
  have hpos := Mem.obj_some h
  rcases Nat.eq_zero_or_pos n with h0 | h0
  · have hms : ms = [] := List.eq_nil_of_length_eq_zero (by omega)
    subst hms
    have hu : ∃ p c, u = .slice p 0 c := by
      obtain ⟨ad, cap, he⟩ := row_value hV
      exact ⟨ad, cap, by rw [he, h0]⟩
    obtain ⟨p, c, rfl⟩ := hu
    refine (AnyG.slices_Sort_string_none Try.sortStr p c w).mono ?_
    rintro e w' ⟨rfl, rfl⟩
    refine ⟨K, σ, m, .ret (.tuple []), ⟨rfl, ?_⟩, hrel, List.prefix_refl _, fun _ _ h => h, fun _ _ _ => rfl, .tuple #[], rfl, by rw [VR]; exact ⟨#[], rfl, rfl⟩⟩
    have : sortT [] = [] := (sortT_perm []).eq_nil
    rw [this]
    exact (Mem.put_same hpos).symm
  · rw [VR] at hV
    rcases hV with ⟨b, c, hg, hoc, rfl⟩ | ⟨_, hl0, _⟩ | ⟨hl0, _⟩
    · obtain ⟨cur, hheap, hcs, hcap, hmax, hpos2, hlr⟩ := hrel.obj_row h hg
      have hH := texts_holds hheap hlr
      have hb : b < w.heap.size := (Array.getElem?_eq_some_iff.1 hheap).1
      have hcon := AnyG.slices_Sort_string Try.sortStr b 0 c (ms.map fun s => s.data.toList) w hH hb (by simp; omega)
      have hargs : ([Value.slice (some ⟨b, 0 * 1, none⟩) n (c - 0)] : List Value).toArray = #[.slice (some ⟨b, 0, none⟩) (ms.map fun s => s.data.toList).length c] := by
        simp [hn]
      rw [hargs]
      refine Calls.mono hcon ?_
      rintro e w' ⟨rfl, n', os, rfl⟩
      generalize hd : (ms.map fun s => s.data.toList).mergeSort (fun x y => decide (x ≤ y)) = d
      have hsT : sortT ms = d.map fun l => ⟨l.toArray⟩ := by unfold sortT; rw [hd]
      have hsz : d.length = ms.length := by
        have := (sortT_perm ms).length_eq
        rw [hsT, List.length_map] at this; exact this
      have hheap' := texts_world_heap w b n' d.toArray os hb hheap
      have hle : w.heap.size ≤ (grow (putRow encStr (Sort.ahead w n') b 0 d.toArray) os).heap.size := by simp [putRow, mapBlock, Sort.ahead]
      have hgr : w.grownBy (grow (putRow encStr (Sort.ahead w n') b 0 d.toArray) os) (some b) := ⟨rfl, rfl, rfl, hle, fun k hk hne => texts_world_other w b n' k d.toArray os hk (fun e => hne (by rw [e]))⟩
      have hH' : Holds encStr (grow (putRow encStr (Sort.ahead w n') b 0 d.toArray) os) b 0 d.toArray :=
        holds_grow _ _ _ _ _ _ (by simp [putRow, mapBlock, Sort.ahead]; exact hb) (holds_putRow encStr (Sort.ahead w n') b 0 _ _ hH (by simp [hsz]))
      have hKs := hrel.kept_same hgr (hrel.not_kept h hg)
      refine ⟨K, σ, _, .ret (.tuple []), ⟨rfl, rfl⟩, hrel.put hpos hg hgr ⟨_, hheap', ?_, ?_, hmax, hpos2, ?_⟩, List.prefix_refl _, fun _ _ h => h, hKs, .tuple #[], rfl, by rw [VR]; exact ⟨#[], rfl, rfl⟩⟩
      · simp [putCells, hcs]
      · rw [hsT]
        simp [textsR, hsz]
        simpa [textsR] using hcap
      · rw [hsT]
        exact texts_rows hH'
    · omega
    · omega

theorem ACalls.wk {P : Program} {f : FuncId} {xs ys : List AV} {m : Mem} {R : AOut → Mem → Prop} (h : ACalls P f ys m R) (hs : ∀ (σ : Sig) (K : Bool → Nat → Prop) (w : World) (us : List Value), VRs σ K w xs us → VRs σ K w ys us) : ACalls P f xs m R :=
  ⟨h.1, fun β K σ w vals hr hv => h.2 β K σ w vals hr (hs σ K w vals hv)⟩
theorem firstL_none (own : List ByteArray) : ∀ ms : List ByteArray, firstL own [] ms = none
  | [] => rfl
  | n :: ms => by rw [firstL]; exact firstL_none own ms

set_option maxHeartbeats 4000000 in
theorem call22 (p : Bool) (l : List Deck) (hl : SmallL l) (hok : l.all deckOk = true) :
    PCalls Try.prog 22 [.list p 5 (l.map Deck.av), .nilS] fun out => out = .ret (.tuple [.list true 1 (textsR (sortT (missL l))), .int .i64 0]) := by
  refine ok22.pcalls (by simp) ?_
  have dl := hl.len
  have hnb : SmallLL ([] : List (List Deck)) := ⟨by simp, by simp⟩
  have hall : allF l [] = true := by unfold allF; rw [hok]; rfl
  have hfl : ∀ o ∈ l, o.Fit ∧ RefsFit o := fun o ho => deckOk_fit (hl.each o ho) (by rw [List.all_eq_true] at hok; exact hok o ho)
  have hf0 : ∀ o ∈ ([] : List (List Deck)).flatten, o.Fit ∧ RefsFit o := fun o ho => by cases ho
  simp [c22]
  refine xcall_p (PCalls.sub (call23 p true l [] hl hnb (by simp) (by simpa using dl)) (Sub.cons (Sub.nil (Sub.refl _)))) (by simp) ?_
  simp [hall]
  have c26 := call26 0 [] 0
  refine xcall_a (by exact c26) ?_
  simp
  refine wpS_loopS (ι := (Nat × LSt) × (LG × Nat)) (fun u => [(1, .nilS), (6, .ptr 2 2 0), (15, .list p 5 (l.map Deck.av)), (16, .int .i64 l.length), (17, .int .i64 u.1.1)])
    (fun u => ⟨lkObjs 0 0 u.2.1 u.1.2, u.2.2⟩) (fun u => l.length - u.1.1)
    (fun u => u.1.1 ≤ l.length ∧ u.1.2 = stF 0 (l.take u.1.1) ∧ u.1.2.Good 0 ∧ u.1.2.objs.length = u.1.1 ∧ u.2.1.a = 0) ((0, .start 0), (⟨0, 3, 4, 5, 6⟩, 7)) ⟨Nat.zero_le _, rfl, LSt.good_start (by omega) (by omega), rfl, rfl⟩
    (Sim.of_le (Env.le_of (by simp)) (Mem.le_of rfl (by simp))) ?_
  intro ⟨⟨i, s⟩, ⟨G, nx⟩⟩ ⟨hi, hst, hg, hol, hGa⟩
  simp only at hi hst hg hol hGa
  have hw : IntKind.i64.wrap (i + 1) = i + 1 := wrap64 (by omega) (by omega)
  simp
  refine br_cond rfl (fun h => ?_) (fun h => ?_)
  · have hlt : i < l.length := by have := ltI_t.1 h; omega
    have hf := hfl _ (ix_mem hlt)
    have htk : l.take (i + 1) = l.take i ++ [ix l i] := by rw [List.take_add_one, idx h]; rfl
    generalize hoi : ix l i = o at *
    simp [h, idxM, hoi, Deck.av]
    have c27 := call27 [] 0 G s o false (nx + 1) hg.small hf.1
    rw [hGa] at c27
    refine xcall_r (R := put27 [] 0 G false s o) (ACalls.of_le (m1 := ⟨lkObjs 0 0 G s, nx + 1⟩) (Mem.le_of rfl (by simp [lkObjs])) (by exact c27)) ?_ ?_
    · intro v m' hp
      unfold put27 at hp
      rw [putL_false] at hp
      obtain ⟨_, o', n', d', l', nx', rfl⟩ := hp
      obtain ⟨e1, _⟩ := putL_same (putL_false s o)
      simp [hw]
      exact ⟨i + 1, putNF s o, ⟨G.a, o', n', d', l'⟩, ⟨by omega, by rw [htk, stF_snoc, ← hst], putL_good hg hf.1 hf.2 (by omega) (putL_false s o), by rw [e1]; simp [hol], hGa⟩, by omega, nx', Sim.of_le (Env.le_of (by simp)) (Mem.le_of rfl (by simp [lkObjs]))⟩
    · intro v m' hp
      unfold put27 at hp
      rw [putL_false] at hp
      obtain ⟨hp, _⟩ := hp
      cases hp
  · have hil : i = l.length := by have := ltI_f.1 h; omega
    rw [hil, List.take_length] at hst
    have c28 := call28 [] 0 G s nx true [] hnb (fun o ho => (hf0 o ho).1) hg.small (by simp; omega)
    rw [hGa] at c28
    have hN : neededL [] (([] : List (List Deck)).flatten.length + 1) s = (s, missL l) := by
      show neededL [] 1 s = _
      rw [neededL, firstL_none, hst, (got 0 l).objs]
      rfl
    rw [hN] at c28
    simp only at c28
    have hml : (missL l).length ≤ 3000000000000 := by
      have h1 := lackL_len (stF 0 l).nmap (refNames l) []
      have h2 := refs_max hl
      simp only [List.length_nil, Nat.zero_add] at h1
      unfold missL; omega
    generalize missL l = ms at *
    simp [h]
    refine xcall_r (ACalls.wk (by exact c28) (fun σ K w us hv => by
      obtain ⟨u, us1, rfl, h1, u2, us2, rfl, h2, h3⟩ := hv
      exact ⟨u, _, rfl, h1, u2, us2, rfl, Wk.nil _ _ _ _ h2, h3⟩)) ?_ (by rintro v m' ⟨_, _, _, _, _, _, _, h, _⟩; cases h)
    rintro v m' ⟨o', n', d', l', g, nx', _, hv, rfl⟩
    injection hv with hv; subst hv
    simp
    have hrow : (⟨lkObjs 0 0 ⟨0, o', n', d', l'⟩ s ++ [(g, AObj.row 9 1 (textsR ms))], nx'⟩ : Mem).obj 7 g = some (.row 9 1 (textsR ms)) := by simp [Mem.obj, lkObjs]
    refine xcall_a (call50 _ 7 g ms.length ms hrow rfl hml) ?_
    have hper := (sortT_perm ms).length_eq
    have htk : (textsR (sortT ms)).take ms.length = textsR (sortT ms) := List.take_of_length_le (by simp [textsR, hper])
    have hle : ms.length ≤ (textsR (sortT ms)).length := by simp [textsR, hper]
    have hpm : permLL (textsR (sortT ms)) = true := perm_texts _
    simp [Mem.put, lkObjs, cr22, htk, hle, hpm]
end Go.Pm

/- LkN3: the law LinkNeeded answers true. -/
namespace Go.Pm
open Go Go.Proofs
attribute [-simp] List.getElem?_map List.length_flatten

/-- Whether one of the first definitions has this name. -/
def defTo (ds : List DDef) (n : ByteArray) (k : Nat) : Bool := (ds.take k).any fun d => eqS d.name n
theorem defTo_succ {ds : List DDef} {n : ByteArray} {k : Nat} (h : k < ds.length) : defTo ds n (k + 1) = (defTo ds n k || eqS (ix ds k).name n) := by
  unfold defTo
  rw [List.take_add_one, List.any_append, idx (ltN h)]
  simp
theorem defTo_all {ds : List DDef} {n : ByteArray} (h : ∃ k, k < ds.length ∧ (ix ds k).name = n) : defTo ds n ds.length = true := by
  unfold defTo
  rw [List.take_length, List.any_eq_true]
  obtain ⟨k, hk, rfl⟩ := h
  exact ⟨_, ix_mem hk, eqS_t.2 rfl⟩

set_option maxHeartbeats 8000000 in
theorem call6 (l : List Deck) (libs : List (List Deck)) (base : Int) (hl : SmallL l) (hb : SmallLL libs) (hsum : l.length + libs.flatten.length ≤ 2000000) :
    PCalls Try.prog 6 [decksAV l, .list true 1 (libs.map libAV), .int .i64 base] fun out => out = .ret (.bool true) := by
  refine ok6.pcalls (by simp [decksAV]) ?_
  simp [c6, decksAV]
  refine xcall_p call7 (by simp) ?_
  simp
  refine xcall_b (call8 l libs hl hb) (by simp [decksAV]) fun b => ?_
  cases b with
  | true => simp [cr6]
  | false =>
  simp
  refine xcall_p (call10 true l hl) (by simp) ?_
  simp [decksAV]
  refine xcall_p (call11 true libs hb) (by simp) ?_
  simp
  refine xcall_p (call9 true true l libs base hl hb hb.len hsum) (by simp) ?_
  have e0 : eqI 0 0 = true := rfl
  have e2 : ∀ n : ByteArray, eqS n n = true := fun n => eqS_t.2 rfl
  cases hw : linkL l libs base with
  | bad e n =>
    have he : eqI e 0 = false := eqI_f.2 (linkL_bad hw)
    simp [LRes.av, img0, he, cr6]
  | good w =>
  have hws := linkL_small hl hb hsum hw
  have hnd := needs hl hb hsum hw
  obtain ⟨g, hg⟩ := linkL_gath hl hb hsum hw
  have hok : l.all deckOk = true := by
    have := hg.all
    unfold allF at this
    rw [Bool.and_eq_true] at this
    exact this.1
  have dl := hl.len
  have hwn := hws.names
  have hwd := hws.defs
  have hlen : ltI ↑w.names.length ↑l.length = false := ltI_f.2 (by have := hnd.len; omega)
  simp [LRes.av, Img.av, e0, hlen]
  refine wpS_loopS (ι := Nat) (fun i => [(0, .list true 5 (l.map Deck.av)), (7, .ptr 0 0 0), (10, .int .i64 i)]) (fun _ => ⟨[(0, .cells w.av)], 1⟩) (fun i => l.length - i) (fun i => i ≤ l.length) 0 (Nat.zero_le _) (Sim.of_le (Env.le_of (by simp)) (Mem.le_of rfl (by simp [Img.av]))) ?_
  intro i hi
  have hwi : IntKind.i64.wrap (i + 1) = i + 1 := wrap64 (by omega) (by omega)
  simp [Img.av]
  refine br_cond rfl (fun h => ?_) (fun h => ?_)
  · have hlt : i < l.length := by have := ltI_t.1 h; omega
    have h2 : ltI ↑i ↑w.names.length = true := ltN (by have := hnd.len; omega)
    have hnm := hnd.name i hlt
    simp [h, h2, idxM, DDef.av, Deck.av, hnm, e2, hwi]
    exact ⟨i + 1, by omega, by omega, Sim.of_le (Env.le_of (by simp)) (Mem.le_of rfl (by simp))⟩
  simp [h]
  refine xcall_p (call10 true l hl) (by simp) ?_
  simp [decksAV]
  refine xcall_p (call22 true l hl hok) (by simp) ?_
  have hper := sortT_perm (missL l)
  have hmore := hnd.more
  have hdefd : ∀ n ∈ sortT (missL l), ∃ k, k < w.defs.length ∧ (ix w.defs k).name = n := fun n hn => hnd.defd n (hper.mem_iff.1 hn)
  rw [← hper.length_eq] at hmore
  have hml : (missL l).length ≤ 3000000000000 := by
    have h1 := lackL_len (stF 0 l).nmap (refNames l) []
    have h2 := refs_max hl
    simp only [List.length_nil, Nat.zero_add] at h1
    unfold missL; omega
  rw [← hper.length_eq] at hml
  generalize sortT (missL l) = T at *
  have hbb : ltI 0 ↑T.length = ltI ↑l.length ↑w.names.length := by
    rw [Bool.eq_iff_iff, ltI_t, ltI_t]; omega
  simp [textsR, e0, hbb]
  refine wpS_loopS (ι := Nat) (fun i => [(7, .ptr 0 0 0), (11, .list true 1 (T.map fun s => [.str s])), (12, .int .i64 i)]) (fun _ => ⟨[(0, .cells w.av)], 1⟩) (fun i => T.length - i) (fun i => i ≤ T.length) 0 (Nat.zero_le _) (Sim.of_le (Env.le_of (by simp)) (Mem.le_of rfl (by simp [Img.av]))) ?_
  intro j hj
  have hwj : IntKind.i64.wrap (j + 1) = j + 1 := wrap64 (by omega) (by omega)
  simp [Img.av]
  refine br_cond rfl (fun h2 => ?_) (fun h2 => ?_)
  · have hlt : j < T.length := by have := ltI_t.1 h2; omega
    have hdj := hdefd _ (ix_mem hlt)
    have hTj : (T.map fun s => [AV.str s])[j]? = some [AV.str (ix T j)] := idxM (f := fun s => [AV.str s]) h2
    have hall := defTo_all hdj
    generalize ix T j = n at *
    simp [h2]
    refine wpS_loopS (ι := Nat) (fun k => [(7, .ptr 0 0 0), (11, .list true 1 (T.map fun s => [.str s])), (12, .int .i64 j), (13, .bool (defTo w.defs n k)), (14, .int .i64 k)]) (fun _ => ⟨[(0, .cells w.av)], 1⟩) (fun k => w.defs.length - k) (fun k => k ≤ w.defs.length) 0 (Nat.zero_le _) (Sim.of_le (Env.le_of (by simp [defTo])) (Mem.le_of rfl (by simp [Img.av]))) ?_
    intro k hk
    have hwk : IntKind.i64.wrap (k + 1) = k + 1 := wrap64 (by omega) (by omega)
    simp [Img.av]
    refine br_cond rfl (fun h3 => ?_) (fun h3 => ?_)
    · have hlk : k < w.defs.length := by have := ltI_t.1 h3; omega
      have hsu := defTo_succ (n := n) hlk
      cases hd : defTo w.defs n k with
      | true =>
        rw [hd, Bool.true_or] at hsu
        simp [h3, hd, hwk]
        exact ⟨k + 1, by omega, by omega, Sim.of_le (Env.le_of (by simp [hsu])) (Mem.le_of rfl (by simp))⟩
      | false =>
        rw [hd, Bool.false_or] at hsu
        simp [h3, hd, hwk, idxM, DDef.av, hTj]
        exact ⟨k + 1, by omega, by omega, Sim.of_le (Env.le_of (by simp [hsu])) (Mem.le_of rfl (by simp))⟩
    · have hkl : k = w.defs.length := by have := ltI_f.1 h3; omega
      rw [hkl, hall]
      have h3' : ltI ↑w.defs.length ↑w.defs.length = false := ltI_f.2 (Int.le_refl _)
      simp [h3', hwj]
      exact ⟨j + 1, by omega, by omega, Sim.of_le (Env.le_of (by simp)) (Mem.le_of rfl (by simp))⟩
  · simp [h2, cr6]
end Go.Pm
