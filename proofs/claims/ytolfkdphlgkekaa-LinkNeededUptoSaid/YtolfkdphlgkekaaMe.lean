/- LkS5: code, resolved. Written by gen.py out of what ShowSC.lean printed. -/
import Derived.Test.YtolfkdphlgkekaaLkS4
namespace Go.Pm
open Go Go.Proofs

/-- slices.IndexFunc[[]ironbark/api.Def,ironbark/api.Def] -/
def c98 : SC :=
  (.seq (.ops [⟨(some 4), .plain .mv, [.lit (.int .i64 0)], none⟩] [])
  (.seq (.seq (.ops [⟨(some 6), .plain .mv, [.tmp 0], none⟩,
    ⟨(some 7), .plain (.len 1), [.tmp 6], none⟩,
    ⟨(some 8), .plain .mv, [.lit (.int .i64 0)], none⟩] [6])
  (.block 0
   (.loop
    (.seq (.ops [⟨(some 9), .plain (.bin .lss), [.tmp 8, .tmp 7], none⟩] [])
    (.seq (.cond (.tmp 9)
     .skip
     (.exit 0))
    (.seq (.block 1
     (.seq (.ops [⟨(some 10), .plain .mv, [.tmp 8], none⟩,
       ⟨(some 5), .plain .mv, [.tmp 10], none⟩] [10])
     (.seq (.ops [⟨(some 11), .plain .mv, [.tmp 1], none⟩,
       ⟨(some 12), .plain .mv, [.tmp 0], none⟩,
       ⟨(some 13), .plain .mv, [.tmp 5], none⟩,
       ⟨(some 14), .plain (.indexAddr 2), [.tmp 12, .tmp 13], none⟩,
       ⟨(some 15), .plain (.load true 2), [.tmp 14], none⟩,
       ⟨(some 16), .callv, [.tmp 11, .tmp 15], none⟩] [11, 12, 13, 14, 15])
     (.cond (.tmp 16)
      (.seq (.ops [⟨(some 17), .plain .mv, [.tmp 5], none⟩,
        ⟨(some 4), .plain .mv, [.tmp 17], none⟩] [17])
      .ret)
      .skip))))
    (.ops [⟨(some 18), .plain (.bin .add), [.tmp 8, .lit (.int .i64 1)], none⟩,
      ⟨(some 8), .plain .mv, [.tmp 18], none⟩] [18])))))))
  (.seq (.ops [⟨(some 4), .plain .mv, [.lit (.int .i64 (-1))], none⟩] [])
  .ret)))
def cr98 : List Res := [(4, none)]
theorem ok98 : FOk Try.prog Lk.imp 98 c98 cr98 Try.f98.ntmps := ⟨Try.f98, _, Try.func98, rfl, by kernel_rfl, by kernel_rfl, by kernel_rfl, rfl⟩

/-- slices.Index[[]string,string] -/
def c99 : SC :=
  (.seq (.ops [⟨(some 4), .plain .mv, [.lit (.int .i64 0)], none⟩] [])
  (.seq (.seq (.ops [⟨(some 6), .plain .mv, [.tmp 0], none⟩,
    ⟨(some 7), .plain (.len 1), [.tmp 6], none⟩,
    ⟨(some 8), .plain .mv, [.lit (.int .i64 0)], none⟩] [6])
  (.block 0
   (.loop
    (.seq (.ops [⟨(some 9), .plain (.bin .lss), [.tmp 8, .tmp 7], none⟩] [])
    (.seq (.cond (.tmp 9)
     .skip
     (.exit 0))
    (.seq (.block 1
     (.seq (.ops [⟨(some 10), .plain .mv, [.tmp 8], none⟩,
       ⟨(some 5), .plain .mv, [.tmp 10], none⟩] [10])
     (.seq (.ops [⟨(some 11), .plain .mv, [.tmp 1], none⟩,
       ⟨(some 12), .plain .mv, [.tmp 0], none⟩,
       ⟨(some 13), .plain .mv, [.tmp 5], none⟩,
       ⟨(some 14), .plain (.indexAddr 1), [.tmp 12, .tmp 13], none⟩,
       ⟨(some 15), .plain (.load false 1), [.tmp 14], none⟩,
       ⟨(some 16), .plain (.bin .eql), [.tmp 11, .tmp 15], none⟩] [11, 12, 13, 14, 15])
     (.cond (.tmp 16)
      (.seq (.ops [⟨(some 17), .plain .mv, [.tmp 5], none⟩,
        ⟨(some 4), .plain .mv, [.tmp 17], none⟩] [17])
      .ret)
      .skip))))
    (.ops [⟨(some 18), .plain (.bin .add), [.tmp 8, .lit (.int .i64 1)], none⟩,
      ⟨(some 8), .plain .mv, [.tmp 18], none⟩] [18])))))))
  (.seq (.ops [⟨(some 4), .plain .mv, [.lit (.int .i64 (-1))], none⟩] [])
  .ret)))
def cr99 : List Res := [(4, none)]
theorem ok99 : FOk Try.prog Lk.imp 99 c99 cr99 Try.f99.ntmps := ⟨Try.f99, _, Try.func99, rfl, by kernel_rfl, by kernel_rfl, by kernel_rfl, rfl⟩

end Go.Pm

/- LkS6: code, resolved. Written by gen.py out of what ShowSC.lean printed. -/
namespace Go.Pm
open Go Go.Proofs

/-- (*ironbark/link.linking).found$1 -/
def c81 : SC :=
  (.seq (.ops [⟨(some 2), .plain (.box 2), [.tmp 0], none⟩,
    ⟨(some 3), .plain .mv, [.lit (.bool false)], none⟩] [])
  (.seq (.ops [⟨(some 4), .plain (.fieldAddr 0), [.tmp 2], none⟩,
    ⟨(some 5), .plain (.load false 1), [.tmp 4], none⟩,
    ⟨(some 6), .plain (.load false 1), [.tmp 1], none⟩,
    ⟨(some 7), .plain (.bin .eql), [.tmp 5, .tmp 6], none⟩,
    ⟨(some 3), .plain .mv, [.tmp 7], none⟩] [4, 5, 6, 7])
  .ret))
def cr81 : List Res := [(3, none)]
theorem ok81 : FOk Try.prog Lk.imp 81 c81 cr81 Try.f81.ntmps := ⟨Try.f81, _, Try.func81, rfl, by kernel_rfl, by kernel_rfl, by kernel_rfl, rfl⟩

end Go.Pm
