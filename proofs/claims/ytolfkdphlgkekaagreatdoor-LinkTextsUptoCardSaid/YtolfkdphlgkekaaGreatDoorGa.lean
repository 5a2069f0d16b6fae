/- ZkA: the program of the linker's texts and loader; what is known of its variables. -/
import Derived.Test.YtolfkdphlgkekaaGreatDoorProg
import Derived.KernelRfl
import Derived.Lib.LaidTab
import Derived.Lib.ItoaNum
import Derived.Test.YtolfkdphlgkekaaGreatDoorPmR
import Derived.Shelf.Strings.BuilderX
import Derived.Shelf.RegionOpenPlain
import Derived.Lib.Strings
import Derived.Lib.Walk
import Derived.Lib.Builder
import Derived.Lib.UnsafeStr
import Derived.WalkKit
import Derived.Laws.Externs
import Derived.Shelf.Strings.Builder1
import Derived.Shelf.Strings.OnBuilder
import Derived.Shelf.Small.Strs
import Derived.Shelf.Strings.Cut
import Derived.Shelf.Strings.Split
import Derived.Shelf.Strings.Prefix
import Derived.Shelf.Strconv.Itoa3
import Derived.Shelf.Strconv.AtoiAll
namespace Go.Pm
open Go Go.Proofs
/-- Functions that write into what they are handed; behind them, with a million more, those that may panic where an order is open. -/
def Zk.imp : List Go.FuncId := [71, 72, 73, 113, 114, 60, 28, 42, 44, 46, 59, 1000025, 1000026]
/-- The same, where closures write. -/
def Zk.impT : List Go.FuncId := [71, 72, 73, 113, 114, 60, 28, 42, 44, 46, 59, 2000000]

theorem pow10_at : Tryz.prog.globalNamed "internal/strconv.uint64pow10" = some 3 := by kernel_rfl

/-- The longest text that the fast search takes; the two errors; the powers of ten. -/
def Zk.ok (w : World) : Prop :=
  (∃ m, w.cell? ⟨0, 0, none⟩ = some (.int .i64 m)) ∧ (∃ ev, w.cell? ⟨1, 0, none⟩ = some ev ∧ (ev = .nilIface ∨ ∃ te pe, ev = .iface te pe)) ∧ (∃ ev, w.cell? ⟨2, 0, none⟩ = some ev ∧ (ev = .nilIface ∨ ∃ te pe, ev = .iface te pe)) ∧
  Lib.TabIs Tryz.prog w "internal/strconv.uint64pow10" .u64 Lib.pow10Tab

theorem Zk.stable (w w' : World) (h : Zk.ok w) (hb : ∀ b, b < 8 → w'.heap[b]? = w.heap[b]?) : Zk.ok w' := by
  have hc : ∀ b, b < 8 → w'.cell? ⟨b, 0, none⟩ = w.cell? ⟨b, 0, none⟩ := fun b h => cell?_congr (a := ⟨b, 0, none⟩) (hb b h)
  obtain ⟨h1, h2, h3, h4⟩ := h
  refine ⟨by rw [hc 0 (by omega)]; exact h1, by rw [hc 1 (by omega)]; exact h2, by rw [hc 2 (by omega)]; exact h3, ?_⟩
  unfold Lib.TabIs World.var? at h4 ⊢
  rw [pow10_at] at h4 ⊢
  simp only [Option.bind_some] at h4 ⊢
  rw [hb 3 (by omega)]
  exact h4

noncomputable def Zk.pg : Prg := { toProgram := Tryz.prog, ok := Zk.ok, blocks := fun b => b < 8, stable := Zk.stable }
end Go.Pm

/- ZkS14: code, resolved. Written by gen.py out of what ShowSC.lean printed. -/
namespace Go.Pm
open Go Go.Proofs

/-- ironbark/link.Text -/
def c19 : SC :=
  (.seq (.ops [⟨(some 1), .plain (.box 5), [.tmp 0], none⟩,
    ⟨(some 2), .plain .mv, [.lit (.str ⟨#[]⟩)], none⟩,
    ⟨(some 3), .plain .mv, [.lit (.int .i64 0)], none⟩] [])
  (.seq (.seq (.ops [⟨(some 15), .plain (.load true 5), [.tmp 1], none⟩,
    ⟨(some 16), .call 27, [.tmp 15], none⟩,
    ⟨(some 17), .plain (.un .not), [.tmp 16], none⟩] [15, 16])
  (.cond (.tmp 17)
   (.seq (.ops [⟨(some 2), .plain .mv, [.lit (.str ⟨#[]⟩)], none⟩,
     ⟨(some 3), .plain .mv, [.lit (.int .i64 1)], none⟩] [])
   .ret)
   .skip))
  (.seq (.ops [⟨(some 4), .plain (.allocT 126 [(.const (.pointer none)), .nilS]), [], none⟩] [])
  (.seq (.ops [⟨(some 18), .plain (.mkFn 59), [.tmp 4], none⟩,
    ⟨(some 5), .plain .mv, [.tmp 18], none⟩] [18])
  (.seq (.ops [⟨(some 19), .plain .mv, [.tmp 5], none⟩,
    ⟨(some 20), .plain (.fieldAddr 0), [.tmp 1], none⟩,
    ⟨(some 21), .plain (.load false 1), [.tmp 20], none⟩,
    ⟨(some 22), .plain (.buildRow 9 1 2 [(.str ⟨#[]⟩)] [0, 1]), [.lit (.str ⟨#[79, 66, 74, 69, 67, 84]⟩), .tmp 21], none⟩,
    ⟨(some 23), .callv, [.tmp 19, .tmp 22], none⟩] [19, 20, 21, 22, 23])
  (.seq (.seq (.ops [⟨(some 6), .plain .mv, [.lit (.int .i64 0)], none⟩] [])
  (.block 0
   (.loop
    (.seq (.seq (.ops [⟨(some 24), .plain .mv, [.tmp 6], none⟩,
      ⟨(some 25), .plain (.fieldAddr 1), [.tmp 1], none⟩,
      ⟨(some 26), .plain (.load false 1), [.tmp 25], none⟩,
      ⟨(some 27), .plain (.len 0), [.tmp 26], none⟩,
      ⟨(some 28), .plain (.bin .lss), [.tmp 24, .tmp 27], none⟩] [24, 25, 26, 27])
    (.cond (.tmp 28)
     .skip
     (.exit 0)))
    (.seq (.block 1
     (.seq (.ops [⟨(some 7), .plain .mv, [.lit (.str ⟨#[]⟩)], none⟩] [])
     (.seq (.seq (.ops [⟨(some 31), .plain .mv, [.tmp 6], none⟩,
       ⟨(some 8), .plain .mv, [.tmp 31], none⟩] [31])
     (.block 2
      (.loop
       (.seq (.seq (.ops [⟨(some 32), .plain .mv, [.tmp 8], none⟩,
         ⟨(some 33), .plain .mv, [.tmp 6], none⟩,
         ⟨(some 34), .plain (.bin .add), [.tmp 33, .lit (.int .i64 32)], none⟩,
         ⟨(some 35), .plain (.fieldAddr 1), [.tmp 1], none⟩,
         ⟨(some 36), .plain (.load false 1), [.tmp 35], none⟩,
         ⟨(some 37), .plain (.len 0), [.tmp 36], none⟩,
         ⟨(some 38), .plain .min2, [.tmp 34, .tmp 37], none⟩,
         ⟨(some 39), .plain (.bin .lss), [.tmp 32, .tmp 38], none⟩] [32, 33, 34, 35, 36, 37, 38])
       (.cond (.tmp 39)
        .skip
        (.exit 2)))
       (.seq (.block 3
        (.ops [⟨(some 42), .plain .mv, [.tmp 7], none⟩,
          ⟨(some 43), .plain (.fieldAddr 1), [.tmp 1], none⟩,
          ⟨(some 44), .plain (.load false 1), [.tmp 43], none⟩,
          ⟨(some 45), .plain .mv, [.tmp 8], none⟩,
          ⟨(some 46), .plain .index, [.tmp 44, .tmp 45], none⟩,
          ⟨(some 47), .plain (.convInt .i64), [.tmp 46], none⟩,
          ⟨(some 48), .call 62, [.tmp 47, .lit (.int .i64 2)], none⟩,
          ⟨(some 49), .plain (.bin .add), [.tmp 42, .tmp 48], none⟩,
          ⟨(some 7), .plain .mv, [.tmp 49], none⟩] [42, 43, 44, 45, 46, 47, 48, 49]))
       (.ops [⟨(some 40), .plain .mv, [.tmp 8], none⟩,
         ⟨(some 41), .plain (.bin .add), [.tmp 40, .lit (.int .i64 1)], none⟩,
         ⟨(some 8), .plain .mv, [.tmp 41], none⟩] [40, 41]))))))
     (.ops [⟨(some 50), .plain .mv, [.tmp 5], none⟩,
       ⟨(some 51), .plain .mv, [.tmp 7], none⟩,
       ⟨(some 52), .plain (.buildRow 9 1 2 [(.str ⟨#[]⟩)] [0, 1]), [.lit (.str ⟨#[67, 79, 68, 69]⟩), .tmp 51], none⟩,
       ⟨(some 53), .callv, [.tmp 50, .tmp 52], none⟩] [50, 51, 52, 53]))))
    (.ops [⟨(some 29), .plain .mv, [.tmp 6], none⟩,
      ⟨(some 30), .plain (.bin .add), [.tmp 29, .lit (.int .i64 32)], none⟩,
      ⟨(some 6), .plain .mv, [.tmp 30], none⟩] [29, 30]))))))
  (.seq (.seq (.ops [⟨(some 54), .plain (.fieldAddr 2), [.tmp 1], none⟩,
    ⟨(some 55), .plain (.load false 1), [.tmp 54], none⟩,
    ⟨(some 56), .plain (.len 1), [.tmp 55], none⟩,
    ⟨(some 57), .plain .mv, [.lit (.int .i64 0)], none⟩] [54])
  (.block 4
   (.loop
    (.seq (.ops [⟨(some 58), .plain (.bin .lss), [.tmp 57, .tmp 56], none⟩] [])
    (.seq (.cond (.tmp 58)
     .skip
     (.exit 4))
    (.seq (.block 5
     (.seq (.ops [⟨(some 59), .plain (.indexAddr 2), [.tmp 55, .tmp 57], none⟩,
       ⟨(some 60), .plain (.load true 2), [.tmp 59], none⟩,
       ⟨(some 10), .plain (.alloc [(.str ⟨#[]⟩), (.int .i64 0)]), [], none⟩,
       ⟨none, .plain (.store 2), [.tmp 10, .tmp 60], none⟩] [59, 60])
     (.draw (.step ⟨(some 61), .plain .mv, [.tmp 5], none⟩
       (.step ⟨(some 62), .plain (.fieldAddr 0), [.tmp 10], none⟩
       (.step ⟨(some 63), .plain (.load false 1), [.tmp 62], none⟩
       (.step ⟨(some 64), .plain (.fieldAddr 1), [.tmp 10], none⟩
       (.step ⟨(some 65), .plain (.load false 1), [.tmp 64], none⟩
       (.step ⟨(some 66), .call 63, [.tmp 65], none⟩
       (.step ⟨(some 67), .plain (.buildRow 9 1 3 [(.str ⟨#[]⟩)] [0, 1, 2]), [.lit (.str ⟨#[68, 69, 70]⟩), .tmp 63, .tmp 66], none⟩
       (.step ⟨(some 68), .callv, [.tmp 61, .tmp 67], none⟩
       .done)))))))) [61, 62, 63, 64, 65, 66, 67, 68])))
    (.ops [⟨(some 69), .plain (.bin .add), [.tmp 57, .lit (.int .i64 1)], none⟩,
      ⟨(some 57), .plain .mv, [.tmp 69], none⟩] [69])))))))
  (.seq (.seq (.ops [⟨(some 70), .plain (.fieldAddr 3), [.tmp 1], none⟩,
    ⟨(some 71), .plain (.load false 1), [.tmp 70], none⟩,
    ⟨(some 72), .plain (.len 1), [.tmp 71], none⟩,
    ⟨(some 73), .plain .mv, [.lit (.int .i64 0)], none⟩] [70])
  (.block 6
   (.loop
    (.seq (.ops [⟨(some 74), .plain (.bin .lss), [.tmp 73, .tmp 72], none⟩] [])
    (.seq (.cond (.tmp 74)
     .skip
     (.exit 6))
    (.seq (.block 7
     (.seq (.ops [⟨(some 75), .plain (.indexAddr 3), [.tmp 71, .tmp 73], none⟩,
       ⟨(some 76), .plain (.load true 3), [.tmp 75], none⟩,
       ⟨(some 12), .plain (.alloc [(.int .i64 0), (.str ⟨#[]⟩), (.int .i64 0)]), [], none⟩,
       ⟨none, .plain (.store 3), [.tmp 12, .tmp 76], none⟩] [75, 76])
     (.draw (.step ⟨(some 77), .plain .mv, [.tmp 5], none⟩
       (.step ⟨(some 78), .plain (.fieldAddr 0), [.tmp 12], none⟩
       (.step ⟨(some 79), .plain (.load false 1), [.tmp 78], none⟩
       (.step ⟨(some 80), .call 63, [.tmp 79], none⟩
       (.step ⟨(some 81), .plain (.fieldAddr 1), [.tmp 12], none⟩
       (.step ⟨(some 82), .plain (.load false 1), [.tmp 81], none⟩
       (.step ⟨(some 83), .plain (.fieldAddr 2), [.tmp 12], none⟩
       (.step ⟨(some 84), .plain (.load false 1), [.tmp 83], none⟩
       (.step ⟨(some 85), .call 63, [.tmp 84], none⟩
       (.step ⟨(some 86), .plain (.buildRow 9 1 4 [(.str ⟨#[]⟩)] [0, 1, 2, 3]), [.lit (.str ⟨#[82, 69, 70]⟩), .tmp 80, .tmp 82, .tmp 85], none⟩
       (.step ⟨(some 87), .callv, [.tmp 77, .tmp 86], none⟩
       .done))))))))))) [77, 78, 79, 80, 81, 82, 83, 84, 85, 86, 87])))
    (.ops [⟨(some 88), .plain (.bin .add), [.tmp 73, .lit (.int .i64 1)], none⟩,
      ⟨(some 73), .plain .mv, [.tmp 88], none⟩] [88])))))))
  (.seq (.seq (.ops [⟨(some 89), .plain (.fieldAddr 4), [.tmp 1], none⟩,
    ⟨(some 90), .plain (.load false 1), [.tmp 89], none⟩,
    ⟨(some 91), .plain (.len 1), [.tmp 90], none⟩,
    ⟨(some 92), .plain .mv, [.lit (.int .i64 0)], none⟩] [89])
  (.block 8
   (.loop
    (.seq (.ops [⟨(some 93), .plain (.bin .lss), [.tmp 92, .tmp 91], none⟩] [])
    (.seq (.cond (.tmp 93)
     .skip
     (.exit 8))
    (.seq (.block 9
     (.seq (.ops [⟨(some 94), .plain (.indexAddr 2), [.tmp 90, .tmp 92], none⟩,
       ⟨(some 95), .plain (.load true 2), [.tmp 94], none⟩,
       ⟨(some 14), .plain (.alloc [(.int .i64 0), (.int .i64 0)]), [], none⟩,
       ⟨none, .plain (.store 2), [.tmp 14, .tmp 95], none⟩] [94, 95])
     (.draw (.step ⟨(some 96), .plain .mv, [.tmp 5], none⟩
       (.step ⟨(some 97), .plain (.fieldAddr 0), [.tmp 14], none⟩
       (.step ⟨(some 98), .plain (.load false 1), [.tmp 97], none⟩
       (.step ⟨(some 99), .call 63, [.tmp 98], none⟩
       (.step ⟨(some 100), .plain (.fieldAddr 1), [.tmp 14], none⟩
       (.step ⟨(some 101), .plain (.load false 1), [.tmp 100], none⟩
       (.step ⟨(some 102), .call 63, [.tmp 101], none⟩
       (.step ⟨(some 103), .plain (.buildRow 9 1 3 [(.str ⟨#[]⟩)] [0, 1, 2]), [.lit (.str ⟨#[76, 73, 78, 69]⟩), .tmp 99, .tmp 102], none⟩
       (.step ⟨(some 104), .callv, [.tmp 96, .tmp 103], none⟩
       .done))))))))) [96, 97, 98, 99, 100, 101, 102, 103, 104])))
    (.ops [⟨(some 105), .plain (.bin .add), [.tmp 92, .lit (.int .i64 1)], none⟩,
      ⟨(some 92), .plain .mv, [.tmp 105], none⟩] [105])))))))
  (.seq (.ops [⟨(some 106), .call 60, [.tmp 4, .lit (.str ⟨#[69, 78, 68, 10]⟩)], none⟩] [106])
  (.seq (.seq (.ops [⟨(some 107), .call 64, [.tmp 4], none⟩,
    ⟨(some 108), .plain (.bin .gtr), [.tmp 107, .lit (.int .i64 200000)], none⟩] [107])
  (.cond (.tmp 108)
   (.seq (.ops [⟨(some 2), .plain .mv, [.lit (.str ⟨#[]⟩)], none⟩,
     ⟨(some 3), .plain .mv, [.lit (.int .i64 3)], none⟩] [])
   .ret)
   .skip))
  (.seq (.ops [⟨(some 109), .call 65, [.tmp 4], none⟩,
    ⟨(some 2), .plain .mv, [.tmp 109], none⟩,
    ⟨(some 3), .plain .mv, [.lit (.int .i64 0)], none⟩] [109])
  .ret))))))))))))
def cr19 : List Res := [(2, none), (3, none)]
theorem ok19 : FOk Zk.pg.toProgram Zk.impT 19 c19 cr19 Tryz.f19.ntmps := ⟨Tryz.f19, _, Tryz.func19, rfl, by kernel_rfl, by kernel_rfl, by kernel_rfl, rfl⟩

/-- ironbark/link.Text$1 -/
def c59 : SC :=
  (.ops [⟨(some 3), .plain .mv, [.tmp 0], none⟩,
    ⟨(some 4), .call 61, [.tmp 3, .lit (.str ⟨#[32]⟩)], none⟩,
    ⟨(some 5), .plain (.bin .add), [.tmp 4, .lit (.str ⟨#[10]⟩)], none⟩,
    ⟨(some 6), .call 60, [.tmp 1, .tmp 5], none⟩] [3, 4, 5, 6])
def cr59 : List Res := []
theorem ok59 : FOk Zk.pg.toProgram Zk.imp 59 c59 cr59 Tryz.f59.ntmps := ⟨Tryz.f59, _, Tryz.func59, rfl, by kernel_rfl, by kernel_rfl, by kernel_rfl, rfl⟩

/-- ironbark/ironbarkref34.Text -/
def c20 : SC :=
  (.seq (.ops [⟨(some 1), .plain (.box 5), [.tmp 0], none⟩,
    ⟨(some 2), .plain .mv, [.lit (.str ⟨#[]⟩)], none⟩,
    ⟨(some 3), .plain .mv, [.lit (.int .i64 0)], none⟩] [])
  (.seq (.seq (.ops [⟨(some 9), .plain (.load true 5), [.tmp 1], none⟩,
    ⟨(some 10), .call 29, [.tmp 9], none⟩,
    ⟨(some 11), .plain (.un .not), [.tmp 10], none⟩] [9, 10])
  (.cond (.tmp 11)
   (.seq (.ops [⟨(some 2), .plain .mv, [.lit (.str ⟨#[]⟩)], none⟩,
     ⟨(some 3), .plain .mv, [.lit (.int .i64 1)], none⟩] [])
   .ret)
   .skip))
  (.seq (.ops [⟨(some 12), .plain (.fieldAddr 0), [.tmp 1], none⟩,
    ⟨(some 13), .plain (.load false 1), [.tmp 12], none⟩,
    ⟨(some 14), .plain (.bin .add), [.lit (.str ⟨#[79, 66, 74, 69, 67, 84, 32]⟩), .tmp 13], none⟩,
    ⟨(some 15), .plain (.bin .add), [.tmp 14, .lit (.str ⟨#[10]⟩)], none⟩,
    ⟨(some 4), .plain .mv, [.tmp 15], none⟩] [12, 13, 14, 15])
  (.seq (.seq (.ops [⟨(some 5), .plain .mv, [.lit (.int .i64 0)], none⟩] [])
  (.block 0
   (.loop
    (.seq (.seq (.ops [⟨(some 16), .plain .mv, [.tmp 5], none⟩,
      ⟨(some 17), .plain (.fieldAddr 1), [.tmp 1], none⟩,
      ⟨(some 18), .plain (.load false 1), [.tmp 17], none⟩,
      ⟨(some 19), .plain (.len 0), [.tmp 18], none⟩,
      ⟨(some 20), .plain (.bin .lss), [.tmp 16, .tmp 19], none⟩] [16, 17, 18, 19])
    (.cond (.tmp 20)
     .skip
     (.exit 0)))
    (.seq (.block 1
     (.seq (.seq (.ops [⟨(some 23), .plain .mv, [.tmp 5], none⟩,
       ⟨(some 24), .plain (.bin .rem), [.tmp 23, .lit (.int .i64 32)], none⟩,
       ⟨(some 25), .plain (.bin .eql), [.tmp 24, .lit (.int .i64 0)], none⟩] [23, 24])
     (.cond (.tmp 25)
      (.ops [⟨(some 26), .plain .mv, [.tmp 4], none⟩,
        ⟨(some 27), .plain (.bin .add), [.tmp 26, .lit (.str ⟨#[67, 79, 68, 69, 32]⟩)], none⟩,
        ⟨(some 4), .plain .mv, [.tmp 27], none⟩] [26, 27])
      .skip))
     (.seq (.ops [⟨(some 28), .plain .mv, [.tmp 4], none⟩,
       ⟨(some 29), .plain (.fieldAddr 1), [.tmp 1], none⟩,
       ⟨(some 30), .plain (.load false 1), [.tmp 29], none⟩,
       ⟨(some 31), .plain .mv, [.tmp 5], none⟩,
       ⟨(some 32), .plain .index, [.tmp 30, .tmp 31], none⟩,
       ⟨(some 33), .plain (.convInt .i64), [.tmp 32], none⟩,
       ⟨(some 34), .call 66, [.tmp 33, .lit (.int .i64 2)], none⟩,
       ⟨(some 35), .plain (.bin .add), [.tmp 28, .tmp 34], none⟩,
       ⟨(some 4), .plain .mv, [.tmp 35], none⟩] [28, 29, 30, 31, 32, 33, 34, 35])
     (.seq (.ops [⟨(some 36), .plain .mv, [.tmp 5], none⟩,
       ⟨(some 37), .plain (.bin .rem), [.tmp 36, .lit (.int .i64 32)], none⟩,
       ⟨(some 38), .plain (.bin .eql), [.tmp 37, .lit (.int .i64 31)], none⟩,
       ⟨(some 39), .plain .mv, [.tmp 38], none⟩,
       ⟨(some 40), .plain .mv, [.tmp 5], (some (39, false))⟩,
       ⟨(some 41), .plain (.fieldAddr 1), [.tmp 1], (some (39, false))⟩,
       ⟨(some 42), .plain (.load false 1), [.tmp 41], (some (39, false))⟩,
       ⟨(some 43), .plain (.len 0), [.tmp 42], (some (39, false))⟩,
       ⟨(some 44), .plain (.bin .sub), [.tmp 43, .lit (.int .i64 1)], (some (39, false))⟩,
       ⟨(some 45), .plain (.bin .eql), [.tmp 40, .tmp 44], (some (39, false))⟩,
       ⟨(some 46), .plain .pick, [.tmp 39, .lit (.bool true), .tmp 45], none⟩] [36, 37, 38, 39, 40, 41, 42, 43, 44, 45])
     (.cond (.tmp 46)
      (.ops [⟨(some 47), .plain .mv, [.tmp 4], none⟩,
        ⟨(some 48), .plain (.bin .add), [.tmp 47, .lit (.str ⟨#[10]⟩)], none⟩,
        ⟨(some 4), .plain .mv, [.tmp 48], none⟩] [47, 48])
      .skip)))))
    (.ops [⟨(some 21), .plain .mv, [.tmp 5], none⟩,
      ⟨(some 22), .plain (.bin .add), [.tmp 21, .lit (.int .i64 1)], none⟩,
      ⟨(some 5), .plain .mv, [.tmp 22], none⟩] [21, 22]))))))
  (.seq (.seq (.ops [⟨(some 6), .plain .mv, [.lit (.int .i64 0)], none⟩] [])
  (.block 2
   (.loop
    (.seq (.seq (.ops [⟨(some 49), .plain .mv, [.tmp 6], none⟩,
      ⟨(some 50), .plain (.fieldAddr 2), [.tmp 1], none⟩,
      ⟨(some 51), .plain (.load false 1), [.tmp 50], none⟩,
      ⟨(some 52), .plain (.len 1), [.tmp 51], none⟩,
      ⟨(some 53), .plain (.bin .lss), [.tmp 49, .tmp 52], none⟩] [49, 50, 51, 52])
    (.cond (.tmp 53)
     .skip
     (.exit 2)))
    (.seq (.block 3
     (.draw (.step ⟨(some 56), .plain .mv, [.tmp 4], none⟩
       (.step ⟨(some 57), .plain (.fieldAddr 2), [.tmp 1], none⟩
       (.step ⟨(some 58), .plain (.load false 1), [.tmp 57], none⟩
       (.step ⟨(some 59), .plain .mv, [.tmp 6], none⟩
       (.step ⟨(some 60), .plain (.indexAddr 2), [.tmp 58, .tmp 59], none⟩
       (.step ⟨(some 61), .plain (.fieldAddr 0), [.tmp 60], none⟩
       (.step ⟨(some 62), .plain (.load false 1), [.tmp 61], none⟩
       (.step ⟨(some 63), .plain (.bin .add), [.lit (.str ⟨#[68, 69, 70, 32]⟩), .tmp 62], none⟩
       (.step ⟨(some 64), .plain (.bin .add), [.tmp 63, .lit (.str ⟨#[32]⟩)], none⟩
       (.step ⟨(some 65), .plain (.fieldAddr 2), [.tmp 1], none⟩
       (.step ⟨(some 66), .plain (.load false 1), [.tmp 65], none⟩
       (.step ⟨(some 67), .plain .mv, [.tmp 6], none⟩
       (.step ⟨(some 68), .plain (.indexAddr 2), [.tmp 66, .tmp 67], none⟩
       (.step ⟨(some 69), .plain (.fieldAddr 1), [.tmp 68], none⟩
       (.step ⟨(some 70), .plain (.load false 1), [.tmp 69], none⟩
       (.step ⟨(some 71), .call 67, [.tmp 70], none⟩
       (.step ⟨(some 72), .plain (.bin .add), [.tmp 64, .tmp 71], none⟩
       (.step ⟨(some 73), .plain (.bin .add), [.tmp 72, .lit (.str ⟨#[10]⟩)], none⟩
       (.step ⟨(some 74), .plain (.bin .add), [.tmp 56, .tmp 73], none⟩
       (.step ⟨(some 4), .plain .mv, [.tmp 74], none⟩
       .done)))))))))))))))))))) [56, 57, 58, 59, 60, 61, 62, 63, 64, 65, 66, 67, 68, 69, 70, 71, 72, 73, 74]))
    (.ops [⟨(some 54), .plain .mv, [.tmp 6], none⟩,
      ⟨(some 55), .plain (.bin .add), [.tmp 54, .lit (.int .i64 1)], none⟩,
      ⟨(some 6), .plain .mv, [.tmp 55], none⟩] [54, 55]))))))
  (.seq (.seq (.ops [⟨(some 7), .plain .mv, [.lit (.int .i64 0)], none⟩] [])
  (.block 4
   (.loop
    (.seq (.seq (.ops [⟨(some 75), .plain .mv, [.tmp 7], none⟩,
      ⟨(some 76), .plain (.fieldAddr 3), [.tmp 1], none⟩,
      ⟨(some 77), .plain (.load false 1), [.tmp 76], none⟩,
      ⟨(some 78), .plain (.len 1), [.tmp 77], none⟩,
      ⟨(some 79), .plain (.bin .lss), [.tmp 75, .tmp 78], none⟩] [75, 76, 77, 78])
    (.cond (.tmp 79)
     .skip
     (.exit 4)))
    (.seq (.block 5
     (.draw (.step ⟨(some 82), .plain .mv, [.tmp 4], none⟩
       (.step ⟨(some 83), .plain (.fieldAddr 3), [.tmp 1], none⟩
       (.step ⟨(some 84), .plain (.load false 1), [.tmp 83], none⟩
       (.step ⟨(some 85), .plain .mv, [.tmp 7], none⟩
       (.step ⟨(some 86), .plain (.indexAddr 3), [.tmp 84, .tmp 85], none⟩
       (.step ⟨(some 87), .plain (.fieldAddr 0), [.tmp 86], none⟩
       (.step ⟨(some 88), .plain (.load false 1), [.tmp 87], none⟩
       (.step ⟨(some 89), .call 67, [.tmp 88], none⟩
       (.step ⟨(some 90), .plain (.bin .add), [.lit (.str ⟨#[82, 69, 70, 32]⟩), .tmp 89], none⟩
       (.step ⟨(some 91), .plain (.bin .add), [.tmp 90, .lit (.str ⟨#[32]⟩)], none⟩
       (.step ⟨(some 92), .plain (.fieldAddr 3), [.tmp 1], none⟩
       (.step ⟨(some 93), .plain (.load false 1), [.tmp 92], none⟩
       (.step ⟨(some 94), .plain .mv, [.tmp 7], none⟩
       (.step ⟨(some 95), .plain (.indexAddr 3), [.tmp 93, .tmp 94], none⟩
       (.step ⟨(some 96), .plain (.fieldAddr 1), [.tmp 95], none⟩
       (.step ⟨(some 97), .plain (.load false 1), [.tmp 96], none⟩
       (.step ⟨(some 98), .plain (.bin .add), [.tmp 91, .tmp 97], none⟩
       (.step ⟨(some 99), .plain (.bin .add), [.tmp 98, .lit (.str ⟨#[32]⟩)], none⟩
       (.step ⟨(some 100), .plain (.fieldAddr 3), [.tmp 1], none⟩
       (.step ⟨(some 101), .plain (.load false 1), [.tmp 100], none⟩
       (.step ⟨(some 102), .plain .mv, [.tmp 7], none⟩
       (.step ⟨(some 103), .plain (.indexAddr 3), [.tmp 101, .tmp 102], none⟩
       (.step ⟨(some 104), .plain (.fieldAddr 2), [.tmp 103], none⟩
       (.step ⟨(some 105), .plain (.load false 1), [.tmp 104], none⟩
       (.step ⟨(some 106), .call 67, [.tmp 105], none⟩
       (.step ⟨(some 107), .plain (.bin .add), [.tmp 99, .tmp 106], none⟩
       (.step ⟨(some 108), .plain (.bin .add), [.tmp 107, .lit (.str ⟨#[10]⟩)], none⟩
       (.step ⟨(some 109), .plain (.bin .add), [.tmp 82, .tmp 108], none⟩
       (.step ⟨(some 4), .plain .mv, [.tmp 109], none⟩
       .done))))))))))))))))))))))))))))) [82, 83, 84, 85, 86, 87, 88, 89, 90, 91, 92, 93, 94, 95, 96, 97, 98, 99, 100, 101, 102, 103, 104, 105, 106, 107, 108, 109]))
    (.ops [⟨(some 80), .plain .mv, [.tmp 7], none⟩,
      ⟨(some 81), .plain (.bin .add), [.tmp 80, .lit (.int .i64 1)], none⟩,
      ⟨(some 7), .plain .mv, [.tmp 81], none⟩] [80, 81]))))))
  (.seq (.seq (.ops [⟨(some 8), .plain .mv, [.lit (.int .i64 0)], none⟩] [])
  (.block 6
   (.loop
    (.seq (.seq (.ops [⟨(some 110), .plain .mv, [.tmp 8], none⟩,
      ⟨(some 111), .plain (.fieldAddr 4), [.tmp 1], none⟩,
      ⟨(some 112), .plain (.load false 1), [.tmp 111], none⟩,
      ⟨(some 113), .plain (.len 1), [.tmp 112], none⟩,
      ⟨(some 114), .plain (.bin .lss), [.tmp 110, .tmp 113], none⟩] [110, 111, 112, 113])
    (.cond (.tmp 114)
     .skip
     (.exit 6)))
    (.seq (.block 7
     (.draw (.step ⟨(some 117), .plain .mv, [.tmp 4], none⟩
       (.step ⟨(some 118), .plain (.fieldAddr 4), [.tmp 1], none⟩
       (.step ⟨(some 119), .plain (.load false 1), [.tmp 118], none⟩
       (.step ⟨(some 120), .plain .mv, [.tmp 8], none⟩
       (.step ⟨(some 121), .plain (.indexAddr 2), [.tmp 119, .tmp 120], none⟩
       (.step ⟨(some 122), .plain (.fieldAddr 0), [.tmp 121], none⟩
       (.step ⟨(some 123), .plain (.load false 1), [.tmp 122], none⟩
       (.step ⟨(some 124), .call 67, [.tmp 123], none⟩
       (.step ⟨(some 125), .plain (.bin .add), [.lit (.str ⟨#[76, 73, 78, 69, 32]⟩), .tmp 124], none⟩
       (.step ⟨(some 126), .plain (.bin .add), [.tmp 125, .lit (.str ⟨#[32]⟩)], none⟩
       (.step ⟨(some 127), .plain (.fieldAddr 4), [.tmp 1], none⟩
       (.step ⟨(some 128), .plain (.load false 1), [.tmp 127], none⟩
       (.step ⟨(some 129), .plain .mv, [.tmp 8], none⟩
       (.step ⟨(some 130), .plain (.indexAddr 2), [.tmp 128, .tmp 129], none⟩
       (.step ⟨(some 131), .plain (.fieldAddr 1), [.tmp 130], none⟩
       (.step ⟨(some 132), .plain (.load false 1), [.tmp 131], none⟩
       (.step ⟨(some 133), .call 67, [.tmp 132], none⟩
       (.step ⟨(some 134), .plain (.bin .add), [.tmp 126, .tmp 133], none⟩
       (.step ⟨(some 135), .plain (.bin .add), [.tmp 134, .lit (.str ⟨#[10]⟩)], none⟩
       (.step ⟨(some 136), .plain (.bin .add), [.tmp 117, .tmp 135], none⟩
       (.step ⟨(some 4), .plain .mv, [.tmp 136], none⟩
       .done))))))))))))))))))))) [117, 118, 119, 120, 121, 122, 123, 124, 125, 126, 127, 128, 129, 130, 131, 132, 133, 134, 135, 136]))
    (.ops [⟨(some 115), .plain .mv, [.tmp 8], none⟩,
      ⟨(some 116), .plain (.bin .add), [.tmp 115, .lit (.int .i64 1)], none⟩,
      ⟨(some 8), .plain .mv, [.tmp 116], none⟩] [115, 116]))))))
  (.seq (.ops [⟨(some 137), .plain .mv, [.tmp 4], none⟩,
    ⟨(some 138), .plain (.bin .add), [.tmp 137, .lit (.str ⟨#[69, 78, 68, 10]⟩)], none⟩,
    ⟨(some 4), .plain .mv, [.tmp 138], none⟩] [137, 138])
  (.seq (.seq (.ops [⟨(some 139), .plain .mv, [.tmp 4], none⟩,
    ⟨(some 140), .plain (.len 0), [.tmp 139], none⟩,
    ⟨(some 141), .plain (.bin .gtr), [.tmp 140, .lit (.int .i64 200000)], none⟩] [139, 140])
  (.cond (.tmp 141)
   (.seq (.ops [⟨(some 2), .plain .mv, [.lit (.str ⟨#[]⟩)], none⟩,
     ⟨(some 3), .plain .mv, [.lit (.int .i64 3)], none⟩] [])
   .ret)
   .skip))
  (.seq (.ops [⟨(some 142), .plain .mv, [.tmp 4], none⟩,
    ⟨(some 2), .plain .mv, [.tmp 142], none⟩,
    ⟨(some 3), .plain .mv, [.lit (.int .i64 0)], none⟩] [142])
  .ret))))))))))
def cr20 : List Res := [(2, none), (3, none)]
theorem ok20 : FOk Zk.pg.toProgram Zk.imp 20 c20 cr20 Tryz.f20.ntmps := ⟨Tryz.f20, _, Tryz.func20, rfl, by kernel_rfl, by kernel_rfl, by kernel_rfl, rfl⟩

/-- ironbark/link.hexed -/
def c62 : SC :=
  (.seq (.ops [⟨(some 4), .plain .mv, [.lit (.str ⟨#[]⟩)], none⟩] [])
  (.seq (.ops [⟨(some 7), .plain .mv, [.tmp 1], none⟩,
    ⟨(some 8), .plain (.mkRow 5 [(.int .u8 0)] 1), [.tmp 7, .tmp 7], none⟩,
    ⟨(some 5), .plain .mv, [.tmp 8], none⟩] [7, 8])
  (.seq (.seq (.ops [⟨(some 9), .plain .mv, [.tmp 5], none⟩,
    ⟨(some 10), .plain (.len 1), [.tmp 9], none⟩,
    ⟨(some 11), .plain .mv, [.lit (.int .i64 0)], none⟩] [9])
  (.block 0
   (.loop
    (.seq (.ops [⟨(some 12), .plain (.bin .lss), [.tmp 11, .tmp 10], none⟩] [])
    (.seq (.cond (.tmp 12)
     .skip
     (.exit 0))
    (.seq (.block 1
     (.seq (.ops [⟨(some 13), .plain .mv, [.tmp 11], none⟩,
       ⟨(some 6), .plain .mv, [.tmp 13], none⟩] [13])
     (.ops [⟨(some 14), .plain .mv, [.tmp 5], none⟩,
       ⟨(some 15), .plain .mv, [.tmp 1], none⟩,
       ⟨(some 16), .plain (.bin .sub), [.tmp 15, .lit (.int .i64 1)], none⟩,
       ⟨(some 17), .plain .mv, [.tmp 6], none⟩,
       ⟨(some 18), .plain (.bin .sub), [.tmp 16, .tmp 17], none⟩,
       ⟨(some 19), .plain .mv, [.tmp 0], none⟩,
       ⟨(some 20), .plain .mv, [.tmp 6], none⟩,
       ⟨(some 21), .plain (.bin .mul), [.lit (.int .i64 4), .tmp 20], none⟩,
       ⟨(some 22), .plain (.bin .shr), [.tmp 19, .tmp 21], none⟩,
       ⟨(some 23), .plain (.bin .and), [.tmp 22, .lit (.int .i64 15)], none⟩,
       ⟨(some 24), .plain .index, [.lit (.str ⟨#[48, 49, 50, 51, 52, 53, 54, 55, 56, 57, 65, 66, 67, 68, 69, 70]⟩), .tmp 23], none⟩,
       ⟨(some 25), .plain (.indexAddr 1), [.tmp 14, .tmp 18], none⟩,
       ⟨none, .plain (.store 1), [.tmp 25, .tmp 24], none⟩] [14, 15, 16, 17, 18, 19, 20, 21, 22, 23, 24, 25])))
    (.ops [⟨(some 26), .plain (.bin .add), [.tmp 11, .lit (.int .i64 1)], none⟩,
      ⟨(some 11), .plain .mv, [.tmp 26], none⟩] [26])))))))
  (.seq (.ops [⟨(some 27), .plain .mv, [.tmp 5], none⟩,
    ⟨(some 28), .plain .bytesToStr, [.tmp 27], none⟩,
    ⟨(some 4), .plain .mv, [.tmp 28], none⟩] [27, 28])
  .ret))))
def cr62 : List Res := [(4, none)]
theorem ok62 : FOk Zk.pg.toProgram Zk.imp 62 c62 cr62 Tryz.f62.ntmps := ⟨Tryz.f62, _, Tryz.func62, rfl, by kernel_rfl, by kernel_rfl, by kernel_rfl, rfl⟩

/-- ironbark/ironbarkref34.hex -/
def c66 : SC :=
  (.seq (.ops [⟨(some 4), .plain .mv, [.lit (.str ⟨#[]⟩)], none⟩] [])
  (.seq (.ops [⟨(some 5), .plain .mv, [.lit (.str ⟨#[]⟩)], none⟩] [])
  (.seq (.seq (.ops [⟨(some 6), .plain .mv, [.lit (.int .i64 0)], none⟩] [])
  (.block 0
   (.loop
    (.seq (.seq (.ops [⟨(some 7), .plain .mv, [.tmp 6], none⟩,
      ⟨(some 8), .plain .mv, [.tmp 1], none⟩,
      ⟨(some 9), .plain (.bin .lss), [.tmp 7, .tmp 8], none⟩] [7, 8])
    (.cond (.tmp 9)
     .skip
     (.exit 0)))
    (.seq (.block 1
     (.seq (.ops [⟨(some 12), .plain .mv, [.tmp 0], none⟩,
       ⟨(some 13), .plain (.bin .rem), [.tmp 12, .lit (.int .i64 16)], none⟩,
       ⟨(some 14), .plain .mv, [.tmp 0], none⟩,
       ⟨(some 15), .plain (.bin .rem), [.tmp 14, .lit (.int .i64 16)], none⟩,
       ⟨(some 16), .plain (.bin .add), [.tmp 15, .lit (.int .i64 1)], none⟩,
       ⟨(some 17), .plain (.slice true true 0), [.lit (.str ⟨#[48, 49, 50, 51, 52, 53, 54, 55, 56, 57, 65, 66, 67, 68, 69, 70]⟩), .tmp 13, .tmp 16], none⟩,
       ⟨(some 18), .plain .mv, [.tmp 5], none⟩,
       ⟨(some 19), .plain (.bin .add), [.tmp 17, .tmp 18], none⟩,
       ⟨(some 5), .plain .mv, [.tmp 19], none⟩] [12, 13, 14, 15, 16, 17, 18, 19])
     (.ops [⟨(some 20), .plain .mv, [.tmp 0], none⟩,
       ⟨(some 21), .plain (.bin .quo), [.tmp 20, .lit (.int .i64 16)], none⟩,
       ⟨(some 0), .plain .mv, [.tmp 21], none⟩] [20, 21])))
    (.ops [⟨(some 10), .plain .mv, [.tmp 6], none⟩,
      ⟨(some 11), .plain (.bin .add), [.tmp 10, .lit (.int .i64 1)], none⟩,
      ⟨(some 6), .plain .mv, [.tmp 11], none⟩] [10, 11]))))))
  (.seq (.ops [⟨(some 22), .plain .mv, [.tmp 5], none⟩,
    ⟨(some 4), .plain .mv, [.tmp 22], none⟩] [22])
  .ret))))
def cr66 : List Res := [(4, none)]
theorem ok66 : FOk Zk.pg.toProgram Zk.imp 66 c66 cr66 Tryz.f66.ntmps := ⟨Tryz.f66, _, Tryz.func66, rfl, by kernel_rfl, by kernel_rfl, by kernel_rfl, rfl⟩

/-- ironbark/ironbarkref34.Decimal -/
def c67 : SC :=
  (.seq (.ops [⟨(some 2), .plain .mv, [.lit (.str ⟨#[]⟩)], none⟩] [])
  (.seq (.seq (.ops [⟨(some 3), .plain .mv, [.tmp 0], none⟩,
    ⟨(some 4), .plain (.bin .lss), [.tmp 3, .lit (.int .i64 0)], none⟩] [3])
  (.cond (.tmp 4)
   (.seq (.ops [⟨(some 5), .plain .mv, [.tmp 0], none⟩,
     ⟨(some 6), .plain (.un .neg), [.tmp 5], none⟩,
     ⟨(some 7), .call 67, [.tmp 6], none⟩,
     ⟨(some 8), .plain (.bin .add), [.lit (.str ⟨#[45]⟩), .tmp 7], none⟩,
     ⟨(some 2), .plain .mv, [.tmp 8], none⟩] [5, 6, 7, 8])
   .ret)
   .skip))
  (.seq (.seq (.ops [⟨(some 9), .plain .mv, [.tmp 0], none⟩,
    ⟨(some 10), .plain (.bin .lss), [.tmp 9, .lit (.int .i64 10)], none⟩] [9])
  (.cond (.tmp 10)
   (.seq (.ops [⟨(some 11), .plain .mv, [.tmp 0], none⟩,
     ⟨(some 12), .plain (.bin .add), [.lit (.int .i64 48), .tmp 11], none⟩,
     ⟨(some 13), .plain (.convInt .u8), [.tmp 12], none⟩,
     ⟨(some 14), .plain (.buildRow 5 1 1 [(.int .u8 0)] [0]), [.tmp 13], none⟩,
     ⟨(some 15), .plain .bytesToStr, [.tmp 14], none⟩,
     ⟨(some 2), .plain .mv, [.tmp 15], none⟩] [11, 12, 13, 14, 15])
   .ret)
   .skip))
  (.seq (.draw (.step ⟨(some 16), .plain .mv, [.tmp 0], none⟩
    (.step ⟨(some 17), .plain (.bin .quo), [.tmp 16, .lit (.int .i64 10)], none⟩
    (.step ⟨(some 18), .call 67, [.tmp 17], none⟩
    (.step ⟨(some 19), .plain .mv, [.tmp 0], none⟩
    (.step ⟨(some 20), .plain (.bin .rem), [.tmp 19, .lit (.int .i64 10)], none⟩
    (.step ⟨(some 21), .plain (.bin .add), [.lit (.int .i64 48), .tmp 20], none⟩
    (.step ⟨(some 22), .plain (.convInt .u8), [.tmp 21], none⟩
    (.step ⟨(some 23), .plain (.buildRow 5 1 1 [(.int .u8 0)] [0]), [.tmp 22], none⟩
    (.step ⟨(some 24), .plain .bytesToStr, [.tmp 23], none⟩
    (.step ⟨(some 25), .plain (.bin .add), [.tmp 18, .tmp 24], none⟩
    (.step ⟨(some 2), .plain .mv, [.tmp 25], none⟩
    .done))))))))))) [16, 17, 18, 19, 20, 21, 22, 23, 24, 25])
  .ret))))
def cr67 : List Res := [(2, none)]
theorem ok67 : FOk Zk.pg.toProgram Zk.imp 67 c67 cr67 Tryz.f67.ntmps := ⟨Tryz.f67, _, Tryz.func67, rfl, by kernel_rfl, by kernel_rfl, by kernel_rfl, rfl⟩

/-- (*strings.Builder).WriteString -/
def c60 : SC :=
  (.seq (.ops [⟨(some 4), .plain .mv, [.lit (.int .i64 0)], none⟩,
    ⟨(some 5), .plain .mv, [.lit (.const .nilIface)], none⟩] [])
  (.seq (.ops [⟨(some 6), .plain .mv, [.tmp 0], none⟩,
    ⟨(some 7), .call 109, [.tmp 6], none⟩] [6, 7])
  (.seq (.ops [⟨(some 8), .plain .mv, [.tmp 0], none⟩,
    ⟨(some 9), .plain .mv, [.tmp 0], none⟩,
    ⟨(some 10), .plain .nilCheck, [.tmp 9], none⟩,
    ⟨(some 11), .plain (.fieldAddr 1), [.tmp 10], none⟩,
    ⟨(some 12), .plain (.load false 1), [.tmp 11], none⟩,
    ⟨(some 13), .plain .mv, [.tmp 1], none⟩,
    ⟨(some 14), .plain (.appendS 5 1), [.tmp 12, .tmp 13], none⟩,
    ⟨(some 15), .plain .nilCheck, [.tmp 8], none⟩,
    ⟨(some 16), .plain (.fieldAddr 1), [.tmp 15], none⟩,
    ⟨none, .plain (.store 1), [.tmp 16, .tmp 14], none⟩] [8, 9, 10, 11, 12, 13, 14, 15, 16])
  (.seq (.ops [⟨(some 17), .plain .mv, [.tmp 1], none⟩,
    ⟨(some 18), .plain (.len 0), [.tmp 17], none⟩,
    ⟨(some 4), .plain .mv, [.tmp 18], none⟩,
    ⟨(some 5), .plain .mv, [.lit (.const .nilIface)], none⟩] [17, 18])
  .ret))))
def cr60 : List Res := [(4, none), (5, none)]
theorem ok60 : FOk Zk.pg.toProgram Zk.imp 60 c60 cr60 Tryz.f60.ntmps := ⟨Tryz.f60, _, Tryz.func60, rfl, by kernel_rfl, by kernel_rfl, by kernel_rfl, rfl⟩

/-- (*strings.Builder).Len -/
def c64 : SC :=
  (.seq (.ops [⟨(some 2), .plain .mv, [.lit (.int .i64 0)], none⟩] [])
  (.seq (.ops [⟨(some 3), .plain .mv, [.tmp 0], none⟩,
    ⟨(some 4), .plain .nilCheck, [.tmp 3], none⟩,
    ⟨(some 5), .plain (.fieldAddr 1), [.tmp 4], none⟩,
    ⟨(some 6), .plain (.load false 1), [.tmp 5], none⟩,
    ⟨(some 7), .plain (.len 1), [.tmp 6], none⟩,
    ⟨(some 2), .plain .mv, [.tmp 7], none⟩] [3, 4, 5, 6, 7])
  .ret))
def cr64 : List Res := [(2, none)]
theorem ok64 : FOk Zk.pg.toProgram Zk.imp 64 c64 cr64 Tryz.f64.ntmps := ⟨Tryz.f64, _, Tryz.func64, rfl, by kernel_rfl, by kernel_rfl, by kernel_rfl, rfl⟩

end Go.Pm

/- ZkS1: code, resolved. Written by gen.py out of what ShowSC.lean printed. -/
namespace Go.Pm
open Go Go.Proofs

/-- ironbark/ironbarkref34.Name -/
def c85 : SC :=
  (.seq (.ops [⟨(some 2), .plain .mv, [.lit (.bool false)], none⟩] [])
  (.seq (.seq (.ops [⟨(some 3), .plain .mv, [.lit (.int .i64 0)], none⟩] [])
  (.block 0
   (.loop
    (.seq (.seq (.ops [⟨(some 4), .plain .mv, [.tmp 3], none⟩,
      ⟨(some 5), .plain .mv, [.tmp 0], none⟩,
      ⟨(some 6), .plain (.len 0), [.tmp 5], none⟩,
      ⟨(some 7), .plain (.bin .lss), [.tmp 4, .tmp 6], none⟩] [4, 5, 6])
    (.cond (.tmp 7)
     .skip
     (.exit 0)))
    (.seq (.block 1
     (.seq (.ops [⟨(some 10), .plain .mv, [.tmp 0], none⟩,
       ⟨(some 11), .plain .mv, [.tmp 3], none⟩,
       ⟨(some 12), .plain .index, [.tmp 10, .tmp 11], none⟩,
       ⟨(some 13), .plain (.bin .lss), [.tmp 12, .lit (.int .u8 33)], none⟩,
       ⟨(some 14), .plain .mv, [.tmp 13], none⟩,
       ⟨(some 15), .plain .mv, [.tmp 0], (some (14, false))⟩,
       ⟨(some 16), .plain .mv, [.tmp 3], (some (14, false))⟩,
       ⟨(some 17), .plain .index, [.tmp 15, .tmp 16], (some (14, false))⟩,
       ⟨(some 18), .plain (.bin .gtr), [.tmp 17, .lit (.int .u8 126)], (some (14, false))⟩,
       ⟨(some 19), .plain .pick, [.tmp 14, .lit (.bool true), .tmp 18], none⟩] [10, 11, 12, 13, 14, 15, 16, 17, 18])
     (.cond (.tmp 19)
      (.seq (.ops [⟨(some 2), .plain .mv, [.lit (.bool false)], none⟩] [])
      .ret)
      .skip)))
    (.ops [⟨(some 8), .plain .mv, [.tmp 3], none⟩,
      ⟨(some 9), .plain (.bin .add), [.tmp 8, .lit (.int .i64 1)], none⟩,
      ⟨(some 3), .plain .mv, [.tmp 9], none⟩] [8, 9]))))))
  (.seq (.ops [⟨(some 20), .plain .mv, [.tmp 0], none⟩,
    ⟨(some 21), .plain (.len 0), [.tmp 20], none⟩,
    ⟨(some 22), .plain (.bin .geq), [.tmp 21, .lit (.int .i64 1)], none⟩,
    ⟨(some 23), .plain .mv, [.tmp 22], none⟩,
    ⟨(some 24), .plain .mv, [.tmp 0], (some (23, true))⟩,
    ⟨(some 25), .plain (.len 0), [.tmp 24], (some (23, true))⟩,
    ⟨(some 26), .plain (.bin .leq), [.tmp 25, .lit (.int .i64 31)], (some (23, true))⟩,
    ⟨(some 27), .plain .pick, [.tmp 23, .tmp 26, .lit (.bool false)], none⟩,
    ⟨(some 2), .plain .mv, [.tmp 27], none⟩] [20, 21, 22, 23, 24, 25, 26, 27])
  .ret)))
def cr85 : List Res := [(2, none)]
theorem ok85 : FOk Zk.pg.toProgram Zk.imp 85 c85 cr85 Tryz.f85.ntmps := ⟨Tryz.f85, _, Tryz.func85, rfl, by kernel_rfl, by kernel_rfl, by kernel_rfl, rfl⟩

/-- ironbark/ironbarkref34.within -/
def c86 : SC :=
  (.seq (.ops [⟨(some 6), .plain .mv, [.lit (.bool false)], none⟩] [])
  (.seq (.ops [⟨(some 7), .plain .mv, [.tmp 0], none⟩,
    ⟨(some 8), .plain .mv, [.tmp 1], none⟩,
    ⟨(some 9), .plain (.bin .geq), [.tmp 7, .tmp 8], none⟩,
    ⟨(some 10), .plain .mv, [.tmp 9], none⟩,
    ⟨(some 11), .plain .mv, [.tmp 0], (some (10, true))⟩,
    ⟨(some 12), .plain .mv, [.tmp 2], (some (10, true))⟩,
    ⟨(some 13), .plain (.bin .leq), [.tmp 11, .tmp 12], (some (10, true))⟩,
    ⟨(some 14), .plain .pick, [.tmp 10, .tmp 13, .lit (.bool false)], none⟩,
    ⟨(some 6), .plain .mv, [.tmp 14], none⟩] [7, 8, 9, 10, 11, 12, 13, 14])
  .ret))
def cr86 : List Res := [(6, none)]
theorem ok86 : FOk Zk.pg.toProgram Zk.imp 86 c86 cr86 Tryz.f86.ntmps := ⟨Tryz.f86, _, Tryz.func86, rfl, by kernel_rfl, by kernel_rfl, by kernel_rfl, rfl⟩

/-- ironbark/link.up -/
def c93 : SC :=
  (.seq (.ops [⟨(some 2), .plain .mv, [.lit (.int .i64 0)], none⟩] [])
  (.seq (.ops [⟨(some 3), .plain .mv, [.tmp 0], none⟩,
    ⟨(some 4), .plain (.bin .add), [.tmp 3, .lit (.int .i64 8)], none⟩,
    ⟨(some 5), .plain (.bin .sub), [.tmp 4, .lit (.int .i64 1)], none⟩,
    ⟨(some 6), .plain (.bin .quo), [.tmp 5, .lit (.int .i64 8)], none⟩,
    ⟨(some 7), .plain (.bin .mul), [.tmp 6, .lit (.int .i64 8)], none⟩,
    ⟨(some 2), .plain .mv, [.tmp 7], none⟩] [3, 4, 5, 6, 7])
  .ret))
def cr93 : List Res := [(2, none)]
theorem ok93 : FOk Zk.pg.toProgram Zk.imp 93 c93 cr93 Tryz.f93.ntmps := ⟨Tryz.f93, _, Tryz.func93, rfl, by kernel_rfl, by kernel_rfl, by kernel_rfl, rfl⟩

/-- ironbark/ironbarkref34.baseOK -/
def c89 : SC :=
  (.seq (.ops [⟨(some 2), .plain .mv, [.lit (.bool false)], none⟩] [])
  (.seq (.ops [⟨(some 3), .plain .mv, [.tmp 0], none⟩,
    ⟨(some 4), .call 86, [.tmp 3, .lit (.int .i64 0), .lit (.int .i64 65528)], none⟩,
    ⟨(some 5), .plain .mv, [.tmp 4], none⟩,
    ⟨(some 6), .plain .mv, [.tmp 0], (some (5, true))⟩,
    ⟨(some 7), .plain (.bin .rem), [.tmp 6, .lit (.int .i64 8)], (some (5, true))⟩,
    ⟨(some 8), .plain (.bin .eql), [.tmp 7, .lit (.int .i64 0)], (some (5, true))⟩,
    ⟨(some 9), .plain .pick, [.tmp 5, .tmp 8, .lit (.bool false)], none⟩,
    ⟨(some 2), .plain .mv, [.tmp 9], none⟩] [3, 4, 5, 6, 7, 8, 9])
  .ret))
def cr89 : List Res := [(2, none)]
theorem ok89 : FOk Zk.pg.toProgram Zk.imp 89 c89 cr89 Tryz.f89.ntmps := ⟨Tryz.f89, _, Tryz.func89, rfl, by kernel_rfl, by kernel_rfl, by kernel_rfl, rfl⟩

/-- ironbark/link.based -/
def c68 : SC :=
  (.seq (.ops [⟨(some 2), .plain .mv, [.lit (.bool false)], none⟩] [])
  (.seq (.ops [⟨(some 3), .plain .mv, [.tmp 0], none⟩,
    ⟨(some 4), .plain (.bin .geq), [.tmp 3, .lit (.int .i64 0)], none⟩,
    ⟨(some 5), .plain .mv, [.tmp 4], none⟩,
    ⟨(some 6), .plain .mv, [.tmp 0], (some (5, true))⟩,
    ⟨(some 7), .plain (.bin .lss), [.tmp 6, .lit (.int .i64 65536)], (some (5, true))⟩,
    ⟨(some 8), .plain .pick, [.tmp 5, .tmp 7, .lit (.bool false)], none⟩,
    ⟨(some 9), .plain .mv, [.tmp 8], none⟩,
    ⟨(some 10), .plain .mv, [.tmp 0], (some (9, true))⟩,
    ⟨(some 11), .plain (.bin .rem), [.tmp 10, .lit (.int .i64 8)], (some (9, true))⟩,
    ⟨(some 12), .plain (.bin .eql), [.tmp 11, .lit (.int .i64 0)], (some (9, true))⟩,
    ⟨(some 13), .plain .pick, [.tmp 9, .tmp 12, .lit (.bool false)], none⟩,
    ⟨(some 2), .plain .mv, [.tmp 13], none⟩] [3, 4, 5, 6, 7, 8, 9, 10, 11, 12, 13])
  .ret))
def cr68 : List Res := [(2, none)]
theorem ok68 : FOk Zk.pg.toProgram Zk.imp 68 c68 cr68 Tryz.f68.ntmps := ⟨Tryz.f68, _, Tryz.func68, rfl, by kernel_rfl, by kernel_rfl, by kernel_rfl, rfl⟩

/-- ironbark/link.named -/
def c80 : SC :=
  (.seq (.ops [⟨(some 2), .plain .mv, [.lit (.bool false)], none⟩] [])
  (.seq (.seq (.ops [⟨(some 4), .plain .mv, [.tmp 0], none⟩,
    ⟨(some 5), .plain (.len 0), [.tmp 4], none⟩,
    ⟨(some 6), .plain .mv, [.lit (.int .i64 0)], none⟩] [4])
  (.block 0
   (.loop
    (.seq (.ops [⟨(some 7), .plain (.bin .lss), [.tmp 6, .tmp 5], none⟩] [])
    (.seq (.cond (.tmp 7)
     .skip
     (.exit 0))
    (.seq (.block 1
     (.seq (.ops [⟨(some 8), .plain .mv, [.tmp 6], none⟩,
       ⟨(some 3), .plain .mv, [.tmp 8], none⟩] [8])
     (.seq (.ops [⟨(some 9), .plain .mv, [.tmp 0], none⟩,
       ⟨(some 10), .plain .mv, [.tmp 3], none⟩,
       ⟨(some 11), .plain .index, [.tmp 9, .tmp 10], none⟩,
       ⟨(some 12), .plain (.bin .lss), [.tmp 11, .lit (.int .u8 33)], none⟩,
       ⟨(some 13), .plain .mv, [.tmp 12], none⟩,
       ⟨(some 14), .plain .mv, [.tmp 0], (some (13, false))⟩,
       ⟨(some 15), .plain .mv, [.tmp 3], (some (13, false))⟩,
       ⟨(some 16), .plain .index, [.tmp 14, .tmp 15], (some (13, false))⟩,
       ⟨(some 17), .plain (.bin .gtr), [.tmp 16, .lit (.int .u8 126)], (some (13, false))⟩,
       ⟨(some 18), .plain .pick, [.tmp 13, .lit (.bool true), .tmp 17], none⟩] [9, 10, 11, 12, 13, 14, 15, 16, 17])
     (.cond (.tmp 18)
      (.seq (.ops [⟨(some 2), .plain .mv, [.lit (.bool false)], none⟩] [])
      .ret)
      .skip))))
    (.ops [⟨(some 19), .plain (.bin .add), [.tmp 6, .lit (.int .i64 1)], none⟩,
      ⟨(some 6), .plain .mv, [.tmp 19], none⟩] [19])))))))
  (.seq (.ops [⟨(some 20), .plain .mv, [.tmp 0], none⟩,
    ⟨(some 21), .plain (.bin .neq), [.tmp 20, .lit (.str ⟨#[]⟩)], none⟩,
    ⟨(some 22), .plain .mv, [.tmp 21], none⟩,
    ⟨(some 23), .plain .mv, [.tmp 0], (some (22, true))⟩,
    ⟨(some 24), .plain (.len 0), [.tmp 23], (some (22, true))⟩,
    ⟨(some 25), .plain (.bin .leq), [.tmp 24, .lit (.int .i64 31)], (some (22, true))⟩,
    ⟨(some 26), .plain .pick, [.tmp 22, .tmp 25, .lit (.bool false)], none⟩,
    ⟨(some 2), .plain .mv, [.tmp 26], none⟩] [20, 21, 22, 23, 24, 25, 26])
  .ret)))
def cr80 : List Res := [(2, none)]
theorem ok80 : FOk Zk.pg.toProgram Zk.imp 80 c80 cr80 Tryz.f80.ntmps := ⟨Tryz.f80, _, Tryz.func80, rfl, by kernel_rfl, by kernel_rfl, by kernel_rfl, rfl⟩

/-- ironbark/ironbarkref34.four -/
def c131 : SC :=
  (.seq (.ops [⟨(some 2), .plain .mv, [.lit (.str ⟨#[]⟩)], none⟩] [])
  (.seq (.ops [⟨(some 3), .plain .mv, [.tmp 0], none⟩,
    ⟨(some 4), .plain (.bin .shr), [.tmp 3, .lit (.int .u64 24)], none⟩,
    ⟨(some 5), .plain (.convInt .u8), [.tmp 4], none⟩,
    ⟨(some 6), .plain .mv, [.tmp 0], none⟩,
    ⟨(some 7), .plain (.bin .shr), [.tmp 6, .lit (.int .u64 16)], none⟩,
    ⟨(some 8), .plain (.convInt .u8), [.tmp 7], none⟩,
    ⟨(some 9), .plain .mv, [.tmp 0], none⟩,
    ⟨(some 10), .plain (.bin .shr), [.tmp 9, .lit (.int .u64 8)], none⟩,
    ⟨(some 11), .plain (.convInt .u8), [.tmp 10], none⟩,
    ⟨(some 12), .plain .mv, [.tmp 0], none⟩,
    ⟨(some 13), .plain (.convInt .u8), [.tmp 12], none⟩,
    ⟨(some 14), .plain (.buildRow 5 1 4 [(.int .u8 0)] [0, 1, 2, 3]), [.tmp 5, .tmp 8, .tmp 11, .tmp 13], none⟩,
    ⟨(some 15), .plain .bytesToStr, [.tmp 14], none⟩,
    ⟨(some 2), .plain .mv, [.tmp 15], none⟩] [3, 4, 5, 6, 7, 8, 9, 10, 11, 12, 13, 14, 15])
  .ret))
def cr131 : List Res := [(2, none)]
theorem ok131 : FOk Zk.pg.toProgram Zk.imp 131 c131 cr131 Tryz.f131.ntmps := ⟨Tryz.f131, _, Tryz.func131, rfl, by kernel_rfl, by kernel_rfl, by kernel_rfl, rfl⟩

end Go.Pm

/- ZkC1: contracts: names. -/
namespace Go.Pm
open Go Go.Proofs

def chOk (b : UInt8) : Bool := !ltI b.toNat 33 && !ltI 126 b.toNat
def nameOk (s : ByteArray) : Bool := s.data.toList.all chOk && leI 1 s.size && leI s.size 31

theorem all_bytes (s : ByteArray) : s.data.toList.all chOk = true ↔ ∀ j, j < s.size → chOk (byteAt s j) = true := by
  rw [List.all_eq_true]
  constructor
  · intro h j hj
    have hj' : j < s.data.toList.length := hj
    apply h
    unfold byteAt
    rw [List.getD_eq_getElem?_getD, List.getElem?_eq_getElem hj', Option.getD_some]
    exact List.getElem_mem hj'
  · intro h b hb
    obtain ⟨j, hj, rfl⟩ := List.mem_iff_getElem.1 hb
    have := h j hj
    unfold byteAt at this
    rwa [List.getD_eq_getElem?_getD, List.getElem?_eq_getElem hj, Option.getD_some] at this

theorem call85 (s : ByteArray) (hs : s.size ≤ 1048576) : PCalls Zk.pg 85 [.str s] fun out => out = .ret (.bool (nameOk s)) := by
  refine ok85.pcalls (by simp) ?_
  simp [c85]
  refine wpS_loop (ι := Nat) (fun i => [(0, .str s), (2, .bool false), (3, .int .i64 i)]) (fun _ => Mem.empty) (fun i => s.size - i) (fun i => i ≤ s.size ∧ ∀ j, j < i → chOk (byteAt s j) = true) 0 (by simp) (Env.le_of (by simp)) rfl ?_
  intro i ⟨hi, hall⟩
  have hw : IntKind.i64.wrap (i + 1) = i + 1 := wrap64 (by omega) (by omega)
  have bad : ltI ↑i ↑s.size = true → chOk (byteAt s i) = false → nameOk s = false := fun h1 h2 => by
    cases hn : nameOk s with
    | false => rfl
    | true =>
      simp only [nameOk, Bool.and_eq_true] at hn
      have := (all_bytes s).1 hn.1.1 i (by have := ltI_t.1 h1; omega)
      rw [h2] at this; cases this
  simp
  refine br_cond rfl (fun h => ?_) (fun h => ?_)
  · simp [h, idxS]
    have next : chOk (byteAt s i) = true → ∃ s', (s' ≤ s.size ∧ ∀ (j : Nat), j < s' → chOk (byteAt s j) = true) ∧ s.size - s' < s.size - i ∧ Env.le [(0, AV.str s), (2, AV.bool false), (3, AV.int IntKind.i64 ↑s')] [(0, AV.str s), (2, AV.bool false), (3, AV.int IntKind.i64 (↑i + 1)), (7, AV.bool true), (19, AV.bool false)] ∧ Mem.le { store := [], next := 0 } { store := [], next := 0 } := fun hc => by
      have := ltI_t.1 h
      refine ⟨i + 1, ⟨by omega, fun j hj => ?_⟩, by omega, Env.le_of (by simp), Mem.le_of rfl (by simp)⟩
      rcases Nat.lt_or_ge j i with hj' | hj'
      · exact hall j hj'
      · rw [show j = i by omega]; exact hc
    refine br_guard_f rfl (fun h1 => ?_) (fun h1 => ?_)
    · simp [h1, cr85, bad h (by simp [chOk, h1])]
    · simp [h1, h, idxS]
      refine br_cond rfl (fun h2 => ?_) (fun h2 => ?_)
      · simp [cr85, bad h (by simp [chOk, h2])]
      · simp [h2, hw]
        exact next (by simp [chOk, h1, h2])
  · simp [h]
    have hi' : i = s.size := by have := ltI_f.1 h; omega
    have hA : s.data.toList.all chOk = true := (all_bytes s).2 fun j hj => hall j (by omega)
    refine br_guard_t rfl (fun h1 => ?_) (fun h1 => ?_)
    · simp [h1, cr85, nameOk, hA]
    · simp [h1, cr85, nameOk, hA]
end Go.Pm

/- ZkC2: contracts: numbers. -/
namespace Go.Pm
open Go Go.Proofs

def withinF (n a b : Int) : Bool := leI a n && leI n b

theorem call86 (n a b : Int) : PCalls Zk.pg 86 [.int .i64 n, .int .i64 a, .int .i64 b] fun out => out = .ret (.bool (withinF n a b)) := by
  refine ok86.pcalls (by simp) ?_
  simp [c86]
  refine br_guard_t rfl (fun h1 => ?_) (fun h1 => ?_)
  · simp [h1, cr86, withinF]
  · simp [h1, cr86, withinF]

theorem call93 (n : Int) (h0 : 0 ≤ n) (h1 : n ≤ 1000000000000) : PCalls Zk.pg 93 [.int .i64 n] fun out => out = .ret (.int .i64 ((n + 7) / 8 * 8)) := by
  refine ok93.pcalls (by simp) ?_
  have hd : (n + 7).tdiv 8 = (n + 7) / 8 := Int.tdiv_eq_ediv_of_nonneg (by omega)
  simp [c93, cr93]
  rw [wrap64 (n := n + 8) (by omega) (by omega), wrap64 (n := n + 8 - 1) (by omega) (by omega), show n + 8 - 1 = n + 7 by omega, hd, wrap64 (n := (n + 7) / 8) (by omega) (by omega), wrap64 (by omega) (by omega)]

def baseF (n : Int) : Bool := withinF n 0 65528 && eqI (n.tmod 8) 0

theorem call89 (n : Int) : PCalls Zk.pg 89 [.int .i64 n] fun out => out = .ret (.bool (baseF n)) := by
  refine ok89.pcalls (by simp) ?_
  simp [c89]
  refine xcall_p (call86 n 0 65528) rfl ?_
  simp
  refine br_guard_t rfl (fun h1 => ?_) (fun h1 => ?_)
  · simp [h1, cr89, baseF]
  · simp [h1, cr89, baseF]

theorem call68 (n : Int) : PCalls Zk.pg 68 [.int .i64 n] fun out => out = .ret (.bool (baseF n)) := by
  have e : baseF n = (leI 0 n && ltI n 65536 && eqI (n.tmod 8) 0) := by
    simp only [baseF, withinF]
    cases h : leI 0 n with
    | false => rfl
    | true =>
      cases h8 : eqI (n.tmod 8) 0 with
      | false => simp
      | true =>
        have h0 := leI_t.1 h
        have h8' := eqI_t.1 h8
        rw [Int.tmod_eq_emod_of_nonneg h0] at h8'
        have : leI n 65528 = ltI n 65536 := by
          simp only [leI, ltI, decide_eq_decide]; omega
        rw [this]
  refine ok68.pcalls (by simp) ?_
  simp [c68]
  refine br_guard_t rfl (fun h1 => ?_) (fun h1 => ?_)
  · simp [h1]
    refine br_guard_t rfl (fun h2 => ?_) (fun h2 => ?_)
    · simp [h1, h2, cr68, e]
    · simp [h1, h2, cr68, e]
  · simp [h1, cr68, e]

theorem eqS_t {a b : ByteArray} : eqS a b = true ↔ a = b := by
  unfold eqS
  rw [← beq_toListBytes, beq_bytes]

theorem size_zero {s : ByteArray} : s.size = 0 ↔ s = ⟨#[]⟩ := by
  obtain ⟨⟨l⟩⟩ := s
  simp [ByteArray.size]

theorem call80 (s : ByteArray) (hs : s.size ≤ 1048576) : PCalls Zk.pg 80 [.str s] fun out => out = .ret (.bool (nameOk s)) := by
  refine ok80.pcalls (by simp) ?_
  simp [c80]
  refine wpS_loop (ι := Nat) (fun i => [(0, .str s), (2, .bool false), (5, .int .i64 s.size), (6, .int .i64 i)]) (fun _ => Mem.empty) (fun i => s.size - i) (fun i => i ≤ s.size ∧ ∀ j, j < i → chOk (byteAt s j) = true) 0 (by simp) (Env.le_of (by simp)) rfl ?_
  intro i ⟨hi, hall⟩
  have hw : IntKind.i64.wrap (i + 1) = i + 1 := wrap64 (by omega) (by omega)
  have bad : ltI ↑i ↑s.size = true → chOk (byteAt s i) = false → nameOk s = false := fun h1 h2 => by
    cases hn : nameOk s with
    | false => rfl
    | true =>
      simp only [nameOk, Bool.and_eq_true] at hn
      have := (all_bytes s).1 hn.1.1 i (by have := ltI_t.1 h1; omega)
      rw [h2] at this; cases this
  simp
  refine br_cond rfl (fun h => ?_) (fun h => ?_)
  · simp [h, idxS]
    have next : ∀ a b c : AV, chOk (byteAt s i) = true → ∃ s', (s' ≤ s.size ∧ ∀ (j : Nat), j < s' → chOk (byteAt s j) = true) ∧ s.size - s' < s.size - i ∧ Env.le [(0, AV.str s), (2, AV.bool false), (5, .int .i64 s.size), (6, AV.int IntKind.i64 ↑s')]
        [(0, AV.str s), (2, AV.bool false), (3, a), (5, .int .i64 s.size), (6, AV.int IntKind.i64 (↑i + 1)), (7, b), (18, c)] ∧ Mem.le { store := [], next := 0 } { store := [], next := 0 } := fun a b c hc => by
      have := ltI_t.1 h
      refine ⟨i + 1, ⟨by omega, fun j hj => ?_⟩, by omega, Env.le_of (by simp), Mem.le_of rfl (by simp)⟩
      rcases Nat.lt_or_ge j i with hj' | hj'
      · exact hall j hj'
      · rw [show j = i by omega]; exact hc
    refine br_guard_f rfl (fun h1 => ?_) (fun h1 => ?_)
    · simp [h1, cr80, bad h (by simp [chOk, h1])]
    · simp [h1, h, idxS]
      refine br_cond rfl (fun h2 => ?_) (fun h2 => ?_)
      · simp [cr80, bad h (by simp [chOk, h2])]
      · simp [h2, hw]
        exact next _ _ _ (by simp [chOk, h1, h2])
  · simp [h]
    have hi' : i = s.size := by have := ltI_f.1 h; omega
    have hA : s.data.toList.all chOk = true := (all_bytes s).2 fun j hj => hall j (by omega)
    have he : (!eqS s ⟨#[]⟩) = leI 1 s.size := by
      cases hq : eqS s ⟨#[]⟩ with
      | true =>
        have := size_zero.2 (eqS_t.1 hq)
        rw [this]; rfl
      | false =>
        have : s.size ≠ 0 := fun hz => by rw [eqS_t.2 (size_zero.1 hz)] at hq; cases hq
        rw [leI_t.2 (by omega)]; rfl
    refine br_guard_t rfl (fun h1 => ?_) (fun h1 => ?_)
    · have h1' := h1
      rw [he] at h1'
      simp at h1
      simp [h1, h1', cr80, nameOk, hA]
    · have h1' := h1
      rw [he] at h1'
      simp at h1
      simp [h1, h1', cr80, nameOk, hA]

end Go.Pm

/- ZkD: objects and images, as values. -/
namespace Go.Pm
open Go Go.Proofs

def ix {α : Type} [Inhabited α] (l : List α) (i : Nat) : α := l.getD i default
theorem idx {α : Type} [Inhabited α] {l : List α} {i : Nat} (h : ltI ↑i ↑l.length = true) : l[i]? = some (ix l i) := by
  have h1 : i < l.length := by have := ltI_t.1 h; omega
  simp [ix, List.getD, h1]
theorem idxM {α β : Type} [Inhabited α] {f : α → β} {l : List α} {i : Nat} (h : ltI ↑i ↑l.length = true) : (l.map f)[i]? = some (f (ix l i)) := by
  rw [List.getElem?_map, idx h]; rfl
theorem ix_mem {α : Type} [Inhabited α] {l : List α} {i : Nat} (h : i < l.length) : ix l i ∈ l := by
  simp [ix, List.getD, h]
theorem ltN {i n : Nat} (h : i < n) : ltI ↑i ↑n = true := ltI_t.2 (by omega)

structure DDef where
  name : ByteArray
  at_ : Int
  deriving DecidableEq
structure DRef where
  at_ : Int
  name : ByteArray
  plus : Int
  deriving DecidableEq
structure DLine where
  at_ : Int
  stmt : Int
  deriving DecidableEq
structure Deck where
  name : ByteArray
  code : ByteArray
  defs : List DDef
  refs : List DRef
  lines : List DLine
  deriving DecidableEq
structure Img where
  base : Int
  code : ByteArray
  defs : List DDef
  lines : List DLine
  names : List DDef
  deriving DecidableEq
instance : Inhabited ByteArray := ⟨⟨#[]⟩⟩
instance : Inhabited DDef := ⟨⟨⟨#[]⟩, 0⟩⟩
instance : Inhabited DRef := ⟨⟨0, ⟨#[]⟩, 0⟩⟩
instance : Inhabited DLine := ⟨⟨0, 0⟩⟩
instance : Inhabited Deck := ⟨⟨⟨#[]⟩, ⟨#[]⟩, [], [], []⟩⟩

def DDef.av (d : DDef) : List AV := [.str d.name, .int .i64 d.at_]
def DRef.av (d : DRef) : List AV := [.int .i64 d.at_, .str d.name, .int .i64 d.plus]
def DLine.av (d : DLine) : List AV := [.int .i64 d.at_, .int .i64 d.stmt]
def Deck.av (o : Deck) : List AV := [.str o.name, .str o.code, .list true 2 (o.defs.map DDef.av), .list true 3 (o.refs.map DRef.av), .list true 2 (o.lines.map DLine.av)]
def Img.av (o : Img) : List AV := [.int .i64 o.base, .str o.code, .list true 2 (o.defs.map DDef.av), .list true 2 (o.lines.map DLine.av), .list true 2 (o.names.map DDef.av)]
def decksAV (l : List Deck) : AV := .list true 5 (l.map Deck.av)

@[simp] theorem perm_defs : ∀ l : List DDef, permLL (l.map DDef.av) = true
  | [] => rfl
  | d :: l => by simp only [List.map_cons, permLL, perm_defs l, DDef.av, permL, AV.perm, Bool.and_self]
@[simp] theorem perm_refs : ∀ l : List DRef, permLL (l.map DRef.av) = true
  | [] => rfl
  | d :: l => by simp only [List.map_cons, permLL, perm_refs l, DRef.av, permL, AV.perm, Bool.and_self]
@[simp] theorem perm_lines : ∀ l : List DLine, permLL (l.map DLine.av) = true
  | [] => rfl
  | d :: l => by simp only [List.map_cons, permLL, perm_lines l, DLine.av, permL, AV.perm, Bool.and_self]
@[simp] theorem perm_decks : ∀ l : List Deck, permLL (l.map Deck.av) = true
  | [] => rfl
  | d :: l => by simp only [List.map_cons, permLL, perm_decks l, Deck.av, permL, AV.perm, perm_defs, perm_refs, perm_lines, Bool.and_self]
@[simp] theorem noref_defs : ∀ l : List DDef, norefLL (l.map DDef.av) = true
  | [] => rfl
  | d :: l => by simp only [List.map_cons, norefLL, noref_defs l, DDef.av, norefL, AV.noref, Bool.and_self]
@[simp] theorem noref_refs : ∀ l : List DRef, norefLL (l.map DRef.av) = true
  | [] => rfl
  | d :: l => by simp only [List.map_cons, norefLL, noref_refs l, DRef.av, norefL, AV.noref, Bool.and_self]
@[simp] theorem noref_lines : ∀ l : List DLine, norefLL (l.map DLine.av) = true
  | [] => rfl
  | d :: l => by simp only [List.map_cons, norefLL, noref_lines l, DLine.av, norefL, AV.noref, Bool.and_self]
@[simp] theorem noref_decks : ∀ l : List Deck, norefLL (l.map Deck.av) = true
  | [] => rfl
  | d :: l => by simp only [List.map_cons, norefLL, noref_decks l, Deck.av, norefL, AV.noref, noref_defs, noref_refs, noref_lines, Bool.and_self]
@[simp] theorem norefL_deck (o : Deck) : norefL o.av = true := by simp only [Deck.av, norefL, AV.noref, noref_defs, noref_refs, noref_lines, Bool.and_self]
@[simp] theorem permL_deck (o : Deck) : permL o.av = true := by simp only [Deck.av, permL, AV.perm, perm_defs, perm_refs, perm_lines, Bool.and_self]

structure Deck.Small (o : Deck) : Prop where
  name : o.name.size ≤ 1048576
  code : o.code.size ≤ 1048576
  defs : o.defs.length ≤ 1048576
  refs : o.refs.length ≤ 1048576
  lines : o.lines.length ≤ 1048576
  dname : ∀ d ∈ o.defs, d.name.size ≤ 1048576
  rname : ∀ d ∈ o.refs, d.name.size ≤ 1048576

theorem all_f {n i : Nat} {p : Nat → Bool} (h : i < n) (hp : p i = false) : (List.range n).all p = false := by
  cases ha : (List.range n).all p with
  | false => rfl
  | true => rw [List.all_eq_true] at ha; rw [ha i (List.mem_range.2 h)] at hp; cases hp
theorem all_t {n : Nat} {p : Nat → Bool} (h : ∀ i, i < n → p i = true) : (List.range n).all p = true := by
  rw [List.all_eq_true]; intro i hi; exact h i (List.mem_range.1 hi)
theorem upto {p : Nat → Prop} {i : Nat} (h : ∀ j, j < i → p j) (hi : p i) : ∀ j, j < i + 1 → p j := fun j hj => by
  rcases Nat.lt_or_ge j i with h1 | h1
  · exact h j h1
  · rw [show j = i by omega]; exact hi

def defOk (n : Int) (ds : List DDef) (i : Nat) : Bool := nameOk (ix ds i).name && withinF (ix ds i).at_ 0 n && eqI ((ix ds i).at_.tmod 2) 0 && (List.range i).all fun k => !eqS (ix ds k).name (ix ds i).name
def refOk (n : Int) (ds : List DRef) (i : Nat) : Bool := nameOk (ix ds i).name && withinF (ix ds i).at_ 0 (n - 4) && eqI ((ix ds i).at_.tmod 4) 0 && withinF (ix ds i).plus (-1000000000) 1000000000 && (List.range i).all fun k => !eqI (ix ds k).at_ (ix ds i).at_
def lineOk (n : Int) (ds : List DLine) (i : Nat) : Bool := withinF (ix ds i).at_ 0 (n - 1) && eqI ((ix ds i).at_.tmod 2) 0 && withinF (ix ds i).stmt 0 1000000000 && !(ltI 0 i && leI (ix ds i).at_ (ix ds (i - 1)).at_)
def deckOk (o : Deck) : Bool := nameOk o.name && !ltI 20000 o.code.size && eqI ((o.code.size : Int).tmod 2) 0 && (List.range o.defs.length).all (defOk o.code.size o.defs) && (List.range o.refs.length).all (refOk o.code.size o.refs) && (List.range o.lines.length).all (lineOk o.code.size o.lines)

end Go.Pm

/- ZkT8: contracts: builders of texts. -/
set_option linter.unusedVariables false
namespace Go.Pm
open Go Go.Proofs Go.Shelf Go.RowKit

theorem info126 : (Tryz.prog.info? 126).map (·.size) = some 2 := by kernel_rfl
theorem cells126 : Tryz.prog.cellsOf 126 = 2 := by kernel_rfl
theorem lies126 (count : Nat) (h : 1 ≤ count) : liesAt Tryz.prog Tryz.prog.depth 126 (count * 2 / Tryz.prog.cellsOf 126) 0 126 1 = true := by
  have hd : Tryz.prog.depth = (2 * (Tryz.prog.types.size + Made.depth) + 1) + 1 := rfl
  have hc : count * 2 / 2 = count := by omega
  rw [cells126, hc, hd]
  simp only [liesAt, Bool.or_eq_true]
  left
  rw [hd]
  simp [rowAt, cells126, sameLayout, h]

set_option maxHeartbeats 1000000 in
set_option maxRecDepth 100000 in
theorem check_used (b : Nat) (w : World) (h0 : w.cell? ⟨b, 0, none⟩ = some (.pointer (some ⟨b, 0, none⟩))) :
    Calls Tryz.prog 109 #[.pointer (some ⟨b, 0, none⟩)] w fun e w' => e = .returned (.tuple #[]) ∧ w' = w := by
  obtain ⟨j, hj, _⟩ := Option.map_eq_some_iff.1 info126
  go_enter Tryz.func109, Tryz.ntmps109
  go_wp2
  rw [Lib.run_neq_ptr_same w _ Tryz.underlying123 hj]
  go_wp2
  go_end0
  exact ⟨rfl, rfl⟩

set_option maxHeartbeats 1000000 in
set_option maxRecDepth 100000 in
theorem check_fresh (b : Nat) (w : World) (h0 : w.cell? ⟨b, 0, none⟩ = some (.pointer none)) (c : Nat) (hc : 1 ≤ c) (hsh : w.shape? b = some (126, c * 2)) (hfz : w.frozen? ⟨b, 0, none⟩ = false) :
    Calls Tryz.prog 109 #[.pointer (some ⟨b, 0, none⟩)] w fun e w' => e = .returned (.tuple #[]) ∧ w' = w.setCell ⟨b, 0, none⟩ (.pointer (some ⟨b, 0, none⟩)) := by
  obtain ⟨j, hj, hjs⟩ := Option.map_eq_some_iff.1 info126
  go_enter Tryz.func109, Tryz.ntmps109
  go_wp2
  rw [Lib.run_to_unsafe w ⟨b, 0, none⟩ Tryz.underlying123 Tryz.underlying211 hj (by rw [hjs]; decide) hsh (by show 0 < c * 2; omega)]
  simp only [Result.andThen]
  rw [Oper.upon_value]
  go_wp2
  rw [run_callFunc_extern Tryz.func139 (by kernel_rfl) (by kernel_rfl) (by kernel_rfl) (e := Extern.AbiNoEscape.same) (by kernel_rfl)]
  rw [Lib.run_noEscape]
  simp only [Result.andThen]
  rw [Oper.upon_value]
  go_wp2
  rw [Lib.run_from_unsafe w ⟨b, 0, none⟩ Tryz.underlying211 Tryz.underlying123 hj hsh (lies126 c hc)]
  simp only [Result.andThen]
  rw [Oper.upon_value]
  go_wp2
  go_end0
  exact ⟨rfl, rfl⟩

theorem elem_cells {σ : Sig} {K : Bool → Nat → Prop} {w : World} {b : Nat} {x y : AV} (h : LR σ K w b 0 2 [[x, y]]) : (∃ u, w.cell? ⟨b, 0, none⟩ = some u ∧ u.oneCell' = true ∧ VR σ K w x u) ∧ ∃ u, w.cell? ⟨b, 1, none⟩ = some u ∧ u.oneCell' = true ∧ VR σ K w y u := by
  obtain ⟨_, h, _⟩ := h
  exact ⟨h.1, h.2.1⟩

theorem call109 (m : Mem) (pos gen : Nat) (a v : AV) (h : m.obj pos gen = some (.row 126 2 [[a, v]])) (ha : a = .const (.pointer none) ∨ a = .rptr pos gen 2 0 0) :
    ACalls Zk.pg 109 [.rptr pos gen 2 0 0] m fun out m' => out = .ret (.tuple []) ∧ m' = m.put pos gen (.row 126 2 [[.rptr pos gen 2 0 0, v]]) := by
  refine ⟨⟨Tryz.f109, Tryz.func109, rfl, by kernel_rfl⟩, fun β K σ w vals hrel hv hβ => ?_⟩
  obtain ⟨u, us, rfl, hV, hnil⟩ := hv
  rw [VRs] at hnil
  subst hnil
  rw [VR] at hV
  obtain ⟨b, c, hg, rfl⟩ := hV
  obtain ⟨cur, hheap, hcs, hcap, hmax, hpos2, hlr⟩ := hrel.obj_row h hg
  obtain ⟨⟨u0, hc0, ho0, hV0⟩, ⟨u1, hc1, ho1, hV1⟩⟩ := elem_cells hlr
  have hpos := Mem.obj_some h
  have hself : VR σ K w (.rptr pos gen 2 0 0) (.pointer (some ⟨b, 0, none⟩)) := by rw [VR]; exact ⟨b, c, hg, rfl⟩
  show Calls Tryz.prog 109 #[.pointer (some ⟨b, 0, none⟩)] w _
  rcases ha with rfl | rfl
  · rw [VR] at hV0
    subst hV0
    have hb : b < w.heap.size := (Array.getElem?_eq_some_iff.1 hheap).1
    have hsz : cur.size = c * 2 := hcs
    have hc1' : 1 ≤ c := by simpa using hcap
    refine (check_fresh b w hc0 c hc1' (by simp [World.shape?, hheap, hsz]) (by simp [World.frozen?, hheap])).mono ?_
    rintro e w' ⟨rfl, rfl⟩
    have hheap' : (w.setCell ⟨b, 0, none⟩ (.pointer (some ⟨b, 0, none⟩))).heap[b]? = some (.cells (cur.setIfInBounds 0 (.pointer (some ⟨b, 0, none⟩))) 126 (0, 0)) := by
      show (w.heap.modify b _)[b]? = _
      rw [Array.getElem?_modify, if_pos rfl, hheap]
      rfl
    have hgr : w.grownBy (w.setCell ⟨b, 0, none⟩ (.pointer (some ⟨b, 0, none⟩))) (some b) := by
      refine ⟨rfl, rfl, rfl, by simp [World.setCell], fun k hk hne => ?_⟩
      show (w.heap.modify b _)[k]? = _
      rw [Array.getElem?_modify, if_neg (fun e => hne (by rw [e]))]
    have hKs := hrel.kept_same hgr (hrel.not_kept h hg)
    have hput : Rel β K σ (m.put pos gen (.row 126 2 [[.rptr pos gen 2 0 0, v]])) (w.setCell ⟨b, 0, none⟩ (.pointer (some ⟨b, 0, none⟩))) := by
      refine hrel.put hpos hg hgr ⟨_, hheap', by simp [hcs], by simpa using hcap, hmax, hpos2, rfl, ⟨⟨_, ?_, rfl, by rw [VR]; exact ⟨b, c, hg, rfl⟩⟩, ⟨u1, ?_, ho1, VR.mono (List.prefix_refl _) (fun _ _ h => h) hKs _ _ hV1⟩, trivial⟩, trivial⟩
      · rw [cell?_cells hheap']
        have h0 : 0 < cur.size := by omega
        simp [h0]
      · have e1 := hc1
        rw [cell?_cells hheap] at e1
        rw [cell?_cells hheap']
        simpa using e1
    exact ⟨K, σ, _, .ret (.tuple []), ⟨rfl, rfl⟩, hput, List.prefix_refl _, fun _ _ h => h, hKs, .tuple #[], rfl, by rw [VR]; exact ⟨#[], rfl, rfl⟩⟩
  · rw [VR] at hV0
    obtain ⟨b', c', hg', rfl⟩ := hV0
    rw [hg] at hg'
    injection hg' with hg'; injection hg' with e1 e2; injection e1 with e1; subst e1; subst e2
    refine (check_used b w hc0).mono ?_
    rintro e w' ⟨rfl, rfl⟩
    rw [Mem.put_same hpos]
    exact ⟨K, σ, m, .ret (.tuple []), ⟨rfl, rfl⟩, hrel, List.prefix_refl _, fun _ _ h => h, fun _ _ _ => rfl, .tuple #[], rfl, by rw [VR]; exact ⟨#[], rfl, rfl⟩⟩

section
attribute [-simp] List.getElem?_map Mem.obj Mem.put Mem.turn
theorem obj_put {m : Mem} {pos gen : Nat} {o o' : AObj} (h : m.obj pos gen = some o) : (m.put pos gen o').obj pos gen = some o' := by
  have hs := Mem.obj_some h
  have hlt := (List.getElem?_eq_some_iff.1 hs).1
  unfold Mem.obj Mem.put
  simp [hlt]
theorem obj_put_ne {m : Mem} {p g q k : Nat} {o : AObj} (h : p ≠ q) : (m.put p g o).obj q k = m.obj q k := by
  simp [Mem.obj, Mem.put, List.getElem?_set, h]
theorem obj_turn_ne {m : Mem} {p q k : Nat} {o : AObj} (h : p ≠ q) : (m.turn p o).obj q k = m.obj q k := by
  simp [Mem.obj, Mem.turn, List.getElem?_set, h]
theorem put_next {m : Mem} {p g : Nat} {o : AObj} : (m.put p g o).next = m.next := rfl
theorem bytes_len (s : ByteArray) : (bytesOf s).length = s.size := by simp [bytesOf]
theorem bytes_app (s t : ByteArray) : bytesOf s ++ bytesOf t = bytesOf (s ++ t) := by simp [bytesOf]

/-- What a builder at `bpos` with its bytes at `rpos` is behind a writing. -/
def writeM (m : Mem) (bpos bgen rpos : Nat) (t : ByteArray) : Mem :=
  (m.turn rpos (.row 5 1 (bytesOf t))).put bpos bgen (.row 126 2 [[.rptr bpos bgen 2 0 0, .row rpos m.next 1 0 t.size]])
theorem put_turn_put {m : Mem} {p g r : Nat} {o x o' : AObj} (h : p ≠ r) : ((m.put p g o).turn r x).put p g o' = (m.turn r x).put p g o' := by
  simp only [Mem.put, Mem.turn]
  rw [List.set_comm _ _ h, List.set_set]

theorem call60 (m : Mem) (bpos bgen rpos rgen : Nat) (a : AV) (t s : ByteArray) (hb : m.obj bpos bgen = some (.row 126 2 [[a, .row rpos rgen 1 0 t.size]])) (hr : m.obj rpos rgen = some (.row 5 1 (bytesOf t))) (hne : bpos ≠ rpos) (ha : a = .const (.pointer none) ∨ a = .rptr bpos bgen 2 0 0) (hl : t.size + s.size ≤ 140737488355328) :
    ACalls Zk.pg 60 [.rptr bpos bgen 2 0 0, .str s] m fun out m' => out = .ret (.tuple [.int .i64 s.size, .const .nilIface]) ∧ m' = writeM m bpos bgen rpos (t ++ s) := by
  refine ok60.acalls (by simp) ?_
  simp [c60]
  refine xcall_a (call109 m bpos bgen a _ hb ha) ?_
  have h1 : (m.put bpos bgen (.row 126 2 [[.rptr bpos bgen 2 0 0, .row rpos rgen 1 0 t.size]])).obj bpos bgen = some (.row 126 2 [[.rptr bpos bgen 2 0 0, .row rpos rgen 1 0 t.size]]) := obj_put hb
  have h2 : (m.put bpos bgen (.row 126 2 [[.rptr bpos bgen 2 0 0, .row rpos rgen 1 0 t.size]])).obj rpos rgen = some (.row 5 1 (bytesOf t)) := by rw [obj_put_ne hne]; exact hr
  have b1 : t.size + s.size ≤ 9223372036854775807 := by omega
  have h3 : ((m.put bpos bgen (.row 126 2 [[.rptr bpos bgen 2 0 0, .row rpos rgen 1 0 t.size]])).turn rpos (.row 5 1 (bytesOf (t ++ s)))).obj bpos bgen = some (.row 126 2 [[.rptr bpos bgen 2 0 0, .row rpos rgen 1 0 t.size]]) := by rw [obj_turn_ne (fun e => hne e.symm)]; exact h1
  simp [h1, h2, h3, nilCheckA, appendSA, bytes_len, put_next, bytes_app, b1, hl, List.range_succ, put_turn_put hne, cr60, writeM]
end
end Go.Pm

/- ZkT9: contracts: a builder's text. -/
set_option linter.unusedVariables false
namespace Go.Pm
open Go Go.Proofs Go.Shelf Go.RowKit

theorem mixedT : Tryz.prog.follows Departure.mixedOrders = true := by kernel_rfl
theorem cells5 : Tryz.prog.cellsOf 5 = 1 := by kernel_rfl

set_option maxHeartbeats 2000000 in
set_option maxRecDepth 100000 in
theorem string_row (b g cap : Nat) (cur : Array Value) (l : List UInt8) (w : World) (h0 : l ≠ []) (hc : w.cell? ⟨b, 1, none⟩ = some (.slice (some ⟨g, 0, none⟩) l.length cap)) (hg : w.heap[g]? = some (.cells cur 5 (0, 0))) (hlc : l.length ≤ cap) (hcm : cap ≤ maxLen) (hcs : cur.size = cap * 1)
    (hcell : ∀ j x, l[j]? = some x → w.cell? ((⟨g, 0, none⟩ : Addr).add j) = some (.int .u8 x.toNat)) :
    Calls Tryz.prog 65 #[.pointer (some ⟨b, 0, none⟩)] w fun e w' => e = .returned (.string ⟨l.toArray⟩) ∧ w' = w.drew.freeze ⟨g, 0, none⟩ l.length := by
  have hl0 : l.length ≠ 0 := by simpa using h0
  have c1 : w.drew.cell? ⟨b, 1, none⟩ = some (.slice (some ⟨g, 0, none⟩) l.length cap) := hc
  have hSD : (Builtin.unsafeSliceData_ #[124] 188 #[.slice (some ⟨g, 0, none⟩) l.length cap]).run Tryz.prog w.drew = .ok (.pointer (some ⟨g, 0, none⟩)) w.drew :=
    Lib.run_unsafeSliceData_row _ _ _ _ _ _ (by omega)
  have hUS : (Builtin.unsafeString_ #[188, 3] 9 #[.pointer (some ⟨g, 0, none⟩), .int .i64 l.length]).run Tryz.prog w.drew = .ok (.string ⟨l.toArray⟩) (w.drew.freeze ⟨g, 0, none⟩ l.length) :=
    Lib.run_unsafeString_row w.drew 188 3 9 5 Tryz.underlying188 cells5 g cur.size (by have hg' : w.drew.heap[g]? = some (.cells cur 5 (0, 0)) := hg; simp [World.shape?, hg']) l h0 (by omega) (by unfold maxLen at hcm; omega) hcell
  have mixed := mixedT
  go_enter Tryz.func65, Tryz.ntmps65
  go_wp2
  go_region_o
  all_goals (go_wp2; go_ret; exact ⟨rfl, rfl⟩)

theorem unsafe_none (W : World) (q : Option Addr) : (Builtin.unsafeString_ #[188, 3] 9 #[.pointer q, .int .i64 0]).run Tryz.prog W = .ok (.string .empty) W := Lib.run_unsafeString_none W _ _ _ q

set_option maxHeartbeats 2000000 in
set_option maxRecDepth 100000 in
theorem string_nil (b : Nat) (w : World) (hc : w.cell? ⟨b, 1, none⟩ = some (.slice none 0 0)) :
    Calls Tryz.prog 65 #[.pointer (some ⟨b, 0, none⟩)] w fun e w' => e = .returned (.string ⟨#[]⟩) ∧ w' = w.drew := by
  have hUS := unsafe_none
  have c1 : w.drew.cell? ⟨b, 1, none⟩ = some (.slice none 0 0) := hc
  have hSD : (Builtin.unsafeSliceData_ #[124] 188 #[.slice none 0 0]).run Tryz.prog w.drew = .ok (.pointer none) w.drew := rfl
  have mixed := mixedT
  go_enter Tryz.func65, Tryz.ntmps65
  go_wp2
  go_region_o
  all_goals (go_wp2; go_ret; exact ⟨rfl, rfl⟩)

set_option maxHeartbeats 2000000 in
set_option maxRecDepth 100000 in
theorem string_noroom (b g : Nat) (cur : Array Value) (w : World) (hb : b < w.heap.size) (hc : w.cell? ⟨b, 1, none⟩ = some (.slice (some ⟨g, 0, none⟩) 0 0)) (hg : w.heap[g]? = some (.cells cur 5 (0, 0))) :
    Calls Tryz.prog 65 #[.pointer (some ⟨b, 0, none⟩)] w fun e w' => e = .returned (.string ⟨#[]⟩) ∧ w' = w.drew.alloc (.view ⟨g, 0, none⟩ 5) := by
  have hUS := unsafe_none
  have c1 : w.drew.cell? ⟨b, 1, none⟩ = some (.slice (some ⟨g, 0, none⟩) 0 0) := hc
  have hSD : (Builtin.unsafeSliceData_ #[124] 188 #[.slice (some ⟨g, 0, none⟩) 0 0]).run Tryz.prog w.drew = .ok (.pointer (some ⟨w.drew.heap.size, 0, none⟩)) (w.drew.alloc (.view ⟨g, 0, none⟩ 5)) :=
    Lib.run_unsafeSliceData_zero w.drew _ _ 5 Tryz.underlying188 ⟨g, 0, none⟩ 0 (5, cur.size) (by have hg' : w.drew.heap[g]? = some (.cells cur 5 (0, 0)) := hg; simp [World.shape?, hg'])
  have c2 : (w.drew.alloc (.view ⟨g, 0, none⟩ 5)).cell? ⟨b, 1, none⟩ = some (.slice (some ⟨g, 0, none⟩) 0 0) := by
    rw [cell?_congr (w := w.drew) (a := ⟨b, 1, none⟩) (Lib.alloc_old w.drew _ b hb)]; exact c1
  have c3 : (w.alloc (.view ⟨g, 0, none⟩ 5)).drew.cell? ⟨b, 1, none⟩ = some (.slice (some ⟨g, 0, none⟩) 0 0) := c2
  have mixed := mixedT
  go_enter Tryz.func65, Tryz.ntmps65
  go_wp2
  go_region_o
  all_goals (go_wp2; go_ret; exact ⟨rfl, rfl⟩)

set_option maxHeartbeats 2000000 in
set_option maxRecDepth 100000 in
theorem string_room (b g cap : Nat) (w : World) (hc0 : cap ≠ 0) (hc : w.cell? ⟨b, 1, none⟩ = some (.slice (some ⟨g, 0, none⟩) 0 cap)) :
    Calls Tryz.prog 65 #[.pointer (some ⟨b, 0, none⟩)] w fun e w' => e = .returned (.string ⟨#[]⟩) ∧ w' = w.drew := by
  have hUS := unsafe_none
  have c1 : w.drew.cell? ⟨b, 1, none⟩ = some (.slice (some ⟨g, 0, none⟩) 0 cap) := hc
  have hSD : (Builtin.unsafeSliceData_ #[124] 188 #[.slice (some ⟨g, 0, none⟩) 0 cap]).run Tryz.prog w.drew = .ok (.pointer (some ⟨g, 0, none⟩)) w.drew :=
    Lib.run_unsafeSliceData_row _ _ _ _ _ _ hc0
  clear hc0
  have mixed := mixedT
  go_enter Tryz.func65, Tryz.ntmps65
  go_wp2
  go_region_o
  all_goals (go_wp2; go_ret; exact ⟨rfl, rfl⟩)

theorem drew_grown (w : World) : w.grownBy w.drew none := ⟨rfl, rfl, rfl, Nat.le_refl _, fun _ _ _ => rfl⟩
theorem freeze_grown (w : World) (g n : Nat) : w.grownBy (w.drew.freeze ⟨g, 0, none⟩ n) (some g) := by
  unfold World.freeze
  split
  · exact grownBy.weaken (drew_grown w)
  · refine ⟨rfl, rfl, rfl, by simp, fun k hk hne => ?_⟩
    show (w.drew.heap.modify g _)[k]? = _
    rw [Array.getElem?_modify, if_neg (fun e => hne (by rw [e]))]
    rfl

theorem call65 (m : Mem) (bpos bgen rpos rgen : Nat) (a : AV) (s : ByteArray) (hb : m.obj bpos bgen = some (.row 126 2 [[a, .row rpos rgen 1 0 s.size]])) (hr : m.obj rpos rgen = some (.row 5 1 (bytesOf s))) :
    ACalls Zk.pg 65 [.rptr bpos bgen 2 0 0] m fun out m' => out = .ret (.str s) ∧ m' = m.put rpos rgen .hole := by
  refine ⟨⟨Tryz.f65, Tryz.func65, rfl, by kernel_rfl⟩, fun β K σ w vals hrel hv hβ => ?_⟩
  obtain ⟨u, us, rfl, hV, hnil⟩ := hv
  rw [VRs] at hnil
  subst hnil
  rw [VR] at hV
  obtain ⟨b, c, hg, rfl⟩ := hV
  obtain ⟨cur, hheap, hcs, hcap, hmax, hpos2, hlr⟩ := hrel.obj_row hb hg
  obtain ⟨_, ⟨u1, hc1, ho1, hV1⟩⟩ := elem_cells hlr
  have hposr := Mem.obj_some hr
  have hblt : b < w.heap.size := (Array.getElem?_eq_some_iff.1 hheap).1
  show Calls Tryz.prog 65 #[.pointer (some ⟨b, 0, none⟩)] w _
  have fin : ∀ (w' : World) (sr : Option Nat × Nat), σ[rgen]? = some sr → w.grownBy w' sr.1 → ∀ e, e = Ending.returned (.string s) →
      ∃ K' σ' m' out, (out = AOut.ret (.str s) ∧ m' = m.put rpos rgen .hole) ∧ Rel β K' σ' m' w' ∧ σ <+: σ' ∧ (∀ p b, K p b → K' p b) ∧ (∀ p b, K p b → w'.heap[b]? = w.heap[b]?) ∧ OutR σ' K' w' out e := by
    rintro w' ⟨sb, sc⟩ hsr hgr e rfl
    have hKs : ∀ p b, K p b → w'.heap[b]? = w.heap[b]? := by
      intro p b' hk
      refine hgr.block b' (hrel.kept p b' hk).2 (fun e => ?_)
      simp only at e
      subst e
      exact (hrel.own b' ⟨rpos, rgen, _, sc, hposr, hsr⟩).2.2 p hk
    exact ⟨K, σ, _, .ret (.str s), ⟨rfl, rfl⟩, hrel.put hposr hsr hgr trivial, List.prefix_refl _, fun _ _ h => h, hKs, .string s, rfl, by rw [VR]⟩
  have hemp : s.size = 0 → s = ⟨#[]⟩ := fun h => by
    cases s with
    | mk d => have : d.size = 0 := h; rw [Array.size_eq_zero_iff] at this; rw [this]
  rw [VR] at hV1
  rcases hV1 with ⟨g, cp, hgr, hoc, rfl⟩ | ⟨hgr, hn0, _, rfl⟩ | ⟨hn0, h0, _⟩
  · obtain ⟨cur2, hheap2, hcs2, hcap2, hmax2, _, hlr2⟩ := hrel.obj_row hr hgr
    simp only [Nat.zero_mul, Nat.sub_zero] at hc1
    by_cases hz : s.size = 0
    · have hs := hemp hz
      rw [hz] at hc1
      by_cases hcp : cp = 0
      · subst hcp
        refine (string_noroom b g cur2 w hblt hc1 hheap2).mono ?_
        rintro e w' ⟨rfl, rfl⟩
        refine fin _ _ hgr (grownBy.weaken (w' := w.drew.alloc (.view ⟨g, 0, none⟩ 5)) ⟨rfl, rfl, rfl, by simp, fun k hk _ => heap_alloc_old w.drew _ hk⟩) _ (by rw [hs])
      · refine (string_room b g cp w hcp hc1).mono ?_
        rintro e w' ⟨rfl, rfl⟩
        exact fin _ _ hgr (grownBy.weaken (drew_grown w)) _ (by rw [hs])
    · have hl : s.data.toList ≠ [] := by
        intro e
        have : s.data.toList.length = 0 := by rw [e]; rfl
        exact hz this
      have hlen : s.data.toList.length = s.size := rfl
      rw [← hlen] at hc1
      have hcell : ∀ j x, s.data.toList[j]? = some x → w.cell? ((⟨g, 0, none⟩ : Addr).add j) = some (.int .u8 x.toNat) := by
        intro j x hj
        obtain ⟨_, hc⟩ := LR_iff.1 hlr2 j [.int .u8 x.toNat] (by unfold bytesOf; rw [List.getElem?_map, hj]; rfl)
        obtain ⟨u, hu, _, hVu⟩ := CR_iff.1 hc 0 _ rfl
        rw [VR] at hVu
        rw [Addr.add_lit]
        rw [show 0 + j * 1 + 0 = 0 + j by omega] at hu
        rw [hu, hVu]
      refine (string_row b g cp cur2 s.data.toList w hl hc1 hheap2 (by rw [hlen]; omega) hmax2 hcs2 hcell).mono ?_
      rintro e w' ⟨rfl, rfl⟩
      exact fin _ _ hgr (freeze_grown w g _) _ (by simp)
  · have hs := hemp hn0
    have hs2 := hs
    refine (string_nil b w hc1).mono ?_
    rintro e w' ⟨rfl, rfl⟩
    exact fin _ _ hgr (drew_grown w) _ (by rw [hs])
  · omega
end Go.Pm

/- ZkW3: the shelf's contracts at this dump (written by the kit's lay-shelf.mjs and lay-plain.mjs; picked by pickshelf.py). -/
namespace Go.Proofs
open Go.Shelf

def Tryz.lays156_ren : Go.Shelf.Ren := ⟨fun | 156 => 61 | 165 => 110 | 166 => 60 | 169 => 65 | 240 => 109 | 241 => 140 | 276 => 139 | 277 => 174 | n => n, fun | 31 => 68 | 9 => 9 | 3 => 3 | 4 => 4 | 0 => 0 | 20 => 20 | 72 => 126 | 76 => 129 | 70 => 123 | 37 => 124 | 75 => 128 | 127 => 188 | 164 => 211 | 5 => 5 | 80 => 136 | n => n, fun | n => n⟩

theorem Tryz.lays156 : Go.Proofs.Lays.n156 Tryz.prog Tryz.lays156_ren := {
  mixed := by kernel_rfl
  f156 := Tryz.func61.trans (congrArg some (by kernel_rfl))
  f165 := Tryz.func110.trans (congrArg some (by kernel_rfl))
  f166 := Tryz.func60.trans (congrArg some (by kernel_rfl))
  f169 := Tryz.func65.trans (congrArg some (by kernel_rfl))
  f240 := Tryz.func109.trans (congrArg some (by kernel_rfl))
  f241 := Tryz.func140.trans (congrArg some (by kernel_rfl))
  f276 := Tryz.func139.trans (congrArg some (by kernel_rfl))
  f277 := Tryz.func174.trans (congrArg some (by kernel_rfl))
  t0 := Tryz.underlying0
  a0 := Tryz.isAgg0
  z0 := Tryz.sizeOf0
  v0 := Tryz.zeroValue0
  t3 := Tryz.underlying3
  a3 := Tryz.isAgg3
  z3 := Tryz.sizeOf3
  v3 := Tryz.zeroValue3
  t4 := Tryz.underlying4
  a4 := Tryz.isAgg4
  z4 := Tryz.sizeOf4
  v4 := Tryz.zeroValue4
  t9 := Tryz.underlying9
  a9 := Tryz.isAgg9
  z9 := Tryz.sizeOf9
  v9 := Tryz.zeroValue9
  t20 := Tryz.underlying20
  a20 := Tryz.isAgg20
  z20 := Tryz.sizeOf20
  v20 := Tryz.zeroValue20
  t31 := Tryz.underlying68
  a31 := Tryz.isAgg68
  z31 := Tryz.sizeOf68
  v31 := Tryz.zeroValue68
  t37 := Tryz.underlying124
  a37 := Tryz.isAgg124
  z37 := Tryz.sizeOf124
  v37 := Tryz.zeroValue124
  t70 := Tryz.underlying123
  a70 := Tryz.isAgg123
  z70 := Tryz.sizeOf123
  v70 := Tryz.zeroValue123
  t72 := Tryz.underlying126
  a72 := Tryz.isAgg126
  z72 := Tryz.sizeOf126
  v72 := Tryz.zeroValue126
  t75 := Tryz.underlying128
  a75 := Tryz.isAgg128
  z75 := Tryz.sizeOf128
  v75 := Tryz.zeroValue128
  t76 := Tryz.underlying129
  a76 := Tryz.isAgg129
  z76 := Tryz.sizeOf129
  v76 := Tryz.zeroValue129
  t127 := Tryz.underlying188
  a127 := Tryz.isAgg188
  z127 := Tryz.sizeOf188
  v127 := Tryz.zeroValue188
  t164 := Tryz.underlying211
  a164 := Tryz.isAgg211
  z164 := Tryz.sizeOf211
  v164 := Tryz.zeroValue211 }

theorem Tryz.Builder_Extra_156 : Builder.Extra Tryz.prog Tryz.lays156_ren := {
  sizeBuilder := by kernel_rfl
  liesBuilder := by kernel_rfl
  t5 := Tryz.underlying5
  a5 := Tryz.isAgg5
  z5 := Tryz.sizeOf5
  v5 := Tryz.zeroValue5
  infoByte := by kernel_rfl
  cellsByte := by kernel_rfl
  sizeByte := by kernel_rfl
  neB5 := by decide }

open Go.RowKit in
theorem Tryz.strings_Join (bk o c : Nat) (xs : List ByteArray) (sep : ByteArray) (w : World) (hcells : ∀ (j : Nat) x, xs[j]? = some x → w.cell? ⟨bk, o + j, none⟩ = some (.string x)) (hbk : bk < w.heap.size) (hN : xs.length ≤ 140737488355328) (hcap : xs.length ≤ c) (hlen : (Lib.join (xs.map (·.data.toList)) sep.data.toList).length ≤ 140737488355328) :
    Calls Tryz.prog 61 #[.slice (some ⟨bk, o, none⟩) xs.length c, .string sep] w fun e w' => e = .returned (.string ⟨(Lib.join (xs.map (·.data.toList)) sep.data.toList).toArray⟩) ∧ Below w.heap.size w w' := Any.strings_Join Tryz.lays156 Tryz.Builder_Extra_156 bk o c xs sep w hcells hbk hN hcap hlen

end Go.Proofs

/- ZkW1: the shelf's contracts at this dump (written by the kit's lay-shelf.mjs and lay-plain.mjs; picked by pickshelf.py). -/
namespace Go.Proofs
open Go.Shelf

def Tryz.lays137_ren : Go.Shelf.Ren := ⟨fun | 137 => 77 | 217 => 120 | 266 => 152 | n => n, fun | 9 => 9 | 5 => 5 | 3 => 3 | n => n, fun | n => n⟩

theorem Tryz.lays137 : Go.Proofs.Lays.n137 Tryz.prog Tryz.lays137_ren := {
  mixed := by kernel_rfl
  f137 := Tryz.func77.trans (congrArg some (by kernel_rfl))
  f217 := Tryz.func120.trans (congrArg some (by kernel_rfl))
  f266 := Tryz.func152.trans (congrArg some (by kernel_rfl))
  t3 := Tryz.underlying3
  a3 := Tryz.isAgg3
  z3 := Tryz.sizeOf3
  v3 := Tryz.zeroValue3
  t5 := Tryz.underlying5
  a5 := Tryz.isAgg5
  z5 := Tryz.sizeOf5
  v5 := Tryz.zeroValue5
  t9 := Tryz.underlying9
  a9 := Tryz.isAgg9
  z9 := Tryz.sizeOf9
  v9 := Tryz.zeroValue9 }

open Go.RowKit in
theorem Tryz.strings_IndexByte (s : ByteArray) (c : Int) (w : World) :
    Calls Tryz.prog 77 #[.string s, .int .u8 c] w fun e w' => e = .returned (.int .i64 (Lib.indexByte s.data.toList c.toNat.toUInt8)) ∧ w' = w := Any.strings_IndexByte Tryz.lays137 s c w

def Tryz.laysM171_ren : Go.Shelf.Ren := ⟨fun | 171 => 63 | 243 => 111 | 246 => 141 | 283 => 175 | 284 => 176 | 285 => 177 | 286 => 178 | 129 => 173 | 317 => 212 | 318 => 213 | 319 => 214 | 320 => 215 | 337 => 227 | 338 => 228 | n => n, fun | 3 => 3 | 9 => 9 | 2 => 2 | 4 => 4 | 171 => 242 | 0 => 0 | 53 => 226 | 37 => 124 | 5 => 5 | 173 => 244 | 212 => 272 | 51 => 193 | 20 => 20 | 213 => 273 | 46 => 153 | 232 => 292 | 233 => 293 | n => n, fun | 17 => 3 | 18 => 6 | 19 => 7 | n => n⟩

theorem Tryz.laysM171 : Go.Proofs.LaysM.n171 Tryz.prog Tryz.laysM171_ren := {
  mixed := by kernel_rfl
  f129 := Tryz.func173.trans (congrArg some (by kernel_rfl))
  f171 := Tryz.func63.trans (congrArg some (by kernel_rfl))
  f243 := Tryz.func111.trans (congrArg some (by kernel_rfl))
  f246 := Tryz.func141.trans (congrArg some (by kernel_rfl))
  f283 := Tryz.func175.trans (congrArg some (by kernel_rfl))
  f284 := Tryz.func176.trans (congrArg some (by kernel_rfl))
  f285 := Tryz.func177.trans (congrArg some (by kernel_rfl))
  f286 := Tryz.func178.trans (congrArg some (by kernel_rfl))
  f317 := Tryz.func212.trans (congrArg some (by kernel_rfl))
  f318 := Tryz.func213.trans (congrArg some (by kernel_rfl))
  f319 := Tryz.func214.trans (congrArg some (by kernel_rfl))
  f320 := Tryz.func215.trans (congrArg some (by kernel_rfl))
  f337 := Tryz.func227.trans (congrArg some (by kernel_rfl))
  f338 := Tryz.func228.trans (congrArg some (by kernel_rfl))
  t0 := Tryz.underlying0
  a0 := Tryz.isAgg0
  z0 := Tryz.sizeOf0
  v0 := Tryz.zeroValue0
  t2 := Tryz.underlying2
  a2 := Tryz.isAgg2
  z2 := Tryz.sizeOf2
  v2 := Tryz.zeroValue2
  t3 := Tryz.underlying3
  a3 := Tryz.isAgg3
  z3 := Tryz.sizeOf3
  v3 := Tryz.zeroValue3
  t4 := Tryz.underlying4
  a4 := Tryz.isAgg4
  z4 := Tryz.sizeOf4
  v4 := Tryz.zeroValue4
  t5 := Tryz.underlying5
  a5 := Tryz.isAgg5
  z5 := Tryz.sizeOf5
  v5 := Tryz.zeroValue5
  t9 := Tryz.underlying9
  a9 := Tryz.isAgg9
  z9 := Tryz.sizeOf9
  v9 := Tryz.zeroValue9
  t20 := Tryz.underlying20
  a20 := Tryz.isAgg20
  z20 := Tryz.sizeOf20
  v20 := Tryz.zeroValue20
  t37 := Tryz.underlying124
  a37 := Tryz.isAgg124
  z37 := Tryz.sizeOf124
  v37 := Tryz.zeroValue124
  t46 := Tryz.underlying153
  a46 := Tryz.isAgg153
  z46 := Tryz.sizeOf153
  v46 := Tryz.zeroValue153
  t51 := Tryz.underlying193
  a51 := Tryz.isAgg193
  z51 := Tryz.sizeOf193
  v51 := Tryz.zeroValue193
  t53 := Tryz.underlying226
  a53 := Tryz.isAgg226
  z53 := Tryz.sizeOf226
  v53 := Tryz.zeroValue226
  t171 := Tryz.underlying242
  a171 := Tryz.isAgg242
  z171 := Tryz.sizeOf242
  v171 := Tryz.zeroValue242
  t173 := Tryz.underlying244
  a173 := Tryz.isAgg244
  z173 := Tryz.sizeOf244
  v173 := Tryz.zeroValue244
  t212 := Tryz.underlying272
  a212 := Tryz.isAgg272
  z212 := Tryz.sizeOf272
  v212 := Tryz.zeroValue272
  t213 := Tryz.underlying273
  a213 := Tryz.isAgg273
  z213 := Tryz.sizeOf273
  t232 := Tryz.underlying292
  a232 := Tryz.isAgg292
  z232 := Tryz.sizeOf292
  v232 := Tryz.zeroValue292
  t233 := Tryz.underlying293
  a233 := Tryz.isAgg293
  z233 := Tryz.sizeOf293
  v233 := Tryz.zeroValue293
  g17 := by kernel_rfl
  g18 := by kernel_rfl
  g19 := by kernel_rfl
  i0 := by kernel_rfl
  i2 := by kernel_rfl
  i3 := by kernel_rfl
  i4 := by kernel_rfl
  i5 := by kernel_rfl
  i9 := by kernel_rfl
  i20 := by kernel_rfl
  i37 := by kernel_rfl
  i46 := by kernel_rfl
  i51 := by kernel_rfl
  i53 := by kernel_rfl
  i171 := by kernel_rfl
  i173 := by kernel_rfl
  i212 := by kernel_rfl
  i232 := by kernel_rfl
  i233 := by kernel_rfl
  m17 := by kernel_rfl
  m18 := by kernel_rfl
  m19 := by kernel_rfl }

open Go.RowKit Go.Sort Go.Lib in
theorem Tryz.strconv_Itoa (n : Int) (h0 : -9223372036854775808 ≤ n) (h1 : n ≤ 9223372036854775807) (w : World) (htab : Lib.TabIs Tryz.prog w "internal/strconv.uint64pow10" .u64 Lib.pow10Tab) :
    Calls Tryz.prog 63 #[.int .i64 n] w fun e w' => e = .returned (.string ⟨(Lib.itoa n).toArray⟩) ∧ ∃ k os, w' = grow (w.drewN k) os := Any.strconv_Itoa Tryz.laysM171 n h0 h1 w htab

def Tryz.laysC172_ren : Go.Shelf.Ren := ⟨fun | 172 => 78 | 244 => 121 | 245 => 122 | 247 => 153 | 279 => 154 | 280 => 155 | 281 => 156 | 282 => 157 | 287 => 195 | 316 => 196 | 171 => 63 | 205 => 197 | 321 => 221 | 322 => 222 | 243 => 111 | 246 => 141 | 283 => 175 | 284 => 176 | 285 => 177 | 286 => 178 | 129 => 173 | 317 => 212 | 318 => 213 | 319 => 214 | 320 => 215 | 337 => 227 | 338 => 228 | n => n, fun | 9 => 9 | 3 => 3 | 75 => 128 | 76 => 129 | 4 => 4 | 5 => 5 | 167 => 218 | 37 => 124 | 0 => 0 | 85 => 219 | 2 => 2 | 168 => 221 | 53 => 226 | 175 => 255 | 46 => 153 | 210 => 258 | 127 => 188 | 145 => 280 | 143 => 278 | 21 => 21 | 171 => 242 | 173 => 244 | 212 => 272 | 51 => 193 | 20 => 20 | 213 => 273 | 232 => 292 | 233 => 293 | 80 => 136 | n => n, fun | 15 => 1 | 16 => 2 | 17 => 3 | 18 => 6 | 19 => 7 | n => n⟩

theorem Tryz.laysC172 : Go.Proofs.LaysC.n172 Tryz.prog Tryz.laysC172_ren := {
  mixed := by kernel_rfl
  f129 := Tryz.func173.trans (congrArg some (by kernel_rfl))
  f171 := Tryz.func63.trans (congrArg some (by kernel_rfl))
  f172 := Tryz.func78.trans (congrArg some (by kernel_rfl))
  f205 := Tryz.func197.trans (congrArg some (by kernel_rfl))
  f243 := Tryz.func111.trans (congrArg some (by kernel_rfl))
  f244 := Tryz.func121.trans (congrArg some (by kernel_rfl))
  f245 := Tryz.func122.trans (congrArg some (by kernel_rfl))
  f246 := Tryz.func141.trans (congrArg some (by kernel_rfl))
  f247 := Tryz.func153.trans (congrArg some (by kernel_rfl))
  f279 := Tryz.func154.trans (congrArg some (by kernel_rfl))
  f280 := Tryz.func155.trans (congrArg some (by kernel_rfl))
  f281 := Tryz.func156.trans (congrArg some (by kernel_rfl))
  f282 := Tryz.func157.trans (congrArg some (by kernel_rfl))
  f283 := Tryz.func175.trans (congrArg some (by kernel_rfl))
  f284 := Tryz.func176.trans (congrArg some (by kernel_rfl))
  f285 := Tryz.func177.trans (congrArg some (by kernel_rfl))
  f286 := Tryz.func178.trans (congrArg some (by kernel_rfl))
  f287 := Tryz.func195.trans (congrArg some (by kernel_rfl))
  f316 := Tryz.func196.trans (congrArg some (by kernel_rfl))
  f317 := Tryz.func212.trans (congrArg some (by kernel_rfl))
  f318 := Tryz.func213.trans (congrArg some (by kernel_rfl))
  f319 := Tryz.func214.trans (congrArg some (by kernel_rfl))
  f320 := Tryz.func215.trans (congrArg some (by kernel_rfl))
  f321 := Tryz.func221.trans (congrArg some (by kernel_rfl))
  f322 := Tryz.func222.trans (congrArg some (by kernel_rfl))
  f337 := Tryz.func227.trans (congrArg some (by kernel_rfl))
  f338 := Tryz.func228.trans (congrArg some (by kernel_rfl))
  t0 := Tryz.underlying0
  a0 := Tryz.isAgg0
  z0 := Tryz.sizeOf0
  v0 := Tryz.zeroValue0
  t2 := Tryz.underlying2
  a2 := Tryz.isAgg2
  z2 := Tryz.sizeOf2
  v2 := Tryz.zeroValue2
  t3 := Tryz.underlying3
  a3 := Tryz.isAgg3
  z3 := Tryz.sizeOf3
  v3 := Tryz.zeroValue3
  t4 := Tryz.underlying4
  a4 := Tryz.isAgg4
  z4 := Tryz.sizeOf4
  v4 := Tryz.zeroValue4
  t5 := Tryz.underlying5
  a5 := Tryz.isAgg5
  z5 := Tryz.sizeOf5
  v5 := Tryz.zeroValue5
  t9 := Tryz.underlying9
  a9 := Tryz.isAgg9
  z9 := Tryz.sizeOf9
  v9 := Tryz.zeroValue9
  t20 := Tryz.underlying20
  a20 := Tryz.isAgg20
  z20 := Tryz.sizeOf20
  v20 := Tryz.zeroValue20
  t21 := Tryz.underlying21
  a21 := Tryz.isAgg21
  z21 := Tryz.sizeOf21
  v21 := Tryz.zeroValue21
  t37 := Tryz.underlying124
  a37 := Tryz.isAgg124
  z37 := Tryz.sizeOf124
  v37 := Tryz.zeroValue124
  t46 := Tryz.underlying153
  a46 := Tryz.isAgg153
  z46 := Tryz.sizeOf153
  v46 := Tryz.zeroValue153
  t51 := Tryz.underlying193
  a51 := Tryz.isAgg193
  z51 := Tryz.sizeOf193
  v51 := Tryz.zeroValue193
  t53 := Tryz.underlying226
  a53 := Tryz.isAgg226
  z53 := Tryz.sizeOf226
  v53 := Tryz.zeroValue226
  t75 := Tryz.underlying128
  a75 := Tryz.isAgg128
  z75 := Tryz.sizeOf128
  v75 := Tryz.zeroValue128
  t76 := Tryz.underlying129
  a76 := Tryz.isAgg129
  z76 := Tryz.sizeOf129
  v76 := Tryz.zeroValue129
  t85 := Tryz.underlying219
  a85 := Tryz.isAgg219
  z85 := Tryz.sizeOf219
  v85 := Tryz.zeroValue219
  t127 := Tryz.underlying188
  a127 := Tryz.isAgg188
  z127 := Tryz.sizeOf188
  v127 := Tryz.zeroValue188
  t143 := Tryz.underlying278
  a143 := Tryz.isAgg278
  z143 := Tryz.sizeOf278
  v143 := Tryz.zeroValue278
  t145 := Tryz.underlying280
  a145 := Tryz.isAgg280
  z145 := Tryz.sizeOf280
  v145 := Tryz.zeroValue280
  t167 := Tryz.underlying218
  a167 := Tryz.isAgg218
  z167 := Tryz.sizeOf218
  v167 := Tryz.zeroValue218
  t168 := Tryz.underlying221
  a168 := Tryz.isAgg221
  z168 := Tryz.sizeOf221
  v168 := Tryz.zeroValue221
  t171 := Tryz.underlying242
  a171 := Tryz.isAgg242
  z171 := Tryz.sizeOf242
  v171 := Tryz.zeroValue242
  t173 := Tryz.underlying244
  a173 := Tryz.isAgg244
  z173 := Tryz.sizeOf244
  v173 := Tryz.zeroValue244
  t175 := Tryz.underlying255
  a175 := Tryz.isAgg255
  z175 := Tryz.sizeOf255
  v175 := Tryz.zeroValue255
  t210 := Tryz.underlying258
  a210 := Tryz.isAgg258
  z210 := Tryz.sizeOf258
  v210 := Tryz.zeroValue258
  t212 := Tryz.underlying272
  a212 := Tryz.isAgg272
  z212 := Tryz.sizeOf272
  v212 := Tryz.zeroValue272
  t213 := Tryz.underlying273
  a213 := Tryz.isAgg273
  z213 := Tryz.sizeOf273
  t232 := Tryz.underlying292
  a232 := Tryz.isAgg292
  z232 := Tryz.sizeOf292
  v232 := Tryz.zeroValue292
  t233 := Tryz.underlying293
  a233 := Tryz.isAgg293
  z233 := Tryz.sizeOf293
  v233 := Tryz.zeroValue293
  g15 := by kernel_rfl
  g16 := by kernel_rfl
  g17 := by kernel_rfl
  g18 := by kernel_rfl
  g19 := by kernel_rfl
  t80 := Tryz.underlying136
  a80 := Tryz.isAgg136
  z80 := Tryz.sizeOf136
  v80 := Tryz.zeroValue136
  i0 := by kernel_rfl
  i2 := by kernel_rfl
  i3 := by kernel_rfl
  i4 := by kernel_rfl
  i5 := by kernel_rfl
  i9 := by kernel_rfl
  i20 := by kernel_rfl
  i21 := by kernel_rfl
  i37 := by kernel_rfl
  i46 := by kernel_rfl
  i51 := by kernel_rfl
  i53 := by kernel_rfl
  i75 := by kernel_rfl
  i76 := by kernel_rfl
  i80 := by kernel_rfl
  i85 := by kernel_rfl
  i127 := by kernel_rfl
  i143 := by kernel_rfl
  i145 := by kernel_rfl
  i167 := by kernel_rfl
  i168 := by kernel_rfl
  i171 := by kernel_rfl
  i173 := by kernel_rfl
  i175 := by kernel_rfl
  i210 := by kernel_rfl
  i212 := by kernel_rfl
  i232 := by kernel_rfl
  i233 := by kernel_rfl
  m15 := by kernel_rfl
  m16 := by kernel_rfl
  m17 := by kernel_rfl
  m18 := by kernel_rfl
  m19 := by kernel_rfl
  c0 := by kernel_rfl
  c2 := by kernel_rfl
  c3 := by kernel_rfl
  c4 := by kernel_rfl
  c5 := by kernel_rfl
  c9 := by kernel_rfl
  c20 := by kernel_rfl
  c21 := by kernel_rfl
  c37 := by kernel_rfl
  c46 := by kernel_rfl
  c51 := by kernel_rfl
  c53 := by kernel_rfl
  c75 := by kernel_rfl
  c76 := by kernel_rfl
  c80 := by kernel_rfl
  c85 := by kernel_rfl
  c127 := by kernel_rfl
  c143 := by kernel_rfl
  c145 := by kernel_rfl
  c167 := by kernel_rfl
  c168 := by kernel_rfl
  c171 := by kernel_rfl
  c173 := by kernel_rfl
  c175 := by kernel_rfl
  c210 := by kernel_rfl
  c212 := by kernel_rfl
  c213 := by kernel_rfl
  c232 := by kernel_rfl
  c233 := by kernel_rfl }

open Go.RowKit in
theorem Tryz.strconv_Atoi_ok (s : ByteArray) (hmax : s.size ≤ 9223372036854775806) (v : Int) (h : Lib.atoiAll s.data.toList = .ok v) (w : World) :
    Calls Tryz.prog 78 #[.string s] w fun e w' => e = .returned (.tuple #[.int .i64 v, .nilIface]) ∧ (w' = w ∨ ∃ t, w' = Lib.bytesWorld w 5 t) := Any.strconv_Atoi_ok Tryz.laysC172 s hmax v h w

open Go.RowKit in
theorem Tryz.strconv_Atoi_syntax (s : ByteArray) (hlim : s.size ≤ 281474976710656) (h : Lib.atoiAll s.data.toList = Lib.atoiAll []) (ev : Value) (w : World) (hv : w.cell? ⟨1, 0, none⟩ = some ev) (hev : ev = .nilIface ∨ ∃ te pe, ev = .iface te pe) :
    Calls Tryz.prog 78 #[.string s] w fun e w' => ∃ N, e = .returned (.tuple #[.int .i64 (0), .iface 221 (.pointer (some ⟨N, 0, none⟩))]) ∧ w.heap.size ≤ N ∧ w'.heap[N]? = some (.cells #[.string ⟨#[65, 116, 111, 105]⟩, .string s, ev] 258 (0, 0)) ∧ Below w.heap.size w w' := Any.strconv_Atoi_syntax Tryz.laysC172 s hlim h ev w hv hev

open Go.RowKit in
theorem Tryz.strconv_Atoi_range (s : ByteArray) (hlim : s.size ≤ 281474976710656) (h : Lib.atoiAll s.data.toList = .range) (ev : Value) (w : World) (hv : w.cell? ⟨2, 0, none⟩ = some ev) (hev : ev = .nilIface ∨ ∃ te pe, ev = .iface te pe) :
    Calls Tryz.prog 78 #[.string s] w fun e w' => ∃ N, e = .returned (.tuple #[.int .i64 (Lib.atoiSat s.data.toList), .iface 221 (.pointer (some ⟨N, 0, none⟩))]) ∧ w.heap.size ≤ N ∧ w'.heap[N]? = some (.cells #[.string ⟨#[65, 116, 111, 105]⟩, .string s, ev] 258 (0, 0)) ∧ Below w.heap.size w w' := Any.strconv_Atoi_range Tryz.laysC172 s hlim h ev w hv hev

def Tryz.lays145_ren : Go.Shelf.Ren := ⟨fun | 145 => 75 | 220 => 118 | 219 => 148 | 217 => 120 | 225 => 189 | 224 => 190 | 267 => 191 | 266 => 152 | 314 => 219 | n => n, fun | 9 => 9 | 4 => 4 | 59 => 149 | 3 => 3 | 5 => 5 | 46 => 153 | 146 => 224 | 51 => 193 | n => n, fun | 1 => 0 | n => n⟩

theorem Tryz.lays145 : Go.Proofs.Lays.n145 Tryz.prog Tryz.lays145_ren := {
  mixed := by kernel_rfl
  f145 := Tryz.func75.trans (congrArg some (by kernel_rfl))
  f217 := Tryz.func120.trans (congrArg some (by kernel_rfl))
  f219 := Tryz.func148.trans (congrArg some (by kernel_rfl))
  f220 := Tryz.func118.trans (congrArg some (by kernel_rfl))
  f224 := Tryz.func190.trans (congrArg some (by kernel_rfl))
  f225 := Tryz.func189.trans (congrArg some (by kernel_rfl))
  f266 := Tryz.func152.trans (congrArg some (by kernel_rfl))
  f267 := Tryz.func191.trans (congrArg some (by kernel_rfl))
  f314 := Tryz.func219.trans (congrArg some (by kernel_rfl))
  t3 := Tryz.underlying3
  a3 := Tryz.isAgg3
  z3 := Tryz.sizeOf3
  v3 := Tryz.zeroValue3
  t4 := Tryz.underlying4
  a4 := Tryz.isAgg4
  z4 := Tryz.sizeOf4
  v4 := Tryz.zeroValue4
  t5 := Tryz.underlying5
  a5 := Tryz.isAgg5
  z5 := Tryz.sizeOf5
  v5 := Tryz.zeroValue5
  t9 := Tryz.underlying9
  a9 := Tryz.isAgg9
  z9 := Tryz.sizeOf9
  v9 := Tryz.zeroValue9
  t46 := Tryz.underlying153
  a46 := Tryz.isAgg153
  z46 := Tryz.sizeOf153
  v46 := Tryz.zeroValue153
  t51 := Tryz.underlying193
  a51 := Tryz.isAgg193
  z51 := Tryz.sizeOf193
  v51 := Tryz.zeroValue193
  t59 := Tryz.underlying149
  a59 := Tryz.isAgg149
  z59 := Tryz.sizeOf149
  v59 := Tryz.zeroValue149
  t146 := Tryz.underlying224
  a146 := Tryz.isAgg224
  z146 := Tryz.sizeOf224
  v146 := Tryz.zeroValue224
  g1 := by kernel_rfl }

open Go.RowKit Go.Lib in
theorem Tryz.strings_Cut (s sep : ByteArray) (m : Int) (w : World) (hs : s.size < 4294967281) (hm : w.cell? ⟨0, 0, none⟩ = some (.int .i64 m)) :
    Calls Tryz.prog 75 #[.string s, .string sep] w fun e w' => e = .returned (.tuple #[.string ⟨(Lib.cut s.data.toList sep.data.toList).1.toArray⟩, .string ⟨(Lib.cut s.data.toList sep.data.toList).2.1.toArray⟩, .bool (Lib.cut s.data.toList sep.data.toList).2.2]) ∧ ∃ n, w' = w.drewN n := Any.strings_Cut Tryz.lays145 s sep m w hs hm

def Tryz.lays101_ren : Go.Shelf.Ren := ⟨fun | 101 => 79 | 208 => 123 | 206 => 158 | n => n, fun | 9 => 9 | 4 => 4 | 3 => 3 | n => n, fun | n => n⟩

theorem Tryz.lays101 : Go.Proofs.Lays.n101 Tryz.prog Tryz.lays101_ren := {
  mixed := by kernel_rfl
  f101 := Tryz.func79.trans (congrArg some (by kernel_rfl))
  f206 := Tryz.func158.trans (congrArg some (by kernel_rfl))
  f208 := Tryz.func123.trans (congrArg some (by kernel_rfl))
  t3 := Tryz.underlying3
  a3 := Tryz.isAgg3
  z3 := Tryz.sizeOf3
  v3 := Tryz.zeroValue3
  t4 := Tryz.underlying4
  a4 := Tryz.isAgg4
  z4 := Tryz.sizeOf4
  v4 := Tryz.zeroValue4
  t9 := Tryz.underlying9
  a9 := Tryz.isAgg9
  z9 := Tryz.sizeOf9
  v9 := Tryz.zeroValue9 }

open Go.RowKit Go.Lib in
theorem Tryz.strings_TrimPrefix (s p : ByteArray) (w : World) :
    Calls Tryz.prog 79 #[.string s, .string p] w fun e w' => e = .returned (.string ⟨(Lib.trimPrefix s.data.toList p.data.toList).toArray⟩) ∧ w' = w := Any.strings_TrimPrefix Tryz.lays101 s p w

def Tryz.lays146_ren : Go.Shelf.Ren := ⟨fun | 146 => 76 | 221 => 119 | 268 => 149 | 138 => 150 | 143 => 151 | 195 => 192 | 197 => 193 | 218 => 194 | 219 => 148 | 260 => 220 | 217 => 120 | 225 => 189 | 224 => 190 | 267 => 191 | 266 => 152 | 314 => 219 | n => n, fun | 9 => 9 | 31 => 68 | 3 => 3 | 4 => 4 | 0 => 0 | 105 => 253 | 21 => 21 | 5 => 5 | 46 => 153 | 119 => 287 | 139 => 290 | 138 => 289 | 146 => 224 | 51 => 193 | n => n, fun | 1 => 0 | 3 => 4 | 4 => 5 | n => n⟩

theorem Tryz.lays146 : Go.Proofs.Lays.n146 Tryz.prog Tryz.lays146_ren := {
  mixed := by kernel_rfl
  f138 := Tryz.func150.trans (congrArg some (by kernel_rfl))
  f143 := Tryz.func151.trans (congrArg some (by kernel_rfl))
  f146 := Tryz.func76.trans (congrArg some (by kernel_rfl))
  f195 := Tryz.func192.trans (congrArg some (by kernel_rfl))
  f197 := Tryz.func193.trans (congrArg some (by kernel_rfl))
  f217 := Tryz.func120.trans (congrArg some (by kernel_rfl))
  f218 := Tryz.func194.trans (congrArg some (by kernel_rfl))
  f219 := Tryz.func148.trans (congrArg some (by kernel_rfl))
  f221 := Tryz.func119.trans (congrArg some (by kernel_rfl))
  f224 := Tryz.func190.trans (congrArg some (by kernel_rfl))
  f225 := Tryz.func189.trans (congrArg some (by kernel_rfl))
  f260 := Tryz.func220.trans (congrArg some (by kernel_rfl))
  f266 := Tryz.func152.trans (congrArg some (by kernel_rfl))
  f267 := Tryz.func191.trans (congrArg some (by kernel_rfl))
  f268 := Tryz.func149.trans (congrArg some (by kernel_rfl))
  f314 := Tryz.func219.trans (congrArg some (by kernel_rfl))
  t0 := Tryz.underlying0
  a0 := Tryz.isAgg0
  z0 := Tryz.sizeOf0
  v0 := Tryz.zeroValue0
  t3 := Tryz.underlying3
  a3 := Tryz.isAgg3
  z3 := Tryz.sizeOf3
  v3 := Tryz.zeroValue3
  t4 := Tryz.underlying4
  a4 := Tryz.isAgg4
  z4 := Tryz.sizeOf4
  v4 := Tryz.zeroValue4
  t5 := Tryz.underlying5
  a5 := Tryz.isAgg5
  z5 := Tryz.sizeOf5
  v5 := Tryz.zeroValue5
  t9 := Tryz.underlying9
  a9 := Tryz.isAgg9
  z9 := Tryz.sizeOf9
  v9 := Tryz.zeroValue9
  t21 := Tryz.underlying21
  a21 := Tryz.isAgg21
  z21 := Tryz.sizeOf21
  v21 := Tryz.zeroValue21
  t31 := Tryz.underlying68
  a31 := Tryz.isAgg68
  z31 := Tryz.sizeOf68
  v31 := Tryz.zeroValue68
  t46 := Tryz.underlying153
  a46 := Tryz.isAgg153
  z46 := Tryz.sizeOf153
  v46 := Tryz.zeroValue153
  t51 := Tryz.underlying193
  a51 := Tryz.isAgg193
  z51 := Tryz.sizeOf193
  v51 := Tryz.zeroValue193
  t105 := Tryz.underlying253
  a105 := Tryz.isAgg253
  z105 := Tryz.sizeOf253
  v105 := Tryz.zeroValue253
  t119 := Tryz.underlying287
  a119 := Tryz.isAgg287
  z119 := Tryz.sizeOf287
  t138 := Tryz.underlying289
  a138 := Tryz.isAgg289
  z138 := Tryz.sizeOf289
  v138 := Tryz.zeroValue289
  t139 := Tryz.underlying290
  a139 := Tryz.isAgg290
  z139 := Tryz.sizeOf290
  v139 := Tryz.zeroValue290
  t146 := Tryz.underlying224
  a146 := Tryz.isAgg224
  z146 := Tryz.sizeOf224
  v146 := Tryz.zeroValue224
  g1 := by kernel_rfl
  g3 := by kernel_rfl
  g4 := by kernel_rfl }

open Go.RowKit Go.Lib in
theorem Tryz.strings_Split (s sep : ByteArray) (m : Int) (w : World) (hs : s.size < 4294967281) (hm : w.cell? ⟨0, 0, none⟩ = some (.int .i64 m)) (h1 : 1 ≤ sep.size) :
    Calls Tryz.prog 76 #[.string s, .string sep] w fun e w' =>
      e = .returned (.slice (some ⟨w.heap.size, 0, none⟩) (Lib.countB s sep + 1) (Lib.countB s sep + 1)) ∧ w' = w.alloc (.cells ((Lib.splitB sep 0 (Lib.countB s sep) s).map Value.string).toArray 9) := Any.strings_Split Tryz.lays146 (by kernel_rfl) s sep m w hs hm h1

end Go.Proofs

/- ZkW2: contracts: the library's functions on texts and numbers. -/
namespace Go.Pm
open Go Go.Proofs

/-- A call by what the kit's contract says. -/
theorem pcalls_of {P : Prg} {f : FuncId} {xs : List AV} {v : AV} (hf : ∃ fn, P.funcs[f]? = some fn ∧ fn.body.isSome = true ∧ (fn.name == "runtime.NumGoroutine") = false) (hv : v.perm = true)
    (h : ∀ (K : Bool → Nat → Prop) (w : World) (vals : List Value), VRs [] K w xs vals → P.lies w → Calls P f vals.toArray w fun e w' => ∃ u, e = .returned u ∧ w.grownBy w' none ∧ VR [] (fun p b => K p b ∨ w.heap.size ≤ b ∧ b < w'.heap.size) w' v u) : PCalls P f xs fun out => out = .ret v :=
  ⟨hf, fun K w vals _ hx hl => (h K w vals hx hl).mono fun _ w' ⟨u, he, hg, hV⟩ => ⟨fun p b => K p b ∨ w.heap.size ≤ b ∧ b < w'.heap.size, .ret v, rfl, hv, hg, fun _ _ h => .inl h, fun _ _ h => h, u, he, hV⟩⟩

theorem grown_drewN (w : World) (n : Nat) : w.grownBy (w.drewN n) none := ⟨rfl, rfl, rfl, Nat.le_refl _, fun _ _ _ => rfl⟩
theorem grown_bytes (w : World) (e : TypeId) (s : ByteArray) : w.grownBy (Lib.bytesWorld w e s) none := ⟨rfl, rfl, rfl, by simp [Lib.bytesWorld, World.freeze, World.alloc, World.drew, -World.alloc_eq, -World.drew_eq], fun k hk _ => Lib.bytesWorld_at_old w e s k hk⟩
theorem grown_grow (w : World) (n : Nat) (os : Array Obj) : w.grownBy (Sort.grow (w.drewN n) os) none := ⟨rfl, rfl, rfl, by simp [Sort.grow, World.drewN], fun k hk _ => by simp [Sort.grow, World.drewN, Array.getElem?_append_left hk]⟩

theorem args1 {K : Bool → Nat → Prop} {w : World} {s : ByteArray} {vals : List Value} (h : VRs [] K w [.str s] vals) : vals = [.string s] := by
  obtain ⟨u, us, rfl, h1, h2⟩ := h
  rw [VR] at h1; rw [VRs] at h2; subst h1; subst h2; rfl
theorem args2 {K : Bool → Nat → Prop} {w : World} {s t : ByteArray} {vals : List Value} (h : VRs [] K w [.str s, .str t] vals) : vals = [.string s, .string t] := by
  obtain ⟨u, us, rfl, h1, h2⟩ := h
  rw [VR] at h1; subst h1; rw [args1 h2]

/-- strings.Cut. -/
theorem call75 {s t : ByteArray} (hs : s.size < 4294967281) : PCalls Zk.pg 75 [.str s, .str t] fun out => out = .ret (.tuple [.str ⟨(Lib.cut s.data.toList t.data.toList).1.toArray⟩, .str ⟨(Lib.cut s.data.toList t.data.toList).2.1.toArray⟩, .bool (Lib.cut s.data.toList t.data.toList).2.2]) := by
  refine pcalls_of ⟨Tryz.f75, Tryz.func75, by kernel_rfl, by kernel_rfl⟩ rfl fun K w vals hx hl => ?_
  obtain ⟨⟨m, hm⟩, _⟩ := hl.1
  rw [args2 hx]
  refine (Tryz.strings_Cut s t m w hs hm).mono ?_
  rintro e w' ⟨rfl, n, rfl⟩
  exact ⟨_, rfl, grown_drewN w n, by rw [VR]; exact ⟨_, rfl, by simp [VRs, VR]⟩⟩

/-- strings.IndexByte. -/
theorem call77 {s : ByteArray} {c : Int} : PCalls Zk.pg 77 [.str s, .int .u8 c] fun out => out = .ret (.int .i64 (Lib.indexByte s.data.toList c.toNat.toUInt8)) := by
  refine pcalls_of ⟨Tryz.f77, Tryz.func77, by kernel_rfl, by kernel_rfl⟩ rfl fun K w vals hx hl => ?_
  obtain ⟨u, us, rfl, h1, u2, us2, rfl, h2, h3⟩ := hx
  rw [VR] at h1
  rw [VR] at h2
  rw [VRs] at h3
  subst h1; subst h2; subst h3
  refine (Tryz.strings_IndexByte s c w).mono ?_
  rintro e w' ⟨rfl, rfl⟩
  exact ⟨_, rfl, ⟨rfl, rfl, rfl, Nat.le_refl _, fun _ _ _ => rfl⟩, by rw [VR]⟩

/-- strings.TrimPrefix. -/
theorem call79 {s t : ByteArray} : PCalls Zk.pg 79 [.str s, .str t] fun out => out = .ret (.str ⟨(Lib.trimPrefix s.data.toList t.data.toList).toArray⟩) := by
  refine pcalls_of ⟨Tryz.f79, Tryz.func79, by kernel_rfl, by kernel_rfl⟩ rfl fun K w vals hx hl => ?_
  rw [args2 hx]
  refine (Tryz.strings_TrimPrefix s t w).mono ?_
  rintro e w' ⟨rfl, rfl⟩
  exact ⟨_, rfl, ⟨rfl, rfl, rfl, Nat.le_refl _, fun _ _ _ => rfl⟩, by rw [VR]⟩

/-- strconv.Itoa. -/
theorem call63 {n : Int} (h0 : -9223372036854775808 ≤ n) (h1 : n ≤ 9223372036854775807) : PCalls Zk.pg 63 [.int .i64 n] fun out => out = .ret (.str ⟨(Lib.itoa n).toArray⟩) := by
  refine pcalls_of ⟨Tryz.f63, Tryz.func63, by kernel_rfl, by kernel_rfl⟩ rfl fun K w vals hx hl => ?_
  obtain ⟨_, _, _, ht⟩ := hl.1
  obtain ⟨u, us, rfl, h2, h3⟩ := hx
  rw [VR] at h2; rw [VRs] at h3; subst h2; subst h3
  refine (Tryz.strconv_Itoa n h0 h1 w ht).mono ?_
  rintro e w' ⟨rfl, k, os, rfl⟩
  exact ⟨_, rfl, grown_grow w k os, by rw [VR]⟩

/-- strings.Split: a new row of texts. -/
theorem call76 {s t : ByteArray} (hs : s.size < 4294967281) (ht : 1 ≤ t.size) : PCalls Zk.pg 76 [.str s, .str t] fun out => out = .ret (.list true 1 ((Lib.splitB t 0 (Lib.countB s t) s).map fun x => [.str x])) := by
  refine pcalls_of ⟨Tryz.f76, Tryz.func76, by kernel_rfl, by kernel_rfl⟩ ?_ fun K w vals hx hl => ?_
  · have : ∀ l : List ByteArray, permLL (l.map fun x => [AV.str x]) = true := by
      intro l; induction l with
      | nil => rfl
      | cons x l ih => simp [permLL, permL, AV.perm, ih]
    simp [AV.perm, this]
  obtain ⟨⟨m, hm⟩, _⟩ := hl.1
  rw [args2 hx]
  refine (Tryz.strings_Split s t m w hs hm ht).mono ?_
  rintro e w' ⟨rfl, rfl⟩
  have hlen := Lib.splitB_all t ht 0 (Lib.countB s t) s rfl
  refine ⟨_, rfl, World.grownBy_alloc _ _ _, ?_⟩
  rw [VR]
  refine ⟨some ⟨w.heap.size, 0, none⟩, Lib.countB s t + 1, w.heap.size, 0, by rw [List.length_map, hlen], by rw [List.length_map, hlen]; exact Nat.le_refl _, .inr ⟨rfl, .inr ⟨Nat.le_refl _, by rw [World.size_alloc]; omega⟩⟩, ?_⟩
  rw [LR_iff]
  intro i c hi
  rw [List.getElem?_map] at hi
  cases hx : (Lib.splitB t 0 (Lib.countB s t) s)[i]? with
  | none => rw [hx] at hi; simp at hi
  | some x =>
    rw [hx] at hi; simp only [Option.map_some, Option.some.injEq] at hi; subst hi
    refine ⟨rfl, ?_⟩
    simp only [CR, and_true]
    refine ⟨.string x, ?_, rfl, by rw [VR]⟩
    have hb := World.alloc_heap_new w (.cells ((Lib.splitB t 0 (Lib.countB s t) s).map Value.string).toArray 9)
    unfold World.cell?
    simp only [hb]
    simp [hx]

theorem grown_same (w : World) : w.grownBy w none := ⟨rfl, rfl, rfl, Nat.le_refl _, fun _ _ _ => rfl⟩
theorem grown_below {w w' : World} (h : RowKit.Below w.heap.size w w') : w.grownBy w' none := ⟨h.os, h.tape, h.output, h.size, fun k hk _ => h.block k hk⟩

/-- What strconv.Atoi tells of a text: a number, and whether it is one. -/
def atoiN (s : ByteArray) : Int × Bool := match Lib.atoiAll s.data.toList with
  | .ok v => (v, true)
  | .range => (Lib.atoiSat s.data.toList, false)
  | _ => (0, false)
def atoiE : Bool → AV
  | true => .const .nilIface
  | false => .iface 221 .any

/-- strconv.Atoi. -/
theorem call78 {s : ByteArray} (hs : s.size ≤ 281474976710656) : PCalls Zk.pg 78 [.str s] fun out => out = .ret (.tuple [.int .i64 (atoiN s).1, atoiE (atoiN s).2]) := by
  refine pcalls_of ⟨Tryz.f78, Tryz.func78, by kernel_rfl, by kernel_rfl⟩ (by cases (atoiN s).2 <;> rfl) fun K w vals hx hl => ?_
  obtain ⟨_, ⟨e1, h1, h1'⟩, ⟨e2, h2, h2'⟩, _⟩ := hl.1
  rw [args1 hx]
  cases h : Lib.atoiAll s.data.toList with
  | ok v =>
    have e : atoiN s = (v, true) := by simp [atoiN, h]
    rw [e]
    refine (Tryz.strconv_Atoi_ok s (by omega) v h w).mono ?_
    rintro e w' ⟨rfl, hw⟩
    refine ⟨_, rfl, ?_, by rw [VR]; exact ⟨_, rfl, by simp [VRs, VR, atoiE]⟩⟩
    rcases hw with rfl | ⟨t, rfl⟩
    · exact grown_same _
    · exact grown_bytes w 5 t
  | range =>
    have e : atoiN s = (Lib.atoiSat s.data.toList, false) := by simp [atoiN, h]
    rw [e]
    refine (Tryz.strconv_Atoi_range s hs h e2 w h2 h2').mono ?_
    rintro e w' ⟨N, rfl, _, _, hb⟩
    exact ⟨_, rfl, grown_below hb, by rw [VR]; exact ⟨_, rfl, _, _, rfl, by rw [VR], _, _, rfl, by rw [atoiE, VR]; exact ⟨_, rfl, by rw [VR]; trivial⟩, rfl⟩⟩
  | _ =>
    have e : atoiN s = (0, false) := by simp [atoiN, h]
    rw [e]
    refine (Tryz.strconv_Atoi_syntax s hs h e1 w h1 h1').mono ?_
    rintro e w' ⟨N, rfl, _, _, hb⟩
    exact ⟨_, rfl, grown_below hb, by rw [VR]; exact ⟨_, rfl, _, _, rfl, by rw [VR], _, _, rfl, by rw [atoiE, VR]; exact ⟨_, rfl, by rw [VR]; trivial⟩, rfl⟩⟩

end Go.Pm

/- ZkV0: plain: how the reference reads numbers, words, lines, figures. -/
namespace Go.Pm
open Go Go.Proofs

def isDig (c : UInt8) : Bool := decide (48 ≤ c.toNat) && decide (c.toNat ≤ 57)
def valFrom (a : Nat) (l : List UInt8) : Nat := l.foldl (fun a c => a * 10 + (c.toNat - 48)) a
/-- The reference's reading of a number. -/
def tailN (s : List UInt8) : List UInt8 := if s.head? = some 45 then s.tail else s
def numRL (s : List UInt8) : Option Int :=
  if (tailN s).length < 1 ∨ 10 < (tailN s).length ∨ ((tailN s).head? = some 48 ∧ (1 < (tailN s).length ∨ 1 < s.length)) then none
  else if (tailN s).all isDig then some (if (tailN s).length < s.length then -(valFrom 0 (tailN s) : Int) else valFrom 0 (tailN s)) else none

theorem val_lt : ∀ (l : List UInt8) (a : Nat), l.all isDig = true → valFrom a l < (a + 1) * 10 ^ l.length
  | [], a, _ => by simp [valFrom]
  | c :: l, a, hd => by
    rw [List.all_cons, Bool.and_eq_true] at hd
    have hc : 48 ≤ c.toNat ∧ c.toNat ≤ 57 := by simpa [isDig] using hd.1
    have := val_lt l (a * 10 + (c.toNat - 48)) hd.2
    refine Nat.lt_of_lt_of_le this ?_
    rw [List.length_cons, Nat.pow_succ, Nat.mul_comm (10 ^ l.length) 10, ← Nat.mul_assoc]
    exact Nat.mul_le_mul_right _ (by omega)

def mkB (l : List UInt8) : ByteArray := ⟨l.toArray⟩
@[simp] theorem mkB_data (s : ByteArray) : mkB s.data.toList = s := rfl
@[simp] theorem data_mkB (l : List UInt8) : (mkB l).data.toList = l := rfl

/-- A line's words: what is between blanks; acc: what the first one has so far. -/
def splW : List UInt8 → List UInt8 → List (List UInt8)
  | acc, [] => [acc]
  | acc, b :: t => if b = 32 then acc :: splW [] t else splW (acc ++ [b]) t
def consHead (a : List UInt8) : List (List UInt8) → List (List UInt8)
  | [] => []
  | x :: xs => (a ++ x) :: xs
theorem splW_acc (a : List UInt8) : ∀ (l acc : List UInt8), splW (a ++ acc) l = consHead a (splW acc l)
  | [], _ => rfl
  | b :: t, acc => by
    unfold splW
    split
    · rfl
    · rw [List.append_assoc]; exact splW_acc a t (acc ++ [b])

/-- The next line, and what is behind it. -/
def cutN : List UInt8 → Option (List UInt8 × List UInt8)
  | [] => none
  | b :: t => if b = 10 then some ([], t) else (cutN t).map fun p => (b :: p.1, p.2)

/-- The reference's hexadecimal figure. -/
def digitF (c : UInt8) : Int := if 48 ≤ c.toNat ∧ c.toNat ≤ 57 then (c.toNat : Int) - 48 else if 65 ≤ c.toNat ∧ c.toNat ≤ 70 then (c.toNat : Int) - 65 + 10 else -1
end Go.Pm

/- ZkT2: contracts: texts joined; a line written. -/
namespace Go.Pm
open Go Go.Proofs
attribute [-simp] List.getElem?_map

theorem Rel.nil_elem {β : Base} {K : Bool → Nat → Prop} {σ : Sig} {m : Mem} {w : World} (h : Rel β K σ m w) {pos g e sz : Nat} {els : List (List AV)} {vs : List AV} (i j et : Nat) {sz2 : Nat} (hsz : 0 < sz2) (hp : m.store[pos]? = some (g, .row e sz els)) (hi : els[i]? = some vs) (hj : vs[j]? = some .nilS) :
    Rel β K (σ ++ [(none, 0)]) ((m.new (.row et sz2 [])).put pos g (.row e sz (els.set i (vs.set j (.row m.store.length m.next sz2 0 0))))) w := by
  obtain ⟨h1, h2⟩ := h.nil_row et hsz
  have hlt := (List.getElem?_eq_some_iff.1 hp).1
  have hp' : (m.new (.row et sz2 [])).store[pos]? = some (g, .row e sz els) := by
    simp only [Mem.new]
    rw [List.getElem?_append_left hlt]
    exact hp
  obtain ⟨s, hs, ho⟩ := h1.objs pos g _ hp'
  refine h1.put hp' hs ⟨rfl, rfl, rfl, Nat.le_refl _, fun _ _ _ => rfl⟩ ?_
  obtain ⟨b, c⟩ := s
  cases b with
  | none =>
    obtain ⟨h3, _⟩ := ho
    subst h3
    cases hi
  | some b =>
    obtain ⟨cur, hb, hl, hcap, hmax, h0, hlr⟩ := ho
    refine ⟨cur, hb, hl, by rw [List.length_set]; exact hcap, hmax, h0, LR_iff.2 fun k x hk => ?_⟩
    rw [List.getElem?_set] at hk
    split at hk
    · rename_i hik
      subst hik
      split at hk
      · injection hk with hk; subst hk
        obtain ⟨g1, g2⟩ := LR_iff.1 hlr i _ hi
        refine ⟨by rw [List.length_set]; exact g1, CR_iff.2 fun k x hk => ?_⟩
        rw [List.getElem?_set] at hk
        split at hk
        · rename_i hjk
          subst hjk
          split at hk
          · injection hk with hk; subst hk
            obtain ⟨u, hu1, hu2, hu3⟩ := CR_iff.1 g2 j _ hj
            exact ⟨u, hu1, hu2, nil_as_row h2 hu3⟩
          · cases hk
        · exact CR_iff.1 g2 k x hk
      · cases hk
    · exact LR_iff.1 hlr k x hk


/-- A call in a memory that is said otherwise first. -/
theorem ACalls.resay {P : Prg} {f : FuncId} {xs : List AV} {m m2 : Mem} {R : AOut → Mem → Prop} (hs : ∀ (β : Base) (K : Bool → Nat → Prop) (σ : Sig) (w : World), Rel β K σ m w → ∃ σ', σ <+: σ' ∧ Rel β K σ' m2 w) (h : ACalls P f xs m2 R) : ACalls P f xs m R := by
  refine ⟨h.1, fun β K σ w vals hrel hv hβ => ?_⟩
  obtain ⟨σ', hp, hrel2⟩ := hs β K σ w hrel
  refine (h.2 β K σ' w vals hrel2 (VRs.mono hp (fun _ _ h => h) (fun _ _ _ => rfl) _ _ hv) hβ).mono ?_
  rintro e w' ⟨K', σ'', m', out, h1, h2, h3, h4⟩
  exact ⟨K', σ'', m', out, h1, h2, hp.trans h3, h4⟩

theorem mkB_append' (a b : List UInt8) : mkB a ++ mkB b = mkB (a ++ b) := by
  apply ByteArray.ext
  rw [ByteArray.data_append]
  apply Array.ext'
  simp [mkB]
/-- What texts are, joined by a blank. -/
def joinL (xs : List ByteArray) : List UInt8 := Lib.join (xs.map (·.data.toList)) [32]

theorem call61 {p : Bool} {xs : List ByteArray} (hne : xs ≠ []) (hN : xs.length ≤ 140737488355328) (hlen : (joinL xs).length ≤ 140737488355328) : PCalls Zk.pg 61 [.list p 1 (xs.map fun x => [.str x]), .str ⟨#[32]⟩] fun out => out = .ret (.str (mkB (joinL xs))) := by
  refine pcalls_of ⟨Tryz.f61, Tryz.func61, by kernel_rfl, by kernel_rfl⟩ rfl fun K w vals hx hl => ?_
  obtain ⟨u, us, rfl, h1, u2, us2, rfl, h2, h3⟩ := hx
  rw [VR] at h2; rw [VRs] at h3
  subst h2; subst h3
  rw [VR] at h1
  obtain ⟨a, cap, b, o, rfl, hcap, hab, hlr⟩ := h1
  rcases hab with hab | ⟨rfl, hK⟩
  · exact absurd (List.map_eq_nil_iff.1 hab) hne
  rw [List.length_map] at hcap ⊢
  have hcells : ∀ (j : Nat) x, xs[j]? = some x → w.cell? ⟨b, o + j, none⟩ = some (.string x) := by
    intro j x hj
    obtain ⟨_, hc⟩ := LR_iff.1 hlr j [.str x] (by rw [List.getElem?_map, hj]; rfl)
    obtain ⟨u, hu, _, hVu⟩ := CR_iff.1 hc 0 _ rfl
    rw [VR] at hVu
    rw [← hVu, ← hu]
    congr 1
    simp
  have hbk : b < w.heap.size := by
    obtain ⟨x, hx⟩ : ∃ x, xs[0]? = some x := by
      cases xs with
      | nil => exact absurd rfl hne
      | cons x l => exact ⟨x, rfl⟩
    have := hcells 0 x hx
    unfold World.cell? at this
    cases hh : w.heap[b]? with
    | none => simp [hh] at this
    | some ob => exact (Array.getElem?_eq_some_iff.1 hh).1
  refine (Tryz.strings_Join b o cap xs ⟨#[32]⟩ w hcells hbk hN hcap hlen).mono ?_
  rintro e w' ⟨rfl, hb⟩
  exact ⟨_, rfl, grown_below hb, by rw [VR]; rfl⟩

theorem postA_normT {rs : List Res} {R : AOut → Mem → Prop} {e : Env} {m : Mem} : postA rs R .norm e m = postA rs R .ret e m := rfl
/-- A line of parts. -/
def lineT (xs : List ByteArray) : ByteArray := mkB (joinL xs ++ [10])

section
attribute [-simp] Mem.obj Mem.put Mem.turn
theorem call59 (m : Mem) (bpos bgen rpos rgen qpos qgen : Nat) (a : AV) (t : ByteArray) (xs : List ByteArray) (hb : m.obj bpos bgen = some (.row 126 2 [[a, .row rpos rgen 1 0 t.size]])) (hr : m.obj rpos rgen = some (.row 5 1 (bytesOf t))) (hne : bpos ≠ rpos)
    (ha : a = .const (.pointer none) ∨ a = .rptr bpos bgen 2 0 0) (hq : m.obj qpos qgen = some (.row 9 1 (xs.map fun x => [.str x]))) (hx : xs ≠ []) (hxl : xs.length ≤ 1000) (hl : t.size + (lineT xs).size ≤ 140737488355328) :
    ACalls Zk.pg 59 [.row qpos qgen 1 0 xs.length, .rptr bpos bgen 2 0 0] m fun out m' => out = .ret (.tuple []) ∧ m' = writeM m bpos bgen rpos (t ++ lineT xs) := by
  have hsz : (lineT xs).size = (joinL xs).length + 1 := by
    show (joinL xs ++ [10]).length = _
    simp
  refine ok59.acalls (by simp) ?_
  simp [c59]
  have htake : (xs.map fun x => [AV.str x]).take xs.length = xs.map fun x => [AV.str x] := List.take_of_length_le (by simp)
  have hnr : norefLL (xs.map fun x => [AV.str x]) = true := by
    clear hq hx hxl hl hsz htake
    induction xs with
    | nil => rfl
    | cons x l ih => simp [norefLL, norefL, AV.noref, ih]
  refine xcall_p (call61 (p := false) hx (by omega) (by omega)) (by simp [hq, htake, hnr]) ?_
  have hjs : (mkB (joinL xs)).size + ({ data := #[10] } : ByteArray).size ≤ 9223372036854775807 := by
    show (joinL xs).length + 1 ≤ _
    omega
  have hj : mkB (joinL xs) ++ ({ data := #[10] } : ByteArray) = lineT xs := mkB_append' _ _
  simp [hjs, hj]
  refine xcall_a (call60 m bpos bgen rpos rgen a t (lineT xs) hb hr hne ha hl) ?_
  simp [postA_normT, postA_ret, cr59]
end
end Go.Pm
