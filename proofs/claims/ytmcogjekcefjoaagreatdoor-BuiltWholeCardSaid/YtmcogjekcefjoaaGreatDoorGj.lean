/- BkW2: contracts: strconv.Itoa of 1. -/
import Derived.Test.YtmcogjekcefjoaaGreatDoorGa
import Derived.Test.YtmcogjekcefjoaaGreatDoorGh
import Derived.Test.YtmcogjekcefjoaaGreatDoorGi
import Derived.Test.YtmcogjekcefjoaaGreatDoorPmT
namespace Go.Pm
open Go Go.Proofs
attribute [-simp] List.getElem?_map

/-- A call by what the kit's contract says. -/
theorem pcalls_of {P : Prg} {f : FuncId} {xs : List AV} {v : AV} (hf : ∃ fn, P.funcs[f]? = some fn ∧ fn.body.isSome = true ∧ (fn.name == "runtime.NumGoroutine") = false) (hv : v.perm = true)
    (h : ∀ (K : Bool → Nat → Prop) (w : World) (vals : List Value), VRs [] K w xs vals → P.lies w → Calls P f vals.toArray w fun e w' => ∃ u, e = .returned u ∧ w.grownBy w' none ∧ VR [] (fun p b => K p b ∨ w.heap.size ≤ b ∧ b < w'.heap.size) w' v u) : PCalls P f xs fun out => out = .ret v :=
  ⟨hf, fun K w vals _ hx hl => (h K w vals hx hl).mono fun _ w' ⟨u, he, hg, hV⟩ => ⟨fun p b => K p b ∨ w.heap.size ≤ b ∧ b < w'.heap.size, .ret v, rfl, hv, hg, fun _ _ h => .inl h, fun _ _ h => h, u, he, hV⟩⟩

theorem call278 {i : Nat} (hi : i < 100) : PCalls Bk.pg 278 [.int .i64 i, .int .i64 10] fun out => out = .ret (.str ⟨(Lib.decDigits i).toArray⟩) := by
  refine pcalls_of ⟨Tryz.f278, Tryz.func278, by kernel_rfl, by kernel_rfl⟩ rfl fun K w vals hx hl => ?_
  obtain ⟨u, us, rfl, h2, u2, us2, rfl, h3, h4⟩ := hx
  rw [VR] at h2 h3; rw [VRs] at h4; subst h2; subst h3; subst h4
  refine (Tryz.internal_strconv_FormatInt_10_small i hi w).mono ?_
  rintro e w' ⟨rfl, rfl⟩
  exact ⟨_, rfl, ⟨rfl, rfl, rfl, Nat.le_refl _, fun _ _ _ => rfl⟩, by rw [VR]⟩

theorem call135 : PCalls Bk.pg 135 [.int .i64 1] fun out => out = .ret (.str ⟨(Lib.decDigits 1).toArray⟩) := by
  have c1 := call278 (i := 1) (by decide)
  have c2 : PCalls Bk.pg 200 [.int .i64 1] fun out => out = .ret (.str ⟨(Lib.decDigits 1).toArray⟩) := by
    refine ok200.pcalls (by simp) ?_
    generalize (⟨(Lib.decDigits 1).toArray⟩ : ByteArray) = s at c1 ⊢
    simp [c200]
    refine xcall_p c1 (by simp) ?_
    simp [cr200]
  refine ok135.pcalls (by simp) ?_
  generalize (⟨(Lib.decDigits 1).toArray⟩ : ByteArray) = s at c2 ⊢
  simp [c135]
  refine xcall_p c2 (by simp) ?_
  simp [cr135]
end Go.Pm

/- BkC15: contracts: the leaves of the built-in functions. -/
namespace Go.Pm
open Go Go.Proofs
attribute [-simp] List.getElem?_map
attribute [simp] nilCheckA postA_norm

theorem call28 {e : Int} : PCalls Bk.pg 28 [.bool true, .int .i64 e] fun out => out = .ret (.tuple []) := by
  refine pcalls_of_acalls 1 (ok28.acalls (by simp) ?_)
  simp [c28, cr28, permOD, permD, mapO]

theorem call29 {n lo hi : Int} (h : lo ≤ n ∧ n ≤ hi) : PCalls Bk.pg 29 [.int .i64 n, .int .i64 lo, .int .i64 hi] fun out => out = .ret (.bool true) := by
  refine ok29.pcalls (by simp) ?_
  have a1 : leI lo n = true := leI_t.2 h.1
  have a2 : leI n hi = true := leI_t.2 h.2
  simp [c29, cr29, a1, a2]

theorem call67 : PCalls Bk.pg 67 [] fun out => out = .ret (.agg (tyN 1 31 0)) := by
  refine ok67.pcalls (by simp) ?_
  simp [c67, cr67, tyN, ty]
theorem call10 : PCalls Bk.pg 10 [] fun out => out = .ret (.agg (tyN 1 31 0)) := by
  refine ok10.pcalls (by simp) ?_
  simp [c10, cr10, tyN, ty]
theorem call24 : PCalls Bk.pg 24 [] fun out => out = .ret (.agg (tyN 2 15 0)) := by
  refine ok24.pcalls (by simp) ?_
  simp [c24, cr24, tyN, ty]

theorem call32 {k n q : Int} (h : RightN k n q) : PCalls Bk.pg 32 [.agg (vlN k n q)] fun out => out = .ret (.bool true) := by
  refine ok32.pcalls (by simp) ?_
  have c1 := call51 h
  have z4 : eqI k 4 = false := by
    cases h' : eqI k 4 with
    | false => rfl
    | true => have := eqI_t.1 h'; have := h.1; omega
  have z5 : eqI k 5 = false := by
    cases h' : eqI k 5 with
    | false => rfl
    | true => have := eqI_t.1 h'; have := h.1; omega
  simp only [vlN, vl] at c1 ⊢
  simp [c32, z4, z5]
  refine xcall_p c1 (by simp) ?_
  simp [cr32]

/-- What is asked of two arguments of one type. -/
def askG (t : List AV) (x : AV) : AV := .agg [.list true 6 [t, t], x]
def Known (x : AV) : Prop := x = .nilS ∨ ∃ els, x = .list false 4 els ∧ norefLL els = true

theorem call66 {k p q i : Int} {x : AV} (h : ValidN k p q) (hi : i = 0 ∨ i = 1) (hx : Known x) : PCalls Bk.pg 66 [askG (tyN k p q) x, .int .i64 i] fun out => out = .ret (.agg (tyN k p q)) := by
  refine ok66.pcalls (by simp) ?_
  have c1 := call159 h
  have z : eqI 0 0 = true := rfl
  have z0 : ltI 0 2 = true := rfl
  have z1 : ltI 1 2 = true := rfl
  have hg : ([tyN k p q, tyN k p q] : List (List AV))[i.toNat]? = some (tyN k p q) := by rcases hi with rfl | rfl <;> rfl
  simp only [tyN, ty] at c1 hg ⊢
  rcases hi with rfl | rfl <;> rcases hx with rfl | ⟨els, rfl, hn⟩
  all_goals
    simp [c66, askG, z0, z1]
    refine xcall_p c1 (by simp) ?_
    simp [z]
    refine xcall_p (call28 (e := 10)) (by simp) ?_
    simp [cr66]

theorem call75 {k p q : Int} {x : AV} (h : ValidN k p q) (hx : Known x) : PCalls Bk.pg 75 [askG (tyN k p q) x] fun out => out = .ret (.agg (tyN k p q)) := by
  refine ok75.pcalls (by simp) ?_
  have c0 := call66 (i := 0) h (.inl rfl) hx
  have c1 := call66 (i := 1) h (.inr rfl) hx
  have c2 := call163 h
  simp only [askG, tyN, ty] at c0 c1 c2 ⊢
  have z02 : ltI 0 2 = true := rfl
  have z12 : ltI 1 2 = true := rfl
  have z22 : ltI 2 2 = false := rfl
  have w1 : IntKind.i64.wrap 1 = 1 := rfl
  have w2 : IntKind.i64.wrap 2 = 2 := rfl
  rcases hx with rfl | ⟨els, rfl, hn⟩
  · simp [c75]
    refine wpS_loopS (ι := Nat × Nat × Nat) (fun s => [(1, .ptr 0 0 0), (2, .ptr 1 1 0), (3, .row 2 s.2.1 6 0 s.1), (9, .int .i64 2), (10, .int .i64 (s.1 : Nat))])
      (fun s => ⟨[(0, .cells [.list true 6 [tyN k p q, tyN k p q], .nilS]), (1, .cells (ty 0 0 0 0 false ⟨#[]⟩)), (s.2.1, .row 32 6 (List.replicate s.1 (tyN k p q)))], s.2.2⟩) (fun s => 2 - s.1) (fun s => s.1 ≤ 2) (0, 2, 3) (by decide)
      (Sim.trans (Sim.of_le (Env.le_of (by simp)) (Mem.le_of rfl (by simp [tyN, ty]))) (Sim.nil_env 3 32 (sz := 6) (by decide) (by simp))) ?_
    rintro ⟨i, g, nx⟩ hi
    simp only at hi
    have hi' : i = 0 ∨ i = 1 ∨ i = 2 := by omega
    rcases hi' with rfl | rfl | rfl
    · simp [z02, tyN, ty]
      refine xcall_p c0 (by simp) ?_
      simp [appendA, appendN, elsOf, Mem.turn, w1]
      exact ⟨1, by omega, by omega, nx + 1, nx + 2, Sim.of_le (Env.le_of (by simp)) (Mem.le_of rfl (by simp))⟩
    · simp [z12, tyN, ty]
      refine xcall_p c1 (by simp) ?_
      simp [appendA, appendN, elsOf, Mem.turn, w2]
      exact ⟨2, by omega, by omega, nx + 1, nx + 2, Sim.of_le (Env.le_of (by simp)) (Mem.le_of rfl (by simp [List.replicate]))⟩
    · simp [z22, tyN, ty]
      refine xcall_r (PCalls.keep (pos := 2) (g := g) (e := 32) (n := 2) (els := [tyN k p q, tyN k p q]) (h := c2) (hp := rfl) (hn := by simp) (hr := by simp [tyN, ty])) ?_ ?_
      · rintro v m' ⟨hv', rfl⟩
        cases hv'
        simp [cr75, Mem.turn]
      · rintro v m' ⟨hv', _⟩
        cases hv'
  · simp [c75]
    refine wpS_loopS (ι := Nat × Nat × Nat) (fun s => [(1, .ptr 0 0 0), (2, .ptr 1 1 0), (3, .row 2 s.2.1 6 0 s.1), (9, .int .i64 2), (10, .int .i64 (s.1 : Nat))])
      (fun s => ⟨[(0, .cells [.list true 6 [tyN k p q, tyN k p q], .list false 4 els]), (1, .cells (ty 0 0 0 0 false ⟨#[]⟩)), (s.2.1, .row 32 6 (List.replicate s.1 (tyN k p q)))], s.2.2⟩) (fun s => 2 - s.1) (fun s => s.1 ≤ 2) (0, 2, 3) (by decide)
      (Sim.trans (Sim.of_le (Env.le_of (by simp)) (Mem.le_of rfl (by simp [tyN, ty]))) (Sim.nil_env 3 32 (sz := 6) (by decide) (by simp))) ?_
    rintro ⟨i, g, nx⟩ hi
    simp only at hi
    have hi' : i = 0 ∨ i = 1 ∨ i = 2 := by omega
    rcases hi' with rfl | rfl | rfl
    · simp [z02, tyN, ty]
      refine xcall_p c0 (by simp [hn]) ?_
      simp [appendA, appendN, elsOf, Mem.turn, w1]
      exact ⟨1, by omega, by omega, nx + 1, nx + 2, Sim.of_le (Env.le_of (by simp)) (Mem.le_of rfl (by simp))⟩
    · simp [z12, tyN, ty]
      refine xcall_p c1 (by simp [hn]) ?_
      simp [appendA, appendN, elsOf, Mem.turn, w2]
      exact ⟨2, by omega, by omega, nx + 1, nx + 2, Sim.of_le (Env.le_of (by simp)) (Mem.le_of rfl (by simp [List.replicate]))⟩
    · simp [z22, tyN, ty]
      refine xcall_r (PCalls.keep (pos := 2) (g := g) (e := 32) (n := 2) (els := [tyN k p q, tyN k p q]) (h := c2) (hp := rfl) (hn := by simp) (hr := by simp [tyN, ty])) ?_ ?_
      · rintro v m' ⟨hv', rfl⟩
        cases hv'
        simp [cr75, Mem.turn]
      · rintro v m' ⟨hv', _⟩
        cases hv'
end Go.Pm

/- BkS6: code, resolved, where what is called writes. Printed by ShowSC3.lean. -/
namespace Go.Pm
open Go Go.Proofs

def Bk.imp116 : List Go.FuncId := [116]
/-- (ironbark/built.calling).num -/
def c63T : SC :=
  (.seq (.ops [⟨(some 2), .plain (.box 10), [.tmp 0], none⟩,
    ⟨(some 4), .plain (.alloc [(.int .i64 0), (.int .i64 0), (.int .i64 0), (.str ⟨#[]⟩)]), [], none⟩] [])
  (.seq (.draw (.step ⟨(some 5), .plain (.load true 10), [.tmp 2], none⟩
    (.step ⟨(some 6), .plain .mv, [.tmp 1], none⟩
    (.step ⟨(some 7), .plain (.fieldAddr 0), [.tmp 2], none⟩
    (.step ⟨(some 8), .plain (.load true 2), [.tmp 7], none⟩
    (.step ⟨(some 9), .plain .mv, [.tmp 1], none⟩
    (.step ⟨(some 10), .call 66, [.tmp 8, .tmp 9], none⟩
    (.step ⟨(some 11), .call 116, [.tmp 5, .tmp 6, .tmp 10], none⟩
    (.step ⟨none, .plain (.store 4), [.tmp 4, .tmp 11], none⟩
    .done)))))))) [5, 6, 7, 8, 9, 10, 11])
  .ret))
def cr63T : List Res := [(4, some (true, 4))]
theorem ok63T : FOk Bk.pg.toProgram Bk.imp116 63 c63T cr63T Tryz.f63.ntmps := ⟨Tryz.f63, _, Tryz.func63, rfl, by kernel_rfl, by kernel_rfl, by kernel_rfl, rfl⟩

def Bk.imp63 : List Go.FuncId := [63]
/-- ironbark/built.mod -/
def c76T : SC :=
  (.seq (.ops [⟨(some 1), .plain (.box 10), [.tmp 0], none⟩,
    ⟨(some 2), .plain (.alloc [(.int .i64 0), (.int .i64 0), (.int .i64 0), (.str ⟨#[]⟩)]), [], none⟩] [])
  (.seq (.draw (.step ⟨(some 8), .plain (.load true 10), [.tmp 1], none⟩
    (.or (.step ⟨(some 9), .call 63, [.tmp 8, .lit (.int .i64 0)], none⟩
    (.step ⟨(some 10), .plain (.load true 10), [.tmp 1], none⟩
    (.or (.step ⟨(some 11), .call 63, [.tmp 10, .lit (.int .i64 1)], none⟩
    (.or (.step ⟨(some 3), .plain (.alloc [(.int .i64 0), (.int .i64 0), (.int .i64 0), (.str ⟨#[]⟩)]), [], none⟩
    (.step ⟨(some 4), .plain (.alloc [(.int .i64 0), (.int .i64 0), (.int .i64 0), (.str ⟨#[]⟩)]), [], none⟩
    (.step ⟨none, .plain (.store 4), [.tmp 3, .tmp 9], none⟩
    (.step ⟨none, .plain (.store 4), [.tmp 4, .tmp 11], none⟩
    .done))))
    (.step ⟨(some 4), .plain (.alloc [(.int .i64 0), (.int .i64 0), (.int .i64 0), (.str ⟨#[]⟩)]), [], none⟩
    (.step ⟨(some 3), .plain (.alloc [(.int .i64 0), (.int .i64 0), (.int .i64 0), (.str ⟨#[]⟩)]), [], none⟩
    (.step ⟨none, .plain (.store 4), [.tmp 3, .tmp 9], none⟩
    (.step ⟨none, .plain (.store 4), [.tmp 4, .tmp 11], none⟩
    .done))))))
    (.or (.step ⟨(some 3), .plain (.alloc [(.int .i64 0), (.int .i64 0), (.int .i64 0), (.str ⟨#[]⟩)]), [], none⟩
    (.or (.step ⟨(some 11), .call 63, [.tmp 10, .lit (.int .i64 1)], none⟩
    (.step ⟨(some 4), .plain (.alloc [(.int .i64 0), (.int .i64 0), (.int .i64 0), (.str ⟨#[]⟩)]), [], none⟩
    (.step ⟨none, .plain (.store 4), [.tmp 3, .tmp 9], none⟩
    (.step ⟨none, .plain (.store 4), [.tmp 4, .tmp 11], none⟩
    .done))))
    (.step ⟨(some 4), .plain (.alloc [(.int .i64 0), (.int .i64 0), (.int .i64 0), (.str ⟨#[]⟩)]), [], none⟩
    (.step ⟨(some 11), .call 63, [.tmp 10, .lit (.int .i64 1)], none⟩
    (.step ⟨none, .plain (.store 4), [.tmp 3, .tmp 9], none⟩
    (.step ⟨none, .plain (.store 4), [.tmp 4, .tmp 11], none⟩
    .done))))))
    (.step ⟨(some 4), .plain (.alloc [(.int .i64 0), (.int .i64 0), (.int .i64 0), (.str ⟨#[]⟩)]), [], none⟩
    (.or (.step ⟨(some 11), .call 63, [.tmp 10, .lit (.int .i64 1)], none⟩
    (.step ⟨(some 3), .plain (.alloc [(.int .i64 0), (.int .i64 0), (.int .i64 0), (.str ⟨#[]⟩)]), [], none⟩
    (.step ⟨none, .plain (.store 4), [.tmp 3, .tmp 9], none⟩
    (.step ⟨none, .plain (.store 4), [.tmp 4, .tmp 11], none⟩
    .done))))
    (.step ⟨(some 3), .plain (.alloc [(.int .i64 0), (.int .i64 0), (.int .i64 0), (.str ⟨#[]⟩)]), [], none⟩
    (.step ⟨(some 11), .call 63, [.tmp 10, .lit (.int .i64 1)], none⟩
    (.step ⟨none, .plain (.store 4), [.tmp 3, .tmp 9], none⟩
    (.step ⟨none, .plain (.store 4), [.tmp 4, .tmp 11], none⟩
    .done))))))))))
    (.or (.step ⟨(some 10), .plain (.load true 10), [.tmp 1], none⟩
    (.or (.step ⟨(some 9), .call 63, [.tmp 8, .lit (.int .i64 0)], none⟩
    (.or (.step ⟨(some 11), .call 63, [.tmp 10, .lit (.int .i64 1)], none⟩
    (.or (.step ⟨(some 3), .plain (.alloc [(.int .i64 0), (.int .i64 0), (.int .i64 0), (.str ⟨#[]⟩)]), [], none⟩
    (.step ⟨(some 4), .plain (.alloc [(.int .i64 0), (.int .i64 0), (.int .i64 0), (.str ⟨#[]⟩)]), [], none⟩
    (.step ⟨none, .plain (.store 4), [.tmp 3, .tmp 9], none⟩
    (.step ⟨none, .plain (.store 4), [.tmp 4, .tmp 11], none⟩
    .done))))
    (.step ⟨(some 4), .plain (.alloc [(.int .i64 0), (.int .i64 0), (.int .i64 0), (.str ⟨#[]⟩)]), [], none⟩
    (.step ⟨(some 3), .plain (.alloc [(.int .i64 0), (.int .i64 0), (.int .i64 0), (.str ⟨#[]⟩)]), [], none⟩
    (.step ⟨none, .plain (.store 4), [.tmp 3, .tmp 9], none⟩
    (.step ⟨none, .plain (.store 4), [.tmp 4, .tmp 11], none⟩
    .done))))))
    (.or (.step ⟨(some 3), .plain (.alloc [(.int .i64 0), (.int .i64 0), (.int .i64 0), (.str ⟨#[]⟩)]), [], none⟩
    (.or (.step ⟨(some 11), .call 63, [.tmp 10, .lit (.int .i64 1)], none⟩
    (.step ⟨(some 4), .plain (.alloc [(.int .i64 0), (.int .i64 0), (.int .i64 0), (.str ⟨#[]⟩)]), [], none⟩
    (.step ⟨none, .plain (.store 4), [.tmp 3, .tmp 9], none⟩
    (.step ⟨none, .plain (.store 4), [.tmp 4, .tmp 11], none⟩
    .done))))
    (.step ⟨(some 4), .plain (.alloc [(.int .i64 0), (.int .i64 0), (.int .i64 0), (.str ⟨#[]⟩)]), [], none⟩
    (.step ⟨(some 11), .call 63, [.tmp 10, .lit (.int .i64 1)], none⟩
    (.step ⟨none, .plain (.store 4), [.tmp 3, .tmp 9], none⟩
    (.step ⟨none, .plain (.store 4), [.tmp 4, .tmp 11], none⟩
    .done))))))
    (.step ⟨(some 4), .plain (.alloc [(.int .i64 0), (.int .i64 0), (.int .i64 0), (.str ⟨#[]⟩)]), [], none⟩
    (.or (.step ⟨(some 11), .call 63, [.tmp 10, .lit (.int .i64 1)], none⟩
    (.step ⟨(some 3), .plain (.alloc [(.int .i64 0), (.int .i64 0), (.int .i64 0), (.str ⟨#[]⟩)]), [], none⟩
    (.step ⟨none, .plain (.store 4), [.tmp 3, .tmp 9], none⟩
    (.step ⟨none, .plain (.store 4), [.tmp 4, .tmp 11], none⟩
    .done))))
    (.step ⟨(some 3), .plain (.alloc [(.int .i64 0), (.int .i64 0), (.int .i64 0), (.str ⟨#[]⟩)]), [], none⟩
    (.step ⟨(some 11), .call 63, [.tmp 10, .lit (.int .i64 1)], none⟩
    (.step ⟨none, .plain (.store 4), [.tmp 3, .tmp 9], none⟩
    (.step ⟨none, .plain (.store 4), [.tmp 4, .tmp 11], none⟩
    .done)))))))))
    (.or (.step ⟨(some 3), .plain (.alloc [(.int .i64 0), (.int .i64 0), (.int .i64 0), (.str ⟨#[]⟩)]), [], none⟩
    (.or (.step ⟨(some 9), .call 63, [.tmp 8, .lit (.int .i64 0)], none⟩
    (.or (.step ⟨(some 11), .call 63, [.tmp 10, .lit (.int .i64 1)], none⟩
    (.step ⟨(some 4), .plain (.alloc [(.int .i64 0), (.int .i64 0), (.int .i64 0), (.str ⟨#[]⟩)]), [], none⟩
    (.step ⟨none, .plain (.store 4), [.tmp 3, .tmp 9], none⟩
    (.step ⟨none, .plain (.store 4), [.tmp 4, .tmp 11], none⟩
    .done))))
    (.step ⟨(some 4), .plain (.alloc [(.int .i64 0), (.int .i64 0), (.int .i64 0), (.str ⟨#[]⟩)]), [], none⟩
    (.step ⟨(some 11), .call 63, [.tmp 10, .lit (.int .i64 1)], none⟩
    (.step ⟨none, .plain (.store 4), [.tmp 3, .tmp 9], none⟩
    (.step ⟨none, .plain (.store 4), [.tmp 4, .tmp 11], none⟩
    .done))))))
    (.step ⟨(some 4), .plain (.alloc [(.int .i64 0), (.int .i64 0), (.int .i64 0), (.str ⟨#[]⟩)]), [], none⟩
    (.step ⟨(some 9), .call 63, [.tmp 8, .lit (.int .i64 0)], none⟩
    (.step ⟨(some 11), .call 63, [.tmp 10, .lit (.int .i64 1)], none⟩
    (.step ⟨none, .plain (.store 4), [.tmp 3, .tmp 9], none⟩
    (.step ⟨none, .plain (.store 4), [.tmp 4, .tmp 11], none⟩
    .done)))))))
    (.step ⟨(some 4), .plain (.alloc [(.int .i64 0), (.int .i64 0), (.int .i64 0), (.str ⟨#[]⟩)]), [], none⟩
    (.or (.step ⟨(some 9), .call 63, [.tmp 8, .lit (.int .i64 0)], none⟩
    (.or (.step ⟨(some 11), .call 63, [.tmp 10, .lit (.int .i64 1)], none⟩
    (.step ⟨(some 3), .plain (.alloc [(.int .i64 0), (.int .i64 0), (.int .i64 0), (.str ⟨#[]⟩)]), [], none⟩
    (.step ⟨none, .plain (.store 4), [.tmp 3, .tmp 9], none⟩
    (.step ⟨none, .plain (.store 4), [.tmp 4, .tmp 11], none⟩
    .done))))
    (.step ⟨(some 3), .plain (.alloc [(.int .i64 0), (.int .i64 0), (.int .i64 0), (.str ⟨#[]⟩)]), [], none⟩
    (.step ⟨(some 11), .call 63, [.tmp 10, .lit (.int .i64 1)], none⟩
    (.step ⟨none, .plain (.store 4), [.tmp 3, .tmp 9], none⟩
    (.step ⟨none, .plain (.store 4), [.tmp 4, .tmp 11], none⟩
    .done))))))
    (.step ⟨(some 3), .plain (.alloc [(.int .i64 0), (.int .i64 0), (.int .i64 0), (.str ⟨#[]⟩)]), [], none⟩
    (.step ⟨(some 9), .call 63, [.tmp 8, .lit (.int .i64 0)], none⟩
    (.step ⟨(some 11), .call 63, [.tmp 10, .lit (.int .i64 1)], none⟩
    (.step ⟨none, .plain (.store 4), [.tmp 3, .tmp 9], none⟩
    (.step ⟨none, .plain (.store 4), [.tmp 4, .tmp 11], none⟩
    .done))))))))))
    (.or (.step ⟨(some 3), .plain (.alloc [(.int .i64 0), (.int .i64 0), (.int .i64 0), (.str ⟨#[]⟩)]), [], none⟩
    (.or (.step ⟨(some 9), .call 63, [.tmp 8, .lit (.int .i64 0)], none⟩
    (.step ⟨(some 10), .plain (.load true 10), [.tmp 1], none⟩
    (.or (.step ⟨(some 11), .call 63, [.tmp 10, .lit (.int .i64 1)], none⟩
    (.step ⟨(some 4), .plain (.alloc [(.int .i64 0), (.int .i64 0), (.int .i64 0), (.str ⟨#[]⟩)]), [], none⟩
    (.step ⟨none, .plain (.store 4), [.tmp 3, .tmp 9], none⟩
    (.step ⟨none, .plain (.store 4), [.tmp 4, .tmp 11], none⟩
    .done))))
    (.step ⟨(some 4), .plain (.alloc [(.int .i64 0), (.int .i64 0), (.int .i64 0), (.str ⟨#[]⟩)]), [], none⟩
    (.step ⟨(some 11), .call 63, [.tmp 10, .lit (.int .i64 1)], none⟩
    (.step ⟨none, .plain (.store 4), [.tmp 3, .tmp 9], none⟩
    (.step ⟨none, .plain (.store 4), [.tmp 4, .tmp 11], none⟩
    .done)))))))
    (.or (.step ⟨(some 10), .plain (.load true 10), [.tmp 1], none⟩
    (.or (.step ⟨(some 9), .call 63, [.tmp 8, .lit (.int .i64 0)], none⟩
    (.or (.step ⟨(some 11), .call 63, [.tmp 10, .lit (.int .i64 1)], none⟩
    (.step ⟨(some 4), .plain (.alloc [(.int .i64 0), (.int .i64 0), (.int .i64 0), (.str ⟨#[]⟩)]), [], none⟩
    (.step ⟨none, .plain (.store 4), [.tmp 3, .tmp 9], none⟩
    (.step ⟨none, .plain (.store 4), [.tmp 4, .tmp 11], none⟩
    .done))))
    (.step ⟨(some 4), .plain (.alloc [(.int .i64 0), (.int .i64 0), (.int .i64 0), (.str ⟨#[]⟩)]), [], none⟩
    (.step ⟨(some 11), .call 63, [.tmp 10, .lit (.int .i64 1)], none⟩
    (.step ⟨none, .plain (.store 4), [.tmp 3, .tmp 9], none⟩
    (.step ⟨none, .plain (.store 4), [.tmp 4, .tmp 11], none⟩
    .done))))))
    (.step ⟨(some 4), .plain (.alloc [(.int .i64 0), (.int .i64 0), (.int .i64 0), (.str ⟨#[]⟩)]), [], none⟩
    (.step ⟨(some 9), .call 63, [.tmp 8, .lit (.int .i64 0)], none⟩
    (.step ⟨(some 11), .call 63, [.tmp 10, .lit (.int .i64 1)], none⟩
    (.step ⟨none, .plain (.store 4), [.tmp 3, .tmp 9], none⟩
    (.step ⟨none, .plain (.store 4), [.tmp 4, .tmp 11], none⟩
    .done)))))))
    (.step ⟨(some 4), .plain (.alloc [(.int .i64 0), (.int .i64 0), (.int .i64 0), (.str ⟨#[]⟩)]), [], none⟩
    (.or (.step ⟨(some 9), .call 63, [.tmp 8, .lit (.int .i64 0)], none⟩
    (.step ⟨(some 10), .plain (.load true 10), [.tmp 1], none⟩
    (.step ⟨(some 11), .call 63, [.tmp 10, .lit (.int .i64 1)], none⟩
    (.step ⟨none, .plain (.store 4), [.tmp 3, .tmp 9], none⟩
    (.step ⟨none, .plain (.store 4), [.tmp 4, .tmp 11], none⟩
    .done)))))
    (.step ⟨(some 10), .plain (.load true 10), [.tmp 1], none⟩
    (.step ⟨(some 9), .call 63, [.tmp 8, .lit (.int .i64 0)], none⟩
    (.step ⟨(some 11), .call 63, [.tmp 10, .lit (.int .i64 1)], none⟩
    (.step ⟨none, .plain (.store 4), [.tmp 3, .tmp 9], none⟩
    (.step ⟨none, .plain (.store 4), [.tmp 4, .tmp 11], none⟩
    .done))))))))))
    (.step ⟨(some 4), .plain (.alloc [(.int .i64 0), (.int .i64 0), (.int .i64 0), (.str ⟨#[]⟩)]), [], none⟩
    (.or (.step ⟨(some 9), .call 63, [.tmp 8, .lit (.int .i64 0)], none⟩
    (.step ⟨(some 10), .plain (.load true 10), [.tmp 1], none⟩
    (.or (.step ⟨(some 11), .call 63, [.tmp 10, .lit (.int .i64 1)], none⟩
    (.step ⟨(some 3), .plain (.alloc [(.int .i64 0), (.int .i64 0), (.int .i64 0), (.str ⟨#[]⟩)]), [], none⟩
    (.step ⟨none, .plain (.store 4), [.tmp 3, .tmp 9], none⟩
    (.step ⟨none, .plain (.store 4), [.tmp 4, .tmp 11], none⟩
    .done))))
    (.step ⟨(some 3), .plain (.alloc [(.int .i64 0), (.int .i64 0), (.int .i64 0), (.str ⟨#[]⟩)]), [], none⟩
    (.step ⟨(some 11), .call 63, [.tmp 10, .lit (.int .i64 1)], none⟩
    (.step ⟨none, .plain (.store 4), [.tmp 3, .tmp 9], none⟩
    (.step ⟨none, .plain (.store 4), [.tmp 4, .tmp 11], none⟩
    .done)))))))
    (.or (.step ⟨(some 10), .plain (.load true 10), [.tmp 1], none⟩
    (.or (.step ⟨(some 9), .call 63, [.tmp 8, .lit (.int .i64 0)], none⟩
    (.or (.step ⟨(some 11), .call 63, [.tmp 10, .lit (.int .i64 1)], none⟩
    (.step ⟨(some 3), .plain (.alloc [(.int .i64 0), (.int .i64 0), (.int .i64 0), (.str ⟨#[]⟩)]), [], none⟩
    (.step ⟨none, .plain (.store 4), [.tmp 3, .tmp 9], none⟩
    (.step ⟨none, .plain (.store 4), [.tmp 4, .tmp 11], none⟩
    .done))))
    (.step ⟨(some 3), .plain (.alloc [(.int .i64 0), (.int .i64 0), (.int .i64 0), (.str ⟨#[]⟩)]), [], none⟩
    (.step ⟨(some 11), .call 63, [.tmp 10, .lit (.int .i64 1)], none⟩
    (.step ⟨none, .plain (.store 4), [.tmp 3, .tmp 9], none⟩
    (.step ⟨none, .plain (.store 4), [.tmp 4, .tmp 11], none⟩
    .done))))))
    (.step ⟨(some 3), .plain (.alloc [(.int .i64 0), (.int .i64 0), (.int .i64 0), (.str ⟨#[]⟩)]), [], none⟩
    (.step ⟨(some 9), .call 63, [.tmp 8, .lit (.int .i64 0)], none⟩
    (.step ⟨(some 11), .call 63, [.tmp 10, .lit (.int .i64 1)], none⟩
    (.step ⟨none, .plain (.store 4), [.tmp 3, .tmp 9], none⟩
    (.step ⟨none, .plain (.store 4), [.tmp 4, .tmp 11], none⟩
    .done)))))))
    (.step ⟨(some 3), .plain (.alloc [(.int .i64 0), (.int .i64 0), (.int .i64 0), (.str ⟨#[]⟩)]), [], none⟩
    (.or (.step ⟨(some 9), .call 63, [.tmp 8, .lit (.int .i64 0)], none⟩
    (.step ⟨(some 10), .plain (.load true 10), [.tmp 1], none⟩
    (.step ⟨(some 11), .call 63, [.tmp 10, .lit (.int .i64 1)], none⟩
    (.step ⟨none, .plain (.store 4), [.tmp 3, .tmp 9], none⟩
    (.step ⟨none, .plain (.store 4), [.tmp 4, .tmp 11], none⟩
    .done)))))
    (.step ⟨(some 10), .plain (.load true 10), [.tmp 1], none⟩
    (.step ⟨(some 9), .call 63, [.tmp 8, .lit (.int .i64 0)], none⟩
    (.step ⟨(some 11), .call 63, [.tmp 10, .lit (.int .i64 1)], none⟩
    (.step ⟨none, .plain (.store 4), [.tmp 3, .tmp 9], none⟩
    (.step ⟨none, .plain (.store 4), [.tmp 4, .tmp 11], none⟩
    .done)))))))))))))) [8, 9, 10, 11])
  (.seq (.ops [⟨(some 13), .plain (.load true 4), [.tmp 3], none⟩,
    ⟨(some 14), .plain (.load true 4), [.tmp 4], none⟩,
    ⟨(some 15), .plain (.fieldAddr 3), [.tmp 1], none⟩,
    ⟨(some 16), .plain (.load true 6), [.tmp 15], none⟩,
    ⟨(some 17), .call 164, [.tmp 13, .tmp 14, .tmp 16], none⟩,
    ⟨(some 12), .plain .mv, [.tmp 17], none⟩,
    ⟨(some 18), .plain (.extract 0), [.tmp 12], none⟩,
    ⟨(some 19), .plain (.extract 1), [.tmp 12], none⟩,
    ⟨(some 20), .plain (.extract 2), [.tmp 12], none⟩,
    ⟨(some 5), .plain (.alloc [(.int .i64 0), (.int .i64 0), (.int .i64 0), (.str ⟨#[]⟩)]), [], none⟩,
    ⟨none, .plain (.store 4), [.tmp 5, .tmp 18], none⟩,
    ⟨(some 6), .plain .mv, [.tmp 19], none⟩,
    ⟨(some 7), .plain .mv, [.tmp 20], none⟩] [13, 14, 15, 16, 17, 12, 18, 19, 20, 7])
  (.seq (.ops [⟨(some 21), .plain (.load true 10), [.tmp 1], none⟩,
    ⟨(some 22), .plain .mv, [.tmp 6], none⟩,
    ⟨(some 23), .call 86, [.tmp 21, .tmp 22], none⟩] [21, 22, 23])
  (.seq (.ops [⟨(some 24), .plain (.load true 4), [.tmp 5], none⟩,
    ⟨none, .plain (.store 4), [.tmp 2, .tmp 24], none⟩] [24])
  .ret)))))
def cr76T : List Res := [(2, some (true, 4))]
theorem ok76T : FOk Bk.pg.toProgram Bk.imp63 76 c76T cr76T Tryz.f76.ntmps := ⟨Tryz.f76, _, Tryz.func76, rfl, by kernel_rfl, by kernel_rfl, by kernel_rfl, rfl⟩

def Bk.imp27 : List Go.FuncId := [27]
/-- ironbark/built.Call$1 -/
def c26T : SC :=
  (.seq (.draw (.or (.step ⟨(some 13), .call 27, [], none⟩
    (.step ⟨(some 14), .plain (.load false 1), [.tmp 0], none⟩
    (.step ⟨(some 15), .plain (.lookup .str (.agg [(.int .i64 0), (.int .i64 0), (.const .nilFunc), (.const .nilFunc)]) true), [.tmp 13, .tmp 14], none⟩
    (.step ⟨(some 12), .plain .mv, [.tmp 15], none⟩
    (.step ⟨(some 16), .plain (.extract 0), [.tmp 12], none⟩
    (.step ⟨(some 17), .plain (.extract 1), [.tmp 12], none⟩
    (.step ⟨(some 6), .plain (.alloc [(.int .i64 0), (.int .i64 0), (.const .nilFunc), (.const .nilFunc)]), [], none⟩
    (.step ⟨none, .plain (.store 4), [.tmp 6, .tmp 16], none⟩
    (.step ⟨(some 7), .plain .mv, [.tmp 17], none⟩
    .done)))))))))
    (.or (.step ⟨(some 14), .plain (.load false 1), [.tmp 0], none⟩
    (.or (.step ⟨(some 13), .call 27, [], none⟩
    (.step ⟨(some 15), .plain (.lookup .str (.agg [(.int .i64 0), (.int .i64 0), (.const .nilFunc), (.const .nilFunc)]) true), [.tmp 13, .tmp 14], none⟩
    (.step ⟨(some 12), .plain .mv, [.tmp 15], none⟩
    (.step ⟨(some 16), .plain (.extract 0), [.tmp 12], none⟩
    (.step ⟨(some 17), .plain (.extract 1), [.tmp 12], none⟩
    (.step ⟨(some 6), .plain (.alloc [(.int .i64 0), (.int .i64 0), (.const .nilFunc), (.const .nilFunc)]), [], none⟩
    (.step ⟨none, .plain (.store 4), [.tmp 6, .tmp 16], none⟩
    (.step ⟨(some 7), .plain .mv, [.tmp 17], none⟩
    .done))))))))
    (.step ⟨(some 6), .plain (.alloc [(.int .i64 0), (.int .i64 0), (.const .nilFunc), (.const .nilFunc)]), [], none⟩
    (.step ⟨(some 13), .call 27, [], none⟩
    (.step ⟨(some 15), .plain (.lookup .str (.agg [(.int .i64 0), (.int .i64 0), (.const .nilFunc), (.const .nilFunc)]) true), [.tmp 13, .tmp 14], none⟩
    (.step ⟨(some 12), .plain .mv, [.tmp 15], none⟩
    (.step ⟨(some 16), .plain (.extract 0), [.tmp 12], none⟩
    (.step ⟨(some 17), .plain (.extract 1), [.tmp 12], none⟩
    (.step ⟨none, .plain (.store 4), [.tmp 6, .tmp 16], none⟩
    (.step ⟨(some 7), .plain .mv, [.tmp 17], none⟩
    .done))))))))))
    (.step ⟨(some 6), .plain (.alloc [(.int .i64 0), (.int .i64 0), (.const .nilFunc), (.const .nilFunc)]), [], none⟩
    (.or (.step ⟨(some 13), .call 27, [], none⟩
    (.step ⟨(some 14), .plain (.load false 1), [.tmp 0], none⟩
    (.step ⟨(some 15), .plain (.lookup .str (.agg [(.int .i64 0), (.int .i64 0), (.const .nilFunc), (.const .nilFunc)]) true), [.tmp 13, .tmp 14], none⟩
    (.step ⟨(some 12), .plain .mv, [.tmp 15], none⟩
    (.step ⟨(some 16), .plain (.extract 0), [.tmp 12], none⟩
    (.step ⟨(some 17), .plain (.extract 1), [.tmp 12], none⟩
    (.step ⟨none, .plain (.store 4), [.tmp 6, .tmp 16], none⟩
    (.step ⟨(some 7), .plain .mv, [.tmp 17], none⟩
    .done))))))))
    (.step ⟨(some 14), .plain (.load false 1), [.tmp 0], none⟩
    (.step ⟨(some 13), .call 27, [], none⟩
    (.step ⟨(some 15), .plain (.lookup .str (.agg [(.int .i64 0), (.int .i64 0), (.const .nilFunc), (.const .nilFunc)]) true), [.tmp 13, .tmp 14], none⟩
    (.step ⟨(some 12), .plain .mv, [.tmp 15], none⟩
    (.step ⟨(some 16), .plain (.extract 0), [.tmp 12], none⟩
    (.step ⟨(some 17), .plain (.extract 1), [.tmp 12], none⟩
    (.step ⟨none, .plain (.store 4), [.tmp 6, .tmp 16], none⟩
    (.step ⟨(some 7), .plain .mv, [.tmp 17], none⟩
    .done)))))))))))) [13, 14, 15, 12, 16, 17])
  (.seq (.ops [⟨(some 18), .plain .mv, [.tmp 7], none⟩,
    ⟨(some 19), .call 28, [.tmp 18, .lit (.int .i64 5)], none⟩] [18, 19])
  (.seq (.ops [⟨(some 20), .plain (.load false 1), [.tmp 1], none⟩,
    ⟨(some 21), .plain (.len 1), [.tmp 20], none⟩,
    ⟨(some 22), .plain (.fieldAddr 0), [.tmp 6], none⟩,
    ⟨(some 23), .plain (.load false 1), [.tmp 22], none⟩,
    ⟨(some 24), .plain (.fieldAddr 1), [.tmp 6], none⟩,
    ⟨(some 25), .plain (.load false 1), [.tmp 24], none⟩,
    ⟨(some 26), .call 29, [.tmp 21, .tmp 23, .tmp 25], none⟩,
    ⟨(some 27), .plain .mv, [.tmp 26], none⟩,
    ⟨(some 28), .plain (.load false 1), [.tmp 1], (some (27, true))⟩,
    ⟨(some 29), .plain (.len 1), [.tmp 28], (some (27, true))⟩,
    ⟨(some 30), .plain (.load false 1), [.tmp 2], (some (27, true))⟩,
    ⟨(some 31), .plain (.len 1), [.tmp 30], (some (27, true))⟩,
    ⟨(some 32), .plain (.bin .eql), [.tmp 29, .tmp 31], (some (27, true))⟩,
    ⟨(some 33), .plain .pick, [.tmp 27, .tmp 32, .lit (.bool false)], none⟩,
    ⟨(some 34), .call 28, [.tmp 33, .lit (.int .i64 11)], none⟩] [20, 21, 22, 23, 24, 25, 26, 27, 28, 29, 30, 31, 32, 33, 34])
  (.seq (.seq (.ops [⟨(some 35), .plain (.load false 1), [.tmp 2], none⟩,
    ⟨(some 36), .plain (.len 1), [.tmp 35], none⟩,
    ⟨(some 37), .call 30, [.tmp 36], none⟩] [35, 36])
  (.block 0
   (.rangeF (.tmp 37) [38]
    (.ops [⟨(some 8), .plain .mv, [.tmp 38], none⟩] [])
    (.block 1
     (.ops [⟨(some 39), .plain (.load false 1), [.tmp 2], none⟩,
       ⟨(some 40), .plain .mv, [.tmp 8], none⟩,
       ⟨(some 41), .plain (.indexAddr 6), [.tmp 39, .tmp 40], none⟩,
       ⟨(some 42), .plain (.load true 6), [.tmp 41], none⟩,
       ⟨(some 43), .call 31, [.tmp 42], none⟩,
       ⟨(some 44), .call 28, [.tmp 43, .lit (.int .i64 13)], none⟩] [39, 40, 41, 42, 43, 44])))))
  (.seq (.seq (.ops [⟨(some 45), .plain (.load false 1), [.tmp 2], none⟩,
    ⟨(some 46), .plain (.len 1), [.tmp 45], none⟩,
    ⟨(some 47), .call 30, [.tmp 46], none⟩] [45, 46])
  (.block 2
   (.rangeF (.tmp 47) [48]
    (.ops [⟨(some 9), .plain .mv, [.tmp 48], none⟩] [])
    (.block 3
     (.draw (.step ⟨(some 49), .plain (.load false 1), [.tmp 1], none⟩
       (.step ⟨(some 50), .plain .mv, [.tmp 9], none⟩
       (.step ⟨(some 51), .plain (.indexAddr 4), [.tmp 49, .tmp 50], none⟩
       (.step ⟨(some 52), .plain (.load true 4), [.tmp 51], none⟩
       (.step ⟨(some 53), .call 32, [.tmp 52], none⟩
       (.step ⟨(some 54), .plain .mv, [.tmp 53], none⟩
       (.step ⟨(some 55), .plain (.load false 1), [.tmp 2], (some (54, true))⟩
       (.step ⟨(some 56), .plain .mv, [.tmp 9], (some (54, true))⟩
       (.step ⟨(some 57), .plain (.indexAddr 6), [.tmp 55, .tmp 56], (some (54, true))⟩
       (.step ⟨(some 58), .plain (.load true 6), [.tmp 57], (some (54, true))⟩
       (.step ⟨(some 59), .plain (.load false 1), [.tmp 1], (some (54, true))⟩
       (.step ⟨(some 60), .plain .mv, [.tmp 9], (some (54, true))⟩
       (.step ⟨(some 61), .plain (.indexAddr 4), [.tmp 59, .tmp 60], (some (54, true))⟩
       (.step ⟨(some 62), .plain (.load true 4), [.tmp 61], (some (54, true))⟩
       (.step ⟨(some 63), .call 33, [.tmp 58, .tmp 62], (some (54, true))⟩
       (.step ⟨(some 64), .plain .pick, [.tmp 54, .tmp 63, .lit (.bool false)], none⟩
       (.step ⟨(some 65), .call 28, [.tmp 64, .lit (.int .i64 1)], none⟩
       .done))))))))))))))))) [49, 50, 51, 52, 53, 54, 55, 56, 57, 58, 59, 60, 61, 62, 63, 64, 65])))))
  (.seq (.ops [⟨(some 66), .plain (.load true 4), [.tmp 6], none⟩,
    ⟨(some 67), .plain (.load false 1), [.tmp 2], none⟩,
    ⟨(some 68), .call 34, [.tmp 66, .tmp 67], none⟩,
    ⟨(some 10), .plain .mv, [.tmp 68], none⟩] [66, 67, 68])
  (.seq (.ops [⟨(some 69), .plain (.load true 6), [.tmp 3], none⟩,
    ⟨(some 70), .call 31, [.tmp 69], none⟩,
    ⟨(some 71), .call 28, [.tmp 70, .lit (.int .i64 13)], none⟩] [69, 70, 71])
  (.seq (.ops [⟨(some 72), .plain .mv, [.tmp 10], none⟩,
    ⟨(some 73), .plain (.fieldAddr 0), [.tmp 3], none⟩,
    ⟨(some 74), .plain (.load false 1), [.tmp 73], none⟩,
    ⟨(some 75), .plain (.bin .eql), [.tmp 72, .tmp 74], none⟩,
    ⟨(some 76), .call 28, [.tmp 75, .lit (.int .i64 10)], none⟩] [72, 73, 74, 75, 76])
  (.seq (.ops [⟨(some 77), .plain (.load false 1), [.tmp 2], none⟩,
    ⟨(some 78), .plain (.build [.nilS, .nilS] [(0, 1)]), [.tmp 77], none⟩,
    ⟨(some 79), .plain (.load false 1), [.tmp 1], none⟩,
    ⟨(some 80), .plain (.load true 6), [.tmp 3], none⟩,
    ⟨(some 81), .plain (.build [.nilS, .nilS, .nilS, (.int .i64 0), (.int .i64 0), (.int .i64 0), (.int .i64 0), (.bool false), (.str ⟨#[]⟩), (.const .nilFunc)] [(0, 2), (2, 1), (3, 6)]), [.tmp 78, .tmp 79, .tmp 80], none⟩,
    ⟨(some 11), .plain (.alloc [.nilS, .nilS, .nilS, (.int .i64 0), (.int .i64 0), (.int .i64 0), (.int .i64 0), (.bool false), (.str ⟨#[]⟩), (.const .nilFunc)]), [], none⟩,
    ⟨none, .plain (.store 10), [.tmp 11, .tmp 81], none⟩] [77, 78, 79, 80, 81])
  (.seq (.ops [⟨(some 82), .plain (.mkFn 35), [.tmp 4], none⟩,
    ⟨(some 83), .plain (.fieldAddr 9), [.tmp 11], none⟩,
    ⟨none, .plain (.store 1), [.tmp 83, .tmp 82], none⟩] [82, 83])
  (.ops [⟨(some 84), .plain (.fieldAddr 3), [.tmp 6], none⟩,
    ⟨(some 85), .plain (.load false 1), [.tmp 84], none⟩,
    ⟨(some 86), .plain (.load true 10), [.tmp 11], none⟩,
    ⟨(some 87), .callv, [.tmp 85, .tmp 86], none⟩,
    ⟨none, .plain (.store 4), [.tmp 5, .tmp 87], none⟩] [84, 85, 86, 87])))))))))))
def cr26T : List Res := []
theorem ok26T : FOk Bk.pg.toProgram Bk.imp27 26 c26T cr26T Tryz.f26.ntmps := ⟨Tryz.f26, _, Tryz.func26, rfl, by kernel_rfl, by kernel_rfl, by kernel_rfl, rfl⟩

end Go.Pm

/- BkC16: contracts: numbers in their own types; a sample of a type; what is raised is kept; arguments as numbers. -/
namespace Go.Pm
open Go Go.Proofs
attribute [-simp] List.getElem?_map
attribute [simp] nilCheckA postA_norm

theorem xdcall_a {P : Prg} {imp : List FuncId} {f : FuncId} {xs : List AV} {v : AV} {dst : Option Nat} {t : DT} {d : List Nat} {fs : List Fr} {Q : Post} {e : Env} {m m' : Mem} (hi : imp.contains f = true) (h : ACalls P f xs m fun out m2 => out = .ret v ∧ m2 = m')
    (hk : xdops P imp t d fs Q (e.put dst v) m') : xdcall P imp f xs dst t d fs Q e m := by
  unfold xdcall dact
  simp only [List.map_map, Function.comp_def, Opnd.eval, hi, if_true]
  exact ⟨v, m', by simpa using h, hk.out⟩

theorem sgn_natAbs (n : Int) : sgn (decide (n < 0)) n.natAbs = n := by
  unfold sgn
  by_cases h : n < 0
  · simp [h]; omega
  · simp [h]; omega

theorem fixM_self {k n : Int} {q : Nat} (hk : k = 1 ∨ k = 2) : fixM k q (exN k n q) (-(q : Int)) = n.natAbs := by
  rcases hk with rfl | rfl
  · simp only [fixM, exN, if_true, Int.toNat_natCast]
    split
    · have e1 : (- -(q : Int)).toNat = q := by omega
      rw [e1, Nat.mul_assoc, ← Nat.mul_pow]
      exact Nat.mul_div_cancel _ (Nat.pow_pos (by decide))
    · have e1 : q = 0 := by omega
      subst e1
      simp
  · have e0 : ¬ (2 : Int) = 1 := by decide
    simp only [fixM, exN, e0, if_false]
    have e1 : -(q : Int) + q = 0 := by omega
    rw [e1]
    simp

/-- A number is itself in its own type. -/
theorem fit_self {k n : Int} {p q : Nat} (h : HasN k p q n) : fitN k n q k p q = n ∧ fitL k n q k p q = false := by
  obtain ⟨hv, hr, h1, h2⟩ := h
  have hk : k = 1 ∨ k = 2 := by have := hv.1; omega
  have hm := fixM_self (n := n) (q := q) hk
  have hlt : n.natAbs < (if k = 1 then 2 ^ p else 10 ^ p) := by
    rcases hk with rfl | rfl
    · simpa using h1 rfl
    · simpa using h2 rfl
  refine ⟨?_, ?_⟩
  · rw [fitN, fixN, hm, Nat.mod_eq_of_lt hlt, sgn_natAbs]
  · rw [fitL, fixL, hm]
    exact decide_eq_false (by omega)

/-- What is fitted into a type is of that type. -/
theorem fit_has {k n q1 k2 : Int} {p2 q2 : Nat} (hv : ValidN k2 p2 q2) : HasN k2 p2 q2 (fitN k n q1 k2 p2 q2) := by
  have hk : k2 = 1 ∨ k2 = 2 := by have := hv.1; omega
  have hab : (fitN k n q1 k2 p2 q2).natAbs = fixN k2 p2 q2 (exN k n q1) (-q1) := by
    unfold fitN sgn
    split <;> omega
  have hlt : fixN k2 p2 q2 (exN k n q1) (-q1) < (if k2 = 1 then 2 ^ p2 else 10 ^ p2) := Nat.mod_lt _ (by split <;> exact Nat.pow_pos (by decide))
  refine ⟨hv, ⟨?_, by have := hv.2; omega⟩, ?_, ?_⟩
  · rcases hk with rfl | rfl
    · rw [if_pos rfl] at hlt
      have : 2 ^ p2 ≤ 2 ^ 31 := Nat.pow_le_pow_right (by decide) (by have := hv.1; omega)
      exact .inl ⟨rfl, by omega, by omega⟩
    · rw [if_neg (by decide)] at hlt
      have : 10 ^ p2 ≤ 10 ^ 15 := Nat.pow_le_pow_right (by decide) (by have := hv.1; omega)
      exact .inr ⟨rfl, by omega, by omega⟩
  · rintro rfl
    rw [if_pos rfl] at hlt
    rw [hab, Int.toNat_natCast]; exact hlt
  · rintro rfl
    rw [if_neg (by decide)] at hlt
    rw [hab, Int.toNat_natCast]; exact hlt

/-- (What is raised is kept, where nothing was.) -/
theorem call35 {d : Int} {S : List (Nat × AObj)} {nx rp rg : Nat} (hr : S[rp]? = some (rg, .cells (rz 0))) :
    ACalls Bk.pg 35 [.agg (rz d), .ptr rp rg 0] ⟨S, nx⟩ fun out m' => out = .ret (.tuple []) ∧ m' = ⟨S.set rp (rg, .cells (rz d)), nx + 1⟩ := by
  refine ACalls.forget (ok35.acalls (by simp) ?_)
  have tl := (List.getElem?_eq_some_iff.1 hr).1
  have k1 : ∀ x, (S ++ [x])[rp]? = some (rg, .cells (rz 0)) := fun x => by rw [List.getElem?_append_left tl]; exact hr
  have k2 : ∀ x y, (S ++ [x]).set rp y = S.set rp y ++ [x] := fun x y => List.set_append_left _ _ tl
  have z : eqI 0 0 = true := rfl
  simp only [rz] at k1 ⊢
  simp [c35, k1, z]
  rw [k2]
  simp [cr35]
  exact Mem.le_of rfl (by simp)
end Go.Pm

/- BkC17: contracts: arguments as numbers of their own type; what a rest raises. -/
namespace Go.Pm
open Go Go.Proofs
attribute [-simp] List.getElem?_map
attribute [simp] nilCheckA postA_norm

/-- What a built-in function is called with: two arguments of one type, the type of what is asked, and who keeps what is raised. -/
def callG (k p q n0 n1 k2 p2 q2 : Int) (rp rg : Nat) : List AV :=
  [.list true 6 [tyN k p q, tyN k p q], .nilS, .list true 4 [vlN k n0 q, vlN k n1 q], .int .i64 k2, .int .i64 p2, .int .i64 q2, .int .i64 0, .bool false, .str ⟨#[]⟩, .fn 35 [.ptr rp rg 0]]
def argN (n0 n1 i : Int) : Int := if i = 0 then n0 else n1

theorem set_same {S : List (Nat × AObj)} {i : Nat} {x : Nat × AObj} (h : S[i]? = some x) : S.set i x = S := by
  have hl := (List.getElem?_eq_some_iff.1 h).1
  refine List.ext_getElem? fun j => ?_
  rw [List.getElem?_set]
  split
  · rename_i hj
    subst hj
    exact h.symm
  · rfl

theorem call116 {k n0 n1 i k2 p2 q2 : Int} {p q : Nat} {S : List (Nat × AObj)} {nx rp rg : Nat} (h0 : HasN k p q n0) (h1 : HasN k p q n1) (hi : i = 0 ∨ i = 1) (hr : S[rp]? = some (rg, .cells (rz 0))) :
    ACalls Bk.pg 116 [.agg (callG k p q n0 n1 k2 p2 q2 rp rg), .int .i64 i, .agg (tyN k p q)] ⟨S, nx⟩ fun out m' => out = .ret (.agg (vlN k (argN n0 n1 i) q)) ∧ m' = ⟨S, nx + 6⟩ := by
  refine ACalls.forget (ok116.acalls (by simp) ?_)
  have hn : HasN k p q (argN n0 n1 i) := by unfold argN; split <;> assumption
  have c1 := call137 (k1 := k) (p1 := p) (q1 := q) (n := argN n0 n1 i) (k2 := k) (p2 := p) (q2 := q) hn hn.1
  obtain ⟨f1, f2⟩ := fit_self hn
  rw [f1, f2] at c1
  have tl := (List.getElem?_eq_some_iff.1 hr).1
  have hv : ([vlN k n0 q, vlN k n1 q] : List (List AV))[i.toNat]? = some (vlN k (argN n0 n1 i) q) := by rcases hi with rfl | rfl <;> rfl
  have ht : ([tyN k p q, tyN k p q] : List (List AV))[i.toNat]? = some (tyN k p q) := by rcases hi with rfl | rfl <;> rfl
  have hlt : ltI i 2 = true := ltI_t.2 (by omega)
  obtain ⟨a, ha⟩ : ∃ a, a = argN n0 n1 i := ⟨_, rfl⟩
  rw [← ha] at c1 hv ⊢
  have e4 : (if (false : Bool) = true then (4 : Int) else 0) = 0 := rfl
  rw [e4] at c1
  have c2 := fun (A : List (Nat × AObj)) (x : Nat) => call35 (d := 0) (S := S ++ A) (nx := x) (rp := rp) (rg := rg) (by rw [List.getElem?_append_left tl]; exact hr)
  have c3 : ∀ A, (S ++ A).set rp (rg, .cells (rz 0)) = S ++ A := fun A => set_same (by rw [List.getElem?_append_left tl]; exact hr)
  simp only [c3] at c2
  simp only [vlN, vl, tyN, ty, rz] at c1 c2 hv ht ⊢
  have h0i : 0 ≤ i := by omega
  simp [c116, callG, vlN, vl, tyN, ty, hlt, hv, ht, h0i]
  refine xdcall_p rfl c1 (by simp) ?_
  simp
  refine ⟨?_, ?_⟩
  all_goals
    refine xcall_a (c2 _ _) ?_
    simp [cr116]
    exact Mem.le_of rfl (by simp)

theorem call63 {k n0 n1 i k2 p2 q2 : Int} {p q : Nat} {S : List (Nat × AObj)} {nx rp rg : Nat} (h0 : HasN k p q n0) (h1 : HasN k p q n1) (hi : i = 0 ∨ i = 1) (hr : S[rp]? = some (rg, .cells (rz 0))) :
    ACalls Bk.pg 63 [.agg (callG k p q n0 n1 k2 p2 q2 rp rg), .int .i64 i] ⟨S, nx⟩ fun out m' => out = .ret (.agg (vlN k (argN n0 n1 i) q)) ∧ m' = ⟨S, nx + 8⟩ := by
  refine ACalls.forget (ok63T.acalls (by simp) ?_)
  have c1 := call66 (i := i) (x := .nilS) h0.1 hi (.inl rfl)
  have tl := (List.getElem?_eq_some_iff.1 hr).1
  have c2 := fun (A : List (Nat × AObj)) (x : Nat) => call116 (k2 := k2) (p2 := p2) (q2 := q2) (S := S ++ A) (nx := x) (rp := rp) (rg := rg) h0 h1 hi (by rw [List.getElem?_append_left tl]; exact hr)
  simp only [askG, callG, vlN, vl, tyN, ty] at c1 c2 ⊢
  simp [c63T]
  refine xdcall_p rfl c1 (by simp) ?_
  simp
  refine xdcall_a rfl (c2 _ _) ?_
  simp [cr63T]
  exact Mem.le_of rfl (by simp)

theorem call86 {k p q n0 n1 k2 p2 q2 d : Int} {S : List (Nat × AObj)} {nx rp rg : Nat} (hr : S[rp]? = some (rg, .cells (rz 0))) :
    ACalls Bk.pg 86 [.agg (callG k p q n0 n1 k2 p2 q2 rp rg), .int .i64 d] ⟨S, nx⟩ fun out m' => out = .ret (.tuple []) ∧ m' = ⟨S.set rp (rg, .cells (rz d)), nx + 2⟩ := by
  refine ACalls.forget (ok86.acalls (by simp) ?_)
  have tl := (List.getElem?_eq_some_iff.1 hr).1
  have c2 := fun (A : List (Nat × AObj)) (x : Nat) => call35 (d := d) (S := S ++ A) (nx := x) (rp := rp) (rg := rg) (by rw [List.getElem?_append_left tl]; exact hr)
  have c3 : ∀ A, (S ++ A).set rp (rg, .cells (rz d)) = S.set rp (rg, .cells (rz d)) ++ A := fun A => List.set_append_left _ _ tl
  simp only [c3] at c2
  simp only [callG, vlN, vl, tyN, ty, rz] at c2 ⊢
  simp [c86]
  refine xcall_a (c2 _ _) ?_
  simp [cr86]
  exact Mem.le_of rfl (by simp)

/-- What a rest is, and what it raises. -/
def modV (k n0 q n1 k2 : Int) (p2 q2 : Nat) : Int := if eqI n1 0 then 0 else sgn (decide (n1 < 0)) (fixN k2 p2 q2 (modR (modX k n0 q q) (modY k n1 q q) n0 n1) (modE q q))
def modC (k n0 q n1 k2 : Int) (p2 q2 : Nat) : Int := if eqI n1 0 then 9 else if fixL k2 p2 q2 (modR (modX k n0 q q) (modY k n1 q q) n0 n1) (modE q q) then 4 else 0
theorem call164M {k n0 n1 q k2 : Int} {p2 q2 : Nat} (h0 : RightN k n0 q) (h1 : RightN k n1 q) (hv : ValidN k2 p2 q2) :
    PCalls Bk.pg 164 [.agg (vlN k n0 q), .agg (vlN k n1 q), .agg (tyN k2 p2 q2)] fun out => out = .ret (.tuple [.agg (vlN k2 (modV k n0 q n1 k2 p2 q2) q2), .int .i64 (modC k n0 q n1 k2 p2 q2), .int .i64 0]) := by
  have := call164 h0 h1 hv
  unfold modV modC
  split at this <;> rename_i h
  · rw [if_pos h, if_pos h]; exact this
  · rw [if_neg h, if_neg h]; exact this

set_option maxHeartbeats 8000000 in
theorem call76 {k n0 n1 k2 : Int} {p q p2 q2 : Nat} {S : List (Nat × AObj)} {nx rp rg : Nat} (h0 : HasN k p q n0) (h1 : HasN k p q n1) (hv : ValidN k2 p2 q2) (hr : S[rp]? = some (rg, .cells (rz 0))) :
    ACalls Bk.pg 76 [.agg (callG k p q n0 n1 k2 p2 q2 rp rg)] ⟨S, nx⟩ fun out m' => out = .ret (.agg (vlN k2 (modV k n0 q n1 k2 p2 q2) q2)) ∧ ∃ nx', m' = ⟨S.set rp (rg, .cells (rz (modC k n0 q n1 k2 p2 q2))), nx'⟩ := by
  refine ACalls.forget (ok76T.acalls (by simp) ?_)
  have tl := (List.getElem?_eq_some_iff.1 hr).1
  have ca := fun (A : List (Nat × AObj)) (x : Nat) => call63 (i := 0) (k2 := k2) (p2 := p2) (q2 := q2) (S := S ++ A) (nx := x) (rp := rp) (rg := rg) h0 h1 (.inl rfl) (by rw [List.getElem?_append_left tl]; exact hr)
  have cb := fun (A : List (Nat × AObj)) (x : Nat) => call63 (i := 1) (k2 := k2) (p2 := p2) (q2 := q2) (S := S ++ A) (nx := x) (rp := rp) (rg := rg) h0 h1 (.inr rfl) (by rw [List.getElem?_append_left tl]; exact hr)
  have cm := call164M h0.2.1 h1.2.1 hv
  have cc := fun (A : List (Nat × AObj)) (x : Nat) => call86 (k := k) (p := p) (q := q) (n0 := n0) (n1 := n1) (k2 := k2) (p2 := p2) (q2 := q2) (d := modC k n0 q n1 k2 p2 q2) (S := S ++ A) (nx := x) (rp := rp) (rg := rg) (by rw [List.getElem?_append_left tl]; exact hr)
  obtain ⟨V, hV⟩ : ∃ V, V = modV k n0 q n1 k2 p2 q2 := ⟨_, rfl⟩
  obtain ⟨C, hC⟩ : ∃ C, C = modC k n0 q n1 k2 p2 q2 := ⟨_, rfl⟩
  rw [← hV, ← hC] at cm ⊢
  rw [← hC] at cc
  have c3 : ∀ A, (S ++ A).set rp (rg, .cells (rz C)) = S.set rp (rg, .cells (rz C)) ++ A := fun A => List.set_append_left _ _ tl
  simp only [c3] at cc
  have a0 : argN n0 n1 0 = n0 := rfl
  have a1 : argN n0 n1 1 = n1 := rfl
  rw [a0] at ca
  rw [a1] at cb
  simp only [callG, vlN, vl, tyN, ty] at ca cb cm cc ⊢
  simp [c76T]
  repeat'
    first
    | apply And.intro
    | (refine xdcall_a rfl (ca _ _) ?_; simp)
    | (refine xdcall_a rfl (cb _ _) ?_; simp)
  all_goals
    refine xcall_p cm (by simp) ?_
    simp
    refine xcall_a (cc _ _) ?_
    simp [cr76T]
    exact ⟨⟨S.set rp (rg, .cells (rz C)), _⟩, Mem.le_of rfl (by simp), _, rfl⟩
end Go.Pm

/- BkC18: contracts: a sample of a type; safe; what kind a built-in function tells. -/
namespace Go.Pm
open Go Go.Proofs
attribute [-simp] List.getElem?_map
attribute [simp] nilCheckA postA_norm

/-- A number of a type, for a sample. -/
def sampN (k : Int) (p q : Nat) : Int :=
  if eqI (if fitL k (fitN 1 1 0 k p q) q 1 31 0 then 4 else 0) 0 && eqI (fitN k (fitN 1 1 0 k p q) q 1 31 0) 1 then fitN 1 1 0 k p q else 0

theorem call53 {k : Int} {p q : Nat} (h : ValidN k p q) : PCalls Bk.pg 53 [.agg (tyN k p q), .int .i64 1] fun out => out = .ret (.agg (vlN k (sampN k p q) q)) := by
  refine ok53.pcalls (by simp) ?_
  have h1 : HasN 1 1 0 1 := ⟨⟨.inl ⟨rfl, by omega, by omega⟩, by omega, by omega⟩, ⟨.inl ⟨rfl, by omega, by omega⟩, by omega, by omega⟩, fun _ => by decide, fun h => by cases h⟩
  have c1 := call137 (k1 := 1) (p1 := 1) (q1 := 0) (n := 1) (k2 := k) (p2 := p) (q2 := q) h1 h
  have h2 := fit_has (n := 1) (k := 1) (q1 := 0) h
  obtain ⟨F, hF⟩ : ∃ F, F = fitN 1 1 0 k p q := ⟨_, rfl⟩
  have hw : ValidN 1 (31 : Nat) (0 : Nat) := ⟨.inl ⟨rfl, by omega, by omega⟩, by omega, by omega⟩
  rw [← hF] at c1 h2
  have c2 := call137 (k1 := k) (p1 := p) (q1 := q) (n := F) (k2 := 1) (p2 := 31) (q2 := 0) h2 hw
  have c3 := call138 h
  have hs : sampN k p q = if eqI (if fitL k F q 1 31 0 then 4 else 0) 0 && eqI (fitN k F q 1 31 0) 1 then F else 0 := by rw [hF]; rfl
  obtain ⟨L1, hL1⟩ : ∃ L, L = fitL 1 1 0 k p q := ⟨_, rfl⟩
  obtain ⟨B, hB⟩ : ∃ B, B = fitN k F q 1 31 0 := ⟨_, rfl⟩
  obtain ⟨C, hC⟩ : ∃ C : Int, C = if fitL k F q 1 31 0 then 4 else 0 := ⟨_, rfl⟩
  rw [← hL1] at c1
  rw [← hB, ← hC] at c2 hs
  have z4 : eqI k 4 = false := by
    cases h' : eqI k 4 with
    | false => rfl
    | true => have := eqI_t.1 h'; have := h.1; omega
  have z5 : eqI k 5 = false := by
    cases h' : eqI k 5 with
    | false => rfl
    | true => have := eqI_t.1 h'; have := h.1; omega
  have z : eqI 0 0 = true := rfl
  simp only [tyN, ty, vlN, vl, rz] at c1 c2 c3 ⊢
  have c67 := call67
  simp only [tyN, ty] at c67
  have c135 := call135
  generalize (⟨(Lib.decDigits 1).toArray⟩ : ByteArray) = s at c135
  simp [c53]
  refine xcall_p c135 (by simp) ?_
  simp [z4, z5]
  refine xcall_p c1 (by simp) ?_
  simp [z]
  refine xdcall_p rfl c67 (by simp) ?_
  simp
  refine xdcall_p rfl c2 (by simp) ?_
  simp
  refine ⟨?_, ?_⟩
  all_goals
    refine br_guard_t rfl (fun h5 => ?_) (fun h5 => ?_)
    · simp [h5]
      refine br_cond rfl (fun h6 => ?_) (fun h6 => ?_)
      · simp [cr53, hs, h5, h6]
      · simp
        refine xcall_p c3 (by simp) ?_
        simp [cr53, hs, h5, h6]
    · simp [h5]
      refine xcall_p c3 (by simp) ?_
      simp [cr53, hs, h5]

theorem call43 {x : AV} {m : Mem} : DCalls Bk.pg 43 [x] none m fun m' => m' = m := by
  refine ok43.dcalls (by simp) ?_
  simp [c43, postR_norm]

/-- (A function that is done safely, and does not panic.) -/
theorem call25 {f : FuncId} {caps : List AV} {S : List (Nat × AObj)} {nx : Nat} {Q : List (Nat × AObj) → Prop}
    (h : ACalls Bk.pg f caps ⟨S ++ [(nx, .cells [.int .i64 0])], nx + 1⟩ fun out m' => out = .ret (.tuple []) ∧ ∃ S' nx', m' = ⟨S' ++ [(nx, .cells [.int .i64 0])], nx'⟩ ∧ S'.length = S.length ∧ Q S') :
    ACalls Bk.pg 25 [.fn f caps] ⟨S, nx⟩ fun out m' => out = .ret (.int .i64 0) ∧ ∃ S' nx', m' = ⟨S', nx'⟩ ∧ Q S' := by
  refine ACalls.forget (ok25.acalls (by simp) ?_)
  simp [cx25, cy25]
  refine xcall_r h ?_ ?_
  · rintro v m' ⟨hv, S', nx', rfl, hl, hq⟩
    cases hv
    simp [← hl, postF_ret]
    refine ⟨_, call43, ?_⟩
    rintro m' rfl
    simp [cr25]
    exact ⟨⟨S', _⟩, Mem.le_of rfl (by simp), S', ⟨_, rfl⟩, hq⟩
  · rintro v m' ⟨hv, _⟩
    cases hv
end Go.Pm

/- BkC19: contracts: the kind that a rest has. -/
namespace Go.Pm
open Go Go.Proofs
attribute [-simp] List.getElem?_map
attribute [simp] nilCheckA postA_norm

theorem ACalls.mono {P : Prg} {f : FuncId} {xs : List AV} {m : Mem} {R R' : AOut → Mem → Prop} (h : ACalls P f xs m R) (hR : ∀ out m', R out m' → R' out m') : ACalls P f xs m R' :=
  h.sim fun out m' hr => ⟨out, m', hR _ _ hr, SimO.refl _ _⟩

/-- The row of MOD. -/
def rowM : List AV := [.int .i64 2, .int .i64 2, .fn 75 [], .fn 76 []]

theorem call54 {k p q : Int} {T : List (Nat × AObj)} {els : List (List AV)} {o2 : Nat × AObj} {g nx : Nat} (h : ValidN k p q) (hl : els.length = 2) (hn : norefLL els = true) :
    ACalls Bk.pg 54 [.ptr 0 0 0, .ptr 1 1 0, .ptr 4 4 0, .ptr 5 g 0] ⟨[(0, .cells rowM), (1, .cells [.list true 6 [tyN k p q, tyN k p q]]), o2, (3, .row 24 4 els), (4, .cells [.row 3 3 4 0 2]), (g, .cells (ty 0 0 0 0 false ⟨#[]⟩))] ++ T, nx⟩ fun out m' => out = .ret (.tuple []) ∧
      m' = ⟨[(0, .cells rowM), (1, .cells [.list true 6 [tyN k p q, tyN k p q]]), o2, (3, .row 24 4 els), (4, .cells [.row 3 3 4 0 2]), (g, .cells (tyN k p q))] ++ T, nx⟩ := by
  refine ok54.acalls (by simp) ?_
  have c1 := call75 (x := .list false 4 els) h (.inr ⟨els, rfl, hn⟩)
  have htk : els.take 2 = els := List.take_of_length_le (by omega)
  simp only [askG, tyN, ty] at c1 ⊢
  simp [c54, rowM]
  refine xcall_p c1 (by simp [htk, hn, hl]) ?_
  simp [cr54]

/-- What a rest of two numbers of one type is told to be: of their kind. -/
theorem call34 {k : Int} {p q : Nat} (h : ValidN k p q) : PCalls Bk.pg 34 [.agg rowM, .list true 6 [tyN k p q, tyN k p q]] fun out => out = .ret (.int .i64 k) := by
  refine ok34.pcalls (by simp) ?_
  have c53 := call53 h
  have z02 : ltI 0 2 = true := rfl
  have z12 : ltI 1 2 = true := rfl
  have z22 : ltI 2 2 = false := rfl
  have z : eqI 0 0 = true := rfl
  have w1 : IntKind.i64.wrap 1 = 1 := rfl
  have w2 : IntKind.i64.wrap 2 = 2 := rfl
  obtain ⟨V, hV⟩ : ∃ V, V = vlN k (sampN k p q) q := ⟨_, rfl⟩
  have hVl : V.length = 4 := by rw [hV]; rfl
  have hVn : norefL V = true := by rw [hV]; rfl
  simp only [tyN, ty, vlN, vl] at c53
  simp [c34, rowM, tyN, ty]
  refine wpS_loopS (ι := Unit) (fun _ => [(2, .ptr 0 0 0), (3, .ptr 1 1 0), (12, .row 2 2 1 0 2), (13, .int .i64 2), (14, .int .i64 0)]) (fun _ => ⟨[(0, .cells rowM), (1, .cells [.list true 6 [tyN k p q, tyN k p q]]), (2, .row 3 1 [[.int .i64 1], [.int .i64 0]])], 3⟩) (fun _ => 0) (fun _ => True) () trivial
    (Sim.of_le (Env.le_of (by simp)) (Mem.le_of rfl (by simp [rowM, tyN, ty]; rfl))) ?_
  rintro _ _
  simp [z02, rowM, tyN, ty]
  refine wpS_loopS (ι := Nat × Nat) (fun s => [(2, .ptr 0 0 0), (3, .ptr 1 1 0), (6, .int .i64 1), (7, .ptr 4 4 0), (12, .row 2 2 1 0 2), (13, .int .i64 2), (14, .int .i64 0), (21, .list true 6 [tyN k p q, tyN k p q]), (22, .int .i64 2), (23, .int .i64 (s.1 : Nat))])
    (fun s => ⟨[(0, .cells rowM), (1, .cells [.list true 6 [tyN k p q, tyN k p q]]), (2, .row 3 1 [[.int .i64 1], [.int .i64 0]]), (3, .row 24 4 (List.replicate s.1 (vlN k (sampN k p q) q) ++ List.replicate (2 - s.1) (vl 0 0 0 ⟨#[]⟩))), (4, .cells [.row 3 3 4 0 2])], s.2⟩) (fun s => 2 - s.1) (fun s => s.1 ≤ 2) (0, 5) (by decide)
    (Sim.of_le (Env.le_of (by simp [tyN, ty])) (Mem.le_of rfl (by simp [rowM, tyN, ty, vl, List.replicate]))) ?_
  rintro ⟨i, nx⟩ hi
  simp only at hi
  have hi' : i = 0 ∨ i = 1 ∨ i = 2 := by omega
  rcases hi' with rfl | rfl | rfl
  · simp [z02, rowM, tyN, ty, List.replicate, vl]
    refine xdcall_p rfl c53 (by simp) ?_
    simp [w1, z02]
    exact ⟨1, by omega, by omega, _, Sim.of_le (Env.le_of (by simp)) (Mem.le_of rfl (by simp [vlN, vl, List.replicate]))⟩
  · simp [z12, rowM, tyN, ty, List.replicate, vl]
    refine xdcall_p rfl c53 (by simp) ?_
    simp [w2, z12]
    exact ⟨2, by omega, by omega, _, Sim.of_le (Env.le_of (by simp)) (Mem.le_of rfl (by simp [vlN, vl, List.replicate]))⟩
  · simp [z22, rowM, tyN, ty, List.replicate]
    have c54 := call54 (T := [(nx + 1, .cells [.int .i64 0])]) (els := [vlN k (sampN k p q) q, vlN k (sampN k p q) q]) (o2 := (2, .row 3 1 [[.int .i64 1], [.int .i64 0]])) (g := nx) (nx := nx + 2) h rfl rfl
    have c25 := call25 (f := 54) (caps := [.ptr 0 0 0, .ptr 1 1 0, .ptr 4 4 0, .ptr 5 nx 0]) (S := [(0, .cells rowM), (1, .cells [.list true 6 [tyN k p q, tyN k p q]]), (2, .row 3 1 [[.int .i64 1], [.int .i64 0]]), (3, .row 24 4 [vlN k (sampN k p q) q, vlN k (sampN k p q) q]), (4, .cells [.row 3 3 4 0 2]), (nx, .cells (ty 0 0 0 0 false ⟨#[]⟩))]) (nx := nx + 1)
      (Q := fun S' => S' = [(0, .cells rowM), (1, .cells [.list true 6 [tyN k p q, tyN k p q]]), (2, .row 3 1 [[.int .i64 1], [.int .i64 0]]), (3, .row 24 4 [vlN k (sampN k p q) q, vlN k (sampN k p q) q]), (4, .cells [.row 3 3 4 0 2]), (nx, .cells (tyN k p q))])
      (c54.mono fun out m' ⟨ho, hm⟩ => ⟨ho, _, nx + 2, hm, rfl, rfl⟩)
    simp only [rowM, tyN, ty] at c25
    refine xcall_r c25 ?_ ?_
    · rintro v m' ⟨hv, S', nx', rfl, rfl⟩
      cases hv
      simp [z, cr34]
    · rintro v m' ⟨hv, _⟩
      cases hv
end Go.Pm
