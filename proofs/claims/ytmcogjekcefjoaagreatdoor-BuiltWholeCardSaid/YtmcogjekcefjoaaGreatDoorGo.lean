/- BkV1: contracts: the row of a whole part: its type, its kind. -/
import Derived.Test.YtmcogjekcefjoaaGreatDoorGk
import Derived.Test.YtmcogjekcefjoaaGreatDoorGm
import Derived.Test.YtmcogjekcefjoaaGreatDoorGn
import Derived.Test.YtmcogjekcefjoaaGreatDoorGa
import Derived.Test.YtmcogjekcefjoaaGreatDoorPmT
namespace Go.Pm
open Go Go.Proofs
attribute [-simp] List.getElem?_map
attribute [simp] nilCheckA postA_norm

/-- The row of FLOOR, CEIL or TRUNC. -/
def rowW (way : Int) : List AV := [.int .i64 1, .int .i64 1, .fn 70 [], .fn 71 [.iptr true [.int .i64 way]]]

theorem call27W {s : ByteArray} {way : Int} (h : lkF tabL s = some (1, 1, some ((70, []), (71, [.iptr true [.int .i64 way]])))) : PCalls Bk.pg 27 [] fun out => out = .ret (.kmap s (.agg (rowW way))) := by
  refine pcalls_of_acalls 1 (ACalls.keepMap (s := s) (v := .agg (rowW way)) ((call27N (S := []) (nx := 0)).mono ?_))
  rintro out m' ⟨rfl, L', nx', rfl, h1⟩
  have h2 := h1.2.2 s
  rw [h] at h2
  exact ⟨0, 0, L', rfl, rfl, h2, _, rfl, rfl⟩

theorem lk_floor : lkF tabL ⟨#[70, 76, 79, 79, 82]⟩ = some (1, 1, some ((70, []), (71, [.iptr true [.int .i64 (-1)]]))) := rfl
theorem lk_ceil : lkF tabL ⟨#[67, 69, 73, 76]⟩ = some (1, 1, some ((70, []), (71, [.iptr true [.int .i64 1]]))) := rfl
theorem lk_trunc : lkF tabL ⟨#[84, 82, 85, 78, 67]⟩ = some (1, 1, some ((70, []), (71, [.iptr true [.int .i64 0]]))) := rfl

/-- What is asked of one argument. -/
def askW (t : List AV) (x : AV) : AV := .agg [.list true 6 [t], x]

theorem call66W {k p q : Int} {x : AV} (h : ValidN k p q) (hx : Known x) : PCalls Bk.pg 66 [askW (tyN k p q) x, .int .i64 0] fun out => out = .ret (.agg (tyN k p q)) := by
  refine ok66.pcalls (by simp) ?_
  have c1 := call159 h
  have z : eqI 0 0 = true := rfl
  have z0 : ltI 0 1 = true := rfl
  simp only [tyN, ty] at c1 ⊢
  rcases hx with rfl | ⟨els, rfl, hn⟩
  all_goals
    simp [c66, askW, z0]
    refine xcall_p c1 (by simp) ?_
    simp [z]
    refine xcall_p (call28 (e := 10)) (by simp) ?_
    simp [cr66]

/-- The precision of a whole part. -/
def wholeP (k p q : Int) : Int := if (if 1 < p - q + 1 then p - q + 1 else 1) < (if k = 1 then 31 else 15) then (if 1 < p - q + 1 then p - q + 1 else 1) else (if k = 1 then 31 else 15)

theorem call70 {k p q : Int} {x : AV} (h : ValidN k p q) (hx : Known x) : PCalls Bk.pg 70 [askW (tyN k p q) x] fun out => out = .ret (.agg (tyN k (wholeP k p q) 0)) := by
  refine ok70.pcalls (by simp) ?_
  have c1 := call66W h hx
  have hk : k = 1 ∨ k = 2 := by have := h.1; omega
  have hw1 : IntKind.i64.wrap (p - q) = p - q := wrap64 (by have := h.1; have := h.2; omega) (by have := h.1; have := h.2; omega)
  have hw2 : IntKind.i64.wrap (p - q + 1) = p - q + 1 := wrap64 (by have := h.1; have := h.2; omega) (by have := h.1; have := h.2; omega)
  have z13 : eqI 1 3 = false := rfl
  have z23 : eqI 2 3 = false := rfl
  have z11 : eqI 1 1 = true := rfl
  have z21 : eqI 2 1 = false := rfl
  simp only [askW, tyN, ty] at c1 ⊢
  rcases hx with rfl | ⟨els, rfl, hn⟩ <;> rcases hk with rfl | rfl
  all_goals
    simp [c70]
    refine xcall_p c1 (by first | simp; done | simp [hn]) ?_
    simp [z13, z23, z11, z21, hw1, hw2, cr70, wholeP]
end Go.Pm

/- BkV2: contracts: the kind that a whole part has. -/
namespace Go.Pm
open Go Go.Proofs
attribute [-simp] List.getElem?_map
attribute [simp] nilCheckA postA_norm

theorem call54W {k p q way : Int} {T : List (Nat × AObj)} {els : List (List AV)} {o2 : Nat × AObj} {g nx : Nat} (h : ValidN k p q) (hl : els.length = 1) (hn : norefLL els = true) :
    ACalls Bk.pg 54 [.ptr 0 0 0, .ptr 1 1 0, .ptr 4 4 0, .ptr 5 g 0] ⟨[(0, .cells (rowW way)), (1, .cells [.list true 6 [tyN k p q]]), o2, (3, .row 24 4 els), (4, .cells [.row 3 3 4 0 1]), (g, .cells (ty 0 0 0 0 false ⟨#[]⟩))] ++ T, nx⟩ fun out m' => out = .ret (.tuple []) ∧
      m' = ⟨[(0, .cells (rowW way)), (1, .cells [.list true 6 [tyN k p q]]), o2, (3, .row 24 4 els), (4, .cells [.row 3 3 4 0 1]), (g, .cells (tyN k (wholeP k p q) 0))] ++ T, nx⟩ := by
  refine ok54.acalls (by simp) ?_
  have c1 := call70 (x := .list false 4 els) h (.inr ⟨els, rfl, hn⟩)
  have htk : els.take 1 = els := List.take_of_length_le (by omega)
  simp only [askW, tyN, ty] at c1 ⊢
  simp [c54, rowW]
  refine xcall_p c1 (by simp [htk, hn, hl]) ?_
  simp [cr54]

/-- What a whole part is told to be: of its number's kind. -/
theorem call34W {k way : Int} {p q : Nat} (h : ValidN k p q) : PCalls Bk.pg 34 [.agg (rowW way), .list true 6 [tyN k p q]] fun out => out = .ret (.int .i64 k) := by
  refine ok34.pcalls (by simp) ?_
  have c53 := call53 h
  have z01 : ltI 0 1 = true := rfl
  have z02 : ltI 0 2 = true := rfl
  have z11 : ltI 1 1 = false := rfl
  have z : eqI 0 0 = true := rfl
  have w1 : IntKind.i64.wrap 1 = 1 := rfl
  simp only [tyN, ty, vlN, vl] at c53
  simp [c34, rowW, tyN, ty]
  refine wpS_loopS (ι := Unit) (fun _ => [(2, .ptr 0 0 0), (3, .ptr 1 1 0), (12, .row 2 2 1 0 2), (13, .int .i64 2), (14, .int .i64 0)]) (fun _ => ⟨[(0, .cells (rowW way)), (1, .cells [.list true 6 [tyN k p q]]), (2, .row 3 1 [[.int .i64 1], [.int .i64 0]])], 3⟩) (fun _ => 0) (fun _ => True) () trivial
    (Sim.of_le (Env.le_of (by simp)) (Mem.le_of rfl (by simp [rowW, tyN, ty]; rfl))) ?_
  rintro _ _
  simp [z02, rowW, tyN, ty]
  refine wpS_loopS (ι := Nat × Nat) (fun s => [(2, .ptr 0 0 0), (3, .ptr 1 1 0), (6, .int .i64 1), (7, .ptr 4 4 0), (12, .row 2 2 1 0 2), (13, .int .i64 2), (14, .int .i64 0), (21, .list true 6 [tyN k p q]), (22, .int .i64 1), (23, .int .i64 (s.1 : Nat))])
    (fun s => ⟨[(0, .cells (rowW way)), (1, .cells [.list true 6 [tyN k p q]]), (2, .row 3 1 [[.int .i64 1], [.int .i64 0]]), (3, .row 24 4 (List.replicate s.1 (vlN k (sampN k p q) q) ++ List.replicate (1 - s.1) (vl 0 0 0 ⟨#[]⟩))), (4, .cells [.row 3 3 4 0 1])], s.2⟩) (fun s => 1 - s.1) (fun s => s.1 ≤ 1) (0, 5) (by decide)
    (Sim.of_le (Env.le_of (by simp [tyN, ty])) (Mem.le_of rfl (by simp [rowW, tyN, ty, vl, List.replicate]))) ?_
  rintro ⟨i, nx⟩ hi
  simp only at hi
  have hi' : i = 0 ∨ i = 1 := by omega
  rcases hi' with rfl | rfl
  · simp [z01, rowW, tyN, ty, List.replicate, vl]
    refine xdcall_p rfl c53 (by simp) ?_
    simp [w1, z01]
    exact ⟨1, by omega, by omega, _, Sim.of_le (Env.le_of (by simp)) (Mem.le_of rfl (by simp [vlN, vl, List.replicate]))⟩
  · simp [z11, rowW, tyN, ty, List.replicate]
    have c54 := call54W (way := way) (T := [(nx + 1, .cells [.int .i64 0])]) (els := [vlN k (sampN k p q) q]) (o2 := (2, .row 3 1 [[.int .i64 1], [.int .i64 0]])) (g := nx) (nx := nx + 2) h rfl rfl
    have c25 := call25 (f := 54) (caps := [.ptr 0 0 0, .ptr 1 1 0, .ptr 4 4 0, .ptr 5 nx 0]) (S := [(0, .cells (rowW way)), (1, .cells [.list true 6 [tyN k p q]]), (2, .row 3 1 [[.int .i64 1], [.int .i64 0]]), (3, .row 24 4 [vlN k (sampN k p q) q]), (4, .cells [.row 3 3 4 0 1]), (nx, .cells (ty 0 0 0 0 false ⟨#[]⟩))]) (nx := nx + 1)
      (Q := fun S' => S' = [(0, .cells (rowW way)), (1, .cells [.list true 6 [tyN k p q]]), (2, .row 3 1 [[.int .i64 1], [.int .i64 0]]), (3, .row 24 4 [vlN k (sampN k p q) q]), (4, .cells [.row 3 3 4 0 1]), (nx, .cells (tyN k (wholeP k p q) 0))])
      (c54.mono fun out m' ⟨ho, hm⟩ => ⟨ho, _, nx + 2, hm, rfl, rfl⟩)
    simp only [rowW, tyN, ty] at c25
    refine xcall_r c25 ?_ ?_
    · rintro v m' ⟨hv, S', nx', rfl, rfl⟩
      cases hv
      simp [z, cr34]
    · rintro v m' ⟨hv, _⟩
      cases hv
end Go.Pm

/- BkV3: contracts: one argument as a number; a number, fitted to the result's type. -/
namespace Go.Pm
open Go Go.Proofs
attribute [-simp] List.getElem?_map
attribute [simp] nilCheckA postA_norm

/-- What a built-in function is called with: one argument, the type of what is asked, and who keeps what is raised. -/
def callW (k p q n k2 p2 q2 : Int) (rp rg : Nat) : List AV :=
  [.list true 6 [tyN k p q], .nilS, .list true 4 [vlN k n q], .int .i64 k2, .int .i64 p2, .int .i64 q2, .int .i64 0, .bool false, .str ⟨#[]⟩, .fn 35 [.ptr rp rg 0]]

theorem call116W {k n k2 p2 q2 : Int} {p q : Nat} {S : List (Nat × AObj)} {nx rp rg : Nat} (h : HasN k p q n) (hr : S[rp]? = some (rg, .cells (rz 0))) :
    ACalls Bk.pg 116 [.agg (callW k p q n k2 p2 q2 rp rg), .int .i64 0, .agg (tyN k p q)] ⟨S, nx⟩ fun out m' => out = .ret (.agg (vlN k n q)) ∧ m' = ⟨S, nx + 6⟩ := by
  refine ACalls.forget (ok116.acalls (by simp) ?_)
  have c1 := call137 (k1 := k) (p1 := p) (q1 := q) (n := n) (k2 := k) (p2 := p) (q2 := q) h h.1
  obtain ⟨f1, f2⟩ := fit_self h
  rw [f1, f2] at c1
  have tl := (List.getElem?_eq_some_iff.1 hr).1
  have hlt : ltI 0 1 = true := rfl
  have e4 : (if (false : Bool) = true then (4 : Int) else 0) = 0 := rfl
  rw [e4] at c1
  have c2 := fun (A : List (Nat × AObj)) (x : Nat) => call35 (d := 0) (S := S ++ A) (nx := x) (rp := rp) (rg := rg) (by rw [List.getElem?_append_left tl]; exact hr)
  have c3 : ∀ A, (S ++ A).set rp (rg, .cells (rz 0)) = S ++ A := fun A => set_same (by rw [List.getElem?_append_left tl]; exact hr)
  simp only [c3] at c2
  simp only [vlN, vl, tyN, ty, rz] at c1 c2 ⊢
  simp [c116, callW, vlN, vl, tyN, ty, hlt]
  refine xdcall_p rfl c1 (by simp) ?_
  simp
  refine ⟨?_, ?_⟩
  all_goals
    refine xcall_a (c2 _ _) ?_
    simp [cr116]
    exact Mem.le_of rfl (by simp)

theorem call63W {k n k2 p2 q2 : Int} {p q : Nat} {S : List (Nat × AObj)} {nx rp rg : Nat} (h : HasN k p q n) (hr : S[rp]? = some (rg, .cells (rz 0))) :
    ACalls Bk.pg 63 [.agg (callW k p q n k2 p2 q2 rp rg), .int .i64 0] ⟨S, nx⟩ fun out m' => out = .ret (.agg (vlN k n q)) ∧ m' = ⟨S, nx + 8⟩ := by
  refine ACalls.forget (ok63T.acalls (by simp) ?_)
  have c1 := call66W (x := .nilS) h.1 (.inl rfl)
  have tl := (List.getElem?_eq_some_iff.1 hr).1
  have c2 := fun (A : List (Nat × AObj)) (x : Nat) => call116W (k2 := k2) (p2 := p2) (q2 := q2) (S := S ++ A) (nx := x) (rp := rp) (rg := rg) h (by rw [List.getElem?_append_left tl]; exact hr)
  simp only [askW, callW, vlN, vl, tyN, ty] at c1 c2 ⊢
  simp [c63T]
  refine xdcall_p rfl c1 (by simp) ?_
  simp
  refine xdcall_a rfl (c2 _ _) ?_
  simp [cr63T]
  exact Mem.le_of rfl (by simp)

theorem call86W {k p q n k2 p2 q2 d : Int} {S : List (Nat × AObj)} {nx rp rg : Nat} (hr : S[rp]? = some (rg, .cells (rz 0))) :
    ACalls Bk.pg 86 [.agg (callW k p q n k2 p2 q2 rp rg), .int .i64 d] ⟨S, nx⟩ fun out m' => out = .ret (.tuple []) ∧ m' = ⟨S.set rp (rg, .cells (rz d)), nx + 2⟩ := by
  refine ACalls.forget (ok86.acalls (by simp) ?_)
  have tl := (List.getElem?_eq_some_iff.1 hr).1
  have c2 := fun (A : List (Nat × AObj)) (x : Nat) => call35 (d := d) (S := S ++ A) (nx := x) (rp := rp) (rg := rg) (by rw [List.getElem?_append_left tl]; exact hr)
  have c3 : ∀ A, (S ++ A).set rp (rg, .cells (rz d)) = S.set rp (rg, .cells (rz d)) ++ A := fun A => List.set_append_left _ _ tl
  simp only [c3] at c2
  simp only [callW, vlN, vl, tyN, ty, rz] at c2 ⊢
  simp [c86]
  refine xcall_a (c2 _ _) ?_
  simp [cr86]
  exact Mem.le_of rfl (by simp)

/-- A number, fitted to the result's type. -/
theorem call64W {k n k1 n1 q1 k2 : Int} {p q p2 q2 : Nat} {S : List (Nat × AObj)} {nx rp rg : Nat} (h1 : RightN k1 n1 q1) (hv : ValidN k2 p2 q2) (hr : S[rp]? = some (rg, .cells (rz 0))) :
    ACalls Bk.pg 64 [.agg (callW k p q n k2 p2 q2 rp rg), .agg (vlN k1 n1 q1)] ⟨S, nx⟩ fun out m' => out = .ret (.agg (vlN k2 (fitN k1 n1 q1 k2 p2 q2) q2)) ∧ m' = ⟨S.set rp (rg, .cells (rz (if fitL k1 n1 q1 k2 p2 q2 then 4 else 0))), nx + 6⟩ := by
  refine ACalls.forget (ok64.acalls (by simp) ?_)
  have c1 := call158 h1 hv
  have tl := (List.getElem?_eq_some_iff.1 hr).1
  obtain ⟨F, hF⟩ : ∃ F, F = fitN k1 n1 q1 k2 p2 q2 := ⟨_, rfl⟩
  obtain ⟨C, hC⟩ : ∃ C : Int, C = if fitL k1 n1 q1 k2 p2 q2 then 4 else 0 := ⟨_, rfl⟩
  rw [← hF, ← hC] at c1 ⊢
  have c2 := fun (A : List (Nat × AObj)) (x : Nat) => call86W (k := k) (p := p) (q := q) (n := n) (k2 := k2) (p2 := p2) (q2 := q2) (d := C) (S := S ++ A) (nx := x) (rp := rp) (rg := rg) (by rw [List.getElem?_append_left tl]; exact hr)
  have c3 : ∀ A, (S ++ A).set rp (rg, .cells (rz C)) = S.set rp (rg, .cells (rz C)) ++ A := fun A => List.set_append_left _ _ tl
  simp only [c3] at c2
  simp only [callW, vlN, vl, tyN, ty] at c1 c2 ⊢
  simp [c64]
  refine xcall_p c1 (by simp) ?_
  simp
  refine xcall_a (c2 _ _) ?_
  simp [cr64]
  exact Mem.le_of rfl (by simp)
end Go.Pm

/- BkV4: contracts: what is asked of numbers alone; signs; sums; a number held against its whole part. -/
namespace Go.Pm
open Go Go.Proofs
attribute [-simp] List.getElem?_map
attribute [simp] nilCheckA postA_norm

/-- (What is asked without a type: values that are right.) -/
theorem call160N {vs : List (Int × Int × Int)} {S : List (Nat × AObj)} {nx rp rg : Nat} (hv : ∀ v ∈ vs, RightN v.1 v.2.1 v.2.2) (hr : S[rp]? = some (rg, .row 24 4 (vs.map fun v => vlN v.1 v.2.1 v.2.2))) (hl : vs.length ≤ 100) :
    ACalls Bk.pg 160 [.const (.pointer none), .row rp rg 4 0 vs.length] ⟨S, nx⟩ fun out m' => out = .ret (.int .i64 0) ∧ ∃ nx', m' = ⟨S, nx'⟩ := by
  refine ACalls.forget (ok160.acalls (by simp) ?_)
  simp only [vlN, vl] at hr
  simp [c160]
  refine wpS_loopS (ι := Nat × Nat) (fun s => [(0, .const (.pointer none)), (1, .row rp rg 4 0 vs.length), (9, .row rp rg 4 0 vs.length), (10, .int .i64 vs.length), (11, .int .i64 (s.1 : Nat))]) (fun s => ⟨S, s.2⟩) (fun s => vs.length - s.1) (fun s => s.1 ≤ vs.length) (0, nx) (Nat.zero_le _) (Sim.of_le (Env.le_of (by simp)) (Mem.le_of rfl (by simp))) ?_
  rintro ⟨i, n⟩ hi
  simp only at hi
  have hwi : IntKind.i64.wrap ((i : Int) + 1) = (i : Int) + 1 := wrap64 (by omega) (by omega)
  simp
  refine br_cond rfl (fun h1 => ?_) (fun h1 => ?_)
  · have hlt : i < vs.length := by have := ltI_t.1 h1; omega
    have hx := idxM (f := fun v : Int × Int × Int => vlN v.1 v.2.1 v.2.2) h1
    have c2 := call51 (hv _ (ix_mem hlt))
    obtain ⟨x, hxx⟩ : ∃ x, x = ix vs i := ⟨_, rfl⟩
    rw [← hxx] at hx c2
    simp only [vlN, vl] at c2 hx
    simp [h1, hr, hx]
    refine xcall_p c2 (by simp) ?_
    simp [hwi]
    exact ⟨i + 1, by omega, by omega, _, Sim.of_le (Env.le_of (by simp)) (Mem.le_of rfl (by simp))⟩
  · simp
    refine wpS_loopS (ι := Nat × Nat) (fun s => [(0, .const (.pointer none)), (1, .row rp rg 4 0 vs.length), (28, .row rp rg 4 0 vs.length), (29, .int .i64 vs.length), (30, .int .i64 (s.1 : Nat))]) (fun s => ⟨S, s.2⟩) (fun s => vs.length - s.1) (fun s => s.1 ≤ vs.length) (0, n) (Nat.zero_le _) (Sim.of_le (Env.le_of (by simp)) (Mem.le_of rfl (by simp))) ?_
    rintro ⟨i, n⟩ hi
    simp only at hi
    have hwi : IntKind.i64.wrap ((i : Int) + 1) = (i : Int) + 1 := wrap64 (by omega) (by omega)
    simp
    refine br_cond rfl (fun h1 => ?_) (fun h1 => ?_)
    · have hlt : i < vs.length := by have := ltI_t.1 h1; omega
      have hx := idxM (f := fun v : Int × Int × Int => vlN v.1 v.2.1 v.2.2) h1
      have hv2 := hv _ (ix_mem hlt)
      obtain ⟨x, hxx⟩ : ∃ x, x = ix vs i := ⟨_, rfl⟩
      rw [← hxx] at hx hv2
      simp only [vlN, vl] at hx
      have c3 := call242 (k := x.1) (by have := hv2.1; omega)
      simp [h1, hr, hx]
      refine xcall_p c3 (by simp) ?_
      simp [hwi]
      exact ⟨i + 1, by omega, by omega, _, Sim.of_le (Env.le_of (by simp)) (Mem.le_of rfl (by simp))⟩
    · simp [cr160, postA_ret]
      exact ⟨_, Mem.le_of rfl (by simp), _, rfl⟩

/-- A number's sign. -/
def signI (n : Int) : Int := if n < 0 then -1 else if 0 < n then 1 else 0
theorem call69 {k n q : Int} (h : RightN k n q) : PCalls Bk.pg 69 [.agg (vlN k n q)] fun out => out = .ret (.tuple [.int .i64 (signI n), .int .i64 0]) := by
  refine ok69.pcalls (by simp) ?_
  have c1 := fun (S : List (Nat × AObj)) (nx : Nat) (h2 : S[1]? = some (1, .row 24 4 [vlN k n q])) => call160N (vs := [(k, n, q)]) (S := S) (nx := nx) (rp := 1) (rg := 1) (fun v hv' => by rw [List.mem_singleton.1 hv']; exact h) h2 (by simp)
  have z : eqI 0 0 = true := rfl
  simp only [vlN, vl, List.length_singleton] at c1 ⊢
  simp [c69]
  refine xcall_r (c1 _ _ rfl) ?_ ?_
  · rintro v m' ⟨hv, nx', rfl⟩
    cases hv
    simp [z]
    refine br_cond rfl (fun h1 => ?_) (fun h1 => ?_)
    · have e : signI n = -1 := by have := ltI_t.1 h1; unfold signI; rw [if_pos (by omega)]
      simp [cr69, e]
    · have h2 := ltI_f.1 h1
      simp
      refine br_cond rfl (fun h3 => ?_) (fun h3 => ?_)
      · have e : signI n = 1 := by have := ltI_t.1 h3; unfold signI; rw [if_neg (by omega), if_pos (by omega)]
        simp [cr69, e]
      · have e : signI n = 0 := by have := ltI_f.1 h3; unfold signI; rw [if_neg (by omega), if_neg (by omega)]
        simp [cr69, e]
  · rintro v m' ⟨hv, _⟩
    cases hv

/-- A sum with nothing. -/
theorem call256 {l : List Nat} (hd : Dg l) (hl : l.length ≤ 100000) : PCalls Bk.pg 256 [.list true 1 (dl l), .list true 1 (dl [])] fun out => out = .ret (.list true 1 (dl (trimD l))) := by
  refine ok256.pcalls (by simp) ?_
  have z0 : ltI 0 0 = false := rfl
  simp [c256]
  refine wpS_loopS (ι := Nat × Nat × Nat) (fun s => [(0, .list true 1 (dl l)), (1, .list true 1 (dl [])), (5, .row 0 s.2.1 1 0 s.1), (6, .int .u8 0), (7, .int .i64 (s.1 : Nat))]) (fun s => ⟨[(s.2.1, .row 5 1 (dl (l.take s.1)))], s.2.2⟩) (fun s => l.length - s.1)
    (fun s => s.1 ≤ l.length) (0, 0, 1) (Nat.zero_le _) (Sim.trans (Sim.of_le (Env.le_of (by simp)) (Mem.le_of rfl (by simp [dl]))) (Sim.nil_env 5 5 (sz := 1) (by decide) (by simp))) ?_
  rintro ⟨i, g, nx⟩ hi
  simp only at hi
  have hwi : IntKind.i64.wrap ((i : Int) + 1) = (i : Int) + 1 := wrap64 (by omega) (by omega)
  have hi0 : ltI (i : Int) 0 = false := ltI_f.2 (by omega)
  have hlt : (l.take i).length = i := List.length_take_of_le hi
  rcases Nat.lt_or_ge i l.length with hlt2 | hge
  · have hc : ltI (i : Int) (l.length : Int) = true := ltN hlt2
    have hdx := dl_ix hc
    have hx : ix l i < 10 := hd _ (ix_mem hlt2)
    obtain ⟨d, hdd⟩ : ∃ d, d = ix l i := ⟨_, rfl⟩
    rw [← hdd] at hdx hx
    have e0 : IntKind.u8.wrap (d : Int) = d := wrap8 (by omega) (by omega)
    have e1 : (d : Int).tmod 10 = (d : Int) := by rw [Int.tmod_eq_emod_of_nonneg (by omega)]; omega
    have e2 : (d : Int).tdiv 10 = 0 := by rw [Int.tdiv_eq_ediv_of_nonneg (by omega)]; omega
    have e3 : (d : Int) / 10 = 0 := by omega
    simp [hc, hi0, hdx, e0, hwi]
    rw [e1, app_dig (by simp [hlt]) (by omega)]
    have e4 : IntKind.u8.wrap 0 = 0 := rfl
    simp [e2, e3, e4, hwi]
    refine ⟨i + 1, by omega, by omega, nx + 1, nx + 2, Sim.of_le (Env.le_of (by simp)) (Mem.le_of rfl ?_)⟩
    simp [take_ix hlt2, dl, hdd]
  · have hil : i = l.length := by omega
    subst hil
    have hc : ltI (l.length : Int) (l.length : Int) = false := ltI_f.2 (by omega)
    simp [hc, hi0, z0]
    have hk := PCalls.keep (pos := 0) (g := g) (e := 5) (n := l.length) (m := ⟨[(g, .row 5 1 (dl l))], nx⟩) (h := by rw [List.take_of_length_le (by simp)]; exact call259 l (by omega)) (hp := rfl) (hn := by simp) (hr := by rw [List.take_of_length_le (by simp)]; exact dl_noref l)
    refine xcall_r hk ?_ ?_
    · rintro v m' ⟨hv, rfl⟩
      cases hv
      simp [cr256]
    · rintro v m' ⟨hv, _⟩
      cases hv

theorem trim_self (n : Nat) : trimD (digs n) = digs n := by rw [trim_digs (digs_dg n), valD_digs]

/-- A sum of two numbers, of which one is nothing or the first is the greater one, of the other sign. -/
theorem call166W {a b : Nat} {na nb : Bool} {ea eb : Int} (ha : (digs a).length ≤ 500) (hb : (digs b).length ≤ 500) (h1 : -400 ≤ ea ∧ ea ≤ 400) (h2 : -400 ≤ eb ∧ eb ≤ 400)
    (hs : (na = nb → b = 0) ∧ (na ≠ nb → b * 10 ^ (eb - min ea eb).toNat ≤ a * 10 ^ (ea - min ea eb).toNat)) :
    PCalls Bk.pg 166 [.agg (lg a na ea), .agg (lg b nb eb)] fun out => out = .ret (.agg (lg (a * 10 ^ (ea - min ea eb).toNat - b * 10 ^ (eb - min ea eb).toNat) na (min ea eb))) := by
  refine ok166.pcalls (by simp [lg]) ?_
  have c1 := call251 (na := na) (nb := nb) (ea := ea) (eb := eb) (Nat.le_trans ha (by omega)) (Nat.le_trans hb (by omega)) (by omega) (by omega)
  obtain ⟨A, hA⟩ : ∃ A, A = a * 10 ^ (ea - min ea eb).toNat := ⟨_, rfl⟩
  obtain ⟨B, hB⟩ : ∃ B, B = b * 10 ^ (eb - min ea eb).toNat := ⟨_, rfl⟩
  obtain ⟨E, hE⟩ : ∃ E, E = min ea eb := ⟨_, rfl⟩
  have hAl : (digs A).length ≤ 2000 := by
    obtain ⟨k, hk⟩ : ∃ k, k = (ea - min ea eb).toNat := ⟨_, rfl⟩
    have hk2 : k ≤ 800 := by omega
    rw [← hk] at hA
    rw [hA]
    refine Nat.le_trans (digs_len ((digs a).length + k) _ ?_) (by omega)
    rw [Nat.pow_add]
    exact Nat.mul_lt_mul_of_pos_right (digs_lt (Nat.le_refl _)) (Nat.pow_pos (by decide))
  have hBl : (digs B).length ≤ 2000 := by
    obtain ⟨k, hk⟩ : ∃ k, k = (eb - min ea eb).toNat := ⟨_, rfl⟩
    have hk2 : k ≤ 800 := by omega
    rw [← hk] at hB
    rw [hB]
    refine Nat.le_trans (digs_len ((digs b).length + k) _ ?_) (by omega)
    rw [Nat.pow_add]
    exact Nat.mul_lt_mul_of_pos_right (digs_lt (Nat.le_refl _)) (Nat.pow_pos (by decide))
  have hs1 : na = nb → B = 0 := fun h => by rw [hB, hs.1 h, Nat.zero_mul]
  have hs2 : na ≠ nb → B ≤ A := fun h => by rw [hB, hA]; exact hs.2 h
  rw [← hA, ← hB, ← hE] at c1 ⊢
  clear hs
  simp only [lg] at c1
  simp [c166, lg]
  refine xcall_p c1 (by simp) ?_
  simp
  by_cases hn : na = nb
  · subst hn
    have hB0 := hs1 rfl
    subst hB0
    have c2 := call256 (digs_dg A) (Nat.le_trans hAl (by omega))
    rw [trim_self, ← digs_zero] at c2
    simp
    refine xcall_p c2 (by simp) ?_
    simp [cr166]
  · have hn' : (na == nb) = false := by cases na <;> cases nb <;> simp_all
    have hle := hs2 hn
    have c2 := call257 (digs A) (digs B) (Nat.le_trans hAl (by omega)) (Nat.le_trans hBl (by omega)) (digs_dg A) (digs_dg B)
    have c3 := lessC hle (Nat.le_trans hAl (by omega)) (Nat.le_trans hBl (by omega))
    have hge : ltI (cmpD (digs A) (digs B)) 0 = false := ltI_f.2 ((cmp_sign A B).1.2 hle)
    simp [hn', hn]
    refine xcall_p c2 (by simp) ?_
    simp [hge]
    refine xcall_p c3 (by simp) ?_
    simp [cr166]
end Go.Pm

/- BkV5: contracts: a number held against its whole part; whole parts. -/
namespace Go.Pm
open Go Go.Proofs
attribute [-simp] List.getElem?_map
attribute [simp] nilCheckA postA_norm

/-- A number's whole part, toward 0; whether it is the number. -/
def tW (n : Int) (q : Nat) : Int := sgn (decide (n < 0)) (n.natAbs / 10 ^ q)
def isW (n : Int) (q : Nat) : Bool := decide (n.natAbs % 10 ^ q = 0)

theorem tW_abs (n : Int) (q : Nat) : (tW n q).natAbs = n.natAbs / 10 ^ q := by
  unfold tW sgn
  generalize n.natAbs / 10 ^ q = T
  split <;> omega

theorem tW_right {n : Int} {q : Nat} (h : RightN 2 n q) : RightN 2 (tW n q) 0 := by
  have h1 := tW_abs n q
  have h2 : n.natAbs / 10 ^ q ≤ n.natAbs := Nat.div_le_self _ _
  have h3 := h.1
  exact ⟨.inr ⟨rfl, by omega, by omega⟩, by omega, by omega⟩

theorem digs_nil {n : Nat} : (digs n).length = 0 ↔ n = 0 := by
  constructor
  · intro h
    rcases Nat.eq_zero_or_pos n with h0 | h0
    · exact h0
    · rw [digs_pos h0] at h; simp at h
  · rintro rfl
    rw [digs_zero]; rfl

/-- A number held against its whole part. -/
def cmpW (n : Int) (q : Nat) : Int := if isW n q then 0 else if n < 0 then -1 else 1

theorem call78W {n : Int} {q : Nat} (h : RightN 2 n q) : PCalls Bk.pg 78 [.agg (vlN 2 n q), .agg (vlN 2 (tW n q) 0)] fun out => out = .ret (.tuple [.int .i64 (cmpW n q), .int .i64 0]) := by
  refine ok78.pcalls (by simp) ?_
  have ht := tW_right h
  have c1 := fun (S : List (Nat × AObj)) (nx : Nat) (h2 : S[2]? = some (2, .row 24 4 [vlN 2 n q, vlN 2 (tW n q) 0])) => call160N (vs := [(2, n, q), (2, tW n q, 0)]) (S := S) (nx := nx) (rp := 2) (rg := 2) (fun v hv' => by
    rcases List.mem_cons.1 hv' with rfl | hv'
    · exact h
    · rw [List.mem_singleton.1 hv']; exact ht) h2 (by simp)
  have c2 := call165N h
  have c3 := call165N ht
  have hx1 : exN 2 n q = n.natAbs := if_neg (by decide)
  have hx2 : exN 2 (tW n q) 0 = n.natAbs / 10 ^ q := by rw [show exN 2 (tW n q) 0 = (tW n q).natAbs from if_neg (by decide), tW_abs]
  have l1 := exN_len h
  have l2 := exN_len ht
  rw [hx1] at c2 l1
  rw [hx2] at c3 l2
  have hq := h.2
  have hmin : min (-(q : Int)) (-0) = -(q : Int) := by omega
  have et : (-0 - -(q : Int)).toNat = q := by omega
  have e0 : (-(q : Int) - -(q : Int)).toNat = 0 := by omega
  have hdm := Nat.div_add_mod n.natAbs (10 ^ q)
  have hmul : 10 ^ q * (n.natAbs / 10 ^ q) = n.natAbs / 10 ^ q * 10 ^ q := Nat.mul_comm _ _
  have c4 := call166W (a := n.natAbs) (b := n.natAbs / 10 ^ q) (na := decide (n < 0)) (nb := !decide (tW n q < 0)) (ea := -(q : Int)) (eb := -0) (Nat.le_trans l1 (by omega)) (Nat.le_trans l2 (by omega)) (by omega) (by omega) (by
    rw [hmin, et, e0, Nat.pow_zero, Nat.mul_one]
    refine ⟨fun hs => ?_, fun _ => by omega⟩
    have h1 := tW_abs n q
    by_cases hn : n < 0
    · rw [decide_eq_true hn] at hs
      have : ¬ tW n q < 0 := by simpa using hs.symm
      have h2 : tW n q ≤ 0 := by unfold tW sgn; rw [decide_eq_true hn]; generalize n.natAbs / 10 ^ q = T; simp
      omega
    · rw [decide_eq_false hn] at hs
      have : tW n q < 0 := by simpa using hs.symm
      have h2 : 0 ≤ tW n q := by unfold tW sgn; rw [decide_eq_false hn]; generalize n.natAbs / 10 ^ q = T; simp
      omega)
  rw [hmin, et, e0, Nat.pow_zero, Nat.mul_one] at c4
  have hD : n.natAbs - n.natAbs / 10 ^ q * 10 ^ q = n.natAbs % 10 ^ q := by omega
  rw [hD] at c4
  obtain ⟨D, hDd⟩ : ∃ D, D = n.natAbs % 10 ^ q := ⟨_, rfl⟩
  obtain ⟨t, htt⟩ : ∃ t, t = tW n q := ⟨_, rfl⟩
  obtain ⟨T, hT⟩ : ∃ T, T = n.natAbs / 10 ^ q := ⟨_, rfl⟩
  have hcw : cmpW n q = if D = 0 then 0 else if n < 0 then -1 else 1 := by
    unfold cmpW isW
    rw [← hDd]
    by_cases h : D = 0 <;> simp [h]
  rw [← hDd, ← htt, ← hT] at c4
  rw [← htt] at c1 c3 ⊢
  rw [← hT] at c3
  have z : eqI 0 0 = true := rfl
  simp only [Int.neg_zero] at c3 c4
  rw [hcw]
  simp only [vlN, vl, lg, List.length_cons, List.length_nil] at c1 c2 c3 c4 ⊢
  simp [c78]
  refine xcall_r (c1 _ _ rfl) ?_ ?_
  · rintro v m' ⟨hv, nx', rfl⟩
    cases hv
    simp [z]
    refine xcall_p c3 (by simp) ?_
    simp
    refine xdcall_p rfl c2 (by simp) ?_
    simp
    refine xdcall_p rfl c4 (by simp) ?_
    simp
    refine br_cond rfl (fun h1 => ?_) (fun h1 => ?_)
    · have h0 : D = 0 := digs_nil.1 (by have := eqI_t.1 h1; omega)
      simp [cr78, h0]
    · have h0 : D ≠ 0 := fun h0 => eqI_f.1 h1 (by have := digs_nil.2 h0; omega)
      simp
      refine br_cond rfl (fun h2 => ?_) (fun h2 => ?_)
      · have hn : n < 0 := of_decide_eq_true h2
        simp [cr78, h0, hn]
      · have hn : ¬ n < 0 := of_decide_eq_false h2
        simp [cr78, h0, hn]
  · rintro v m' ⟨hv, _⟩
    cases hv

theorem call161 {n : Int} {q : Nat} (h : RightN 2 n q) : PCalls Bk.pg 161 [.agg (vlN 2 n q)] fun out => out = .ret (.tuple [.int .i64 (tW n q), .bool (isW n q), .int .i64 0]) := by
  refine ok161.pcalls (by simp) ?_
  have c1 := fun (S : List (Nat × AObj)) (nx : Nat) (h2 : S[1]? = some (1, .row 24 4 [vlN 2 n q])) => call160N (vs := [(2, n, q)]) (S := S) (nx := nx) (rp := 1) (rg := 1) (fun v hv' => by rw [List.mem_singleton.1 hv']; exact h) h2 (by simp)
  have c2 := call165N h
  have hx1 : exN 2 n q = n.natAbs := if_neg (by decide)
  have l1 := exN_len h
  rw [hx1] at c2 l1
  have hq := h.2
  have hN : n.natAbs ≤ 999999999999999 := by have := h.1; omega
  have c3 := upC (a := n.natAbs) (n := 0) (by omega)
  rw [Nat.pow_zero, Nat.mul_one] at c3
  have c4 := cutC (a := n.natAbs) (n := q) (by omega) (by omega)
  obtain ⟨T, hT⟩ : ∃ T, T = n.natAbs / 10 ^ q := ⟨_, rfl⟩
  rw [← hT] at c4
  have hTle : T ≤ n.natAbs := by rw [hT]; exact Nat.div_le_self _ _
  have hTl : (digs T).length ≤ 15 := digs_len 15 T (by omega)
  have c5 := call245 (digs T) (digs_dg T) (by rw [valD_digs]; omega) (by omega)
  rw [valD_digs] at c5
  have c6 := call78W h
  have htw : tW n q = if n < 0 then -(T : Int) else T := by
    unfold tW sgn
    rw [← hT]
    by_cases hn : n < 0 <;> simp [hn]
  obtain ⟨t, htt⟩ : ∃ t, t = tW n q := ⟨_, rfl⟩
  obtain ⟨C, hC⟩ : ∃ C, C = cmpW n q := ⟨_, rfl⟩
  have hi : isW n q = eqI C 0 := by
    rw [hC]
    unfold cmpW
    cases isW n q with
    | true => rfl
    | false => by_cases hn : n < 0 <;> simp [hn] <;> rfl
  rw [← htt] at c6 htw ⊢
  rw [← hC] at c6
  rw [hi]
  have z : eqI 0 0 = true := rfl
  have w0 : IntKind.i64.wrap (q : Int) = (q : Int) := wrap64 (by omega) (by omega)
  have m1 : ¬ (0 : Int) < -(q : Int) := by omega
  have m2 : (if 0 < (q : Int) then (q : Int) else 0) = q := by split <;> omega
  have g15 : ltI 15 ((digs T).length : Int) = false := ltI_f.2 (by omega)
  have wn : IntKind.i64.wrap (-(T : Int)) = -(T : Int) := wrap64 (by omega) (by omega)
  simp only [vlN, vl, lg, List.length_singleton] at c1 c2 c6 ⊢
  simp [c161]
  refine xcall_r (c1 _ _ rfl) ?_ ?_
  · rintro v m' ⟨hv, nx', rfl⟩
    cases hv
    simp [z]
    refine xcall_p c2 (by simp) ?_
    simp [m1]
    refine xdcall_p rfl c3 (by simp; omega) ?_
    simp [w0, m2]
    refine xdcall_p rfl c4 (by simp; omega) ?_
    simp [g15]
    refine xcall_p c5 (by simp) ?_
    simp
    refine br_cond rfl (fun h1 => ?_) (fun h1 => ?_)
    · have hn : n < 0 := of_decide_eq_true h1
      rw [if_pos hn] at htw
      rw [htw] at c6 ⊢
      simp [wn]
      refine xcall_p c6 (by simp) ?_
      simp [cr161]
    · have hn : ¬ n < 0 := of_decide_eq_false h1
      rw [if_neg hn] at htw
      rw [htw] at c6 ⊢
      simp
      refine xcall_p c6 (by simp) ?_
      simp [cr161]
  · rintro v m' ⟨hv, _⟩
    cases hv
end Go.Pm

/- BkS9: code, resolved, where what is called writes. Printed by ShowSC3.lean. -/
namespace Go.Pm
open Go Go.Proofs

def Bk.imp6364 : List Go.FuncId := [63, 64]
/-- A whole part's function. -/
def c71T : SC :=
  (.seq (.ops [⟨(some 2), .plain (.box 10), [.tmp 0], none⟩,
    ⟨(some 3), .plain (.alloc [(.int .i64 0), (.int .i64 0), (.int .i64 0), (.str ⟨#[]⟩)]), [], none⟩] [])
  (.seq (.draw (.step ⟨(some 5), .plain (.load true 10), [.tmp 2], none⟩
    (.or (.step ⟨(some 4), .plain (.load true 10), [.tmp 2], none⟩
    (.or (.step ⟨(some 6), .call 63, [.tmp 5, .lit (.int .i64 0)], none⟩
    (.step ⟨(some 7), .plain (.load false 1), [.tmp 1], none⟩
    (.step ⟨(some 8), .call 72, [.tmp 6, .tmp 7], none⟩
    (.step ⟨(some 9), .call 64, [.tmp 4, .tmp 8], none⟩
    (.step ⟨none, .plain (.store 4), [.tmp 3, .tmp 9], none⟩
    .done)))))
    (.step ⟨(some 7), .plain (.load false 1), [.tmp 1], none⟩
    (.step ⟨(some 6), .call 63, [.tmp 5, .lit (.int .i64 0)], none⟩
    (.step ⟨(some 8), .call 72, [.tmp 6, .tmp 7], none⟩
    (.step ⟨(some 9), .call 64, [.tmp 4, .tmp 8], none⟩
    (.step ⟨none, .plain (.store 4), [.tmp 3, .tmp 9], none⟩
    .done)))))))
    (.or (.step ⟨(some 6), .call 63, [.tmp 5, .lit (.int .i64 0)], none⟩
    (.step ⟨(some 4), .plain (.load true 10), [.tmp 2], none⟩
    (.step ⟨(some 7), .plain (.load false 1), [.tmp 1], none⟩
    (.step ⟨(some 8), .call 72, [.tmp 6, .tmp 7], none⟩
    (.step ⟨(some 9), .call 64, [.tmp 4, .tmp 8], none⟩
    (.step ⟨none, .plain (.store 4), [.tmp 3, .tmp 9], none⟩
    .done))))))
    (.step ⟨(some 7), .plain (.load false 1), [.tmp 1], none⟩
    (.or (.step ⟨(some 4), .plain (.load true 10), [.tmp 2], none⟩
    (.step ⟨(some 6), .call 63, [.tmp 5, .lit (.int .i64 0)], none⟩
    (.step ⟨(some 8), .call 72, [.tmp 6, .tmp 7], none⟩
    (.step ⟨(some 9), .call 64, [.tmp 4, .tmp 8], none⟩
    (.step ⟨none, .plain (.store 4), [.tmp 3, .tmp 9], none⟩
    .done)))))
    (.step ⟨(some 6), .call 63, [.tmp 5, .lit (.int .i64 0)], none⟩
    (.step ⟨(some 4), .plain (.load true 10), [.tmp 2], none⟩
    (.step ⟨(some 8), .call 72, [.tmp 6, .tmp 7], none⟩
    (.step ⟨(some 9), .call 64, [.tmp 4, .tmp 8], none⟩
    (.step ⟨none, .plain (.store 4), [.tmp 3, .tmp 9], none⟩
    .done)))))))))) [5, 4, 6, 7, 8, 9])
  .ret))
def cr71T : List Res := [(3, some (true, 4))]
theorem ok71T : FOk Bk.pg.toProgram Bk.imp6364 71 c71T cr71T Tryz.f71.ntmps := ⟨Tryz.f71, _, Tryz.func71, rfl, by kernel_rfl, by kernel_rfl, by kernel_rfl, rfl⟩
end Go.Pm

/- BkV6: contracts: whole parts below, above, toward 0; the functions of the table. -/
namespace Go.Pm
open Go Go.Proofs
attribute [-simp] List.getElem?_map
attribute [simp] nilCheckA postA_norm

/-- The whole part below (-1), above (1), toward 0. -/
def wholeV (way n : Int) (q : Nat) : Int := if isW n q then tW n q else if way < 0 ∧ n < 0 then tW n q - 1 else if 0 < way ∧ 0 < n then tW n q + 1 else tW n q

theorem signI_neg {n : Int} : signI n < 0 ↔ n < 0 := by unfold signI; split <;> (try split) <;> omega
theorem signI_pos {n : Int} : 0 < signI n ↔ 0 < n := by unfold signI; split <;> (try split) <;> omega

theorem call72 {way n : Int} {q : Nat} (h : RightN 2 n q) : PCalls Bk.pg 72 [.agg (vlN 2 n q), .int .i64 way] fun out => out = .ret (.agg (vlN 2 (wholeV way n q) 0)) := by
  refine ok72.pcalls (by simp) ?_
  have c1 := call161 h
  have c2 := call69 h
  have ht := (tW_right h).1
  have w1 : IntKind.i64.wrap (tW n q - 1) = tW n q - 1 := wrap64 (by omega) (by omega)
  have w2 : IntKind.i64.wrap (tW n q + 1) = tW n q + 1 := wrap64 (by omega) (by omega)
  obtain ⟨t, htt⟩ : ∃ t, t = tW n q := ⟨_, rfl⟩
  obtain ⟨b, hb⟩ : ∃ b, b = isW n q := ⟨_, rfl⟩
  have hW : wholeV way n q = if b then t else if (ltI way 0 && ltI (signI n) 0) = true then t - 1 else if (ltI 0 way && ltI 0 (signI n)) = true then t + 1 else t := by
    have p1 : (ltI way 0 && ltI (signI n) 0) = true ↔ way < 0 ∧ n < 0 := by rw [Bool.and_eq_true, ltI_t, ltI_t, signI_neg]
    have p2 : (ltI 0 way && ltI 0 (signI n)) = true ↔ 0 < way ∧ 0 < n := by rw [Bool.and_eq_true, ltI_t, ltI_t, signI_pos]
    rw [hb, htt]
    unfold wholeV
    simp only [p1, p2]
  rw [← htt] at c1 w1 w2
  rw [← hb] at c1
  rw [hW]
  have z23 : eqI 2 3 = false := rfl
  generalize hA : ltI way 0 = A
  generalize hB : ltI (signI n) 0 = B
  generalize hC : ltI 0 way = C
  generalize hD : ltI 0 (signI n) = D
  simp only [vlN, vl] at c1 c2 ⊢
  simp [c72, z23]
  refine xcall_p c1 (by simp) ?_
  simp
  refine xcall_p c2 (by simp) ?_
  simp
  refine br_cond rfl (fun h1 => ?_) (fun h1 => ?_)
  · subst h1
    simp [cr72]
  · subst h1
    cases A <;> cases B <;> cases C <;> cases D <;> simp [hA, hB, hC, hD, w1, w2, cr72]

theorem wholeV_right {way n : Int} {q : Nat} (h : RightN 2 n q) : RightN 2 (wholeV way n q) 0 := by
  have ht := (tW_right h).1
  have ha := tW_abs n q
  have hn : n.natAbs ≤ 999999999999999 := by have := h.1; omega
  have key : isW n q = false → n.natAbs / 10 ^ q < 999999999999999 := fun hi => by
    cases q with
    | zero =>
      have : isW n 0 = true := decide_eq_true (by rw [Nat.pow_zero]; exact Nat.mod_one _)
      rw [this] at hi
      cases hi
    | succ k =>
      have h2 : n.natAbs / 10 ^ (k + 1) ≤ n.natAbs / 10 := by
        rw [Nat.pow_succ, Nat.mul_comm, ← Nat.div_div_eq_div_mul]
        exact Nat.div_le_self _ _
      omega
  refine ⟨.inr ⟨rfl, ?_, ?_⟩, by omega, by omega⟩
  all_goals
    unfold wholeV
    cases hi : isW n q with
    | true => simp only [if_true]; omega
    | false =>
      have := key hi
      simp only [Bool.false_eq_true, if_false]
      generalize n.natAbs / 10 ^ q = T at ha this
      split
      · omega
      · split <;> omega

/-- What FLOOR, CEIL and TRUNC tell. -/
theorem call71 {way n k2 : Int} {p q p2 q2 : Nat} {S : List (Nat × AObj)} {nx rp rg : Nat} (h : HasN 2 p q n) (hv : ValidN k2 p2 q2) (hr : S[rp]? = some (rg, .cells (rz 0))) :
    ACalls Bk.pg 71 [.agg (callW 2 p q n k2 p2 q2 rp rg), .iptr true [.int .i64 way]] ⟨S, nx⟩ fun out m' => out = .ret (.agg (vlN k2 (fitN 2 (wholeV way n q) 0 k2 p2 q2) q2)) ∧ ∃ nx', m' = ⟨S.set rp (rg, .cells (rz (if fitL 2 (wholeV way n q) 0 k2 p2 q2 then 4 else 0))), nx'⟩ := by
  refine ACalls.forget (ok71T.acalls (by simp) ?_)
  have tl := (List.getElem?_eq_some_iff.1 hr).1
  have ca := fun (A : List (Nat × AObj)) (x : Nat) => call63W (k2 := k2) (p2 := p2) (q2 := q2) (S := S ++ A) (nx := x) (rp := rp) (rg := rg) h (by rw [List.getElem?_append_left tl]; exact hr)
  have cb := call72 (way := way) h.2.1
  have hW := wholeV_right (way := way) h.2.1
  obtain ⟨W, hWd⟩ : ∃ W, W = wholeV way n q := ⟨_, rfl⟩
  rw [← hWd] at cb hW ⊢
  have cc := fun (A : List (Nat × AObj)) (x : Nat) => call64W (k := 2) (n := n) (p := p) (q := q) (k1 := 2) (n1 := W) (q1 := 0) (S := S ++ A) (nx := x) (rp := rp) (rg := rg) hW hv (by rw [List.getElem?_append_left tl]; exact hr)
  obtain ⟨F, hF⟩ : ∃ F, F = fitN 2 W 0 k2 p2 q2 := ⟨_, rfl⟩
  obtain ⟨C, hC⟩ : ∃ C : Int, C = if fitL 2 W 0 k2 p2 q2 then 4 else 0 := ⟨_, rfl⟩
  rw [← hF, ← hC] at cc ⊢
  have c3 : ∀ A, (S ++ A).set rp (rg, .cells (rz C)) = S.set rp (rg, .cells (rz C)) ++ A := fun A => List.set_append_left _ _ tl
  simp only [c3] at cc
  simp only [callW, vlN, vl, tyN, ty] at ca cb cc ⊢
  simp [c71T]
  refine ⟨⟨?_, ?_⟩, ?_, ?_, ?_⟩
  all_goals
    refine xdcall_a rfl (ca _ _) ?_
    simp
    refine xdcall_p rfl cb (by simp) ?_
    simp
    refine xdcall_a rfl (cc _ _) ?_
    simp [cr71T]
    exact ⟨⟨S.set rp (rg, .cells (rz C)), _⟩, Mem.le_of rfl (by simp), _, rfl⟩
end Go.Pm

/- BkV7: contracts: what is done safely when a whole part is asked for; a whole part, asked for by its name. -/
namespace Go.Pm
open Go Go.Proofs
attribute [-simp] List.getElem?_map
attribute [simp] nilCheckA postA_norm

def e26W : Env := [(0, .ptr 0 0 0), (1, .ptr 1 1 0), (2, .ptr 2 2 0), (3, .ptr 3 3 0), (4, .ptr 5 5 0), (5, .ptr 4 4 0), (6, .ptr 7 7 0), (37, .fn 47 [.ptr 8 8 0])]
def e26Wb : Env := [(0, .ptr 0 0 0), (1, .ptr 1 1 0), (2, .ptr 2 2 0), (3, .ptr 3 3 0), (4, .ptr 5 5 0), (5, .ptr 4 4 0), (6, .ptr 7 7 0), (47, .fn 47 [.ptr 10 10 0])]
/-- Memory while a whole part is asked for. -/
def m26W (s : ByteArray) (way p q n p2 q2 : Int) : List (Nat × AObj) :=
  [(0, .cells [.str s]), (1, .cells [.list true 4 [vlN 2 n q]]), (2, .cells [.list true 6 [tyN 2 p q]]), (3, .cells (tyN 2 p2 q2)), (4, .cells (vl 0 0 0 ⟨#[]⟩)), (5, .cells (rz 0)), (6, .cells [.int .i64 0]), (7, .cells (rowW way)), (8, .cells [.int .i64 1])]

theorem round26W {s : ByteArray} {way p q n p2 q2 : Int} {i : Nat} (h : ValidN 2 p q) (hi : i < 1) :
    YCalls Bk.pg 9 9 [.int .i64 (i : Nat)] ⟨m26W s way p q n p2 q2 ++ [(9, .loop .ready e26W ok26r)], 10⟩ fun out m' => out = .ret (.bool true) ∧ m' = ⟨m26W s way p q n p2 q2 ++ [(9, .loop .ready e26W ok26r)], 10⟩ := by
  refine ycalls_S (ps := [38]) (a := a26) (b := b26) (e := e26W) rfl rfl ?_
  rw [show loopOk Bk.pg.toProgram Bk.imp [38] a26 b26 = ok26r from rfl]
  have c1 := call31 h.1 h.2
  obtain rfl : i = 0 := by omega
  have hlt : ltI 0 1 = true := rfl
  simp only [tyN, ty] at c1
  simp [a26, b26, Env.sets, e26W, m26W, hlt, tyN, ty]
  refine xcall_p c1 (by simp) ?_
  simp
  refine xcall_p (call28 (e := 13)) (by simp) ?_
  simp
  exact ⟨rfl, _, Mem.le_refl _, rfl, rfl⟩

theorem round26Wb {s : ByteArray} {way p q n p2 q2 : Int} {i : Nat} (h : HasN 2 p q n) (hi : i < 1) :
    YCalls Bk.pg 11 11 [.int .i64 (i : Nat)] ⟨m26W s way p q n p2 q2 ++ [(9, .hole), (10, .cells [.int .i64 1]), (11, .loop .ready e26Wb ok26s)], 12⟩ fun out m' => out = .ret (.bool true) ∧ m' = ⟨m26W s way p q n p2 q2 ++ [(9, .hole), (10, .cells [.int .i64 1]), (11, .loop .ready e26Wb ok26s)], 12⟩ := by
  refine ycalls_S (ps := [48]) (a := a26b) (b := b26b) (e := e26Wb) rfl rfl ?_
  rw [show loopOk Bk.pg.toProgram Bk.imp [48] a26b b26b = ok26s from rfl]
  have c1 := call32 h.2.1
  have c2 := call33 h
  obtain rfl : i = 0 := by omega
  have hlt : ltI 0 1 = true := rfl
  simp only [tyN, ty, vlN, vl] at c1 c2
  simp [a26b, b26b, Env.sets, e26Wb, m26W, hlt, tyN, ty, vlN, vl]
  refine xdcall_p rfl c1 (by simp) ?_
  simp [hlt]
  refine xdcall_p rfl c2 (by simp) ?_
  simp
  refine xdcall_p rfl (call28 (e := 1)) (by simp) ?_
  simp
  exact ⟨rfl, _, Mem.le_refl _, rfl, rfl⟩

set_option maxHeartbeats 4000000 in
theorem call26W {s : ByteArray} {way n : Int} {p q p2 q2 : Nat} (hs : lkF tabL s = some (1, 1, some ((70, []), (71, [.iptr true [.int .i64 way]])))) (h : HasN 2 p q n) (hv : ValidN 2 p2 q2) :
    ACalls Bk.pg 26 [.ptr 0 0 0, .ptr 1 1 0, .ptr 2 2 0, .ptr 3 3 0, .ptr 5 5 0, .ptr 4 4 0] ⟨(m26W s way p q n p2 q2).take 7, 7⟩ fun out m' => out = .ret (.tuple []) ∧
      ∃ nx', m' = ⟨[(0, .cells [.str s]), (1, .cells [.list true 4 [vlN 2 n q]]), (2, .cells [.list true 6 [tyN 2 p q]]), (3, .cells (tyN 2 p2 q2)), (4, .cells (vlN 2 (fitN 2 (wholeV way n q) 0 2 p2 q2) q2)), (5, .cells (rz (if fitL 2 (wholeV way n q) 0 2 p2 q2 then 4 else 0))), (6, .cells [.int .i64 0])], nx'⟩ := by
  refine ACalls.forget (ok26.acalls (by simp) ?_)
  have z11 : leI 1 1 = true := rfl
  have zz : eqI 1 1 = true := rfl
  have z2 : eqI 2 2 = true := rfl
  have one : Value.nilFunc.oneCell' = true := rfl
  have c27 := call27W hs
  have c34 := call34W (way := way) h.1
  have c31 := call31 hv.1 hv.2
  have c71 := fun (S : List (Nat × AObj)) (nx : Nat) (hS : S[5]? = some (5, .cells (rz 0))) => call71 (way := way) (S := S) (nx := nx) (rp := 5) (rg := 5) h hv hS
  obtain ⟨F, hF⟩ : ∃ F, F = fitN 2 (wholeV way n q) 0 2 p2 q2 := ⟨_, rfl⟩
  obtain ⟨C, hC⟩ : ∃ C : Int, C = if fitL 2 (wholeV way n q) 0 2 p2 q2 then 4 else 0 := ⟨_, rfl⟩
  rw [← hF, ← hC] at c71 ⊢
  simp only [rowW, tyN, ty, vlN, vl, rz, callW] at c27 c34 c31 c71 ⊢
  simp [c26, m26W, List.take, rz, vl, tyN, ty, vlN]
  refine xdcall_p rfl c27 (by simp) ?_
  simp [isKey, lookA, beqB_t, one]
  refine xcall_p (call28 (e := 5)) (by simp) ?_
  simp
  refine xcall_p (call29 (n := 1) (lo := 1) (hi := 1) ⟨by omega, by omega⟩) (by simp) ?_
  simp [zz]
  refine xcall_p (call28 (e := 11)) (by simp) ?_
  simp
  refine xcall_a call30 ?_
  simp
  refine wpS_rangeS e26W ⟨m26W s way p q n p2 q2, 9⟩ (Sim.of_le (Env.le_of (by simp [e26W])) (Mem.le_of rfl (by simp [m26W, rowW, rz, vl, tyN, ty, vlN]))) rfl
    (call47 (pos := 9) (gen := 9) (p := 8) (g := 8) (n := 1) (Inv := fun _ m => m = ⟨m26W s way p q n p2 q2 ++ [(9, .loop .ready e26W ok26r)], 10⟩) (by omega) ?hY ?hc ?h0) ?hr ?hp
  case hY =>
    rintro i m hi rfl
    exact round26W h.1 hi
  case hc => rfl
  case h0 => rfl
  case hp =>
    rintro v m' ⟨hv', _⟩
    cases hv'
  case hr =>
    rintro v m' ⟨hv', rfl⟩
    refine ⟨.ready, e26W, ok26r, rfl, ?_⟩
    simp [e26W, m26W]
    refine xcall_a call30 ?_
    simp
    refine wpS_rangeS e26Wb ⟨m26W s way p q n p2 q2 ++ [(9, .hole), (10, .cells [.int .i64 1])], 11⟩ (Sim.of_le (Env.le_of (by simp [e26Wb])) (Mem.le_of rfl (by simp [m26W]))) rfl
      (call47 (pos := 11) (gen := 11) (p := 10) (g := 10) (n := 1) (Inv := fun _ m => m = ⟨m26W s way p q n p2 q2 ++ [(9, .hole), (10, .cells [.int .i64 1]), (11, .loop .ready e26Wb ok26s)], 12⟩) (by omega) ?hY2 ?hc2 ?h02) ?hr2 ?hp2
    case hY2 =>
      rintro i m hi rfl
      exact round26Wb h hi
    case hc2 => rfl
    case h02 => rfl
    case hp2 =>
      rintro v m' ⟨hv', _⟩
      cases hv'
    case hr2 =>
      rintro v m' ⟨hv', rfl⟩
      refine ⟨.ready, e26Wb, ok26s, rfl, ?_⟩
      simp [e26Wb, m26W, rowW, tyN, ty, vlN, vl, rz]
      refine xcall_p c34 (by simp) ?_
      simp
      refine xcall_p c31 (by simp) ?_
      simp
      refine xcall_p (call28 (e := 13)) (by simp) ?_
      simp [z2]
      refine xcall_p (call28 (e := 10)) (by simp) ?_
      simp [one]
      refine xcall_r (c71 _ _ rfl) ?_ ?_
      · rintro v m' ⟨hv', nx', rfl⟩
        cases hv'
        simp [cr26]
        refine ⟨⟨_, nx'⟩, ?_, nx', rfl⟩
        exact Mem.le_of rfl (by simp)
      · rintro v m' ⟨hv', _⟩
        cases hv'

theorem call9W {s : ByteArray} {way n : Int} {p q p2 q2 : Nat} (hs : lkF tabL s = some (1, 1, some ((70, []), (71, [.iptr true [.int .i64 way]])))) (h : HasN 2 p q n) (hv : ValidN 2 p2 q2) :
    PCalls Bk.pg 9 [.str s, .list true 4 [vlN 2 n q], .list true 6 [tyN 2 p q], .agg (tyN 2 p2 q2)] fun out => out = .ret (.tuple [.agg (vlN 2 (fitN 2 (wholeV way n q) 0 2 p2 q2) q2), .agg (rz (if fitL 2 (wholeV way n q) 0 2 p2 q2 then 4 else 0)), .int .i64 0]) := by
  refine ok9.pcalls (by simp) ?_
  have c26 := call26W hs h hv
  obtain ⟨V, hV⟩ : ∃ V, V = fitN 2 (wholeV way n q) 0 2 p2 q2 := ⟨_, rfl⟩
  obtain ⟨C, hC⟩ : ∃ C : Int, C = if fitL 2 (wholeV way n q) 0 2 p2 q2 then 4 else 0 := ⟨_, rfl⟩
  rw [← hV, ← hC] at c26 ⊢
  have c25 := call25 (f := 26) (caps := [.ptr 0 0 0, .ptr 1 1 0, .ptr 2 2 0, .ptr 3 3 0, .ptr 5 5 0, .ptr 4 4 0]) (S := (m26W s way p q n p2 q2).take 6) (nx := 6)
    (Q := fun S' => S' = [(0, .cells [.str s]), (1, .cells [.list true 4 [vlN 2 n q]]), (2, .cells [.list true 6 [tyN 2 p q]]), (3, .cells (tyN 2 p2 q2)), (4, .cells (vlN 2 V q2)), (5, .cells (rz C))])
    (c26.mono fun out m' ⟨ho, nx', hm⟩ => ⟨ho, [(0, .cells [.str s]), (1, .cells [.list true 4 [vlN 2 n q]]), (2, .cells [.list true 6 [tyN 2 p q]]), (3, .cells (tyN 2 p2 q2)), (4, .cells (vlN 2 V q2)), (5, .cells (rz C))], nx', hm, rfl, rfl⟩)
  have z : eqI 0 0 = true := rfl
  simp only [m26W, List.take, rz, vl, tyN, ty, vlN] at c25 ⊢
  simp [c9]
  refine xcall_r c25 ?_ ?_
  · rintro v m' ⟨hv', S', nx', rfl, rfl⟩
    cases hv'
    simp [z, cr9]
  · rintro v m' ⟨hv', _⟩
    cases hv'
end Go.Pm

/- BkV8: contracts: the type that a whole part has, asked for by its name. -/
namespace Go.Pm
open Go Go.Proofs
attribute [-simp] List.getElem?_map
attribute [simp] nilCheckA postA_norm

def a39 : SC := (.ops [⟨(some 6), .plain .mv, [.tmp 34], none⟩] [])
def b39 : SC := (.block 1
     (.ops [⟨(some 35), .plain (.load false 1), [.tmp 1], none⟩,
       ⟨(some 36), .plain .mv, [.tmp 6], none⟩,
       ⟨(some 37), .plain (.indexAddr 6), [.tmp 35, .tmp 36], none⟩,
       ⟨(some 38), .plain (.load true 6), [.tmp 37], none⟩,
       ⟨(some 39), .call 31, [.tmp 38], none⟩,
       ⟨(some 40), .call 28, [.tmp 39, .lit (.int .i64 13)], none⟩] [35, 36, 37, 38, 39, 40]))
def a39b : SC := (.ops [⟨(some 7), .plain .mv, [.tmp 47], none⟩] [])
def b39b : SC := (.block 3
     (.draw (.step ⟨(some 48), .plain (.load false 1), [.tmp 2], none⟩
       (.step ⟨(some 49), .plain .mv, [.tmp 7], none⟩
       (.step ⟨(some 50), .plain (.indexAddr 4), [.tmp 48, .tmp 49], none⟩
       (.step ⟨(some 51), .plain (.fieldAddr 0), [.tmp 50], none⟩
       (.step ⟨(some 52), .plain (.load false 1), [.tmp 51], none⟩
       (.step ⟨(some 53), .plain (.bin .eql), [.tmp 52, .lit (.int .i64 0)], none⟩
       (.step ⟨(some 54), .plain .mv, [.tmp 53], none⟩
       (.step ⟨(some 55), .plain (.load false 1), [.tmp 2], (some (54, false))⟩
       (.step ⟨(some 56), .plain .mv, [.tmp 7], (some (54, false))⟩
       (.step ⟨(some 57), .plain (.indexAddr 4), [.tmp 55, .tmp 56], (some (54, false))⟩
       (.step ⟨(some 58), .plain (.load true 4), [.tmp 57], (some (54, false))⟩
       (.step ⟨(some 59), .call 32, [.tmp 58], (some (54, false))⟩
       (.step ⟨(some 60), .plain .mv, [.tmp 59], (some (54, false))⟩
       (.step ⟨(some 61), .plain (.load false 1), [.tmp 1], (some (60, true))⟩
       (.step ⟨(some 62), .plain .mv, [.tmp 7], (some (60, true))⟩
       (.step ⟨(some 63), .plain (.indexAddr 6), [.tmp 61, .tmp 62], (some (60, true))⟩
       (.step ⟨(some 64), .plain (.load true 6), [.tmp 63], (some (60, true))⟩
       (.step ⟨(some 65), .plain (.load false 1), [.tmp 2], (some (60, true))⟩
       (.step ⟨(some 66), .plain .mv, [.tmp 7], (some (60, true))⟩
       (.step ⟨(some 67), .plain (.indexAddr 4), [.tmp 65, .tmp 66], (some (60, true))⟩
       (.step ⟨(some 68), .plain (.load true 4), [.tmp 67], (some (60, true))⟩
       (.step ⟨(some 69), .call 33, [.tmp 64, .tmp 68], (some (60, true))⟩
       (.step ⟨(some 70), .plain .pick, [.tmp 60, .tmp 69, .lit (.bool false)], (some (54, false))⟩
       (.step ⟨(some 71), .plain .pick, [.tmp 54, .lit (.bool true), .tmp 70], none⟩
       (.step ⟨(some 72), .call 28, [.tmp 71, .lit (.int .i64 1)], none⟩
       .done))))))))))))))))))))))))) [48, 49, 50, 51, 52, 53, 54, 55, 56, 57, 58, 59, 60, 61, 62, 63, 64, 65, 66, 67, 68, 69, 70, 71, 72]))
def e39 : Env := [(0, .ptr 0 0 0), (1, .ptr 1 1 0), (2, .ptr 2 2 0), (3, .ptr 3 3 0), (4, .ptr 5 5 0), (33, .fn 47 [.ptr 6 6 0])]
def e39b : Env := [(0, .ptr 0 0 0), (1, .ptr 1 1 0), (2, .ptr 2 2 0), (3, .ptr 3 3 0), (4, .ptr 5 5 0), (46, .fn 47 [.ptr 8 8 0])]
def ok39r : Loop → Prop := loopOk Bk.pg.toProgram Bk.imp [34] a39 b39
def ok39s : Loop → Prop := loopOk Bk.pg.toProgram Bk.imp [47] a39b b39b
/-- Memory while a whole part's type is asked for. -/
def m39 (s : ByteArray) (way k p q : Int) : List (Nat × AObj) :=
  [(0, .cells [.str s]), (1, .cells [.list true 6 [tyN k p q]]), (2, .cells [.nilS]), (3, .cells (ty 0 0 0 0 false ⟨#[]⟩)), (4, .cells [.int .i64 0]), (5, .cells (rowW way)), (6, .cells [.int .i64 1])]

theorem round39 {s : ByteArray} {way k p q : Int} {i : Nat} (h : ValidN k p q) (hi : i < 1) :
    YCalls Bk.pg 7 7 [.int .i64 (i : Nat)] ⟨m39 s way k p q ++ [(7, .loop .ready e39 ok39r)], 8⟩ fun out m' => out = .ret (.bool true) ∧ m' = ⟨m39 s way k p q ++ [(7, .loop .ready e39 ok39r)], 8⟩ := by
  refine ycalls_S (ps := [34]) (a := a39) (b := b39) (e := e39) rfl rfl ?_
  rw [show loopOk Bk.pg.toProgram Bk.imp [34] a39 b39 = ok39r from rfl]
  have c1 := call31 h.1 h.2
  obtain rfl : i = 0 := by omega
  have hlt : ltI 0 1 = true := rfl
  simp only [tyN, ty] at c1
  simp [a39, b39, Env.sets, e39, m39, hlt, tyN, ty]
  refine xcall_p c1 (by simp) ?_
  simp
  refine xcall_p (call28 (e := 13)) (by simp) ?_
  simp
  exact ⟨rfl, _, Mem.le_refl _, rfl, rfl⟩

set_option maxHeartbeats 4000000 in
theorem call39 {s : ByteArray} {way k : Int} {p q : Nat} (hs : lkF tabL s = some (1, 1, some ((70, []), (71, [.iptr true [.int .i64 way]])))) (h : ValidN k p q) :
    ACalls Bk.pg 39 [.ptr 0 0 0, .ptr 1 1 0, .ptr 2 2 0, .ptr 3 3 0] ⟨(m39 s way k p q).take 5, 5⟩ fun out m' => out = .ret (.tuple []) ∧
      ∃ nx', m' = ⟨[(0, .cells [.str s]), (1, .cells [.list true 6 [tyN k p q]]), (2, .cells [.nilS]), (3, .cells (tyN k (wholeP k p q) 0)), (4, .cells [.int .i64 0])], nx'⟩ := by
  refine ACalls.forget (ok39.acalls (by simp) ?_)
  have one : Value.nilFunc.oneCell' = true := rfl
  have z01 : leI 0 1 = true := rfl
  have c27 := call27W hs
  have c70 := call70 (x := .nilS) h (.inl rfl)
  simp only [rowW, tyN, ty, vlN, vl, askW] at c27 c70 ⊢
  simp [c39, m39, List.take, tyN, ty]
  refine xdcall_p rfl c27 (by simp) ?_
  simp [isKey, lookA, beqB_t, one]
  refine xcall_p (call28 (e := 5)) (by simp) ?_
  simp
  refine xcall_p (call29 (n := 1) (lo := 1) (hi := 1) ⟨by omega, by omega⟩) (by simp) ?_
  simp [z01]
  refine xcall_p (call28 (e := 11)) (by simp) ?_
  simp
  refine xcall_a call30 ?_
  simp
  refine wpS_rangeS e39 ⟨m39 s way k p q, 7⟩ (Sim.of_le (Env.le_of (by simp [e39])) (Mem.le_of rfl (by simp [m39, rowW, tyN, ty]))) rfl
    (call47 (pos := 7) (gen := 7) (p := 6) (g := 6) (n := 1) (Inv := fun _ m => m = ⟨m39 s way k p q ++ [(7, .loop .ready e39 ok39r)], 8⟩) (by omega) ?hY ?hc ?h0) ?hr ?hp
  case hY =>
    rintro i m hi rfl
    exact round39 h hi
  case hc => rfl
  case h0 => rfl
  case hp =>
    rintro v m' ⟨hv', _⟩
    cases hv'
  case hr =>
    rintro v m' ⟨hv', rfl⟩
    refine ⟨.ready, e39, ok39r, rfl, ?_⟩
    simp [e39, m39]
    refine xcall_a call30 ?_
    simp
    refine wpS_rangeS e39b ⟨m39 s way k p q ++ [(7, .hole), (8, .cells [.int .i64 0])], 9⟩ (Sim.of_le (Env.le_of (by simp [e39b])) (Mem.le_of rfl (by simp [m39]))) rfl
      (call47 (pos := 9) (gen := 9) (p := 8) (g := 8) (n := 0) (Inv := fun _ m => m = ⟨m39 s way k p q ++ [(7, .hole), (8, .cells [.int .i64 0]), (9, .loop .ready e39b ok39s)], 10⟩) (by omega) ?hY2 ?hc2 ?h02) ?hr2 ?hp2
    case hY2 =>
      rintro i m hi rfl
      omega
    case hc2 => rfl
    case h02 => rfl
    case hp2 =>
      rintro v m' ⟨hv', _⟩
      cases hv'
    case hr2 =>
      rintro v m' ⟨hv', rfl⟩
      refine ⟨.ready, e39b, ok39s, rfl, ?_⟩
      simp [e39b, m39, rowW, tyN, ty]
      refine xcall_p c70 (by simp) ?_
      simp [cr39]
      refine ⟨⟨_, 10⟩, ?_, 10, rfl⟩
      exact Mem.le_of rfl (by simp)

theorem call17 {s : ByteArray} {way k : Int} {p q : Nat} (hs : lkF tabL s = some (1, 1, some ((70, []), (71, [.iptr true [.int .i64 way]])))) (h : ValidN k p q) :
    PCalls Bk.pg 17 [.str s, .list true 6 [tyN k p q], .nilS] fun out => out = .ret (.tuple [.agg (tyN k (wholeP k p q) 0), .int .i64 0]) := by
  refine ok17.pcalls (by simp) ?_
  have c39 := call39 hs h
  obtain ⟨U, hU⟩ : ∃ U, U = wholeP k p q := ⟨_, rfl⟩
  rw [← hU] at c39 ⊢
  have c25 := call25 (f := 39) (caps := [.ptr 0 0 0, .ptr 1 1 0, .ptr 2 2 0, .ptr 3 3 0]) (S := (m39 s way k p q).take 4) (nx := 4)
    (Q := fun S' => S' = [(0, .cells [.str s]), (1, .cells [.list true 6 [tyN k p q]]), (2, .cells [.nilS]), (3, .cells (tyN k U 0))])
    (c39.mono fun out m' ⟨ho, nx', hm⟩ => ⟨ho, [(0, .cells [.str s]), (1, .cells [.list true 6 [tyN k p q]]), (2, .cells [.nilS]), (3, .cells (tyN k U 0))], nx', hm, rfl, rfl⟩)
  have z : eqI 0 0 = true := rfl
  simp only [m39, List.take, tyN, ty] at c25 ⊢
  simp [c17]
  refine xcall_r c25 ?_ ?_
  · rintro v m' ⟨hv', S', nx', rfl, rfl⟩
    cases hv'
    simp [z, cr17]
  · rintro v m' ⟨hv', _⟩
    cases hv'
end Go.Pm

/- BkV9: a contract whose lists are only lent. -/
namespace Go.Pm
open Go Go.Proofs

mutual
/-- A value without places. -/
def AV.plain : AV → Bool
  | .any | .bool _ | .int .. | .str _ | .const _ | .nilS => true
  | .agg cs | .tuple cs => plainL cs
  | _ => false
def plainL : List AV → Bool
  | [] => true
  | x :: xs => x.plain && plainL xs
end

mutual
theorem VR.of_plain {σ σ' : Sig} {K K' : Bool → Nat → Prop} {w w' : World} : ∀ (x : AV) (v : Value), x.plain = true → VR σ K w x v → VR σ' K' w' x v
  | .any, _, _, _ => by simp [VR]
  | .bool b, v, _, h => by simpa [VR] using h
  | .int k n, v, _, h => by simpa [VR] using h
  | .str s, v, _, h => by simpa [VR] using h
  | .const c, v, _, h => by simpa [VR] using h
  | .nilS, v, _, h => by simpa [VR] using h
  | .agg cs, v, hp, h => by
    rw [VR] at h ⊢
    obtain ⟨us, rfl, h⟩ := h
    exact ⟨us, rfl, VRs.of_plain cs _ (by simpa [AV.plain] using hp) h⟩
  | .tuple cs, v, hp, h => by
    rw [VR] at h ⊢
    obtain ⟨us, rfl, h⟩ := h
    exact ⟨us, rfl, VRs.of_plain cs _ (by simpa [AV.plain] using hp) h⟩
  | .list .., _, hp, _ => by simp [AV.plain] at hp
  | .iptr .., _, hp, _ => by simp [AV.plain] at hp
  | .ptr .., _, hp, _ => by simp [AV.plain] at hp
  | .rptr .., _, hp, _ => by simp [AV.plain] at hp
  | .row .., _, hp, _ => by simp [AV.plain] at hp
  | .map .., _, hp, _ => by simp [AV.plain] at hp
  | .fn .., _, hp, _ => by simp [AV.plain] at hp
  | .yield .., _, hp, _ => by simp [AV.plain] at hp
  | .iface .., _, hp, _ => by simp [AV.plain] at hp
  | .kmap .., _, hp, _ => by simp [AV.plain] at hp
theorem VRs.of_plain {σ σ' : Sig} {K K' : Bool → Nat → Prop} {w w' : World} : ∀ (xs : List AV) (us : List Value), plainL xs = true → VRs σ K w xs us → VRs σ' K' w' xs us
  | [], us, _, h => by simpa [VRs] using h
  | x :: xs, us, hp, h => by
    rw [VRs] at h ⊢
    obtain ⟨u, us', rfl, h1, h2⟩ := h
    simp only [plainL, Bool.and_eq_true] at hp
    exact ⟨u, us', rfl, VR.of_plain x u hp.1 h1, VRs.of_plain xs us' hp.2 h2⟩
end

/-- What is lent counts as kept. -/
def lent (K : Bool → Nat → Prop) : Bool → Nat → Prop := fun p b => K p b ∨ K false b
/-- The second says no more than the first, if what is lent counts as kept. -/
def Lend (xs ys : List AV) : Prop := ∀ (K : Bool → Nat → Prop) (w : World) (us : List Value), VRs [] K w xs us → VRs [] (lent K) w ys us
theorem Lend.nil : Lend [] [] := fun _ _ _ h => by rw [VRs] at h ⊢; exact h
theorem Lend.cons {x : AV} {xs ys : List AV} (h : Lend xs ys) : Lend (x :: xs) (x :: ys) := fun K w us hx => by
  rw [VRs] at hx ⊢
  obtain ⟨u, us', rfl, h1, h2⟩ := hx
  exact ⟨u, us', rfl, VR.mono (List.prefix_refl _) (fun _ _ h => .inl h) (fun _ _ _ => rfl) _ _ h1, h K w us' h2⟩
theorem Lend.list {sz : Nat} {els : List (List AV)} {xs ys : List AV} (h : Lend xs ys) : Lend (.list false sz els :: xs) (.list true sz els :: ys) := fun K w us hx => by
  rw [VRs] at hx ⊢
  obtain ⟨u, us', rfl, h1, h2⟩ := hx
  refine ⟨u, us', rfl, ?_, h K w us' h2⟩
  rw [VR] at h1 ⊢
  obtain ⟨a, cap, b, o, e1, e2, e3, e4⟩ := h1
  exact ⟨a, cap, b, o, e1, e2, e3.imp id (fun ⟨e5, e6⟩ => ⟨e5, .inr e6⟩), LR.mono (List.prefix_refl _) (fun _ _ h => .inl h) (fun _ _ _ => rfl) b rfl els o sz e4⟩

theorem PCalls.lend {P : Prg} {f : FuncId} {xs ys : List AV} {x : AV} (h : PCalls P f ys fun out => out = .ret x) (hx : x.plain = true) (hs : Lend xs ys) : PCalls P f xs fun out => out = .ret x := by
  refine ⟨h.1, fun K w vals hK hv hl => ?_⟩
  refine (h.2 (lent K) w vals (fun p b hb => hb.elim (hK p b) (hK false b)) (hs K w vals hv) hl).mono ?_
  rintro e w' ⟨K', out, rfl, h1, h2, _, _, h5⟩
  refine ⟨K, _, rfl, h1, h2, fun _ _ h => h, fun _ _ h => .inl h, ?_⟩
  obtain ⟨u, hu, hV⟩ := h5
  exact ⟨u, hu, VR.of_plain x u hx hV⟩
end Go.Pm
