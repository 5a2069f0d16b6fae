/- BkC14: contracts: the common type of two types that are alike. -/
import Derived.Test.YtmcogjekcefjoaaGreatDoorGg
import Derived.Shelf.Strconv.Itoa3
import Derived.Test.YtmcogjekcefjoaaGreatDoorProg
namespace Go.Pm
open Go Go.Proofs
attribute [-simp] List.getElem?_map
attribute [simp] nilCheckA postA_norm

theorem call248 {k p q : Int} (h : ValidN k p q) : PCalls Bk.pg 248 [.list true 6 [tyN k p q, tyN k p q]] fun out => out = .ret (.tuple []) := by
  refine pcalls_of_acalls 1 (ok248.acalls (by simp) ?_)
  have c1 := call31 h.1 h.2
  have hk : k = 1 ∨ k = 2 := by have := h.1; omega
  have z1 : leI 1 k = true := leI_t.2 (by omega)
  have z3 : leI k 3 = true := leI_t.2 (by omega)
  simp only [tyN, ty] at c1 ⊢
  simp [c248]
  refine wpS_loopS (ι := Nat × Nat) (fun s => [(0, .list true 6 [tyN k p q, tyN k p q]), (6, .list true 6 [tyN k p q, tyN k p q]), (7, .int .i64 2), (8, .int .i64 (s.1 : Nat))]) (fun s => ⟨[], s.2⟩) (fun s => 2 - s.1) (fun s => s.1 ≤ 2) (0, 0) (by decide) (Sim.of_le (Env.le_of (by simp [tyN, ty])) (Mem.le_of rfl (by simp))) ?_
  rintro ⟨i, nx⟩ hi
  simp only at hi
  have hwi : IntKind.i64.wrap ((i : Int) + 1) = (i : Int) + 1 := wrap64 (by omega) (by omega)
  simp [tyN, ty]
  refine br_cond rfl (fun h1 => ?_) (fun h1 => ?_)
  · have hlt : i < 2 := by have := ltI_t.1 h1; omega
    have hx : ([tyN k p q, tyN k p q] : List (List AV))[i]? = some (tyN k p q) := by
      have : i = 0 ∨ i = 1 := by omega
      rcases this with rfl | rfl <;> rfl
    simp only [tyN, ty] at hx
    simp [hx]
    refine xcall_p c1 (by simp) ?_
    simp
    refine xcall_p (call241 (e := 13)) (by simp) ?_
    simp [hwi]
    exact ⟨i + 1, by omega, by omega, _, Sim.of_le (Env.le_of (by simp)) (Mem.le_of rfl (by simp))⟩
  · simp
    refine wpS_loopS (ι := Nat × Nat) (fun s => [(16, .list true 6 [tyN k p q, tyN k p q]), (17, .int .i64 2), (18, .int .i64 (s.1 : Nat))]) (fun s => ⟨[], s.2⟩) (fun s => 2 - s.1) (fun s => s.1 ≤ 2) (0, nx) (Nat.zero_le _) (Sim.of_le (Env.le_of (by simp [tyN, ty])) (Mem.le_of rfl (by simp))) ?_
    rintro ⟨i, nx⟩ hi
    simp only at hi
    have hwi : IntKind.i64.wrap ((i : Int) + 1) = (i : Int) + 1 := wrap64 (by omega) (by omega)
    simp [tyN, ty]
    refine br_cond rfl (fun h1 => ?_) (fun h1 => ?_)
    · have hlt : i < 2 := by have := ltI_t.1 h1; omega
      have hx : ([tyN k p q, tyN k p q] : List (List AV))[i]? = some (tyN k p q) := by
        have : i = 0 ∨ i = 1 := by omega
        rcases this with rfl | rfl <;> rfl
      simp only [tyN, ty] at hx
      simp [hx, z1, z3]
      refine xcall_p (call241 (e := 10)) (by simp) ?_
      simp [hwi]
      exact ⟨i + 1, by omega, by omega, _, Sim.of_le (Env.le_of (by simp)) (Mem.le_of rfl (by simp))⟩
    · simp [cr248, permOD, permD, mapO]

theorem call249 {k p q : Int} (h : ValidN k p q) : PCalls Bk.pg 249 [.list true 6 [tyN k p q], .agg (tyN k p q), .fn 250 []] fun out => out = .ret (.agg (tyN k p q)) := by
  refine ok249.pcalls (by simp) ?_
  have hk : k = 1 ∨ k = 2 := by have := h.1; omega
  have c1 := call250 (p := p) (q := q) hk
  have z0 : ltI 0 1 = true := rfl
  have z1 : ltI 1 1 = false := rfl
  have w1 : IntKind.i64.wrap 1 = 1 := rfl
  simp only [tyN, ty] at c1 ⊢
  simp [c249]
  refine wpS_loopS (ι := Nat × Nat) (fun s => [(2, .fn 250 []), (4, .ptr 0 0 0), (6, .ptr 1 1 0), (9, .list true 6 [tyN k p q]), (10, .int .i64 1), (11, .int .i64 (s.1 : Nat))]) (fun s => ⟨[(0, .cells (tyN k p q)), (1, .cells (ty 0 0 0 0 false ⟨#[]⟩))], s.2⟩) (fun s => 1 - s.1) (fun s => s.1 ≤ 1) (0, 2) (by decide) (Sim.of_le (Env.le_of (by simp [tyN, ty])) (Mem.le_of rfl (by simp [tyN, ty]))) ?_
  rintro ⟨i, nx⟩ hi
  simp only at hi
  have hi' : i = 0 ∨ i = 1 := by omega
  rcases hi' with rfl | rfl
  · simp [tyN, ty, z0]
    refine xcall_p c1 (by simp) ?_
    simp [w1]
    exact ⟨1, by omega, by omega, _, Sim.of_le (Env.le_of (by simp)) (Mem.le_of rfl (by simp))⟩
  · simp [tyN, ty, z1, cr249]

theorem call247 {k p q : Int} {S : List (Nat × AObj)} {nx tp tg : Nat} (h : ValidN k p q) (ht : S[tp]? = some (tg, .cells [.list true 6 [tyN k p q, tyN k p q]])) :
    ACalls Bk.pg 247 [.ptr tp tg 0] ⟨S, nx⟩ fun out m' => out = .ret (.agg (tyN k p q)) ∧ ∃ nx', m' = ⟨S, nx'⟩ := by
  refine ACalls.forget (ok247.acalls (by simp) ?_)
  have c1 := call248 h
  have c2 := call249 h
  have tl := (List.getElem?_eq_some_iff.1 ht).1
  have k1 : ∀ x, (S ++ [x])[tp]? = some (tg, .cells [.list true 6 [tyN k p q, tyN k p q]]) := fun x => by rw [List.getElem?_append_left tl]; exact ht
  have z0 : ltI 0 2 = true := rfl
  have hs : sliceA true false 6 [.list true 6 [tyN k p q, tyN k p q], .int .i64 1] = some (.list true 6 [tyN k p q]) := by simp [sliceA, boundsA]
  simp only [tyN, ty] at c1 c2 k1 hs ⊢
  simp [c247, k1]
  refine xcall_p c1 (by simp) ?_
  simp [k1, z0]
  refine xcall_p (call241 (e := 8)) (by simp) ?_
  simp [k1, hs]
  refine xdcall_p rfl c2 (by simp) ?_
  simp [k1, cr247]
  exact ⟨⟨S, _⟩, Mem.le_of rfl (by simp), _, rfl⟩

/-- The common type. -/
theorem call163 {k p q : Int} (h : ValidN k p q) : PCalls Bk.pg 163 [.list true 6 [tyN k p q, tyN k p q]] fun out => out = .ret (.tuple [.agg (tyN k p q), .int .i64 0]) := by
  refine ok163.pcalls (by simp) ?_
  have c1 := fun (m : Mem) (hm : m.store[0]? = some (0, .cells [.list true 6 [tyN k p q, tyN k p q]])) => call239 (f := 247) (caps := [.ptr 0 0 0]) (k := k) (p := p) (q := q) (m := m) (fun x y => call247 (tp := 0) (tg := 0) h (by
    have := (List.getElem?_eq_some_iff.1 hm).1
    rw [List.getElem?_append_left this]; exact hm))
  simp only [tyN, ty] at c1 ⊢
  simp [c163]
  refine xcall_r (c1 _ rfl) ?_ ?_
  · rintro v m' ⟨hv, nx, rfl⟩
    cases hv
    simp [cr163]
  · rintro v m' ⟨hv, _⟩
    cases hv
end Go.Pm

/- BkW1: the shelf's contracts at this dump (written by the kit's lay-shelf.mjs and lay-plain.mjs; picked by pickshelf.py). -/
namespace Go.Proofs
open Go.Shelf

def Tryz.lays246_ren : Go.Shelf.Ren := ⟨fun | 246 => 278 | 283 => 330 | 284 => 331 | 285 => 332 | 286 => 333 | 129 => 237 | 317 => 360 | 318 => 361 | 319 => 362 | 320 => 363 | 337 => 387 | 338 => 388 | n => n, fun | 2 => 2 | 3 => 3 | 9 => 9 | 4 => 4 | 171 => 282 | 0 => 0 | 53 => 217 | 37 => 84 | 5 => 5 | 173 => 284 | 212 => 318 | 51 => 215 | 20 => 20 | 213 => 319 | 46 => 140 | 232 => 346 | 233 => 347 | n => n, fun | 17 => 3 | 18 => 6 | 19 => 7 | n => n⟩

theorem Tryz.lays246 : Go.Proofs.Lays.n246 Tryz.prog Tryz.lays246_ren := {
  mixed := by kernel_rfl
  f129 := Tryz.func237.trans (congrArg some (by kernel_rfl))
  f246 := Tryz.func278.trans (congrArg some (by kernel_rfl))
  f283 := Tryz.func330.trans (congrArg some (by kernel_rfl))
  f284 := Tryz.func331.trans (congrArg some (by kernel_rfl))
  f285 := Tryz.func332.trans (congrArg some (by kernel_rfl))
  f286 := Tryz.func333.trans (congrArg some (by kernel_rfl))
  f317 := Tryz.func360.trans (congrArg some (by kernel_rfl))
  f318 := Tryz.func361.trans (congrArg some (by kernel_rfl))
  f319 := Tryz.func362.trans (congrArg some (by kernel_rfl))
  f320 := Tryz.func363.trans (congrArg some (by kernel_rfl))
  f337 := Tryz.func387.trans (congrArg some (by kernel_rfl))
  f338 := Tryz.func388.trans (congrArg some (by kernel_rfl))
  t0 := Tryz.underlying0
  a0 := Tryz.isAgg0
  z0 := Tryz.sizeOf0
  v0 := Tryz.zeroValue0
  t2 := Tryz.underlying2
  a2 := Tryz.isAgg2
  z2 := Tryz.sizeOf2
  v2 := Tryz.zeroValue2
  t3 := Tryz.underlying3
  a3 := Tryz.isAgg3
  z3 := Tryz.sizeOf3
  v3 := Tryz.zeroValue3
  t4 := Tryz.underlying4
  a4 := Tryz.isAgg4
  z4 := Tryz.sizeOf4
  v4 := Tryz.zeroValue4
  t5 := Tryz.underlying5
  a5 := Tryz.isAgg5
  z5 := Tryz.sizeOf5
  v5 := Tryz.zeroValue5
  t9 := Tryz.underlying9
  a9 := Tryz.isAgg9
  z9 := Tryz.sizeOf9
  v9 := Tryz.zeroValue9
  t20 := Tryz.underlying20
  a20 := Tryz.isAgg20
  z20 := Tryz.sizeOf20
  v20 := Tryz.zeroValue20
  t37 := Tryz.underlying84
  a37 := Tryz.isAgg84
  z37 := Tryz.sizeOf84
  v37 := Tryz.zeroValue84
  t46 := Tryz.underlying140
  a46 := Tryz.isAgg140
  z46 := Tryz.sizeOf140
  v46 := Tryz.zeroValue140
  t51 := Tryz.underlying215
  a51 := Tryz.isAgg215
  z51 := Tryz.sizeOf215
  v51 := Tryz.zeroValue215
  t53 := Tryz.underlying217
  a53 := Tryz.isAgg217
  z53 := Tryz.sizeOf217
  v53 := Tryz.zeroValue217
  t171 := Tryz.underlying282
  a171 := Tryz.isAgg282
  z171 := Tryz.sizeOf282
  v171 := Tryz.zeroValue282
  t173 := Tryz.underlying284
  a173 := Tryz.isAgg284
  z173 := Tryz.sizeOf284
  v173 := Tryz.zeroValue284
  t212 := Tryz.underlying318
  a212 := Tryz.isAgg318
  z212 := Tryz.sizeOf318
  v212 := Tryz.zeroValue318
  t213 := Tryz.underlying319
  a213 := Tryz.isAgg319
  z213 := Tryz.sizeOf319
  t232 := Tryz.underlying346
  a232 := Tryz.isAgg346
  z232 := Tryz.sizeOf346
  v232 := Tryz.zeroValue346
  t233 := Tryz.underlying347
  a233 := Tryz.isAgg347
  z233 := Tryz.sizeOf347
  v233 := Tryz.zeroValue347
  g17 := by kernel_rfl
  g18 := by kernel_rfl
  g19 := by kernel_rfl }

open Go.RowKit Go.Sort Go.Lib in
theorem Tryz.internal_strconv_FormatInt_10_small (i : Nat) (hi : i < 100) (w : World) :
    Calls Tryz.prog 278 #[.int .i64 i, .int .i64 10] w fun e w' => e = .returned (.string ⟨(Lib.decDigits i).toArray⟩) ∧ w' = w := Any.internal_strconv_FormatInt_10_small Tryz.lays246 i hi w

end Go.Proofs
