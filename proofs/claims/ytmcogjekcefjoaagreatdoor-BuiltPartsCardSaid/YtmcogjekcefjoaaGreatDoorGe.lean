/- BkG1: types and values, whatever they are: which are right, by the program. -/
import Derived.Test.YtmcogjekcefjoaaGreatDoorGc
import Derived.Test.YtmcogjekcefjoaaGreatDoorGb
import Derived.Test.YtmcogjekcefjoaaGreatDoorGa
import Derived.Test.YtmcogjekcefjoaaGreatDoorPmT
import Derived.Test.YtmcogjekcefjoaaGreatDoorGd
import Derived.Shelf.Strings.SlTrimAscii
import Derived.Shelf.Strings.Search1
import Derived.Test.YtmcogjekcefjoaaGreatDoorProg
import Derived.Test.YtmcogjekcefjoaaGreatDoorPmV
set_option linter.unusedSimpArgs false
set_option linter.unusedVariables false
namespace Go.Pm
open Go Go.Proofs
attribute [-simp] List.getElem?_map
attribute [simp] nilCheckA postA_norm
structure Ty where
  k : Int
  p : Int
  q : Int
  n : Int
  vary : Bool
  pic : ByteArray
structure Vl where
  k : Int
  n : Int
  q : Int
  s : ByteArray
def Ty.av (t : Ty) : List AV := ty t.k t.p t.q t.n t.vary t.pic
def Vl.av (v : Vl) : List AV := vl v.k v.n v.q v.s
def rng (n lo hi : Int) : Bool := leI lo n && leI n hi
theorem rng_t {n lo hi : Int} : rng n lo hi = true ↔ lo ≤ n ∧ n ≤ hi := by
  unfold rng
  rw [Bool.and_eq_true, leI_t, leI_t]
def numT (t : Ty) (most scale : Int) : Bool := rng t.p 1 most && rng t.q 0 scale && eqI t.n 0 && !t.vary && eqS t.pic ⟨#[]⟩
def strT (t : Ty) : Bool := eqI t.p 0 && eqI t.q 0 && rng t.n 0 250 && eqS t.pic ⟨#[]⟩
def picT (t : Ty) : Bool := rng t.pic.size 1 80 && eqI t.p 0 && eqI t.q 0 && eqI t.n 0 && !t.vary
def bareT (t : Ty) : Bool := eqI t.p 0 && eqI t.q 0 && eqI t.n 0 && !t.vary && eqS t.pic ⟨#[]⟩
def validT (t : Ty) : Bool :=
  if t.k = 1 then numT t 31 31 else if t.k = 2 then numT t 15 31 else if t.k = 3 then numT t 15 0
  else if t.k = 4 ∨ t.k = 5 then strT t else if t.k = 6 then picT t else if t.k = 7 ∨ t.k = 8 ∨ t.k = 9 then bareT t else false
theorem kinds (k : Int) : k = 1 ∨ k = 2 ∨ k = 3 ∨ k = 4 ∨ k = 5 ∨ k = 6 ∨ k = 7 ∨ k = 8 ∨ k = 9 ∨ (k < 1 ∨ 9 < k) := by omega
theorem eqI_ne {a b : Int} (h : a ≠ b) : eqI a b = false := by
  cases h' : eqI a b with
  | false => rfl
  | true => exact absurd (eqI_t.1 h') h
theorem call49R (n lo hi : Int) : PCalls Bk.pg 49 [.int .i64 n, .int .i64 lo, .int .i64 hi] fun out => out = .ret (.bool (rng n lo hi)) := call49 n lo hi
theorem call128G {t : Ty} {most scale : Int} {m : Mem} {p1 g1 p2 g2 : Nat} (h1 : m.store[p1]? = some (g1, .cells [.int .i64 most])) (h2 : m.store[p2]? = some (g2, .cells [.int .i64 scale])) :
    ACalls Bk.pg 128 [.agg t.av, .ptr p1 g1 0, .ptr p2 g2 0] m fun out m' => out = .ret (.bool (numT t most scale)) ∧ m' = ⟨m.store, m.next + 1⟩ := by
  obtain ⟨k, p, q, n, vary, pic⟩ := t
  refine ACalls.forget (ok128.acalls (by simp) ?_)
  have l1 := (List.getElem?_eq_some_iff.1 h1).1
  have l2 := (List.getElem?_eq_some_iff.1 h2).1
  have k1 : ∀ x, (m.store ++ [x])[p1]? = some (g1, .cells [.int .i64 most]) := fun x => by rw [List.getElem?_append_left l1]; exact h1
  have k2 : ∀ x, (m.store ++ [x])[p2]? = some (g2, .cells [.int .i64 scale]) := fun x => by rw [List.getElem?_append_left l2]; exact h2
  simp [c128, Ty.av, ty, k1, k2, numT]
  refine xcall_p (call49R p 1 most) (by simp) ?_
  simp
  refine br_guard_t rfl (fun a1 => ?_) (fun a1 => ?_)
  · simp [a1, k1, k2]
    refine xcall_p (call49R q 0 scale) (by simp) ?_
    simp
    refine br_guard_t rfl (fun a2 => ?_) (fun a2 => ?_)
    · simp [a2]
      refine br_guard_t rfl (fun a3 => ?_) (fun a3 => ?_)
      · simp [a3]
        refine br_guard_t rfl (fun a4 => ?_) (fun a4 => ?_)
        · simp [a4, cr128, postA_ret]
          exact Mem.le_of rfl (by simp)
        · simp [a4, cr128, postA_ret]
          exact Mem.le_of rfl (by simp)
      · simp [a3, cr128, postA_ret]
        exact Mem.le_of rfl (by simp)
    · simp [a2, cr128, postA_ret]
      exact Mem.le_of rfl (by simp)
  · simp [a1, cr128, postA_ret]
    exact Mem.le_of rfl (by simp)
theorem call129G (t : Ty) : PCalls Bk.pg 129 [.agg t.av] fun out => out = .ret (.bool (strT t)) := by
  obtain ⟨k, p, q, n, vary, pic⟩ := t
  refine ok129.pcalls (by simp) ?_
  simp [c129, Ty.av, ty, strT]
  refine br_guard_t rfl (fun a1 => ?_) (fun a1 => ?_)
  · simp [a1]
    refine br_guard_t rfl (fun a2 => ?_) (fun a2 => ?_)
    · simp [a2]
      refine xcall_p (call49R n 0 250) (by simp) ?_
      simp
      refine br_guard_t rfl (fun a3 => ?_) (fun a3 => ?_)
      · simp [a3, cr129]
      · simp [a3, cr129]
    · simp [a2, cr129]
  · simp [a1, cr129]
theorem eqS_beq (a b : ByteArray) : eqS a b = (a == b) := by
  unfold eqS
  exact (beq_toListBytes a b).symm
theorem scEq (k : SKind) (ks : List SKind) (x y : AV) (xs ys : List AV) {b c : Bool} (h : scalarEq k x y = some b) (hs : scalarsEq ks xs ys = some c) : scalarsEq (k :: ks) (x :: xs) (y :: ys) = some (b && c) := by
  simp only [scalarsEq, h]
  cases b <;> simp [hs]
theorem sEqS (a b : ByteArray) : scalarEq .str (.str a) (.str b) = some (eqS a b) := by
  simp only [scalarEq, Option.some.injEq]
  exact (eqS_beq a b).symm
theorem eqTy (k p q n k' p' q' n' : Int) (v v' : Bool) (s s' : ByteArray) : scalarsEq [.int, .int, .int, .int, .bool, .str] [.int .i64 k, .int .i64 p, .int .i64 q, .int .i64 n, .bool v, .str s] [.int .i64 k', .int .i64 p', .int .i64 q', .int .i64 n', .bool v', .str s'] =
    some (eqI k k' && (eqI p p' && (eqI q q' && (eqI n n' && ((v == v') && (eqS s s' && true)))))) :=
  scEq _ _ _ _ _ _ rfl (scEq _ _ _ _ _ _ rfl (scEq _ _ _ _ _ _ rfl (scEq _ _ _ _ _ _ rfl (scEq _ _ _ _ _ _ rfl (scEq _ _ _ _ _ _ (sEqS _ _) rfl)))))
theorem call130G (t : Ty) : PCalls Bk.pg 130 [.agg t.av] fun out => out = .ret (.bool (bareT t)) := by
  obtain ⟨k, p, q, n, vary, pic⟩ := t
  refine ok130.pcalls (by simp) ?_
  have z : ∀ k : Int, eqI k k = true := fun k => eqI_t.2 rfl
  simp [c130, Ty.av, ty, bareT, z, eqTy, cr130, Bool.and_assoc]
theorem call131G (t : Ty) : PCalls Bk.pg 131 [.agg t.av] fun out => out = .ret (.bool (picT t)) := by
  obtain ⟨k, p, q, n, vary, pic⟩ := t
  refine ok131.pcalls (by simp) ?_
  have z : ∀ k : Int, eqI k k = true := fun k => eqI_t.2 rfl
  have zs : ∀ s, eqS s s = true := eqS_r
  simp [c131, Ty.av, ty, picT]
  refine xcall_p (call49R pic.size 1 80) (by simp) ?_
  simp
  refine br_guard_t rfl (fun a1 => ?_) (fun a1 => ?_)
  · simp [a1, z, zs, eqTy, cr131, Bool.and_assoc]
  · simp [a1, cr131]
theorem call132G (t : Ty) : PCalls Bk.pg 132 [.agg t.av] fun out => out = .ret (.bool false) := by
  obtain ⟨k, p, q, n, vary, pic⟩ := t
  refine ok132.pcalls (by simp) ?_
  simp [c132, Ty.av, ty, cr132]
theorem call31G (t : Ty) : PCalls Bk.pg 31 [.agg t.av] fun out => out = .ret (.bool (validT t)) := by
  obtain ⟨k, p, q, n, vary, pic⟩ := t
  refine ok31T.pcalls (by simp) ?_
  have w9 : IntKind.i64.wrap 9 = 9 := rfl
  have c129 := call129G ⟨k, p, q, n, vary, pic⟩
  have c130 := call130G ⟨k, p, q, n, vary, pic⟩
  have c131 := call131G ⟨k, p, q, n, vary, pic⟩
  have c132 := call132G ⟨k, p, q, n, vary, pic⟩
  have c128 := fun m most scale p1 g1 p2 g2 h1 h2 => call128G (t := ⟨k, p, q, n, vary, pic⟩) (most := most) (scale := scale) (m := m) (p1 := p1) (g1 := g1) (p2 := p2) (g2 := g2) h1 h2
  obtain ⟨V, hV⟩ : ∃ V, V = validT ⟨k, p, q, n, vary, pic⟩ := ⟨_, rfl⟩
  rw [← hV]
  unfold validT at hV
  generalize numT ⟨k, p, q, n, vary, pic⟩ = num at c128 hV
  generalize strT ⟨k, p, q, n, vary, pic⟩ = str at c129 hV
  generalize bareT ⟨k, p, q, n, vary, pic⟩ = bare at c130 hV
  generalize picT ⟨k, p, q, n, vary, pic⟩ = pict at c131 hV
  simp only [Ty.av, ty] at c128 c129 c130 c131 c132 ⊢
  simp [c31]
  refine xcall_a call48 ?_
  simp [w9, rulesL, cellI]
  by_cases h : rng k 0 9 = true
  · have hk := rng_t.1 h
    have hk' : k = 0 ∨ k = 1 ∨ k = 2 ∨ k = 3 ∨ k = 4 ∨ k = 5 ∨ k = 6 ∨ k = 7 ∨ k = 8 ∨ k = 9 := by omega
    refine xdcall_p rfl (call49R k 0 9) (by simp) ?_
    have z0 : ∀ n : Nat, n < 10 → ltI n 10 = true := fun n h => ltI_t.2 (by omega)
    rcases hk' with rfl | rfl | rfl | rfl | rfl | rfl | rfl | rfl | rfl | rfl
    · simp at hV
      have z1 : ltI 0 10 = true := rfl
      simp [h, z1]
      refine xdops_callw rfl rfl (c132.acalls (by simp)) ?_
      simp [cr31, hV]
    · simp at hV
      have z1 : ltI 1 10 = true := rfl
      simp [h, z1]
      refine xdops_callw rfl rfl (c128 _ 31 31 1 1 2 2 rfl rfl) ?_
      simp [cr31, hV]
    · simp at hV
      have z1 : ltI 2 10 = true := rfl
      simp [h, z1]
      refine xdops_callw rfl rfl (c128 _ 15 31 3 3 4 4 rfl rfl) ?_
      simp [cr31, hV]
    · simp at hV
      have z1 : ltI 3 10 = true := rfl
      simp [h, z1]
      refine xdops_callw rfl rfl (c128 _ 15 0 5 5 6 6 rfl rfl) ?_
      simp [cr31, hV]
    · simp at hV
      have z1 : ltI 4 10 = true := rfl
      simp [h, z1]
      refine xdops_callw rfl rfl (c129.acalls (by simp)) ?_
      simp [cr31, hV]
    · simp at hV
      have z1 : ltI 5 10 = true := rfl
      simp [h, z1]
      refine xdops_callw rfl rfl (c129.acalls (by simp)) ?_
      simp [cr31, hV]
    · simp at hV
      have z1 : ltI 6 10 = true := rfl
      simp [h, z1]
      refine xdops_callw rfl rfl (c131.acalls (by simp)) ?_
      simp [cr31, hV]
    · simp at hV
      have z1 : ltI 7 10 = true := rfl
      simp [h, z1]
      refine xdops_callw rfl rfl (c130.acalls (by simp)) ?_
      simp [cr31, hV]
    · simp at hV
      have z1 : ltI 8 10 = true := rfl
      simp [h, z1]
      refine xdops_callw rfl rfl (c130.acalls (by simp)) ?_
      simp [cr31, hV]
    · simp at hV
      have z1 : ltI 9 10 = true := rfl
      simp [h, z1]
      refine xdops_callw rfl rfl (c130.acalls (by simp)) ?_
      simp [cr31, hV]
  · have hk : k < 0 ∨ 9 < k := by
      rcases Int.lt_or_le k 0 with h1 | h1
      · exact .inl h1
      · rcases Int.lt_or_le 9 k with h2 | h2
        · exact .inr h2
        · exact absurd (rng_t.2 ⟨h1, h2⟩) h
    have h' : rng k 0 9 = false := by simpa using h
    have hv : V = false := by
      have e1 : k ≠ 1 ∧ k ≠ 2 ∧ k ≠ 3 ∧ k ≠ 4 ∧ k ≠ 5 ∧ k ≠ 6 ∧ k ≠ 7 ∧ k ≠ 8 ∧ k ≠ 9 := by omega
      simp [hV, e1]
    refine xdcall_p rfl (call49R k 0 9) (by simp) ?_
    simp [h', cr31, hv]
end Go.Pm

/- BkS13: code, resolved. Printed by ShowSC.lean and genok.py. -/
namespace Go.Pm
open Go Go.Proofs
end Go.Pm

/- BkG3: the rules of types, whatever the types are: what a rule asks, what stops it. -/
namespace Go.Pm
open Go Go.Proofs
attribute [-simp] List.getElem?_map
attribute [simp] nilCheckA postA_norm
section
variable {P : Prg} {imp : List FuncId} {l : List SOp} {d : List Nat} {dst : Option Nat} {fs : List Fr} {Q : Post} {e : Env} {m : Mem}
theorem xcall_f {f : FuncId} {xs ys : List AV} {v : AV} (h : PCalls P f ys fun out => out = .panic v) (hx : tmpAs m xs = some ys) (hk : lv P imp (.panic v) fs Q e m) : xcall P imp f xs dst l d fs Q e m := by
  refine xcall_r (h.acalls hx) ?_ ?_
  · rintro v m' ⟨hv, _⟩
    cases hv
  · rintro v m' ⟨hv, rfl⟩
    cases hv
    exact hk
theorem xmust {f : FuncId} {xs ys : List AV} {b : Bool} {w v : AV} (h : PCalls P f ys fun out => out = if b = true then .ret v else .panic w) (hx : tmpAs m xs = some ys) (ht : b = true → xops P imp l d fs Q (e.put dst v) m) (hf : b = false → lv P imp (.panic w) fs Q e m) : xcall P imp f xs dst l d fs Q e m := by
  cases b with
  | true => exact xcall_p (by simpa using h) hx (ht rfl)
  | false => exact xcall_f (by simpa using h) hx (hf rfl)
end
def wR (e : Int) : AV := .iface 271 (.agg [.int .i64 e])
theorem call241G {b : Bool} {e : Int} : PCalls Bk.pg 241 [.bool b, .int .i64 e] fun out => out = if b = true then .ret (.tuple []) else .panic (wR e) := by
  cases b with
  | true => simpa using call241 (e := e)
  | false =>
    refine pcalls_of_acalls 1 (ok241.acalls (by simp) ?_)
    simp [c241, permOD, permD, wR]
    exact ⟨_, _, ⟨rfl, rfl⟩, rfl⟩
theorem xmust241 {imp : List FuncId} {l : List SOp} {d : List Nat} {dst : Option Nat} {fs : List Fr} {Q : Post} {e : Env} {m : Mem} {b : Bool} {n : Int} (ht : b = true → xops Bk.pg imp l d fs Q (e.put dst (.tuple [])) m) (hf : b = false → lv Bk.pg imp (.panic (wR n)) fs Q e m) : xcall Bk.pg imp 241 [.bool b, .int .i64 n] dst l d fs Q e m :=
  xmust (call241G (b := b) (e := n)) (by simp) ht hf
def outP : Except Int Ty → AOut
  | .ok t => .ret (.agg t.av)
  | .error e => .panic (wR e)
def zT : Ty := ⟨0, 0, 0, 0, false, ⟨#[]⟩⟩
def outT : Except Int Ty → AOut
  | .ok t => .ret (.tuple [.agg t.av, .int .i64 0])
  | .error e => .ret (.tuple [.agg zT.av, .int .i64 e])
theorem call319P {p q g q' : Nat} {e e0 : Int} {S : List (Nat × AObj)} {nx : Nat} {t : Ty} (hp : S[p]? = some (g, .cells t.av)) (hq : S[q]? = some (q', .cells [.int .i64 e0])) (hne : p ≠ q) :
    DCalls Bk.pg 319 [.ptr p g 0, .ptr q q' 0] (some (wR e)) ⟨S, nx⟩ fun m' => ∃ A nx', m' = ⟨(S.set p (g, .cells zT.av)).set q (q', .cells [.int .i64 e]) ++ A, nx'⟩ := by
  obtain ⟨tk, tp, tq, tn, tv, ts⟩ := t
  refine ok319.dcalls (by simp) ?_
  have lp := (List.getElem?_eq_some_iff.1 hp).1
  have lq := (List.getElem?_eq_some_iff.1 hq).1
  simp only [Ty.av, ty] at hp
  have e1 : ∀ A, (S ++ A)[p]? = some (g, .cells [.int .i64 tk, .int .i64 tp, .int .i64 tq, .int .i64 tn, .bool tv, .str ts]) := fun A => by rw [List.getElem?_append_left lp]; exact hp
  have e2 : ∀ A, (S ++ A)[q]? = some (q', .cells [.int .i64 e0]) := fun A => by rw [List.getElem?_append_left lq]; exact hq
  have s1 : ∀ A x, (S ++ A).set p x = S.set p x ++ A := fun A x => List.set_append_left _ _ lp
  have s2 : ∀ A x y, (S.set p y ++ A).set q x = (S.set p y).set q x ++ A := fun A x y => List.set_append_left _ _ (by simpa using lq)
  have e3 : ∀ A y, (S.set p y ++ A)[q]? = some (q', .cells [.int .i64 e0]) := fun A y => by rw [List.getElem?_append_left (by simpa using lq), List.getElem?_set_ne hne]; exact hq
  have e4 : ∀ a A y, (S.set p y ++ a :: A)[S.length]? = some a := fun a A y => by rw [List.getElem?_append_right (by simp)]; simp
  simp [c319, wR, postR_norm, e1, s1, s2, e3, e4]
  exact ⟨_, rfl⟩
theorem call239G {f : FuncId} {caps : List AV} {r : Except Int Ty} {S : List (Nat × AObj)} {nx : Nat}
    (h : ∀ x y : AObj, ACalls Bk.pg f caps ⟨S ++ [(nx, x), (nx + 1, y)], nx + 2⟩ fun out m' => out = outP r ∧ ∃ nx', m' = ⟨S ++ [(nx, x), (nx + 1, y)], nx'⟩) :
    ACalls Bk.pg 239 [.fn f caps] ⟨S, nx⟩ fun out m' => out = outT r ∧ ∃ nx, m' = ⟨S, nx⟩ := by
  refine ACalls.forget (ok239.acalls (by simp) ?_)
  simp [cx239, cy239]
  cases r with
  | ok t =>
    obtain ⟨k, p, q, n, v, s⟩ := t
    refine xcall_r (h _ _) ?_ ?_
    · rintro v m' ⟨hv, nx, rfl⟩
      cases hv
      simp [Ty.av, ty, postF_ret]
      refine ⟨_, call319, ?_⟩
      rintro m' rfl
      simp [cr239, outT, Ty.av, ty]
      exact ⟨⟨S, _⟩, Mem.le_of rfl (by simp), _, rfl⟩
    · rintro v m' ⟨hv, _⟩
      cases hv
  | error e =>
    refine xcall_r (h _ _) ?_ ?_
    · rintro v m' ⟨hv, _⟩
      cases hv
    · rintro v m' ⟨hv, nx', rfl⟩
      cases hv
      simp [postF_panic]
      refine ⟨_, call319P (e0 := 0) (t := zT) (by simp [zT, Ty.av, ty]) (by simp) (by omega), ?_⟩
      rintro m' ⟨A, nx2, rfl⟩
      simp [cr239, outT, zT, Ty.av, ty]
      exact ⟨⟨S, _⟩, Mem.le_of rfl (by simp), _, rfl⟩
instance : Inhabited Ty := ⟨zT⟩
def numK (t : Ty) : Bool := leI 1 t.k && leI t.k 3
def validsL (ts : List Ty) : Option Int := if ts.all validT = true then (if ts.all numK = true then none else some 10) else some 13
def outM : Option Int → AOut
  | none => .ret (.tuple [])
  | some e => .panic (wR e)
theorem all_not {α : Type} [Inhabited α] {p : α → Bool} {l : List α} {i : Nat} (hi : i < l.length) (h : p (ix l i) = false) : l.all p = false := by
  cases ha : l.all p with
  | false => rfl
  | true =>
    have := List.all_eq_true.1 ha _ (ix_mem hi)
    rw [h] at this; cases this
theorem all_yes {α : Type} [Inhabited α] {p : α → Bool} {l : List α} {n : Nat} (hn : l.length ≤ n) (h : ∀ j, j < n → j < l.length → p (ix l j) = true) : l.all p = true := by
  rw [List.all_eq_true]
  intro x hx
  obtain ⟨j, hj, rfl⟩ := List.mem_iff_getElem.1 hx
  have := h j (by omega) hj
  unfold ix at this
  rwa [List.getD_eq_getElem?_getD, List.getElem?_eq_getElem hj, Option.getD_some] at this
theorem call248G (ts : List Ty) (hl : ts.length ≤ 1000) : PCalls Bk.pg 248 [.list true 6 (ts.map Ty.av)] fun out => out = outM (validsL ts) := by
  refine pcalls_of_acalls 1 (ok248.acalls (by simp) ?_)
  obtain ⟨N, hN⟩ : ∃ N, N = validsL ts := ⟨_, rfl⟩
  rw [← hN]
  unfold validsL at hN
  simp [c248]
  refine wpS_loopS (ι := Nat × Nat) (fun s => [(0, .list true 6 (ts.map Ty.av)), (6, .list true 6 (ts.map Ty.av)), (7, .int .i64 ts.length), (8, .int .i64 (s.1 : Nat))]) (fun s => ⟨[], s.2⟩) (fun s => ts.length - s.1) (fun s => s.1 ≤ ts.length ∧ ∀ j, j < s.1 → j < ts.length → validT (ix ts j) = true) (0, 0) ⟨Nat.zero_le _, fun j hj => absurd hj (Nat.not_lt_zero _)⟩ (Sim.of_le (Env.le_of (by simp)) (Mem.le_of rfl (by simp))) ?_
  rintro ⟨i, nx⟩ ⟨hi, hall⟩
  simp only at hi hall
  have hwi : IntKind.i64.wrap ((i : Int) + 1) = (i : Int) + 1 := wrap64 (by omega) (by omega)
  simp
  refine br_cond rfl (fun h1 => ?_) (fun h1 => ?_)
  · have hlt : i < ts.length := by have := ltI_t.1 h1; omega
    have hx := idxM (f := Ty.av) h1
    obtain ⟨x, hxx⟩ : ∃ x, x = ix ts i := ⟨_, rfl⟩
    rw [← hxx] at hx
    have c1 := call31G x
    obtain ⟨V, hV⟩ : ∃ V, V = validT x := ⟨_, rfl⟩
    rw [← hV] at c1
    rw [hxx] at hV
    clear hxx
    obtain ⟨k, p, q, n, v, s⟩ := x
    simp only [Ty.av, ty] at hx c1
    simp [hx]
    refine xcall_p c1 (by simp) ?_
    simp
    refine xmust241 (fun h => ?_) (fun h => ?_)
    · simp [hwi]
      refine ⟨i + 1, ⟨by omega, fun j hj hj2 => ?_⟩, by omega, _, Sim.of_le (Env.le_of (by simp)) (Mem.le_of rfl (by simp))⟩
      by_cases hji : j = i
      · subst hji; rw [← hV, h]
      · exact hall j (by omega) hj2
    · rw [all_not hlt (by rw [← hV, h])] at hN
      simp at hN
      simp [hN, outM, permOD, permD, mapO, wR]
  · have hv : ts.all validT = true := all_yes (n := i) (by have := ltI_f.1 h1; omega) hall
    rw [hv] at hN
    simp only [if_true] at hN
    simp
    refine wpS_loopS (ι := Nat × Nat) (fun s => [(16, .list true 6 (ts.map Ty.av)), (17, .int .i64 ts.length), (18, .int .i64 (s.1 : Nat))]) (fun s => ⟨[], s.2⟩) (fun s => ts.length - s.1) (fun s => s.1 ≤ ts.length ∧ ∀ j, j < s.1 → j < ts.length → numK (ix ts j) = true) (0, nx) ⟨Nat.zero_le _, fun j hj => absurd hj (Nat.not_lt_zero _)⟩ (Sim.of_le (Env.le_of (by simp)) (Mem.le_of rfl (by simp))) ?_
    rintro ⟨i, nx⟩ ⟨hi, hall⟩
    simp only at hi hall
    have hwi : IntKind.i64.wrap ((i : Int) + 1) = (i : Int) + 1 := wrap64 (by omega) (by omega)
    simp
    refine br_cond rfl (fun h1 => ?_) (fun h1 => ?_)
    · have hlt : i < ts.length := by have := ltI_t.1 h1; omega
      have hx := idxM (f := Ty.av) h1
      obtain ⟨x, hxx⟩ : ∃ x, x = ix ts i := ⟨_, rfl⟩
      rw [← hxx] at hx
      obtain ⟨V, hV⟩ : ∃ V, V = numK x := ⟨_, rfl⟩
      have hV2 : V = numK (ix ts i) := by rw [hV, hxx]
      clear hxx
      obtain ⟨k, p, q, n, v, s⟩ := x
      simp only [Ty.av, ty] at hx
      simp only [numK] at hV
      simp [hx]
      refine br_guard_t rfl (fun g1 => ?_) (fun g1 => ?_)
      · simp [g1]
        refine xmust241 (fun h => ?_) (fun h => ?_)
        · simp [hwi]
          refine ⟨i + 1, ⟨by omega, fun j hj hj2 => ?_⟩, by omega, _, Sim.of_le (Env.le_of (by simp)) (Mem.le_of rfl (by simp))⟩
          by_cases hji : j = i
          · subst hji; rw [← hV2, hV, g1, h]; rfl
          · exact hall j (by omega) hj2
        · rw [all_not hlt (by rw [← hV2, hV, g1, h]; rfl)] at hN
          simp at hN
          simp [hN, outM, permOD, permD, mapO, wR]
      · simp [g1]
        refine xmust241 (fun h => ?_) (fun h => ?_)
        · cases h
        · rw [all_not hlt (by rw [← hV2, hV, g1]; rfl)] at hN
          simp at hN
          simp [hN, outM, permOD, permD, mapO, wR]
    · have hv2 : ts.all numK = true := all_yes (n := i) (by have := ltI_f.1 h1; omega) hall
      rw [hv2] at hN
      simp at hN
      simp [hN, outM, cr248, permOD, permD, mapO]
end Go.Pm

/- BkG4: the rules of types: binary, decimal, float; two types brought together; the common type of many. -/
namespace Go.Pm
open Go Go.Proofs
attribute [-simp] List.getElem?_map
attribute [simp] nilCheckA postA_norm
def mn (a b : Int) : Int := if b < a then b else a
def mx (a b : Int) : Int := if b > a then b else a
def decT (t : Ty) : Ty := if eqI t.k 2 = true then t else ⟨2, mn 15 ((3 * t.p + 9).tdiv 10 + 1), mn 31 ((3 * t.q + 9).tdiv 10), 0, false, ⟨#[]⟩⟩
def decE (t : Ty) : Except Int Ty := if eqI t.k 3 = true then .error 10 else .ok (decT t)
theorem tdiv_le {a : Int} (h : 0 ≤ a) (b : Int) (hb : 0 < b) : 0 ≤ a.tdiv b ∧ a.tdiv b ≤ a := by
  rw [Int.tdiv_eq_ediv_of_nonneg h]
  exact ⟨Int.ediv_nonneg h (by omega), Int.ediv_le_self _ h⟩
theorem call262G {t : Ty} (hp : 0 ≤ t.p ∧ t.p ≤ 1000) (hq : 0 ≤ t.q ∧ t.q ≤ 1000) : PCalls Bk.pg 262 [.agg t.av] fun out => out = outP (decE t) := by
  refine ok262.pcalls (by simp) ?_
  obtain ⟨k, p, q, n, v, s⟩ := t
  simp only at hp hq
  obtain ⟨a1, a2⟩ := tdiv_le (a := 3 * p + 9) (by omega) 10 (by omega)
  obtain ⟨b1, b2⟩ := tdiv_le (a := 3 * q + 9) (by omega) 10 (by omega)
  have w1 : IntKind.i64.wrap (3 * p) = 3 * p := wrap64 (by omega) (by omega)
  have w2 : IntKind.i64.wrap (3 * p + 9) = 3 * p + 9 := wrap64 (by omega) (by omega)
  have w3 : IntKind.i64.wrap ((3 * p + 9).tdiv 10) = (3 * p + 9).tdiv 10 := wrap64 (by omega) (by omega)
  have w4 : IntKind.i64.wrap ((3 * p + 9).tdiv 10 + 1) = (3 * p + 9).tdiv 10 + 1 := wrap64 (by omega) (by omega)
  have w5 : IntKind.i64.wrap (3 * q) = 3 * q := wrap64 (by omega) (by omega)
  have w6 : IntKind.i64.wrap (3 * q + 9) = 3 * q + 9 := wrap64 (by omega) (by omega)
  have w7 : IntKind.i64.wrap ((3 * q + 9).tdiv 10) = (3 * q + 9).tdiv 10 := wrap64 (by omega) (by omega)
  simp [c262, Ty.av, ty, decE]
  refine xmust241 (fun h => ?_) (fun h => ?_)
  · simp at h
    simp [h]
    refine br_cond rfl (fun h1 => ?_) (fun h1 => ?_)
    · simp [h1, cr262, outP, decT, Ty.av, ty]
    · simp [h1, w1, w2, w3, w4, w5, w6, w7, cr262, outP, decT, Ty.av, ty, mn]
  · simp at h
    simp [h, outP, wR]
def turnE (t : Ty) (r : Except Int Ty) : Except Int Ty := match validsL [t] with | some e => .error e | none => r
theorem call325G {g : FuncId} {t : Ty} {r : Except Int Ty} {S : List (Nat × AObj)} {nx tp tg wp wg : Nat} (hg : validsL [t] = none → PCalls Bk.pg g [.agg t.av] fun out => out = outP r) (ht : S[tp]? = some (tg, .cells t.av)) (hw : S[wp]? = some (wg, .cells [.fn g []])) :
    ACalls Bk.pg 325 [.ptr tp tg 0, .ptr wp wg 0] ⟨S, nx⟩ fun out m' => out = outP (turnE t r) ∧ ∃ nx', m' = ⟨S, nx'⟩ := by
  refine ACalls.forget (ok325.acalls (by simp) ?_)
  have c1 := (call248G [t] (by simp)).lendO (o := outM (validsL [t])) (by cases validsL [t] <;> rfl) Lend.one
  have tl := (List.getElem?_eq_some_iff.1 ht).1
  have wl := (List.getElem?_eq_some_iff.1 hw).1
  have k1 : ∀ A, (S ++ A)[tp]? = some (tg, .cells t.av) := fun A => by rw [List.getElem?_append_left tl]; exact ht
  have k2 : ∀ A, (S ++ A)[wp]? = some (wg, .cells [.fn g []]) := fun A => by rw [List.getElem?_append_left wl]; exact hw
  unfold turnE
  generalize validsL [t] = V at c1 hg
  obtain ⟨k, p, q, n, v, s⟩ := t
  simp only [Ty.av, ty, List.map_cons, List.map_nil] at c1 k1 k2 hg ⊢
  simp [c325, k1, k2]
  cases V with
  | some e =>
    refine xcall_f c1 (by simp) ?_
    simp [outM, outP]
    exact ⟨⟨S, _⟩, Mem.le_of rfl (by simp), _, rfl⟩
  | none =>
    refine xcall_p c1 (by simp) ?_
    have c2 := hg rfl
    simp [k1, k2]
    cases r with
    | ok u =>
      obtain ⟨uk, up, uq, un, uv, us⟩ := u
      refine xcall_p c2 (by simp) ?_
      simp [Ty.av, ty, cr325, outP]
      exact ⟨⟨S, _⟩, Mem.le_of rfl (by simp), _, rfl⟩
    | error e =>
      refine xcall_f c2 (by simp) ?_
      simp [outP]
      exact ⟨⟨S, _⟩, Mem.le_of rfl (by simp), _, rfl⟩
theorem call260G {g : FuncId} {t : Ty} {r : Except Int Ty} (hg : validsL [t] = none → PCalls Bk.pg g [.agg t.av] fun out => out = outP r) : PCalls Bk.pg 260 [.agg t.av, .fn g []] fun out => out = outT (turnE t r) := by
  refine ok260.pcalls (by simp) ?_
  have c1 := fun (S : List (Nat × AObj)) (nx : Nat) (hm : S[0]? = some (0, .cells t.av)) (hw : S[1]? = some (1, .cells [.fn g []])) => call239G (f := 325) (caps := [.ptr 0 0 0, .ptr 1 1 0]) (r := turnE t r) (S := S) (nx := nx) (fun x y => call325G (tp := 0) (tg := 0) (wp := 1) (wg := 1) (t := t) (g := g) hg (by
    have := (List.getElem?_eq_some_iff.1 hm).1
    rw [List.getElem?_append_left this]; exact hm) (by
    have := (List.getElem?_eq_some_iff.1 hw).1
    rw [List.getElem?_append_left this]; exact hw))
  generalize turnE t r = N at c1
  obtain ⟨k, p, q, n, v, s⟩ := t
  simp only [Ty.av, ty] at c1 ⊢
  simp [c260]
  refine xcall_r (c1 _ _ rfl rfl) ?_ ?_
  · cases N with
    | ok t =>
      obtain ⟨k, p, q, n, v, s⟩ := t
      rintro v m' ⟨hv, nx, rfl⟩
      cases hv
      simp [Ty.av, ty, cr260, outT]
    | error e =>
      rintro v m' ⟨hv, nx, rfl⟩
      cases hv
      simp [Ty.av, ty, cr260, outT, zT]
  · rintro v m' ⟨hv, _⟩
    cases N <;> cases hv
theorem num_bounds {t : Ty} (h : validT t = true) (hk : numK t = true) : (t.k = 1 ∨ t.k = 2 ∨ t.k = 3) ∧ (1 ≤ t.p ∧ t.p ≤ 31) ∧ (0 ≤ t.q ∧ t.q ≤ 31) := by
  simp only [numK, Bool.and_eq_true, leI_t] at hk
  have hk' : t.k = 1 ∨ t.k = 2 ∨ t.k = 3 := by omega
  refine ⟨hk', ?_⟩
  unfold validT at h
  rcases hk' with e | e | e
  · rw [if_pos e] at h
    simp only [numT, Bool.and_eq_true, rng_t] at h
    omega
  · rw [if_neg (by omega), if_pos e] at h
    simp only [numT, Bool.and_eq_true, rng_t] at h
    omega
  · rw [if_neg (by omega), if_neg (by omega), if_pos e] at h
    simp only [numT, Bool.and_eq_true, rng_t] at h
    omega
theorem valids_one {t : Ty} (h : validsL [t] = none) : validT t = true ∧ numK t = true := by
  unfold validsL at h
  split at h
  · rename_i h1
    split at h
    · rename_i h2
      simp at h1 h2
      exact ⟨h1, h2⟩
    · cases h
  · cases h
theorem call173G (t : Ty) : PCalls Bk.pg 173 [.agg t.av] fun out => out = outT (turnE t (decE t)) := by
  refine ok173.pcalls (by simp) ?_
  have c1 := call260G (g := 262) (t := t) (r := decE t) (fun h => by
    obtain ⟨h1, h2⟩ := valids_one h
    obtain ⟨_, h3, h4⟩ := num_bounds h1 h2
    exact call262G (by omega) (by omega))
  generalize turnE t (decE t) = N at c1
  obtain ⟨k, p, q, n, v, s⟩ := t
  simp only [Ty.av, ty] at c1 ⊢
  simp [c173]
  cases N with
  | ok t =>
    obtain ⟨k, p, q, n, v, s⟩ := t
    refine xcall_p c1 (by simp) ?_
    simp [Ty.av, ty, cr173, outT]
  | error e =>
    refine xcall_p c1 (by simp) ?_
    simp [Ty.av, ty, cr173, outT, zT]
end Go.Pm

/- BkW5: the shelf's contracts at this dump: Trim, TrimLeft, IndexByte (written by the kit's lay-plain.mjs). -/
namespace Go.Proofs
open Go.Shelf
def Tryz.lays160_ren : Go.Shelf.Ren := ⟨fun | 160 => 134 | 232 => 194 | 231 => 193 | 227 => 195 | 234 => 197 | 233 => 196 | 236 => 199 | 235 => 198 | 228 => 274 | 271 => 277 | 151 => 276 | 197 => 275 | 120 => 329 | 152 => 328 | 260 => 327 | 137 => 185 | 119 => 357 | 224 => 358 | 225 => 359 | 217 => 271 | 266 => 326 | n => n, fun | 9 => 9 | 4 => 4 | 3 => 3 | 5 => 5 | 117 => 174 | 116 => 173 | 0 => 0 | 124 => 177 | 21 => 21 | 105 => 240 | 46 => 140 | 119 => 312 | 139 => 315 | 138 => 314 | n => n, fun | 3 => 1 | 4 => 2 | n => n⟩
theorem Tryz.lays160 : Go.Proofs.Lays.n160 Tryz.prog Tryz.lays160_ren := {
  mixed := by kernel_rfl
  f119 := Tryz.func357.trans (congrArg some (by kernel_rfl))
  f120 := Tryz.func329.trans (congrArg some (by kernel_rfl))
  f137 := Tryz.func185.trans (congrArg some (by kernel_rfl))
  f151 := Tryz.func276.trans (congrArg some (by kernel_rfl))
  f152 := Tryz.func328.trans (congrArg some (by kernel_rfl))
  f160 := Tryz.func134.trans (congrArg some (by kernel_rfl))
  f197 := Tryz.func275.trans (congrArg some (by kernel_rfl))
  f217 := Tryz.func271.trans (congrArg some (by kernel_rfl))
  f224 := Tryz.func358.trans (congrArg some (by kernel_rfl))
  f225 := Tryz.func359.trans (congrArg some (by kernel_rfl))
  f227 := Tryz.func195.trans (congrArg some (by kernel_rfl))
  f228 := Tryz.func274.trans (congrArg some (by kernel_rfl))
  f231 := Tryz.func193.trans (congrArg some (by kernel_rfl))
  f232 := Tryz.func194.trans (congrArg some (by kernel_rfl))
  f233 := Tryz.func196.trans (congrArg some (by kernel_rfl))
  f234 := Tryz.func197.trans (congrArg some (by kernel_rfl))
  f235 := Tryz.func198.trans (congrArg some (by kernel_rfl))
  f236 := Tryz.func199.trans (congrArg some (by kernel_rfl))
  f260 := Tryz.func327.trans (congrArg some (by kernel_rfl))
  f266 := Tryz.func326.trans (congrArg some (by kernel_rfl))
  f271 := Tryz.func277.trans (congrArg some (by kernel_rfl))
  t0 := Tryz.underlying0
  a0 := Tryz.isAgg0
  z0 := Tryz.sizeOf0
  v0 := Tryz.zeroValue0
  t3 := Tryz.underlying3
  a3 := Tryz.isAgg3
  z3 := Tryz.sizeOf3
  v3 := Tryz.zeroValue3
  t4 := Tryz.underlying4
  a4 := Tryz.isAgg4
  z4 := Tryz.sizeOf4
  v4 := Tryz.zeroValue4
  t5 := Tryz.underlying5
  a5 := Tryz.isAgg5
  z5 := Tryz.sizeOf5
  v5 := Tryz.zeroValue5
  t9 := Tryz.underlying9
  a9 := Tryz.isAgg9
  z9 := Tryz.sizeOf9
  v9 := Tryz.zeroValue9
  t21 := Tryz.underlying21
  a21 := Tryz.isAgg21
  z21 := Tryz.sizeOf21
  v21 := Tryz.zeroValue21
  t46 := Tryz.underlying140
  a46 := Tryz.isAgg140
  z46 := Tryz.sizeOf140
  v46 := Tryz.zeroValue140
  t105 := Tryz.underlying240
  a105 := Tryz.isAgg240
  z105 := Tryz.sizeOf240
  v105 := Tryz.zeroValue240
  t116 := Tryz.underlying173
  a116 := Tryz.isAgg173
  z116 := Tryz.sizeOf173
  t117 := Tryz.underlying174
  a117 := Tryz.isAgg174
  z117 := Tryz.sizeOf174
  v117 := Tryz.zeroValue174
  t119 := Tryz.underlying312
  a119 := Tryz.isAgg312
  z119 := Tryz.sizeOf312
  t124 := Tryz.underlying177
  a124 := Tryz.isAgg177
  z124 := Tryz.sizeOf177
  v124 := Tryz.zeroValue177
  t138 := Tryz.underlying314
  a138 := Tryz.isAgg314
  z138 := Tryz.sizeOf314
  v138 := Tryz.zeroValue314
  t139 := Tryz.underlying315
  a139 := Tryz.isAgg315
  z139 := Tryz.sizeOf315
  v139 := Tryz.zeroValue315
  g3 := by kernel_rfl
  g4 := by kernel_rfl }
open Go.RowKit in
theorem Tryz.strings_Trim (s cutset : ByteArray) (w : World) (hs : s.size ≤ 9223372036854775807) (hcs : cutset.size < 4294967281) (hascii : ∀ (j : Nat) b, cutset.data.toList[j]? = some b → b.toNat < 128) :
    Calls Tryz.prog 134 #[.string s, .string cutset] w fun e w' => e = .returned (.string ⟨(Lib.trimS s.data.toList cutset.data.toList).toArray⟩) ∧ Below w.heap.size w w' := Any.strings_Trim_laid Tryz.lays160 (by kernel_rfl) s cutset w hs hcs hascii
open Go.RowKit in
def Tryz.lays137_ren : Go.Shelf.Ren := ⟨fun | 137 => 185 | 217 => 271 | 266 => 326 | n => n, fun | 9 => 9 | 5 => 5 | 3 => 3 | n => n, fun | n => n⟩
theorem Tryz.lays137 : Go.Proofs.Lays.n137 Tryz.prog Tryz.lays137_ren := {
  mixed := by kernel_rfl
  f137 := Tryz.func185.trans (congrArg some (by kernel_rfl))
  f217 := Tryz.func271.trans (congrArg some (by kernel_rfl))
  f266 := Tryz.func326.trans (congrArg some (by kernel_rfl))
  t3 := Tryz.underlying3
  a3 := Tryz.isAgg3
  z3 := Tryz.sizeOf3
  v3 := Tryz.zeroValue3
  t5 := Tryz.underlying5
  a5 := Tryz.isAgg5
  z5 := Tryz.sizeOf5
  v5 := Tryz.zeroValue5
  t9 := Tryz.underlying9
  a9 := Tryz.isAgg9
  z9 := Tryz.sizeOf9
  v9 := Tryz.zeroValue9 }
open Go.RowKit in
theorem Tryz.strings_IndexByte (s : ByteArray) (c : Int) (w : World) :
    Calls Tryz.prog 185 #[.string s, .int .u8 c] w fun e w' => e = .returned (.int .i64 (Lib.indexByte s.data.toList c.toNat.toUInt8)) ∧ w' = w := Any.strings_IndexByte Tryz.lays137 s c w
end Go.Proofs

/- BkG5: values, whatever they are: which are right, by the program. -/
namespace Go.Pm
open Go Go.Proofs
attribute [-simp] List.getElem?_map
attribute [simp] nilCheckA postA_norm
def bit01 : List UInt8 := [48, 49]
def bitB (s : ByteArray) : Bool := s.data.toList.all (bit01.contains ·)
theorem dropWhile_nil {α : Type} (p : α → Bool) : ∀ l : List α, l.dropWhile p = [] ↔ l.all p = true
  | [] => by simp
  | a :: l => by
    rw [List.dropWhile_cons, List.all_cons]
    cases h : p a with
    | true => simpa using dropWhile_nil p l
    | false => simp
theorem dropWhile_all {α : Type} (p : α → Bool) : ∀ l : List α, (l.dropWhile p).all p = l.all p
  | [] => rfl
  | a :: l => by
    rw [List.dropWhile_cons]
    cases h : p a with
    | true => simpa [h] using dropWhile_all p l
    | false => simp [h]
theorem trimS_all (l cs : List UInt8) : Lib.trimS l cs = [] ↔ l.all (cs.contains ·) = true := by
  unfold Lib.trimS Lib.trimLeftS Lib.trimRightS
  rw [dropWhile_nil, List.all_reverse, dropWhile_all, List.all_reverse]
theorem trim_eq (s : ByteArray) : eqS ⟨(Lib.trimS s.data.toList bit01).toArray⟩ ⟨#[]⟩ = bitB s := by
  rw [Bool.eq_iff_iff]
  unfold bitB
  rw [← trimS_all, eqS_beq, beq_bytes]
  constructor
  · intro h
    injection h with h
    simpa using h
  · intro h
    rw [h]
theorem call134 {s : ByteArray} (hs : s.size ≤ 1000000) : PCalls Bk.pg 134 [.str s, .str ⟨#[48, 49]⟩] fun out => out = .ret (.str ⟨(Lib.trimS s.data.toList bit01).toArray⟩) := by
  refine pcalls_of ⟨Tryz.f134, Tryz.func134, by kernel_rfl, by kernel_rfl⟩ rfl fun K w vals hx hl => ?_
  obtain ⟨u, us, rfl, h2, u2, us2, rfl, h3, h4⟩ := hx
  simp only [VR] at h2 h3; rw [VRs] at h4; subst h2; subst h3; subst h4
  refine (Tryz.strings_Trim s ⟨#[48, 49]⟩ w (by omega) (by decide) (ascii_of_all (by decide))).mono ?_
  rintro e w' ⟨rfl, hbl⟩
  exact ⟨_, rfl, grown_below hbl, by rw [VR]; rfl⟩
def fltV (n q : Int) (s : ByteArray) : Bool :=
  if (!eqS s ⟨#[]⟩ || !rng n (-999999999999999) 999999999999999 || !rng q (-1000) 1000) = true then false
  else if eqI n 0 = true then eqI q 0 else !eqI (n.tmod 10) 0 && rng ((digs n.natAbs).length + q - 1) (-75) 75
def rightV (v : Vl) : Bool :=
  if v.k = 1 then eqS v.s ⟨#[]⟩ && rng v.q 0 31 && rng v.n (-2147483647) 2147483647
  else if v.k = 2 then eqS v.s ⟨#[]⟩ && rng v.q 0 31 && rng v.n (-999999999999999) 999999999999999
  else if v.k = 3 then fltV v.n v.q v.s
  else if v.k = 4 ∨ v.k = 6 then eqI v.n 0 && eqI v.q 0 && leI v.s.size 250
  else if v.k = 5 then eqI v.n 0 && eqI v.q 0 && leI v.s.size 250 && bitB v.s
  else if v.k = 7 then eqS v.s ⟨#[]⟩ && eqI v.q 0 && rng v.n 0 1000000000
  else if v.k = 8 ∨ v.k = 9 then eqS v.s ⟨#[]⟩ && rng v.n 0 1000000000 && rng v.q 0 1000000000
  else false
theorem mx_natAbs (n : Int) : (if -n > n then -n else n) = (n.natAbs : Int) := by split <;> omega
set_option maxHeartbeats 1000000 in
theorem call51G (v : Vl) : PCalls Bk.pg 51 [.agg v.av] fun out => out = .ret (.bool (rightV v)) := by
  refine ok51.pcalls (by simp) ?_
  obtain ⟨V, hV⟩ : ∃ V, V = rightV v := ⟨_, rfl⟩
  rw [← hV]
  unfold rightV at hV
  obtain ⟨k, n, q, s⟩ := v
  simp only at hV
  simp only [Vl.av, vl]
  have z : ∀ k : Int, eqI k k = true := fun k => eqI_t.2 rfl
  rcases kinds k with rfl | rfl | rfl | rfl | rfl | rfl | rfl | rfl | rfl | hk
  · simp at hV
    simp [c51, z]
    refine br_guard_t rfl (fun a1 => ?_) (fun a1 => ?_)
    · simp [a1]
      refine xcall_p (call49R q 0 31) (by simp) ?_
      simp
      refine br_guard_t rfl (fun a2 => ?_) (fun a2 => ?_)
      · simp [a2]
        refine xcall_p (call49R n (-2147483647) 2147483647) (by simp) ?_
        simp [cr51, hV, a1, a2]
      · simp [a2, cr51, hV, a1]
    · simp [a1, cr51, hV]
  · have z1 : eqI 2 1 = false := rfl
    simp at hV
    simp [c51, z, z1]
    refine br_guard_t rfl (fun a1 => ?_) (fun a1 => ?_)
    · simp [a1]
      refine xcall_p (call49R q 0 31) (by simp) ?_
      simp
      refine br_guard_t rfl (fun a2 => ?_) (fun a2 => ?_)
      · simp [a2]
        refine xcall_p (call49R n (-999999999999999) 999999999999999) (by simp) ?_
        simp [cr51, hV, a1, a2]
      · simp [a2, cr51, hV, a1]
    · simp [a1, cr51, hV]
  · have z1 : eqI 3 1 = false := rfl
    have z2 : eqI 3 2 = false := rfl
    simp at hV
    unfold fltV at hV
    simp [c51, z, z1, z2]
    refine br_guard_f rfl (fun a1 => ?_) (fun a1 => ?_)
    · simp at a1
      simp [a1] at hV
      simp [a1, cr51, hV]
    simp at a1
    simp [a1]
    refine xcall_p (call49R n (-999999999999999) 999999999999999) (by simp) ?_
    simp
    refine br_guard_f rfl (fun a2 => ?_) (fun a2 => ?_)
    · simp at a2
      simp [a1, a2] at hV
      simp [a2, cr51, hV]
    simp at a2
    simp [a2]
    refine xcall_p (call49R q (-1000) 1000) (by simp) ?_
    simp
    refine br_cond rfl (fun a3 => ?_) (fun a3 => ?_)
    · simp at a3
      simp [a1, a2, a3] at hV
      simp [cr51, hV]
    simp at a3
    simp [a1, a2, a3] at hV
    have b2 := rng_t.1 a2
    have b3 := rng_t.1 a3
    simp
    refine br_cond rfl (fun a4 => ?_) (fun a4 => ?_)
    · simp [a4] at hV
      simp [cr51, hV]
    simp [a4] at hV
    have wn : IntKind.i64.wrap (-n) = -n := wrap64 (by omega) (by omega)
    have hl := digs_len 15 n.natAbs (by omega)
    have c52 := call52 n.natAbs (by omega)
    have hmax := mx_natAbs n
    generalize n.natAbs = N at hmax hl c52 hV
    have w1 : IntKind.i64.wrap (((digs N).length : Int) + q) = ((digs N).length : Int) + q := wrap64 (by omega) (by omega)
    have w2 : IntKind.i64.wrap (((digs N).length : Int) + q - 1) = ((digs N).length : Int) + q - 1 := wrap64 (by omega) (by omega)
    simp
    refine br_dguard_t rfl (fun a5 => ?_) (fun a5 => ?_)
    · simp at a5
      simp [a5] at hV
      simp [a5, wn, hmax]
      refine xdcall_p rfl c52 (by simp) ?_
      simp [w1, w2]
      refine xdcall_p rfl (call49R (((digs N).length : Int) + q - 1) (-75) 75) (by simp) ?_
      simp [cr51, hV]
    · simp at a5
      simp [a5] at hV
      simp [a5, cr51, hV]
  · have z1 : eqI 4 1 = false := rfl
    have z2 : eqI 4 2 = false := rfl
    have z3 : eqI 4 3 = false := rfl
    simp at hV
    simp [c51, z, z1, z2, z3]
    refine br_guard_t rfl (fun a1 => ?_) (fun a1 => ?_)
    · simp [a1]
      refine br_guard_t rfl (fun a2 => ?_) (fun a2 => ?_)
      · simp [a2, cr51, hV, a1]
      · simp [a2, cr51, hV, a1]
    · simp [a1, cr51, hV]
  · have z1 : eqI 5 1 = false := rfl
    have z2 : eqI 5 2 = false := rfl
    have z3 : eqI 5 3 = false := rfl
    have z4 : eqI 5 4 = false := rfl
    have z6 : eqI 5 6 = false := rfl
    simp at hV
    simp [c51, z, z1, z2, z3, z4, z6]
    refine br_guard_t rfl (fun a1 => ?_) (fun a1 => ?_)
    · simp [a1]
      refine br_guard_t rfl (fun a2 => ?_) (fun a2 => ?_)
      · simp [a2]
        refine br_guard_t rfl (fun a3 => ?_) (fun a3 => ?_)
        · simp [a3]
          refine xcall_p (call134 (s := s) (by have := leI_t.1 a3; omega)) (by simp) ?_
          simp [cr51, hV, a1, a2, a3, trim_eq]
        · simp [a3, a2, cr51, hV, a1]
      · simp [a2, cr51, hV, a1]
    · simp [a1, cr51, hV]
  · have z1 : eqI 6 1 = false := rfl
    have z2 : eqI 6 2 = false := rfl
    have z3 : eqI 6 3 = false := rfl
    have z4 : eqI 6 4 = false := rfl
    simp at hV
    simp [c51, z, z1, z2, z3, z4]
    refine br_guard_t rfl (fun a1 => ?_) (fun a1 => ?_)
    · simp [a1]
      refine br_guard_t rfl (fun a2 => ?_) (fun a2 => ?_)
      · simp [a2, cr51, hV, a1]
      · simp [a2, cr51, hV, a1]
    · simp [a1, cr51, hV]
  · have z1 : eqI 7 1 = false := rfl
    have z2 : eqI 7 2 = false := rfl
    have z3 : eqI 7 3 = false := rfl
    have z4 : eqI 7 4 = false := rfl
    have z6 : eqI 7 6 = false := rfl
    have z5 : eqI 7 5 = false := rfl
    simp at hV
    simp [c51, z, z1, z2, z3, z4, z5, z6]
    refine br_guard_t rfl (fun a1 => ?_) (fun a1 => ?_)
    · simp [a1]
      refine br_guard_t rfl (fun a2 => ?_) (fun a2 => ?_)
      · simp [a2]
        refine xcall_p (call49R n 0 1000000000) (by simp) ?_
        simp [cr51, hV, a1, a2]
      · simp [a2, cr51, hV, a1]
    · simp [a1, cr51, hV]
  · have z1 : eqI 8 1 = false := rfl
    have z2 : eqI 8 2 = false := rfl
    have z3 : eqI 8 3 = false := rfl
    have z4 : eqI 8 4 = false := rfl
    have z6 : eqI 8 6 = false := rfl
    have z5 : eqI 8 5 = false := rfl
    have z7 : eqI 8 7 = false := rfl
    simp at hV
    simp [c51, z, z1, z2, z3, z4, z5, z6, z7]
    refine br_guard_t rfl (fun a1 => ?_) (fun a1 => ?_)
    · simp [a1]
      refine xcall_p (call49R n 0 1000000000) (by simp) ?_
      simp
      refine br_guard_t rfl (fun a2 => ?_) (fun a2 => ?_)
      · simp [a2]
        refine xcall_p (call49R q 0 1000000000) (by simp) ?_
        simp [cr51, hV, a1, a2]
      · simp [a2, cr51, hV, a1]
    · simp [a1, cr51, hV]
  · have z1 : eqI 9 1 = false := rfl
    have z2 : eqI 9 2 = false := rfl
    have z3 : eqI 9 3 = false := rfl
    have z4 : eqI 9 4 = false := rfl
    have z6 : eqI 9 6 = false := rfl
    have z5 : eqI 9 5 = false := rfl
    have z7 : eqI 9 7 = false := rfl
    have z8 : eqI 9 8 = false := rfl
    simp at hV
    simp [c51, z, z1, z2, z3, z4, z5, z6, z7, z8]
    refine br_guard_t rfl (fun a1 => ?_) (fun a1 => ?_)
    · simp [a1]
      refine xcall_p (call49R n 0 1000000000) (by simp) ?_
      simp
      refine br_guard_t rfl (fun a2 => ?_) (fun a2 => ?_)
      · simp [a2]
        refine xcall_p (call49R q 0 1000000000) (by simp) ?_
        simp [cr51, hV, a1, a2]
      · simp [a2, cr51, hV, a1]
    · simp [a1, cr51, hV]
  · have e : ∀ j : Int, 1 ≤ j → j ≤ 9 → eqI k j = false := fun j h1 h2 => eqI_ne (by omega)
    have e1 : k ≠ 1 ∧ k ≠ 2 ∧ k ≠ 3 ∧ k ≠ 4 ∧ k ≠ 5 ∧ k ≠ 6 ∧ k ≠ 7 ∧ k ≠ 8 ∧ k ≠ 9 := by omega
    simp [e1] at hV
    simp [c51, e, cr51, hV]
end Go.Pm

/- BkS17: code, resolved. Printed by ShowSC.lean and genok.py. -/
namespace Go.Pm
open Go Go.Proofs
def c190 : SC :=
 (.seq (.ops [⟨some 2, .plain (.box 0), [.tmp 0], none⟩, ⟨some 4, .plain .mv, [.lit (.bool false)], none⟩] [2]) (.seq (.ops [⟨some 5, .plain .mv, [.tmp 1], none⟩, ⟨some 6, .plain (.bin .eql), [.tmp 5, .lit (.int .u8 48)], none⟩, ⟨some 7, .plain .mv, [.tmp 6], none⟩, ⟨some 8, .plain .mv, [.tmp 1], (some (7, false))⟩, ⟨some 9, .plain (.bin .eql), [.tmp 8, .lit (.int .u8 49)], (some (7, false))⟩, ⟨some 10, .plain .pick, [.tmp 7, .lit (.bool true), .tmp 9], none⟩, ⟨some 4, .plain .mv, [.tmp 10], none⟩] [5, 6, 7, 8, 9, 10]) .ret))
def cr190 : List Res := [(4, none)]
theorem ok190 : FOk Bk.pg.toProgram Bk.imp 190 c190 cr190 Tryz.f190.ntmps := ⟨Tryz.f190, _, Tryz.func190, rfl, by kernel_rfl, by kernel_rfl, by kernel_rfl, rfl⟩
def c284 : SC :=
 (.seq (.ops [⟨some 1, .plain (.box 4), [.tmp 0], none⟩, ⟨some 2, .plain .mv, [.lit (.bool false)], none⟩] []) (.seq (.seq (.ops [⟨some 3, .plain (.fieldAddr 0), [.tmp 1], none⟩, ⟨some 4, .plain (.load false 1), [.tmp 3], none⟩, ⟨some 5, .plain (.bin .eql), [.tmp 4, .lit (.int .i64 4)], none⟩, ⟨some 6, .plain .mv, [.tmp 5], none⟩, ⟨some 7, .plain (.fieldAddr 0), [.tmp 1], (some (6, false))⟩, ⟨some 8, .plain (.load false 1), [.tmp 7], (some (6, false))⟩, ⟨some 9, .plain (.bin .eql), [.tmp 8, .lit (.int .i64 5)], (some (6, false))⟩, ⟨some 10, .plain .pick, [.tmp 6, .lit (.bool true), .tmp 9], none⟩] [3, 4, 5, 6, 7, 8, 9]) (.cond (.tmp 10) (.seq (.ops [⟨some 11, .plain (.load true 4), [.tmp 1], none⟩, ⟨some 12, .call 50, [.tmp 11], none⟩, ⟨some 2, .plain .mv, [.tmp 12], none⟩] [11, 12]) .ret) .skip)) (.seq (.ops [⟨some 13, .plain (.load true 4), [.tmp 1], none⟩, ⟨some 14, .call 51, [.tmp 13], none⟩, ⟨some 2, .plain .mv, [.tmp 14], none⟩] [13, 14]) .ret)))
def cr284 : List Res := [(2, none)]
theorem ok284 : FOk Bk.pg.toProgram Bk.imp 284 c284 cr284 Tryz.f284.ntmps := ⟨Tryz.f284, _, Tryz.func284, rfl, by kernel_rfl, by kernel_rfl, by kernel_rfl, rfl⟩
def c287 : SC :=
 (.seq (.ops [⟨some 3, .plain (.box 4), [.tmp 0], none⟩, ⟨some 4, .plain (.box 6), [.tmp 1], none⟩, ⟨some 5, .plain (.box 6), [.tmp 2], none⟩, ⟨some 6, .plain (.alloc [(.int .i64 0), (.int .i64 0), (.int .i64 0), (.str ⟨#[]⟩)]), [], none⟩, ⟨some 7, .plain (.alloc [(.int .i64 0), (.str ⟨#[]⟩), (.int .i64 0), (.str ⟨#[]⟩), (.int .i64 0)]), [], none⟩] [4]) (.seq (.ops [⟨some 11, .plain (.fieldAddr 0), [.tmp 5], none⟩, ⟨some 12, .plain (.load false 1), [.tmp 11], none⟩, ⟨some 13, .plain (.fieldAddr 0), [.tmp 3], none⟩, ⟨none, .plain (.store 1), [.tmp 13, .tmp 12], none⟩] [11, 12, 13]) (.seq (.ops [⟨some 15, .plain (.load true 4), [.tmp 3], none⟩, ⟨some 16, .plain (.load true 6), [.tmp 5], none⟩, ⟨some 17, .call 187, [.tmp 15, .tmp 16], none⟩, ⟨some 14, .plain .mv, [.tmp 17], none⟩, ⟨some 18, .plain (.extract 0), [.tmp 14], none⟩, ⟨some 19, .plain (.extract 1), [.tmp 14], none⟩, ⟨some 20, .plain (.extract 2), [.tmp 14], none⟩, ⟨some 8, .plain (.alloc [(.int .i64 0), (.int .i64 0), (.int .i64 0), (.str ⟨#[]⟩)]), [], none⟩, ⟨none, .plain (.store 4), [.tmp 8, .tmp 18], none⟩, ⟨some 9, .plain .mv, [.tmp 19], none⟩, ⟨some 10, .plain .mv, [.tmp 20], none⟩] [15, 16, 17, 14, 18, 19, 20, 10]) (.seq (.draw (.step ⟨some 21, .plain (.load true 4), [.tmp 8], none⟩ (.step ⟨some 22, .plain .mv, [.tmp 9], none⟩ (.step ⟨some 23, .call 286, [.tmp 22], none⟩ (.step ⟨none, .plain (.store 4), [.tmp 6, .tmp 21], none⟩ (.step ⟨none, .plain (.store 5), [.tmp 7, .tmp 23], none⟩ .done))))) [21, 22, 23]) .ret))))
def cr287 : List Res := [(6, some (true, 4)), (7, some (true, 5))]
theorem ok287 : FOk Bk.pg.toProgram Bk.imp 287 c287 cr287 Tryz.f287.ntmps := ⟨Tryz.f287, _, Tryz.func287, rfl, by kernel_rfl, by kernel_rfl, by kernel_rfl, rfl⟩
end Go.Pm

/- BkG6: values, whatever they are: strings; values of types. -/
namespace Go.Pm
open Go Go.Proofs
attribute [-simp] List.getElem?_map
attribute [simp] nilCheckA postA_norm
theorem call133G {k : Int} : PCalls Bk.pg 133 [.int .i64 k] fun out => out = .ret (if eqI k 4 = true then .iface 170 (.agg []) else if eqI k 5 = true then .iface 167 (.agg []) else .const .nilIface) := by
  refine ok133.pcalls (by simp) ?_
  simp [c133]
  refine br_cond rfl (fun h => ?_) (fun h => ?_)
  · simp [h, cr133]
  · simp
    refine br_cond rfl (fun h1 => ?_) (fun h1 => ?_)
    · simp [h, h1, cr133]
    · simp [h, h1, cr133]
theorem call190 {b : Int} : PCalls Bk.pg 190 [.agg [], .int .u8 b] fun out => out = .ret (.bool (eqI b 48 || eqI b 49)) := by
  refine ok190.pcalls (by simp) ?_
  simp [c190]
  refine br_guard_f rfl (fun h => ?_) (fun h => ?_)
  · simp [h, cr190]
  · simp [h, cr190]
theorem right_meth5 : methOf Bk.pg.toProgram 167 "ironbark/bits.right" = some 190 := by kernel_rfl
def okB (k : Int) (b : UInt8) : Bool := if eqI k 4 = true then okC b else eqI b.toNat 48 || eqI b.toNat 49
def allB (p : UInt8 → Bool) (s : ByteArray) : Bool := s.data.toList.all p
def strV (v : Vl) : Bool := (eqI v.k 4 || eqI v.k 5) && eqI v.n 0 && eqI v.q 0 && leI v.s.size 250 && allB (okB v.k) v.s
theorem all_ok (p : UInt8 → Bool) (s : ByteArray) : allB p s = true ↔ ∀ j, j < s.size → p (byteAt s j) = true := by
  unfold allB
  rw [List.all_eq_true]
  constructor
  · intro h j hj
    have hj' : j < s.data.toList.length := hj
    apply h
    unfold byteAt
    rw [List.getD_eq_getElem?_getD, List.getElem?_eq_getElem hj', Option.getD_some]
    exact List.getElem_mem hj'
  · intro h b hb
    obtain ⟨j, hj, rfl⟩ := List.mem_iff_getElem.1 hb
    have := h j hj
    unfold byteAt at this
    rwa [List.getD_eq_getElem?_getD, List.getElem?_eq_getElem hj, Option.getD_some] at this
theorem all_bad {p : UInt8 → Bool} {s : ByteArray} {i : Nat} (hi : i < s.size) (h : p (byteAt s i) = false) : allB p s = false := by
  cases hn : allB p s with
  | false => rfl
  | true =>
    have := (all_ok p s).1 hn i hi
    rw [h] at this; cases this
set_option maxHeartbeats 1000000 in
theorem call50G (v : Vl) : PCalls Bk.pg 50 [.agg v.av] fun out => out = .ret (.bool (strV v)) := by
  refine ok50.pcalls (by simp) ?_
  obtain ⟨V, hV⟩ : ∃ V, V = strV v := ⟨_, rfl⟩
  rw [← hV]
  unfold strV at hV
  obtain ⟨k, n, q, s⟩ := v
  simp only at hV
  have c133 := call133G (k := k)
  simp only [Vl.av, vl]
  simp [c50]
  refine xcall_p c133 (by simp) ?_
  have hgt : ltI 250 s.size = !leI s.size 250 := by
    cases h : leI s.size 250 with
    | true => have := leI_t.1 h; exact ltI_f.2 (by omega)
    | false => have := leI_f.1 h; exact ltI_t.2 (by omega)
  by_cases h4 : eqI k 4 = true
  · have hk := eqI_t.1 h4
    subst hk
    have e5 : eqI 4 5 = false := rfl
    have e4 : eqI 4 4 = true := rfl
    simp [e4, e5] at hV
    simp [h4]
    refine br_guard_f rfl (fun a1 => ?_) (fun a1 => ?_)
    · simp at a1
      simp [a1] at hV
      simp [a1, cr50, hV]
    simp at a1
    simp [a1]
    refine br_guard_f rfl (fun a2 => ?_) (fun a2 => ?_)
    · simp at a2
      simp [a1, a2] at hV
      simp [a2, cr50, hV]
    simp at a2
    simp [a1, a2] at hV
    simp [a2, hgt]
    refine br_cond rfl (fun a3 => ?_) (fun a3 => ?_)
    · simp at a3
      simp [a3] at hV
      simp [cr50, hV]
    simp at a3
    simp [a3] at hV
    have hs := leI_t.1 a3
    simp
    refine wpS_loop (ι := Nat) (fun i => [(1, .ptr 0 0 0), (3, .iface 170 (.agg [])), (28, .int .i64 s.size), (29, .int .i64 i)]) (fun _ => ⟨[(0, .cells [.int .i64 4, .int .i64 n, .int .i64 q, .str s])], 1⟩) (fun i => s.size - i) (fun i => i ≤ s.size ∧ ∀ j, j < i → okB 4 (byteAt s j) = true) 0 ⟨Nat.zero_le _, fun j hj => absurd hj (Nat.not_lt_zero _)⟩ (Env.le_of (by simp)) rfl ?_
    intro i ⟨hi, hall⟩
    have hw : IntKind.i64.wrap (i + 1) = i + 1 := wrap64 (by omega) (by omega)
    simp
    refine br_cond rfl (fun h1 => ?_) (fun h1 => ?_)
    · have hi2 := ltI_t.1 h1
      have ho : okB 4 (byteAt s i) = (!ltI (byteAt s i).toNat 32 && !ltI 126 (byteAt s i).toNat) := by unfold okB; rw [if_pos e4]; rfl
      simp [h1, idxS]
      refine xdops_inv rfl right_meth (by simp) (call418 (b := ((byteAt s i).toNat : Int))) ?_
      rw [← ho]
      simp
      refine br_cond rfl (fun h2 => ?_) (fun h2 => ?_)
      · simp at h2
        rw [all_bad (p := okB 4) (by omega) h2] at hV
        simp [cr50, hV]
      · simp at h2
        simp [hw]
        refine ⟨i + 1, ⟨by omega, fun j hj => ?_⟩, by omega, Env.le_of (by simp), Mem.le_of rfl (by simp)⟩
        by_cases hji : j = i
        · subst hji; exact h2
        · exact hall j (by omega)
    · rw [(all_ok (okB 4) s).2 (fun j hj => hall j (by have := ltI_f.1 h1; omega))] at hV
      simp [h1, cr50, hV]
  · have h4' : eqI k 4 = false := by simpa using h4
    by_cases h5 : eqI k 5 = true
    · have hk := eqI_t.1 h5
      subst hk
      have e5 : eqI 5 5 = true := rfl
      have e4 : eqI 5 4 = false := rfl
      simp [e4, e5] at hV
      simp [h4', h5]
      refine br_guard_f rfl (fun a1 => ?_) (fun a1 => ?_)
      · simp at a1
        simp [a1] at hV
        simp [a1, cr50, hV]
      simp at a1
      simp [a1]
      refine br_guard_f rfl (fun a2 => ?_) (fun a2 => ?_)
      · simp at a2
        simp [a1, a2] at hV
        simp [a2, cr50, hV]
      simp at a2
      simp [a1, a2] at hV
      simp [a2, hgt]
      refine br_cond rfl (fun a3 => ?_) (fun a3 => ?_)
      · simp at a3
        simp [a3] at hV
        simp [cr50, hV]
      simp at a3
      simp [a3] at hV
      have hs := leI_t.1 a3
      simp
      refine wpS_loop (ι := Nat) (fun i => [(1, .ptr 0 0 0), (3, .iface 167 (.agg [])), (28, .int .i64 s.size), (29, .int .i64 i)]) (fun _ => ⟨[(0, .cells [.int .i64 5, .int .i64 n, .int .i64 q, .str s])], 1⟩) (fun i => s.size - i) (fun i => i ≤ s.size ∧ ∀ j, j < i → okB 5 (byteAt s j) = true) 0 ⟨Nat.zero_le _, fun j hj => absurd hj (Nat.not_lt_zero _)⟩ (Env.le_of (by simp)) rfl ?_
      intro i ⟨hi, hall⟩
      have hw : IntKind.i64.wrap (i + 1) = i + 1 := wrap64 (by omega) (by omega)
      simp
      refine br_cond rfl (fun h1 => ?_) (fun h1 => ?_)
      · have hi2 := ltI_t.1 h1
        have ho : okB 5 (byteAt s i) = (eqI (byteAt s i).toNat 48 || eqI (byteAt s i).toNat 49) := by unfold okB; rw [if_neg (by rw [e4]; decide)]
        simp [h1, idxS]
        refine xdops_inv rfl right_meth5 (by simp) (call190 (b := ((byteAt s i).toNat : Int))) ?_
        rw [← ho]
        simp
        refine br_cond rfl (fun h2 => ?_) (fun h2 => ?_)
        · simp at h2
          rw [all_bad (p := okB 5) (by omega) h2] at hV
          simp [cr50, hV]
        · simp at h2
          simp [hw]
          refine ⟨i + 1, ⟨by omega, fun j hj => ?_⟩, by omega, Env.le_of (by simp), Mem.le_of rfl (by simp)⟩
          by_cases hji : j = i
          · subst hji; exact h2
          · exact hall j (by omega)
      · rw [(all_ok (okB 5) s).2 (fun j hj => hall j (by have := ltI_f.1 h1; omega))] at hV
        simp [h1, cr50, hV]
    · have h5' : eqI k 5 = false := by simpa using h5
      simp [h4', h5'] at hV
      simp [h4', h5', cr50, hV]
def askV (v : Vl) : Bool := if (eqI v.k 4 || eqI v.k 5) = true then strV v else rightV v
theorem call284G (v : Vl) : PCalls Bk.pg 284 [.agg v.av] fun out => out = .ret (.bool (askV v)) := by
  refine ok284.pcalls (by simp) ?_
  have c1 := call50G v
  have c2 := call51G v
  unfold askV
  generalize strV v = S at c1
  generalize rightV v = R at c2
  obtain ⟨k, n, q, s⟩ := v
  simp only [Vl.av, vl] at c1 c2 ⊢
  simp [c284]
  refine br_guard_f rfl (fun a1 => ?_) (fun a1 => ?_)
  · simp [a1]
    refine xcall_p c1 (by simp) ?_
    simp [cr284]
  simp [a1]
  refine br_cond rfl (fun a2 => ?_) (fun a2 => ?_)
  · simp
    refine xcall_p c1 (by simp) ?_
    simp [cr284, a2]
  · simp
    refine xcall_p c2 (by simp) ?_
    simp [cr284, a2]
end Go.Pm

/- BkG7: values of types, whatever they are; what a conversion asks. -/
namespace Go.Pm
open Go Go.Proofs
attribute [-simp] List.getElem?_map
attribute [simp] nilCheckA postA_norm
def hasK (t : Ty) (v : Vl) : Bool :=
  if eqI t.k 1 = true then eqI v.q t.q && ltI v.n.natAbs ((2 ^ t.p.toNat : Nat) : Int)
  else if eqI t.k 2 = true then eqI v.q t.q && leI (digs v.n.natAbs).length t.p
  else if eqI t.k 3 = true then leI (digs v.n.natAbs).length t.p
  else if (eqI t.k 4 || eqI t.k 5) = true then eqI v.s.size t.n || (t.vary && ltI v.s.size t.n)
  else true
def hasV (t : Ty) (v : Vl) : Bool := validT t && rightV v && eqI t.k v.k && hasK t v
theorem right_bound {v : Vl} (h : rightV v = true) : -999999999999999 ≤ v.n ∧ v.n ≤ 999999999999999 := by
  obtain ⟨k, n, q, s⟩ := v
  unfold rightV at h
  simp only at h ⊢
  split at h
  · simp only [Bool.and_eq_true, rng_t] at h; omega
  · split at h
    · simp only [Bool.and_eq_true, rng_t] at h; omega
    · split at h
      · unfold fltV at h
        split at h
        · cases h
        · rename_i h1
          simp only [Bool.not_eq_true, Bool.or_eq_false_iff, Bool.not_eq_false'] at h1
          have := rng_t.1 h1.1.2
          omega
      · split at h
        · simp only [Bool.and_eq_true, eqI_t] at h; omega
        · split at h
          · simp only [Bool.and_eq_true, eqI_t] at h; omega
          · split at h
            · simp only [Bool.and_eq_true, rng_t] at h; omega
            · split at h
              · simp only [Bool.and_eq_true, rng_t] at h; omega
              · cases h
theorem valid_p1 {t : Ty} (h : validT t = true) (h1 : t.k = 1) : 1 ≤ t.p ∧ t.p ≤ 31 := by
  unfold validT at h
  rw [if_pos h1] at h
  simp only [numT, Bool.and_eq_true, rng_t] at h
  omega
set_option maxHeartbeats 2000000 in
theorem call33G (t : Ty) (v : Vl) : PCalls Bk.pg 33 [.agg t.av, .agg v.av] fun out => out = .ret (.bool (hasV t v)) := by
  refine ok33.pcalls (by simp) ?_
  have c1 := call31G t
  have c2 := call51G v
  obtain ⟨V, hV⟩ : ∃ V, V = hasV t v := ⟨_, rfl⟩
  rw [← hV]
  unfold hasV hasK at hV
  have hb := fun h => right_bound (v := v) h
  have hp := fun h => valid_p1 (t := t) h
  generalize validT t = A at c1 hV hp
  generalize rightV v = B at c2 hV hb
  obtain ⟨tk, tp, tq, tn, tv, ts⟩ := t
  obtain ⟨k, n, q, s⟩ := v
  simp only at hV hb hp
  simp only [Ty.av, ty, Vl.av, vl] at c1 c2 ⊢
  simp [c33]
  refine xcall_p c1 (by simp) ?_
  simp
  refine br_guard_f rfl (fun a1 => ?_) (fun a1 => ?_)
  · simp at a1
    simp [a1] at hV
    simp [a1, cr33, hV]
  simp at a1
  simp [a1]
  refine xcall_p c2 (by simp) ?_
  simp
  refine br_guard_f rfl (fun a2 => ?_) (fun a2 => ?_)
  · simp at a2
    simp [a1, a2] at hV
    simp [a2, cr33, hV]
  simp at a2
  simp [a2]
  refine br_cond rfl (fun a3 => ?_) (fun a3 => ?_)
  · simp at a3
    simp [a1, a2, a3] at hV
    simp [cr33, hV]
  simp at a3
  simp [a1, a2, a3] at hV
  have hn := hb a2
  have wn : IntKind.i64.wrap (-n) = -n := wrap64 (by omega) (by omega)
  have hmax := mx_natAbs n
  have hN : n.natAbs ≤ 999999999999999 := by omega
  generalize n.natAbs = N at hmax hV hN
  have c52 := call52 N (by omega)
  simp [wn, hmax]
  refine br_cond rfl (fun k1 => ?_) (fun k1 => ?_)
  · simp [k1] at hV
    obtain ⟨P, rfl, hP1, hP2⟩ : ∃ P : Nat, tp = P ∧ 1 ≤ P ∧ P ≤ 31 := ⟨tp.toNat, by have := hp a1 (eqI_t.1 k1); omega, by have := hp a1 (eqI_t.1 k1); omega, by have := hp a1 (eqI_t.1 k1); omega⟩
    rw [Int.toNat_natCast] at hV
    have hp2 : 2 ^ P ≤ 2 ^ 31 := Nat.pow_le_pow_right (by decide) hP2
    have hb : min P IntKind.i64.bits = P := Nat.min_eq_left (by simp [IntKind.bits]; omega)
    have hpn : ¬ (P : Int) < 0 := by omega
    have hcast : ((2 : Int) ^ P) = ((2 ^ P : Nat) : Int) := by simp
    obtain ⟨B, hB⟩ : ∃ B : Nat, B = 2 ^ P := ⟨_, rfl⟩
    have w4 : IntKind.i64.wrap ((2 : Int) ^ P) = (B : Int) := by
      rw [hcast, ← hB]
      exact wrap64 (by omega) (by omega)
    rw [hcast, ← hB] at hV
    simp
    refine br_guard_t rfl (fun b1 => ?_) (fun b1 => ?_)
    · simp [b1] at hV
      simp [b1, hpn]
      rw [hb, w4]
      simp [cr33, hV]
    · simp [b1] at hV
      simp [b1, cr33, hV]
  simp
  refine br_cond rfl (fun k2 => ?_) (fun k2 => ?_)
  · simp [k1, k2] at hV
    simp
    refine br_dguard_t rfl (fun b1 => ?_) (fun b1 => ?_)
    · simp [b1] at hV
      simp [b1]
      refine xdcall_p rfl c52 (by simp) ?_
      simp [cr33, hV]
    · simp [b1] at hV
      simp [b1, cr33, hV]
  simp
  refine br_cond rfl (fun k3 => ?_) (fun k3 => ?_)
  · simp [k1, k2, k3] at hV
    simp
    refine xdcall_p rfl c52 (by simp) ?_
    simp [cr33, hV]
  have str : (eqI tk 4 || eqI tk 5) = true → V = (eqI s.size tn || (tv && ltI s.size tn)) := fun h => by
    have h' : eqI tk 4 = true ∨ eqI tk 5 = true := by simpa using h
    rcases h' with h' | h' <;> simpa [k1, k2, k3, h'] using hV
  simp
  refine br_cond rfl (fun k4 => ?_) (fun k4 => ?_)
  · have hV := str (by simp [k4])
    simp [k4]
    refine br_guard_f rfl (fun b1 => ?_) (fun b1 => ?_)
    · simp [b1] at hV
      simp [b1, cr33, hV]
    simp [b1] at hV
    simp [b1]
    refine br_guard_t rfl (fun b2 => ?_) (fun b2 => ?_)
    · simp [b2] at hV
      simp [b2, cr33, hV]
    · simp [b2] at hV
      simp [b2, cr33, hV]
  simp
  refine br_cond rfl (fun k5 => ?_) (fun k5 => ?_)
  · have hV := str (by simp [k5])
    simp [k5]
    refine br_guard_f rfl (fun b1 => ?_) (fun b1 => ?_)
    · simp [b1] at hV
      simp [b1, cr33, hV]
    simp [b1] at hV
    simp [b1]
    refine br_guard_t rfl (fun b2 => ?_) (fun b2 => ?_)
    · simp [b2] at hV
      simp [b2, cr33, hV]
    · simp [b2] at hV
      simp [b2, cr33, hV]
  · simp [k1, k2, k3, k4, k5] at hV
    simp [cr33, hV]
def kindOk (t : Ty) : Bool := leI 1 t.k && leI t.k 5
theorem call264G (ts : List Ty) (hl : ts.length ≤ 1000) : PCalls Bk.pg 264 [.list true 6 (ts.map Ty.av)] fun out => out = .ret (.bool (ts.all kindOk)) := by
  refine ok264.pcalls (by simp) ?_
  obtain ⟨N, hN⟩ : ∃ N, N = ts.all kindOk := ⟨_, rfl⟩
  rw [← hN]
  simp [c264]
  refine wpS_loopS (ι := Nat × Nat) (fun s => [(5, .list true 6 (ts.map Ty.av)), (6, .int .i64 ts.length), (7, .int .i64 (s.1 : Nat))]) (fun s => ⟨[], s.2⟩) (fun s => ts.length - s.1) (fun s => s.1 ≤ ts.length ∧ ∀ j, j < s.1 → j < ts.length → kindOk (ix ts j) = true) (0, 0) ⟨Nat.zero_le _, fun j hj => absurd hj (Nat.not_lt_zero _)⟩ (Sim.of_le (Env.le_of (by simp)) (Mem.le_of rfl (by simp))) ?_
  rintro ⟨i, nx⟩ ⟨hi, hall⟩
  simp only at hi hall
  have hwi : IntKind.i64.wrap ((i : Int) + 1) = (i : Int) + 1 := wrap64 (by omega) (by omega)
  simp
  refine br_cond rfl (fun h1 => ?_) (fun h1 => ?_)
  · have hlt : i < ts.length := by have := ltI_t.1 h1; omega
    have hx := idxM (f := Ty.av) h1
    obtain ⟨x, hxx⟩ : ∃ x, x = ix ts i := ⟨_, rfl⟩
    rw [← hxx] at hx
    obtain ⟨V, hV⟩ : ∃ V, V = kindOk x := ⟨_, rfl⟩
    have hV2 : V = kindOk (ix ts i) := by rw [hV, hxx]
    clear hxx
    obtain ⟨k, p, q, n, v, s⟩ := x
    have e1 : ltI k 1 = !leI 1 k := by
      cases h : leI 1 k with
      | true => have := leI_t.1 h; exact ltI_f.2 (by omega)
      | false => have := leI_f.1 h; exact ltI_t.2 (by omega)
    have e2 : ltI 5 k = !leI k 5 := by
      cases h : leI k 5 with
      | true => have := leI_t.1 h; exact ltI_f.2 (by omega)
      | false => have := leI_f.1 h; exact ltI_t.2 (by omega)
    simp only [Ty.av, ty] at hx
    simp only [kindOk] at hV
    simp [hx, e1, e2]
    refine br_guard_f rfl (fun g1 => ?_) (fun g1 => ?_)
    · simp at g1
      rw [all_not hlt (by rw [← hV2, hV, g1]; rfl)] at hN
      simp [g1, cr264, hN]
    simp at g1
    simp [g1]
    refine br_cond rfl (fun g2 => ?_) (fun g2 => ?_)
    · have g2 : leI k 5 = false := by rw [e2] at g2; simpa using g2
      rw [all_not hlt (by rw [← hV2, hV, g1, g2]; rfl)] at hN
      simp [cr264, hN]
    · have g2 : leI k 5 = true := by rw [e2] at g2; simpa using g2
      simp [hwi]
      refine ⟨i + 1, ⟨by omega, fun j hj hj2 => ?_⟩, by omega, _, Sim.of_le (Env.le_of (by simp)) (Mem.le_of rfl (by simp))⟩
      by_cases hji : j = i
      · subst hji; rw [← hV2, hV, g1, g2]; rfl
      · exact hall j (by omega) hj2
  · rw [all_yes (n := i) (by have := ltI_f.1 h1; omega) hall] at hN
    simp [h1, cr264, hN]
end Go.Pm

/- BkPe: results with pointers to cells that nobody writes any more. -/
namespace Go.Pm
open Go
def permE : Nat → Mem → AV → Option AV
  | 0, m, x => permR m x
  | d + 1, m, .tuple vs => (mapO (permE d m) vs).map .tuple
  | d + 1, m, .agg vs => (mapO (permE d m) vs).map .agg
  | d + 1, m, .fn f cs => (mapO (permE d m) cs).map (.fn f)
  | d + 1, m, .ptr pos gen 0 => match m.obj pos gen with
    | some (.cells vs) => (mapO (permE d m) vs).map (.iptr true)
    | _ => none
  | _ + 1, m, x => permR m x
def permOE (d : Nat) (m : Mem) : AOut → Option AOut
  | .ret v => (permE d m v).map .ret
  | .panic v => (permE d m v).map .panic
section
variable {P : Prg} {imp : List FuncId} {σ : Sig} {K K' : Bool → Nat → Prop} {w : World}
theorem permE_sound {β : Base} {m : Mem} (hrel : Rel β K σ m w) : ∀ (d : Nat) (x y : AV) (u : Value), permE d m x = some y → VR σ K w x u → y.perm = true ∧ VR [] (fun p b => K p b ∨ Owned σ m b) w y u
  | 0, x, y, u, h, hx => permR_sound hrel h hx
  | d + 1, x, y, u, h, hx => by
    have ih := permE_sound hrel d
    cases x
    case tuple vs =>
      simp only [permE, Option.map_eq_some_iff] at h
      obtain ⟨ys, hys, rfl⟩ := h
      rw [VR] at hx
      obtain ⟨us, hu, hV⟩ := hx
      obtain ⟨a1, a2⟩ := mapO_VRs (fun x y u h1 h2 => ih x y u h1 h2) hys hV
      exact ⟨by rw [AV.perm]; exact a1, by rw [VR]; exact ⟨us, hu, a2⟩⟩
    case agg vs =>
      simp only [permE, Option.map_eq_some_iff] at h
      obtain ⟨ys, hys, rfl⟩ := h
      rw [VR] at hx
      obtain ⟨us, hu, hV⟩ := hx
      obtain ⟨a1, a2⟩ := mapO_VRs (fun x y u h1 h2 => ih x y u h1 h2) hys hV
      exact ⟨by rw [AV.perm]; exact a1, by rw [VR]; exact ⟨us, hu, a2⟩⟩
    case fn f cs =>
      simp only [permE, Option.map_eq_some_iff] at h
      obtain ⟨ys, hys, rfl⟩ := h
      rw [VR] at hx
      obtain ⟨us, hu, hV⟩ := hx
      obtain ⟨a1, a2⟩ := mapO_VRs (fun x y u h1 h2 => ih x y u h1 h2) hys hV
      exact ⟨by rw [AV.perm]; exact a1, by rw [VR]; exact ⟨us, hu, a2⟩⟩
    case ptr pos gen off =>
      cases off with
      | succ n => simp only [permE] at h; exact permR_sound hrel h hx
      | zero =>
        simp only [permE] at h
        split at h
        · rename_i vs hobj
          simp only [Option.map_eq_some_iff] at h
          obtain ⟨ys, hys, rfl⟩ := h
          rw [VR] at hx
          obtain ⟨b, c, hg, rfl⟩ := hx
          obtain ⟨s, hs, ho⟩ := hrel.objs pos gen _ (Mem.obj_some hobj)
          rw [hg] at hs
          injection hs with hs
          subst hs
          obtain ⟨cur, e, hb, hl, hcr⟩ := ho
          obtain ⟨a1, _, a3⟩ := mapO_CR (fun x y u h1 h2 => ih x y u h1 h2) hys hcr
          refine ⟨by rw [AV.perm, a1]; rfl, ?_⟩
          rw [VR]
          exact ⟨b, 0, rfl, .inr (.inr ⟨pos, gen, _, c, Mem.obj_some hobj, hg⟩), a3⟩
        · cases h
    all_goals exact permR_sound hrel h hx
end
theorem pcalls_of_acallsE {P : Prg} {f : FuncId} {xs : List AV} {R : AOut → Prop} (d : Nat) (hac : ACalls P f xs Mem.empty fun out m => ∃ out', permOE d m out = some out' ∧ R out') : PCalls P f xs R := by
  refine ⟨hac.1, fun K w vals hK hv hl => ?_⟩
  have hrel : Rel ⟨w, fun _ => False, K, [], [], [], P.ok, P.blocks, P.stable⟩ K [] Mem.empty w := by
    refine ⟨rfl, ?_, ?_, ?_, fun p b hb => ⟨.inl hb, hK p b hb⟩, fun _ _ h => h, List.prefix_refl _, Nat.le_refl _, fun _ _ _ => rfl, rfl, rfl, rfl, List.nodup_nil, (fun _ h => by cases h), hl.1, fun b hb => ⟨hl.2 b hb, ?_⟩⟩
    · intro pos g o h; simp [Mem.empty] at h
    · intro pos pos' g g' o o' b c c' h; simp [Mem.empty] at h
    · rintro b ⟨pos, g, o, c, h, _⟩; simp [Mem.empty] at h
    · rintro ⟨pos, g, o, c, h, _⟩; simp [Mem.empty] at h
  refine (hac.2 _ K [] w vals hrel hv ⟨rfl, rfl⟩).mono ?_
  rintro e w' ⟨K', σ', m', out, ⟨out', hp, hR⟩, hrel', h1, h2, h3, hout⟩
  have hg := grownBy_of (β := ⟨w, fun _ => False, K, [], [], [], P.ok, P.blocks, P.stable⟩) rfl (fun _ h => h) hrel'
  have hbound : ∀ p b, (K' p b ∨ Owned σ' m' b) → K p b ∨ w.heap.size ≤ b ∧ b < w'.heap.size := by
    rintro p b (hb | hb)
    · obtain ⟨h4, h5⟩ := hrel'.kept p b hb
      rcases h4 with h4 | h4 | h4
      · exact .inl h4
      · exact h4.elim
      · exact .inr ⟨h4, h5⟩
    · obtain ⟨h4, h5, _⟩ := hrel'.own b hb
      rcases h4 with h4 | h4
      · exact h4.elim
      · exact .inr ⟨h4, h5⟩
  cases out with
  | ret v =>
    simp only [permOE, Option.map_eq_some_iff] at hp
    obtain ⟨v', hp, rfl⟩ := hp
    obtain ⟨u, he, hV⟩ := hout
    obtain ⟨a1, a2⟩ := permE_sound hrel' d _ _ _ hp hV
    exact ⟨fun p b => K' p b ∨ Owned σ' m' b, .ret v', hR, a1, hg, fun p b hb => .inl (h2 p b hb), hbound, u, he, a2⟩
  | panic v =>
    simp only [permOE, Option.map_eq_some_iff] at hp
    obtain ⟨v', hp, rfl⟩ := hp
    obtain ⟨u, he, hV⟩ := hout
    obtain ⟨a1, a2⟩ := permE_sound hrel' d _ _ _ hp hV
    exact ⟨fun p b => K' p b ∨ Owned σ' m' b, .panic v', hR, a1, hg, fun p b hb => .inl (h2 p b hb), hbound, u, he, a2⟩
end Go.Pm

/- BkY3: contracts: the text of the number 1; how it stands in a field. -/
namespace Go.Pm
open Go Go.Proofs
attribute [-simp] List.getElem?_map
attribute [simp] nilCheckA postA_norm
theorem Rel.nil_elem {β : Base} {K : Bool → Nat → Prop} {σ : Sig} {m : Mem} {w : World} (h : Rel β K σ m w) {pos g e sz : Nat} {els : List (List AV)} {vs : List AV} (i j et : Nat) {sz2 : Nat} (hsz : 0 < sz2) (hp : m.store[pos]? = some (g, .row e sz els)) (hi : els[i]? = some vs) (hj : vs[j]? = some .nilS) :
    Rel β K (σ ++ [(none, 0)]) ((m.new (.row et sz2 [])).put pos g (.row e sz (els.set i (vs.set j (.row m.store.length m.next sz2 0 0))))) w := by
  obtain ⟨h1, h2⟩ := h.nil_row et hsz
  have hlt := (List.getElem?_eq_some_iff.1 hp).1
  have hp' : (m.new (.row et sz2 [])).store[pos]? = some (g, .row e sz els) := by
    simp only [Mem.new]
    rw [List.getElem?_append_left hlt]
    exact hp
  obtain ⟨s, hs, ho⟩ := h1.objs pos g _ hp'
  refine h1.put hp' hs ⟨rfl, rfl, rfl, Nat.le_refl _, fun _ _ _ => rfl⟩ ?_
  obtain ⟨b, c⟩ := s
  cases b with
  | none =>
    obtain ⟨h3, _⟩ := ho
    subst h3
    cases hi
  | some b =>
    obtain ⟨cur, hb, hl, hcap, hmax, h0, hlr⟩ := ho
    refine ⟨cur, hb, hl, by rw [List.length_set]; exact hcap, hmax, h0, LR_iff.2 fun k x hk => ?_⟩
    rw [List.getElem?_set] at hk
    split at hk
    · rename_i hik
      subst hik
      split at hk
      · injection hk with hk; subst hk
        obtain ⟨g1, g2⟩ := LR_iff.1 hlr i _ hi
        refine ⟨by rw [List.length_set]; exact g1, CR_iff.2 fun k x hk => ?_⟩
        rw [List.getElem?_set] at hk
        split at hk
        · rename_i hjk
          subst hjk
          split at hk
          · injection hk with hk; subst hk
            obtain ⟨u, hu1, hu2, hu3⟩ := CR_iff.1 g2 j _ hj
            exact ⟨u, hu1, hu2, nil_as_row h2 hu3⟩
          · cases hk
        · exact CR_iff.1 g2 k x hk
      · cases hk
    · exact LR_iff.1 hlr k x hk
theorem Sim.nil_elem {e : Env} {m : Mem} {pos g t sz : Nat} {els : List (List AV)} {vs : List AV} (i j et : Nat) {sz2 : Nat} (hsz : 0 < sz2) (hp : m.store[pos]? = some (g, .row t sz els)) (hi : els[i]? = some vs) (hj : vs[j]? = some .nilS) :
    Sim e ((m.new (.row et sz2 [])).put pos g (.row t sz (els.set i (vs.set j (.row m.store.length m.next sz2 0 0))))) e m := by
  intro β N a w σ K hst
  have hpre : σ <+: σ ++ [(none, 0)] := List.prefix_append _ _
  exact ⟨_, K, hpre, fun _ _ h => h, hst.rel.nil_elem i j et hsz hp hi hj, hst.env.mono hpre (fun _ _ h => h) (fun _ _ _ => rfl), hst.defers, hst.size⟩
theorem call160Z {v : Vl} (h : rightV v = true) (hk : 1 ≤ v.k ∧ v.k ≤ 3) : PCalls Bk.pg 160 [.const (.pointer none), .list true 4 [v.av]] fun out => out = .ret (.int .i64 0) := by
  refine ok160.pcalls (by simp) ?_
  have c1 := call51G v
  rw [h] at c1
  have c2 : PCalls Bk.pg 242 [.int .i64 v.k] fun out => out = .ret (.bool true) := by
    refine ok242.pcalls (by simp) ?_
    simp [c242]
    refine xcall_p (call49R v.k 1 3) (by simp) ?_
    rw [rng_t.2 hk]
    simp [cr242]
  obtain ⟨k, n, q, s⟩ := v
  simp only [Vl.av, vl] at c1 c2 ⊢
  have z0 : ltI 0 1 = true := rfl
  have z1 : ltI 1 1 = false := rfl
  have w1 : IntKind.i64.wrap 1 = 1 := rfl
  simp [c160]
  refine wpS_loopS (ι := Nat × Nat) (fun s' => [(0, .const (.pointer none)), (1, .list true 4 [[.int .i64 k, .int .i64 n, .int .i64 q, .str s]]), (9, .list true 4 [[.int .i64 k, .int .i64 n, .int .i64 q, .str s]]), (10, .int .i64 1), (11, .int .i64 (s'.1 : Nat))]) (fun s' => ⟨[], s'.2⟩) (fun s' => 1 - s'.1) (fun s' => s'.1 ≤ 1) (0, 0) (by decide) (Sim.of_le (Env.le_of (by simp)) (Mem.le_of rfl (by simp))) ?_
  rintro ⟨i, nx⟩ hi
  simp only at hi
  have hi' : i = 0 ∨ i = 1 := by omega
  rcases hi' with rfl | rfl
  · simp [z0]
    refine xcall_p c1 (by simp) ?_
    simp [w1]
    exact ⟨1, by omega, by omega, _, Sim.of_le (Env.le_of (by simp)) (Mem.le_of rfl (by simp))⟩
  · simp [z1]
    refine wpS_loopS (ι := Nat × Nat) (fun s' => [(0, .const (.pointer none)), (1, .list true 4 [[.int .i64 k, .int .i64 n, .int .i64 q, .str s]]), (28, .list true 4 [[.int .i64 k, .int .i64 n, .int .i64 q, .str s]]), (29, .int .i64 1), (30, .int .i64 (s'.1 : Nat))]) (fun s' => ⟨[], s'.2⟩) (fun s' => 1 - s'.1) (fun s' => s'.1 ≤ 1) (0, nx) (Nat.zero_le _) (Sim.of_le (Env.le_of (by simp)) (Mem.le_of rfl (by simp))) ?_
    rintro ⟨i, nx⟩ hi
    simp only at hi
    have hi' : i = 0 ∨ i = 1 := by omega
    rcases hi' with rfl | rfl
    · simp [z0]
      refine xcall_p c2 (by simp) ?_
      simp [w1]
      exact ⟨1, by omega, by omega, _, Sim.of_le (Env.le_of (by simp)) (Mem.le_of rfl (by simp))⟩
    · simp [z1, cr160]
def v1 : Vl := ⟨2, 1, 0, ⟨#[]⟩⟩
def a337 : SC := (.ops [⟨(some 9), .plain .mv, [.tmp 57], none⟩] [])
def b337 : SC := (.block 1
     (.ops [⟨(some 58), .plain .mv, [.tmp 9], none⟩,
       ⟨(some 59), .plain (.bin .add), [.lit (.int .u8 48), .tmp 58], none⟩,
       ⟨(some 60), .call 364, [.tmp 8, .tmp 59], none⟩] [58, 59, 60]))
def e337 : Env := [(1, .ptr 0 0 0), (5, .str ⟨#[]⟩), (8, .rptr 2 2 2 0 0), (56, .fn 356 [.ptr 3 3 0])]
def ok337r : Loop → Prop := loopOk Bk.pg.toProgram Bk.imp [57] a337 b337
def m337 (t : ByteArray) (g : Nat) (a : AV) : List (Nat × AObj) :=
  [(0, .cells (vl 2 1 0 ⟨#[]⟩)), (1, .row 24 4 [vl 2 1 0 ⟨#[]⟩]), (2, .row 183 2 [[a, .row 4 g 1 0 t.size]]), (3, .cells [.list true 1 (dl [1])]), (g, .row 5 1 (bytesOf t))]
theorem round337 : YCalls Bk.pg 5 5 [.int .u8 1] ⟨m337 ⟨#[]⟩ 4 (.const (.pointer none)) ++ [(5, .loop .ready e337 ok337r)], 6⟩ fun out m' => out = .ret (.bool true) ∧ ∃ g nx, m' = ⟨m337 ⟨#[49]⟩ g (.rptr 2 2 2 0 0) ++ [(5, .loop .ready e337 ok337r)], nx⟩ := by
  refine ycalls_S (ps := [57]) (a := a337) (b := b337) (e := e337) rfl rfl ?_
  rw [show loopOk Bk.pg.toProgram Bk.imp [57] a337 b337 = ok337r from rfl]
  have c1 := fun (S : List (Nat × AObj)) (nx : Nat) (hb : S[2]? = some (2, .row 183 2 [[.const (.pointer none), .row 4 4 1 0 (⟨#[]⟩ : ByteArray).size]])) (hr : S[4]? = some (4, .row 5 1 (bytesOf ⟨#[]⟩))) => call364 (S := S) (nx := nx) (c := 49) (cc := 49) (t := ⟨#[]⟩) rfl hb hr (by decide) (.inl rfl) (by decide)
  have w : IntKind.u8.wrap (48 + 1) = 49 := rfl
  simp [a337, b337, Env.sets, e337, m337, w, vl]
  refine xcall_r (c1 _ _ rfl rfl) ?_ ?_
  · rintro v m' ⟨hv, g, nx, rfl⟩
    simp
    refine ⟨rfl, _, Mem.le_refl _, rfl, g, nx, ?_⟩
    rfl
  · rintro v m' ⟨hv, _⟩
    cases hv
theorem call337S : PCalls Bk.pg 337 [.agg v1.av] fun out => out = .ret (.tuple [.str ⟨#[49]⟩, .int .i64 0]) := by
  refine ok337.pcalls (by simp) ?_
  have c1 := (call160Z (v := v1) (by decide +kernel) (by decide)).lend rfl (Lend.cons Lend.one)
  have hd : digs 1 = [1] := by rw [digs_pos (by decide), show 1 / 10 = 0 from rfl, digs_zero]
  have c2 : PCalls Bk.pg 165 [.agg (vl 2 1 0 ⟨#[]⟩)] fun out => out = .ret (.agg [.list true 1 (dl [1]), .bool false, .int .i64 0]) := by
    have := call165 (k := 2) (n := 1) (q := 0) (s := ⟨#[]⟩) (by omega) (by omega) (by omega)
    simpa [lg, hd] using this
  have c3 := fun (m : Mem) (g : Nat) (hb : m.obj 2 2 = some (.row 183 2 [[.rptr 2 2 2 0 0, .row 4 g 1 0 (⟨#[49]⟩ : ByteArray).size]])) (hr : m.obj 4 g = some (.row 5 1 (bytesOf ⟨#[49]⟩))) => call206 m 2 2 4 g _ _ hb hr
  simp only [v1, Vl.av, vl] at c1 c2 ⊢
  have z : eqI 0 0 = true := rfl
  have z1 : ltI 1 0 = false := rfl
  have z2 : eqI 2 3 = false := rfl
  have one : (Value.pointer none).oneCell' = true := rfl
  simp [c337]
  refine xcall_p c1 (by simp) ?_
  simp [z, z1, z2, one]
  refine xcall_p c2 (by simp) ?_
  simp
  refine xcall_a call321 ?_
  simp
  refine wpS_rangeS e337 ⟨m337 ⟨#[]⟩ 4 (.const (.pointer none)), 5⟩ (Sim.trans (Sim.of_le (Env.le_of (by simp [e337])) (Mem.le_of rfl (by simp [m337, vl]))) (Sim.nil_elem (pos := 2) (g := 2) (els := [[.const (.pointer none), .nilS]]) (vs := [.const (.pointer none), .nilS]) 0 1 5 (sz2 := 1) (by decide) rfl rfl rfl)) rfl
    (call356 (pos := 5) (gen := 5) (p := 3) (g := 3) (l := [1]) (Inv := fun k m => k = 1 ∧ m = ⟨m337 ⟨#[]⟩ 4 (.const (.pointer none)) ++ [(5, .loop .ready e337 ok337r)], 6⟩ ∨ k = 0 ∧ ∃ g nx, m = ⟨m337 ⟨#[49]⟩ g (.rptr 2 2 2 0 0) ++ [(5, .loop .ready e337 ok337r)], nx⟩) (by decide) ?hY ?hc ?h0) ?hr ?hp
  case hY =>
    rintro k m hk (⟨hk1, rfl⟩ | ⟨hk1, _⟩)
    · obtain rfl : k = 0 := by omega
      exact round337.mono fun out m' ⟨h1, g, nx, h2⟩ => ⟨h1, .inr ⟨rfl, g, nx, h2⟩⟩
    · omega
  case hc =>
    rintro k m (⟨_, rfl⟩ | ⟨_, g, nx, rfl⟩) <;> rfl
  case h0 => exact .inl ⟨rfl, rfl⟩
  case hp =>
    rintro v m' ⟨hv, _⟩
    cases hv
  case hr =>
    rintro v m' ⟨hv, (⟨h, _⟩ | ⟨_, g, nx, rfl⟩)⟩
    · cases h
    refine ⟨.ready, e337, ok337r, rfl, ?_⟩
    simp [e337, m337]
    refine xcall_a (c3 _ g rfl (by simp)) ?_
    have y1 : IntKind.i64.wrap 1 = 1 := rfl
    have y2 : IntKind.i64.wrap 0 = 0 := rfl
    have y3 : (⟨#[49]⟩ : ByteArray).size = 1 := rfl
    have y4 : ltI 0 0 = false := rfl
    have y6 : (⟨#[]⟩ : ByteArray).size = 0 := rfl
    have y5 : (⟨#[]⟩ : ByteArray) ++ ⟨#[49]⟩ = ⟨#[49]⟩ := by decide +kernel
    simp [vl, y1, y2, y3, y4, y5, y6, cr337]
end Go.Pm

/- BkY4: contracts: the number 1 as no characters; the ways of conversions. -/
namespace Go.Pm
open Go Go.Proofs
attribute [-simp] List.getElem?_map
attribute [simp] nilCheckA postA_norm
def wayT : AV := .iptr true [.fn 287 []]
def wayF : AV := .iptr true [.fn 285 []]
def waysL : List AV := [.fn 285 [], .fn 288 [wayT], .fn 291 [wayT], .fn 293 [wayF], .fn 287 [], .fn 296 [wayT], .fn 297 [wayF], .fn 287 [], .fn 287 []]
theorem call208G : PCalls Bk.pg 208 [] fun out => out = .ret (.agg waysL) := by
  refine pcalls_of_acallsE 4 (ok208.acalls (by simp) ?_)
  have one : Value.nilFunc.oneCell' = true := rfl
  simp [c208, cr208, postA_ret, one]
  rfl
theorem dec11 : outT (turnE ⟨1, 1, 0, 0, false, ⟨#[]⟩⟩ (decE ⟨1, 1, 0, 0, false, ⟨#[]⟩⟩)) = .ret (.tuple [.agg (tyN 2 2 0), .int .i64 0]) := by kernel_rfl
theorem call266S : PCalls Bk.pg 266 [.agg (tyN 2 2 0)] fun out => out = .ret (.int .i64 5) := by
  refine ok266.pcalls (by simp) ?_
  have z1 : eqI 2 1 = false := rfl
  have z2 : eqI 2 3 = false := rfl
  have w : IntKind.i64.wrap 5 = 5 := rfl
  simp [c266, tyN, ty, z1, z2, w, cr266]
def fld1 : ByteArray := blanks 4 ++ ⟨#[49]⟩
theorem call290S : PCalls Bk.pg 290 [.agg (vlN 1 1 0), .agg (tyN 1 1 0)] fun out => out = .ret (.str fld1) := by
  refine ok290.pcalls (by simp) ?_
  have c1 := call173G ⟨1, 1, 0, 0, false, ⟨#[]⟩⟩
  rw [dec11] at c1
  have h1 : RightN 1 1 0 := ⟨.inl ⟨rfl, by omega, by omega⟩, by omega, by omega⟩
  have h2 : ValidN 2 (2 : Nat) (0 : Nat) := ⟨.inr ⟨rfl, by omega, by omega⟩, by omega, by omega⟩
  have c2 := call158 h1 h2
  have hf : fitN 1 1 0 2 2 0 = 1 := by decide +kernel
  have c3 := call337S
  have c4 := call266S
  have c5 := call136 (n := 4) (by omega)
  have hb := blanks_size 4
  unfold fld1
  rw [hf] at c2
  simp only [Ty.av, v1, Vl.av, tyN, ty, vlN, vl, blank] at c1 c2 c3 c4 c5 ⊢
  generalize fitL 1 1 0 2 2 0 = L at c2
  generalize blanks 4 = B at c5 hb ⊢
  have z1 : eqI 1 3 = false := rfl
  have z2 : eqI 1 1 = true := rfl
  have w : IntKind.i64.wrap 4 = 4 := rfl
  have hz : (⟨#[49]⟩ : ByteArray).size = 1 := rfl
  have hs : B.size + 1 ≤ 9223372036854775807 := by omega
  simp [c290, z1, z2]
  refine xcall_p c1 (by simp) ?_
  simp
  refine xcall_p c2 (by simp) ?_
  simp
  refine xcall_p c3 (by simp) ?_
  simp
  refine xcall_p c4 (by simp) ?_
  simp [hz, w]
  refine xcall_p c5 (by simp) ?_
  simp [hz, hs, cr290]
theorem fld1_ok : chB fld1 = true ∧ fld1.size = 5 := by
  constructor <;> decide +kernel
theorem call272S : PCalls Bk.pg 272 [.agg (tyC 0 false)] fun out => out = .ret (.bool true) := call272 (by omega)
theorem call187S {s : ByteArray} (h : chB s = true) (h0 : 0 < s.size) : PCalls Bk.pg 187 [.agg (vlC s), .agg (tyC 0 false)] fun out => out = .ret (.tuple [.agg (vlC ⟨#[]⟩), .int .i64 6, .int .i64 0]) := by
  refine ok187.pcalls (by simp) ?_
  have c1 := call50 h
  have c2 := call272S
  have c3 : PCalls Bk.pg 188 [.agg (vlC s), .str (s.extract 0 0)] fun out => out = .ret (.agg (vlC (s.extract 0 0))) := call188
  have e : s.extract 0 0 = ⟨#[]⟩ := by
    apply ByteArray.ext
    simp
  rw [e] at c3
  have z : eqI 4 4 = true := rfl
  have hlt : ltI 0 s.size = true := ltI_t.2 (by omega)
  simp only [vlC, vl, tyC, ty] at c1 c2 c3 ⊢
  simp [c187]
  refine xcall_p c1 (by simp) ?_
  simp
  refine xcall_p c2 (by simp) ?_
  have hsl : sliceA false true 0 [.str s, .int .i64 0] = some (.str ⟨#[]⟩) := by
    simp [sliceA, boundsA]
    rfl
  simp [z, hlt, hsl]
  refine xdcall_p rfl c3 (by simp) ?_
  simp [cr187]
theorem call287S {s : ByteArray} {x : List AV} (h : chB s = true) (h0 : 0 < s.size) (hx : ∃ k p q n v t, x = ty k p q n v t) : PCalls Bk.pg 287 [.agg (vlC s), .agg x, .agg (tyC 0 false)] fun out => out = .ret (.tuple [.agg (vlC ⟨#[]⟩), .agg (rz 6)]) := by
  obtain ⟨k, p, q, n, v, t, rfl⟩ := hx
  refine ok287.pcalls (by simp) ?_
  have c1 := call187S h h0
  have c2 := call286 (c := 6)
  simp only [vlC, vl, tyC, ty, rz] at c1 c2 ⊢
  simp [c287]
  refine xcall_p c1 (by simp) ?_
  simp
  refine xdcall_p rfl c2 (by simp) ?_
  simp [cr287]
theorem call289G {k : Int} {s : ByteArray} : PCalls Bk.pg 289 [.int .i64 k, .str s] fun out => out = .ret (.agg (vl k 0 0 s)) := by
  refine ok289.pcalls (by simp) ?_
  simp [c289, cr289, vl]
theorem call288S : PCalls Bk.pg 288 [.agg (vlN 1 1 0), .agg (tyN 1 1 0), .agg (tyC 0 false), wayT] fun out => out = .ret (.tuple [.agg (vlC ⟨#[]⟩), .agg (rz 6)]) := by
  refine ok288.pcalls (by simp) ?_
  have c1 := call290S
  have c2 := call289G (k := 4) (s := fld1)
  have c3 := call287S (x := tyN 1 1 0) fld1_ok.1 (by rw [fld1_ok.2]; decide) ⟨_, _, _, _, _, _, rfl⟩
  generalize fld1 = F at c1 c2 c3
  simp only [vlN, vlC, vl, tyN, tyC, ty, rz, wayT] at c1 c2 c3 ⊢
  simp [c288]
  refine xdcall_p rfl c1 (by simp) ?_
  simp
  refine xdcall_p rfl c2 (by simp) ?_
  simp
  rw [xdops_callv rfl rfl]
  refine ⟨_, _, ?_, c3, ?_⟩
  · simp
  · simp [cr288]
end Go.Pm

/- BkY5: contracts: bytes that are taken of a constant's text. -/
namespace Go.Pm
open Go Go.Proofs
attribute [-simp] List.getElem?_map
attribute [simp] nilCheckA postA_norm
def inB (cs : List UInt8) (b : UInt8) : Bool := cs.contains b
theorem indexByte_contains (c : UInt8) : ∀ l : List UInt8, leI 0 (Lib.indexByte l c) = inB l c
  | [] => rfl
  | b :: l => by
    have ih := indexByte_contains c l
    have hge := Lib.indexByte_ge l c
    unfold Lib.indexByte
    unfold inB at ih ⊢
    rw [List.contains_cons]
    by_cases h : b = c
    · subst h
      simp
      rfl
    · have h1 : (b == c) = false := by simpa using h
      have h2 : (c == b) = false := by simpa using fun e => h e.symm
      rw [h1, h2, Bool.false_or, ← ih]
      simp only [Bool.false_eq_true, if_false]
      split
      · rename_i he
        have he : Lib.indexByte l c = -1 := by simpa using he
        rw [he]
      · rename_i he
        have he : Lib.indexByte l c ≠ -1 := by simpa using he
        rw [leI_t.2 (by omega), leI_t.2 (by omega)]
theorem call185 {s : ByteArray} {b : Int} (hb : 0 ≤ b ∧ b < 256) : PCalls Bk.pg 185 [.str s, .int .u8 b] fun out => out = .ret (.int .i64 (Lib.indexByte s.data.toList b.toNat.toUInt8)) := by
  refine pcalls_of ⟨Tryz.f185, Tryz.func185, by kernel_rfl, by kernel_rfl⟩ rfl fun K w vals hx hl => ?_
  obtain ⟨u, us, rfl, h2, u2, us2, rfl, h3, h4⟩ := hx
  simp only [VR] at h2 h3; rw [VRs] at h4; subst h2; subst h3; subst h4
  refine (Tryz.strings_IndexByte s b w).mono ?_
  rintro e w' ⟨rfl, rfl⟩
  exact ⟨_, rfl, ⟨rfl, rfl, rfl, Nat.le_refl _, fun _ _ _ => rfl⟩, by rw [VR]⟩
def runB (cs : List UInt8) (l : List UInt8) (i : Nat) : Nat := i + ((l.drop i).takeWhile (inB cs ·)).length
theorem runB_in {cs l : List UInt8} {i : Nat} {b : UInt8} (h : l[i]? = some b) (hb : inB cs b = true) : runB cs l i = runB cs l (i + 1) := by
  unfold runB
  have hi := (List.getElem?_eq_some_iff.1 h).1
  rw [List.drop_eq_getElem_cons hi, List.takeWhile_cons]
  obtain ⟨_, rfl⟩ := List.getElem?_eq_some_iff.1 h
  rw [if_pos hb, List.length_cons]; omega
theorem runB_out {cs l : List UInt8} {i : Nat} (h : ∀ b, l[i]? = some b → inB cs b = false) : runB cs l i = i := by
  unfold runB
  cases hd : l.drop i with
  | nil => simp
  | cons b t =>
    have : l[i]? = some b := by rw [← List.head?_drop, hd]; rfl
    rw [List.takeWhile_cons, if_neg (by rw [h b this]; decide)]; simp
theorem runB_le {cs l : List UInt8} {i : Nat} (h : i ≤ l.length) : i ≤ runB cs l i ∧ runB cs l i ≤ l.length := by
  unfold runB
  have := (List.takeWhile_sublist (p := (inB cs ·)) (l := l.drop i)).length_le
  rw [List.length_drop] at this
  omega
theorem byteAt_get {t : ByteArray} {i : Nat} (h : i < t.size) : t.data.toList[i]? = some (byteAt t i) := by
  have h' : i < t.data.toList.length := h
  unfold byteAt
  rw [List.getD_eq_getElem?_getD, List.getElem?_eq_getElem h', Option.getD_some]
set_option maxHeartbeats 1000000 in
theorem call365 {S : List (Nat × AObj)} {nx p g a : Nat} {t cs : ByteArray} {rest : List AV} (hp : S[p]? = some (g, .cells (.str t :: .int .i64 a :: rest))) (ha : a ≤ t.size) (hz : t.size ≤ 100000) :
    ACalls Bk.pg 365 [.ptr p g 0, .str cs] ⟨S, nx⟩ fun out m' => out = .ret (.str (t.extract a (runB cs.data.toList t.data.toList a))) ∧ m' = ⟨S.set p (g, .cells (.str t :: .int .i64 (runB cs.data.toList t.data.toList a : Nat) :: rest)), nx⟩ := by
  refine ok365.acalls (by simp) ?_
  have lp := (List.getElem?_eq_some_iff.1 hp).1
  have hS : S.set p (g, .cells (.str t :: .int .i64 a :: rest)) = S := set_same hp
  have k1 : ∀ x, (S.set p x)[p]? = some x := fun x => by rw [List.getElem?_set_self lp]
  obtain ⟨e, he⟩ : ∃ e, e = runB cs.data.toList t.data.toList a := ⟨_, rfl⟩
  have hle := runB_le (cs := cs.data.toList) (l := t.data.toList) (i := a) ha
  rw [← he] at hle ⊢
  have hte : t.data.toList.length = t.size := rfl
  rw [hte] at hle
  simp [c365, hp]
  refine wpS_loopS (ι := Nat) (fun i => [(0, .ptr p g 0), (1, .str cs), (5, .int .i64 a)]) (fun i => ⟨S.set p (g, .cells (.str t :: .int .i64 (i : Nat) :: rest)), nx⟩) (fun i => t.size - i) (fun i => a ≤ i ∧ i ≤ t.size ∧ runB cs.data.toList t.data.toList i = e) a ⟨Nat.le_refl _, ha, he.symm⟩ (Sim.of_le (Env.le_of (by simp)) (Mem.le_of rfl (by rw [hS]; simp))) ?_
  rintro i ⟨hi1, hi2, hi3⟩
  have hw : IntKind.i64.wrap ((i : Int) + 1) = (i : Int) + 1 := wrap64 (by omega) (by omega)
  simp [k1]
  refine br_dguard_t rfl (fun h1 => ?_) (fun h1 => ?_)
  · have hlt : i < t.size := by have := ltI_t.1 h1; omega
    have hb := byteAt_get hlt
    have c1 := call185 (s := cs) (b := ((byteAt t i).toNat : Int)) (by have := (byteAt t i).toNat_lt; omega)
    have hu : ((byteAt t i).toNat : Int).toNat.toUInt8 = byteAt t i := by simp
    rw [hu] at c1
    have hc := indexByte_contains (byteAt t i) cs.data.toList
    simp [h1, k1, idxS]
    refine xdcall_p rfl c1 (by simp) ?_
    simp [hc]
    refine br_cond rfl (fun h2 => ?_) (fun h2 => ?_)
    · simp [k1, hw]
      exact ⟨i + 1, ⟨by omega, by omega, by rw [← hi3, runB_in hb h2]⟩, by omega, Sim.of_le (Env.le_of (by simp)) (Mem.le_of rfl (by simp; exact (List.take_of_length_le (by simp)).symm))⟩
    · have hie : i = e := by rw [← hi3, runB_out (fun b hb' => by rw [hb] at hb'; injection hb' with hb'; rw [← hb']; exact h2)]
      subst hie
      have hsl : sliceA true true 0 [.str t, .int .i64 a, .int .i64 (i : Nat)] = some (.str (t.extract a i)) := by
        simp [sliceA, boundsA, hi1, hi2]
      simp [k1, hsl, cr365, postA_ret]
  · have hie : i = e := by
      have : t.size ≤ i := by have := ltI_f.1 h1; omega
      rw [← hi3, runB_out (fun b hb' => by have := (List.getElem?_eq_some_iff.1 hb').1; rw [hte] at this; omega)]
    subst hie
    have hsl : sliceA true true 0 [.str t, .int .i64 a, .int .i64 (i : Nat)] = some (.str (t.extract a i)) := by
      simp [sliceA, boundsA, hi1, hi2]
    simp [h1, k1, hsl, cr365, postA_ret]
end Go.Pm

/- BkY6: contracts: what a conversion asks; conversions, whatever the kinds. -/
namespace Go.Pm
open Go Go.Proofs
attribute [-simp] List.getElem?_map
attribute [simp] nilCheckA postA_norm
def groupN (k : Int) : Nat := if eqI k 4 = true then 1 else if eqI k 5 = true then 2 else 0
theorem call209G {k : Int} : PCalls Bk.pg 209 [.int .i64 k] fun out => out = .ret (.int .i64 (groupN k : Nat)) := by
  refine ok209.pcalls (by simp) ?_
  simp [c209, groupN]
  refine br_cond rfl (fun h => ?_) (fun h => ?_)
  · simp [h, cr209]
  · simp
    refine br_cond rfl (fun h1 => ?_) (fun h1 => ?_)
    · simp [h, h1, cr209]
    · simp [h, h1, cr209]
structure CanV (v : Vl) (f t : Ty) : Prop where
  right : rightV v = true
  str : (eqI v.k 4 || eqI v.k 5) = true → strV v = true
  vf : validT f = true
  has : hasV f v = true
  vt : validT t = true
  kf : kindOk f = true
  kt : kindOk t = true
set_option maxHeartbeats 1000000 in
theorem call207G {v : Vl} {f t : Ty} {o0 o1 o2 o3 o4 : Nat × AObj} (h : CanV v f t) :
    ACalls Bk.pg 207 [.agg v.av, .agg f.av, .row 5 5 6 0 1] ⟨[o0, o1, o2, o3, o4, (5, .row 32 6 [t.av])], 6⟩ fun out m' => out = .ret (.int .i64 0) ∧ ∃ x nx', m' = ⟨[o0, o1, o2, o3, o4, x], nx'⟩ := by
  refine ACalls.forget (ok207.acalls (by simp) ?_)
  have c1 := call51G v
  have c2 := call31G f
  have c3 := call33G f v
  have c4 := call31G t
  have c5 := call264G [t, f] (by simp)
  have c6 := call284G v
  have hk : ([t, f] : List Ty).all kindOk = true := by simp [h.kf, h.kt]
  have hs : (eqI v.k 4 || eqI v.k 5) = true → askV v = true := fun hh => by unfold askV; rw [if_pos hh]; exact h.str hh
  rw [h.right] at c1
  rw [h.vf] at c2
  rw [h.has] at c3
  rw [h.vt] at c4
  rw [hk] at c5
  have z01 : ltI 0 1 = true := rfl
  have z11 : ltI 1 1 = false := rfl
  have w1 : IntKind.i64.wrap 1 = 1 := rfl
  clear h hk
  generalize askV v = A at c6 hs
  obtain ⟨k, n, q, s⟩ := v
  obtain ⟨fk, fp, fq, fn, fv, fs⟩ := f
  obtain ⟨tk, tp, tq, tn, tv, ts⟩ := t
  simp only at hs
  simp only [Vl.av, vl, Ty.av, ty, List.map_cons, List.map_nil] at c1 c2 c3 c4 c5 c6 ⊢
  simp [c207]
  refine xcall_p c1 (by simp) ?_
  simp
  refine br_guard_f rfl (fun h4 => ?_) (fun h4 => ?_)
  · have hA := hs (by rw [h4]; rfl)
    simp [h4]
    refine xcall_p c6 (by simp) ?_
    simp [hA]
    refine xcall_p c2 (by simp) ?_
    simp
    refine xcall_p c3 (by simp) ?_
    simp
    refine wpS_loopS (ι := Nat × Nat) (fun s' => [(2, .row 5 5 6 0 1), (4, .ptr 7 7 0), (37, .row 5 5 6 0 1), (38, .int .i64 1), (39, .int .i64 (s'.1 : Nat))]) (fun s' => ⟨[o0, o1, o2, o3, o4, (5, .row 32 6 [ty tk tp tq tn tv ts]), (6, .cells (vl k n q s)), (7, .cells (ty fk fp fq fn fv fs))], s'.2⟩) (fun s' => 1 - s'.1) (fun s' => s'.1 ≤ 1) (0, 8) (by decide) (Sim.of_le (Env.le_of (by simp)) (Mem.le_of rfl (by simp [vl, ty]))) ?_
    rintro ⟨i, nx⟩ hi
    simp only at hi
    have hi' : i = 0 ∨ i = 1 := by omega
    rcases hi' with rfl | rfl
    · simp [z01, vl, ty]
      refine xcall_p c4 (by simp) ?_
      simp [w1]
      exact ⟨1, by omega, by omega, _, Sim.of_le (Env.le_of (by simp)) (Mem.le_of rfl (by simp))⟩
    · simp [z11, vl, ty]
      simp [appendA, appendN, elsOf, Mem.turn]
      refine xcall_r (PCalls.keep (pos := 5) (g := nx + 1) (e := 32) (n := 2) (els := [[AV.int .i64 tk, .int .i64 tp, .int .i64 tq, .int .i64 tn, .bool tv, .str ts], [.int .i64 fk, .int .i64 fp, .int .i64 fq, .int .i64 fn, .bool fv, .str fs]]) (h := c5) (hp := rfl) (hn := by simp) (hr := by simp)) ?_ ?_
      · rintro v m' ⟨hv', rfl⟩
        cases hv'
        simp [cr207, Mem.turn]
        exact ⟨⟨[o0, o1, o2, o3, o4, (nx + 2, .hole)], nx + 3⟩, Mem.le_of rfl (by simp), _, _, _, rfl⟩
      · rintro v m' ⟨hv', _⟩
        cases hv'
  · have hA : (eqI k 5 = true) → A = true := fun h5 => hs (by rw [h5]; simp)
    simp [h4]
    refine br_guard_t rfl (fun h5 => ?_) (fun h5 => ?_)
    · simp [h5]
      refine xcall_p c6 (by simp) ?_
      simp [hA h5]
      refine xcall_p c2 (by simp) ?_
      simp
      refine xcall_p c3 (by simp) ?_
      simp
      refine wpS_loopS (ι := Nat × Nat) (fun s' => [(2, .row 5 5 6 0 1), (4, .ptr 7 7 0), (37, .row 5 5 6 0 1), (38, .int .i64 1), (39, .int .i64 (s'.1 : Nat))]) (fun s' => ⟨[o0, o1, o2, o3, o4, (5, .row 32 6 [ty tk tp tq tn tv ts]), (6, .cells (vl k n q s)), (7, .cells (ty fk fp fq fn fv fs))], s'.2⟩) (fun s' => 1 - s'.1) (fun s' => s'.1 ≤ 1) (0, 8) (by decide) (Sim.of_le (Env.le_of (by simp)) (Mem.le_of rfl (by simp [vl, ty]))) ?_
      rintro ⟨i, nx⟩ hi
      simp only at hi
      have hi' : i = 0 ∨ i = 1 := by omega
      rcases hi' with rfl | rfl
      · simp [z01, vl, ty]
        refine xcall_p c4 (by simp) ?_
        simp [w1]
        exact ⟨1, by omega, by omega, _, Sim.of_le (Env.le_of (by simp)) (Mem.le_of rfl (by simp))⟩
      · simp [z11, vl, ty]
        simp [appendA, appendN, elsOf, Mem.turn]
        refine xcall_r (PCalls.keep (pos := 5) (g := nx + 1) (e := 32) (n := 2) (els := [[AV.int .i64 tk, .int .i64 tp, .int .i64 tq, .int .i64 tn, .bool tv, .str ts], [.int .i64 fk, .int .i64 fp, .int .i64 fq, .int .i64 fn, .bool fv, .str fs]]) (h := c5) (hp := rfl) (hn := by simp) (hr := by simp)) ?_ ?_
        · rintro v m' ⟨hv', rfl⟩
          cases hv'
          simp [cr207, Mem.turn]
          exact ⟨⟨[o0, o1, o2, o3, o4, (nx + 2, .hole)], nx + 3⟩, Mem.le_of rfl (by simp), _, _, _, rfl⟩
        · rintro v m' ⟨hv', _⟩
          cases hv'
    · simp [h5]
      refine xcall_p c2 (by simp) ?_
      simp
      refine xcall_p c3 (by simp) ?_
      simp
      refine wpS_loopS (ι := Nat × Nat) (fun s' => [(2, .row 5 5 6 0 1), (4, .ptr 7 7 0), (37, .row 5 5 6 0 1), (38, .int .i64 1), (39, .int .i64 (s'.1 : Nat))]) (fun s' => ⟨[o0, o1, o2, o3, o4, (5, .row 32 6 [ty tk tp tq tn tv ts]), (6, .cells (vl k n q s)), (7, .cells (ty fk fp fq fn fv fs))], s'.2⟩) (fun s' => 1 - s'.1) (fun s' => s'.1 ≤ 1) (0, 8) (by decide) (Sim.of_le (Env.le_of (by simp)) (Mem.le_of rfl (by simp [vl, ty]))) ?_
      rintro ⟨i, nx⟩ hi
      simp only at hi
      have hi' : i = 0 ∨ i = 1 := by omega
      rcases hi' with rfl | rfl
      · simp [z01, vl, ty]
        refine xcall_p c4 (by simp) ?_
        simp [w1]
        exact ⟨1, by omega, by omega, _, Sim.of_le (Env.le_of (by simp)) (Mem.le_of rfl (by simp))⟩
      · simp [z11, vl, ty]
        simp [appendA, appendN, elsOf, Mem.turn]
        refine xcall_r (PCalls.keep (pos := 5) (g := nx + 1) (e := 32) (n := 2) (els := [[AV.int .i64 tk, .int .i64 tp, .int .i64 tq, .int .i64 tn, .bool tv, .str ts], [.int .i64 fk, .int .i64 fp, .int .i64 fq, .int .i64 fn, .bool fv, .str fs]]) (h := c5) (hp := rfl) (hn := by simp) (hr := by simp)) ?_ ?_
        · rintro v m' ⟨hv', rfl⟩
          cases hv'
          simp [cr207, Mem.turn]
          exact ⟨⟨[o0, o1, o2, o3, o4, (nx + 2, .hole)], nx + 3⟩, Mem.le_of rfl (by simp), _, _, _, rfl⟩
        · rintro v m' ⟨hv', _⟩
          cases hv'
theorem groupN_lt (k : Int) : groupN k < 3 := by
  unfold groupN
  split
  · decide
  · split <;> decide
def rsA (c : Int) (nm : ByteArray) (cd : Int) (src : ByteArray) (at_ : Int) : List AV := [.int .i64 c, .str nm, .int .i64 cd, .str src, .int .i64 at_]
set_option maxHeartbeats 4000000 in
theorem call137G {v : Vl} {f t : Ty} {g : FuncId} {caps : List AV} {w : Vl} {c cd at_ : Int} {nm src : ByteArray} (h : CanV v f t) (hg : waysL[3 * groupN f.k + groupN t.k]? = some (.fn g caps))
    (hw : PCalls Bk.pg g ([.agg v.av, .agg f.av, .agg t.av] ++ caps) fun out => out = .ret (.tuple [.agg w.av, .agg (rsA c nm cd src at_)])) :
    PCalls Bk.pg 137 [.agg v.av, .agg f.av, .agg t.av] fun out => out = .ret (.tuple [.agg w.av, .agg (rsA c nm cd src at_), .int .i64 0]) := by
  refine ok137.pcalls (by simp) ?_
  have c1 := fun o0 o1 o2 o3 o4 => call207G (o0 := o0) (o1 := o1) (o2 := o2) (o3 := o3) (o4 := o4) h
  have c2 := call209G (k := f.k)
  have c3 := call209G (k := t.k)
  have g1 := groupN_lt f.k
  have g2 := groupN_lt t.k
  have c4 := call208G
  have z : eqI 0 0 = true := rfl
  clear h
  obtain ⟨k, n, q, s⟩ := v
  obtain ⟨fk, fp, fq, fn, fv, fs⟩ := f
  obtain ⟨tk, tp, tq, tn, tv, ts⟩ := t
  obtain ⟨wk, wn, wq, ws⟩ := w
  simp only [Vl.av, vl, Ty.av, ty, rsA, List.cons_append, List.nil_append] at c1 c2 c3 c4 hg hw g1 g2 ⊢
  generalize groupN fk = G1 at c2 hg g1
  generalize groupN tk = G2 at c3 hg g2
  have e1 : G1 = 0 ∨ G1 = 1 ∨ G1 = 2 := by omega
  have e2 : G2 = 0 ∨ G2 = 1 ∨ G2 = 2 := by omega
  rcases e1 with rfl | rfl | rfl <;> rcases e2 with rfl | rfl | rfl
  all_goals
    simp [waysL] at hg
    obtain ⟨rfl, rfl⟩ := hg
    simp only [wayT, wayF, waysL] at hw c4
    simp [c137]
    refine xcall_r (c1 _ _ _ _ _) ?_ ?_
    rotate_left
    · rintro v m' ⟨hv', _⟩
      cases hv'
    rintro v m' ⟨hv', x, nx, rfl⟩
    cases hv'
    simp [z]
    refine xdcall_p rfl c4 (by simp) ?_
    simp
    refine xdcall_p rfl c2 (by simp) ?_
    simp
    refine xdcall_p rfl c3 (by simp) ?_
    simp
    rw [xdops_callv rfl rfl]
    refine ⟨_, _, ?_, hw, ?_⟩
    · simp
    · simp
      refine ⟨?_, ?_⟩
      all_goals
        simp [cr137]
end Go.Pm

/- BkY7: contracts: no characters as a number; a sample of no characters. -/
namespace Go.Pm
open Go Go.Proofs
attribute [-simp] List.getElem?_map
attribute [simp] nilCheckA postA_norm
theorem call339N {p q r : AV} {S : List (Nat × AObj)} {nx : Nat} : DCalls Bk.pg 339 [p, q, r] none ⟨S, nx⟩ fun m' => m' = ⟨S ++ [(nx, .cells [.int .i64 0])], nx + 1⟩ := by
  refine ok339.dcalls [] (by simp) ?_
  simp [cz339, c339, postR_norm]
def cstA (t : ByteArray) (a : Nat) (minus : Bool) (begin_ : Int) (dg : ByteArray) (behind : Int) (mark ex : ByteArray) (markAt : Int) : List AV :=
  [.str t, .int .i64 a, .bool minus, .int .i64 begin_, .str dg, .int .i64 behind, .str mark, .str ex, .int .i64 markAt]
theorem call340E {S : List (Nat × AObj)} {nx p g : Nat} (hp : S[p]? = some (g, .cells (cstA ⟨#[]⟩ 0 false 0 ⟨#[]⟩ 0 ⟨#[]⟩ ⟨#[]⟩ 0))) :
    ACalls Bk.pg 340 [.ptr p g 0] ⟨S, nx⟩ fun out m' => out = .ret (.bool false) ∧ m' = ⟨S, nx⟩ := by
  refine ok340.acalls (by simp) ?_
  have c1 := call365 (cs := ⟨#[32]⟩) (nx := nx) hp (Nat.zero_le _) (by decide)
  have hr : runB [32] ([] : List UInt8) 0 = 0 := by decide
  have e1 : (⟨#[]⟩ : ByteArray).extract 0 0 = ⟨#[]⟩ := by decide +kernel
  have hS : S.set p (g, .cells (cstA ⟨#[]⟩ 0 false 0 ⟨#[]⟩ 0 ⟨#[]⟩ ⟨#[]⟩ 0)) = S := set_same hp
  have hz : eqI 0 0 = true := rfl
  have hsz : (⟨#[]⟩ : ByteArray).size = 0 := rfl
  simp only [cstA] at c1 hS
  rw [hr, e1, hS] at c1
  have hp' : S[p]? = some (g, .cells [.str ⟨#[]⟩, .int .i64 0, .bool false, .int .i64 0, .str ⟨#[]⟩, .int .i64 0, .str ⟨#[]⟩, .str ⟨#[]⟩, .int .i64 0]) := hp
  simp [c340]
  refine xcall_a c1 ?_
  simp [hp', hz, hsz, cr340, postA_ret]
theorem call294E : PCalls Bk.pg 294 [.str ⟨#[]⟩] fun out => out = .ret (.tuple [.agg (vl 2 0 0 ⟨#[]⟩), .agg (tyN 2 1 0), .int .i64 (-1)]) := by
  refine pcalls_of_acalls 1 (ok294.acalls (by simp) ?_)
  have c1 := fun (S : List (Nat × AObj)) (nx : Nat) (hp : S[3]? = some (3, .cells (cstA ⟨#[]⟩ 0 false 0 ⟨#[]⟩ 0 ⟨#[]⟩ ⟨#[]⟩ 0))) => call340E (nx := nx) hp
  simp only [cstA] at c1
  simp [cx294, cy294]
  refine xcall_a (c1 _ _ rfl) ?_
  simp [postF_ret]
  refine ⟨_, call339N, ?_⟩
  rintro m' rfl
  simp [cr294, permOD, permD, mapO, vl, tyN, ty]
theorem call293E : PCalls Bk.pg 293 [.agg (vlC ⟨#[]⟩), .agg (tyC 0 false), .agg (tyN 1 31 0), wayF] fun out => out = .ret (.tuple [.agg (vlN 1 0 0), .agg (rz 0)]) := by
  refine ok293.pcalls (by simp) ?_
  have c1 := call294E
  have h1 : RightN 2 0 0 := ⟨.inr ⟨rfl, by omega, by omega⟩, by omega, by omega⟩
  have h2 : ValidN 1 (31 : Nat) (0 : Nat) := ⟨.inl ⟨rfl, by omega, by omega⟩, by omega, by omega⟩
  have c2 := call285 (kx := 1) (px := 31) (qx := 0) h1 h2
  have hf : fitN 2 0 0 1 31 0 = 0 := by decide +kernel
  have hl : fitL 2 0 0 1 31 0 = false := by decide +kernel
  rw [hf, hl] at c2
  have z : leI 0 (-1) = false := rfl
  simp only [vlC, vlN, vl, tyC, tyN, ty, rz, wayF] at c1 c2 ⊢
  simp [c293]
  refine xcall_p c1 (by simp) ?_
  simp [z]
  refine xcall_p c2 (by simp) ?_
  simp [cr293]
theorem canA : CanV ⟨1, 1, 0, ⟨#[]⟩⟩ ⟨1, 1, 0, 0, false, ⟨#[]⟩⟩ ⟨4, 0, 0, 0, false, ⟨#[]⟩⟩ :=
  ⟨by kernel_rfl, fun h => absurd h (by decide), by kernel_rfl, by kernel_rfl, by kernel_rfl, by kernel_rfl, by kernel_rfl⟩
theorem canB : CanV ⟨4, 0, 0, ⟨#[]⟩⟩ ⟨4, 0, 0, 0, false, ⟨#[]⟩⟩ ⟨1, 31, 0, 0, false, ⟨#[]⟩⟩ :=
  ⟨by kernel_rfl, fun _ => by kernel_rfl, by kernel_rfl, by kernel_rfl, by kernel_rfl, by kernel_rfl, by kernel_rfl⟩
theorem call137A : PCalls Bk.pg 137 [.agg (vlN 1 1 0), .agg (tyN 1 1 0), .agg (tyC 0 false)] fun out => out = .ret (.tuple [.agg (vlC ⟨#[]⟩), .agg (rz 6), .int .i64 0]) :=
  call137G (w := ⟨4, 0, 0, ⟨#[]⟩⟩) (c := 6) (nm := ⟨#[]⟩) (cd := 0) (src := ⟨#[]⟩) (at_ := 0) (g := 288) (caps := [wayT]) canA rfl call288S
theorem call137B : PCalls Bk.pg 137 [.agg (vlC ⟨#[]⟩), .agg (tyC 0 false), .agg (tyN 1 31 0)] fun out => out = .ret (.tuple [.agg (vlN 1 0 0), .agg (rz 0), .int .i64 0]) :=
  call137G (w := ⟨1, 0, 0, ⟨#[]⟩⟩) (c := 0) (nm := ⟨#[]⟩) (cd := 0) (src := ⟨#[]⟩) (at_ := 0) (g := 293) (caps := [wayF]) canB rfl call293E
theorem call138E : PCalls Bk.pg 138 [.agg (tyC 0 false)] fun out => out = .ret (.tuple [.agg (vlC ⟨#[]⟩), .int .i64 0]) := by
  refine ok138.pcalls (by simp) ?_
  have c1 := call31C (n := 0) (v := false) (by omega)
  have c2 : PCalls Bk.pg 210 [.int .i64 4] fun out => out = .ret (.int .i64 0) := by
    refine ok210.pcalls (by simp) ?_
    have z1 : eqI 4 1 = false := rfl
    have z2 : eqI 4 2 = false := rfl
    simp [c210, z1, z2, cr210]
  have c3 := call136 (n := 0) (by omega)
  have hb : blanks 0 = ⟨#[]⟩ := rfl
  rw [hb] at c3
  have z0 : ltI 0 0 = false := rfl
  have z3 : eqI 4 3 = false := rfl
  have z4 : eqI 4 4 = true := rfl
  simp only [vlC, vl, tyC, ty, blank] at c1 c3 ⊢
  simp [c138]
  refine xcall_p c1 (by simp) ?_
  simp
  refine xcall_p c2 (by simp) ?_
  simp [z0, z3, z4]
  refine xcall_p c3 (by simp) ?_
  simp [cr138]
theorem call53E : PCalls Bk.pg 53 [.agg (tyC 0 false), .int .i64 1] fun out => out = .ret (.agg (vlC ⟨#[]⟩)) := by
  refine ok53.pcalls (by simp) ?_
  have c135 := call135
  have c1 := call137A
  have c2 := call137B
  have c3 := call138E
  have c67 := call67
  have z44 : eqI 4 4 = true := rfl
  have z00 : ltI 0 0 = false := rfl
  have z : eqI 0 0 = true := rfl
  have z01 : eqI 0 1 = false := rfl
  generalize (⟨(Lib.decDigits 1).toArray⟩ : ByteArray) = s at c135
  simp only [vlC, vlN, vl, tyC, tyN, ty, rz] at c1 c2 c3 c67 ⊢
  simp [c53]
  refine xcall_p c135 (by simp) ?_
  simp [z44, z00]
  refine xcall_p c1 (by simp) ?_
  simp [z]
  refine xdcall_p rfl c67 (by simp) ?_
  simp
  refine xdcall_p rfl c2 (by simp) ?_
  simp
  refine ⟨?_, ?_⟩
  all_goals
    simp [z, z01]
    refine xcall_p c3 (by simp) ?_
    simp [cr53]
end Go.Pm

/- BkX13: contracts: the law of parts, for all texts and numbers. -/
namespace Go.Pm
open Go Go.Proofs
theorem smp_all {s : ByteArray} (h : chB s = true) : SmpOk s.size := by
  have := chB_size h
  rcases Nat.eq_zero_or_pos s.size with h0 | h0
  · rw [h0]; exact ⟨_, call53E⟩
  · exact smp_pos h0 this
theorem call4 {k : ByteArray} {n : Int} (hn : -9223372036854775808 ≤ n ∧ n ≤ 9223372036854775807) : PCalls Bk.pg 4 [.str k, .int .i64 n] fun out => out = .ret (.bool true) := call4P hn smp_all
end Go.Pm
