/- BkC8: contracts: types and values that are right. -/
import Derived.Test.YtmcogjekcefjoaaGreatDoorGd
import Derived.Test.YtmcogjekcefjoaaGreatDoorGe
namespace Go.Pm
open Go Go.Proofs
attribute [-simp] List.getElem?_map

theorem call49 (n lo hi : Int) : PCalls Bk.pg 49 [.int .i64 n, .int .i64 lo, .int .i64 hi] fun out => out = .ret (.bool (leI lo n && leI n hi)) := by
  refine ok49.pcalls (by simp) ?_
  simp [c49]
  refine br_guard_t rfl (fun h => ?_) (fun h => ?_)
  · simp [h, cr49]
  · simp [h, cr49]

/-- Types of numbers. -/
def tyN (k p q : Int) : List AV := ty k p q 0 false ⟨#[]⟩
def vlN (k n q : Int) : List AV := vl k n q ⟨#[]⟩

theorem ok31T : FOk Bk.pg.toProgram Bk.impT 31 c31 cr31 Tryz.f31.ntmps := ⟨Tryz.f31, _, Tryz.func31, rfl, by kernel_rfl, by kernel_rfl, by kernel_rfl, rfl⟩

theorem call127 {most scale : Int} {m : Mem} : ACalls Bk.pg 127 [.int .i64 most, .int .i64 scale] m fun out m' => out = .ret (.fn 128 [.ptr m.store.length m.next 0, .ptr (m.store.length + 1) (m.next + 1) 0]) ∧ m' = ⟨m.store ++ [(m.next, .cells [.int .i64 most]), (m.next + 1, .cells [.int .i64 scale])], m.next + 2⟩ := by
  refine ok127.acalls (by simp) ?_
  simp [c127, cr127, postA_ret, Mem.new]

/-- The rules of types: what each kind asks. -/
def rulesL : List (List AV) := [[.fn 132 []], [.fn 128 [.ptr 1 1 0, .ptr 2 2 0]], [.fn 128 [.ptr 3 3 0, .ptr 4 4 0]], [.fn 128 [.ptr 5 5 0, .ptr 6 6 0]], [.fn 129 []], [.fn 129 []], [.fn 131 []], [.fn 130 []], [.fn 130 []], [.fn 130 []]]
def cellI (g : Nat) (n : Int) : Nat × AObj := (g, .cells [.int .i64 n])
theorem call48 {o : Nat × AObj} : ACalls Bk.pg 48 [] ⟨[o], 1⟩ fun out m' => out = .ret (.row 7 7 1 0 10) ∧ m' = ⟨[o, cellI 1 31, cellI 2 31, cellI 3 15, cellI 4 31, cellI 5 15, cellI 6 0, (7, .row 64 1 rulesL)], 8⟩ := by
  refine ok48.acalls (by simp) ?_
  simp [c48]
  refine xcall_a call127 ?_
  simp
  refine xcall_a call127 ?_
  simp
  refine xcall_a call127 ?_
  simp [cr48, postA_ret, rulesL, cellI]
  rfl

/-- (What a kind of numbers asks.) -/
theorem call128 {k p q most scale : Int} {m : Mem} {p1 g1 p2 g2 : Nat} (h1 : m.store[p1]? = some (g1, .cells [.int .i64 most])) (h2 : m.store[p2]? = some (g2, .cells [.int .i64 scale])) (hp : 1 ≤ p ∧ p ≤ most) (hq : 0 ≤ q ∧ q ≤ scale) :
    ACalls Bk.pg 128 [.agg (tyN k p q), .ptr p1 g1 0, .ptr p2 g2 0] m fun out m' => out = .ret (.bool true) ∧ m' = ⟨m.store, m.next + 1⟩ := by
  refine ACalls.forget (ok128.acalls (by simp) ?_)
  have l1 := (List.getElem?_eq_some_iff.1 h1).1
  have l2 := (List.getElem?_eq_some_iff.1 h2).1
  have k1 : ∀ x, (m.store ++ [x])[p1]? = some (g1, .cells [.int .i64 most]) := fun x => by rw [List.getElem?_append_left l1]; exact h1
  have k2 : ∀ x, (m.store ++ [x])[p2]? = some (g2, .cells [.int .i64 scale]) := fun x => by rw [List.getElem?_append_left l2]; exact h2
  have a1 : leI 1 p = true := leI_t.2 hp.1
  have a2 : leI p most = true := leI_t.2 hp.2
  have a3 : leI 0 q = true := leI_t.2 hq.1
  have a4 : leI q scale = true := leI_t.2 hq.2
  have z : eqI 0 0 = true := rfl
  have zs : eqS ⟨#[]⟩ ⟨#[]⟩ = true := eqS_r _
  simp [c128, tyN, ty, k1, k2]
  refine xcall_p (call49 p 1 most) (by simp) ?_
  simp [a1, a2, k1, k2]
  refine xcall_p (call49 q 0 scale) (by simp) ?_
  simp [a3, a4, z, zs, cr128, postA_ret]
  exact Mem.le_of rfl (by simp)

theorem call31 {k p q : Int} (hk : k = 1 ∧ 1 ≤ p ∧ p ≤ 31 ∨ k = 2 ∧ 1 ≤ p ∧ p ≤ 15) (hq : 0 ≤ q ∧ q ≤ 31) : PCalls Bk.pg 31 [.agg (tyN k p q)] fun out => out = .ret (.bool true) := by
  refine ok31T.pcalls (by simp) ?_
  simp [c31, tyN, ty]
  refine xcall_a call48 ?_
  have w9 : IntKind.i64.wrap 9 = 9 := rfl
  have z9 : leI 0 1 = true ∧ leI 1 9 = true ∧ ltI 1 10 = true ∧ leI 0 2 = true ∧ leI 2 9 = true ∧ ltI 2 10 = true := ⟨rfl, rfl, rfl, rfl, rfl, rfl⟩
  rcases hk with ⟨rfl, hp⟩ | ⟨rfl, hp⟩
  · have h1 := fun m h1 h2 => call128 (k := 1) (p := p) (q := q) (most := 31) (scale := 31) (m := m) (p1 := 1) (g1 := 1) (p2 := 2) (g2 := 2) h1 h2 hp hq
    simp [tyN, ty, w9, rulesL, cellI] at h1 ⊢
    refine xdcall_p rfl (call49 1 0 9) (by simp) ?_
    simp [z9]
    refine xdops_callw rfl rfl (h1 _ rfl rfl) ?_
    simp [cr31]
  · have h1 := fun m h1 h2 => call128 (k := 2) (p := p) (q := q) (most := 15) (scale := 31) (m := m) (p1 := 3) (g1 := 3) (p2 := 4) (g2 := 4) h1 h2 hp hq
    simp [tyN, ty, w9, rulesL, cellI] at h1 ⊢
    refine xdcall_p rfl (call49 2 0 9) (by simp) ?_
    simp [z9]
    refine xdops_callw rfl rfl (h1 _ rfl rfl) ?_
    simp [cr31]

/-- Right numbers. -/
def RightN (k n q : Int) : Prop := (k = 1 ∧ -2147483647 ≤ n ∧ n ≤ 2147483647 ∨ k = 2 ∧ -999999999999999 ≤ n ∧ n ≤ 999999999999999) ∧ 0 ≤ q ∧ q ≤ 31
def ValidN (k p q : Int) : Prop := (k = 1 ∧ 1 ≤ p ∧ p ≤ 31 ∨ k = 2 ∧ 1 ≤ p ∧ p ≤ 15) ∧ 0 ≤ q ∧ q ≤ 31

theorem call51 {k n q : Int} (h : RightN k n q) : PCalls Bk.pg 51 [.agg (vlN k n q)] fun out => out = .ret (.bool true) := by
  refine ok51.pcalls (by simp) ?_
  obtain ⟨hk, hq⟩ := h
  have a1 : leI 0 q = true := leI_t.2 hq.1
  have a2 : leI q 31 = true := leI_t.2 hq.2
  have zs : eqS ⟨#[]⟩ ⟨#[]⟩ = true := eqS_r _
  rcases hk with ⟨rfl, h1, h2⟩ | ⟨rfl, h1, h2⟩
  · have a3 : leI (-2147483647) n = true := leI_t.2 h1
    have a4 : leI n 2147483647 = true := leI_t.2 h2
    have z1 : eqI 1 1 = true := rfl
    simp [c51, vlN, vl, z1, zs]
    refine xcall_p (call49 q 0 31) (by simp) ?_
    simp [a1, a2]
    refine xcall_p (call49 n (-2147483647) 2147483647) (by simp) ?_
    simp [a3, a4, cr51]
  · have a3 : leI (-999999999999999) n = true := leI_t.2 h1
    have a4 : leI n 999999999999999 = true := leI_t.2 h2
    have z1 : eqI 2 1 = false := rfl
    have z2 : eqI 2 2 = true := rfl
    simp [c51, vlN, vl, z1, z2, zs]
    refine xcall_p (call49 q 0 31) (by simp) ?_
    simp [a1, a2]
    refine xcall_p (call49 n (-999999999999999) 999999999999999) (by simp) ?_
    simp [a3, a4, cr51]

/-- Numbers of a type. -/
def HasN (k p q n : Int) : Prop := ValidN k p q ∧ RightN k n q ∧ (k = 1 → n.natAbs < 2 ^ p.toNat) ∧ (k = 2 → n.natAbs < 10 ^ p.toNat)
theorem call33 {k p q n : Int} (h : HasN k p q n) : PCalls Bk.pg 33 [.agg (tyN k p q), .agg (vlN k n q)] fun out => out = .ret (.bool true) := by
  refine ok33.pcalls (by simp) ?_
  obtain ⟨hv, hr, h1, h2⟩ := h
  have c1 := call31 hv.1 hv.2
  have c2 := call51 hr
  obtain ⟨hk, hq⟩ := hr
  have hn : -999999999999999 ≤ n ∧ n ≤ 999999999999999 := by omega
  have wn : IntKind.i64.wrap (-n) = -n := wrap64 (by omega) (by omega)
  have hmax : (if n < -n then -n else n) = (n.natAbs : Int) := by split <;> omega
  have zk : ∀ k : Int, eqI k k = true := fun k => eqI_t.2 rfl
  have zq : (!eqI k k) = false := by rw [zk]; rfl
  simp only [tyN, ty, vlN, vl] at c1 c2
  simp [c33, tyN, ty, vlN, vl]
  refine xcall_p c1 (by simp) ?_
  simp
  refine xcall_p c2 (by simp) ?_
  obtain ⟨N, hN⟩ : ∃ N, N = n.natAbs := ⟨_, rfl⟩
  rw [← hN] at h1 h2 hmax
  simp [zk, wn, hmax]
  have hp : ∃ P : Nat, p = P ∧ 1 ≤ P ∧ P ≤ 31 := ⟨p.toNat, by have := hv.1; omega, by have := hv.1; omega, by have := hv.1; omega⟩
  obtain ⟨P, rfl, hP1, hP2⟩ := hp
  rw [Int.toNat_natCast] at h1 h2
  rcases hk with ⟨rfl, h3, h4⟩ | ⟨rfl, h3, h4⟩
  · have z1 : eqI 1 1 = true := rfl
    have hp2 : 2 ^ P ≤ 2 ^ 31 := Nat.pow_le_pow_right (by decide) hP2
    have hb : min P IntKind.i64.bits = P := Nat.min_eq_left (by simp [IntKind.bits]; omega)
    have hpn : ¬ (P : Int) < 0 := by omega
    have h1 := h1 rfl
    obtain ⟨B, hB⟩ : ∃ B : Nat, B = 2 ^ P := ⟨_, rfl⟩
    have w4 : IntKind.i64.wrap ((2 : Int) ^ P) = (B : Int) := by
      have : ((2 : Int) ^ P) = ((2 ^ P : Nat) : Int) := by simp
      rw [this, ← hB]
      exact wrap64 (by omega) (by omega)
    have hlt : ltI (N : Int) B = true := ltI_t.2 (by omega)
    simp [z1, zk, hpn]
    rw [hb, w4]
    simp [cr33, hlt]
  · have z1 : eqI 2 1 = false := rfl
    have z2 : eqI 2 2 = true := rfl
    have h2 := h2 rfl
    have hl : leI ((digs N).length : Int) P = true := leI_t.2 (by have := digs_len _ _ h2; omega)
    simp [z1, z2, zk]
    refine xdcall_p rfl (call52 N (by omega)) (by simp) ?_
    simp [cr33, hl]
end Go.Pm

/- BkC9: contracts: what is asked of numbers; zeros; numbers fitted into types. -/
namespace Go.Pm
open Go Go.Proofs
attribute [-simp] List.getElem?_map
attribute [simp] nilCheckA postA_norm

theorem call242 {k : Int} (hk : k = 1 ∨ k = 2) : PCalls Bk.pg 242 [.int .i64 k] fun out => out = .ret (.bool true) := by
  refine ok242.pcalls (by simp) ?_
  simp [c242]
  refine xcall_p (call49 k 1 3) (by simp) ?_
  have e : (leI 1 k && leI k 3) = true := by
    rw [Bool.and_eq_true]
    exact ⟨leI_t.2 (by omega), leI_t.2 (by omega)⟩
  rw [e]
  simp [cr242]

theorem call210 {k : Int} (hk : k = 1 ∨ k = 2) : PCalls Bk.pg 210 [.int .i64 k] fun out => out = .ret (.int .i64 (if k = 1 then 2 else 10)) := by
  refine ok210.pcalls (by simp) ?_
  rcases hk with rfl | rfl
  · have z1 : eqI 1 1 = true := rfl
    simp [c210, cr210, z1]
  · have z1 : eqI 2 1 = false := rfl
    have z2 : eqI 2 2 = true := rfl
    simp [c210, cr210, z1, z2]

/-- A number's zero. -/
theorem call138 {k p q : Int} (h : ValidN k p q) : PCalls Bk.pg 138 [.agg (tyN k p q)] fun out => out = .ret (.tuple [.agg (vlN k 0 q), .int .i64 0]) := by
  refine ok138.pcalls (by simp) ?_
  have c1 := call31 h.1 h.2
  have hk : k = 1 ∨ k = 2 := by have := h.1; omega
  have c2 := call210 hk
  simp only [tyN, ty] at c1
  simp [c138, tyN, ty]
  refine xcall_p c1 (by simp) ?_
  simp
  refine xcall_p c2 (by simp) ?_
  have z : ltI 0 (if k = 1 then 2 else 10) = true := by split <;> rfl
  simp [z, cr138, vlN, vl]

/-- (What is asked: a type and values that are right.) -/
theorem call160 {k p q : Int} {vs : List (Int × Int × Int)} {S : List (Nat × AObj)} {nx tp tg rp rg : Nat} (h : ValidN k p q) (hv : ∀ v ∈ vs, RightN v.1 v.2.1 v.2.2) (ht : S[tp]? = some (tg, .cells (tyN k p q))) (hr : S[rp]? = some (rg, .row 24 4 (vs.map fun v => vlN v.1 v.2.1 v.2.2))) (hl : vs.length ≤ 100) :
    ACalls Bk.pg 160 [.ptr tp tg 0, .row rp rg 4 0 vs.length] ⟨S, nx⟩ fun out m' => out = .ret (.int .i64 0) ∧ ∃ nx', m' = ⟨S, nx'⟩ := by
  refine ACalls.forget (ok160.acalls (by simp) ?_)
  simp only [vlN, vl] at hr
  have c1 := call31 h.1 h.2
  have hk : k = 1 ∨ k = 2 := by have := h.1; omega
  simp [c160]
  refine wpS_loopS (ι := Nat × Nat) (fun s => [(0, .ptr tp tg 0), (1, .row rp rg 4 0 vs.length), (9, .row rp rg 4 0 vs.length), (10, .int .i64 vs.length), (11, .int .i64 (s.1 : Nat))]) (fun s => ⟨S, s.2⟩) (fun s => vs.length - s.1) (fun s => s.1 ≤ vs.length) (0, nx) (Nat.zero_le _) (Sim.of_le (Env.le_of (by simp)) (Mem.le_of rfl (by simp))) ?_
  rintro ⟨i, n⟩ hi
  simp only at hi
  have hwi : IntKind.i64.wrap ((i : Int) + 1) = (i : Int) + 1 := wrap64 (by omega) (by omega)
  simp
  refine br_cond rfl (fun h1 => ?_) (fun h1 => ?_)
  · have hlt : i < vs.length := by have := ltI_t.1 h1; omega
    have hx := idxM (f := fun v : Int × Int × Int => vlN v.1 v.2.1 v.2.2) h1
    have c2 := call51 (hv _ (ix_mem hlt))
    obtain ⟨x, hxx⟩ : ∃ x, x = ix vs i := ⟨_, rfl⟩
    rw [← hxx] at hx c2
    simp only [vlN, vl] at c2 hx
    simp [h1, hr, hx]
    refine xcall_p c2 (by simp) ?_
    simp [hwi]
    exact ⟨i + 1, by omega, by omega, _, Sim.of_le (Env.le_of (by simp)) (Mem.le_of rfl (by simp))⟩
  · simp only [tyN, ty] at c1 ht
    have tl := (List.getElem?_eq_some_iff.1 ht).1
    simp [ht]
    refine xcall_p c1 (by simp) ?_
    simp
    refine wpS_loopS (ι := Nat × Nat) (fun s => [(0, .ptr tp tg 0), (1, .row rp rg 4 0 vs.length), (28, .row rp rg 4 0 vs.length), (29, .int .i64 vs.length), (30, .int .i64 (s.1 : Nat))]) (fun s => ⟨S, s.2⟩) (fun s => vs.length - s.1) (fun s => s.1 ≤ vs.length) (0, n) (Nat.zero_le _) (Sim.of_le (Env.le_of (by simp)) (Mem.le_of rfl (by simp))) ?_
    rintro ⟨i, n⟩ hi
    simp only at hi
    have hwi : IntKind.i64.wrap ((i : Int) + 1) = (i : Int) + 1 := wrap64 (by omega) (by omega)
    simp
    refine br_cond rfl (fun h1 => ?_) (fun h1 => ?_)
    · have hlt : i < vs.length := by have := ltI_t.1 h1; omega
      have hx := idxM (f := fun v : Int × Int × Int => vlN v.1 v.2.1 v.2.2) h1
      have hv2 := hv _ (ix_mem hlt)
      obtain ⟨x, hxx⟩ : ∃ x, x = ix vs i := ⟨_, rfl⟩
      rw [← hxx] at hx hv2
      simp only [vlN, vl] at hx
      have c3 := call242 (k := x.1) (by have := hv2.1; omega)
      simp [h1, hr, hx]
      refine xcall_p c3 (by simp) ?_
      simp [hwi]
      exact ⟨i + 1, by omega, by omega, _, Sim.of_le (Env.le_of (by simp)) (Mem.le_of rfl (by simp))⟩
    · have c4 := call242 hk
      simp [ht]
      refine xcall_p c4 (by simp) ?_
      simp [cr160, postA_ret]
      exact ⟨_, Mem.le_of rfl (by simp), _, rfl⟩

/-- What comes of a number in a type: the number, and what is raised. -/
def sgn (neg : Bool) (n : Nat) : Int := if neg then -(n : Int) else n

theorem call238 {k e wide : Int} {p q n : Nat} {neg : Bool} (h : ValidN k p q) (hn : (digs n).length ≤ 500) (he : -500 ≤ e ∧ e ≤ 500) :
    PCalls Bk.pg 238 [.agg (lg n neg e), .agg (tyN k p q), .int .i64 wide] fun out => out = .ret (.tuple [.agg (vlN k (sgn neg (fixN k p q n e)) q), .int .i64 (if fixL k p q n e then wide else 0)]) := by
  refine ok238.pcalls (by simp) ?_
  obtain ⟨hk, hq⟩ := h
  have c := call318 (k := k) (e := e) (tn := 0) (n := n) (p := p) (q := q) (neg := neg) (vary := false) (pic := ⟨#[]⟩) (by omega) (by split <;> omega) (by omega) hn he
  have z3 : eqI k 3 = false := by
    cases h : eqI k 3 with
    | false => rfl
    | true => have := eqI_t.1 h; omega
  obtain ⟨L, hL⟩ : ∃ L, L = fixL k p q n e := ⟨_, rfl⟩
  rw [← hL] at c ⊢
  simp only [lg, ty] at c
  simp [c238, lg, tyN, ty, z3]
  refine xcall_p c (by simp) ?_
  cases L <;> simp [cr238, vlN, vl, sgn]

/-- A number's long form. -/
def exN (k n q : Int) : Nat := if k = 1 then n.natAbs * 5 ^ q.toNat else n.natAbs
theorem exN_len {k n q : Int} (h : RightN k n q) : (digs (exN k n q)).length ≤ 100 := by
  have h1 : n.natAbs < 10 ^ 15 := by have := h.1; omega
  unfold exN
  split
  · have h2 : 5 ^ q.toNat < 10 ^ 85 := by
      have h3 : 5 ^ q.toNat ≤ 10 ^ q.toNat := Nat.pow_le_pow_left (by omega) _
      have h4 : 10 ^ q.toNat < 10 ^ 85 := Nat.pow_lt_pow_right (by decide) (by have := h.2; omega)
      omega
    refine digs_len 100 _ ?_
    rw [show 100 = 15 + 85 from rfl, Nat.pow_add]
    exact Nat.mul_lt_mul'' h1 h2
  · exact Nat.le_trans (digs_len 15 _ h1) (by omega)
theorem call165N {k n q : Int} (h : RightN k n q) : PCalls Bk.pg 165 [.agg (vlN k n q)] fun out => out = .ret (.agg (lg (exN k n q) (decide (n < 0)) (-q))) := by
  have := call165 (k := k) (n := n) (q := q) (s := ⟨#[]⟩) (by have := h.1; omega) (by have := h.2; omega) (fun _ => by have := h.2; omega)
  rw [if_pos (show k = 1 ∨ k = 2 by have := h.1; omega)] at this
  exact this

/-- A number fitted into a type. -/
def fitN (k n q k2 : Int) (p2 q2 : Nat) : Int := sgn (decide (n < 0)) (fixN k2 p2 q2 (exN k n q) (-q))
def fitL (k n q k2 : Int) (p2 q2 : Nat) : Bool := fixL k2 p2 q2 (exN k n q) (-q)
theorem call158 {k n q k2 : Int} {p2 q2 : Nat} (hr : RightN k n q) (hv : ValidN k2 p2 q2) :
    PCalls Bk.pg 158 [.agg (vlN k n q), .agg (tyN k2 p2 q2)] fun out => out = .ret (.tuple [.agg (vlN k2 (fitN k n q k2 p2 q2) q2), .int .i64 (if fitL k n q k2 p2 q2 then 4 else 0), .int .i64 0]) := by
  refine ok158.pcalls (by simp) ?_
  have c1 := fun (S : List (Nat × AObj)) (nx : Nat) (h1 : S[1]? = some (1, .cells (tyN k2 p2 q2))) (h2 : S[3]? = some (3, .row 24 4 [vlN k n q])) => call160 (vs := [(k, n, q)]) (S := S) (nx := nx) (tp := 1) (tg := 1) (rp := 3) (rg := 3) hv (fun v hv' => by rw [List.mem_singleton.1 hv']; exact hr) h1 h2 (by simp)
  have c2 := call165N hr
  have c3 := call238 (k := k2) (e := -q) (wide := 4) (p := p2) (q := q2) (n := exN k n q) (neg := decide (n < 0)) hv (Nat.le_trans (exN_len hr) (by omega)) (by have := hr.2; omega)
  unfold fitN fitL
  obtain ⟨x, hx⟩ : ∃ x, x = sgn (decide (n < 0)) (fixN k2 p2 q2 (exN k n q) (-q)) := ⟨_, rfl⟩
  obtain ⟨L, hL⟩ : ∃ L, L = fixL k2 p2 q2 (exN k n q) (-q) := ⟨_, rfl⟩
  rw [← hx, ← hL] at c3 ⊢
  simp only [vlN, vl, tyN, ty, List.length_singleton] at c1 c2 c3 ⊢
  simp [c158]
  refine xcall_r (c1 _ _ rfl rfl) ?_ ?_
  · rintro v m' ⟨hv', nx', rfl⟩
    cases hv'
    have z : eqI 0 0 = true := rfl
    simp [z]
    refine xdcall_p rfl c2 (by simp) ?_
    simp
    refine xdcall_p rfl c3 (by simp [lg]) ?_
    simp [cr158]
  · rintro v m' ⟨hv', _⟩
    cases hv'
end Go.Pm

/- BkC10: contracts: the rest of a division. -/
namespace Go.Pm
open Go Go.Proofs
attribute [-simp] List.getElem?_map

/-- The rest's digits, at the lower exponent. -/
def modE (q1 q2 : Int) : Int := min (-q1) (-q2)
def modX (k1 n1 q1 q2 : Int) : Nat := exN k1 n1 q1 * 10 ^ (-q1 - modE q1 q2).toNat
def modY (k2 n2 q1 q2 : Int) : Nat := exN k2 n2 q2 * 10 ^ (-q2 - modE q1 q2).toNat
def modR (X Y : Nat) (n1 n2 : Int) : Nat := if ltI 0 ↑(digs (X % Y)).length && (decide (n1 < 0) != decide (n2 < 0)) then Y - X % Y else X % Y

set_option maxHeartbeats 2000000 in
theorem call164 {k1 n1 q1 k2 n2 q2 k : Int} {p q : Nat} (hr1 : RightN k1 n1 q1) (hr2 : RightN k2 n2 q2) (hv : ValidN k p q) :
    PCalls Bk.pg 164 [.agg (vlN k1 n1 q1), .agg (vlN k2 n2 q2), .agg (tyN k p q)] fun out => out = .ret (if eqI n2 0 then .tuple [.agg (vlN k 0 q), .int .i64 9, .int .i64 0] else
      .tuple [.agg (vlN k (sgn (decide (n2 < 0)) (fixN k p q (modR (modX k1 n1 q1 q2) (modY k2 n2 q1 q2) n1 n2) (modE q1 q2))) q), .int .i64 (if fixL k p q (modR (modX k1 n1 q1 q2) (modY k2 n2 q1 q2) n1 n2) (modE q1 q2) then 4 else 0), .int .i64 0]) := by
  refine ok164.pcalls (by simp) ?_
  have c1 := fun (S : List (Nat × AObj)) (nx : Nat) (h1 : S[2]? = some (2, .cells (tyN k p q))) (h2 : S[4]? = some (4, .row 24 4 [vlN k1 n1 q1, vlN k2 n2 q2])) => call160 (vs := [(k1, n1, q1), (k2, n2, q2)]) (S := S) (nx := nx) (tp := 2) (tg := 2) (rp := 4) (rg := 4) hv (fun v hv' => by
    rcases List.mem_cons.1 hv' with rfl | hv'
    · exact hr1
    · rw [List.mem_singleton.1 hv']; exact hr2) h1 h2 (by simp)
  have cz := call138 hv
  have ca := call165N hr1
  have cb := call165N hr2
  have z : eqI 0 0 = true := rfl
  simp only [vlN, vl, tyN, ty, List.length_cons, List.length_nil, Nat.zero_add, Nat.reduceAdd] at c1 cz ca cb ⊢
  simp [c164]
  refine xcall_r (c1 _ _ rfl rfl) ?_ ?_
  rotate_left
  · rintro v m' ⟨hv', _⟩
    cases hv'
  rintro v m' ⟨hv', nx', rfl⟩
  cases hv'
  simp [z]
  refine br_cond rfl (fun h => ?_) (fun h => ?_)
  · simp
    refine xcall_p cz (by simp) ?_
    simp [cr164, h]
  · have l1 := exN_len hr1
    have l2 := exN_len hr2
    have q1b := hr1.2
    have q2b := hr2.2
    have hme : modE q1 q2 = min (-q1) (-q2) := rfl
    have cl := call251 (a := exN k1 n1 q1) (b := exN k2 n2 q2) (na := decide (n1 < 0)) (nb := decide (n2 < 0)) (ea := -q1) (eb := -q2) (by omega) (by omega) (by omega) (by omega)
    rw [← hme] at cl
    rw [show exN k1 n1 q1 * 10 ^ (-q1 - modE q1 q2).toNat = modX k1 n1 q1 q2 from rfl, show exN k2 n2 q2 * 10 ^ (-q2 - modE q1 q2).toNat = modY k2 n2 q1 q2 from rfl] at cl
    have lX : (digs (modX k1 n1 q1 q2)).length ≤ 140 := by
      refine digs_len 140 _ ?_
      unfold modX
      rw [show 140 = 100 + 40 from rfl, Nat.pow_add]
      refine Nat.mul_lt_mul'' (digs_lt l1) (Nat.pow_lt_pow_right (by decide) ?_)
      omega
    have lY : (digs (modY k2 n2 q1 q2)).length ≤ 140 := by
      refine digs_len 140 _ ?_
      unfold modY
      rw [show 140 = 100 + 40 from rfl, Nat.pow_add]
      refine Nat.mul_lt_mul'' (digs_lt l2) (Nat.pow_lt_pow_right (by decide) ?_)
      omega
    have hY0 : 0 < modY k2 n2 q1 q2 := by
      have hn : n2 ≠ 0 := fun h0 => by rw [h0] at h; cases h
      have hn' : 0 < n2.natAbs := by omega
      unfold modY exN
      refine Nat.mul_pos ?_ (Nat.pow_pos (by decide))
      split
      · exact Nat.mul_pos hn' (Nat.pow_pos (by decide))
      · exact hn'
    obtain ⟨E, hE⟩ : ∃ E, E = modE q1 q2 := ⟨_, rfl⟩
    obtain ⟨X, hX⟩ : ∃ X, X = modX k1 n1 q1 q2 := ⟨_, rfl⟩
    obtain ⟨Y, hY⟩ : ∃ Y, Y = modY k2 n2 q1 q2 := ⟨_, rfl⟩
    rw [← hX, ← hY, ← hE] at cl ⊢
    rw [← hX] at lX
    rw [← hY] at lY hY0
    have hEb : -100 ≤ E ∧ E ≤ 100 := by omega
    have hov := call252 (A := X) (B := Y) hY0 (by omega) (by omega)
    have lq : (digs (X / Y)).length ≤ 140 := digs_len 140 _ (Nat.lt_of_le_of_lt (Nat.div_le_self _ _) (digs_lt lX))
    have hpr := call169 (a := X / Y) (b := Y) (na := false) (nb := false) (ea := 0) (eb := 0) (by omega) (by omega) (by omega) (by omega)
    have hle : X / Y * Y ≤ X := Nat.div_mul_le_self X Y
    have lm : (digs (X / Y * Y)).length ≤ 140 := digs_len 140 _ (Nat.lt_of_le_of_lt hle (digs_lt lX))
    have hls := lessC (x := X) (y := X / Y * Y) hle (by omega) (by omega)
    have hmod : X - X / Y * Y = X % Y := by
      have := Nat.div_add_mod X Y
      rw [Nat.mul_comm] at this
      omega
    rw [hmod] at hls
    have hRlt := Nat.mod_lt X hY0
    have lR : (digs (X % Y)).length ≤ 140 := digs_len 140 _ (Nat.lt_trans hRlt (digs_lt lY))
    have hls2 := lessC (x := Y) (y := X % Y) (by omega) (by omega) (by omega)
    simp [h]
    refine xdcall_p rfl ca (by simp) ?_
    simp
    refine xdcall_p rfl cb (by simp) ?_
    simp
    refine xdcall_p rfl cl (by simp [lg]) ?_
    simp [lg]
    refine ⟨?_, ?_⟩
    all_goals
      refine xdcall_p rfl hov (by simp) ?_
      simp
      refine xdcall_p rfl hpr (by simp [lg]) ?_
      simp [lg]
      refine xdcall_p rfl hls (by simp) ?_
      simp
      have fin : ∀ R : Nat, R = modR X Y n1 n2 → (digs R).length ≤ 140 := by
        intro R hR
        rw [hR, modR]
        split
        · exact digs_len 140 _ (Nat.lt_of_le_of_lt (Nat.sub_le _ _) (digs_lt lY))
        · exact lR
      have hfit := call238 (k := k) (e := E) (wide := 4) (p := p) (q := q) (n := modR X Y n1 n2) (neg := decide (n2 < 0)) hv (Nat.le_trans (fin _ rfl) (by omega)) (by omega)
      obtain ⟨v, hvv⟩ : ∃ v, v = sgn (decide (n2 < 0)) (fixN k p q (modR X Y n1 n2) E) := ⟨_, rfl⟩
      obtain ⟨L, hL⟩ : ∃ L, L = fixL k p q (modR X Y n1 n2) E := ⟨_, rfl⟩
      rw [← hvv, ← hL] at hfit ⊢
      simp only [vlN, vl, tyN, ty] at hfit
      refine br_guard_t rfl (fun h5 => ?_) (fun h5 => ?_)
      · simp [h5]
        refine br_cond rfl (fun h6 => ?_) (fun h6 => ?_)
        · have hR : modR X Y n1 n2 = Y - X % Y := by simp [modR, h5]; intro h7; simp [h7] at h6
          rw [hR] at hfit
          simp
          refine xcall_p hls2 (by simp) ?_
          simp
          refine xcall_p hfit (by simp [lg]) ?_
          simp [cr164, h]
        · have hR : modR X Y n1 n2 = X % Y := by simp [modR, h5]; intro h7; exact absurd h7 (by simpa using h6)
          rw [hR] at hfit
          simp
          refine xcall_p hfit (by simp [lg]) ?_
          simp [cr164, h]
      · have hR : modR X Y n1 n2 = X % Y := by simp [modR, h5]
        rw [hR] at hfit
        simp [h5]
        refine xcall_p hfit (by simp [lg]) ?_
        simp [cr164, h]
end Go.Pm
