/- BkC6: contracts: long numbers: products, values as long numbers, two on one level. -/
import Derived.Test.YtmcogjekcefjoaaGreatDoorGc
namespace Go.Pm
open Go Go.Proofs
attribute [-simp] List.getElem?_map

/-- A long number, a value, a type. -/
def lg (n : Nat) (neg : Bool) (e : Int) : List AV := [.list true 1 (dl (digs n)), .bool neg, .int .i64 e]
def vl (k n q : Int) (s : ByteArray) : List AV := [.int .i64 k, .int .i64 n, .int .i64 q, .str s]
def ty (k p q n : Int) (vary : Bool) (pic : ByteArray) : List AV := [.int .i64 k, .int .i64 p, .int .i64 q, .int .i64 n, .bool vary, .str pic]

theorem call169 {a b : Nat} {na nb : Bool} {ea eb : Int} (ha : (digs a).length ≤ 1000) (hb : (digs b).length ≤ 1000) (he : -1000000 ≤ ea ∧ ea ≤ 1000000) (hf : -1000000 ≤ eb ∧ eb ≤ 1000000) :
    PCalls Bk.pg 169 [.agg (lg a na ea), .agg (lg b nb eb)] fun out => out = .ret (.agg (lg (a * b) (na != nb) (ea + eb))) := by
  refine ok169.pcalls (by simp [lg]) ?_
  have w1 : IntKind.i64.wrap (ea + eb) = ea + eb := wrap64 (by omega) (by omega)
  simp [c169, lg]
  refine xdcall_p rfl (times ha hb) (by simp) ?_
  simp [w1, cr169]
  cases na <;> cases nb <;> rfl

theorem call165 {k n q : Int} {s : ByteArray} (hn : -9223372036854775807 ≤ n ∧ n ≤ 9223372036854775807) (hq : -1000 ≤ q ∧ q ≤ 1000) (hk : k = 1 → 0 ≤ q ∧ q ≤ 100) :
    PCalls Bk.pg 165 [.agg (vl k n q s)] fun out => out = .ret (.agg (lg (if k = 1 then n.natAbs * 5 ^ q.toNat else n.natAbs) (decide (n < 0)) (if k = 1 ∨ k = 2 then -q else q))) := by
  refine ok165.pcalls (by simp [vl]) ?_
  have w1 : IntKind.i64.wrap (-n) = -n := wrap64 (by omega) (by omega)
  have w2 : IntKind.i64.wrap (-q) = -q := wrap64 (by omega) (by omega)
  have hmax : (if n < -n then -n else n) = (n.natAbs : Int) := by split <;> omega
  have hN : n.natAbs ≤ 9223372036854775807 := by omega
  have l1 : (digs n.natAbs).length ≤ 1000 := Nat.le_trans (digs_len 19 _ (by omega)) (by omega)
  have hneg : ltI n 0 = decide (n < 0) := rfl
  simp [c165, vl, w1]
  rw [hmax]
  refine xdcall_p rfl (call52 n.natAbs hN) (by simp) ?_
  simp
  refine br_cond rfl (fun h => ?_) (fun h => ?_)
  · have hk1 : k = 1 := eqI_t.1 h
    obtain ⟨hq0, hq1⟩ := hk hk1
    obtain ⟨u, hu⟩ : ∃ u : Nat, u = q.toNat := ⟨_, rfl⟩
    have eq : q = (u : Int) := by omega
    subst eq
    simp [hk1]
    refine xdcall_p rfl (call255 5 u (by omega) (by omega)) (by simp) ?_
    simp
    have l2 : (digs (5 ^ u)).length ≤ 1000 := Nat.le_trans (digs_le (Nat.pow_le_pow_left (by omega) u)) (by omega)
    refine xdcall_p rfl (times l1 l2) (by simp) ?_
    simp [w2, cr165, lg, hneg]
  · have hk1 : k ≠ 1 := fun h1 => by subst h1; cases h
    simp
    refine br_cond rfl (fun h2 => ?_) (fun h2 => ?_)
    · have hk2 : k = 2 := eqI_t.1 h2
      simp [w2, cr165, lg, hneg, hk2]
    · have hk2 : k ≠ 2 := fun h1 => by subst h1; cases h2
      simp [w2, cr165, lg, hneg, hk1, hk2]

/-- Closures that look into what the function holds. -/
def Bk.impT : List Go.FuncId := [2000000]
/-- ironbark/digit.level -/
def c251T : SC :=
  (.seq (.ops [⟨(some 2), .plain (.box 3), [.tmp 0], none⟩,
    ⟨(some 3), .plain (.box 3), [.tmp 1], none⟩,
    ⟨(some 4), .plain (.alloc [.nilS, (.bool false), (.int .i64 0)]), [], none⟩,
    ⟨(some 5), .plain (.alloc [.nilS, (.bool false), (.int .i64 0)]), [], none⟩] [])
  (.seq (.ops [⟨(some 8), .plain (.fieldAddr 2), [.tmp 2], none⟩,
    ⟨(some 9), .plain (.load false 1), [.tmp 8], none⟩,
    ⟨(some 10), .plain (.fieldAddr 2), [.tmp 3], none⟩,
    ⟨(some 11), .plain (.load false 1), [.tmp 10], none⟩,
    ⟨(some 12), .plain .min2, [.tmp 9, .tmp 11], none⟩,
    ⟨(some 6), .plain (.alloc [(.int .i64 0)]), [], none⟩,
    ⟨none, .plain (.store 1), [.tmp 6, .tmp 12], none⟩] [8, 9, 10, 11, 12])
  (.seq (.ops [⟨(some 13), .plain (.mkFn 323), [.tmp 6], none⟩,
    ⟨(some 7), .plain .mv, [.tmp 13], none⟩] [13])
  (.seq (.draw (.step ⟨(some 14), .plain .mv, [.tmp 7], none⟩
    (.step ⟨(some 15), .plain (.load true 3), [.tmp 2], none⟩
    (.step ⟨(some 17), .plain .mv, [.tmp 7], none⟩
    (.or (.step ⟨(some 16), .callv, [.tmp 14, .tmp 15], none⟩
    (.step ⟨(some 18), .plain (.load true 3), [.tmp 3], none⟩
    (.step ⟨(some 19), .callv, [.tmp 17, .tmp 18], none⟩
    (.step ⟨none, .plain (.store 3), [.tmp 4, .tmp 16], none⟩
    (.step ⟨none, .plain (.store 3), [.tmp 5, .tmp 19], none⟩
    .done)))))
    (.step ⟨(some 18), .plain (.load true 3), [.tmp 3], none⟩
    (.step ⟨(some 16), .callv, [.tmp 14, .tmp 15], none⟩
    (.step ⟨(some 19), .callv, [.tmp 17, .tmp 18], none⟩
    (.step ⟨none, .plain (.store 3), [.tmp 4, .tmp 16], none⟩
    (.step ⟨none, .plain (.store 3), [.tmp 5, .tmp 19], none⟩
    .done))))))))) [14, 15, 17, 16, 18, 19])
  .ret))))

theorem ok251T : FOk Bk.pg.toProgram Bk.impT 251 c251T cr251 Tryz.f251.ntmps := ⟨Tryz.f251, _, Tryz.func251, rfl, by kernel_rfl, by kernel_rfl, by kernel_rfl, rfl⟩

theorem up_digs (a n : Nat) : (if digs a = [] then [] else List.replicate n 0 ++ digs a) = digs (a * 10 ^ n) := by
  split
  · rename_i h
    have : a = 0 := by rw [← valD_digs a, h]; rfl
    subst this
    rw [Nat.zero_mul, digs_zero]
  · rename_i h
    have h0 : 0 < a := by
      rcases Nat.eq_zero_or_pos a with rfl | h0
      · exact absurd digs_zero h
      · exact h0
    induction n with
    | zero => simp
    | succ n ih =>
      have e1 : a * 10 ^ (n + 1) % 10 = 0 := by rw [Nat.pow_succ, ← Nat.mul_assoc]; omega
      have e2 : a * 10 ^ (n + 1) / 10 = a * 10 ^ n := by rw [Nat.pow_succ, ← Nat.mul_assoc]; omega
      rw [digs_pos (Nat.mul_pos h0 (Nat.pow_pos (by decide))), e1, e2, ← ih, List.replicate_succ]; rfl

/-- A number by a power of ten. -/
theorem upC {a n : Nat} (h : n + (digs a).length ≤ 140737488355327) : PCalls Bk.pg 243 [.list true 1 (dl (digs a)), .int .i64 n] fun out => out = .ret (.list true 1 (dl (digs (a * 10 ^ n)))) := by
  have := call243 (digs a) n h
  rwa [up_digs] at this

theorem cut_digs : ∀ (n a : Nat), (digs a).drop n = digs (a / 10 ^ n)
  | 0, a => by simp
  | n + 1, a => by
    rcases Nat.eq_zero_or_pos a with rfl | h
    · simp [digs_zero]
    · rw [digs_pos h, List.drop_succ_cons, cut_digs n, Nat.div_div_eq_div_mul, Nat.pow_succ, Nat.mul_comm]
theorem cutC {a n : Nat} (h : (digs a).length ≤ 140737488355327) (hn : n ≤ 140737488355327) : PCalls Bk.pg 244 [.list true 1 (dl (digs a)), .int .i64 n] fun out => out = .ret (.list true 1 (dl (digs (a / 10 ^ n)))) := by
  have := call244 (digs a) n h hn
  rwa [cut_digs] at this

theorem ACalls.forget {P : Prg} {f : FuncId} {xs : List AV} {m : Mem} {R : AOut → Mem → Prop} (h : ACalls P f xs m fun out m' => ∃ m'', Mem.le m'' m' ∧ R out m'') : ACalls P f xs m R :=
  h.sim fun out m' ⟨m'', h1, h2⟩ => ⟨out, m'', h2, SimO.forget h1⟩

/-- A long number lifted to a lower exponent. -/
theorem call323 {a : Nat} {na : Bool} {ea e : Int} {o0 o1 o2 o3 : Nat × AObj} {nx : Nat} (ha : (digs a).length ≤ 1000) (he : e ≤ ea ∧ ea - e ≤ 1000000) (h1 : -1000000 ≤ e) (h2 : ea ≤ 1000000) :
    ACalls Bk.pg 323 [.agg (lg a na ea), .ptr 4 4 0] ⟨[o0, o1, o2, o3, (4, .cells [.int .i64 e])], nx⟩ fun out m' => out = .ret (.agg (lg (a * 10 ^ (ea - e).toNat) na e)) ∧ m' = ⟨[o0, o1, o2, o3, (4, .cells [.int .i64 e])], nx + 2⟩ := by
  refine ACalls.forget (ok323.acalls (by simp [lg]) ?_)
  obtain ⟨k, hk⟩ : ∃ k : Nat, k = (ea - e).toNat := ⟨_, rfl⟩
  have w1 : IntKind.i64.wrap (ea - e) = (k : Int) := by rw [wrap64 (by omega) (by omega)]; omega
  rw [← hk]
  simp [c323, lg, w1]
  refine xcall_p (upC (a := a) (n := k) (by omega)) (by simp) ?_
  simp [cr323]
  exact Mem.le_of rfl (by simp)

theorem call251 {a b : Nat} {na nb : Bool} {ea eb : Int} (ha : (digs a).length ≤ 1000) (hb : (digs b).length ≤ 1000) (h1 : -10000 ≤ ea ∧ ea ≤ 10000) (h2 : -10000 ≤ eb ∧ eb ≤ 10000) :
    PCalls Bk.pg 251 [.agg (lg a na ea), .agg (lg b nb eb)] fun out => out = .ret (.tuple [.agg (lg (a * 10 ^ (ea - min ea eb).toNat) na (min ea eb)), .agg (lg (b * 10 ^ (eb - min ea eb).toNat) nb (min ea eb))]) := by
  refine ok251T.pcalls (by simp [lg]) ?_
  obtain ⟨e, he⟩ : ∃ e, e = min ea eb := ⟨_, rfl⟩
  have hm : (if eb < ea then eb else ea) = e := by rw [he]; split <;> omega
  rw [← he]
  simp [c251T, lg, hm]
  have ca := fun (o0 o1 o2 o3 : Nat × AObj) (nx : Nat) => call323 (a := a) (na := na) (ea := ea) (e := e) (o0 := o0) (o1 := o1) (o2 := o2) (o3 := o3) (nx := nx) ha ⟨by omega, by omega⟩ (by omega) (by omega)
  have cb := fun (o0 o1 o2 o3 : Nat × AObj) (nx : Nat) => call323 (a := b) (na := nb) (ea := eb) (e := e) (o0 := o0) (o1 := o1) (o2 := o2) (o3 := o3) (nx := nx) hb ⟨by omega, by omega⟩ (by omega) (by omega)
  refine ⟨?_, ?_⟩
  · refine xdops_callw rfl rfl (ca _ _ _ _ _) ?_
    simp
    refine xdops_callw rfl rfl (cb _ _ _ _ _) ?_
    simp [lg, cr251]
  · refine xdops_callw rfl rfl (ca _ _ _ _ _) ?_
    simp
    refine xdops_callw rfl rfl (cb _ _ _ _ _) ?_
    simp [lg, cr251]
end Go.Pm

/- BkC7: contracts: long numbers as fixed ones. -/
namespace Go.Pm
open Go Go.Proofs
attribute [-simp] List.getElem?_map

theorem lt_pow_mul {a b m n k : Nat} (h1 : a < 10 ^ m) (h2 : b < 10 ^ n) (hk : k = m + n) : a * b < 10 ^ k := by
  subst hk
  rw [Nat.pow_add]
  exact Nat.mul_lt_mul'' h1 h2

theorem and_mask (x p : Nat) (hx : x < 9223372036854775808) (hp : p ≤ 62) : binA .and (.int .i64 (x : Int)) (.int .i64 ((2 ^ p - 1 : Nat) : Int)) = some (.int .i64 ((x % 2 ^ p : Nat) : Int)) := by
  have h1 : BitVec.ofInt 64 (x : Int) = BitVec.ofNat 64 x := BitVec.ofInt_natCast 64 x
  have h2 : BitVec.ofInt 64 ((2 ^ p - 1 : Nat) : Int) = BitVec.ofNat 64 (2 ^ p - 1) := BitVec.ofInt_natCast 64 _
  have h3 : 2 ^ p ≤ 2 ^ 62 := Nat.pow_le_pow_right (by decide) hp
  have h4 : x % 2 ^ p < 2 ^ p := Nat.mod_lt _ (Nat.pow_pos (by decide))
  have h5 : (BitVec.ofInt 64 (x : Int) &&& BitVec.ofInt 64 ((2 ^ p - 1 : Nat) : Int)).toNat = x % 2 ^ p := by
    rw [h1, h2, BitVec.toNat_and, BitVec.toNat_ofNat, BitVec.toNat_ofNat, Nat.mod_eq_of_lt (a := x) (by omega), Nat.mod_eq_of_lt (a := 2 ^ p - 1) (by omega)]
    exact Nat.and_two_pow_sub_one_eq_mod x p
  show some (AV.int .i64 (IntKind.i64.wrap ((BitVec.ofInt 64 (x : Int) &&& BitVec.ofInt 64 ((2 ^ p - 1 : Nat) : Int)).toNat : Int))) = _
  rw [h5, wrap64 (by omega) (by omega)]

def a318 : SC := (.ops [⟨(some 8), .plain .mv, [.tmp 61], none⟩] [])
def b318 : SC := (.block 1
      (.draw (.step ⟨(some 62), .plain (.load false 1), [.tmp 4], none⟩
        (.step ⟨(some 63), .plain (.bin .mul), [.tmp 62, .lit (.int .i64 10)], none⟩
        (.step ⟨(some 64), .plain .mv, [.tmp 8], none⟩
        (.step ⟨(some 65), .plain (.convInt .i64), [.tmp 64], none⟩
        (.step ⟨(some 66), .plain (.bin .add), [.tmp 63, .tmp 65], none⟩
        (.step ⟨(some 67), .plain (.fieldAddr 1), [.tmp 3], none⟩
        (.step ⟨(some 68), .plain (.load false 1), [.tmp 67], none⟩
        (.step ⟨(some 69), .plain (.bin .shl), [.lit (.int .i64 1), .tmp 68], none⟩
        (.step ⟨(some 70), .plain (.bin .sub), [.tmp 69, .lit (.int .i64 1)], none⟩
        (.step ⟨(some 71), .plain (.bin .and), [.tmp 66, .tmp 70], none⟩
        (.step ⟨none, .plain (.store 1), [.tmp 4, .tmp 71], none⟩
        .done))))))))))) [62, 63, 64, 65, 66, 67, 68, 69, 70, 71]))
def e318 (b : Bool) : Env := [(2, .ptr 0 0 0), (3, .ptr 1 1 0), (4, .ptr 2 2 0), (5, .bool b), (60, .fn 356 [.ptr 3 3 0])]
def ok318r : Loop → Prop := loopOk Bk.pg.toProgram Bk.imp [61] a318 b318

theorem round318 {l : List Nat} {k n p : Nat} {o0 : Nat × AObj} {K q tn : Int} {vary : Bool} {pic : ByteArray} {b : Bool} (hk : k < l.length) (hd : Dg l) (hp : 1 ≤ p ∧ p ≤ 31) (hn : n < 2 ^ 31) :
    YCalls Bk.pg 4 4 [.int .u8 (ix l k : Nat)] ⟨[o0, (1, .cells (ty K p q tn vary pic)), (2, .cells [.int .i64 (n : Nat)]), (3, .cells [.list true 1 (dl l)]), (4, .loop .ready (e318 b) ok318r)], 5⟩ fun out m' => out = .ret (.bool true) ∧
      m' = ⟨[o0, (1, .cells (ty K p q tn vary pic)), (2, .cells [.int .i64 ((ix l k + 10 * n) % 2 ^ p : Nat)]), (3, .cells [.list true 1 (dl l)]), (4, .loop .ready (e318 b) ok318r)], 5⟩ := by
  refine ycalls_S (ps := [61]) (a := a318) (b := b318) (e := e318 b) rfl rfl ?_
  rw [show loopOk Bk.pg.toProgram Bk.imp [61] a318 b318 = ok318r from rfl]
  have hix := hd _ (ix_mem hk)
  have w1 : IntKind.i64.wrap ((ix l k : Nat) : Int) = (ix l k : Nat) := wrap64 (by omega) (by omega)
  have w2 : IntKind.i64.wrap ((n : Int) * 10) = (n : Int) * 10 := wrap64 (by omega) (by omega)
  have w3 : IntKind.i64.wrap ((n : Int) * 10 + (ix l k : Nat)) = ((ix l k + 10 * n : Nat) : Int) := by rw [wrap64 (by omega) (by omega)]; omega
  have hp2 : 2 ^ p ≤ 2 ^ 31 := Nat.pow_le_pow_right (by decide) hp.2
  have hp0 : 0 < 2 ^ p := Nat.pow_pos (by decide)
  have hb : min p IntKind.i64.bits = p := Nat.min_eq_left (by simp [IntKind.bits]; omega)
  have hpn : ¬ (p : Int) < 0 := by omega
  obtain ⟨P, hP⟩ : ∃ P : Nat, P = 2 ^ p := ⟨_, rfl⟩
  have w4 : IntKind.i64.wrap ((2 : Int) ^ p) = (P : Int) := by
    have : ((2 : Int) ^ p) = ((2 ^ p : Nat) : Int) := by simp
    rw [this, ← hP]
    exact wrap64 (by omega) (by omega)
  have w5 : IntKind.i64.wrap ((P : Int) - 1) = ((P - 1 : Nat) : Int) := by rw [wrap64 (by omega) (by omega)]; omega
  simp [a318, b318, Env.sets, e318, ty, w1, w2, w3, hpn]
  rw [hb, w4]
  have hand := and_mask (ix l k + 10 * n) p (by omega) (by omega)
  rw [← hP] at hand
  have e1 : ((ix l k + 10 * n : Nat) : Int) = ((ix l k : Nat) : Int) + 10 * (n : Int) := by omega
  rw [e1] at hand
  simp [w5, hand]
  have hPi : ((2 : Int) ^ p) = (P : Int) := by rw [hP]; simp
  rw [hPi]
  exact ⟨rfl, _, Mem.le_refl _, rfl, rfl⟩

/-- What is left of a long number in a fixed one: its whole part there, and whether that is too large. -/
def fixM (k : Int) (q n : Nat) (e : Int) : Nat :=
  if k = 1 then (if e < 0 then n * 2 ^ q / 10 ^ (-e).toNat else n * 2 ^ q * 10 ^ e.toNat)
  else (if e + q < 0 then n / 10 ^ (-(e + q)).toNat else n * 10 ^ (e + q).toNat)
def fixN (k : Int) (p q n : Nat) (e : Int) : Nat := fixM k q n e % (if k = 1 then 2 ^ p else 10 ^ p)
def fixL (k : Int) (p q n : Nat) (e : Int) : Bool := decide ((if k = 1 then 2 ^ p else 10 ^ p) ≤ fixM k q n e)

theorem drop_mod : ∀ (k : Nat) (l : List Nat) , Dg l → valD (l.take k) = valD l % 10 ^ k
  | 0, l, _ => by rw [List.take_zero, Nat.pow_zero, Nat.mod_one]; rfl
  | k + 1, [], _ => by simp [valD]
  | k + 1, d :: l, h => by
    have hd : d < 10 := h d (by simp)
    rw [List.take_succ_cons, valD, drop_mod k l fun x hx => h x (by simp [hx]), valD, Nat.pow_succ, Nat.mul_comm (10 ^ k) 10, Nat.mod_mul]
    have e1 : (d + 10 * valD l) % 10 = d := by omega
    have e2 : (d + 10 * valD l) / 10 = valD l := by omega
    rw [e1, e2]

theorem call318 {n p q : Nat} {k e tn : Int} {neg vary : Bool} {pic : ByteArray} (hk : k = 1 ∨ k = 2) (hp : 1 ≤ p ∧ p ≤ (if k = 1 then 31 else 18)) (hq : q ≤ 100) (hn : (digs n).length ≤ 500) (he : -500 ≤ e ∧ e ≤ 500) :
    PCalls Bk.pg 318 [.agg (lg n neg e), .agg (ty k p q tn vary pic)] fun out => out = .ret (.tuple [.int .i64 (if neg then -(fixN k p q n e : Int) else fixN k p q n e), .bool (fixL k p q n e)]) := by
  refine ok318.pcalls (by simp [lg, ty]) ?_
  rcases hk with rfl | rfl
  · simp only [if_true] at hp
    have z1 : eqI 1 1 = true := rfl
    have z2 : eqI 1 2 = false := rfl
    simp [c318, lg, ty, z1, z2]
    obtain ⟨M0, hM0⟩ : ∃ M0, M0 = n * 2 ^ q := ⟨_, rfl⟩
    have l2q : (digs (2 ^ q)).length ≤ 101 := Nat.le_trans (digs_le (Nat.pow_le_pow_left (by omega) q)) (by omega)
    obtain ⟨E, hE⟩ : ∃ E, E = 601 := ⟨_, rfl⟩
    have hM0l : M0 < 10 ^ E := by
      have h1 := digs_lt hn
      have h2 := digs_lt l2q
      rw [hM0]
      exact lt_pow_mul h1 h2 hE
    have ht := times (x := n) (y := 2 ^ q) (by omega) (by omega)
    rw [← hM0] at ht
    refine xcall_p (call255 2 q (by omega) (by omega)) (by simp) ?_
    simp
    refine xcall_p ht (by simp) ?_
    simp [z2]
    have hM0d := digs_len E M0 hM0l
    obtain ⟨M, hM⟩ : ∃ M, M = fixM 1 q n e := ⟨_, rfl⟩
    have hMx := hM
    simp only [fixM, if_true, ← hM0] at hMx
    have hcmp : leI 0 (cmpD (digs M) (digs (2 ^ p))) = fixL 1 p q n e := by
      rw [leI, fixL, ← hM]
      exact decide_eq_decide.2 ((cmp_sign M (2 ^ p)).1.trans (by simp))
    have h2p : (digs (2 ^ p)).length ≤ 1000 := Nat.le_trans (digs_le (Nat.pow_le_pow_left (by omega) p)) (by omega)
    have hp2 : 2 ^ p ≤ 2 ^ 31 := Nat.pow_le_pow_right (by decide) hp.2
    have hp0 : 0 < 2 ^ p := Nat.pow_pos (by decide)
    have hfin : valD (digs M) % 2 ^ p = fixN 1 p q n e := by rw [valD_digs, hM]; rfl
    have hfl : fixN 1 p q n e < 2 ^ 31 := by
      rw [← hfin]
      exact Nat.lt_of_lt_of_le (Nat.mod_lt _ hp0) hp2
    have w3 : IntKind.i64.wrap (-(fixN 1 p q n e : Nat) : Int) = -(fixN 1 p q n e : Nat) := wrap64 (by omega) (by omega)
    refine br_cond rfl (fun h1 => ?_) (fun h1 => ?_)
    · have hlt : e < 0 := ltI_t.1 h1
      obtain ⟨u, hu⟩ : ∃ u : Nat, u = (-e).toNat := ⟨_, rfl⟩
      have w2 : IntKind.i64.wrap (-e) = (u : Int) := by rw [wrap64 (by omega) (by omega)]; omega
      rw [if_pos hlt, ← hu] at hMx
      have hc := cutC (a := M0) (n := u) (by omega) (by omega)
      rw [← hMx] at hc
      have hl : (digs M).length ≤ 2000 := by
        rw [hMx]
        exact Nat.le_trans (digs_len E _ (Nat.lt_of_le_of_lt (Nat.div_le_self _ _) hM0l)) (by omega)
      simp [w2]
      refine xcall_p hc (by simp) ?_
      simp [z2]
      refine xcall_p (call255 2 p (by omega) (by omega)) (by simp) ?_
      simp
      refine xcall_p (call257 (digs M) (digs (2 ^ p)) (by omega) (by omega) (digs_dg _) (digs_dg _)) (by simp) ?_
      simp
      refine xcall_a call321 ?_
      simp
      rw [hcmp]
      refine wpS_rangeS (e318 (fixL 1 p q n e)) ⟨[(0, .cells (lg n neg e)), (1, .cells (ty 1 p q tn vary pic)), (2, .cells [.int .i64 0]), (3, .cells [.list true 1 (dl (digs M))])], 4⟩ (Sim.of_le (Env.le_of (by simp [e318])) (Mem.le_of rfl (by simp [lg, ty]))) rfl
        (call356 (pos := 4) (gen := 4) (p := 3) (g := 3) (l := digs M) (Inv := fun k m => k ≤ (digs M).length ∧ m = ⟨[(0, .cells (lg n neg e)), (1, .cells (ty 1 p q tn vary pic)), (2, .cells [.int .i64 (valD ((digs M).drop k) % 2 ^ p : Nat)]), (3, .cells [.list true 1 (dl (digs M))]), (4, .loop .ready (e318 (fixL 1 p q n e)) ok318r)], 5⟩) (by omega) ?hY ?hc ?h0) ?hr ?hp
      case hY =>
        rintro k m hk ⟨_, rfl⟩
        refine (round318 (p := p) hk (digs_dg M) ⟨by omega, by omega⟩ (Nat.lt_of_lt_of_le (Nat.mod_lt _ hp0) hp2)).mono ?_
        rintro out m' ⟨ho, rfl⟩
        have e1 : (ix (digs M) k + 10 * (valD ((digs M).drop (k + 1)) % 2 ^ p)) % 2 ^ p = valD ((digs M).drop k) % 2 ^ p := by
          rw [valD_drop hk]
          conv => lhs; rw [Nat.add_mod, Nat.mul_mod, Nat.mod_mod, ← Nat.mul_mod, ← Nat.add_mod]
        exact ⟨ho, by omega, by rw [e1]⟩
      case hc =>
        rintro k m ⟨_, rfl⟩
        rfl
      case h0 => exact ⟨Nat.le_refl _, by rw [List.drop_length]; simp [valD, Mem.new, ok318r, a318, b318]⟩
      case hr =>
        rintro v m' ⟨hv', _, rfl⟩
        refine ⟨.ready, e318 (fixL 1 p q n e), ok318r, rfl, ?_⟩
        rw [List.drop_zero, hfin]
        cases neg <;> simp [e318, lg, ty, cr318, w3]
      case hp =>
        rintro v m' ⟨hv', _⟩
        cases hv'
    · have hlt : ¬ e < 0 := by have := ltI_f.1 h1; omega
      obtain ⟨u, rfl⟩ : ∃ u : Nat, e = (u : Int) := ⟨e.toNat, by omega⟩
      rw [if_neg hlt, Int.toNat_natCast] at hMx
      have hc := upC (a := M0) (n := u) (by omega)
      rw [← hMx] at hc
      have hl : (digs M).length ≤ 2000 := by
        rw [hMx]
        refine Nat.le_trans (digs_len (E + u) _ ?_) (by omega)
        rw [Nat.pow_add]
        exact Nat.mul_lt_mul_of_pos_right hM0l (Nat.pow_pos (by decide))
      simp
      refine xcall_p hc (by simp) ?_
      simp [z2]
      refine xcall_p (call255 2 p (by omega) (by omega)) (by simp) ?_
      simp
      refine xcall_p (call257 (digs M) (digs (2 ^ p)) (by omega) (by omega) (digs_dg _) (digs_dg _)) (by simp) ?_
      simp
      refine xcall_a call321 ?_
      simp
      rw [hcmp]
      refine wpS_rangeS (e318 (fixL 1 p q n u)) ⟨[(0, .cells (lg n neg u)), (1, .cells (ty 1 p q tn vary pic)), (2, .cells [.int .i64 0]), (3, .cells [.list true 1 (dl (digs M))])], 4⟩ (Sim.of_le (Env.le_of (by simp [e318])) (Mem.le_of rfl (by simp [lg, ty]))) rfl
        (call356 (pos := 4) (gen := 4) (p := 3) (g := 3) (l := digs M) (Inv := fun k m => k ≤ (digs M).length ∧ m = ⟨[(0, .cells (lg n neg u)), (1, .cells (ty 1 p q tn vary pic)), (2, .cells [.int .i64 (valD ((digs M).drop k) % 2 ^ p : Nat)]), (3, .cells [.list true 1 (dl (digs M))]), (4, .loop .ready (e318 (fixL 1 p q n u)) ok318r)], 5⟩) (by omega) ?hY ?hc ?h0) ?hr ?hp
      case hY =>
        rintro k m hk ⟨_, rfl⟩
        refine (round318 (p := p) hk (digs_dg M) ⟨by omega, by omega⟩ (Nat.lt_of_lt_of_le (Nat.mod_lt _ hp0) hp2)).mono ?_
        rintro out m' ⟨ho, rfl⟩
        have e1 : (ix (digs M) k + 10 * (valD ((digs M).drop (k + 1)) % 2 ^ p)) % 2 ^ p = valD ((digs M).drop k) % 2 ^ p := by
          rw [valD_drop hk]
          conv => lhs; rw [Nat.add_mod, Nat.mul_mod, Nat.mod_mod, ← Nat.mul_mod, ← Nat.add_mod]
        exact ⟨ho, by omega, by rw [e1]⟩
      case hc =>
        rintro k m ⟨_, rfl⟩
        rfl
      case h0 => exact ⟨Nat.le_refl _, by rw [List.drop_length]; simp [valD, Mem.new, ok318r, a318, b318]⟩
      case hr =>
        rintro v m' ⟨hv', _, rfl⟩
        refine ⟨.ready, e318 (fixL 1 p q n u), ok318r, rfl, ?_⟩
        rw [List.drop_zero, hfin]
        cases neg <;> simp [e318, lg, ty, cr318, w3]
      case hp =>
        rintro v m' ⟨hv', _⟩
        cases hv'
  · simp only [show ¬ ((2 : Int) = 1) by decide, if_false] at hp
    have z1 : eqI 2 1 = false := rfl
    have z2 : eqI 2 2 = true := rfl
    have w1 : IntKind.i64.wrap (e + q) = e + q := wrap64 (by omega) (by omega)
    simp [c318, lg, ty, z1, z2, w1]
    obtain ⟨M, hM⟩ : ∃ M, M = fixM 2 q n e := ⟨_, rfl⟩
    have tail : (digs M).length ≤ 2000 → (ltI ↑p ↑(digs M).length = fixL 2 p q n e) ∧ PCalls Bk.pg 245 [.list true 1 (dl ((digs M).take p))] (fun out => out = .ret (.int .i64 (fixN 2 p q n e : Nat))) ∧ sliceA false true 1 [.list true 1 (dl (digs M)), .int .i64 (if p < (digs M).length then (p : Int) else (digs M).length)] = some (.list true 1 (dl ((digs M).take p))) ∧ fixN 2 p q n e < 10 ^ 18 := by
      intro hl
      have hv : valD ((digs M).take p) = fixN 2 p q n e := by
        rw [drop_mod _ _ (digs_dg M), valD_digs, hM]; rfl
      have hp18 : 10 ^ p ≤ 10 ^ 18 := Nat.pow_le_pow_right (by decide) hp.2
      have hlt : fixN 2 p q n e < 10 ^ p := Nat.mod_lt _ (Nat.pow_pos (by decide))
      refine ⟨?_, ?_, ?_, by omega⟩
      · have : (p < (digs M).length) ↔ 10 ^ p ≤ M := by
          rcases Nat.lt_or_ge M (10 ^ p) with h | h
          · have := digs_len _ _ h
            constructor <;> intro <;> omega
          · rcases Nat.lt_or_ge p (digs M).length with h2 | h2
            · constructor <;> intro <;> assumption
            · have := digs_lt h2
              omega
        rw [ltI, fixL, ← hM]
        exact decide_eq_decide.2 (by simp only [show ¬ ((2 : Int) = 1) by decide, if_false]; omega)
      · rw [← hv]
        exact call245 _ (fun d hd => digs_dg M d (List.mem_of_mem_take hd)) (by rw [hv]; omega) (by rw [List.length_take]; omega)
      · rcases Nat.lt_or_ge p (digs M).length with h | h
        · have h0 : p < (digs M).length := by omega
          have h1 : p ≤ (digs M).length := by omega
          simp [sliceA, boundsA, h0, h1, dl_take]
        · have h0 : ¬ p < (digs M).length := by omega
          simp [sliceA, boundsA, h0, dl_take]
          rw [List.take_of_length_le h]
    have hMx := hM
    simp only [fixM, show ¬ ((2 : Int) = 1) by decide, if_false] at hMx
    refine br_cond rfl (fun h1 => ?_) (fun h1 => ?_)
    · have hlt : e + q < 0 := ltI_t.1 h1
      obtain ⟨u, hu⟩ : ∃ u : Nat, u = (-(e + q)).toNat := ⟨_, rfl⟩
      have w2 : IntKind.i64.wrap (-(e + q)) = (u : Int) := by rw [wrap64 (by omega) (by omega)]; omega
      rw [if_pos hlt, ← hu] at hMx
      have hl : (digs M).length ≤ 2000 := by
        have := digs_lt hn
        rw [hMx]
        exact Nat.le_trans (digs_len 500 _ (Nat.lt_of_le_of_lt (Nat.div_le_self _ _) this)) (by omega)
      obtain ⟨t1, t2, t3, t4⟩ := tail hl
      have hc := cutC (a := n) (n := u) (by omega) (by omega)
      rw [← hMx] at hc
      simp [w2]
      refine xcall_p hc (by simp) ?_
      simp [z1, z2, t1, t3]
      refine xcall_p t2 (by simp) ?_
      have w3 : IntKind.i64.wrap (-(fixN 2 p q n e : Nat) : Int) = -(fixN 2 p q n e : Nat) := wrap64 (by omega) (by omega)
      cases neg <;> simp [cr318, w3]
    · have hlt : ¬ e + q < 0 := by have := ltI_f.1 h1; omega
      obtain ⟨u, hu⟩ : ∃ u : Nat, u = (e + q).toNat := ⟨_, rfl⟩
      have w2 : e + q = (u : Int) := by omega
      rw [if_neg hlt, ← hu] at hMx
      have hl : (digs M).length ≤ 2000 := by
        obtain ⟨E, hE⟩ : ∃ E, E = 500 := ⟨_, rfl⟩
        rw [← hE] at hn
        have h2 := digs_lt hn
        rw [hMx]
        refine Nat.le_trans (digs_len (E + u) _ ?_) (by omega)
        rw [Nat.pow_add]
        exact Nat.mul_lt_mul_of_pos_right h2 (Nat.pow_pos (by decide))
      obtain ⟨t1, t2, t3, t4⟩ := tail hl
      have hc := upC (a := n) (n := u) (by omega)
      rw [← hMx] at hc
      simp [w2]
      refine xcall_p hc (by simp) ?_
      simp [z1, z2, t1, t3]
      refine xcall_p t2 (by simp) ?_
      have w3 : IntKind.i64.wrap (-(fixN 2 p q n e : Nat) : Int) = -(fixN 2 p q n e : Nat) := wrap64 (by omega) (by omega)
      cases neg <;> simp [cr318, w3]
end Go.Pm
