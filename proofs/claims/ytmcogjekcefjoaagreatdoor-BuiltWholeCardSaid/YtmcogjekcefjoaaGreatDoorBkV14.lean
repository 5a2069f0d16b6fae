/- BkV14: contracts: the law of whole parts. -/
import Derived.Test.YtmcogjekcefjoaaGreatDoorBkV13
namespace Go.Pm
open Go Go.Proofs
attribute [-simp] List.getElem?_map
attribute [simp] nilCheckA postA_norm

set_option maxHeartbeats 16000000 in
theorem call6 {n q : Int} (hn : -9223372036854775808 ≤ n ∧ n ≤ 9223372036854775807) (hq : -9223372036854775808 ≤ q ∧ q ≤ 9223372036854775807) : PCalls Bk.pg 6 [.int .i64 n, .int .i64 q] fun out => out = .ret (.bool true) := by
  refine ok6.pcalls (by simp) ?_
  have c8 := call8
  simp [c6]
  refine br_guard_f rfl (fun h1 => ?_) (fun h1 => ?_)
  · simp [h1]
    refine xcall_p c8 (by simp) ?_
    simp [cr6]
  simp [h1]
  refine br_guard_f rfl (fun h2 => ?_) (fun h2 => ?_)
  · simp [h2]
    refine xcall_p c8 (by simp) ?_
    simp [cr6]
  simp [h2]
  refine br_guard_f rfl (fun h3 => ?_) (fun h3 => ?_)
  · simp [h3]
    refine xcall_p c8 (by simp) ?_
    simp [cr6]
  simp [h3]
  refine br_cond rfl (fun h4 => ?_) (fun h4 => ?_)
  · simp
    refine xcall_p c8 (by simp) ?_
    simp [cr6]
  have r1 := leI_f.1 h1
  have r2 := leI_f.1 h2
  have r3 := ltI_f.1 h3
  have r4 := ltI_f.1 h4
  obtain ⟨k, rfl⟩ : ∃ k : Nat, q = (k : Int) := ⟨q.toNat, by omega⟩
  have hk : k ≤ 12 := by omega
  have hN : -1000000000000 < n ∧ n < 1000000000000 := ⟨by omega, by omega⟩
  simp
  refine wpS_loopS (ι := Nat × Nat) (fun s => e6 n k s.1) (fun s => ⟨m6 n k s.1, s.2⟩) (fun s => 3 - s.1) (fun s => s.1 ≤ 3) (0, 4) (by decide)
    (Sim.of_le (Env.le_of (by simp [e6])) (Mem.le_of rfl (by simp [m6, gotW, tyN, ty, vlN, vl, nmW]; rfl))) ?_
  rintro ⟨i, nx⟩ hi
  simp only at hi
  rcases (show i = 0 ∨ i = 1 ∨ i = 2 ∨ i = 3 by omega) with rfl | rfl | rfl | rfl
  · exact round6_0 hN hk
  · exact round6_1 hN hk
  · exact round6_2 hN hk
  · obtain ⟨l1, l2, l3, l4, l5⟩ := whole_law (n := n) (q := k)
    obtain ⟨A, hA⟩ : ∃ A, A = wholeV (-1) n k := ⟨_, rfl⟩
    obtain ⟨C, hC⟩ : ∃ C, C = wholeV 1 n k := ⟨_, rfl⟩
    obtain ⟨D, hD⟩ : ∃ D, D = wholeV 0 n k := ⟨_, rfl⟩
    obtain ⟨B, hB⟩ : ∃ B : Int, B = (10 : Int) ^ k := ⟨_, rfl⟩
    have z33 : ltI 3 3 = false := rfl
    have hm : m6 n k 3 = [(0, .cells [.int .i64 2, .int .i64 15, .int .i64 (k : Nat), .int .i64 0, .bool false, .str ⟨#[]⟩]), (1, .cells [.int .i64 2, .int .i64 n, .int .i64 (k : Nat), .str ⟨#[]⟩]), (2, .cells [.int .i64 2, .int .i64 A, .int .i64 0, .str ⟨#[]⟩, .int .i64 2, .int .i64 C, .int .i64 0, .str ⟨#[]⟩, .int .i64 2, .int .i64 D, .int .i64 0, .str ⟨#[]⟩]), (3, .row 9 1 [[.str (nmW 0)], [.str (nmW 1)], [.str (nmW 2)]])] := by rw [hA, hC, hD]; rfl
    have hBb : 1 ≤ B ∧ B ≤ 1000000000000 := by
      obtain ⟨b, hb⟩ : ∃ b : Nat, b = 10 ^ k := ⟨_, rfl⟩
      have e1 : B = (b : Int) := by rw [hB, hb]; exact_mod_cast rfl
      have e2 : b ≤ 10 ^ 12 := by rw [hb]; exact Nat.pow_le_pow_right (by decide) hk
      have e3 : 1 ≤ b := by rw [hb]; exact Nat.pow_pos (by decide)
      omega
    rw [hm]
    rw [← hA, ← hB] at l1 l3
    rw [← hC, ← hB] at l2 l4
    rw [← hA, ← hC, ← hD, ← hB] at l5
    simp [e6, z33]
    refine wpS_loopS (ι := Nat) (fun i => [(0, .int .i64 n), (1, .int .i64 (k : Nat)), (7, .ptr 2 2 0), (15, .int .i64 ((10 : Int) ^ i)), (16, .int .i64 (i : Nat))]) (fun _ => ⟨[(0, .cells [.int .i64 2, .int .i64 15, .int .i64 (k : Nat), .int .i64 0, .bool false, .str ⟨#[]⟩]), (1, .cells [.int .i64 2, .int .i64 n, .int .i64 (k : Nat), .str ⟨#[]⟩]), (2, .cells [.int .i64 2, .int .i64 A, .int .i64 0, .str ⟨#[]⟩, .int .i64 2, .int .i64 C, .int .i64 0, .str ⟨#[]⟩, .int .i64 2, .int .i64 D, .int .i64 0, .str ⟨#[]⟩])], nx⟩) (fun i => k - i) (fun i => i ≤ k) 0 (Nat.zero_le _)
      (Sim.of_le (Env.le_of (by simp)) (Mem.le_of rfl (by simp))) ?_
    rintro i hi
    have hwi : IntKind.i64.wrap ((i : Int) + 1) = (i : Int) + 1 := wrap64 (by omega) (by omega)
    simp
    refine br_cond rfl (fun g1 => ?_) (fun g1 => ?_)
    · have hlt : i < k := by have := ltI_t.1 g1; omega
      have e1 : (10 : Int) * 10 ^ i = 10 ^ (i + 1) := by rw [Int.pow_succ, Int.mul_comm]
      have e2 : IntKind.i64.wrap ((10 : Int) ^ (i + 1)) = (10 : Int) ^ (i + 1) := by
        obtain ⟨b, hb⟩ : ∃ b : Nat, b = 10 ^ (i + 1) := ⟨_, rfl⟩
        have e3 : (10 : Int) ^ (i + 1) = (b : Int) := by rw [hb]; exact_mod_cast rfl
        have e4 : b ≤ 10 ^ 12 := by rw [hb]; exact Nat.pow_le_pow_right (by decide) (by omega)
        rw [e3]
        exact wrap64 (by omega) (by omega)
      simp [e1, e2, hwi]
      exact ⟨i + 1, by omega, by omega, Sim.of_le (Env.le_of (by simp)) (Mem.le_refl _)⟩
    · have hik : i = k := by have := ltI_f.1 g1; omega
      subst hik
      rw [← hB]
      obtain ⟨P, hP⟩ : ∃ P, P = A * B := ⟨_, rfl⟩
      obtain ⟨R, hR⟩ : ∃ R, R = C * B := ⟨_, rfl⟩
      rw [← hP] at l1 l3
      rw [← hR] at l2 l4
      have wP : IntKind.i64.wrap (A * B) = P := by rw [← hP]; exact wrap64 (by omega) (by omega)
      have wR : IntKind.i64.wrap (C * B) = R := by rw [← hR]; exact wrap64 (by omega) (by omega)
      have w1 : IntKind.i64.wrap (n - P) = n - P := wrap64 (by omega) (by omega)
      have w2 : IntKind.i64.wrap (R - n) = R - n := wrap64 (by omega) (by omega)
      have f1 : ltI n P = false := ltI_f.2 l1
      have f2 : ltI R n = false := ltI_f.2 l2
      have f3 : leI B (n - P) = false := leI_f.2 l3
      have f4 : leI B (R - n) = false := leI_f.2 l4
      have z0 : eqI 0 0 = true := rfl
      have z2 : eqI 2 2 = true := rfl
      have zs : ((⟨#[]⟩ : ByteArray) == ⟨#[]⟩) = true := by decide
      have hB0 : B ≠ 0 := by omega
      simp [wP, wR, w1, w2, f1, f2, f3, f4, hB0]
      cases hz : eqI (n.tmod B) 0 with
      | false =>
        simp [hz]
        refine xcall_p c8 (by simp) ?_
        simp [cr6]
      | true =>
        obtain ⟨u1, u2⟩ := l5 (eqI_t.1 hz)
        subst u1
        subst u2
        have zA : eqI A A = true := eqI_t.2 rfl
        simp [hz, z0, z2, zs, zA, scalarsEq, scalarEq]
        refine xcall_p c8 (by simp) ?_
        simp [cr6]
end Go.Pm
