/- BkV13: the plain law of whole parts; the law's function. -/
import Derived.Test.YtmcogjekcefjoaaGreatDoorBkV12a
import Derived.Test.YtmcogjekcefjoaaGreatDoorBkV12b
import Derived.Test.YtmcogjekcefjoaaGreatDoorBkV12c
namespace Go.Pm
open Go Go.Proofs
attribute [-simp] List.getElem?_map
attribute [simp] nilCheckA postA_norm

theorem tW_spec {n : Int} {q : Nat} : ∃ t r : Nat, n.natAbs = t * 10 ^ q + r ∧ r < 10 ^ q ∧ tW n q = (if n < 0 then -(t : Int) else t) ∧ (isW n q = true ↔ r = 0) := by
  refine ⟨n.natAbs / 10 ^ q, n.natAbs % 10 ^ q, ?_, Nat.mod_lt _ (Nat.pow_pos (by decide)), ?_, ?_⟩
  · have := Nat.div_add_mod n.natAbs (10 ^ q)
    rw [Nat.mul_comm] at this
    exact this.symm
  · unfold tW sgn
    by_cases h : n < 0 <;> simp [h]
  · unfold isW
    rw [decide_eq_true_eq]

/-- FLOOR is at most the number, CEIL at least, less than 1 away; whole numbers have them all alike. -/
theorem whole_law {n : Int} {q : Nat} :
    wholeV (-1) n q * (10 : Int) ^ q ≤ n ∧ n ≤ wholeV 1 n q * (10 : Int) ^ q ∧ n - wholeV (-1) n q * (10 : Int) ^ q < (10 : Int) ^ q ∧ wholeV 1 n q * (10 : Int) ^ q - n < (10 : Int) ^ q ∧
      (n.tmod ((10 : Int) ^ q) = 0 → wholeV (-1) n q = wholeV 1 n q ∧ wholeV 1 n q = wholeV 0 n q) := by
  obtain ⟨t, r, h1, h2, h3, h4⟩ := tW_spec (n := n) (q := q)
  obtain ⟨B, hB⟩ : ∃ B : Nat, B = 10 ^ q := ⟨_, rfl⟩
  have hBI : (10 : Int) ^ q = (B : Int) := by rw [hB]; exact_mod_cast rfl
  rw [← hB] at h1 h2
  rw [hBI]
  obtain ⟨M, hM⟩ : ∃ M : Nat, M = t * B := ⟨_, rfl⟩
  rw [← hM] at h1
  have hMI : (t : Int) * (B : Int) = (M : Int) := by rw [hM]; exact (Int.natCast_mul t B).symm
  have hNI : -(t : Int) * (B : Int) = -(M : Int) := by rw [Int.neg_mul, hMI]
  have e1 : ((t : Int) + 1) * (B : Int) = (M : Int) + B := by rw [Int.add_mul, hMI, Int.one_mul]
  have e2 : (-(t : Int) - 1) * (B : Int) = -(M : Int) - B := by rw [Int.sub_mul, hNI, Int.one_mul]
  have p1 : (-1 : Int) < 0 := by decide
  have p2 : ¬ (0 : Int) < -1 := by decide
  have p3 : ¬ (1 : Int) < 0 := by decide
  have p4 : (0 : Int) < 1 := by decide
  have hmod : n.tmod (B : Int) = 0 → r = 0 := fun hm => by
    have hd : (B : Int) ∣ n := Int.dvd_of_tmod_eq_zero hm
    have hd2 : B ∣ n.natAbs := by
      have := Int.natAbs_dvd_natAbs.2 hd
      simpa using this
    have hz := Nat.mod_eq_zero_of_dvd hd2
    rw [h1, hM, Nat.mul_comm, Nat.mul_add_mod, Nat.mod_eq_of_lt h2] at hz
    exact hz
  cases hw : isW n q with
  | true =>
    have hr := h4.1 hw
    have hv : ∀ way, wholeV way n q = tW n q := fun way => by unfold wholeV; rw [hw]; rfl
    rw [hv, hv, hv, h3]
    by_cases hn : n < 0
    · rw [if_pos hn, hNI]
      exact ⟨by omega, by omega, by omega, by omega, fun _ => ⟨rfl, rfl⟩⟩
    · rw [if_neg hn, hMI]
      exact ⟨by omega, by omega, by omega, by omega, fun _ => ⟨rfl, rfl⟩⟩
  | false =>
    have hr : r ≠ 0 := fun hr => by rw [h4.2 hr] at hw; cases hw
    by_cases hn : n < 0
    · have hf : wholeV (-1) n q = -(t : Int) - 1 := by unfold wholeV; rw [hw, h3]; simp [hn]
      have hc : wholeV 1 n q = -(t : Int) := by unfold wholeV; rw [hw, h3]; have : ¬ 0 < n := by omega
                                                simp [hn, this]
      rw [hf, hc, e2, hNI]
      exact ⟨by omega, by omega, by omega, by omega, fun hm => absurd (hmod hm) hr⟩
    · have hn2 : 0 < n := by omega
      have hf : wholeV (-1) n q = (t : Int) := by unfold wholeV; rw [hw, h3]; simp [hn]
      have hc : wholeV 1 n q = (t : Int) + 1 := by unfold wholeV; rw [hw, h3]; simp [hn, hn2]
      rw [hf, hc, e1, hMI]
      exact ⟨by omega, by omega, by omega, by omega, fun hm => absurd (hmod hm) hr⟩
end Go.Pm
