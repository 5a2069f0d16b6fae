/- BkV10: contracts: the law of whole parts. -/
import Derived.Test.YtmcogjekcefjoaaGreatDoorGo
namespace Go.Pm
open Go Go.Proofs
attribute [-simp] List.getElem?_map
attribute [simp] nilCheckA postA_norm

/-- The precision of a whole part of a number of 15 digits. -/
def wP (q : Nat) : Nat := (wholeP 2 (15 : Nat) (q : Nat)).toNat
theorem wP_eq {q : Nat} (hq : q ≤ 12) : wholeP 2 (15 : Nat) (q : Nat) = (wP q : Nat) ∧ (q = 0 → wP q = 15) ∧ (1 ≤ q → wP q = 16 - q) := by
  have h2 : ¬ (2 : Int) = 1 := by decide
  unfold wP wholeP
  simp only [h2, if_false]
  split <;> split <;> omega
theorem valid6 {q : Nat} (hq : q ≤ 12) : ValidN 2 (15 : Nat) (q : Nat) := ⟨.inr ⟨rfl, by omega, by omega⟩, by omega, by omega⟩
theorem validP {q : Nat} (hq : q ≤ 12) : ValidN 2 (wP q) (0 : Nat) := by
  obtain ⟨_, h1, h2⟩ := wP_eq hq
  exact ⟨.inr ⟨rfl, by omega, by omega⟩, by omega, by omega⟩
theorem has6 {n : Int} {q : Nat} (hn : -1000000000000 < n ∧ n < 1000000000000) (hq : q ≤ 12) : HasN 2 (15 : Nat) (q : Nat) n :=
  ⟨valid6 hq, ⟨.inr ⟨rfl, by omega, by omega⟩, by omega, by omega⟩, (fun h => absurd h (by decide)), fun _ => by
    have : (10 : Nat) ^ (((15 : Nat) : Int)).toNat = 1000000000000000 := by decide
    rw [this]; omega⟩

theorem wholeV_has {way n : Int} {q : Nat} (hn : -1000000000000 < n ∧ n < 1000000000000) (hq : q ≤ 12) : HasN 2 (wP q) (0 : Nat) (wholeV way n q) := by
  refine ⟨validP hq, wholeV_right (has6 hn hq).2.1, (fun h => absurd h (by decide)), fun _ => ?_⟩
  obtain ⟨_, h1, h2⟩ := wP_eq hq
  have ha := tW_abs n q
  have hk : ((wP q : Nat) : Int).toNat = wP q := rfl
  rw [hk]
  have hle : (wholeV way n q).natAbs ≤ n.natAbs / 10 ^ q + 1 := by
    unfold wholeV
    generalize n.natAbs / 10 ^ q = T at ha ⊢
    split
    · omega
    · split
      · omega
      · split <;> omega
  have hN : n.natAbs < 10 ^ 12 := by omega
  have hdiv : n.natAbs / 10 ^ q < 10 ^ (12 - q) := by
    rw [Nat.div_lt_iff_lt_mul (Nat.pow_pos (by decide)), ← Nat.pow_add, show 12 - q + q = 12 by omega]
    exact hN
  have hP : 10 ^ (12 - q) < 10 ^ (wP q) := Nat.pow_lt_pow_right (by decide) (by omega)
  omega

/-- The three functions' names, their ways. -/
def nmW : Nat → ByteArray
  | 0 => ⟨#[70, 76, 79, 79, 82]⟩
  | 1 => ⟨#[67, 69, 73, 76]⟩
  | _ => ⟨#[84, 82, 85, 78, 67]⟩
def wayW : Nat → Int
  | 0 => -1
  | 1 => 1
  | _ => 0
theorem lkW : ∀ i, lkF tabL (nmW i) = some (1, 1, some ((70, []), (71, [.iptr true [.int .i64 (wayW i)]])))
  | 0 => lk_floor
  | 1 => lk_ceil
  | _ + 2 => lk_trunc

theorem call17L {q : Nat} (i : Nat) (hq : q ≤ 12) : PCalls Bk.pg 17 [.str (nmW i), .list false 6 [tyN 2 (15 : Nat) q], .nilS] fun out => out = .ret (.tuple [.agg (tyN 2 (wP q) (0 : Nat)), .int .i64 0]) := by
  have h := call17 (lkW i) (valid6 hq)
  rw [(wP_eq hq).1] at h
  exact h.lend rfl (Lend.cons (Lend.list (Lend.cons Lend.nil)))

theorem call9L {n : Int} {q : Nat} (i : Nat) (hn : -1000000000000 < n ∧ n < 1000000000000) (hq : q ≤ 12) :
    PCalls Bk.pg 9 [.str (nmW i), .list false 4 [vlN 2 n q], .list false 6 [tyN 2 (15 : Nat) q], .agg (tyN 2 (wP q) (0 : Nat))] fun out => out = .ret (.tuple [.agg (vlN 2 (wholeV (wayW i) n q) 0), .agg (rz 0), .int .i64 0]) := by
  have h := call9W (lkW i) (has6 hn hq) (validP hq)
  obtain ⟨f1, f2⟩ := fit_self (wholeV_has (way := wayW i) hn hq)
  have g1 : fitN 2 (wholeV (wayW i) n q) 0 2 (wP q) 0 = wholeV (wayW i) n q := f1
  have g2 : fitL 2 (wholeV (wayW i) n q) 0 2 (wP q) 0 = false := f2
  rw [g1, g2] at h
  exact h.lend rfl (Lend.cons (Lend.list (Lend.list (Lend.cons Lend.nil))))
end Go.Pm

/- BkV11: the rounds of the law of whole parts: code, states. -/
namespace Go.Pm
open Go Go.Proofs

/-- A round of the law of whole parts. -/
def b6 : SC :=
    (.seq (.seq (.ops [⟨(some 40), .plain .mv, [.tmp 9], none⟩,
      ⟨(some 41), .plain (.bin .lss), [.tmp 40, .lit (.int .i64 3)], none⟩] [40])
    (.cond (.tmp 41)
     .skip
     (.exit 0)))
    (.seq (.block 1
     (.seq (.draw (.step ⟨(some 45), .plain .mv, [.tmp 8], none⟩
       (.step ⟨(some 46), .plain .mv, [.tmp 9], none⟩
       (.step ⟨(some 47), .plain (.indexAddr 1), [.tmp 45, .tmp 46], none⟩
       (.step ⟨(some 48), .plain (.load false 1), [.tmp 47], none⟩
       (.step ⟨(some 49), .plain (.load true 6), [.tmp 5], none⟩
       (.or (.step ⟨(some 50), .plain (.buildRow 32 6 1 [(.int .i64 0), (.int .i64 0), (.int .i64 0), (.int .i64 0), (.bool false), (.str ⟨#[]⟩)] [0]), [.tmp 49], none⟩
       (.step ⟨(some 51), .call 17, [.tmp 48, .tmp 50, .lit .nilS], none⟩
       (.step ⟨(some 44), .plain .mv, [.tmp 51], none⟩
       (.step ⟨(some 52), .plain (.extract 0), [.tmp 44], none⟩
       (.step ⟨(some 53), .plain (.extract 1), [.tmp 44], none⟩
       (.step ⟨(some 10), .plain (.alloc [(.int .i64 0), (.int .i64 0), (.int .i64 0), (.int .i64 0), (.bool false), (.str ⟨#[]⟩)]), [], none⟩
       (.step ⟨none, .plain (.store 6), [.tmp 10, .tmp 52], none⟩
       (.step ⟨(some 11), .plain .mv, [.tmp 53], none⟩
       .done))))))))
       (.step ⟨(some 10), .plain (.alloc [(.int .i64 0), (.int .i64 0), (.int .i64 0), (.int .i64 0), (.bool false), (.str ⟨#[]⟩)]), [], none⟩
       (.step ⟨(some 50), .plain (.buildRow 32 6 1 [(.int .i64 0), (.int .i64 0), (.int .i64 0), (.int .i64 0), (.bool false), (.str ⟨#[]⟩)] [0]), [.tmp 49], none⟩
       (.step ⟨(some 51), .call 17, [.tmp 48, .tmp 50, .lit .nilS], none⟩
       (.step ⟨(some 44), .plain .mv, [.tmp 51], none⟩
       (.step ⟨(some 52), .plain (.extract 0), [.tmp 44], none⟩
       (.step ⟨(some 53), .plain (.extract 1), [.tmp 44], none⟩
       (.step ⟨none, .plain (.store 6), [.tmp 10, .tmp 52], none⟩
       (.step ⟨(some 11), .plain .mv, [.tmp 53], none⟩
       .done)))))))))))))) [45, 46, 47, 48, 49, 50, 51, 44, 52, 53])
     (.seq (.draw (.step ⟨(some 55), .plain .mv, [.tmp 8], none⟩
       (.step ⟨(some 56), .plain .mv, [.tmp 9], none⟩
       (.step ⟨(some 57), .plain (.indexAddr 1), [.tmp 55, .tmp 56], none⟩
       (.step ⟨(some 58), .plain (.load false 1), [.tmp 57], none⟩
       (.step ⟨(some 59), .plain (.load true 4), [.tmp 6], none⟩
       (.step ⟨(some 61), .plain (.load true 6), [.tmp 5], none⟩
       (.step ⟨(some 63), .plain (.load true 6), [.tmp 10], none⟩
       (.or (.step ⟨(some 60), .plain (.buildRow 24 4 1 [(.int .i64 0), (.int .i64 0), (.int .i64 0), (.str ⟨#[]⟩)] [0]), [.tmp 59], none⟩
       (.or (.step ⟨(some 62), .plain (.buildRow 32 6 1 [(.int .i64 0), (.int .i64 0), (.int .i64 0), (.int .i64 0), (.bool false), (.str ⟨#[]⟩)] [0]), [.tmp 61], none⟩
       (.step ⟨(some 64), .call 9, [.tmp 58, .tmp 60, .tmp 62, .tmp 63], none⟩
       (.step ⟨(some 54), .plain .mv, [.tmp 64], none⟩
       (.step ⟨(some 65), .plain (.extract 0), [.tmp 54], none⟩
       (.step ⟨(some 66), .plain (.extract 1), [.tmp 54], none⟩
       (.step ⟨(some 67), .plain (.extract 2), [.tmp 54], none⟩
       (.or (.step ⟨(some 12), .plain (.alloc [(.int .i64 0), (.int .i64 0), (.int .i64 0), (.str ⟨#[]⟩)]), [], none⟩
       (.step ⟨(some 13), .plain (.alloc [(.int .i64 0), (.str ⟨#[]⟩), (.int .i64 0), (.str ⟨#[]⟩), (.int .i64 0)]), [], none⟩
       (.step ⟨none, .plain (.store 4), [.tmp 12, .tmp 65], none⟩
       (.step ⟨none, .plain (.store 5), [.tmp 13, .tmp 66], none⟩
       (.step ⟨(some 14), .plain .mv, [.tmp 67], none⟩
       .done)))))
       (.step ⟨(some 13), .plain (.alloc [(.int .i64 0), (.str ⟨#[]⟩), (.int .i64 0), (.str ⟨#[]⟩), (.int .i64 0)]), [], none⟩
       (.step ⟨(some 12), .plain (.alloc [(.int .i64 0), (.int .i64 0), (.int .i64 0), (.str ⟨#[]⟩)]), [], none⟩
       (.step ⟨none, .plain (.store 4), [.tmp 12, .tmp 65], none⟩
       (.step ⟨none, .plain (.store 5), [.tmp 13, .tmp 66], none⟩
       (.step ⟨(some 14), .plain .mv, [.tmp 67], none⟩
       .done))))))))))))
       (.or (.step ⟨(some 12), .plain (.alloc [(.int .i64 0), (.int .i64 0), (.int .i64 0), (.str ⟨#[]⟩)]), [], none⟩
       (.or (.step ⟨(some 62), .plain (.buildRow 32 6 1 [(.int .i64 0), (.int .i64 0), (.int .i64 0), (.int .i64 0), (.bool false), (.str ⟨#[]⟩)] [0]), [.tmp 61], none⟩
       (.step ⟨(some 64), .call 9, [.tmp 58, .tmp 60, .tmp 62, .tmp 63], none⟩
       (.step ⟨(some 54), .plain .mv, [.tmp 64], none⟩
       (.step ⟨(some 65), .plain (.extract 0), [.tmp 54], none⟩
       (.step ⟨(some 66), .plain (.extract 1), [.tmp 54], none⟩
       (.step ⟨(some 67), .plain (.extract 2), [.tmp 54], none⟩
       (.step ⟨(some 13), .plain (.alloc [(.int .i64 0), (.str ⟨#[]⟩), (.int .i64 0), (.str ⟨#[]⟩), (.int .i64 0)]), [], none⟩
       (.step ⟨none, .plain (.store 4), [.tmp 12, .tmp 65], none⟩
       (.step ⟨none, .plain (.store 5), [.tmp 13, .tmp 66], none⟩
       (.step ⟨(some 14), .plain .mv, [.tmp 67], none⟩
       .done))))))))))
       (.step ⟨(some 13), .plain (.alloc [(.int .i64 0), (.str ⟨#[]⟩), (.int .i64 0), (.str ⟨#[]⟩), (.int .i64 0)]), [], none⟩
       (.step ⟨(some 62), .plain (.buildRow 32 6 1 [(.int .i64 0), (.int .i64 0), (.int .i64 0), (.int .i64 0), (.bool false), (.str ⟨#[]⟩)] [0]), [.tmp 61], none⟩
       (.step ⟨(some 64), .call 9, [.tmp 58, .tmp 60, .tmp 62, .tmp 63], none⟩
       (.step ⟨(some 54), .plain .mv, [.tmp 64], none⟩
       (.step ⟨(some 65), .plain (.extract 0), [.tmp 54], none⟩
       (.step ⟨(some 66), .plain (.extract 1), [.tmp 54], none⟩
       (.step ⟨(some 67), .plain (.extract 2), [.tmp 54], none⟩
       (.step ⟨none, .plain (.store 4), [.tmp 12, .tmp 65], none⟩
       (.step ⟨none, .plain (.store 5), [.tmp 13, .tmp 66], none⟩
       (.step ⟨(some 14), .plain .mv, [.tmp 67], none⟩
       .done))))))))))))
       (.step ⟨(some 13), .plain (.alloc [(.int .i64 0), (.str ⟨#[]⟩), (.int .i64 0), (.str ⟨#[]⟩), (.int .i64 0)]), [], none⟩
       (.or (.step ⟨(some 62), .plain (.buildRow 32 6 1 [(.int .i64 0), (.int .i64 0), (.int .i64 0), (.int .i64 0), (.bool false), (.str ⟨#[]⟩)] [0]), [.tmp 61], none⟩
       (.step ⟨(some 64), .call 9, [.tmp 58, .tmp 60, .tmp 62, .tmp 63], none⟩
       (.step ⟨(some 54), .plain .mv, [.tmp 64], none⟩
       (.step ⟨(some 65), .plain (.extract 0), [.tmp 54], none⟩
       (.step ⟨(some 66), .plain (.extract 1), [.tmp 54], none⟩
       (.step ⟨(some 67), .plain (.extract 2), [.tmp 54], none⟩
       (.step ⟨(some 12), .plain (.alloc [(.int .i64 0), (.int .i64 0), (.int .i64 0), (.str ⟨#[]⟩)]), [], none⟩
       (.step ⟨none, .plain (.store 4), [.tmp 12, .tmp 65], none⟩
       (.step ⟨none, .plain (.store 5), [.tmp 13, .tmp 66], none⟩
       (.step ⟨(some 14), .plain .mv, [.tmp 67], none⟩
       .done))))))))))
       (.step ⟨(some 12), .plain (.alloc [(.int .i64 0), (.int .i64 0), (.int .i64 0), (.str ⟨#[]⟩)]), [], none⟩
       (.step ⟨(some 62), .plain (.buildRow 32 6 1 [(.int .i64 0), (.int .i64 0), (.int .i64 0), (.int .i64 0), (.bool false), (.str ⟨#[]⟩)] [0]), [.tmp 61], none⟩
       (.step ⟨(some 64), .call 9, [.tmp 58, .tmp 60, .tmp 62, .tmp 63], none⟩
       (.step ⟨(some 54), .plain .mv, [.tmp 64], none⟩
       (.step ⟨(some 65), .plain (.extract 0), [.tmp 54], none⟩
       (.step ⟨(some 66), .plain (.extract 1), [.tmp 54], none⟩
       (.step ⟨(some 67), .plain (.extract 2), [.tmp 54], none⟩
       (.step ⟨none, .plain (.store 4), [.tmp 12, .tmp 65], none⟩
       (.step ⟨none, .plain (.store 5), [.tmp 13, .tmp 66], none⟩
       (.step ⟨(some 14), .plain .mv, [.tmp 67], none⟩
       .done)))))))))))))))
       (.or (.step ⟨(some 62), .plain (.buildRow 32 6 1 [(.int .i64 0), (.int .i64 0), (.int .i64 0), (.int .i64 0), (.bool false), (.str ⟨#[]⟩)] [0]), [.tmp 61], none⟩
       (.or (.step ⟨(some 60), .plain (.buildRow 24 4 1 [(.int .i64 0), (.int .i64 0), (.int .i64 0), (.str ⟨#[]⟩)] [0]), [.tmp 59], none⟩
       (.step ⟨(some 64), .call 9, [.tmp 58, .tmp 60, .tmp 62, .tmp 63], none⟩
       (.step ⟨(some 54), .plain .mv, [.tmp 64], none⟩
       (.step ⟨(some 65), .plain (.extract 0), [.tmp 54], none⟩
       (.step ⟨(some 66), .plain (.extract 1), [.tmp 54], none⟩
       (.step ⟨(some 67), .plain (.extract 2), [.tmp 54], none⟩
       (.or (.step ⟨(some 12), .plain (.alloc [(.int .i64 0), (.int .i64 0), (.int .i64 0), (.str ⟨#[]⟩)]), [], none⟩
       (.step ⟨(some 13), .plain (.alloc [(.int .i64 0), (.str ⟨#[]⟩), (.int .i64 0), (.str ⟨#[]⟩), (.int .i64 0)]), [], none⟩
       (.step ⟨none, .plain (.store 4), [.tmp 12, .tmp 65], none⟩
       (.step ⟨none, .plain (.store 5), [.tmp 13, .tmp 66], none⟩
       (.step ⟨(some 14), .plain .mv, [.tmp 67], none⟩
       .done)))))
       (.step ⟨(some 13), .plain (.alloc [(.int .i64 0), (.str ⟨#[]⟩), (.int .i64 0), (.str ⟨#[]⟩), (.int .i64 0)]), [], none⟩
       (.step ⟨(some 12), .plain (.alloc [(.int .i64 0), (.int .i64 0), (.int .i64 0), (.str ⟨#[]⟩)]), [], none⟩
       (.step ⟨none, .plain (.store 4), [.tmp 12, .tmp 65], none⟩
       (.step ⟨none, .plain (.store 5), [.tmp 13, .tmp 66], none⟩
       (.step ⟨(some 14), .plain .mv, [.tmp 67], none⟩
       .done))))))))))))
       (.or (.step ⟨(some 12), .plain (.alloc [(.int .i64 0), (.int .i64 0), (.int .i64 0), (.str ⟨#[]⟩)]), [], none⟩
       (.or (.step ⟨(some 60), .plain (.buildRow 24 4 1 [(.int .i64 0), (.int .i64 0), (.int .i64 0), (.str ⟨#[]⟩)] [0]), [.tmp 59], none⟩
       (.step ⟨(some 64), .call 9, [.tmp 58, .tmp 60, .tmp 62, .tmp 63], none⟩
       (.step ⟨(some 54), .plain .mv, [.tmp 64], none⟩
       (.step ⟨(some 65), .plain (.extract 0), [.tmp 54], none⟩
       (.step ⟨(some 66), .plain (.extract 1), [.tmp 54], none⟩
       (.step ⟨(some 67), .plain (.extract 2), [.tmp 54], none⟩
       (.step ⟨(some 13), .plain (.alloc [(.int .i64 0), (.str ⟨#[]⟩), (.int .i64 0), (.str ⟨#[]⟩), (.int .i64 0)]), [], none⟩
       (.step ⟨none, .plain (.store 4), [.tmp 12, .tmp 65], none⟩
       (.step ⟨none, .plain (.store 5), [.tmp 13, .tmp 66], none⟩
       (.step ⟨(some 14), .plain .mv, [.tmp 67], none⟩
       .done))))))))))
       (.step ⟨(some 13), .plain (.alloc [(.int .i64 0), (.str ⟨#[]⟩), (.int .i64 0), (.str ⟨#[]⟩), (.int .i64 0)]), [], none⟩
       (.step ⟨(some 60), .plain (.buildRow 24 4 1 [(.int .i64 0), (.int .i64 0), (.int .i64 0), (.str ⟨#[]⟩)] [0]), [.tmp 59], none⟩
       (.step ⟨(some 64), .call 9, [.tmp 58, .tmp 60, .tmp 62, .tmp 63], none⟩
       (.step ⟨(some 54), .plain .mv, [.tmp 64], none⟩
       (.step ⟨(some 65), .plain (.extract 0), [.tmp 54], none⟩
       (.step ⟨(some 66), .plain (.extract 1), [.tmp 54], none⟩
       (.step ⟨(some 67), .plain (.extract 2), [.tmp 54], none⟩
       (.step ⟨none, .plain (.store 4), [.tmp 12, .tmp 65], none⟩
       (.step ⟨none, .plain (.store 5), [.tmp 13, .tmp 66], none⟩
       (.step ⟨(some 14), .plain .mv, [.tmp 67], none⟩
       .done))))))))))))
       (.step ⟨(some 13), .plain (.alloc [(.int .i64 0), (.str ⟨#[]⟩), (.int .i64 0), (.str ⟨#[]⟩), (.int .i64 0)]), [], none⟩
       (.or (.step ⟨(some 60), .plain (.buildRow 24 4 1 [(.int .i64 0), (.int .i64 0), (.int .i64 0), (.str ⟨#[]⟩)] [0]), [.tmp 59], none⟩
       (.step ⟨(some 64), .call 9, [.tmp 58, .tmp 60, .tmp 62, .tmp 63], none⟩
       (.step ⟨(some 54), .plain .mv, [.tmp 64], none⟩
       (.step ⟨(some 65), .plain (.extract 0), [.tmp 54], none⟩
       (.step ⟨(some 66), .plain (.extract 1), [.tmp 54], none⟩
       (.step ⟨(some 67), .plain (.extract 2), [.tmp 54], none⟩
       (.step ⟨(some 12), .plain (.alloc [(.int .i64 0), (.int .i64 0), (.int .i64 0), (.str ⟨#[]⟩)]), [], none⟩
       (.step ⟨none, .plain (.store 4), [.tmp 12, .tmp 65], none⟩
       (.step ⟨none, .plain (.store 5), [.tmp 13, .tmp 66], none⟩
       (.step ⟨(some 14), .plain .mv, [.tmp 67], none⟩
       .done))))))))))
       (.step ⟨(some 12), .plain (.alloc [(.int .i64 0), (.int .i64 0), (.int .i64 0), (.str ⟨#[]⟩)]), [], none⟩
       (.step ⟨(some 60), .plain (.buildRow 24 4 1 [(.int .i64 0), (.int .i64 0), (.int .i64 0), (.str ⟨#[]⟩)] [0]), [.tmp 59], none⟩
       (.step ⟨(some 64), .call 9, [.tmp 58, .tmp 60, .tmp 62, .tmp 63], none⟩
       (.step ⟨(some 54), .plain .mv, [.tmp 64], none⟩
       (.step ⟨(some 65), .plain (.extract 0), [.tmp 54], none⟩
       (.step ⟨(some 66), .plain (.extract 1), [.tmp 54], none⟩
       (.step ⟨(some 67), .plain (.extract 2), [.tmp 54], none⟩
       (.step ⟨none, .plain (.store 4), [.tmp 12, .tmp 65], none⟩
       (.step ⟨none, .plain (.store 5), [.tmp 13, .tmp 66], none⟩
       (.step ⟨(some 14), .plain .mv, [.tmp 67], none⟩
       .done)))))))))))))))
       (.or (.step ⟨(some 12), .plain (.alloc [(.int .i64 0), (.int .i64 0), (.int .i64 0), (.str ⟨#[]⟩)]), [], none⟩
       (.or (.step ⟨(some 60), .plain (.buildRow 24 4 1 [(.int .i64 0), (.int .i64 0), (.int .i64 0), (.str ⟨#[]⟩)] [0]), [.tmp 59], none⟩
       (.or (.step ⟨(some 62), .plain (.buildRow 32 6 1 [(.int .i64 0), (.int .i64 0), (.int .i64 0), (.int .i64 0), (.bool false), (.str ⟨#[]⟩)] [0]), [.tmp 61], none⟩
       (.step ⟨(some 64), .call 9, [.tmp 58, .tmp 60, .tmp 62, .tmp 63], none⟩
       (.step ⟨(some 54), .plain .mv, [.tmp 64], none⟩
       (.step ⟨(some 65), .plain (.extract 0), [.tmp 54], none⟩
       (.step ⟨(some 66), .plain (.extract 1), [.tmp 54], none⟩
       (.step ⟨(some 67), .plain (.extract 2), [.tmp 54], none⟩
       (.step ⟨(some 13), .plain (.alloc [(.int .i64 0), (.str ⟨#[]⟩), (.int .i64 0), (.str ⟨#[]⟩), (.int .i64 0)]), [], none⟩
       (.step ⟨none, .plain (.store 4), [.tmp 12, .tmp 65], none⟩
       (.step ⟨none, .plain (.store 5), [.tmp 13, .tmp 66], none⟩
       (.step ⟨(some 14), .plain .mv, [.tmp 67], none⟩
       .done))))))))))
       (.step ⟨(some 13), .plain (.alloc [(.int .i64 0), (.str ⟨#[]⟩), (.int .i64 0), (.str ⟨#[]⟩), (.int .i64 0)]), [], none⟩
       (.step ⟨(some 62), .plain (.buildRow 32 6 1 [(.int .i64 0), (.int .i64 0), (.int .i64 0), (.int .i64 0), (.bool false), (.str ⟨#[]⟩)] [0]), [.tmp 61], none⟩
       (.step ⟨(some 64), .call 9, [.tmp 58, .tmp 60, .tmp 62, .tmp 63], none⟩
       (.step ⟨(some 54), .plain .mv, [.tmp 64], none⟩
       (.step ⟨(some 65), .plain (.extract 0), [.tmp 54], none⟩
       (.step ⟨(some 66), .plain (.extract 1), [.tmp 54], none⟩
       (.step ⟨(some 67), .plain (.extract 2), [.tmp 54], none⟩
       (.step ⟨none, .plain (.store 4), [.tmp 12, .tmp 65], none⟩
       (.step ⟨none, .plain (.store 5), [.tmp 13, .tmp 66], none⟩
       (.step ⟨(some 14), .plain .mv, [.tmp 67], none⟩
       .done))))))))))))
       (.or (.step ⟨(some 62), .plain (.buildRow 32 6 1 [(.int .i64 0), (.int .i64 0), (.int .i64 0), (.int .i64 0), (.bool false), (.str ⟨#[]⟩)] [0]), [.tmp 61], none⟩
       (.or (.step ⟨(some 60), .plain (.buildRow 24 4 1 [(.int .i64 0), (.int .i64 0), (.int .i64 0), (.str ⟨#[]⟩)] [0]), [.tmp 59], none⟩
       (.step ⟨(some 64), .call 9, [.tmp 58, .tmp 60, .tmp 62, .tmp 63], none⟩
       (.step ⟨(some 54), .plain .mv, [.tmp 64], none⟩
       (.step ⟨(some 65), .plain (.extract 0), [.tmp 54], none⟩
       (.step ⟨(some 66), .plain (.extract 1), [.tmp 54], none⟩
       (.step ⟨(some 67), .plain (.extract 2), [.tmp 54], none⟩
       (.step ⟨(some 13), .plain (.alloc [(.int .i64 0), (.str ⟨#[]⟩), (.int .i64 0), (.str ⟨#[]⟩), (.int .i64 0)]), [], none⟩
       (.step ⟨none, .plain (.store 4), [.tmp 12, .tmp 65], none⟩
       (.step ⟨none, .plain (.store 5), [.tmp 13, .tmp 66], none⟩
       (.step ⟨(some 14), .plain .mv, [.tmp 67], none⟩
       .done))))))))))
       (.step ⟨(some 13), .plain (.alloc [(.int .i64 0), (.str ⟨#[]⟩), (.int .i64 0), (.str ⟨#[]⟩), (.int .i64 0)]), [], none⟩
       (.step ⟨(some 60), .plain (.buildRow 24 4 1 [(.int .i64 0), (.int .i64 0), (.int .i64 0), (.str ⟨#[]⟩)] [0]), [.tmp 59], none⟩
       (.step ⟨(some 64), .call 9, [.tmp 58, .tmp 60, .tmp 62, .tmp 63], none⟩
       (.step ⟨(some 54), .plain .mv, [.tmp 64], none⟩
       (.step ⟨(some 65), .plain (.extract 0), [.tmp 54], none⟩
       (.step ⟨(some 66), .plain (.extract 1), [.tmp 54], none⟩
       (.step ⟨(some 67), .plain (.extract 2), [.tmp 54], none⟩
       (.step ⟨none, .plain (.store 4), [.tmp 12, .tmp 65], none⟩
       (.step ⟨none, .plain (.store 5), [.tmp 13, .tmp 66], none⟩
       (.step ⟨(some 14), .plain .mv, [.tmp 67], none⟩
       .done))))))))))))
       (.step ⟨(some 13), .plain (.alloc [(.int .i64 0), (.str ⟨#[]⟩), (.int .i64 0), (.str ⟨#[]⟩), (.int .i64 0)]), [], none⟩
       (.or (.step ⟨(some 60), .plain (.buildRow 24 4 1 [(.int .i64 0), (.int .i64 0), (.int .i64 0), (.str ⟨#[]⟩)] [0]), [.tmp 59], none⟩
       (.step ⟨(some 62), .plain (.buildRow 32 6 1 [(.int .i64 0), (.int .i64 0), (.int .i64 0), (.int .i64 0), (.bool false), (.str ⟨#[]⟩)] [0]), [.tmp 61], none⟩
       (.step ⟨(some 64), .call 9, [.tmp 58, .tmp 60, .tmp 62, .tmp 63], none⟩
       (.step ⟨(some 54), .plain .mv, [.tmp 64], none⟩
       (.step ⟨(some 65), .plain (.extract 0), [.tmp 54], none⟩
       (.step ⟨(some 66), .plain (.extract 1), [.tmp 54], none⟩
       (.step ⟨(some 67), .plain (.extract 2), [.tmp 54], none⟩
       (.step ⟨none, .plain (.store 4), [.tmp 12, .tmp 65], none⟩
       (.step ⟨none, .plain (.store 5), [.tmp 13, .tmp 66], none⟩
       (.step ⟨(some 14), .plain .mv, [.tmp 67], none⟩
       .done))))))))))
       (.step ⟨(some 62), .plain (.buildRow 32 6 1 [(.int .i64 0), (.int .i64 0), (.int .i64 0), (.int .i64 0), (.bool false), (.str ⟨#[]⟩)] [0]), [.tmp 61], none⟩
       (.step ⟨(some 60), .plain (.buildRow 24 4 1 [(.int .i64 0), (.int .i64 0), (.int .i64 0), (.str ⟨#[]⟩)] [0]), [.tmp 59], none⟩
       (.step ⟨(some 64), .call 9, [.tmp 58, .tmp 60, .tmp 62, .tmp 63], none⟩
       (.step ⟨(some 54), .plain .mv, [.tmp 64], none⟩
       (.step ⟨(some 65), .plain (.extract 0), [.tmp 54], none⟩
       (.step ⟨(some 66), .plain (.extract 1), [.tmp 54], none⟩
       (.step ⟨(some 67), .plain (.extract 2), [.tmp 54], none⟩
       (.step ⟨none, .plain (.store 4), [.tmp 12, .tmp 65], none⟩
       (.step ⟨none, .plain (.store 5), [.tmp 13, .tmp 66], none⟩
       (.step ⟨(some 14), .plain .mv, [.tmp 67], none⟩
       .done)))))))))))))))
       (.step ⟨(some 13), .plain (.alloc [(.int .i64 0), (.str ⟨#[]⟩), (.int .i64 0), (.str ⟨#[]⟩), (.int .i64 0)]), [], none⟩
       (.or (.step ⟨(some 60), .plain (.buildRow 24 4 1 [(.int .i64 0), (.int .i64 0), (.int .i64 0), (.str ⟨#[]⟩)] [0]), [.tmp 59], none⟩
       (.or (.step ⟨(some 62), .plain (.buildRow 32 6 1 [(.int .i64 0), (.int .i64 0), (.int .i64 0), (.int .i64 0), (.bool false), (.str ⟨#[]⟩)] [0]), [.tmp 61], none⟩
       (.step ⟨(some 64), .call 9, [.tmp 58, .tmp 60, .tmp 62, .tmp 63], none⟩
       (.step ⟨(some 54), .plain .mv, [.tmp 64], none⟩
       (.step ⟨(some 65), .plain (.extract 0), [.tmp 54], none⟩
       (.step ⟨(some 66), .plain (.extract 1), [.tmp 54], none⟩
       (.step ⟨(some 67), .plain (.extract 2), [.tmp 54], none⟩
       (.step ⟨(some 12), .plain (.alloc [(.int .i64 0), (.int .i64 0), (.int .i64 0), (.str ⟨#[]⟩)]), [], none⟩
       (.step ⟨none, .plain (.store 4), [.tmp 12, .tmp 65], none⟩
       (.step ⟨none, .plain (.store 5), [.tmp 13, .tmp 66], none⟩
       (.step ⟨(some 14), .plain .mv, [.tmp 67], none⟩
       .done))))))))))
       (.step ⟨(some 12), .plain (.alloc [(.int .i64 0), (.int .i64 0), (.int .i64 0), (.str ⟨#[]⟩)]), [], none⟩
       (.step ⟨(some 62), .plain (.buildRow 32 6 1 [(.int .i64 0), (.int .i64 0), (.int .i64 0), (.int .i64 0), (.bool false), (.str ⟨#[]⟩)] [0]), [.tmp 61], none⟩
       (.step ⟨(some 64), .call 9, [.tmp 58, .tmp 60, .tmp 62, .tmp 63], none⟩
       (.step ⟨(some 54), .plain .mv, [.tmp 64], none⟩
       (.step ⟨(some 65), .plain (.extract 0), [.tmp 54], none⟩
       (.step ⟨(some 66), .plain (.extract 1), [.tmp 54], none⟩
       (.step ⟨(some 67), .plain (.extract 2), [.tmp 54], none⟩
       (.step ⟨none, .plain (.store 4), [.tmp 12, .tmp 65], none⟩
       (.step ⟨none, .plain (.store 5), [.tmp 13, .tmp 66], none⟩
       (.step ⟨(some 14), .plain .mv, [.tmp 67], none⟩
       .done))))))))))))
       (.or (.step ⟨(some 62), .plain (.buildRow 32 6 1 [(.int .i64 0), (.int .i64 0), (.int .i64 0), (.int .i64 0), (.bool false), (.str ⟨#[]⟩)] [0]), [.tmp 61], none⟩
       (.or (.step ⟨(some 60), .plain (.buildRow 24 4 1 [(.int .i64 0), (.int .i64 0), (.int .i64 0), (.str ⟨#[]⟩)] [0]), [.tmp 59], none⟩
       (.step ⟨(some 64), .call 9, [.tmp 58, .tmp 60, .tmp 62, .tmp 63], none⟩
       (.step ⟨(some 54), .plain .mv, [.tmp 64], none⟩
       (.step ⟨(some 65), .plain (.extract 0), [.tmp 54], none⟩
       (.step ⟨(some 66), .plain (.extract 1), [.tmp 54], none⟩
       (.step ⟨(some 67), .plain (.extract 2), [.tmp 54], none⟩
       (.step ⟨(some 12), .plain (.alloc [(.int .i64 0), (.int .i64 0), (.int .i64 0), (.str ⟨#[]⟩)]), [], none⟩
       (.step ⟨none, .plain (.store 4), [.tmp 12, .tmp 65], none⟩
       (.step ⟨none, .plain (.store 5), [.tmp 13, .tmp 66], none⟩
       (.step ⟨(some 14), .plain .mv, [.tmp 67], none⟩
       .done))))))))))
       (.step ⟨(some 12), .plain (.alloc [(.int .i64 0), (.int .i64 0), (.int .i64 0), (.str ⟨#[]⟩)]), [], none⟩
       (.step ⟨(some 60), .plain (.buildRow 24 4 1 [(.int .i64 0), (.int .i64 0), (.int .i64 0), (.str ⟨#[]⟩)] [0]), [.tmp 59], none⟩
       (.step ⟨(some 64), .call 9, [.tmp 58, .tmp 60, .tmp 62, .tmp 63], none⟩
       (.step ⟨(some 54), .plain .mv, [.tmp 64], none⟩
       (.step ⟨(some 65), .plain (.extract 0), [.tmp 54], none⟩
       (.step ⟨(some 66), .plain (.extract 1), [.tmp 54], none⟩
       (.step ⟨(some 67), .plain (.extract 2), [.tmp 54], none⟩
       (.step ⟨none, .plain (.store 4), [.tmp 12, .tmp 65], none⟩
       (.step ⟨none, .plain (.store 5), [.tmp 13, .tmp 66], none⟩
       (.step ⟨(some 14), .plain .mv, [.tmp 67], none⟩
       .done))))))))))))
       (.step ⟨(some 12), .plain (.alloc [(.int .i64 0), (.int .i64 0), (.int .i64 0), (.str ⟨#[]⟩)]), [], none⟩
       (.or (.step ⟨(some 60), .plain (.buildRow 24 4 1 [(.int .i64 0), (.int .i64 0), (.int .i64 0), (.str ⟨#[]⟩)] [0]), [.tmp 59], none⟩
       (.step ⟨(some 62), .plain (.buildRow 32 6 1 [(.int .i64 0), (.int .i64 0), (.int .i64 0), (.int .i64 0), (.bool false), (.str ⟨#[]⟩)] [0]), [.tmp 61], none⟩
       (.step ⟨(some 64), .call 9, [.tmp 58, .tmp 60, .tmp 62, .tmp 63], none⟩
       (.step ⟨(some 54), .plain .mv, [.tmp 64], none⟩
       (.step ⟨(some 65), .plain (.extract 0), [.tmp 54], none⟩
       (.step ⟨(some 66), .plain (.extract 1), [.tmp 54], none⟩
       (.step ⟨(some 67), .plain (.extract 2), [.tmp 54], none⟩
       (.step ⟨none, .plain (.store 4), [.tmp 12, .tmp 65], none⟩
       (.step ⟨none, .plain (.store 5), [.tmp 13, .tmp 66], none⟩
       (.step ⟨(some 14), .plain .mv, [.tmp 67], none⟩
       .done))))))))))
       (.step ⟨(some 62), .plain (.buildRow 32 6 1 [(.int .i64 0), (.int .i64 0), (.int .i64 0), (.int .i64 0), (.bool false), (.str ⟨#[]⟩)] [0]), [.tmp 61], none⟩
       (.step ⟨(some 60), .plain (.buildRow 24 4 1 [(.int .i64 0), (.int .i64 0), (.int .i64 0), (.str ⟨#[]⟩)] [0]), [.tmp 59], none⟩
       (.step ⟨(some 64), .call 9, [.tmp 58, .tmp 60, .tmp 62, .tmp 63], none⟩
       (.step ⟨(some 54), .plain .mv, [.tmp 64], none⟩
       (.step ⟨(some 65), .plain (.extract 0), [.tmp 54], none⟩
       (.step ⟨(some 66), .plain (.extract 1), [.tmp 54], none⟩
       (.step ⟨(some 67), .plain (.extract 2), [.tmp 54], none⟩
       (.step ⟨none, .plain (.store 4), [.tmp 12, .tmp 65], none⟩
       (.step ⟨none, .plain (.store 5), [.tmp 13, .tmp 66], none⟩
       (.step ⟨(some 14), .plain .mv, [.tmp 67], none⟩
       .done))))))))))))))))))))))))) [55, 56, 57, 58, 59, 61, 63, 60, 62, 64, 54, 65, 66, 67])
     (.seq (.seq (.ops [⟨(some 68), .plain .mv, [.tmp 11], none⟩,
       ⟨(some 69), .plain (.bin .neq), [.tmp 68, .lit (.int .i64 0)], none⟩,
       ⟨(some 70), .plain .mv, [.tmp 69], none⟩,
       ⟨(some 71), .plain .mv, [.tmp 14], (some (70, false))⟩,
       ⟨(some 72), .plain (.bin .neq), [.tmp 71, .lit (.int .i64 0)], (some (70, false))⟩,
       ⟨(some 73), .plain .pick, [.tmp 70, .lit (.bool true), .tmp 72], none⟩,
       ⟨(some 74), .plain .mv, [.tmp 73], none⟩,
       ⟨(some 75), .plain (.fieldAddr 0), [.tmp 13], (some (74, false))⟩,
       ⟨(some 76), .plain (.load false 1), [.tmp 75], (some (74, false))⟩,
       ⟨(some 77), .plain (.bin .neq), [.tmp 76, .lit (.int .i64 0)], (some (74, false))⟩,
       ⟨(some 78), .plain .pick, [.tmp 74, .lit (.bool true), .tmp 77], none⟩,
       ⟨(some 79), .plain .mv, [.tmp 78], none⟩,
       ⟨(some 80), .plain (.fieldAddr 2), [.tmp 12], (some (79, false))⟩,
       ⟨(some 81), .plain (.load false 1), [.tmp 80], (some (79, false))⟩,
       ⟨(some 82), .plain (.bin .neq), [.tmp 81, .lit (.int .i64 0)], (some (79, false))⟩,
       ⟨(some 83), .plain .pick, [.tmp 79, .lit (.bool true), .tmp 82], none⟩] [68, 69, 70, 71, 72, 73, 74, 75, 76, 77, 78, 79, 80, 81, 82])
     (.cond (.tmp 83)
      (.seq (.ops [⟨(some 4), .plain .mv, [.lit (.bool false)], none⟩] [])
      .ret)
      .skip))
     (.ops [⟨(some 84), .plain .mv, [.tmp 9], none⟩,
       ⟨(some 85), .plain (.load true 4), [.tmp 12], none⟩,
       ⟨(some 86), .plain (.indexArr 3 4), [.tmp 7, .tmp 84], none⟩,
       ⟨none, .plain (.store 4), [.tmp 86, .tmp 85], none⟩] [84, 85, 86])))))
    (.ops [⟨(some 42), .plain .mv, [.tmp 9], none⟩,
      ⟨(some 43), .plain (.bin .add), [.tmp 42, .lit (.int .i64 1)], none⟩,
      ⟨(some 9), .plain .mv, [.tmp 43], none⟩] [42, 43])))

/-- What was told so far. -/
def gotW (n : Int) (q i : Nat) : List AV :=
  (if 0 < i then vlN 2 (wholeV (wayW 0) n q) 0 else vl 0 0 0 ⟨#[]⟩) ++ (if 1 < i then vlN 2 (wholeV (wayW 1) n q) 0 else vl 0 0 0 ⟨#[]⟩) ++ (if 2 < i then vlN 2 (wholeV (wayW 2) n q) 0 else vl 0 0 0 ⟨#[]⟩)
def m6 (n : Int) (q i : Nat) : List (Nat × AObj) :=
  [(0, .cells (tyN 2 (15 : Nat) q)), (1, .cells (vlN 2 n q)), (2, .cells (gotW n q i)), (3, .row 9 1 [[.str (nmW 0)], [.str (nmW 1)], [.str (nmW 2)]])]
def e6 (n : Int) (k i : Nat) : Env := [(0, .int .i64 n), (1, .int .i64 (k : Nat)), (5, .ptr 0 0 0), (6, .ptr 1 1 0), (7, .ptr 2 2 0), (8, .row 3 3 1 0 3), (9, .int .i64 (i : Nat))]
/-- Behind a round. -/
def inv6 (n : Int) (k i : Nat) (e : Env) (m : Mem) : Prop := ∃ s' : Nat × Nat, s'.1 ≤ 3 ∧ 3 - s'.1 < 3 - i ∧ Sim (e6 n k s'.1) ⟨m6 n k s'.1, s'.2⟩ e m
theorem inv6_of {n : Int} {k i : Nat} {e : Env} {m : Mem} {M : List (Nat × AObj)} (h : i < 3) (hM : m6 n k (i + 1) = M) (he : Env.le (e6 n k (i + 1)) e) (hm : Mem.le ⟨M, m.next⟩ m) : inv6 n k i e m :=
  ⟨(i + 1, m.next), by simp only; omega, by simp only; omega, by simp only; rw [hM]; exact Sim.of_le he hm⟩
end Go.Pm
