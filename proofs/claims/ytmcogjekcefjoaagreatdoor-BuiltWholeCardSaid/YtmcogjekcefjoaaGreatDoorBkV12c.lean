/- BkV12c: a round of the law of whole parts: TRUNC. -/
import Derived.Test.YtmcogjekcefjoaaGreatDoorGp
namespace Go.Pm
open Go Go.Proofs
attribute [-simp] List.getElem?_map
attribute [simp] nilCheckA postA_norm

set_option maxHeartbeats 16000000 in
theorem round6_2 {n : Int} {k nx : Nat} {fs : List Fr} {Q : Post} (hN : -1000000000000 < n ∧ n < 1000000000000) (hk : k ≤ 12) :
    wpS Bk.pg Bk.imp b6 (.loop (inv6 n k 2) :: fs) Q (e6 n k 2) ⟨m6 n k 2, nx⟩ := by
  have c17 := call17L (q := k) 2 hk
  have c9 := call9L (n := n) (q := k) 2 hN hk
  have z3 : ltI 2 3 = true := rfl
  have z : eqI 0 0 = true := rfl
  have w1 : IntKind.i64.wrap 3 = 3 := rfl
  have e15 : ((15 : Nat) : Int) = 15 := rfl
  have e0 : ((0 : Nat) : Int) = 0 := rfl
  simp only [nmW, tyN, ty, vlN, vl, rz, e15, e0] at c17 c9
  have hm : m6 n k 2 = [(0, .cells [.int .i64 2, .int .i64 15, .int .i64 (k : Nat), .int .i64 0, .bool false, .str ⟨#[]⟩]), (1, .cells [.int .i64 2, .int .i64 n, .int .i64 (k : Nat), .str ⟨#[]⟩]), (2, .cells [.int .i64 2, .int .i64 (wholeV (wayW 0) n k), .int .i64 0, .str ⟨#[]⟩, .int .i64 2, .int .i64 (wholeV (wayW 1) n k), .int .i64 0, .str ⟨#[]⟩, .int .i64 0, .int .i64 0, .int .i64 0, .str ⟨#[]⟩]), (3, .row 9 1 [[.str ⟨#[70, 76, 79, 79, 82]⟩], [.str ⟨#[67, 69, 73, 76]⟩], [.str ⟨#[84, 82, 85, 78, 67]⟩]])] := rfl
  have hm2 : m6 n k 3 = [(0, .cells [.int .i64 2, .int .i64 15, .int .i64 (k : Nat), .int .i64 0, .bool false, .str ⟨#[]⟩]), (1, .cells [.int .i64 2, .int .i64 n, .int .i64 (k : Nat), .str ⟨#[]⟩]), (2, .cells [.int .i64 2, .int .i64 (wholeV (wayW 0) n k), .int .i64 0, .str ⟨#[]⟩, .int .i64 2, .int .i64 (wholeV (wayW 1) n k), .int .i64 0, .str ⟨#[]⟩, .int .i64 2, .int .i64 (wholeV (wayW 2) n k), .int .i64 0, .str ⟨#[]⟩]), (3, .row 9 1 [[.str ⟨#[70, 76, 79, 79, 82]⟩], [.str ⟨#[67, 69, 73, 76]⟩], [.str ⟨#[84, 82, 85, 78, 67]⟩]])] := rfl
  rw [hm]
  generalize hI : inv6 n k 2 = I
  simp [b6, e6, z3]
  repeat' with_reducible refine And.intro ?_ ?_
  all_goals
    refine xdcall_p rfl c17 (by simp) ?_
    simp [z3]
  repeat' with_reducible refine And.intro ?_ ?_
  all_goals
    refine xdcall_p rfl c9 (by simp) ?_
    simp [z]
  repeat' with_reducible refine And.intro ?_ ?_
  all_goals
    rw [← hI]
    exact inv6_of (by decide) hm2 (Env.le_of (by simp [e6, w1])) (Mem.le_of rfl (by simp))
end Go.Pm
