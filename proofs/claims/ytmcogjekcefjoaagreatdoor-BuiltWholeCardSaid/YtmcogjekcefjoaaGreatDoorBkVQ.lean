/- BkVQ: BuiltWhole: at every number and scale the law's function returns true: FLOOR is at most a number, CEIL at least, less than 1 away, and both are TRUNC of whole ones. Conditions: none beyond those that the row and its card state. -/
import Derived.Test.YtmcogjekcefjoaaGreatDoorBkVN
import Derived.Test.YtmcogjekcefjoaaGreatDoorBkVP
namespace Go.Proofs.YtmcogjekcefjoaaGreatDoor.builtWhole
open Go Go.Proofs Go.Pm Go.ChangeShapes Go.WideShapes Go.ChangeAt Go.RowKit
set_option linter.unusedVariables false

theorem said : Rows.BuiltWholeSaid :=
  OpenClaim.holds_of_wide 6 Tryz.f6 rfl rfl rfl rfl rfl rfl rfl ⟨rfl, rfl, rfl, rfl, rfl⟩ rfl rfl rfl rfl rfl (by kernel_rfl) Tryz.func6 facts
    (of_decide_eq_true (by kernel_rfl)) (by unfold Func.isWrapper; first | (rw [if_pos (by decide +kernel)]; kernel_rfl) | (rw [if_neg (by decide +kernel)]; exact ⟨rfl, rfl⟩))
    (fun os started H enc _ => lifted os started H enc)

theorem builtWhole_holds : Rows.BuiltWholeCardSaid :=
  Claim7.holds_tied_plain_at .later [] [.data, .data, .data, .data, .sentinel, .sentinel, .pinned] true (true, "ca4d3e84a1970ec9ee2612a59ddb85b4bca2ed017e8b2268121be426dc0f7b06") true said (fun _ h => by cases h) card_wf (fun _ h => by cases h) builtWhole_row_tie rfl ⟨rfl, rfl⟩ card_main rfl
    (fun f fn hf hfn => by
      obtain rfl : f = 6 := Option.some.inj (card_named.symm.trans hf) |>.symm
      obtain rfl : fn = Tryz.f6 := (Option.some.inj (Tryz.func6.symm.trans hfn)).symm
      exact ⟨card_looks, fun j t ht => by
        rw [Tryz.params6] at ht
        have hm : t ∈ [3, 3] := by simpa using Array.mem_of_getElem? ht
        exact (show Tryz.prog.wantsStandIn t = false by simpa using List.all_eq_true.1 card_want t hm)⟩)
    card_goes
#print axioms builtWhole_holds
end Go.Proofs.YtmcogjekcefjoaaGreatDoor.builtWhole
