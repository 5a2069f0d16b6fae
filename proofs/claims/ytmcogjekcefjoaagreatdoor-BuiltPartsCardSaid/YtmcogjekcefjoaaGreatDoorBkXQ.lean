/- BkXQ: The law BuiltParts answers true at every text and number: of a string of characters a part from the first place on and the rest behind it are the string. Conditions: none beyond those that the row and its card state. -/
import Derived.Test.YtmcogjekcefjoaaGreatDoorBkXN
import Derived.Test.YtmcogjekcefjoaaGreatDoorBkXP
set_option linter.unusedSimpArgs false
set_option linter.unusedVariables false
namespace Go.Proofs.YtmcogjekcefjoaaGreatDoor.builtParts
open Go Go.Proofs Go.Pm Go.ChangeShapes Go.WideShapes Go.ChangeAt Go.RowKit
set_option linter.unusedVariables false
theorem said : Rows.BuiltPartsSaid :=
  OpenClaim.holds_of_wide 4 Tryz.f4 rfl rfl rfl rfl rfl rfl rfl ⟨rfl, rfl, rfl, rfl, rfl⟩ rfl rfl rfl rfl rfl (by kernel_rfl) Tryz.func4 facts
    (of_decide_eq_true (by kernel_rfl)) (by unfold Func.isWrapper; first | (rw [if_pos (by decide +kernel)]; kernel_rfl) | (rw [if_neg (by decide +kernel)]; exact ⟨rfl, rfl⟩))
    (fun os started H enc _ => lifted os started H enc)
theorem builtParts_holds : Rows.BuiltPartsCardSaid :=
  Claim7.holds_tied_plain_at .later [] [.data, .data, .data, .data, .sentinel, .sentinel, .pinned] true (true, "ca4d3e84a1970ec9ee2612a59ddb85b4bca2ed017e8b2268121be426dc0f7b06") true said (fun _ h => by cases h) card_wf (fun _ h => by cases h) builtParts_row_tie rfl ⟨rfl, rfl⟩ card_main rfl
    (fun f fn hf hfn => by
      obtain rfl : f = 4 := Option.some.inj (card_named.symm.trans hf) |>.symm
      obtain rfl : fn = Tryz.f4 := (Option.some.inj (Tryz.func4.symm.trans hfn)).symm
      exact ⟨card_looks, fun j t ht => by
        rw [Tryz.params4] at ht
        have hm : t ∈ [9, 3] := by simpa using Array.mem_of_getElem? ht
        exact (show Tryz.prog.wantsStandIn t = false by simpa using List.all_eq_true.1 card_want t hm)⟩)
    card_goes
#print axioms builtParts_holds
end Go.Proofs.YtmcogjekcefjoaaGreatDoor.builtParts
