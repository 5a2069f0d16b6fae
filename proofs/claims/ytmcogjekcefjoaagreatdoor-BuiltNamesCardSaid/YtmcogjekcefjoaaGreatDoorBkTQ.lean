/- BkTQ: BuiltNames: at every name the law's function returns true: built.Is, built.Arguments and built.Names tell what the reference tells. Conditions: none beyond those that the row and its card state. -/
import Derived.Test.YtmcogjekcefjoaaGreatDoorBkTN
import Derived.Test.YtmcogjekcefjoaaGreatDoorBkTP
namespace Go.Proofs.YtmcogjekcefjoaaGreatDoor.builtNames
open Go Go.Proofs Go.Pm Go.ChangeShapes Go.WideShapes Go.ChangeAt Go.RowKit
set_option linter.unusedVariables false

theorem said : Rows.BuiltNamesSaid :=
  OpenClaim.holds_of_wide 7 Tryz.f7 rfl rfl rfl rfl rfl rfl rfl ⟨rfl, rfl, rfl, rfl, rfl⟩ rfl rfl rfl rfl rfl (by kernel_rfl) Tryz.func7 facts
    (of_decide_eq_true (by kernel_rfl)) (by unfold Func.isWrapper; first | (rw [if_pos (by decide +kernel)]; kernel_rfl) | (rw [if_neg (by decide +kernel)]; exact ⟨rfl, rfl⟩))
    (fun os started H enc _ => lifted os started H enc)

theorem builtNames_holds : Rows.BuiltNamesCardSaid :=
  Claim7.holds_tied_plain_at .later [] [.data, .data, .data, .data, .sentinel, .sentinel, .pinned] true (true, "ca4d3e84a1970ec9ee2612a59ddb85b4bca2ed017e8b2268121be426dc0f7b06") true said (fun _ h => by cases h) card_wf (fun _ h => by cases h) builtNames_row_tie rfl ⟨rfl, rfl⟩ card_main rfl
    (fun f fn hf hfn => by
      obtain rfl : f = 7 := Option.some.inj (card_named.symm.trans hf) |>.symm
      obtain rfl : fn = Tryz.f7 := (Option.some.inj (Tryz.func7.symm.trans hfn)).symm
      exact ⟨card_looks, fun j t ht => by
        rw [Tryz.params7] at ht
        have hm : t ∈ [9] := by simpa using Array.mem_of_getElem? ht
        exact (show Tryz.prog.wantsStandIn t = false by simpa using List.all_eq_true.1 card_want t hm)⟩)
    card_goes
#print axioms builtNames_holds
end Go.Proofs.YtmcogjekcefjoaaGreatDoor.builtNames
