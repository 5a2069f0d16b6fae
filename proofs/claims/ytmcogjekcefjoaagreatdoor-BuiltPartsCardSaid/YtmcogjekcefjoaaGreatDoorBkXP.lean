/- BkXP: the card's closed facts, one by one: all in one evaluation take more memory than a Lean process may have. -/
import Derived.Test.YtmcogjekcefjoaaGreatDoorBkXO
set_option linter.unusedSimpArgs false
set_option linter.unusedVariables false
namespace Go.Proofs.YtmcogjekcefjoaaGreatDoor.builtParts
open Go Go.Proofs
set_option linter.unusedVariables false
theorem card_wf : Rows.builtPartsRow.wfByText (OpenSpec.ofChange Rows.builtPartsSpec) = true := by kernel_rfl
theorem card_main : Tryz.pinned.checked.prog.mainIs = some (true, "ca4d3e84a1970ec9ee2612a59ddb85b4bca2ed017e8b2268121be426dc0f7b06".toList) := by kernel_rfl
theorem card_named : Tryz.prog.funcNamed "ironbark/ironbarklaw08.BuiltParts" = some 4 := by kernel_rfl
theorem card_looks : true = Tryz.pinned.checked.prog.looks [] := by kernel_rfl
theorem card_want : ([9, 3].all fun u => !Tryz.prog.wantsStandIn u) = true := by kernel_rfl
theorem card_goes : false = Rows.builtPartsRow.goesBy Tryz.pinned.checked.prog := by kernel_rfl
end Go.Proofs.YtmcogjekcefjoaaGreatDoor.builtParts
