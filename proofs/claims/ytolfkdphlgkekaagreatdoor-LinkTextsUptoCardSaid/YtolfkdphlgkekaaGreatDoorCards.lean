/-
  DERIVED. GIVEN WITH THE SEED: THE CARDS: each row of YtolfkdphlgkekaaGreatDoorRows.lean that lists a variable, with what it lists TIED to the program's text (the seventh form; the later family's looks); each row that meets fmt, with fmt's text TOLD by the authors' own Lean function (tested against real Go, not proved from fmt's source: count such statements apart). THE CARD IS WHAT COUNTS. Prove the row's statement (the work); the ties are given (YtolfkdphlgkekaaGreatDoorTie.lean); close each card by the builder's one call (the guide's Derived/Test/ToyasCard.lean, 'card_holds'). Laid BY PROGRAM, IN A SANDBOX (cutbox-door.mjs). By AI agents, Wed Nov 11 2026. No macro, syntax, notation, axiom, sorry.
-/
import Derived.Test.YtolfkdphlgkekaaGreatDoorRows
import GoSem.ClaimSeven
namespace Go.Proofs.YtolfkdphlgkekaaGreatDoor
namespace Rows

/-- THE TIED CARD OF 'ironbarklaw34.LinkReads'. -/
def linkReadsCard : Claim7 := { stood := { row := linkReadsRow, standIns := [], harness := (true, "738a5dce71894b758405bd4981b4770e0f4ce6879ea72a98b03d11fd3b9f3bfc"), looks := true }, kinds := [], alts := [], laidByText := true, laidKinds := [.data, .data, .data, .data, .sentinel, .sentinel, .pinned], laidTests := true, laidLooks := .later }
def LinkReadsCardSaid : Prop := Claim7.holds Tryz.pinned (.plain (OpenSpec.ofChange linkReadsSpec)) linkReadsCard

/-- THE TIED CARD OF 'ironbarklaw34.LinkLoads'. -/
def linkLoadsCard : Claim7 := { stood := { row := linkLoadsRow, standIns := [], harness := (true, "738a5dce71894b758405bd4981b4770e0f4ce6879ea72a98b03d11fd3b9f3bfc"), looks := true }, kinds := [], alts := [], laidByText := true, laidKinds := [.data, .data, .data], laidTests := true, laidLooks := .later }
def LinkLoadsCardSaid : Prop := Claim7.holds Tryz.pinned (.plain (OpenSpec.ofChange linkLoadsSpec)) linkLoadsCard

/-- THE TIED CARD OF 'ironbarklaw34.LinkTexts'. -/
def linkTextsCard : Claim7 := { stood := { row := linkTextsRow, standIns := [], harness := (true, "738a5dce71894b758405bd4981b4770e0f4ce6879ea72a98b03d11fd3b9f3bfc"), looks := true }, kinds := [], alts := [], laidByText := true, laidKinds := [.data, .data, .data, .data, .sentinel, .sentinel, .pinned], laidTests := true, laidLooks := .later }
def LinkTextsCardSaid : Prop := Claim7.holds Tryz.pinned (.plain (OpenSpec.ofChange linkTextsSpec)) linkTextsCard

/-- THE SECOND FORM's CARD OF 'ironbarklaw34.LinkReads'. -/
def linkReadsUptoCard : Claim7 := { stood := { row := linkReadsUptoRow, standIns := [], harness := (true, "738a5dce71894b758405bd4981b4770e0f4ce6879ea72a98b03d11fd3b9f3bfc"), looks := true }, kinds := [], alts := [], laidByText := true, laidKinds := [.data, .data, .data, .data, .sentinel, .sentinel, .pinned], laidTests := true, laidLooks := .later }
def LinkReadsUptoCardSaid : Prop := Claim7.holds Tryz.pinned (.plain (OpenSpec.upto linkReadsSpec)) linkReadsUptoCard

/-- THE SECOND FORM's CARD OF 'ironbarklaw34.LinkLoads'. -/
def linkLoadsUptoCard : Claim7 := { stood := { row := linkLoadsUptoRow, standIns := [], harness := (true, "738a5dce71894b758405bd4981b4770e0f4ce6879ea72a98b03d11fd3b9f3bfc"), looks := true }, kinds := [], alts := [], laidByText := true, laidKinds := [.data, .data, .data], laidTests := true, laidLooks := .later }
def LinkLoadsUptoCardSaid : Prop := Claim7.holds Tryz.pinned (.plain (OpenSpec.upto linkLoadsSpec)) linkLoadsUptoCard

/-- THE SECOND FORM's CARD OF 'ironbarklaw34.LinkTexts'. -/
def linkTextsUptoCard : Claim7 := { stood := { row := linkTextsUptoRow, standIns := [], harness := (true, "738a5dce71894b758405bd4981b4770e0f4ce6879ea72a98b03d11fd3b9f3bfc"), looks := true }, kinds := [], alts := [], laidByText := true, laidKinds := [.data, .data, .data, .data, .sentinel, .sentinel, .pinned], laidTests := true, laidLooks := .later }
def LinkTextsUptoCardSaid : Prop := Claim7.holds Tryz.pinned (.plain (OpenSpec.upto linkTextsSpec)) linkTextsUptoCard
end Rows
end Go.Proofs.YtolfkdphlgkekaaGreatDoor
