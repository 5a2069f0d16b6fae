/-
  DERIVED. GIVEN WITH THE SEED: THE CARDS: each row of YtmcogjekcefjoaaGreatDoorRows.lean that lists a variable, with what it lists TIED to the program's text (the seventh form; the later family's looks); each row that meets fmt, with fmt's text TOLD by the authors' own Lean function (tested against real Go, not proved from fmt's source: count such statements apart). THE CARD IS WHAT COUNTS. Prove the row's statement (the work); the ties are given (YtmcogjekcefjoaaGreatDoorTie.lean); close each card by the builder's one call (the guide's Derived/Test/ToyasCard.lean, 'card_holds'). Laid BY PROGRAM, IN A SANDBOX (cutbox-door.mjs). By AI agents, Wed Nov 11 2026. No macro, syntax, notation, axiom, sorry.
-/
import Derived.Test.YtmcogjekcefjoaaGreatDoorRows
import GoSem.ClaimSeven
namespace Go.Proofs.YtmcogjekcefjoaaGreatDoor
namespace Rows

/-- THE TIED CARD OF 'ironbarklaw08.BuiltMod'. -/
def builtModCard : Claim7 := { stood := { row := builtModRow, standIns := [], harness := (true, "ca4d3e84a1970ec9ee2612a59ddb85b4bca2ed017e8b2268121be426dc0f7b06"), looks := true }, kinds := [], alts := [], laidByText := true, laidKinds := [.data, .data, .data, .data, .sentinel, .sentinel, .pinned], laidTests := true, laidLooks := .later }
def BuiltModCardSaid : Prop := Claim7.holds Tryz.pinned (.plain (OpenSpec.ofChange builtModSpec)) builtModCard

/-- THE TIED CARD OF 'ironbarklaw08.BuiltParts'. -/
def builtPartsCard : Claim7 := { stood := { row := builtPartsRow, standIns := [], harness := (true, "ca4d3e84a1970ec9ee2612a59ddb85b4bca2ed017e8b2268121be426dc0f7b06"), looks := true }, kinds := [], alts := [], laidByText := true, laidKinds := [.data, .data, .data, .data, .sentinel, .sentinel, .pinned], laidTests := true, laidLooks := .later }
def BuiltPartsCardSaid : Prop := Claim7.holds Tryz.pinned (.plain (OpenSpec.ofChange builtPartsSpec)) builtPartsCard

/-- THE TIED CARD OF 'ironbarklaw08.BuiltResult'. -/
def builtResultCard : Claim7 := { stood := { row := builtResultRow, standIns := [], harness := (true, "ca4d3e84a1970ec9ee2612a59ddb85b4bca2ed017e8b2268121be426dc0f7b06"), looks := true }, kinds := [], alts := [], laidByText := true, laidKinds := [.data, .data, .data, .data, .sentinel, .sentinel, .pinned], laidTests := true, laidLooks := .later }
def BuiltResultCardSaid : Prop := Claim7.holds Tryz.pinned (.plain (OpenSpec.ofChange builtResultSpec)) builtResultCard

/-- THE TIED CARD OF 'ironbarklaw08.BuiltWhole'. -/
def builtWholeCard : Claim7 := { stood := { row := builtWholeRow, standIns := [], harness := (true, "ca4d3e84a1970ec9ee2612a59ddb85b4bca2ed017e8b2268121be426dc0f7b06"), looks := true }, kinds := [], alts := [], laidByText := true, laidKinds := [.data, .data, .data, .data, .sentinel, .sentinel, .pinned], laidTests := true, laidLooks := .later }
def BuiltWholeCardSaid : Prop := Claim7.holds Tryz.pinned (.plain (OpenSpec.ofChange builtWholeSpec)) builtWholeCard

/-- THE TIED CARD OF 'ironbarklaw08.BuiltNames'. -/
def builtNamesCard : Claim7 := { stood := { row := builtNamesRow, standIns := [], harness := (true, "ca4d3e84a1970ec9ee2612a59ddb85b4bca2ed017e8b2268121be426dc0f7b06"), looks := true }, kinds := [], alts := [], laidByText := true, laidKinds := [.data, .data, .data, .data, .sentinel, .sentinel, .pinned], laidTests := true, laidLooks := .later }
def BuiltNamesCardSaid : Prop := Claim7.holds Tryz.pinned (.plain (OpenSpec.ofChange builtNamesSpec)) builtNamesCard

/-- THE SECOND FORM's CARD OF 'ironbarklaw08.BuiltMod'. -/
def builtModUptoCard : Claim7 := { stood := { row := builtModUptoRow, standIns := [], harness := (true, "ca4d3e84a1970ec9ee2612a59ddb85b4bca2ed017e8b2268121be426dc0f7b06"), looks := true }, kinds := [], alts := [], laidByText := true, laidKinds := [.data, .data, .data, .data, .sentinel, .sentinel, .pinned], laidTests := true, laidLooks := .later }
def BuiltModUptoCardSaid : Prop := Claim7.holds Tryz.pinned (.plain (OpenSpec.upto builtModSpec)) builtModUptoCard

/-- THE SECOND FORM's CARD OF 'ironbarklaw08.BuiltParts'. -/
def builtPartsUptoCard : Claim7 := { stood := { row := builtPartsUptoRow, standIns := [], harness := (true, "ca4d3e84a1970ec9ee2612a59ddb85b4bca2ed017e8b2268121be426dc0f7b06"), looks := true }, kinds := [], alts := [], laidByText := true, laidKinds := [.data, .data, .data, .data, .sentinel, .sentinel, .pinned], laidTests := true, laidLooks := .later }
def BuiltPartsUptoCardSaid : Prop := Claim7.holds Tryz.pinned (.plain (OpenSpec.upto builtPartsSpec)) builtPartsUptoCard

/-- THE SECOND FORM's CARD OF 'ironbarklaw08.BuiltResult'. -/
def builtResultUptoCard : Claim7 := { stood := { row := builtResultUptoRow, standIns := [], harness := (true, "ca4d3e84a1970ec9ee2612a59ddb85b4bca2ed017e8b2268121be426dc0f7b06"), looks := true }, kinds := [], alts := [], laidByText := true, laidKinds := [.data, .data, .data, .data, .sentinel, .sentinel, .pinned], laidTests := true, laidLooks := .later }
def BuiltResultUptoCardSaid : Prop := Claim7.holds Tryz.pinned (.plain (OpenSpec.upto builtResultSpec)) builtResultUptoCard

/-- THE SECOND FORM's CARD OF 'ironbarklaw08.BuiltWhole'. -/
def builtWholeUptoCard : Claim7 := { stood := { row := builtWholeUptoRow, standIns := [], harness := (true, "ca4d3e84a1970ec9ee2612a59ddb85b4bca2ed017e8b2268121be426dc0f7b06"), looks := true }, kinds := [], alts := [], laidByText := true, laidKinds := [.data, .data, .data, .data, .sentinel, .sentinel, .pinned], laidTests := true, laidLooks := .later }
def BuiltWholeUptoCardSaid : Prop := Claim7.holds Tryz.pinned (.plain (OpenSpec.upto builtWholeSpec)) builtWholeUptoCard

/-- THE SECOND FORM's CARD OF 'ironbarklaw08.BuiltNames'. -/
def builtNamesUptoCard : Claim7 := { stood := { row := builtNamesUptoRow, standIns := [], harness := (true, "ca4d3e84a1970ec9ee2612a59ddb85b4bca2ed017e8b2268121be426dc0f7b06"), looks := true }, kinds := [], alts := [], laidByText := true, laidKinds := [.data, .data, .data, .data, .sentinel, .sentinel, .pinned], laidTests := true, laidLooks := .later }
def BuiltNamesUptoCardSaid : Prop := Claim7.holds Tryz.pinned (.plain (OpenSpec.upto builtNamesSpec)) builtNamesUptoCard
end Rows
end Go.Proofs.YtmcogjekcefjoaaGreatDoor
