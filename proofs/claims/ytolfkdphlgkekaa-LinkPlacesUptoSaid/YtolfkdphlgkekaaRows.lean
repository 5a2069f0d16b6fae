/-
  No cell of these rows narrows 'for every input' (looked for: loops, veiled, ifaces, maps, wideKeys, modest, calm, conditions, laid).
  DERIVED. THE GIVEN ROWS OF THIS SEAT. 4 by the template 'for every input the law returns true; each argument reads behind the call as it read before'; 0 by the template 'total and deterministic' (their statements: YtolfkdphlgkekaaTotals.lean).
  GIVEN WITH THE SEED: the statements are not yours to turn. If you find one false, say at which input.
  Laid BY PROGRAM, IN A SANDBOX (cutbox-rows.mjs): the forced cells as the released guide's own fill.sh prints them over the translation fe9738b7e0274c01… (all of the seat's roots in one cut). By AI agents, Wed Nov 11 2026. No macro, syntax, notation, axiom, sorry.
-/
import Derived.Test.YtolfkdphlgkekaaChecked
import GoSem.Claim
import GoSem.ClaimJoined
import GoSem.ClaimMapViews
import Derived.JoinedTies
import Derived.KernelRfl
namespace Go.Proofs.Ytolfkdphlgkekaa
/- THE CELL 'sum', in the pinned program and in every row, IS THE sha256 OF THE DUMP (.gsa) THAT YtolfkdphlgkekaaProg.lean LOADS. Nothing in Lean hashes anything: it is a label: what it is worth is what the hold of that sum in a sandbox is worth. -/
noncomputable def Try.pinned : Pinned := { name := "ytolfkdphlgkekaa", sum := "fe9738b7e0274c01b01e73a2c98818525f91609192a51e59c1ecf02c78470981", checked := Try.checked }
namespace Rows
def none {H : Type} : Left H := { results := [], args := [] }

/-- 'ironbarklaw34.LinkMoves': WHATEVER THE INPUT: true; the input reads as it did. -/
def linkMovesSpec : ChangeSpec := { name := "linkMoves", fn := fun _ => fun
  | [d1, d2, d3, d4] => { results := [.lit (.bool true)], args := [d1, d2, d3, d4] }
  | _ => none }
def linkMovesRow : OpenClaim := { program := "ytolfkdphlgkekaa", sum := "fe9738b7e0274c01b01e73a2c98818525f91609192a51e59c1ecf02c78470981", func := "ironbark/ironbarklaw34.LinkMoves", spec := "linkMoves", unfollowed := true, recurses := true, apart := false }
def LinkMovesSaid : Prop := linkMovesRow.holds Try.pinned (OpenSpec.ofChange linkMovesSpec)

/-- ITS FALSE NEIGHBOUR: 'it returns false'. Refute it at one input. -/
def linkMovesWrong : ChangeSpec := { name := "linkMoves", fn := fun _ => fun
  | [d1, d2, d3, d4] => { results := [.lit (.bool false)], args := [d1, d2, d3, d4] }
  | _ => none }
def LinkMovesWrongFalsely : Prop := linkMovesRow.holds Try.pinned (OpenSpec.ofChange linkMovesWrong)

/-- 'ironbarklaw34.LinkPlaces': WHATEVER THE INPUT: true; the input reads as it did. -/
def linkPlacesSpec : ChangeSpec := { name := "linkPlaces", fn := fun _ => fun
  | [d1, d2, d3, d4] => { results := [.lit (.bool true)], args := [d1, d2, d3, d4] }
  | _ => none }
def linkPlacesRow : OpenClaim := { program := "ytolfkdphlgkekaa", sum := "fe9738b7e0274c01b01e73a2c98818525f91609192a51e59c1ecf02c78470981", func := "ironbark/ironbarklaw34.LinkPlaces", spec := "linkPlaces", inPlace := ["internal/abi.NoEscape"], unfollowed := true, recurses := true, apart := false }
def LinkPlacesSaid : Prop := linkPlacesRow.holds Try.pinned (OpenSpec.ofChange linkPlacesSpec)

/-- ITS FALSE NEIGHBOUR: 'it returns false'. Refute it at one input. -/
def linkPlacesWrong : ChangeSpec := { name := "linkPlaces", fn := fun _ => fun
  | [d1, d2, d3, d4] => { results := [.lit (.bool false)], args := [d1, d2, d3, d4] }
  | _ => none }
def LinkPlacesWrongFalsely : Prop := linkPlacesRow.holds Try.pinned (OpenSpec.ofChange linkPlacesWrong)

/-- 'ironbarklaw34.LinkImages': WHATEVER THE INPUT: true; the input reads as it did. -/
def linkImagesSpec : ChangeSpec := { name := "linkImages", fn := fun _ => fun
  | [d1, d2] => { results := [.lit (.bool true)], args := [d1, d2] }
  | _ => none }
def linkImagesRow : OpenClaim := { program := "ytolfkdphlgkekaa", sum := "fe9738b7e0274c01b01e73a2c98818525f91609192a51e59c1ecf02c78470981", func := "ironbark/ironbarklaw34.LinkImages", spec := "linkImages", inPlace := ["internal/abi.NoEscape"], unfollowed := true, recurses := true, apart := false }
def LinkImagesSaid : Prop := linkImagesRow.holds Try.pinned (OpenSpec.ofChange linkImagesSpec)

/-- ITS FALSE NEIGHBOUR: 'it returns false'. Refute it at one input. -/
def linkImagesWrong : ChangeSpec := { name := "linkImages", fn := fun _ => fun
  | [d1, d2] => { results := [.lit (.bool false)], args := [d1, d2] }
  | _ => none }
def LinkImagesWrongFalsely : Prop := linkImagesRow.holds Try.pinned (OpenSpec.ofChange linkImagesWrong)

/-- 'ironbarklaw34.LinkNeeded': WHATEVER THE INPUT: true; the input reads as it did. -/
def linkNeededSpec : ChangeSpec := { name := "linkNeeded", fn := fun _ => fun
  | [d1, d2, d3] => { results := [.lit (.bool true)], args := [d1, d2, d3] }
  | _ => none }
def linkNeededRow : OpenClaim := { program := "ytolfkdphlgkekaa", sum := "fe9738b7e0274c01b01e73a2c98818525f91609192a51e59c1ecf02c78470981", func := "ironbark/ironbarklaw34.LinkNeeded", spec := "linkNeeded", unfollowed := true, recurses := true, apart := false }
def LinkNeededSaid : Prop := linkNeededRow.holds Try.pinned (OpenSpec.ofChange linkNeededSpec)

/-- ITS FALSE NEIGHBOUR: 'it returns false'. Refute it at one input. -/
def linkNeededWrong : ChangeSpec := { name := "linkNeeded", fn := fun _ => fun
  | [d1, d2, d3] => { results := [.lit (.bool false)], args := [d1, d2, d3] }
  | _ => none }
def LinkNeededWrongFalsely : Prop := linkNeededRow.holds Try.pinned (OpenSpec.ofChange linkNeededWrong)

/- THE SECOND FORM. 'bulk': how many values and letters a reading holds, each counted each time it is reached (what is shared counts as often as it is met; a slice's spare places count too). A statement '..UptoSaid' is the law's where the arguments, and the package variables that the reading takes, are together of bulk at most 1048576: NARROWER than '..Said'. Prove '..Said' where nothing that the law and all that it calls make is longer than what came in: it says more and counts as full. Else prove '..UptoSaid'. A law counts once. -/
mutual
def uptoBulk {H : Type} : DataW H → Nat
  | .lit (.string bytes) => bytes.length + 1
  | .lit _ => 1
  | .nil => 1
  | .ptr d => uptoBulk d + 1
  | .slice elems spare => uptoBulkAll elems + uptoBulkAll spare + 1
  | .agg parts => uptoBulkAll parts + 1
  | .iface _ d => uptoBulk d + 1
  | .map entries => uptoBulkEntries entries + 1
  | .held _ => 1
def uptoBulkAll {H : Type} : List (DataW H) → Nat
  | [] => 0
  | d :: r => uptoBulk d + uptoBulkAll r
def uptoBulkEntries {H : Type} : List (Lit × DataW H) → Nat
  | [] => 0
  | x :: r => uptoBulkEntry x + uptoBulkEntries r
def uptoBulkEntry {H : Type} : Lit × DataW H → Nat
  | (.string bytes, d) => bytes.length + uptoBulk d + 1
  | (_, d) => uptoBulk d + 1
 end
def uptoSmall : (H : Type) → List (DataW H) → Bool := fun _ ds => decide (uptoBulkAll ds ≤ 1048576)
def OpenSpec.upto (s : _root_.Go.ChangeSpec) : _root_.Go.OpenSpec := { _root_.Go.OpenSpec.ofChange s with cond := some uptoSmall }

/-- 'ironbarklaw34.LinkMoves', WHERE WHAT IT READS IS OF BULK AT MOST 1048576: true; the input reads as it did. -/
def linkMovesUptoRow : OpenClaim := { program := "ytolfkdphlgkekaa", sum := "fe9738b7e0274c01b01e73a2c98818525f91609192a51e59c1ecf02c78470981", func := "ironbark/ironbarklaw34.LinkMoves", spec := "linkMoves", unfollowed := true, recurses := true, apart := false, narrowed := true }
def LinkMovesUptoSaid : Prop := linkMovesUptoRow.holds Try.pinned (OpenSpec.upto linkMovesSpec)

/-- 'ironbarklaw34.LinkPlaces', WHERE WHAT IT READS IS OF BULK AT MOST 1048576: true; the input reads as it did. -/
def linkPlacesUptoRow : OpenClaim := { program := "ytolfkdphlgkekaa", sum := "fe9738b7e0274c01b01e73a2c98818525f91609192a51e59c1ecf02c78470981", func := "ironbark/ironbarklaw34.LinkPlaces", spec := "linkPlaces", inPlace := ["internal/abi.NoEscape"], unfollowed := true, recurses := true, apart := false, narrowed := true }
def LinkPlacesUptoSaid : Prop := linkPlacesUptoRow.holds Try.pinned (OpenSpec.upto linkPlacesSpec)

/-- 'ironbarklaw34.LinkImages', WHERE WHAT IT READS IS OF BULK AT MOST 1048576: true; the input reads as it did. -/
def linkImagesUptoRow : OpenClaim := { program := "ytolfkdphlgkekaa", sum := "fe9738b7e0274c01b01e73a2c98818525f91609192a51e59c1ecf02c78470981", func := "ironbark/ironbarklaw34.LinkImages", spec := "linkImages", inPlace := ["internal/abi.NoEscape"], unfollowed := true, recurses := true, apart := false, narrowed := true }
def LinkImagesUptoSaid : Prop := linkImagesUptoRow.holds Try.pinned (OpenSpec.upto linkImagesSpec)

/-- 'ironbarklaw34.LinkNeeded', WHERE WHAT IT READS IS OF BULK AT MOST 1048576: true; the input reads as it did. -/
def linkNeededUptoRow : OpenClaim := { program := "ytolfkdphlgkekaa", sum := "fe9738b7e0274c01b01e73a2c98818525f91609192a51e59c1ecf02c78470981", func := "ironbark/ironbarklaw34.LinkNeeded", spec := "linkNeeded", unfollowed := true, recurses := true, apart := false, narrowed := true }
def LinkNeededUptoSaid : Prop := linkNeededUptoRow.holds Try.pinned (OpenSpec.upto linkNeededSpec)

end Rows
end Go.Proofs.Ytolfkdphlgkekaa
