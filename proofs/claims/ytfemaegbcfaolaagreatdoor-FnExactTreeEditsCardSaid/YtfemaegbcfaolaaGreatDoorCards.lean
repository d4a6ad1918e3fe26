/-
  DERIVED. GIVEN WITH THE SEED: THE CARDS: each row of YtfemaegbcfaolaaGreatDoorRows.lean that lists a variable, with what it lists TIED to the program's text (the seventh form; the later family's looks); each row that meets fmt, with fmt's text TOLD by the authors' own Lean function (tested against real Go, not proved from fmt's source: count such statements apart). THE CARD IS WHAT COUNTS. Prove the row's statement (the work); the ties are given (YtfemaegbcfaolaaGreatDoorTie.lean); close each card by the builder's one call (the guide's Derived/Test/ToyasCard.lean, 'card_holds'). Laid BY PROGRAM, IN A SANDBOX (cutbox-door.mjs). By AI agents, Wed Nov 11 2026. No macro, syntax, notation, axiom, sorry.
-/
import Derived.Test.YtfemaegbcfaolaaGreatDoorRows
import GoSem.ClaimSeven
namespace Go.Proofs.YtfemaegbcfaolaaGreatDoor
namespace Rows

/-- THE TIED CARD OF 'laws.FnTreePatched'. -/
def fnTreePatchedCard : Claim7 := { stood := { row := fnTreePatchedRow, standIns := [], harness := (true, "bf8080e7e9c0b28172da62622daa2ec7df7fd0600da0a1d2171d064359064c95"), looks := true }, kinds := [], alts := [], laidByText := true, laidKinds := [.data, .data, .data, .sentinel, .sentinel], laidTests := true, laidLooks := .later }
def FnTreePatchedCardSaid : Prop := Claim7.holds Tryz.pinned (.plain (OpenSpec.ofChange fnTreePatchedSpec)) fnTreePatchedCard

/-- THE TIED CARD OF 'laws.FnTreeEdits'. -/
def fnTreeEditsCard : Claim7 := { stood := { row := fnTreeEditsRow, standIns := [], harness := (true, "bf8080e7e9c0b28172da62622daa2ec7df7fd0600da0a1d2171d064359064c95"), looks := true }, kinds := [], alts := [], laidByText := true, laidKinds := [.data, .data, .data, .sentinel, .sentinel], laidTests := true, laidLooks := .later }
def FnTreeEditsCardSaid : Prop := Claim7.holds Tryz.pinned (.plain (OpenSpec.ofChange fnTreeEditsSpec)) fnTreeEditsCard

/-- THE TIED CARD OF 'laws.FnExactTreeEdits'. -/
def fnExactTreeEditsCard : Claim7 := { stood := { row := fnExactTreeEditsRow, standIns := [], harness := (true, "bf8080e7e9c0b28172da62622daa2ec7df7fd0600da0a1d2171d064359064c95"), looks := true }, kinds := [], alts := [], laidByText := true, laidKinds := [.data, .data, .data, .sentinel, .sentinel], laidTests := true, laidLooks := .later }
def FnExactTreeEditsCardSaid : Prop := Claim7.holds Tryz.pinned (.plain (OpenSpec.ofChange fnExactTreeEditsSpec)) fnExactTreeEditsCard

/-- THE SECOND FORM's CARD OF 'laws.FnTreePatched'. -/
def fnTreePatchedUptoCard : Claim7 := { stood := { row := fnTreePatchedUptoRow, standIns := [], harness := (true, "bf8080e7e9c0b28172da62622daa2ec7df7fd0600da0a1d2171d064359064c95"), looks := true }, kinds := [], alts := [], laidByText := true, laidKinds := [.data, .data, .data, .sentinel, .sentinel], laidTests := true, laidLooks := .later }
def FnTreePatchedUptoCardSaid : Prop := Claim7.holds Tryz.pinned (.plain (OpenSpec.upto fnTreePatchedSpec)) fnTreePatchedUptoCard

/-- THE SECOND FORM's CARD OF 'laws.FnTreeEdits'. -/
def fnTreeEditsUptoCard : Claim7 := { stood := { row := fnTreeEditsUptoRow, standIns := [], harness := (true, "bf8080e7e9c0b28172da62622daa2ec7df7fd0600da0a1d2171d064359064c95"), looks := true }, kinds := [], alts := [], laidByText := true, laidKinds := [.data, .data, .data, .sentinel, .sentinel], laidTests := true, laidLooks := .later }
def FnTreeEditsUptoCardSaid : Prop := Claim7.holds Tryz.pinned (.plain (OpenSpec.upto fnTreeEditsSpec)) fnTreeEditsUptoCard

/-- THE SECOND FORM's CARD OF 'laws.FnExactTreeEdits'. -/
def fnExactTreeEditsUptoCard : Claim7 := { stood := { row := fnExactTreeEditsUptoRow, standIns := [], harness := (true, "bf8080e7e9c0b28172da62622daa2ec7df7fd0600da0a1d2171d064359064c95"), looks := true }, kinds := [], alts := [], laidByText := true, laidKinds := [.data, .data, .data, .sentinel, .sentinel], laidTests := true, laidLooks := .later }
def FnExactTreeEditsUptoCardSaid : Prop := Claim7.holds Tryz.pinned (.plain (OpenSpec.upto fnExactTreeEditsSpec)) fnExactTreeEditsUptoCard
end Rows
end Go.Proofs.YtfemaegbcfaolaaGreatDoor
