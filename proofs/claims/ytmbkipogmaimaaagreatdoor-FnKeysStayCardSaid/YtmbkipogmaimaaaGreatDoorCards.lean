/-
  DERIVED. GIVEN WITH THE SEED: THE CARDS: each row of YtmbkipogmaimaaaGreatDoorRows.lean that lists a variable, with what it lists TIED to the program's text (the seventh form; the later family's looks); each row that meets fmt, with fmt's text TOLD by the authors' own Lean function (tested against real Go, not proved from fmt's source: count such statements apart). THE CARD IS WHAT COUNTS. Prove the row's statement (the work); the ties are given (YtmbkipogmaimaaaGreatDoorTie.lean); close each card by the builder's one call (the guide's Derived/Test/ToyasCard.lean, 'card_holds'). Laid BY PROGRAM, IN A SANDBOX (cutbox-door.mjs). By AI agents, Wed Nov 11 2026. No macro, syntax, notation, axiom, sorry.
-/
import Derived.Test.YtmbkipogmaimaaaGreatDoorRows
import GoSem.ClaimSeven
namespace Go.Proofs.YtmbkipogmaimaaaGreatDoor
namespace Rows

/-- THE TIED CARD OF 'laws.FnRepaint'. -/
def fnRepaintCard : Claim7 := { stood := { row := fnRepaintRow, standIns := [], harness := (true, "be619745dd6e1f287064009d88dba8d27d4a622da8f4f7578886f1a9d81ba292"), looks := true }, kinds := [], alts := [], laidByText := true, laidKinds := [.data, .data, .data, .sentinel, .sentinel], laidTests := true, laidLooks := .later }
def FnRepaintCardSaid : Prop := Claim7.holds Tryz.pinned (.plain (OpenSpec.ofChange fnRepaintSpec)) fnRepaintCard

/-- THE TIED CARD OF 'laws.FnKeysStay'. -/
def fnKeysStayCard : Claim7 := { stood := { row := fnKeysStayRow, standIns := [], harness := (true, "be619745dd6e1f287064009d88dba8d27d4a622da8f4f7578886f1a9d81ba292"), looks := true }, kinds := [], alts := [], laidByText := true, laidKinds := [.data, .data, .data], laidTests := true, laidLooks := .later }
def FnKeysStayCardSaid : Prop := Claim7.holds Tryz.pinned (.plain (OpenSpec.ofChange fnKeysStaySpec)) fnKeysStayCard

/-- THE TIED CARD OF 'laws.FnDamageOf'. -/
def fnDamageOfCard : Claim7 := { stood := { row := fnDamageOfRow, standIns := [], harness := (true, "be619745dd6e1f287064009d88dba8d27d4a622da8f4f7578886f1a9d81ba292"), looks := true }, kinds := [], alts := [], laidByText := true, laidKinds := [.data, .data, .data, .sentinel, .sentinel], laidTests := true, laidLooks := .later }
def FnDamageOfCardSaid : Prop := Claim7.holds Tryz.pinned (.plain (OpenSpec.ofChange fnDamageOfSpec)) fnDamageOfCard

/-- THE TIED CARD OF 'laws.FnExactHitAt'. -/
def fnExactHitAtCard : Claim7 := { stood := { row := fnExactHitAtRow, standIns := [], harness := (true, "be619745dd6e1f287064009d88dba8d27d4a622da8f4f7578886f1a9d81ba292"), looks := true }, kinds := [], alts := [], laidByText := true, laidKinds := [.data, .data, .data, .sentinel, .sentinel], laidTests := true, laidLooks := .later }
def FnExactHitAtCardSaid : Prop := Claim7.holds Tryz.pinned (.plain (OpenSpec.ofChange fnExactHitAtSpec)) fnExactHitAtCard

/-- THE TIED CARD OF 'laws.FnDamageAlone'. -/
def fnDamageAloneCard : Claim7 := { stood := { row := fnDamageAloneRow, standIns := [], harness := (true, "be619745dd6e1f287064009d88dba8d27d4a622da8f4f7578886f1a9d81ba292"), looks := true }, kinds := [], alts := [], laidByText := true, laidKinds := [.data, .data, .data, .sentinel, .sentinel], laidTests := true, laidLooks := .later }
def FnDamageAloneCardSaid : Prop := Claim7.holds Tryz.pinned (.plain (OpenSpec.ofChange fnDamageAloneSpec)) fnDamageAloneCard

/-- THE TIED CARD OF 'laws.FnTreePatched'. -/
def fnTreePatchedCard : Claim7 := { stood := { row := fnTreePatchedRow, standIns := [], harness := (true, "be619745dd6e1f287064009d88dba8d27d4a622da8f4f7578886f1a9d81ba292"), looks := true }, kinds := [], alts := [], laidByText := true, laidKinds := [.data, .data, .data, .sentinel, .sentinel], laidTests := true, laidLooks := .later }
def FnTreePatchedCardSaid : Prop := Claim7.holds Tryz.pinned (.plain (OpenSpec.ofChange fnTreePatchedSpec)) fnTreePatchedCard

/-- THE TIED CARD OF 'laws.FnExactBoxesOf'. -/
def fnExactBoxesOfCard : Claim7 := { stood := { row := fnExactBoxesOfRow, standIns := [], harness := (true, "be619745dd6e1f287064009d88dba8d27d4a622da8f4f7578886f1a9d81ba292"), looks := true }, kinds := [], alts := [], laidByText := true, laidKinds := [.data, .data, .data, .sentinel, .sentinel], laidTests := true, laidLooks := .later }
def FnExactBoxesOfCardSaid : Prop := Claim7.holds Tryz.pinned (.plain (OpenSpec.ofChange fnExactBoxesOfSpec)) fnExactBoxesOfCard

/-- THE TIED CARD OF 'laws.FnBoxesMoved'. -/
def fnBoxesMovedCard : Claim7 := { stood := { row := fnBoxesMovedRow, standIns := [], harness := (true, "be619745dd6e1f287064009d88dba8d27d4a622da8f4f7578886f1a9d81ba292"), looks := true }, kinds := [], alts := [], laidByText := true, laidKinds := [.data, .data, .data, .sentinel, .sentinel], laidTests := true, laidLooks := .later }
def FnBoxesMovedCardSaid : Prop := Claim7.holds Tryz.pinned (.plain (OpenSpec.ofChange fnBoxesMovedSpec)) fnBoxesMovedCard

/-- THE TIED CARD OF 'laws.FnExactDamageOf'. -/
def fnExactDamageOfCard : Claim7 := { stood := { row := fnExactDamageOfRow, standIns := [], harness := (true, "be619745dd6e1f287064009d88dba8d27d4a622da8f4f7578886f1a9d81ba292"), looks := true }, kinds := [], alts := [], laidByText := true, laidKinds := [.data, .data, .data, .sentinel, .sentinel], laidTests := true, laidLooks := .later }
def FnExactDamageOfCardSaid : Prop := Claim7.holds Tryz.pinned (.plain (OpenSpec.ofChange fnExactDamageOfSpec)) fnExactDamageOfCard

/-- THE TIED CARD OF 'laws.FnOutline'. -/
def fnOutlineCard : Claim7 := { stood := { row := fnOutlineRow, standIns := [], harness := (true, "be619745dd6e1f287064009d88dba8d27d4a622da8f4f7578886f1a9d81ba292"), looks := true }, kinds := [], alts := [], laidByText := true, laidKinds := [.data, .data, .data, .data, .sentinel, .sentinel, .pinned], laidTests := true, laidLooks := .later }
def FnOutlineCardSaid : Prop := Claim7.holds Tryz.pinned (.plain (OpenSpec.ofChange fnOutlineSpec)) fnOutlineCard

/-- THE TIED CARD OF 'laws.FnTreeEdits'. -/
def fnTreeEditsCard : Claim7 := { stood := { row := fnTreeEditsRow, standIns := [], harness := (true, "be619745dd6e1f287064009d88dba8d27d4a622da8f4f7578886f1a9d81ba292"), looks := true }, kinds := [], alts := [], laidByText := true, laidKinds := [.data, .data, .data, .sentinel, .sentinel], laidTests := true, laidLooks := .later }
def FnTreeEditsCardSaid : Prop := Claim7.holds Tryz.pinned (.plain (OpenSpec.ofChange fnTreeEditsSpec)) fnTreeEditsCard

/-- THE SECOND FORM's CARD OF 'laws.FnRepaint'. -/
def fnRepaintUptoCard : Claim7 := { stood := { row := fnRepaintUptoRow, standIns := [], harness := (true, "be619745dd6e1f287064009d88dba8d27d4a622da8f4f7578886f1a9d81ba292"), looks := true }, kinds := [], alts := [], laidByText := true, laidKinds := [.data, .data, .data, .sentinel, .sentinel], laidTests := true, laidLooks := .later }
def FnRepaintUptoCardSaid : Prop := Claim7.holds Tryz.pinned (.plain (OpenSpec.upto fnRepaintSpec)) fnRepaintUptoCard

/-- THE SECOND FORM's CARD OF 'laws.FnKeysStay'. -/
def fnKeysStayUptoCard : Claim7 := { stood := { row := fnKeysStayUptoRow, standIns := [], harness := (true, "be619745dd6e1f287064009d88dba8d27d4a622da8f4f7578886f1a9d81ba292"), looks := true }, kinds := [], alts := [], laidByText := true, laidKinds := [.data, .data, .data], laidTests := true, laidLooks := .later }
def FnKeysStayUptoCardSaid : Prop := Claim7.holds Tryz.pinned (.plain (OpenSpec.upto fnKeysStaySpec)) fnKeysStayUptoCard

/-- THE SECOND FORM's CARD OF 'laws.FnDamageOf'. -/
def fnDamageOfUptoCard : Claim7 := { stood := { row := fnDamageOfUptoRow, standIns := [], harness := (true, "be619745dd6e1f287064009d88dba8d27d4a622da8f4f7578886f1a9d81ba292"), looks := true }, kinds := [], alts := [], laidByText := true, laidKinds := [.data, .data, .data, .sentinel, .sentinel], laidTests := true, laidLooks := .later }
def FnDamageOfUptoCardSaid : Prop := Claim7.holds Tryz.pinned (.plain (OpenSpec.upto fnDamageOfSpec)) fnDamageOfUptoCard

/-- THE SECOND FORM's CARD OF 'laws.FnExactHitAt'. -/
def fnExactHitAtUptoCard : Claim7 := { stood := { row := fnExactHitAtUptoRow, standIns := [], harness := (true, "be619745dd6e1f287064009d88dba8d27d4a622da8f4f7578886f1a9d81ba292"), looks := true }, kinds := [], alts := [], laidByText := true, laidKinds := [.data, .data, .data, .sentinel, .sentinel], laidTests := true, laidLooks := .later }
def FnExactHitAtUptoCardSaid : Prop := Claim7.holds Tryz.pinned (.plain (OpenSpec.upto fnExactHitAtSpec)) fnExactHitAtUptoCard

/-- THE SECOND FORM's CARD OF 'laws.FnDamageAlone'. -/
def fnDamageAloneUptoCard : Claim7 := { stood := { row := fnDamageAloneUptoRow, standIns := [], harness := (true, "be619745dd6e1f287064009d88dba8d27d4a622da8f4f7578886f1a9d81ba292"), looks := true }, kinds := [], alts := [], laidByText := true, laidKinds := [.data, .data, .data, .sentinel, .sentinel], laidTests := true, laidLooks := .later }
def FnDamageAloneUptoCardSaid : Prop := Claim7.holds Tryz.pinned (.plain (OpenSpec.upto fnDamageAloneSpec)) fnDamageAloneUptoCard

/-- THE SECOND FORM's CARD OF 'laws.FnTreePatched'. -/
def fnTreePatchedUptoCard : Claim7 := { stood := { row := fnTreePatchedUptoRow, standIns := [], harness := (true, "be619745dd6e1f287064009d88dba8d27d4a622da8f4f7578886f1a9d81ba292"), looks := true }, kinds := [], alts := [], laidByText := true, laidKinds := [.data, .data, .data, .sentinel, .sentinel], laidTests := true, laidLooks := .later }
def FnTreePatchedUptoCardSaid : Prop := Claim7.holds Tryz.pinned (.plain (OpenSpec.upto fnTreePatchedSpec)) fnTreePatchedUptoCard

/-- THE SECOND FORM's CARD OF 'laws.FnExactBoxesOf'. -/
def fnExactBoxesOfUptoCard : Claim7 := { stood := { row := fnExactBoxesOfUptoRow, standIns := [], harness := (true, "be619745dd6e1f287064009d88dba8d27d4a622da8f4f7578886f1a9d81ba292"), looks := true }, kinds := [], alts := [], laidByText := true, laidKinds := [.data, .data, .data, .sentinel, .sentinel], laidTests := true, laidLooks := .later }
def FnExactBoxesOfUptoCardSaid : Prop := Claim7.holds Tryz.pinned (.plain (OpenSpec.upto fnExactBoxesOfSpec)) fnExactBoxesOfUptoCard

/-- THE SECOND FORM's CARD OF 'laws.FnBoxesMoved'. -/
def fnBoxesMovedUptoCard : Claim7 := { stood := { row := fnBoxesMovedUptoRow, standIns := [], harness := (true, "be619745dd6e1f287064009d88dba8d27d4a622da8f4f7578886f1a9d81ba292"), looks := true }, kinds := [], alts := [], laidByText := true, laidKinds := [.data, .data, .data, .sentinel, .sentinel], laidTests := true, laidLooks := .later }
def FnBoxesMovedUptoCardSaid : Prop := Claim7.holds Tryz.pinned (.plain (OpenSpec.upto fnBoxesMovedSpec)) fnBoxesMovedUptoCard

/-- THE SECOND FORM's CARD OF 'laws.FnExactDamageOf'. -/
def fnExactDamageOfUptoCard : Claim7 := { stood := { row := fnExactDamageOfUptoRow, standIns := [], harness := (true, "be619745dd6e1f287064009d88dba8d27d4a622da8f4f7578886f1a9d81ba292"), looks := true }, kinds := [], alts := [], laidByText := true, laidKinds := [.data, .data, .data, .sentinel, .sentinel], laidTests := true, laidLooks := .later }
def FnExactDamageOfUptoCardSaid : Prop := Claim7.holds Tryz.pinned (.plain (OpenSpec.upto fnExactDamageOfSpec)) fnExactDamageOfUptoCard

/-- THE SECOND FORM's CARD OF 'laws.FnOutline'. -/
def fnOutlineUptoCard : Claim7 := { stood := { row := fnOutlineUptoRow, standIns := [], harness := (true, "be619745dd6e1f287064009d88dba8d27d4a622da8f4f7578886f1a9d81ba292"), looks := true }, kinds := [], alts := [], laidByText := true, laidKinds := [.data, .data, .data, .data, .sentinel, .sentinel, .pinned], laidTests := true, laidLooks := .later }
def FnOutlineUptoCardSaid : Prop := Claim7.holds Tryz.pinned (.plain (OpenSpec.upto fnOutlineSpec)) fnOutlineUptoCard

/-- THE SECOND FORM's CARD OF 'laws.FnTreeEdits'. -/
def fnTreeEditsUptoCard : Claim7 := { stood := { row := fnTreeEditsUptoRow, standIns := [], harness := (true, "be619745dd6e1f287064009d88dba8d27d4a622da8f4f7578886f1a9d81ba292"), looks := true }, kinds := [], alts := [], laidByText := true, laidKinds := [.data, .data, .data, .sentinel, .sentinel], laidTests := true, laidLooks := .later }
def FnTreeEditsUptoCardSaid : Prop := Claim7.holds Tryz.pinned (.plain (OpenSpec.upto fnTreeEditsSpec)) fnTreeEditsUptoCard
end Rows
end Go.Proofs.YtmbkipogmaimaaaGreatDoor
