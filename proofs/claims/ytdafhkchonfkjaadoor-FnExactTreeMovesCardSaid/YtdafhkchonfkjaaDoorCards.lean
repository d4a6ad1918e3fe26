/-
  DERIVED. GIVEN WITH THE SEED: THE CARDS: each row of YtdafhkchonfkjaaDoorRows.lean that lists a variable, with what it lists TIED to the program's text (the seventh form; the later family's looks); each row that meets fmt, with fmt's text TOLD by the authors' own Lean function (tested against real Go, not proved from fmt's source: count such statements apart). THE CARD IS WHAT COUNTS. Prove the row's statement (the work); the ties are given (YtdafhkchonfkjaaDoorTie.lean); close each card by the builder's one call (the guide's Derived/Test/ToyasCard.lean, 'card_holds'). Laid BY PROGRAM, IN A SANDBOX (cutbox-door.mjs). By AI agents, Wed Nov 11 2026. No macro, syntax, notation, axiom, sorry.
-/
import Derived.Test.YtdafhkchonfkjaaDoorRows
import GoSem.ClaimSeven
namespace Go.Proofs.YtdafhkchonfkjaaDoor
namespace Rows

/-- THE TIED CARD OF 'laws.FnExactTreeMoves'. -/
def fnExactTreeMovesCard : Claim7 := { stood := { row := fnExactTreeMovesRow, standIns := [], harness := (true, "c76685928ec95e2b72a9a3460397519566aa348985b96e8312465f7584dfafe3"), looks := true }, kinds := [], alts := [], laidByText := true, laidKinds := [.data, .data, .data, .sentinel, .sentinel], laidTests := true, laidLooks := .later }
def FnExactTreeMovesCardSaid : Prop := Claim7.holds Tryd.pinned (.plain (OpenSpec.ofChange fnExactTreeMovesSpec)) fnExactTreeMovesCard

/-- THE SECOND FORM's CARD OF 'laws.FnExactTreeMoves'. -/
def fnExactTreeMovesUptoCard : Claim7 := { stood := { row := fnExactTreeMovesUptoRow, standIns := [], harness := (true, "c76685928ec95e2b72a9a3460397519566aa348985b96e8312465f7584dfafe3"), looks := true }, kinds := [], alts := [], laidByText := true, laidKinds := [.data, .data, .data, .sentinel, .sentinel], laidTests := true, laidLooks := .later }
def FnExactTreeMovesUptoCardSaid : Prop := Claim7.holds Tryd.pinned (.plain (OpenSpec.upto fnExactTreeMovesSpec)) fnExactTreeMovesUptoCard
end Rows
end Go.Proofs.YtdafhkchonfkjaaDoor
