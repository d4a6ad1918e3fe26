/-
  DERIVED. GIVEN WITH THE SEED: THE CARDS: each row of YtjldolmokfnkoaaGreatDoorRows.lean that lists a variable, with what it lists TIED to the program's text (the seventh form; the later family's looks); each row that meets fmt, with fmt's text TOLD by the authors' own Lean function (tested against real Go, not proved from fmt's source: count such statements apart). THE CARD IS WHAT COUNTS. Prove the row's statement (the work); the ties are given (YtjldolmokfnkoaaGreatDoorTie.lean); close each card by the builder's one call (the guide's Derived/Test/ToyasCard.lean, 'card_holds'). Laid BY PROGRAM, IN A SANDBOX (cutbox-door.mjs). By AI agents, Wed Nov 11 2026. No macro, syntax, notation, axiom, sorry.
-/
import Derived.Test.YtjldolmokfnkoaaGreatDoorRows
import GoSem.ClaimSeven
namespace Go.Proofs.YtjldolmokfnkoaaGreatDoor
namespace Rows

/-- THE TIED CARD OF 'laws.FnExactHitAt'. -/
def fnExactHitAtCard : Claim7 := { stood := { row := fnExactHitAtRow, standIns := [], harness := (true, "44c208f7ed01441f4a9104f55693d636be665f93eed7a1cf19a453a94f000a63"), looks := true }, kinds := [], alts := [], laidByText := true, laidKinds := [.data, .data, .data, .sentinel, .sentinel], laidTests := true, laidLooks := .later }
def FnExactHitAtCardSaid : Prop := Claim7.holds Tryz.pinned (.plain (OpenSpec.ofChange fnExactHitAtSpec)) fnExactHitAtCard

/-- THE TIED CARD OF 'laws.FnExactBoxesOf'. -/
def fnExactBoxesOfCard : Claim7 := { stood := { row := fnExactBoxesOfRow, standIns := [], harness := (true, "44c208f7ed01441f4a9104f55693d636be665f93eed7a1cf19a453a94f000a63"), looks := true }, kinds := [], alts := [], laidByText := true, laidKinds := [.data, .data, .data, .sentinel, .sentinel], laidTests := true, laidLooks := .later }
def FnExactBoxesOfCardSaid : Prop := Claim7.holds Tryz.pinned (.plain (OpenSpec.ofChange fnExactBoxesOfSpec)) fnExactBoxesOfCard

/-- THE TIED CARD OF 'laws.FnExactDamageOf'. -/
def fnExactDamageOfCard : Claim7 := { stood := { row := fnExactDamageOfRow, standIns := [], harness := (true, "44c208f7ed01441f4a9104f55693d636be665f93eed7a1cf19a453a94f000a63"), looks := true }, kinds := [], alts := [], laidByText := true, laidKinds := [.data, .data, .data, .sentinel, .sentinel], laidTests := true, laidLooks := .later }
def FnExactDamageOfCardSaid : Prop := Claim7.holds Tryz.pinned (.plain (OpenSpec.ofChange fnExactDamageOfSpec)) fnExactDamageOfCard

/-- THE TIED CARD OF 'laws.FnExactPaint'. -/
def fnExactPaintCard : Claim7 := { stood := { row := fnExactPaintRow, standIns := [], harness := (true, "44c208f7ed01441f4a9104f55693d636be665f93eed7a1cf19a453a94f000a63"), looks := true }, kinds := [], alts := [], laidByText := true, laidKinds := [.data, .data, .data, .sentinel, .sentinel], laidTests := true, laidLooks := .later }
def FnExactPaintCardSaid : Prop := Claim7.holds Tryz.pinned (.plain (OpenSpec.ofChange fnExactPaintSpec)) fnExactPaintCard

/-- THE TIED CARD OF 'laws.FnExactBoxesMoved'. -/
def fnExactBoxesMovedCard : Claim7 := { stood := { row := fnExactBoxesMovedRow, standIns := [], harness := (true, "44c208f7ed01441f4a9104f55693d636be665f93eed7a1cf19a453a94f000a63"), looks := true }, kinds := [], alts := [], laidByText := true, laidKinds := [.data, .data, .data, .sentinel, .sentinel], laidTests := true, laidLooks := .later }
def FnExactBoxesMovedCardSaid : Prop := Claim7.holds Tryz.pinned (.plain (OpenSpec.ofChange fnExactBoxesMovedSpec)) fnExactBoxesMovedCard

/-- THE SECOND FORM's CARD OF 'laws.FnExactHitAt'. -/
def fnExactHitAtUptoCard : Claim7 := { stood := { row := fnExactHitAtUptoRow, standIns := [], harness := (true, "44c208f7ed01441f4a9104f55693d636be665f93eed7a1cf19a453a94f000a63"), looks := true }, kinds := [], alts := [], laidByText := true, laidKinds := [.data, .data, .data, .sentinel, .sentinel], laidTests := true, laidLooks := .later }
def FnExactHitAtUptoCardSaid : Prop := Claim7.holds Tryz.pinned (.plain (OpenSpec.upto fnExactHitAtSpec)) fnExactHitAtUptoCard

/-- THE SECOND FORM's CARD OF 'laws.FnExactBoxesOf'. -/
def fnExactBoxesOfUptoCard : Claim7 := { stood := { row := fnExactBoxesOfUptoRow, standIns := [], harness := (true, "44c208f7ed01441f4a9104f55693d636be665f93eed7a1cf19a453a94f000a63"), looks := true }, kinds := [], alts := [], laidByText := true, laidKinds := [.data, .data, .data, .sentinel, .sentinel], laidTests := true, laidLooks := .later }
def FnExactBoxesOfUptoCardSaid : Prop := Claim7.holds Tryz.pinned (.plain (OpenSpec.upto fnExactBoxesOfSpec)) fnExactBoxesOfUptoCard

/-- THE SECOND FORM's CARD OF 'laws.FnExactDamageOf'. -/
def fnExactDamageOfUptoCard : Claim7 := { stood := { row := fnExactDamageOfUptoRow, standIns := [], harness := (true, "44c208f7ed01441f4a9104f55693d636be665f93eed7a1cf19a453a94f000a63"), looks := true }, kinds := [], alts := [], laidByText := true, laidKinds := [.data, .data, .data, .sentinel, .sentinel], laidTests := true, laidLooks := .later }
def FnExactDamageOfUptoCardSaid : Prop := Claim7.holds Tryz.pinned (.plain (OpenSpec.upto fnExactDamageOfSpec)) fnExactDamageOfUptoCard

/-- THE SECOND FORM's CARD OF 'laws.FnExactPaint'. -/
def fnExactPaintUptoCard : Claim7 := { stood := { row := fnExactPaintUptoRow, standIns := [], harness := (true, "44c208f7ed01441f4a9104f55693d636be665f93eed7a1cf19a453a94f000a63"), looks := true }, kinds := [], alts := [], laidByText := true, laidKinds := [.data, .data, .data, .sentinel, .sentinel], laidTests := true, laidLooks := .later }
def FnExactPaintUptoCardSaid : Prop := Claim7.holds Tryz.pinned (.plain (OpenSpec.upto fnExactPaintSpec)) fnExactPaintUptoCard

/-- THE SECOND FORM's CARD OF 'laws.FnExactBoxesMoved'. -/
def fnExactBoxesMovedUptoCard : Claim7 := { stood := { row := fnExactBoxesMovedUptoRow, standIns := [], harness := (true, "44c208f7ed01441f4a9104f55693d636be665f93eed7a1cf19a453a94f000a63"), looks := true }, kinds := [], alts := [], laidByText := true, laidKinds := [.data, .data, .data, .sentinel, .sentinel], laidTests := true, laidLooks := .later }
def FnExactBoxesMovedUptoCardSaid : Prop := Claim7.holds Tryz.pinned (.plain (OpenSpec.upto fnExactBoxesMovedSpec)) fnExactBoxesMovedUptoCard
end Rows
end Go.Proofs.YtjldolmokfnkoaaGreatDoor
