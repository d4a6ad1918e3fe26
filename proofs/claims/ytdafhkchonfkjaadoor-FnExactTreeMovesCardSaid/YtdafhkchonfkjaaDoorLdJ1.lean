/- FnExactTreeMoves, part J1: the row's closed facts, one by one. Conditions: none. -/
import Derived.Test.YtdafhkchonfkjaaDoorRows
import Derived.JoinedOf
import Derived.KernelRfl
namespace Go.Proofs.YtdafhkchonfkjaaDoor
open Go
theorem Ld.j1 : (laidOutB Tryd.pinned.checked.prog) = true := by kernel_rfl
theorem Ld.j5 : ((Rows.fnExactTreeMovesRow.stops == [])) = true := by kernel_rfl
theorem Ld.j9 : ((Rows.fnExactTreeMovesRow.inPlace == Tryd.pinned.checked.prog.inPlace 3)) = true := by kernel_rfl
theorem Ld.j13 : ((Rows.fnExactTreeMovesRow.maps == (Tryd.f3.params.toList ++ Rows.fnExactTreeMovesSpec.plain.varTypes Tryd.pinned.checked.prog).any (Tryd.pinned.checked.prog.mapsRec ·))) = true := by kernel_rfl
theorem Ld.j17 : ((Rows.fnExactTreeMovesRow.wideKeys == (Tryd.f3.params.toList ++ Rows.fnExactTreeMovesSpec.plain.varTypes Tryd.pinned.checked.prog ++ Tryd.f3.resultTypes.toList).any (Tryd.pinned.checked.prog.wideKeysFrom ·))) = true := by kernel_rfl
theorem Ld.j21 : ((Rows.fnExactTreeMovesRow.loopsOut == Tryd.f3.resultTypes.toList.any (Tryd.pinned.checked.prog.loopsFrom ·))) = true := by kernel_rfl
theorem Ld.j25 : (Tryd.pinned.checked.prog.mayEnter) = true := by kernel_rfl
theorem Ld.j29 : ((Rows.fnExactTreeMovesRow.pinned == Rows.fnExactTreeMovesRow.pinnedBy)) = true := by kernel_rfl
end Go.Proofs.YtdafhkchonfkjaaDoor
