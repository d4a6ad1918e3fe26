/- FnExactBoxesMoved, part J1: the row's closed facts, one by one. Conditions: none. -/
import Derived.Test.YtjldolmokfnkoaaGreatDoorRows
import Derived.JoinedOf
import Derived.KernelRfl
namespace Go.Proofs.YtjldolmokfnkoaaGreatDoor
open Go
theorem Lw.j1 : (laidOutB Tryz.pinned.checked.prog) = true := by kernel_rfl
theorem Lw.j5 : ((Rows.fnExactBoxesMovedRow.stops == [])) = true := by kernel_rfl
theorem Lw.j9 : ((Rows.fnExactBoxesMovedRow.inPlace == Tryz.pinned.checked.prog.inPlace 7)) = true := by kernel_rfl
theorem Lw.j13 : ((Rows.fnExactBoxesMovedRow.maps == (Tryz.f7.params.toList ++ Rows.fnExactBoxesMovedSpec.plain.varTypes Tryz.pinned.checked.prog).any (Tryz.pinned.checked.prog.mapsRec ·))) = true := by kernel_rfl
theorem Lw.j17 : ((Rows.fnExactBoxesMovedRow.wideKeys == (Tryz.f7.params.toList ++ Rows.fnExactBoxesMovedSpec.plain.varTypes Tryz.pinned.checked.prog ++ Tryz.f7.resultTypes.toList).any (Tryz.pinned.checked.prog.wideKeysFrom ·))) = true := by kernel_rfl
theorem Lw.j21 : ((Rows.fnExactBoxesMovedRow.loopsOut == Tryz.f7.resultTypes.toList.any (Tryz.pinned.checked.prog.loopsFrom ·))) = true := by kernel_rfl
theorem Lw.j25 : (Tryz.pinned.checked.prog.mayEnter) = true := by kernel_rfl
theorem Lw.j29 : ((Rows.fnExactBoxesMovedRow.pinned == Rows.fnExactBoxesMovedRow.pinnedBy)) = true := by kernel_rfl
end Go.Proofs.YtjldolmokfnkoaaGreatDoor
