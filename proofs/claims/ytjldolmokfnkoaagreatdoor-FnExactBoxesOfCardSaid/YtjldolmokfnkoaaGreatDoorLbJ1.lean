/- FnExactBoxesOf, part J1: the row's closed facts, one by one. Conditions: none. -/
import Derived.Test.YtjldolmokfnkoaaGreatDoorRows
import Derived.JoinedOf
import Derived.KernelRfl
namespace Go.Proofs.YtjldolmokfnkoaaGreatDoor
open Go
theorem Lb.j1 : (laidOutB Tryz.pinned.checked.prog) = true := by kernel_rfl
theorem Lb.j5 : ((Rows.fnExactBoxesOfRow.stops == [])) = true := by kernel_rfl
theorem Lb.j9 : ((Rows.fnExactBoxesOfRow.inPlace == Tryz.pinned.checked.prog.inPlace 4)) = true := by kernel_rfl
theorem Lb.j13 : ((Rows.fnExactBoxesOfRow.maps == (Tryz.f4.params.toList ++ Rows.fnExactBoxesOfSpec.plain.varTypes Tryz.pinned.checked.prog).any (Tryz.pinned.checked.prog.mapsRec ·))) = true := by kernel_rfl
theorem Lb.j17 : ((Rows.fnExactBoxesOfRow.wideKeys == (Tryz.f4.params.toList ++ Rows.fnExactBoxesOfSpec.plain.varTypes Tryz.pinned.checked.prog ++ Tryz.f4.resultTypes.toList).any (Tryz.pinned.checked.prog.wideKeysFrom ·))) = true := by kernel_rfl
theorem Lb.j21 : ((Rows.fnExactBoxesOfRow.loopsOut == Tryz.f4.resultTypes.toList.any (Tryz.pinned.checked.prog.loopsFrom ·))) = true := by kernel_rfl
theorem Lb.j25 : (Tryz.pinned.checked.prog.mayEnter) = true := by kernel_rfl
theorem Lb.j29 : ((Rows.fnExactBoxesOfRow.pinned == Rows.fnExactBoxesOfRow.pinnedBy)) = true := by kernel_rfl
end Go.Proofs.YtjldolmokfnkoaaGreatDoor
