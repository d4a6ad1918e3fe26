/- FnExactHitAt, part J1: the row's closed facts, one by one. Conditions: none. -/
import Derived.Test.YtjldolmokfnkoaaGreatDoorRows
import Derived.JoinedOf
import Derived.KernelRfl
namespace Go.Proofs.YtjldolmokfnkoaaGreatDoor
open Go
theorem Lg.j1 : (laidOutB Tryz.pinned.checked.prog) = true := by kernel_rfl
theorem Lg.j5 : ((Rows.fnExactHitAtRow.stops == [])) = true := by kernel_rfl
theorem Lg.j9 : ((Rows.fnExactHitAtRow.inPlace == Tryz.pinned.checked.prog.inPlace 3)) = true := by kernel_rfl
theorem Lg.j13 : ((Rows.fnExactHitAtRow.maps == (Tryz.f3.params.toList ++ Rows.fnExactHitAtSpec.plain.varTypes Tryz.pinned.checked.prog).any (Tryz.pinned.checked.prog.mapsRec ·))) = true := by kernel_rfl
theorem Lg.j17 : ((Rows.fnExactHitAtRow.wideKeys == (Tryz.f3.params.toList ++ Rows.fnExactHitAtSpec.plain.varTypes Tryz.pinned.checked.prog ++ Tryz.f3.resultTypes.toList).any (Tryz.pinned.checked.prog.wideKeysFrom ·))) = true := by kernel_rfl
theorem Lg.j21 : ((Rows.fnExactHitAtRow.loopsOut == Tryz.f3.resultTypes.toList.any (Tryz.pinned.checked.prog.loopsFrom ·))) = true := by kernel_rfl
theorem Lg.j25 : (Tryz.pinned.checked.prog.mayEnter) = true := by kernel_rfl
theorem Lg.j29 : ((Rows.fnExactHitAtRow.pinned == Rows.fnExactHitAtRow.pinnedBy)) = true := by kernel_rfl
end Go.Proofs.YtjldolmokfnkoaaGreatDoor
