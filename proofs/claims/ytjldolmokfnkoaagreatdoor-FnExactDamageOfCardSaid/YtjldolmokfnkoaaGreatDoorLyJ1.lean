/- FnExactDamageOf, part J1: the row's closed facts, one by one. Conditions: none. -/
import Derived.Test.YtjldolmokfnkoaaGreatDoorRows
import Derived.JoinedOf
import Derived.KernelRfl
namespace Go.Proofs.YtjldolmokfnkoaaGreatDoor
open Go
theorem Ly.j1 : (laidOutB Tryz.pinned.checked.prog) = true := by kernel_rfl
theorem Ly.j5 : ((Rows.fnExactDamageOfRow.stops == [])) = true := by kernel_rfl
theorem Ly.j9 : ((Rows.fnExactDamageOfRow.inPlace == Tryz.pinned.checked.prog.inPlace 5)) = true := by kernel_rfl
theorem Ly.j13 : ((Rows.fnExactDamageOfRow.maps == (Tryz.f5.params.toList ++ Rows.fnExactDamageOfSpec.plain.varTypes Tryz.pinned.checked.prog).any (Tryz.pinned.checked.prog.mapsRec ·))) = true := by kernel_rfl
theorem Ly.j17 : ((Rows.fnExactDamageOfRow.wideKeys == (Tryz.f5.params.toList ++ Rows.fnExactDamageOfSpec.plain.varTypes Tryz.pinned.checked.prog ++ Tryz.f5.resultTypes.toList).any (Tryz.pinned.checked.prog.wideKeysFrom ·))) = true := by kernel_rfl
theorem Ly.j21 : ((Rows.fnExactDamageOfRow.loopsOut == Tryz.f5.resultTypes.toList.any (Tryz.pinned.checked.prog.loopsFrom ·))) = true := by kernel_rfl
theorem Ly.j25 : (Tryz.pinned.checked.prog.mayEnter) = true := by kernel_rfl
theorem Ly.j29 : ((Rows.fnExactDamageOfRow.pinned == Rows.fnExactDamageOfRow.pinnedBy)) = true := by kernel_rfl
end Go.Proofs.YtjldolmokfnkoaaGreatDoor
