/- FnExactTreeEdits, part J1: the row's closed facts, one by one. Conditions: none. -/
import Derived.Test.YtfemaegbcfaolaaGreatDoorRows
import Derived.JoinedOf
import Derived.KernelRfl
namespace Go.Proofs.YtfemaegbcfaolaaGreatDoor
open Go
theorem Le.j1 : (laidOutB Tryz.pinned.checked.prog) = true := by kernel_rfl
theorem Le.j5 : ((Rows.fnExactTreeEditsRow.stops == [])) = true := by kernel_rfl
theorem Le.j9 : ((Rows.fnExactTreeEditsRow.inPlace == Tryz.pinned.checked.prog.inPlace 5)) = true := by kernel_rfl
theorem Le.j13 : ((Rows.fnExactTreeEditsRow.maps == (Tryz.f5.params.toList ++ Rows.fnExactTreeEditsSpec.plain.varTypes Tryz.pinned.checked.prog).any (Tryz.pinned.checked.prog.mapsRec ·))) = true := by kernel_rfl
theorem Le.j17 : ((Rows.fnExactTreeEditsRow.wideKeys == (Tryz.f5.params.toList ++ Rows.fnExactTreeEditsSpec.plain.varTypes Tryz.pinned.checked.prog ++ Tryz.f5.resultTypes.toList).any (Tryz.pinned.checked.prog.wideKeysFrom ·))) = true := by kernel_rfl
theorem Le.j21 : ((Rows.fnExactTreeEditsRow.loopsOut == Tryz.f5.resultTypes.toList.any (Tryz.pinned.checked.prog.loopsFrom ·))) = true := by kernel_rfl
theorem Le.j25 : (Tryz.pinned.checked.prog.mayEnter) = true := by kernel_rfl
theorem Le.j29 : ((Rows.fnExactTreeEditsRow.pinned == Rows.fnExactTreeEditsRow.pinnedBy)) = true := by kernel_rfl
end Go.Proofs.YtfemaegbcfaolaaGreatDoor
