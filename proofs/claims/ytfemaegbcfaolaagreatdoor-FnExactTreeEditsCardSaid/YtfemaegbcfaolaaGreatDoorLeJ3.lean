/- FnExactTreeEdits, part J3: the row's closed facts, one by one. Conditions: none. -/
import Derived.Test.YtfemaegbcfaolaaGreatDoorRows
import Derived.JoinedOf
import Derived.KernelRfl
namespace Go.Proofs.YtfemaegbcfaolaaGreatDoor
open Go
theorem Le.j3 : (Tryz.f5.params.all (Tryz.pinned.checked.prog.readableRec ·)) = true := by kernel_rfl
theorem Le.j7 : ((Rows.fnExactTreeEditsRow.knobs == [])) = true := by kernel_rfl
theorem Le.j11 : ((Rows.fnExactTreeEditsRow.recurses == Tryz.pinned.checked.prog.recurses 5)) = true := by kernel_rfl
theorem Le.j15 : ((Rows.fnExactTreeEditsRow.mapsOut == Tryz.pinned.checked.prog.mapsAmong Tryz.f5.resultTypes.toList)) = true := by kernel_rfl
theorem Le.j19 : (Tryz.f5.resultTypes.all (fun t => Tryz.pinned.checked.prog.readableRec t && decide (t < Tryz.pinned.checked.prog.types.size))) = true := by kernel_rfl
theorem Le.j23 : (Rows.fnExactTreeEditsRow.shortTexts.isNone) = true := by kernel_rfl
theorem Le.j27 : ((Tryz.pinned.checked.prog.make == some Rows.fnExactTreeEditsRow.make)) = true := by kernel_rfl
theorem Le.j31 : (Rows.fnExactTreeEditsRow.veiledFits Tryz.pinned.checked.prog Tryz.f5.params.toList (Tryz.f5.params.toList ++ Rows.fnExactTreeEditsSpec.plain.varTypes Tryz.pinned.checked.prog ++ Tryz.f5.resultTypes.toList)) = true := by kernel_rfl
end Go.Proofs.YtfemaegbcfaolaaGreatDoor
