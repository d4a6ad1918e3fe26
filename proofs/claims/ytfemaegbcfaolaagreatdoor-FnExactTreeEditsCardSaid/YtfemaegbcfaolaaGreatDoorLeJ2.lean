/- FnExactTreeEdits, part J2: the row's closed facts, one by one. Conditions: none. -/
import Derived.Test.YtfemaegbcfaolaaGreatDoorRows
import Derived.JoinedOf
import Derived.KernelRfl
namespace Go.Proofs.YtfemaegbcfaolaaGreatDoor
open Go
theorem Le.j2 : (mapsRowed Tryz.pinned.checked.prog) = true := by kernel_rfl
theorem Le.j6 : ((Tryz.pinned.checked.prog.stops == [])) = true := by kernel_rfl
theorem Le.j10 : ((Rows.fnExactTreeEditsRow.unfollowed == Tryz.pinned.checked.prog.unfollowed 5)) = true := by kernel_rfl
theorem Le.j14 : ((Rows.fnExactTreeEditsRow.ifaces == (Tryz.f5.params.toList ++ Rows.fnExactTreeEditsSpec.plain.varTypes Tryz.pinned.checked.prog).any (Tryz.pinned.checked.prog.ifacesRec ·))) = true := by kernel_rfl
theorem Le.j18 : (Rows.fnExactTreeEditsSpec.vars.all (Tryz.pinned.checked.prog.varReadable ·)) = true := by kernel_rfl
theorem Le.j22 : ((Rows.fnExactTreeEditsRow.plainKeys == Tryz.pinned.checked.prog.plainKeys)) = true := by kernel_rfl
theorem Le.j26 : ((Rows.fnExactTreeEditsRow.lifted == Tryz.pinned.checked.prog.liftsFinal)) = true := by kernel_rfl
theorem Le.j30 : ((Rows.fnExactTreeEditsRow.veiled == (Tryz.f5.params.toList ++ Rows.fnExactTreeEditsSpec.plain.varTypes Tryz.pinned.checked.prog ++ Tryz.f5.resultTypes.toList).any (Tryz.pinned.checked.prog.veiledRec ·))) = true := by kernel_rfl
end Go.Proofs.YtfemaegbcfaolaaGreatDoor
