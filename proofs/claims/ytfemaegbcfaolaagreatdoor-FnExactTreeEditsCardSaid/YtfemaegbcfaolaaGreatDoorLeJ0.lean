/- FnExactTreeEdits, part J0: the row's closed facts, one by one. Conditions: none. -/
import Derived.Test.YtfemaegbcfaolaaGreatDoorRows
import Derived.JoinedOf
import Derived.KernelRfl
namespace Go.Proofs.YtfemaegbcfaolaaGreatDoor
open Go
theorem Le.j0 : (Rows.fnExactTreeEditsRow.wf (OpenSpec.ofChange Rows.fnExactTreeEditsSpec)) = true := by kernel_rfl
theorem Le.j4 : (namedTie Tryz.pinned.checked.prog Rows.fnExactTreeEditsRow.named Rows.fnExactTreeEditsSpec.vars) = true := by kernel_rfl
theorem Le.j8 : ((Tryz.pinned.checked.prog.stopKnobs == [])) = true := by kernel_rfl
theorem Le.j12 : ((Rows.fnExactTreeEditsRow.named == Tryz.pinned.checked.prog.varsNamed 5)) = true := by kernel_rfl
theorem Le.j16 : ((Rows.fnExactTreeEditsRow.loops == (Tryz.f5.params.toList ++ Rows.fnExactTreeEditsSpec.plain.varTypes Tryz.pinned.checked.prog).any (Tryz.pinned.checked.prog.loopsFrom ·))) = true := by kernel_rfl
theorem Le.j20 : ((Rows.fnExactTreeEditsRow.ifacesOut == Tryz.f5.resultTypes.toList.any (Tryz.pinned.checked.prog.ifacesRec ·))) = true := by kernel_rfl
theorem Le.j24 : (Tryz.pinned.checked.prog.stopsHeard) = true := by kernel_rfl
theorem Le.j28 : ((Rows.fnExactTreeEditsRow.kinds == (if Rows.fnExactTreeEditsRow.domain.isEmpty then [] else Tryz.f5.params.toList.map fun t => match Tryz.pinned.checked.prog.underlying t with | some (.int k) => some k | _ => none))) = true := by kernel_rfl
end Go.Proofs.YtfemaegbcfaolaaGreatDoor
