/- FnExactBoxesMoved, part J0: the row's closed facts, one by one. Conditions: none. -/
import Derived.Test.YtjldolmokfnkoaaGreatDoorRows
import Derived.JoinedOf
import Derived.KernelRfl
namespace Go.Proofs.YtjldolmokfnkoaaGreatDoor
open Go
theorem Lw.j0 : (Rows.fnExactBoxesMovedRow.wf (OpenSpec.ofChange Rows.fnExactBoxesMovedSpec)) = true := by kernel_rfl
theorem Lw.j4 : (namedTie Tryz.pinned.checked.prog Rows.fnExactBoxesMovedRow.named Rows.fnExactBoxesMovedSpec.vars) = true := by kernel_rfl
theorem Lw.j8 : ((Tryz.pinned.checked.prog.stopKnobs == [])) = true := by kernel_rfl
theorem Lw.j12 : ((Rows.fnExactBoxesMovedRow.named == Tryz.pinned.checked.prog.varsNamed 7)) = true := by kernel_rfl
theorem Lw.j16 : ((Rows.fnExactBoxesMovedRow.loops == (Tryz.f7.params.toList ++ Rows.fnExactBoxesMovedSpec.plain.varTypes Tryz.pinned.checked.prog).any (Tryz.pinned.checked.prog.loopsFrom ·))) = true := by kernel_rfl
theorem Lw.j20 : ((Rows.fnExactBoxesMovedRow.ifacesOut == Tryz.f7.resultTypes.toList.any (Tryz.pinned.checked.prog.ifacesRec ·))) = true := by kernel_rfl
theorem Lw.j24 : (Tryz.pinned.checked.prog.stopsHeard) = true := by kernel_rfl
theorem Lw.j28 : ((Rows.fnExactBoxesMovedRow.kinds == (if Rows.fnExactBoxesMovedRow.domain.isEmpty then [] else Tryz.f7.params.toList.map fun t => match Tryz.pinned.checked.prog.underlying t with | some (.int k) => some k | _ => none))) = true := by kernel_rfl
end Go.Proofs.YtjldolmokfnkoaaGreatDoor
