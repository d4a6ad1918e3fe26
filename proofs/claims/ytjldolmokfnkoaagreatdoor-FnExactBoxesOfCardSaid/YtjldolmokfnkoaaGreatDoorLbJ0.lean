/- FnExactBoxesOf, part J0: the row's closed facts, one by one. Conditions: none. -/
import Derived.Test.YtjldolmokfnkoaaGreatDoorRows
import Derived.JoinedOf
import Derived.KernelRfl
namespace Go.Proofs.YtjldolmokfnkoaaGreatDoor
open Go
theorem Lb.j0 : (Rows.fnExactBoxesOfRow.wf (OpenSpec.ofChange Rows.fnExactBoxesOfSpec)) = true := by kernel_rfl
theorem Lb.j4 : (namedTie Tryz.pinned.checked.prog Rows.fnExactBoxesOfRow.named Rows.fnExactBoxesOfSpec.vars) = true := by kernel_rfl
theorem Lb.j8 : ((Tryz.pinned.checked.prog.stopKnobs == [])) = true := by kernel_rfl
theorem Lb.j12 : ((Rows.fnExactBoxesOfRow.named == Tryz.pinned.checked.prog.varsNamed 4)) = true := by kernel_rfl
theorem Lb.j16 : ((Rows.fnExactBoxesOfRow.loops == (Tryz.f4.params.toList ++ Rows.fnExactBoxesOfSpec.plain.varTypes Tryz.pinned.checked.prog).any (Tryz.pinned.checked.prog.loopsFrom ·))) = true := by kernel_rfl
theorem Lb.j20 : ((Rows.fnExactBoxesOfRow.ifacesOut == Tryz.f4.resultTypes.toList.any (Tryz.pinned.checked.prog.ifacesRec ·))) = true := by kernel_rfl
theorem Lb.j24 : (Tryz.pinned.checked.prog.stopsHeard) = true := by kernel_rfl
theorem Lb.j28 : ((Rows.fnExactBoxesOfRow.kinds == (if Rows.fnExactBoxesOfRow.domain.isEmpty then [] else Tryz.f4.params.toList.map fun t => match Tryz.pinned.checked.prog.underlying t with | some (.int k) => some k | _ => none))) = true := by kernel_rfl
end Go.Proofs.YtjldolmokfnkoaaGreatDoor
