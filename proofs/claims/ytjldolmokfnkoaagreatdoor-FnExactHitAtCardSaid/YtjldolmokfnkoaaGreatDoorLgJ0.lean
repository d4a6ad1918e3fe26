/- FnExactHitAt, part J0: the row's closed facts, one by one. Conditions: none. -/
import Derived.Test.YtjldolmokfnkoaaGreatDoorRows
import Derived.JoinedOf
import Derived.KernelRfl
namespace Go.Proofs.YtjldolmokfnkoaaGreatDoor
open Go
theorem Lg.j0 : (Rows.fnExactHitAtRow.wf (OpenSpec.ofChange Rows.fnExactHitAtSpec)) = true := by kernel_rfl
theorem Lg.j4 : (namedTie Tryz.pinned.checked.prog Rows.fnExactHitAtRow.named Rows.fnExactHitAtSpec.vars) = true := by kernel_rfl
theorem Lg.j8 : ((Tryz.pinned.checked.prog.stopKnobs == [])) = true := by kernel_rfl
theorem Lg.j12 : ((Rows.fnExactHitAtRow.named == Tryz.pinned.checked.prog.varsNamed 3)) = true := by kernel_rfl
theorem Lg.j16 : ((Rows.fnExactHitAtRow.loops == (Tryz.f3.params.toList ++ Rows.fnExactHitAtSpec.plain.varTypes Tryz.pinned.checked.prog).any (Tryz.pinned.checked.prog.loopsFrom ·))) = true := by kernel_rfl
theorem Lg.j20 : ((Rows.fnExactHitAtRow.ifacesOut == Tryz.f3.resultTypes.toList.any (Tryz.pinned.checked.prog.ifacesRec ·))) = true := by kernel_rfl
theorem Lg.j24 : (Tryz.pinned.checked.prog.stopsHeard) = true := by kernel_rfl
theorem Lg.j28 : ((Rows.fnExactHitAtRow.kinds == (if Rows.fnExactHitAtRow.domain.isEmpty then [] else Tryz.f3.params.toList.map fun t => match Tryz.pinned.checked.prog.underlying t with | some (.int k) => some k | _ => none))) = true := by kernel_rfl
end Go.Proofs.YtjldolmokfnkoaaGreatDoor
