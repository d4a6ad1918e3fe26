/- FnExactDamageOf, part J0: the row's closed facts, one by one. Conditions: none. -/
import Derived.Test.YtjldolmokfnkoaaGreatDoorRows
import Derived.JoinedOf
import Derived.KernelRfl
namespace Go.Proofs.YtjldolmokfnkoaaGreatDoor
open Go
theorem Ly.j0 : (Rows.fnExactDamageOfRow.wf (OpenSpec.ofChange Rows.fnExactDamageOfSpec)) = true := by kernel_rfl
theorem Ly.j4 : (namedTie Tryz.pinned.checked.prog Rows.fnExactDamageOfRow.named Rows.fnExactDamageOfSpec.vars) = true := by kernel_rfl
theorem Ly.j8 : ((Tryz.pinned.checked.prog.stopKnobs == [])) = true := by kernel_rfl
theorem Ly.j12 : ((Rows.fnExactDamageOfRow.named == Tryz.pinned.checked.prog.varsNamed 5)) = true := by kernel_rfl
theorem Ly.j16 : ((Rows.fnExactDamageOfRow.loops == (Tryz.f5.params.toList ++ Rows.fnExactDamageOfSpec.plain.varTypes Tryz.pinned.checked.prog).any (Tryz.pinned.checked.prog.loopsFrom ·))) = true := by kernel_rfl
theorem Ly.j20 : ((Rows.fnExactDamageOfRow.ifacesOut == Tryz.f5.resultTypes.toList.any (Tryz.pinned.checked.prog.ifacesRec ·))) = true := by kernel_rfl
theorem Ly.j24 : (Tryz.pinned.checked.prog.stopsHeard) = true := by kernel_rfl
theorem Ly.j28 : ((Rows.fnExactDamageOfRow.kinds == (if Rows.fnExactDamageOfRow.domain.isEmpty then [] else Tryz.f5.params.toList.map fun t => match Tryz.pinned.checked.prog.underlying t with | some (.int k) => some k | _ => none))) = true := by kernel_rfl
end Go.Proofs.YtjldolmokfnkoaaGreatDoor
