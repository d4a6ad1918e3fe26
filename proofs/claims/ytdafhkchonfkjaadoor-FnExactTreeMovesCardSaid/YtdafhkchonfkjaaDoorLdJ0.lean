/- FnExactTreeMoves, part J0: the row's closed facts, one by one. Conditions: none. -/
import Derived.Test.YtdafhkchonfkjaaDoorRows
import Derived.JoinedOf
import Derived.KernelRfl
namespace Go.Proofs.YtdafhkchonfkjaaDoor
open Go
theorem Ld.j0 : (Rows.fnExactTreeMovesRow.wf (OpenSpec.ofChange Rows.fnExactTreeMovesSpec)) = true := by kernel_rfl
theorem Ld.j4 : (namedTie Tryd.pinned.checked.prog Rows.fnExactTreeMovesRow.named Rows.fnExactTreeMovesSpec.vars) = true := by kernel_rfl
theorem Ld.j8 : ((Tryd.pinned.checked.prog.stopKnobs == [])) = true := by kernel_rfl
theorem Ld.j12 : ((Rows.fnExactTreeMovesRow.named == Tryd.pinned.checked.prog.varsNamed 3)) = true := by kernel_rfl
theorem Ld.j16 : ((Rows.fnExactTreeMovesRow.loops == (Tryd.f3.params.toList ++ Rows.fnExactTreeMovesSpec.plain.varTypes Tryd.pinned.checked.prog).any (Tryd.pinned.checked.prog.loopsFrom ·))) = true := by kernel_rfl
theorem Ld.j20 : ((Rows.fnExactTreeMovesRow.ifacesOut == Tryd.f3.resultTypes.toList.any (Tryd.pinned.checked.prog.ifacesRec ·))) = true := by kernel_rfl
theorem Ld.j24 : (Tryd.pinned.checked.prog.stopsHeard) = true := by kernel_rfl
theorem Ld.j28 : ((Rows.fnExactTreeMovesRow.kinds == (if Rows.fnExactTreeMovesRow.domain.isEmpty then [] else Tryd.f3.params.toList.map fun t => match Tryd.pinned.checked.prog.underlying t with | some (.int k) => some k | _ => none))) = true := by kernel_rfl
end Go.Proofs.YtdafhkchonfkjaaDoor
