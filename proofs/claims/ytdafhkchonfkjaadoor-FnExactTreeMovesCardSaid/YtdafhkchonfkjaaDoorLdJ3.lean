/- FnExactTreeMoves, part J3: the row's closed facts, one by one. Conditions: none. -/
import Derived.Test.YtdafhkchonfkjaaDoorRows
import Derived.JoinedOf
import Derived.KernelRfl
namespace Go.Proofs.YtdafhkchonfkjaaDoor
open Go
theorem Ld.j3 : (Tryd.f3.params.all (Tryd.pinned.checked.prog.readableRec ·)) = true := by kernel_rfl
theorem Ld.j7 : ((Rows.fnExactTreeMovesRow.knobs == [])) = true := by kernel_rfl
theorem Ld.j11 : ((Rows.fnExactTreeMovesRow.recurses == Tryd.pinned.checked.prog.recurses 3)) = true := by kernel_rfl
theorem Ld.j15 : ((Rows.fnExactTreeMovesRow.mapsOut == Tryd.pinned.checked.prog.mapsAmong Tryd.f3.resultTypes.toList)) = true := by kernel_rfl
theorem Ld.j19 : (Tryd.f3.resultTypes.all (fun t => Tryd.pinned.checked.prog.readableRec t && decide (t < Tryd.pinned.checked.prog.types.size))) = true := by kernel_rfl
theorem Ld.j23 : (Rows.fnExactTreeMovesRow.shortTexts.isNone) = true := by kernel_rfl
theorem Ld.j27 : ((Tryd.pinned.checked.prog.make == some Rows.fnExactTreeMovesRow.make)) = true := by kernel_rfl
theorem Ld.j31 : (Rows.fnExactTreeMovesRow.veiledFits Tryd.pinned.checked.prog Tryd.f3.params.toList (Tryd.f3.params.toList ++ Rows.fnExactTreeMovesSpec.plain.varTypes Tryd.pinned.checked.prog ++ Tryd.f3.resultTypes.toList)) = true := by kernel_rfl
end Go.Proofs.YtdafhkchonfkjaaDoor
