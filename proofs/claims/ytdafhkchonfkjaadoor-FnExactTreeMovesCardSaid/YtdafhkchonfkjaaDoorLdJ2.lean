/- FnExactTreeMoves, part J2: the row's closed facts, one by one. Conditions: none. -/
import Derived.Test.YtdafhkchonfkjaaDoorRows
import Derived.JoinedOf
import Derived.KernelRfl
namespace Go.Proofs.YtdafhkchonfkjaaDoor
open Go
theorem Ld.j2 : (mapsRowed Tryd.pinned.checked.prog) = true := by kernel_rfl
theorem Ld.j6 : ((Tryd.pinned.checked.prog.stops == [])) = true := by kernel_rfl
theorem Ld.j10 : ((Rows.fnExactTreeMovesRow.unfollowed == Tryd.pinned.checked.prog.unfollowed 3)) = true := by kernel_rfl
theorem Ld.j14 : ((Rows.fnExactTreeMovesRow.ifaces == (Tryd.f3.params.toList ++ Rows.fnExactTreeMovesSpec.plain.varTypes Tryd.pinned.checked.prog).any (Tryd.pinned.checked.prog.ifacesRec ·))) = true := by kernel_rfl
theorem Ld.j18 : (Rows.fnExactTreeMovesSpec.vars.all (Tryd.pinned.checked.prog.varReadable ·)) = true := by kernel_rfl
theorem Ld.j22 : ((Rows.fnExactTreeMovesRow.plainKeys == Tryd.pinned.checked.prog.plainKeys)) = true := by kernel_rfl
theorem Ld.j26 : ((Rows.fnExactTreeMovesRow.lifted == Tryd.pinned.checked.prog.liftsFinal)) = true := by kernel_rfl
theorem Ld.j30 : ((Rows.fnExactTreeMovesRow.veiled == (Tryd.f3.params.toList ++ Rows.fnExactTreeMovesSpec.plain.varTypes Tryd.pinned.checked.prog ++ Tryd.f3.resultTypes.toList).any (Tryd.pinned.checked.prog.veiledRec ·))) = true := by kernel_rfl
end Go.Proofs.YtdafhkchonfkjaaDoor
