/- FnExactBoxesMoved, part J3: the row's closed facts, one by one. Conditions: none. -/
import Derived.Test.YtjldolmokfnkoaaGreatDoorRows
import Derived.JoinedOf
import Derived.KernelRfl
namespace Go.Proofs.YtjldolmokfnkoaaGreatDoor
open Go
theorem Lw.j3 : (Tryz.f7.params.all (Tryz.pinned.checked.prog.readableRec ·)) = true := by kernel_rfl
theorem Lw.j7 : ((Rows.fnExactBoxesMovedRow.knobs == [])) = true := by kernel_rfl
theorem Lw.j11 : ((Rows.fnExactBoxesMovedRow.recurses == Tryz.pinned.checked.prog.recurses 7)) = true := by kernel_rfl
theorem Lw.j15 : ((Rows.fnExactBoxesMovedRow.mapsOut == Tryz.pinned.checked.prog.mapsAmong Tryz.f7.resultTypes.toList)) = true := by kernel_rfl
theorem Lw.j19 : (Tryz.f7.resultTypes.all (fun t => Tryz.pinned.checked.prog.readableRec t && decide (t < Tryz.pinned.checked.prog.types.size))) = true := by kernel_rfl
theorem Lw.j23 : (Rows.fnExactBoxesMovedRow.shortTexts.isNone) = true := by kernel_rfl
theorem Lw.j27 : ((Tryz.pinned.checked.prog.make == some Rows.fnExactBoxesMovedRow.make)) = true := by kernel_rfl
theorem Lw.j31 : (Rows.fnExactBoxesMovedRow.veiledFits Tryz.pinned.checked.prog Tryz.f7.params.toList (Tryz.f7.params.toList ++ Rows.fnExactBoxesMovedSpec.plain.varTypes Tryz.pinned.checked.prog ++ Tryz.f7.resultTypes.toList)) = true := by kernel_rfl
end Go.Proofs.YtjldolmokfnkoaaGreatDoor
