/- FnExactBoxesOf, part J3: the row's closed facts, one by one. Conditions: none. -/
import Derived.Test.YtjldolmokfnkoaaGreatDoorRows
import Derived.JoinedOf
import Derived.KernelRfl
namespace Go.Proofs.YtjldolmokfnkoaaGreatDoor
open Go
theorem Lb.j3 : (Tryz.f4.params.all (Tryz.pinned.checked.prog.readableRec ·)) = true := by kernel_rfl
theorem Lb.j7 : ((Rows.fnExactBoxesOfRow.knobs == [])) = true := by kernel_rfl
theorem Lb.j11 : ((Rows.fnExactBoxesOfRow.recurses == Tryz.pinned.checked.prog.recurses 4)) = true := by kernel_rfl
theorem Lb.j15 : ((Rows.fnExactBoxesOfRow.mapsOut == Tryz.pinned.checked.prog.mapsAmong Tryz.f4.resultTypes.toList)) = true := by kernel_rfl
theorem Lb.j19 : (Tryz.f4.resultTypes.all (fun t => Tryz.pinned.checked.prog.readableRec t && decide (t < Tryz.pinned.checked.prog.types.size))) = true := by kernel_rfl
theorem Lb.j23 : (Rows.fnExactBoxesOfRow.shortTexts.isNone) = true := by kernel_rfl
theorem Lb.j27 : ((Tryz.pinned.checked.prog.make == some Rows.fnExactBoxesOfRow.make)) = true := by kernel_rfl
theorem Lb.j31 : (Rows.fnExactBoxesOfRow.veiledFits Tryz.pinned.checked.prog Tryz.f4.params.toList (Tryz.f4.params.toList ++ Rows.fnExactBoxesOfSpec.plain.varTypes Tryz.pinned.checked.prog ++ Tryz.f4.resultTypes.toList)) = true := by kernel_rfl
end Go.Proofs.YtjldolmokfnkoaaGreatDoor
