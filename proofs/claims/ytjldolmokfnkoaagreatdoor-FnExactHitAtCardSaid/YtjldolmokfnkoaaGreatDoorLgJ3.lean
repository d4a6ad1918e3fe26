/- FnExactHitAt, part J3: the row's closed facts, one by one. Conditions: none. -/
import Derived.Test.YtjldolmokfnkoaaGreatDoorRows
import Derived.JoinedOf
import Derived.KernelRfl
namespace Go.Proofs.YtjldolmokfnkoaaGreatDoor
open Go
theorem Lg.j3 : (Tryz.f3.params.all (Tryz.pinned.checked.prog.readableRec ·)) = true := by kernel_rfl
theorem Lg.j7 : ((Rows.fnExactHitAtRow.knobs == [])) = true := by kernel_rfl
theorem Lg.j11 : ((Rows.fnExactHitAtRow.recurses == Tryz.pinned.checked.prog.recurses 3)) = true := by kernel_rfl
theorem Lg.j15 : ((Rows.fnExactHitAtRow.mapsOut == Tryz.pinned.checked.prog.mapsAmong Tryz.f3.resultTypes.toList)) = true := by kernel_rfl
theorem Lg.j19 : (Tryz.f3.resultTypes.all (fun t => Tryz.pinned.checked.prog.readableRec t && decide (t < Tryz.pinned.checked.prog.types.size))) = true := by kernel_rfl
theorem Lg.j23 : (Rows.fnExactHitAtRow.shortTexts.isNone) = true := by kernel_rfl
theorem Lg.j27 : ((Tryz.pinned.checked.prog.make == some Rows.fnExactHitAtRow.make)) = true := by kernel_rfl
theorem Lg.j31 : (Rows.fnExactHitAtRow.veiledFits Tryz.pinned.checked.prog Tryz.f3.params.toList (Tryz.f3.params.toList ++ Rows.fnExactHitAtSpec.plain.varTypes Tryz.pinned.checked.prog ++ Tryz.f3.resultTypes.toList)) = true := by kernel_rfl
end Go.Proofs.YtjldolmokfnkoaaGreatDoor
