/- FnExactDamageOf, part J3: the row's closed facts, one by one. Conditions: none. -/
import Derived.Test.YtjldolmokfnkoaaGreatDoorRows
import Derived.JoinedOf
import Derived.KernelRfl
namespace Go.Proofs.YtjldolmokfnkoaaGreatDoor
open Go
theorem Ly.j3 : (Tryz.f5.params.all (Tryz.pinned.checked.prog.readableRec ·)) = true := by kernel_rfl
theorem Ly.j7 : ((Rows.fnExactDamageOfRow.knobs == [])) = true := by kernel_rfl
theorem Ly.j11 : ((Rows.fnExactDamageOfRow.recurses == Tryz.pinned.checked.prog.recurses 5)) = true := by kernel_rfl
theorem Ly.j15 : ((Rows.fnExactDamageOfRow.mapsOut == Tryz.pinned.checked.prog.mapsAmong Tryz.f5.resultTypes.toList)) = true := by kernel_rfl
theorem Ly.j19 : (Tryz.f5.resultTypes.all (fun t => Tryz.pinned.checked.prog.readableRec t && decide (t < Tryz.pinned.checked.prog.types.size))) = true := by kernel_rfl
theorem Ly.j23 : (Rows.fnExactDamageOfRow.shortTexts.isNone) = true := by kernel_rfl
theorem Ly.j27 : ((Tryz.pinned.checked.prog.make == some Rows.fnExactDamageOfRow.make)) = true := by kernel_rfl
theorem Ly.j31 : (Rows.fnExactDamageOfRow.veiledFits Tryz.pinned.checked.prog Tryz.f5.params.toList (Tryz.f5.params.toList ++ Rows.fnExactDamageOfSpec.plain.varTypes Tryz.pinned.checked.prog ++ Tryz.f5.resultTypes.toList)) = true := by kernel_rfl
end Go.Proofs.YtjldolmokfnkoaaGreatDoor
