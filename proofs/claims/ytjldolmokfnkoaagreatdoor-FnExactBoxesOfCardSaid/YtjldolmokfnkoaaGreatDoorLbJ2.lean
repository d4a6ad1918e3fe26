/- FnExactBoxesOf, part J2: the row's closed facts, one by one. Conditions: none. -/
import Derived.Test.YtjldolmokfnkoaaGreatDoorRows
import Derived.JoinedOf
import Derived.KernelRfl
namespace Go.Proofs.YtjldolmokfnkoaaGreatDoor
open Go
theorem Lb.j2 : (mapsRowed Tryz.pinned.checked.prog) = true := by kernel_rfl
theorem Lb.j6 : ((Tryz.pinned.checked.prog.stops == [])) = true := by kernel_rfl
theorem Lb.j10 : ((Rows.fnExactBoxesOfRow.unfollowed == Tryz.pinned.checked.prog.unfollowed 4)) = true := by kernel_rfl
theorem Lb.j14 : ((Rows.fnExactBoxesOfRow.ifaces == (Tryz.f4.params.toList ++ Rows.fnExactBoxesOfSpec.plain.varTypes Tryz.pinned.checked.prog).any (Tryz.pinned.checked.prog.ifacesRec ·))) = true := by kernel_rfl
theorem Lb.j18 : (Rows.fnExactBoxesOfSpec.vars.all (Tryz.pinned.checked.prog.varReadable ·)) = true := by kernel_rfl
theorem Lb.j22 : ((Rows.fnExactBoxesOfRow.plainKeys == Tryz.pinned.checked.prog.plainKeys)) = true := by kernel_rfl
theorem Lb.j26 : ((Rows.fnExactBoxesOfRow.lifted == Tryz.pinned.checked.prog.liftsFinal)) = true := by kernel_rfl
theorem Lb.j30 : ((Rows.fnExactBoxesOfRow.veiled == (Tryz.f4.params.toList ++ Rows.fnExactBoxesOfSpec.plain.varTypes Tryz.pinned.checked.prog ++ Tryz.f4.resultTypes.toList).any (Tryz.pinned.checked.prog.veiledRec ·))) = true := by kernel_rfl
end Go.Proofs.YtjldolmokfnkoaaGreatDoor
