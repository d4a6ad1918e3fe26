/- FnExactDamageOf, part J2: the row's closed facts, one by one. Conditions: none. -/
import Derived.Test.YtjldolmokfnkoaaGreatDoorRows
import Derived.JoinedOf
import Derived.KernelRfl
namespace Go.Proofs.YtjldolmokfnkoaaGreatDoor
open Go
theorem Ly.j2 : (mapsRowed Tryz.pinned.checked.prog) = true := by kernel_rfl
theorem Ly.j6 : ((Tryz.pinned.checked.prog.stops == [])) = true := by kernel_rfl
theorem Ly.j10 : ((Rows.fnExactDamageOfRow.unfollowed == Tryz.pinned.checked.prog.unfollowed 5)) = true := by kernel_rfl
theorem Ly.j14 : ((Rows.fnExactDamageOfRow.ifaces == (Tryz.f5.params.toList ++ Rows.fnExactDamageOfSpec.plain.varTypes Tryz.pinned.checked.prog).any (Tryz.pinned.checked.prog.ifacesRec ·))) = true := by kernel_rfl
theorem Ly.j18 : (Rows.fnExactDamageOfSpec.vars.all (Tryz.pinned.checked.prog.varReadable ·)) = true := by kernel_rfl
theorem Ly.j22 : ((Rows.fnExactDamageOfRow.plainKeys == Tryz.pinned.checked.prog.plainKeys)) = true := by kernel_rfl
theorem Ly.j26 : ((Rows.fnExactDamageOfRow.lifted == Tryz.pinned.checked.prog.liftsFinal)) = true := by kernel_rfl
theorem Ly.j30 : ((Rows.fnExactDamageOfRow.veiled == (Tryz.f5.params.toList ++ Rows.fnExactDamageOfSpec.plain.varTypes Tryz.pinned.checked.prog ++ Tryz.f5.resultTypes.toList).any (Tryz.pinned.checked.prog.veiledRec ·))) = true := by kernel_rfl
end Go.Proofs.YtjldolmokfnkoaaGreatDoor
