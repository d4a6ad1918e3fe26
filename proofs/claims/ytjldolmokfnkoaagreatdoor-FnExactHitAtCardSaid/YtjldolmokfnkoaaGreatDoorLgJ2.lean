/- FnExactHitAt, part J2: the row's closed facts, one by one. Conditions: none. -/
import Derived.Test.YtjldolmokfnkoaaGreatDoorRows
import Derived.JoinedOf
import Derived.KernelRfl
namespace Go.Proofs.YtjldolmokfnkoaaGreatDoor
open Go
theorem Lg.j2 : (mapsRowed Tryz.pinned.checked.prog) = true := by kernel_rfl
theorem Lg.j6 : ((Tryz.pinned.checked.prog.stops == [])) = true := by kernel_rfl
theorem Lg.j10 : ((Rows.fnExactHitAtRow.unfollowed == Tryz.pinned.checked.prog.unfollowed 3)) = true := by kernel_rfl
theorem Lg.j14 : ((Rows.fnExactHitAtRow.ifaces == (Tryz.f3.params.toList ++ Rows.fnExactHitAtSpec.plain.varTypes Tryz.pinned.checked.prog).any (Tryz.pinned.checked.prog.ifacesRec ·))) = true := by kernel_rfl
theorem Lg.j18 : (Rows.fnExactHitAtSpec.vars.all (Tryz.pinned.checked.prog.varReadable ·)) = true := by kernel_rfl
theorem Lg.j22 : ((Rows.fnExactHitAtRow.plainKeys == Tryz.pinned.checked.prog.plainKeys)) = true := by kernel_rfl
theorem Lg.j26 : ((Rows.fnExactHitAtRow.lifted == Tryz.pinned.checked.prog.liftsFinal)) = true := by kernel_rfl
theorem Lg.j30 : ((Rows.fnExactHitAtRow.veiled == (Tryz.f3.params.toList ++ Rows.fnExactHitAtSpec.plain.varTypes Tryz.pinned.checked.prog ++ Tryz.f3.resultTypes.toList).any (Tryz.pinned.checked.prog.veiledRec ·))) = true := by kernel_rfl
end Go.Proofs.YtjldolmokfnkoaaGreatDoor
