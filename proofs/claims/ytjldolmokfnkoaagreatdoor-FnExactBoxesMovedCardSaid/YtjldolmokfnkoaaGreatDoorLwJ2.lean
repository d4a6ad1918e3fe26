/- FnExactBoxesMoved, part J2: the row's closed facts, one by one. Conditions: none. -/
import Derived.Test.YtjldolmokfnkoaaGreatDoorRows
import Derived.JoinedOf
import Derived.KernelRfl
namespace Go.Proofs.YtjldolmokfnkoaaGreatDoor
open Go
theorem Lw.j2 : (mapsRowed Tryz.pinned.checked.prog) = true := by kernel_rfl
theorem Lw.j6 : ((Tryz.pinned.checked.prog.stops == [])) = true := by kernel_rfl
theorem Lw.j10 : ((Rows.fnExactBoxesMovedRow.unfollowed == Tryz.pinned.checked.prog.unfollowed 7)) = true := by kernel_rfl
theorem Lw.j14 : ((Rows.fnExactBoxesMovedRow.ifaces == (Tryz.f7.params.toList ++ Rows.fnExactBoxesMovedSpec.plain.varTypes Tryz.pinned.checked.prog).any (Tryz.pinned.checked.prog.ifacesRec ·))) = true := by kernel_rfl
theorem Lw.j18 : (Rows.fnExactBoxesMovedSpec.vars.all (Tryz.pinned.checked.prog.varReadable ·)) = true := by kernel_rfl
theorem Lw.j22 : ((Rows.fnExactBoxesMovedRow.plainKeys == Tryz.pinned.checked.prog.plainKeys)) = true := by kernel_rfl
theorem Lw.j26 : ((Rows.fnExactBoxesMovedRow.lifted == Tryz.pinned.checked.prog.liftsFinal)) = true := by kernel_rfl
theorem Lw.j30 : ((Rows.fnExactBoxesMovedRow.veiled == (Tryz.f7.params.toList ++ Rows.fnExactBoxesMovedSpec.plain.varTypes Tryz.pinned.checked.prog ++ Tryz.f7.resultTypes.toList).any (Tryz.pinned.checked.prog.veiledRec ·))) = true := by kernel_rfl
end Go.Proofs.YtjldolmokfnkoaaGreatDoor
