/- The stay of keys, part J2: the row's closed facts, one by one. Conditions: none. -/
import Derived.Test.YtmbkipogmaimaaaGreatDoorRows
import Derived.JoinedOf
import Derived.KernelRfl
namespace Go.Proofs.YtmbkipogmaimaaaGreatDoor
open Go
theorem Ks.j2 : (mapsRowed Tryz.pinned.checked.prog) = true := by kernel_rfl
theorem Ks.j6 : ((Tryz.pinned.checked.prog.stops == [])) = true := by kernel_rfl
theorem Ks.j10 : ((Rows.fnKeysStayRow.unfollowed == Tryz.pinned.checked.prog.unfollowed 4)) = true := by kernel_rfl
theorem Ks.j14 : ((Rows.fnKeysStayRow.ifaces == (Tryz.f4.params.toList ++ Rows.fnKeysStaySpec.plain.varTypes Tryz.pinned.checked.prog).any (Tryz.pinned.checked.prog.ifacesRec ·))) = true := by kernel_rfl
theorem Ks.j18 : (Rows.fnKeysStaySpec.vars.all (Tryz.pinned.checked.prog.varReadable ·)) = true := by kernel_rfl
theorem Ks.j22 : ((Rows.fnKeysStayRow.plainKeys == Tryz.pinned.checked.prog.plainKeys)) = true := by kernel_rfl
theorem Ks.j26 : ((Rows.fnKeysStayRow.lifted == Tryz.pinned.checked.prog.liftsFinal)) = true := by kernel_rfl
theorem Ks.j30 : ((Rows.fnKeysStayRow.veiled == (Tryz.f4.params.toList ++ Rows.fnKeysStaySpec.plain.varTypes Tryz.pinned.checked.prog ++ Tryz.f4.resultTypes.toList).any (Tryz.pinned.checked.prog.veiledRec ·))) = true := by kernel_rfl
end Go.Proofs.YtmbkipogmaimaaaGreatDoor
