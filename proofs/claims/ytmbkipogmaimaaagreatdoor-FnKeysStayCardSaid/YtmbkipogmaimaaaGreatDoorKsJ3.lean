/- The stay of keys, part J3: the row's closed facts, one by one. Conditions: none. -/
import Derived.Test.YtmbkipogmaimaaaGreatDoorRows
import Derived.JoinedOf
import Derived.KernelRfl
namespace Go.Proofs.YtmbkipogmaimaaaGreatDoor
open Go
theorem Ks.j3 : (Tryz.f4.params.all (Tryz.pinned.checked.prog.readableRec ·)) = true := by kernel_rfl
theorem Ks.j7 : ((Rows.fnKeysStayRow.knobs == [])) = true := by kernel_rfl
theorem Ks.j11 : ((Rows.fnKeysStayRow.recurses == Tryz.pinned.checked.prog.recurses 4)) = true := by kernel_rfl
theorem Ks.j15 : ((Rows.fnKeysStayRow.mapsOut == Tryz.pinned.checked.prog.mapsAmong Tryz.f4.resultTypes.toList)) = true := by kernel_rfl
theorem Ks.j19 : (Tryz.f4.resultTypes.all (fun t => Tryz.pinned.checked.prog.readableRec t && decide (t < Tryz.pinned.checked.prog.types.size))) = true := by kernel_rfl
theorem Ks.j23 : (Rows.fnKeysStayRow.shortTexts.isNone) = true := by kernel_rfl
theorem Ks.j27 : ((Tryz.pinned.checked.prog.make == some Rows.fnKeysStayRow.make)) = true := by kernel_rfl
theorem Ks.j31 : (Rows.fnKeysStayRow.veiledFits Tryz.pinned.checked.prog Tryz.f4.params.toList (Tryz.f4.params.toList ++ Rows.fnKeysStaySpec.plain.varTypes Tryz.pinned.checked.prog ++ Tryz.f4.resultTypes.toList)) = true := by kernel_rfl
end Go.Proofs.YtmbkipogmaimaaaGreatDoor
