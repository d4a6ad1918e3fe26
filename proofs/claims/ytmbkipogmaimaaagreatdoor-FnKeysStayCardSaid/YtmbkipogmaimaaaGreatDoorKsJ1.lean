/- The stay of keys, part J1: the row's closed facts, one by one. Conditions: none. -/
import Derived.Test.YtmbkipogmaimaaaGreatDoorRows
import Derived.JoinedOf
import Derived.KernelRfl
namespace Go.Proofs.YtmbkipogmaimaaaGreatDoor
open Go
theorem Ks.j1 : (laidOutB Tryz.pinned.checked.prog) = true := by kernel_rfl
theorem Ks.j5 : ((Rows.fnKeysStayRow.stops == [])) = true := by kernel_rfl
theorem Ks.j9 : ((Rows.fnKeysStayRow.inPlace == Tryz.pinned.checked.prog.inPlace 4)) = true := by kernel_rfl
theorem Ks.j13 : ((Rows.fnKeysStayRow.maps == (Tryz.f4.params.toList ++ Rows.fnKeysStaySpec.plain.varTypes Tryz.pinned.checked.prog).any (Tryz.pinned.checked.prog.mapsRec ·))) = true := by kernel_rfl
theorem Ks.j17 : ((Rows.fnKeysStayRow.wideKeys == (Tryz.f4.params.toList ++ Rows.fnKeysStaySpec.plain.varTypes Tryz.pinned.checked.prog ++ Tryz.f4.resultTypes.toList).any (Tryz.pinned.checked.prog.wideKeysFrom ·))) = true := by kernel_rfl
theorem Ks.j21 : ((Rows.fnKeysStayRow.loopsOut == Tryz.f4.resultTypes.toList.any (Tryz.pinned.checked.prog.loopsFrom ·))) = true := by kernel_rfl
theorem Ks.j25 : (Tryz.pinned.checked.prog.mayEnter) = true := by kernel_rfl
theorem Ks.j29 : ((Rows.fnKeysStayRow.pinned == Rows.fnKeysStayRow.pinnedBy)) = true := by kernel_rfl
end Go.Proofs.YtmbkipogmaimaaaGreatDoor
