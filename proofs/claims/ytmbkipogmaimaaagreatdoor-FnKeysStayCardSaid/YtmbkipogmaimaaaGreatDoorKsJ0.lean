/- The stay of keys, part J0: the row's closed facts, one by one. Conditions: none. -/
import Derived.Test.YtmbkipogmaimaaaGreatDoorRows
import Derived.JoinedOf
import Derived.KernelRfl
namespace Go.Proofs.YtmbkipogmaimaaaGreatDoor
open Go
theorem Ks.j0 : (Rows.fnKeysStayRow.wf (OpenSpec.ofChange Rows.fnKeysStaySpec)) = true := by kernel_rfl
theorem Ks.j4 : (namedTie Tryz.pinned.checked.prog Rows.fnKeysStayRow.named Rows.fnKeysStaySpec.vars) = true := by kernel_rfl
theorem Ks.j8 : ((Tryz.pinned.checked.prog.stopKnobs == [])) = true := by kernel_rfl
theorem Ks.j12 : ((Rows.fnKeysStayRow.named == Tryz.pinned.checked.prog.varsNamed 4)) = true := by kernel_rfl
theorem Ks.j16 : ((Rows.fnKeysStayRow.loops == (Tryz.f4.params.toList ++ Rows.fnKeysStaySpec.plain.varTypes Tryz.pinned.checked.prog).any (Tryz.pinned.checked.prog.loopsFrom ·))) = true := by kernel_rfl
theorem Ks.j20 : ((Rows.fnKeysStayRow.ifacesOut == Tryz.f4.resultTypes.toList.any (Tryz.pinned.checked.prog.ifacesRec ·))) = true := by kernel_rfl
theorem Ks.j24 : (Tryz.pinned.checked.prog.stopsHeard) = true := by kernel_rfl
theorem Ks.j28 : ((Rows.fnKeysStayRow.kinds == (if Rows.fnKeysStayRow.domain.isEmpty then [] else Tryz.f4.params.toList.map fun t => match Tryz.pinned.checked.prog.underlying t with | some (.int k) => some k | _ => none))) = true := by kernel_rfl
end Go.Proofs.YtmbkipogmaimaaaGreatDoor
