/- The stay of keys, part L: the card's closed facts, one by one. Conditions: none. -/
import Derived.Test.YtmbkipogmaimaaaGreatDoorCards
import Derived.SevenTiedAt
import Derived.KernelRfl
namespace Go.Proofs.YtmbkipogmaimaaaGreatDoor
open Go
theorem Ks.c0 : Rows.fnKeysStayRow.wfByText (OpenSpec.ofChange Rows.fnKeysStaySpec) = true := by kernel_rfl
theorem Ks.c1 : Tryz.pinned.checked.prog.mainIs = some (true, "be619745dd6e1f287064009d88dba8d27d4a622da8f4f7578886f1a9d81ba292".toList) := by kernel_rfl
theorem Ks.c2 : Tryz.prog.funcNamed "loop.example/drawnanew/laws.FnKeysStay" = some 4 := by kernel_rfl
theorem Ks.c4 : Tryz.prog.wantsStandIn 22 = false := by kernel_rfl
theorem Ks.c5 : false = Rows.fnKeysStayRow.goesBy Tryz.pinned.checked.prog := by kernel_rfl
theorem Ks.c3 : true = Tryz.pinned.checked.prog.looks [] := by kernel_rfl
end Go.Proofs.YtmbkipogmaimaaaGreatDoor
