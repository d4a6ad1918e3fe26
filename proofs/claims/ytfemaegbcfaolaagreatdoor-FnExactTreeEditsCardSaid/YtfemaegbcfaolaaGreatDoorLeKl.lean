/- FnExactTreeEdits, part Kl: the card's closed facts, one by one. Conditions: none. -/
import Derived.Test.YtfemaegbcfaolaaGreatDoorCards
import Derived.SevenTiedAt
import Derived.KernelRfl
namespace Go.Proofs.YtfemaegbcfaolaaGreatDoor
open Go
theorem Le.c0 : Rows.fnExactTreeEditsRow.wfByText (OpenSpec.ofChange Rows.fnExactTreeEditsSpec) = true := by kernel_rfl
theorem Le.c1 : Tryz.pinned.checked.prog.mainIs = some (true, "bf8080e7e9c0b28172da62622daa2ec7df7fd0600da0a1d2171d064359064c95".toList) := by kernel_rfl
theorem Le.c2 : Tryz.prog.funcNamed "loop.example/drawnanew/laws.FnExactTreeEdits" = some 5 := by kernel_rfl
theorem Le.c5 : false = Rows.fnExactTreeEditsRow.goesBy Tryz.pinned.checked.prog := by kernel_rfl
theorem Le.c3 : true = Tryz.pinned.checked.prog.looks [] := by kernel_rfl
theorem Le.c4_42 : Tryz.prog.wantsStandIn 42 = false := by kernel_rfl
end Go.Proofs.YtfemaegbcfaolaaGreatDoor
