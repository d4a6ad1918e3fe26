/- FnExactTreeMoves, part Kl: the card's closed facts, one by one. Conditions: none. -/
import Derived.Test.YtdafhkchonfkjaaDoorCards
import Derived.SevenTiedAt
import Derived.KernelRfl
namespace Go.Proofs.YtdafhkchonfkjaaDoor
open Go
theorem Ld.c0 : Rows.fnExactTreeMovesRow.wfByText (OpenSpec.ofChange Rows.fnExactTreeMovesSpec) = true := by kernel_rfl
theorem Ld.c1 : Tryd.pinned.checked.prog.mainIs = some (true, "c76685928ec95e2b72a9a3460397519566aa348985b96e8312465f7584dfafe3".toList) := by kernel_rfl
theorem Ld.c2 : Tryd.prog.funcNamed "loop.example/drawnanew/laws.FnExactTreeMoves" = some 3 := by kernel_rfl
theorem Ld.c5 : false = Rows.fnExactTreeMovesRow.goesBy Tryd.pinned.checked.prog := by kernel_rfl
theorem Ld.c3 : true = Tryd.pinned.checked.prog.looks [] := by kernel_rfl
theorem Ld.c4_3 : Tryd.prog.wantsStandIn 3 = false := by kernel_rfl
theorem Ld.c4_25 : Tryd.prog.wantsStandIn 25 = false := by kernel_rfl
end Go.Proofs.YtdafhkchonfkjaaDoor
