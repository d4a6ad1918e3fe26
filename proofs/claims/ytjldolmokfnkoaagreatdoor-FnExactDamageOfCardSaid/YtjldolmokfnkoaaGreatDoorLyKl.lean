/- FnExactDamageOf, part Kl: the card's closed facts, one by one. Conditions: none. -/
import Derived.Test.YtjldolmokfnkoaaGreatDoorCards
import Derived.SevenTiedAt
import Derived.KernelRfl
namespace Go.Proofs.YtjldolmokfnkoaaGreatDoor
open Go
theorem Ly.c0 : Rows.fnExactDamageOfRow.wfByText (OpenSpec.ofChange Rows.fnExactDamageOfSpec) = true := by kernel_rfl
theorem Ly.c1 : Tryz.pinned.checked.prog.mainIs = some (true, "44c208f7ed01441f4a9104f55693d636be665f93eed7a1cf19a453a94f000a63".toList) := by kernel_rfl
theorem Ly.c2 : Tryz.prog.funcNamed "loop.example/drawnanew/laws.FnExactDamageOf" = some 5 := by kernel_rfl
theorem Ly.c5 : false = Rows.fnExactDamageOfRow.goesBy Tryz.pinned.checked.prog := by kernel_rfl
theorem Ly.c3 : true = Tryz.pinned.checked.prog.looks [] := by kernel_rfl
theorem Ly.c4_3 : Tryz.prog.wantsStandIn 3 = false := by kernel_rfl
theorem Ly.c4_25 : Tryz.prog.wantsStandIn 25 = false := by kernel_rfl
theorem Ly.c4_26 : Tryz.prog.wantsStandIn 26 = false := by kernel_rfl
end Go.Proofs.YtjldolmokfnkoaaGreatDoor
