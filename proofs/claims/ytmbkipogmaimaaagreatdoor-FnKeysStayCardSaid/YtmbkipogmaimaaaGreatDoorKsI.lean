/- The stay of keys, part I: the text of the number one. Conditions: none. -/
import Derived.Test.YtmbkipogmaimaaaGreatDoorChecked
import Derived.WalkKit
namespace Go.Fw.Ks
open Go
set_option maxHeartbeats 400000 in
theorem itoa1 (w : World) : Calls Go.Proofs.Tryz.prog 233 #[.int .i64 1] w fun e w' => e = .returned (.string ⟨#[49]⟩) ∧ w = w' := by
  go_enter Go.Proofs.Tryz.func233, Go.Proofs.Tryz.ntmps233
  go_wp2
  go_ret
  exact ⟨rfl, rfl⟩
end Go.Fw.Ks
