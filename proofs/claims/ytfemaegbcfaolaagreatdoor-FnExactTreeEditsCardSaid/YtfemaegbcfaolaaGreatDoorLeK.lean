/- FnExactTreeEdits, part K: THE TIED CARD: whatever the input, the law returns true and the input reads as it did. Conditions: none beyond the card's own. -/
import Derived.Test.YtfemaegbcfaolaaGreatDoorLeG
import Derived.Test.YtfemaegbcfaolaaGreatDoorLeJ0
import Derived.Test.YtfemaegbcfaolaaGreatDoorLeJ1
import Derived.Test.YtfemaegbcfaolaaGreatDoorLeJ2
import Derived.Test.YtfemaegbcfaolaaGreatDoorLeJ3
import Derived.Test.YtfemaegbcfaolaaGreatDoorLeKl
import Derived.Test.YtfemaegbcfaolaaGreatDoorCards
import Derived.Test.YtfemaegbcfaolaaGreatDoorTie
import Derived.SevenTiedAt
namespace Go.Proofs.YtfemaegbcfaolaaGreatDoor
open Go
theorem Le.joined : joinedFacts Tryz.pinned.checked.prog 5 Tryz.f5 Rows.fnExactTreeEditsSpec Rows.fnExactTreeEditsRow = true := by
  unfold joinedFacts
  simp only [Le.j0, Le.j1, Le.j2, Le.j3, Le.j4, Le.j5, Le.j6, Le.j7, Le.j8, Le.j9, Le.j10, Le.j11, Le.j12, Le.j13, Le.j14, Le.j15, Le.j16, Le.j17, Le.j18, Le.j19, Le.j20, Le.j21, Le.j22, Le.j23, Le.j24, Le.j25, Le.j26, Le.j27, Le.j29, Le.j30, Le.j31, Bool.and_true, Bool.true_and]
  kernel_rfl

theorem fnExactTreeEdits_row : Rows.FnExactTreeEditsSaid :=
  OpenClaim.holds_of_wide 5 Tryz.f5 rfl rfl rfl rfl rfl rfl rfl ⟨rfl, rfl, rfl, rfl, rfl⟩ rfl rfl rfl rfl rfl (by kernel_rfl) Tryz.func5 Le.joined
    (of_decide_eq_true (by kernel_rfl)) (by unfold Func.isWrapper; first | (rw [if_pos (by decide +kernel)]; kernel_rfl) | (rw [if_neg (by decide +kernel)]; exact ⟨rfl, rfl⟩))
    (fun os started H enc _ => Le.lifted os started H enc)

theorem fnExactTreeEdits_card_holds : Rows.FnExactTreeEditsCardSaid :=
  Claim7.holds_tied_plain_at .later [] [.data, .data, .data, .sentinel, .sentinel] true (true, "bf8080e7e9c0b28172da62622daa2ec7df7fd0600da0a1d2171d064359064c95") true
    fnExactTreeEdits_row (fun _ h => by cases h) Le.c0 (fun _ h => by cases h) fnExactTreeEdits_row_tie rfl ⟨rfl, rfl⟩ Le.c1 rfl
    (fun f fn hf hfn => by
      obtain rfl : f = 5 := Option.some.inj (Le.c2.symm.trans hf) |>.symm
      obtain rfl : fn = Tryz.f5 := (Option.some.inj (Tryz.func5.symm.trans hfn)).symm
      exact ⟨Le.c3, fun j t ht => by
          rw [Tryz.params5] at ht
          rcases j with _ | j
          · obtain rfl : t = 42 := by simpa using ht.symm
            exact Le.c4_42
          rcases j with _ | j
          · obtain rfl : t = 42 := by simpa using ht.symm
            exact Le.c4_42
          simp at ht⟩)
    Le.c5
end Go.Proofs.YtfemaegbcfaolaaGreatDoor
