/- FnExactBoxesOf, part K: THE TIED CARD: whatever the input, the law returns true and the input reads as it did. Conditions: none beyond the card's own. -/
import Derived.Test.YtjldolmokfnkoaaGreatDoorLbG
import Derived.Test.YtjldolmokfnkoaaGreatDoorLbJ0
import Derived.Test.YtjldolmokfnkoaaGreatDoorLbJ1
import Derived.Test.YtjldolmokfnkoaaGreatDoorLbJ2
import Derived.Test.YtjldolmokfnkoaaGreatDoorLbJ3
import Derived.Test.YtjldolmokfnkoaaGreatDoorLbKl
import Derived.Test.YtjldolmokfnkoaaGreatDoorCards
import Derived.Test.YtjldolmokfnkoaaGreatDoorTie
import Derived.SevenTiedAt
namespace Go.Proofs.YtjldolmokfnkoaaGreatDoor
open Go
theorem Lb.joined : joinedFacts Tryz.pinned.checked.prog 4 Tryz.f4 Rows.fnExactBoxesOfSpec Rows.fnExactBoxesOfRow = true := by
  unfold joinedFacts
  simp only [Lb.j0, Lb.j1, Lb.j2, Lb.j3, Lb.j4, Lb.j5, Lb.j6, Lb.j7, Lb.j8, Lb.j9, Lb.j10, Lb.j11, Lb.j12, Lb.j13, Lb.j14, Lb.j15, Lb.j16, Lb.j17, Lb.j18, Lb.j19, Lb.j20, Lb.j21, Lb.j22, Lb.j23, Lb.j24, Lb.j25, Lb.j26, Lb.j27, Lb.j29, Lb.j30, Lb.j31, Bool.and_true, Bool.true_and]
  kernel_rfl

theorem fnExactBoxesOf_row : Rows.FnExactBoxesOfSaid :=
  OpenClaim.holds_of_wide 4 Tryz.f4 rfl rfl rfl rfl rfl rfl rfl ⟨rfl, rfl, rfl, rfl, rfl⟩ rfl rfl rfl rfl rfl (by kernel_rfl) Tryz.func4 Lb.joined
    (of_decide_eq_true (by kernel_rfl)) (by unfold Func.isWrapper; first | (rw [if_pos (by decide +kernel)]; kernel_rfl) | (rw [if_neg (by decide +kernel)]; exact ⟨rfl, rfl⟩))
    (fun os started H enc _ => Lb.lifted os started H enc)

theorem fnExactBoxesOf_card_holds : Rows.FnExactBoxesOfCardSaid :=
  Claim7.holds_tied_plain_at .later [] [.data, .data, .data, .sentinel, .sentinel] true (true, "44c208f7ed01441f4a9104f55693d636be665f93eed7a1cf19a453a94f000a63") true
    fnExactBoxesOf_row (fun _ h => by cases h) Lb.c0 (fun _ h => by cases h) fnExactBoxesOf_row_tie rfl ⟨rfl, rfl⟩ Lb.c1 rfl
    (fun f fn hf hfn => by
      obtain rfl : f = 4 := Option.some.inj (Lb.c2.symm.trans hf) |>.symm
      obtain rfl : fn = Tryz.f4 := (Option.some.inj (Tryz.func4.symm.trans hfn)).symm
      exact ⟨Lb.c3, fun j t ht => by
          rw [Tryz.params4] at ht
          rcases j with _ | j
          · obtain rfl : t = 25 := by simpa using ht.symm
            exact Lb.c4_25
          rcases j with _ | j
          · obtain rfl : t = 26 := by simpa using ht.symm
            exact Lb.c4_26
          rcases j with _ | j
          · obtain rfl : t = 3 := by simpa using ht.symm
            exact Lb.c4_3
          simp at ht⟩)
    Lb.c5
end Go.Proofs.YtjldolmokfnkoaaGreatDoor
