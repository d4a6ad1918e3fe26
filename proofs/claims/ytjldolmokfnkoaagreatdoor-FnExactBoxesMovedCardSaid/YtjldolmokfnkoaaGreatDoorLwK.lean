/- FnExactBoxesMoved, part K: THE TIED CARD: whatever the input, the law returns true and the input reads as it did. Conditions: none beyond the card's own. -/
import Derived.Test.YtjldolmokfnkoaaGreatDoorLwG
import Derived.Test.YtjldolmokfnkoaaGreatDoorLwJ0
import Derived.Test.YtjldolmokfnkoaaGreatDoorLwJ1
import Derived.Test.YtjldolmokfnkoaaGreatDoorLwJ2
import Derived.Test.YtjldolmokfnkoaaGreatDoorLwJ3
import Derived.Test.YtjldolmokfnkoaaGreatDoorLwKl
import Derived.Test.YtjldolmokfnkoaaGreatDoorCards
import Derived.Test.YtjldolmokfnkoaaGreatDoorTie
import Derived.SevenTiedAt
namespace Go.Proofs.YtjldolmokfnkoaaGreatDoor
open Go
theorem Lw.joined : joinedFacts Tryz.pinned.checked.prog 7 Tryz.f7 Rows.fnExactBoxesMovedSpec Rows.fnExactBoxesMovedRow = true := by
  unfold joinedFacts
  simp only [Lw.j0, Lw.j1, Lw.j2, Lw.j3, Lw.j4, Lw.j5, Lw.j6, Lw.j7, Lw.j8, Lw.j9, Lw.j10, Lw.j11, Lw.j12, Lw.j13, Lw.j14, Lw.j15, Lw.j16, Lw.j17, Lw.j18, Lw.j19, Lw.j20, Lw.j21, Lw.j22, Lw.j23, Lw.j24, Lw.j25, Lw.j26, Lw.j27, Lw.j29, Lw.j30, Lw.j31, Bool.and_true, Bool.true_and]
  kernel_rfl

theorem fnExactBoxesMoved_row : Rows.FnExactBoxesMovedSaid :=
  OpenClaim.holds_of_wide 7 Tryz.f7 rfl rfl rfl rfl rfl rfl rfl ⟨rfl, rfl, rfl, rfl, rfl⟩ rfl rfl rfl rfl rfl (by kernel_rfl) Tryz.func7 Lw.joined
    (of_decide_eq_true (by kernel_rfl)) (by unfold Func.isWrapper; first | (rw [if_pos (by decide +kernel)]; kernel_rfl) | (rw [if_neg (by decide +kernel)]; exact ⟨rfl, rfl⟩))
    (fun os started H enc _ => Lw.lifted os started H enc)

theorem fnExactBoxesMoved_card_holds : Rows.FnExactBoxesMovedCardSaid :=
  Claim7.holds_tied_plain_at .later [] [.data, .data, .data, .sentinel, .sentinel] true (true, "44c208f7ed01441f4a9104f55693d636be665f93eed7a1cf19a453a94f000a63") true
    fnExactBoxesMoved_row (fun _ h => by cases h) Lw.c0 (fun _ h => by cases h) fnExactBoxesMoved_row_tie rfl ⟨rfl, rfl⟩ Lw.c1 rfl
    (fun f fn hf hfn => by
      obtain rfl : f = 7 := Option.some.inj (Lw.c2.symm.trans hf) |>.symm
      obtain rfl : fn = Tryz.f7 := (Option.some.inj (Tryz.func7.symm.trans hfn)).symm
      exact ⟨Lw.c3, fun j t ht => by
          rw [Tryz.params7] at ht
          rcases j with _ | j
          · obtain rfl : t = 25 := by simpa using ht.symm
            exact Lw.c4_25
          rcases j with _ | j
          · obtain rfl : t = 25 := by simpa using ht.symm
            exact Lw.c4_25
          rcases j with _ | j
          · obtain rfl : t = 26 := by simpa using ht.symm
            exact Lw.c4_26
          rcases j with _ | j
          · obtain rfl : t = 3 := by simpa using ht.symm
            exact Lw.c4_3
          rcases j with _ | j
          · obtain rfl : t = 3 := by simpa using ht.symm
            exact Lw.c4_3
          rcases j with _ | j
          · obtain rfl : t = 3 := by simpa using ht.symm
            exact Lw.c4_3
          simp at ht⟩)
    Lw.c5
end Go.Proofs.YtjldolmokfnkoaaGreatDoor
