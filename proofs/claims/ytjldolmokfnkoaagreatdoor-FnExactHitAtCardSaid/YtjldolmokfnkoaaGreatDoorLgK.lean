/- FnExactHitAt, part K: THE TIED CARD: whatever the input, the law returns true and the input reads as it did. Conditions: none beyond the card's own. -/
import Derived.Test.YtjldolmokfnkoaaGreatDoorLgG
import Derived.Test.YtjldolmokfnkoaaGreatDoorLgJ0
import Derived.Test.YtjldolmokfnkoaaGreatDoorLgJ1
import Derived.Test.YtjldolmokfnkoaaGreatDoorLgJ2
import Derived.Test.YtjldolmokfnkoaaGreatDoorLgJ3
import Derived.Test.YtjldolmokfnkoaaGreatDoorLgKl
import Derived.Test.YtjldolmokfnkoaaGreatDoorCards
import Derived.Test.YtjldolmokfnkoaaGreatDoorTie
import Derived.SevenTiedAt
namespace Go.Proofs.YtjldolmokfnkoaaGreatDoor
open Go
theorem Lg.joined : joinedFacts Tryz.pinned.checked.prog 3 Tryz.f3 Rows.fnExactHitAtSpec Rows.fnExactHitAtRow = true := by
  unfold joinedFacts
  simp only [Lg.j0, Lg.j1, Lg.j2, Lg.j3, Lg.j4, Lg.j5, Lg.j6, Lg.j7, Lg.j8, Lg.j9, Lg.j10, Lg.j11, Lg.j12, Lg.j13, Lg.j14, Lg.j15, Lg.j16, Lg.j17, Lg.j18, Lg.j19, Lg.j20, Lg.j21, Lg.j22, Lg.j23, Lg.j24, Lg.j25, Lg.j26, Lg.j27, Lg.j29, Lg.j30, Lg.j31, Bool.and_true, Bool.true_and]
  kernel_rfl

theorem fnExactHitAt_row : Rows.FnExactHitAtSaid :=
  OpenClaim.holds_of_wide 3 Tryz.f3 rfl rfl rfl rfl rfl rfl rfl ⟨rfl, rfl, rfl, rfl, rfl⟩ rfl rfl rfl rfl rfl (by kernel_rfl) Tryz.func3 Lg.joined
    (of_decide_eq_true (by kernel_rfl)) (by unfold Func.isWrapper; first | (rw [if_pos (by decide +kernel)]; kernel_rfl) | (rw [if_neg (by decide +kernel)]; exact ⟨rfl, rfl⟩))
    (fun os started H enc _ => Lg.lifted os started H enc)

theorem fnExactHitAt_card_holds : Rows.FnExactHitAtCardSaid :=
  Claim7.holds_tied_plain_at .later [] [.data, .data, .data, .sentinel, .sentinel] true (true, "44c208f7ed01441f4a9104f55693d636be665f93eed7a1cf19a453a94f000a63") true
    fnExactHitAt_row (fun _ h => by cases h) Lg.c0 (fun _ h => by cases h) fnExactHitAt_row_tie rfl ⟨rfl, rfl⟩ Lg.c1 rfl
    (fun f fn hf hfn => by
      obtain rfl : f = 3 := Option.some.inj (Lg.c2.symm.trans hf) |>.symm
      obtain rfl : fn = Tryz.f3 := (Option.some.inj (Tryz.func3.symm.trans hfn)).symm
      exact ⟨Lg.c3, fun j t ht => by
          rw [Tryz.params3] at ht
          rcases j with _ | j
          · obtain rfl : t = 25 := by simpa using ht.symm
            exact Lg.c4_25
          rcases j with _ | j
          · obtain rfl : t = 26 := by simpa using ht.symm
            exact Lg.c4_26
          rcases j with _ | j
          · obtain rfl : t = 3 := by simpa using ht.symm
            exact Lg.c4_3
          rcases j with _ | j
          · obtain rfl : t = 3 := by simpa using ht.symm
            exact Lg.c4_3
          rcases j with _ | j
          · obtain rfl : t = 3 := by simpa using ht.symm
            exact Lg.c4_3
          rcases j with _ | j
          · obtain rfl : t = 3 := by simpa using ht.symm
            exact Lg.c4_3
          simp at ht⟩)
    Lg.c5
end Go.Proofs.YtjldolmokfnkoaaGreatDoor
