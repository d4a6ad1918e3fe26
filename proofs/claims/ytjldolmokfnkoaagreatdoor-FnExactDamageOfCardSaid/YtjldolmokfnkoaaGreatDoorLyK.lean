/- FnExactDamageOf, part K: THE TIED CARD: whatever the input, the law returns true and the input reads as it did. Conditions: none beyond the card's own. -/
import Derived.Test.YtjldolmokfnkoaaGreatDoorLyG
import Derived.Test.YtjldolmokfnkoaaGreatDoorLyJ0
import Derived.Test.YtjldolmokfnkoaaGreatDoorLyJ1
import Derived.Test.YtjldolmokfnkoaaGreatDoorLyJ2
import Derived.Test.YtjldolmokfnkoaaGreatDoorLyJ3
import Derived.Test.YtjldolmokfnkoaaGreatDoorLyKl
import Derived.Test.YtjldolmokfnkoaaGreatDoorCards
import Derived.Test.YtjldolmokfnkoaaGreatDoorTie
import Derived.SevenTiedAt
namespace Go.Proofs.YtjldolmokfnkoaaGreatDoor
open Go
theorem Ly.joined : joinedFacts Tryz.pinned.checked.prog 5 Tryz.f5 Rows.fnExactDamageOfSpec Rows.fnExactDamageOfRow = true := by
  unfold joinedFacts
  simp only [Ly.j0, Ly.j1, Ly.j2, Ly.j3, Ly.j4, Ly.j5, Ly.j6, Ly.j7, Ly.j8, Ly.j9, Ly.j10, Ly.j11, Ly.j12, Ly.j13, Ly.j14, Ly.j15, Ly.j16, Ly.j17, Ly.j18, Ly.j19, Ly.j20, Ly.j21, Ly.j22, Ly.j23, Ly.j24, Ly.j25, Ly.j26, Ly.j27, Ly.j29, Ly.j30, Ly.j31, Bool.and_true, Bool.true_and]
  kernel_rfl

theorem fnExactDamageOf_row : Rows.FnExactDamageOfSaid :=
  OpenClaim.holds_of_wide 5 Tryz.f5 rfl rfl rfl rfl rfl rfl rfl ⟨rfl, rfl, rfl, rfl, rfl⟩ rfl rfl rfl rfl rfl (by kernel_rfl) Tryz.func5 Ly.joined
    (of_decide_eq_true (by kernel_rfl)) (by unfold Func.isWrapper; first | (rw [if_pos (by decide +kernel)]; kernel_rfl) | (rw [if_neg (by decide +kernel)]; exact ⟨rfl, rfl⟩))
    (fun os started H enc _ => Ly.lifted os started H enc)

theorem fnExactDamageOf_card_holds : Rows.FnExactDamageOfCardSaid :=
  Claim7.holds_tied_plain_at .later [] [.data, .data, .data, .sentinel, .sentinel] true (true, "44c208f7ed01441f4a9104f55693d636be665f93eed7a1cf19a453a94f000a63") true
    fnExactDamageOf_row (fun _ h => by cases h) Ly.c0 (fun _ h => by cases h) fnExactDamageOf_row_tie rfl ⟨rfl, rfl⟩ Ly.c1 rfl
    (fun f fn hf hfn => by
      obtain rfl : f = 5 := Option.some.inj (Ly.c2.symm.trans hf) |>.symm
      obtain rfl : fn = Tryz.f5 := (Option.some.inj (Tryz.func5.symm.trans hfn)).symm
      exact ⟨Ly.c3, fun j t ht => by
          rw [Tryz.params5] at ht
          rcases j with _ | j
          · obtain rfl : t = 25 := by simpa using ht.symm
            exact Ly.c4_25
          rcases j with _ | j
          · obtain rfl : t = 25 := by simpa using ht.symm
            exact Ly.c4_25
          rcases j with _ | j
          · obtain rfl : t = 26 := by simpa using ht.symm
            exact Ly.c4_26
          rcases j with _ | j
          · obtain rfl : t = 3 := by simpa using ht.symm
            exact Ly.c4_3
          rcases j with _ | j
          · obtain rfl : t = 3 := by simpa using ht.symm
            exact Ly.c4_3
          simp at ht⟩)
    Ly.c5
end Go.Proofs.YtjldolmokfnkoaaGreatDoor
