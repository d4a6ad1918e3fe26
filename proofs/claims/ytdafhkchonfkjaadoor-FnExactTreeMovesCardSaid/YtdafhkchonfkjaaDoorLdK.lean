/- FnExactTreeMoves, part K: THE TIED CARD: whatever the input, the law returns true and the input reads as it did. Conditions: none beyond the card's own. -/
import Derived.Test.YtdafhkchonfkjaaDoorLdG
import Derived.Test.YtdafhkchonfkjaaDoorLdJ0
import Derived.Test.YtdafhkchonfkjaaDoorLdJ1
import Derived.Test.YtdafhkchonfkjaaDoorLdJ2
import Derived.Test.YtdafhkchonfkjaaDoorLdJ3
import Derived.Test.YtdafhkchonfkjaaDoorLdKl
import Derived.Test.YtdafhkchonfkjaaDoorCards
import Derived.Test.YtdafhkchonfkjaaDoorTie
import Derived.SevenTiedAt
namespace Go.Proofs.YtdafhkchonfkjaaDoor
open Go
theorem Ld.joined : joinedFacts Tryd.pinned.checked.prog 3 Tryd.f3 Rows.fnExactTreeMovesSpec Rows.fnExactTreeMovesRow = true := by
  unfold joinedFacts
  simp only [Ld.j0, Ld.j1, Ld.j2, Ld.j3, Ld.j4, Ld.j5, Ld.j6, Ld.j7, Ld.j8, Ld.j9, Ld.j10, Ld.j11, Ld.j12, Ld.j13, Ld.j14, Ld.j15, Ld.j16, Ld.j17, Ld.j18, Ld.j19, Ld.j20, Ld.j21, Ld.j22, Ld.j23, Ld.j24, Ld.j25, Ld.j26, Ld.j27, Ld.j29, Ld.j30, Ld.j31, Bool.and_true, Bool.true_and]
  kernel_rfl

theorem fnExactTreeMoves_row : Rows.FnExactTreeMovesSaid :=
  OpenClaim.holds_of_wide 3 Tryd.f3 rfl rfl rfl rfl rfl rfl rfl ⟨rfl, rfl, rfl, rfl, rfl⟩ rfl rfl rfl rfl rfl (by kernel_rfl) Tryd.func3 Ld.joined
    (of_decide_eq_true (by kernel_rfl)) (by unfold Func.isWrapper; first | (rw [if_pos (by decide +kernel)]; kernel_rfl) | (rw [if_neg (by decide +kernel)]; exact ⟨rfl, rfl⟩))
    (fun os started H enc _ => Ld.lifted os started H enc)

theorem fnExactTreeMoves_card_holds : Rows.FnExactTreeMovesCardSaid :=
  Claim7.holds_tied_plain_at .later [] [.data, .data, .data, .sentinel, .sentinel] true (true, "c76685928ec95e2b72a9a3460397519566aa348985b96e8312465f7584dfafe3") true
    fnExactTreeMoves_row (fun _ h => by cases h) Ld.c0 (fun _ h => by cases h) fnExactTreeMoves_row_tie rfl ⟨rfl, rfl⟩ Ld.c1 rfl
    (fun f fn hf hfn => by
      obtain rfl : f = 3 := Option.some.inj (Ld.c2.symm.trans hf) |>.symm
      obtain rfl : fn = Tryd.f3 := (Option.some.inj (Tryd.func3.symm.trans hfn)).symm
      exact ⟨Ld.c3, fun j t ht => by
          rw [Tryd.params3] at ht
          rcases j with _ | j
          · obtain rfl : t = 25 := by simpa using ht.symm
            exact Ld.c4_25
          rcases j with _ | j
          · obtain rfl : t = 25 := by simpa using ht.symm
            exact Ld.c4_25
          rcases j with _ | j
          · obtain rfl : t = 3 := by simpa using ht.symm
            exact Ld.c4_3
          simp at ht⟩)
    Ld.c5
end Go.Proofs.YtdafhkchonfkjaaDoor
