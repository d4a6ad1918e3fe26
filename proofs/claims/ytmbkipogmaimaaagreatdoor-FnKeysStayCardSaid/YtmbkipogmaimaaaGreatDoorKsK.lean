/- The stay of keys, part K: THE TIED CARD of the law of the stay of keys: whatever the input, the law returns true and the input reads as it did. Conditions: none beyond the card's own. -/
import Derived.Test.YtmbkipogmaimaaaGreatDoorKsG
import Derived.Test.YtmbkipogmaimaaaGreatDoorKsJ0
import Derived.Test.YtmbkipogmaimaaaGreatDoorKsJ1
import Derived.Test.YtmbkipogmaimaaaGreatDoorKsJ2
import Derived.Test.YtmbkipogmaimaaaGreatDoorKsJ3
import Derived.Test.YtmbkipogmaimaaaGreatDoorKsL
import Derived.Test.YtmbkipogmaimaaaGreatDoorCards
import Derived.Test.YtmbkipogmaimaaaGreatDoorTie
import Derived.SevenTiedAt
namespace Go.Proofs.YtmbkipogmaimaaaGreatDoor
open Go
theorem Ks.joined : joinedFacts Tryz.pinned.checked.prog 4 Tryz.f4 Rows.fnKeysStaySpec Rows.fnKeysStayRow = true := by
  unfold joinedFacts
  simp only [Ks.j0, Ks.j1, Ks.j2, Ks.j3, Ks.j4, Ks.j5, Ks.j6, Ks.j7, Ks.j8, Ks.j9, Ks.j10, Ks.j11, Ks.j12, Ks.j13, Ks.j14, Ks.j15, Ks.j16, Ks.j17, Ks.j18, Ks.j19, Ks.j20, Ks.j21, Ks.j22, Ks.j23, Ks.j24, Ks.j25, Ks.j26, Ks.j27, Ks.j29, Ks.j30, Ks.j31, Bool.and_true, Bool.true_and]
  kernel_rfl

theorem fnKeysStay_row : Rows.FnKeysStaySaid :=
  OpenClaim.holds_of_wide 4 Tryz.f4 rfl rfl rfl rfl rfl rfl rfl ⟨rfl, rfl, rfl, rfl, rfl⟩ rfl rfl rfl rfl rfl (by kernel_rfl) Tryz.func4 Ks.joined
    (of_decide_eq_true (by kernel_rfl)) (by unfold Func.isWrapper; first | (rw [if_pos (by decide +kernel)]; kernel_rfl) | (rw [if_neg (by decide +kernel)]; exact ⟨rfl, rfl⟩))
    (fun os started H enc _ => Ks.lifted os started H enc)

theorem fnKeysStay_card_holds : Rows.FnKeysStayCardSaid :=
  Claim7.holds_tied_plain_at .later [] [.data, .data, .data] true (true, "be619745dd6e1f287064009d88dba8d27d4a622da8f4f7578886f1a9d81ba292") true
    fnKeysStay_row (fun _ h => by cases h) Ks.c0 (fun _ h => by cases h) fnKeysStay_row_tie rfl ⟨rfl, rfl⟩ Ks.c1 rfl
    (fun f fn hf hfn => by
      obtain rfl : f = 4 := Option.some.inj (Ks.c2.symm.trans hf) |>.symm
      obtain rfl : fn = Tryz.f4 := (Option.some.inj (Tryz.func4.symm.trans hfn)).symm
      exact ⟨Ks.c3, fun j t ht => by
        rw [Tryz.params4] at ht
        have h3 : t = 22 := by
          rcases j with _ | j
          · simpa using ht.symm
          · simp at ht
        subst h3
        exact Ks.c4⟩)
    Ks.c5
end Go.Proofs.YtmbkipogmaimaaaGreatDoor
