/- The stay of keys, part F: THE ROW: whatever the input, the law returns true and the input reads as it did. Conditions: the row's own (the listed tables read as their texts say). -/
import Derived.Test.YtmbkipogmaimaaaGreatDoorRows
import Derived.Test.YtmbkipogmaimaaaGreatDoorKsB
import Derived.Test.YtmbkipogmaimaaaGreatDoorKsE
import Derived.Test.YtmbkipogmaimaaaGreatDoorKsI
import Derived.ProofKit
import Derived.LaidMore
import Derived.OpenShut
import Derived.Stop.Joined
import Derived.Below
namespace Go.Fw.Ks
open Go Go.Fw Go.RowKit

theorem ext_sat (f : FuncId) : SatF Go.Proofs.Tryz.prog f (ext f) := by
  intro ps out h w C us φ hin
  unfold ext at h
  split at h
  · rw [Option.some.injEq] at h
    subst h
    obtain ⟨hl, hd, hlo, ha⟩ := hin
    cases ha with
    | @cons _ _ u us f g hu t =>
      cases t
      obtain ⟨vals, h1, h2⟩ := hu
      cases h1 with
      | @sc _ _ c v cs vs ψ hs t2 =>
        cases t2
        have hu' : u = .int .i64 1 := by
          simp only [Scal] at hs
          simp at h2
          exact h2 ▸ hs
        subst hu'
        refine (itoa1 w).mono fun e w' hh => ?_
        obtain ⟨rfl, rfl⟩ := hh
        refine ⟨fun _ => 0, [], fun _ => by simp [tot], fun x hx => by simp [tot] at hx, ?_, ?_, rfl, rfl, rfl, Nat.le_refl _, fun _ _ _ => rfl⟩
        · exact ⟨[.string ⟨#[49]⟩], .sc rfl .nil, by simp⟩
        · exact .other (by simp) .nil
  · simp at h

theorem sat : Sat Go.Proofs.Tryz.prog L := by
  rw [L_eq]
  refine Lim_sat (callN_sat (by kernel_rfl) (fun f fi h => tabOk (lk_mem h)) ext_sat)

theorem calls4 (W : World) (v : Value) (code : List Int) (hb : ∀ b ∈ code, 0 ≤ b ∧ b < 256) (hin : CallIn W (fun _ => False) [.val false [.sl .sh 1 (code.map eU8)]] [v] (fun _ => 0)) :
    Calls Go.Proofs.Tryz.prog 4 #[v] W fun e W' => e = .returned (.bool true) ∧ Below W.heap.size W W' := by
  refine (sat 4 _ _ (law4 code hb) W _ _ _ hin).mono fun e W' h => ?_
  cases e with
  | returned u =>
    obtain ⟨f, gs, _, _, ho, _, h1, h2, h3, h4, h5⟩ := h
    refine ⟨?_, h1, h2, h3, h4, fun k hk => h5 k hk rfl⟩
    obtain ⟨vals, r1, r2⟩ := ho
    cases r1 with
    | @sc _ _ c v cs vs ψ hs t2 =>
      cases t2
      simp only [Scal] at hs
      simp at r2
      subst r2
      rw [hs]
  | _ => exact h.elim
end Go.Fw.Ks
