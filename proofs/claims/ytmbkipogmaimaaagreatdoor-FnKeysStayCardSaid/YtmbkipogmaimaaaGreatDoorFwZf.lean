/- The framework, part Zf: what a deeper meaning of the calls keeps of a run. Conditions: none. -/
import Derived.Test.YtmbkipogmaimaaaGreatDoorFwZe
namespace Go.Fw
open Go

theorem go_sub {Γ Γ' : Gam} (hs : Sub Γ Γ') : ∀ {n : Nat} {c : Ctl} {K : List Fr} {σ : ASt} {r : Ex × ASt}, go Γ n c K σ = some r → go Γ' n c K σ = some r
  | 0, c, K, σ, r, h => by simp [go] at h
  | n + 1, c, K, σ, r, h => by
    cases c with
    | d e =>
      cases K with
      | nil => simpa [go] using h
      | cons f K =>
        cases f <;> cases e <;> simp only [go] at h ⊢ <;> first | exact go_sub hs h | (split at h <;> rename_i hj <;> first | (rw [if_pos hj]; exact go_sub hs h) | (rw [if_neg hj]; exact go_sub hs h))
    | c x =>
      cases x <;> simp only [go] at h ⊢
      case cond =>
        split at h
        · exact go_sub hs h
        · exact go_sub hs h
        · simp at h
      case region =>
        obtain ⟨σ', h1, h2⟩ := ob_some h
        rw [evR_mono hs h1]
        exact go_sub hs h2
      case gh =>
        obtain ⟨σ', h1, h2⟩ := ob_some h
        rw [h1]
        exact go_sub hs h2
      all_goals exact go_sub hs h
theorem Lim_sub (T : Tab) (m : Nat) : Sub (callN T m) (Lim T) := fun _ _ _ h => Lim_iff.2 ⟨m, h⟩

/-- A run from a place in the code to the function's end, for the kernel to do. -/
def runB (Γ : Gam) (m : Nat) (c : Ir) (σ : ASt) (R : List RS) (bx : List Nat) : Option AOut := match go Γ m (.c c) [] σ with
  | some (.norm, s) => finB s R bx
  | some (.ret, s) => finB s R bx
  | _ => none
theorem runB_done {T : Tab} {k m : Nat} {c : Ir} {σ : ASt} {R : List RS} {bx : List Nat} {o : AOut} (h : runB (callN T k) m c σ R bx = some o) : Done (Lim T) R bx (.c c) [] σ o := by
  unfold runB at h
  split at h
  · rename_i s hs; exact ⟨m, .norm, s, go_sub (Lim_sub T k) hs, .inl rfl, h⟩
  · rename_i s hs; exact ⟨m, .ret, s, go_sub (Lim_sub T k) hs, .inr rfl, h⟩
  · simp at h
/-- A run says nothing but yes. -/
def isT (x : Option AOut) : Bool := match x with
  | some ⟨.pl false [.bool true], []⟩ => true
  | _ => false
theorem isT_eq {x : Option AOut} (h : isT x = true) : x = some ⟨.pl false [.bool true], []⟩ := by
  unfold isT at h
  split at h
  · rfl
  · simp at h
def eBo (b : Bool) : AOut := ⟨.pl false [.bool b], []⟩
theorem eBo_inj : ∀ a b, eBo a = eBo b → a = b := by
  intro a b h
  simpa [eBo] using h
end Go.Fw
