/- The stay of keys, part E: the law says yes to every code. Conditions: none. -/
import Derived.Test.YtmbkipogmaimaaaGreatDoorKsC
import Derived.Test.YtmbkipogmaimaaaGreatDoorKsCb
import Derived.Test.YtmbkipogmaimaaaGreatDoorKsCc
import Derived.Test.YtmbkipogmaimaaaGreatDoorKsD
import Derived.Test.YtmbkipogmaimaaaGreatDoorFwZf
namespace Go.Fw.Ks
open Go Go.Fw
theorem w64_0 : w64 0 = 0 := by decide
theorem draw (code : List Int) (hb : ∀ b ∈ code, 0 ≤ b ∧ b < 256) : ∃ n : Int, (n = 1 ∨ n = 2 ∨ n = 3 ∨ n = 4) ∧ f19 code = some n := by
  have h64 : f64 code = some ⟨code, 0, 4000⟩ := f64_of code rfl
  cases code with
  | nil =>
    have h67 : f67 ⟨[], 0, 4000⟩ 4 = some (0, ⟨[], 0, 4000⟩) := f67_of _ _ (by simp)
    refine ⟨1, .inl rfl, f19_of _ ?_⟩
    simp only [h64, h67, Option.bind_some]
    decide
  | cons b r =>
    have hb0 := hb b (by simp)
    have hw : w64 b = b := w64_id (by omega) (by omega)
    have h67 : f67 ⟨b :: r, 0, 4000⟩ 4 = some (b.tmod 4, ⟨b :: r, 1, 3999⟩) := by
      refine f67_of _ _ ?_
      have hl : ¬ ((b :: r).length : Int) = 0 := by simp only [List.length_cons]; omega
      have hd : decide (((b :: r).length : Int) = 0) = false := decide_eq_false hl
      have e0 : (0 : Int).tmod ((b :: r).length : Int) = 0 := Int.zero_tmod _
      have e1 : (0 : Int).tdiv ((b :: r).length : Int) = 0 := Int.zero_tdiv _
      have e2 : rdx (b :: r) 0 = some b := by simp [rdx]
      have e3 : w64 (0 + 1) = 1 := by decide
      have e4 : w64 (4000 - 1) = 3999 := by decide
      simp only [show decide ((4 : Int) ≤ 1) = false by decide, show decide ((4000 : Int) ≤ 0) = false by decide, hd, if_pos hl, e0, e1, e2, e3, e4, Option.bind_some, show decide ((256 : Int) < 4) = false by decide, Bool.false_eq_true, if_false, w64_0, Int.zero_mul, Int.add_zero, hw]
      simp
    have hm : w64 (1 + b.tmod 4) = 1 + b.tmod 4 := by
      have h0 := Int.tmod_nonneg 4 hb0.1
      have h1 := Int.tmod_lt_of_pos b (show (0 : Int) < 4 by decide)
      exact w64_id (by omega) (by omega)
    refine ⟨1 + b.tmod 4, ?_, f19_of _ ?_⟩
    · have h0 := Int.tmod_nonneg 4 hb0.1
      have h1 := Int.tmod_lt_of_pos b (show (0 : Int) < 4 by decide)
      omega
    · simp only [h64, h67, Option.bind_some, hm]
theorem law4 (code : List Int) (hb : ∀ b ∈ code, 0 ≤ b ∧ b < 256) : L 4 [.val false [.sl .sh 1 (code.map eU8)]] = some ⟨.pl false [.bool true], []⟩ := by
  obtain ⟨n, hn, h19⟩ := draw code hb
  have hrest : Done L [.t 2] [] (.c b4r) [] ⟨[(2, .t [] (.pl false [.bool false])), (3, .t [] (.pl false [.int .i64 n]))], [], []⟩ (eBo true) := by
    rcases hn with rfl | rfl | rfl | rfl
    · exact runB_done (isT_eq rest1)
    · exact runB_done (isT_eq rest2)
    · exact runB_done (isT_eq rest3)
    · exact runB_done (isT_eq rest4)
  refine Fn.run (enc := eBo) (b := true) (Fn.of L_eq eBo_inj (fi := fi4) rfl rfl ?_)
  simp only [fi4]
  cases e1 : decide ((1048576 : Int) < (code.length : Int))
  · simp (implicitDefEqProofs := false) only [go_sem, b4, R4, e1, f19_run h19, Nat.reduceEqDiff, Nat.reduceAdd, ↓reduceIte, reduceCtorEq]
    exact hrest
  · simp (implicitDefEqProofs := false) only [go_sem, b4, R4, eBo, e1, Nat.reduceEqDiff, Nat.reduceAdd, ↓reduceIte, reduceCtorEq]
end Go.Fw.Ks
