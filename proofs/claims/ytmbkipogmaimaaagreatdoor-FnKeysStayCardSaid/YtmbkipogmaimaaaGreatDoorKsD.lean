/- The stay of keys, part D: how the number of keys is drawn. Conditions: none. -/
import Derived.Test.YtmbkipogmaimaaaGreatDoorKsA
namespace Go.Fw.Ks
open Go Go.Fw
structure Source where
  code : List Int
  at_ : Int
  left : Int
def E1 (r : Source) : AOut := ⟨.pl false [.ref .own [.sl .sh 1 (r.code.map eU8), .int .i64 r.at_, .int .i64 r.left]], []⟩
def E2 (r : Int × Source) : AOut := ⟨.pl false [.int .i64 r.1], [[.sl .sh 1 (r.2.code.map eU8), .int .i64 r.2.at_, .int .i64 r.2.left]]⟩
def E3 (r : Int) : AOut := ⟨.pl false [.int .i64 r], []⟩
theorem eU8_inj (a b : Int) (h : eU8 a = eU8 b) : a = b := by simpa [eU8] using h
theorem mapInj {α : Type} {e : α → List AC} (he : ∀ a b, e a = e b → a = b) {xs ys : List α} (h : xs.map e = ys.map e) : xs = ys := (List.map_inj_right (fun a b => he a b)).1 h
theorem E1_inj : ∀ a b, E1 a = E1 b → a = b := by
  rintro ⟨a1, a2, a3⟩ ⟨b1, b2, b3⟩ h
  simp only [E1, AOut.mk.injEq, TV.pl.injEq, List.cons.injEq, AC.ref.injEq, AC.sl.injEq, AC.int.injEq, true_and, and_true] at h
  obtain ⟨h1, h2, h3⟩ := h
  have := mapInj eU8_inj h1
  subst this h2 h3
  rfl
theorem E2_inj : ∀ a b, E2 a = E2 b → a = b := by
  rintro ⟨a0, ⟨a1, a2, a3⟩⟩ ⟨b0, ⟨b1, b2, b3⟩⟩ h
  simp only [E2, AOut.mk.injEq, TV.pl.injEq, List.cons.injEq, AC.sl.injEq, AC.int.injEq, true_and, and_true] at h
  obtain ⟨h0, h1, h2, h3⟩ := h
  have := mapInj eU8_inj h1
  subst this h0 h2 h3
  rfl
theorem E3_inj : ∀ a b, E3 a = E3 b → a = b := by
  intro a b h
  simpa [E3] using h
attribute [go_sem] E1 E2 E3
noncomputable def f64 (x0 : (List Int)) : Option (Source) := Fn L 64 [.val false [.sl .sh 1 (x0.map eU8)]] E1
noncomputable def f67 (x0 : Source) (x1 : Int) : Option (Int × Source) := Fn L 67 [.box [.sl .sh 1 (x0.code.map eU8), .int .i64 x0.at_, .int .i64 x0.left], .val false [.int .i64 x1]] E2
noncomputable def f19 (x0 : (List Int)) : Option (Int) := Fn L 19 [.val false [.sl .sh 1 (x0.map eU8)]] E3
theorem f64_run {x0 : (List Int)} {r : Source} (h : f64 x0 = some r) : L 64 [.val false [.sl .sh 1 (x0.map eU8)]] = some (E1 r) := Fn.run h
theorem f64_of (x0 : (List Int)) {r : Source} (h : (some (⟨x0, 0, 4000⟩ : Source)) = some r) : f64 x0 = some r := by
  refine Fn.of L_eq E1_inj (fi := fi64) rfl rfl ?_
  simp only [fi64]
  cases h
  simp (implicitDefEqProofs := false) only [go_sem, b64, R64, E1, Nat.reduceEqDiff, Nat.reduceAdd, Nat.reduceLeDiff, ↓reduceIte, reduceCtorEq, Nat.reduceEqDiff]
theorem f67_run {x0 : Source} {x1 : Int} {r : Int × Source} (h : f67 x0 x1 = some r) : L 67 [.box [.sl .sh 1 (x0.code.map eU8), .int .i64 x0.at_, .int .i64 x0.left], .val false [.int .i64 x1]] = some (E2 r) := Fn.run h
theorem f67_of (x0 : Source) (x1 : Int) {r : Int × Source} (h : (if decide (x1 ≤ 1) then some (0, x0)
  else (if decide (x0.left ≤ 0) then some (0, x0)
   else (if decide ((x0.code.length : Int) = 0) then some (0, x0)
    else (if ¬ (x0.code.length : Int) = 0 then ((rdx x0.code (x0.at_.tmod (x0.code.length : Int))).bind fun v1 =>
      if decide (256 < x1) then ((rdx x0.code ((w64 (x0.at_ + 1)).tmod (x0.code.length : Int))).bind fun v2 =>
       if ¬ x1 = 0 then some ((w64 ((w64 ((w64 ((w64 v1) + (w64 ((w64 (x0.at_.tdiv (x0.code.length : Int))) * 31)))) * 256)) + (w64 v2))).tmod x1, (⟨x0.code, w64 ((w64 (x0.at_ + 1)) + 1), w64 (x0.left - 1)⟩ : Source))
       else none)
      else (if ¬ x1 = 0 then some ((w64 ((w64 v1) + (w64 ((w64 (x0.at_.tdiv (x0.code.length : Int))) * 31)))).tmod x1, (⟨x0.code, w64 (x0.at_ + 1), w64 (x0.left - 1)⟩ : Source))
       else none))
     else none)))) = some r) : f67 x0 x1 = some r := by
  refine Fn.of L_eq E2_inj (fi := fi67) rfl rfl ?_
  simp only [fi67]
  rcases ifB h with ⟨e1, h⟩ | ⟨e1, h⟩
  · cases h
    simp (implicitDefEqProofs := false) only [go_sem, b67, R67, E2, e1, Nat.reduceEqDiff, Nat.reduceAdd, ↓reduceIte, reduceCtorEq, Nat.reduceEqDiff]
  · rcases ifB h with ⟨e2, h⟩ | ⟨e2, h⟩
    · cases h
      simp (implicitDefEqProofs := false) only [go_sem, b67, R67, E2, e1, e2, Nat.reduceEqDiff, Nat.reduceAdd, Nat.reduceLeDiff, ↓reduceIte, reduceCtorEq, Nat.reduceEqDiff]
    · rcases ifB h with ⟨e3, h⟩ | ⟨e3, h⟩
      · cases h
        simp (implicitDefEqProofs := false) only [go_sem, b67, R67, E2, e1, e2, e3, Nat.reduceEqDiff, Nat.reduceAdd, Nat.reduceLeDiff, ↓reduceIte, reduceCtorEq, Nat.reduceEqDiff]
      · obtain ⟨e4, h⟩ := ifP h
        obtain ⟨v1, e5, h⟩ := bnd h
        rcases ifB h with ⟨e6, h⟩ | ⟨e6, h⟩
        · obtain ⟨v2, e7, h⟩ := bnd h
          obtain ⟨e8, h⟩ := ifP h
          cases h
          simp (implicitDefEqProofs := false) only [go_sem, b67, R67, E2, e1, e2, e4, rdp e5, rdm eU8 e5, e6, rdp e7, rdm eU8 e7, e8, Nat.reduceEqDiff, Nat.reduceAdd, Nat.reduceLeDiff, ↓reduceIte, reduceCtorEq, Nat.reduceEqDiff]
        · obtain ⟨e9, h⟩ := ifP h
          cases h
          simp (implicitDefEqProofs := false) only [go_sem, b67, R67, E2, e1, e2, e4, rdp e5, rdm eU8 e5, e6, e9, Nat.reduceEqDiff, Nat.reduceAdd, Nat.reduceLeDiff, ↓reduceIte, reduceCtorEq, Nat.reduceEqDiff]
theorem f19_run {x0 : (List Int)} {r : Int} (h : f19 x0 = some r) : L 19 [.val false [.sl .sh 1 (x0.map eU8)]] = some (E3 r) := Fn.run h
theorem f19_of (x0 : (List Int)) {r : Int} (h : ((f64 x0).bind fun r1 =>
  (f67 r1 4).bind fun r2 =>
  some (w64 (1 + r2.1))) = some r) : f19 x0 = some r := by
  refine Fn.of L_eq E3_inj (fi := fi19) rfl rfl ?_
  simp only [fi19]
  obtain ⟨r1, e1, h⟩ := bnd h
  obtain ⟨r2, e2, h⟩ := bnd h
  cases h
  simp (implicitDefEqProofs := false) only [go_sem, b19, R19, E3, f64_run e1, f67_run e2, Nat.reduceEqDiff, Nat.reduceAdd, ↓reduceIte, reduceCtorEq, Nat.reduceEqDiff]
end Go.Fw.Ks
