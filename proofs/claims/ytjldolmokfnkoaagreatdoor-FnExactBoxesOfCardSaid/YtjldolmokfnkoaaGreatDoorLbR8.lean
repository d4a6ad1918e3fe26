/- What the functions come to. All rules. Conditions: none. -/
import Derived.Test.YtjldolmokfnkoaaGreatDoorLbD
import Derived.Test.YtjldolmokfnkoaaGreatDoorLbR0
import Derived.Test.YtjldolmokfnkoaaGreatDoorLbR1
import Derived.Test.YtjldolmokfnkoaaGreatDoorLbR2
import Derived.Test.YtjldolmokfnkoaaGreatDoorLbR3
import Derived.Test.YtjldolmokfnkoaaGreatDoorLbR4
import Derived.Test.YtjldolmokfnkoaaGreatDoorLbR5
import Derived.Test.YtjldolmokfnkoaaGreatDoorLbR6
import Derived.Test.YtjldolmokfnkoaaGreatDoorLbR7
namespace Go.Fw.Law
open Go Go.Fw
theorem laws_markBoxS_of (x0 : (List TBox)) (x1 : Int) {r : Int × (List TBox)} (h : (laws_markBoxS_b1 x0 x1 0) = some r) : laws_markBoxS x0 x1 = some r := by
  refine Fn.of L_eq E24_inj (fi := fi21) rfl rfl ?_
  simp only [fi21]
  have q := Blk.run h
  try simp (implicitDefEqProofs := false) only [go_sem] at q
  simp (implicitDefEqProofs := false) only [go_sem, b21, k21_1, Nat.reduceEqDiff, Nat.reduceAdd, ↓reduceIte, reduceCtorEq, Nat.reduceEqDiff]
  exact q
theorem laws_markBoxS_b1_of (x0 : (List TBox)) (x1 : Int) (x5 : Int) {r : Int × (List TBox)} (h : (if decide (x5 < (x0.length : Int)) then ((rdx x0 x5).bind fun v1 =>
   (rdx (x0.set x5.toNat (⟨x1, v1.Top, v1.Wide, v1.High⟩ : TBox)) x5).bind fun v2 =>
   (rdx ((x0.set x5.toNat (⟨x1, v1.Top, v1.Wide, v1.High⟩ : TBox)).set x5.toNat (⟨v2.Left, w64 (x1 + 1), v2.Wide, v2.High⟩ : TBox)) x5).bind fun v3 =>
   (rdx (((x0.set x5.toNat (⟨x1, v1.Top, v1.Wide, v1.High⟩ : TBox)).set x5.toNat (⟨v2.Left, w64 (x1 + 1), v2.Wide, v2.High⟩ : TBox)).set x5.toNat (⟨v3.Left, v3.Top, w64 ((w64 (x1 + 1)) + 1), v3.High⟩ : TBox)) x5).bind fun v4 =>
   laws_markBoxS_b1 ((((x0.set x5.toNat (⟨x1, v1.Top, v1.Wide, v1.High⟩ : TBox)).set x5.toNat (⟨v2.Left, w64 (x1 + 1), v2.Wide, v2.High⟩ : TBox)).set x5.toNat (⟨v3.Left, v3.Top, w64 ((w64 (x1 + 1)) + 1), v3.High⟩ : TBox)).set x5.toNat (⟨v4.Left, v4.Top, v4.Wide, w64 ((w64 ((w64 (x1 + 1)) + 1)) + 1)⟩ : TBox)) (w64 ((w64 ((w64 ((w64 (x1 + 1)) + 1)) + 1)) + 1)) (w64 (x5 + 1)))
  else some (x1, x0)) = some r) : laws_markBoxS_b1 x0 x1 x5 = some r := by
  refine Blk.of E24_inj ?_
  refine D_start (c' := d21_1) rfl ?_
  rcases ifB h with ⟨e1, h⟩ | ⟨e1, h⟩
  · obtain ⟨v1, e2, h⟩ := bnd h
    obtain ⟨v2, e3, h⟩ := bnd h
    have me3 := rdm eTBox e3
    try simp (implicitDefEqProofs := false) only [go_sem] at me3
    obtain ⟨v3, e4, h⟩ := bnd h
    have me4 := rdm eTBox e4
    try simp (implicitDefEqProofs := false) only [go_sem] at me4
    obtain ⟨v4, e5, h⟩ := bnd h
    have me5 := rdm eTBox e5
    try simp (implicitDefEqProofs := false) only [go_sem] at me5
    have q := Blk.run h
    try simp (implicitDefEqProofs := false) only [go_sem] at q
    simp (implicitDefEqProofs := false) only [go_sem, d21_1, k21_1, e1, rdp e2, rdm eTBox e2, me3, me4, me5, Nat.reduceEqDiff, Nat.reduceAdd, Nat.reduceLeDiff, ↓reduceIte, reduceCtorEq, Nat.reduceEqDiff]
    exact q
  · cases h
    simp (implicitDefEqProofs := false) only [go_sem, d21_1, k21_1, R21, E24, e1, Nat.reduceEqDiff, Nat.reduceAdd, ↓reduceIte, reduceCtorEq, Nat.reduceBEq, Nat.reduceEqDiff]
theorem laws_heldBoxS_of (x0 : (List TBox)) (x1 : Int) {r : Int} (h : (laws_heldBoxS_b1 x0 x1 0) = some r) : laws_heldBoxS x0 x1 = some r := by
  refine Fn.of L_eq E1_inj (fi := fi22) rfl rfl ?_
  simp only [fi22]
  have q := Blk.run h
  try simp (implicitDefEqProofs := false) only [go_sem] at q
  simp (implicitDefEqProofs := false) only [go_sem, b22, k22_1, Nat.reduceEqDiff, Nat.reduceAdd, ↓reduceIte, reduceCtorEq, Nat.reduceEqDiff]
  exact q
theorem laws_heldBoxS_b1_of (x0 : (List TBox)) (x1 : Int) (x5 : Int) {r : Int} (h : (if decide (x5 < (x0.length : Int)) then ((rdx x0 x5).bind fun v1 =>
   if !(decide (v1.Left = x1)) then some (-1)
   else (if !(decide (v1.Top = (w64 (x1 + 1)))) then some (-1)
    else (if !(decide (v1.Wide = (w64 ((w64 (x1 + 1)) + 1)))) then some (-1)
     else (if !(decide (v1.High = (w64 ((w64 ((w64 (x1 + 1)) + 1)) + 1)))) then some (-1)
      else laws_heldBoxS_b1 x0 (w64 ((w64 ((w64 ((w64 (x1 + 1)) + 1)) + 1)) + 1)) (w64 (x5 + 1))))))
  else some x1) = some r) : laws_heldBoxS_b1 x0 x1 x5 = some r := by
  refine Blk.of E1_inj ?_
  refine D_start (c' := d22_1) rfl ?_
  rcases ifB h with ⟨e1, h⟩ | ⟨e1, h⟩
  · obtain ⟨v1, e2, h⟩ := bnd h
    rcases ifB h with ⟨e3, h⟩ | ⟨e3, h⟩
    · cases h
      simp (implicitDefEqProofs := false) only [go_sem, d22_1, k22_1, R22, E1, e1, rdp e2, rdm eTBox e2, e3, Nat.reduceEqDiff, Nat.reduceAdd, Nat.reduceLeDiff, ↓reduceIte, reduceCtorEq, Nat.reduceEqDiff]
    · rcases ifB h with ⟨e4, h⟩ | ⟨e4, h⟩
      · cases h
        simp (implicitDefEqProofs := false) only [go_sem, d22_1, k22_1, R22, E1, e1, rdp e2, rdm eTBox e2, e3, e4, Nat.reduceEqDiff, Nat.reduceAdd, Nat.reduceLeDiff, ↓reduceIte, reduceCtorEq, Nat.reduceEqDiff]
      · rcases ifB h with ⟨e5, h⟩ | ⟨e5, h⟩
        · cases h
          simp (implicitDefEqProofs := false) only [go_sem, d22_1, k22_1, R22, E1, e1, rdp e2, rdm eTBox e2, e3, e4, e5, Nat.reduceEqDiff, Nat.reduceAdd, Nat.reduceLeDiff, ↓reduceIte, reduceCtorEq, Nat.reduceEqDiff]
        · rcases ifB h with ⟨e6, h⟩ | ⟨e6, h⟩
          · cases h
            simp (implicitDefEqProofs := false) only [go_sem, d22_1, k22_1, R22, E1, e1, rdp e2, rdm eTBox e2, e3, e4, e5, e6, Nat.reduceEqDiff, Nat.reduceAdd, Nat.reduceLeDiff, ↓reduceIte, reduceCtorEq, Nat.reduceEqDiff]
          · have q := Blk.run h
            try simp (implicitDefEqProofs := false) only [go_sem] at q
            simp (implicitDefEqProofs := false) only [go_sem, d22_1, k22_1, e1, rdp e2, rdm eTBox e2, e3, e4, e5, e6, Nat.reduceEqDiff, Nat.reduceAdd, Nat.reduceLeDiff, ↓reduceIte, reduceCtorEq, Nat.reduceEqDiff]
            exact q
  · cases h
    simp (implicitDefEqProofs := false) only [go_sem, d22_1, k22_1, R22, E1, e1, Nat.reduceEqDiff, Nat.reduceAdd, ↓reduceIte, reduceCtorEq, Nat.reduceEqDiff]
set_option maxHeartbeats 4000000 in
theorem laws_FnExactBoxesOf_of (x0 : TTree) (x1 : (List TRule)) (x2 : Int) {r : Bool} (h : ((laws_szTree x0 1048576).bind fun r1 =>
  if decide (r1 < 0) then some true
  else ((laws_szRuleS x1 r1).bind fun r2 =>
   if decide (r2 < 0) then some true
   else ((laws_toTree x0).bind fun r3 =>
    (laws_toRuleS x1).bind fun r4 =>
    (spec_BoxesOf r3 r4 x2).bind fun r5 =>
    (impl_BoxesOf r3 r4 x2).bind fun r6 =>
    (laws_eqBoxS r6 r5).bind fun r7 =>
    if !r7 then some false
    else ((laws_eqTree r3 r3).bind fun r8 =>
     if !r8 then some false
     else ((laws_eqRuleS r4 r4).bind fun r9 =>
      if !r9 then some false
      else ((laws_markTree r3 1).bind fun r10 =>
       (laws_markRuleS r4 r10).bind fun r11 =>
       if decide (r11.1 < 0) then some false
       else ((laws_markBoxS r6 1).bind fun r12 =>
        (laws_heldBoxS r12.2 1).bind fun r13 =>
        if decide (r13 < 0) then some false
        else (if !(decide (r13 = r12.1)) then some false
         else some true)))))))) = some r) : laws_FnExactBoxesOf x0 x1 x2 = some r := by
  refine Fn.of L_eq E9_inj (fi := fi4) rfl rfl ?_
  simp only [fi4]
  obtain ⟨r1, e1, h⟩ := bnd h
  rcases ifB h with ⟨e2, h⟩ | ⟨e2, h⟩
  · cases h
    simp (implicitDefEqProofs := false) only [go_sem, b4, R4, E9, laws_szTree_run e1, e2, Nat.reduceEqDiff, Nat.reduceAdd, Nat.reduceLeDiff, ↓reduceIte, reduceCtorEq, Nat.reduceEqDiff]
  · obtain ⟨r2, e3, h⟩ := bnd h
    rcases ifB h with ⟨e4, h⟩ | ⟨e4, h⟩
    · cases h
      simp (implicitDefEqProofs := false) only [go_sem, b4, R4, E9, laws_szTree_run e1, e2, laws_szRuleS_run e3, e4, Nat.reduceEqDiff, Nat.reduceAdd, Nat.reduceLeDiff, ↓reduceIte, reduceCtorEq, Nat.reduceEqDiff]
    · obtain ⟨r3, e5, h⟩ := bnd h
      obtain ⟨r4, e6, h⟩ := bnd h
      obtain ⟨r5, e7, h⟩ := bnd h
      obtain ⟨r6, e8, h⟩ := bnd h
      obtain ⟨r7, e9, h⟩ := bnd h
      rcases ifB h with ⟨e10, h⟩ | ⟨e10, h⟩
      · cases h
        simp (implicitDefEqProofs := false) only [go_sem, b4, R4, E9, laws_szTree_run e1, e2, laws_szRuleS_run e3, e4, laws_toTree_run e5, laws_toRuleS_run e6, spec_BoxesOf_run e7, impl_BoxesOf_run e8, laws_eqBoxS_run e9, e10, Nat.reduceEqDiff, Nat.reduceAdd, Nat.reduceLeDiff, ↓reduceIte, reduceCtorEq, Nat.reduceEqDiff]
      · obtain ⟨r8, e11, h⟩ := bnd h
        rcases ifB h with ⟨e12, h⟩ | ⟨e12, h⟩
        · cases h
          simp (implicitDefEqProofs := false) only [go_sem, b4, R4, E9, laws_szTree_run e1, e2, laws_szRuleS_run e3, e4, laws_toTree_run e5, laws_toRuleS_run e6, spec_BoxesOf_run e7, impl_BoxesOf_run e8, laws_eqBoxS_run e9, e10, laws_eqTree_run e11, e12, Nat.reduceEqDiff, Nat.reduceAdd, Nat.reduceLeDiff, ↓reduceIte, reduceCtorEq, Nat.reduceEqDiff]
        · obtain ⟨r9, e13, h⟩ := bnd h
          rcases ifB h with ⟨e14, h⟩ | ⟨e14, h⟩
          · cases h
            simp (implicitDefEqProofs := false) only [go_sem, b4, R4, E9, laws_szTree_run e1, e2, laws_szRuleS_run e3, e4, laws_toTree_run e5, laws_toRuleS_run e6, spec_BoxesOf_run e7, impl_BoxesOf_run e8, laws_eqBoxS_run e9, e10, laws_eqTree_run e11, e12, laws_eqRuleS_run e13, e14, Nat.reduceEqDiff, Nat.reduceAdd, Nat.reduceLeDiff, ↓reduceIte, reduceCtorEq, Nat.reduceEqDiff]
          · obtain ⟨r10, e15, h⟩ := bnd h
            obtain ⟨r11, e16, h⟩ := bnd h
            rcases ifB h with ⟨e17, h⟩ | ⟨e17, h⟩
            · cases h
              simp (implicitDefEqProofs := false) only [go_sem, b4, R4, E9, laws_szTree_run e1, e2, laws_szRuleS_run e3, e4, laws_toTree_run e5, laws_toRuleS_run e6, spec_BoxesOf_run e7, impl_BoxesOf_run e8, laws_eqBoxS_run e9, e10, laws_eqTree_run e11, e12, laws_eqRuleS_run e13, e14, laws_markTree_run e15, laws_markRuleS_run e16, e17, Nat.reduceEqDiff, Nat.reduceAdd, Nat.reduceLeDiff, ↓reduceIte, reduceCtorEq, Nat.reduceEqDiff]
            · obtain ⟨r12, e18, h⟩ := bnd h
              obtain ⟨r13, e19, h⟩ := bnd h
              rcases ifB h with ⟨e20, h⟩ | ⟨e20, h⟩
              · cases h
                simp (implicitDefEqProofs := false) only [go_sem, b4, R4, E9, laws_szTree_run e1, e2, laws_szRuleS_run e3, e4, laws_toTree_run e5, laws_toRuleS_run e6, spec_BoxesOf_run e7, impl_BoxesOf_run e8, laws_eqBoxS_run e9, e10, laws_eqTree_run e11, e12, laws_eqRuleS_run e13, e14, laws_markTree_run e15, laws_markRuleS_run e16, e17, laws_markBoxS_run e18, laws_heldBoxS_run e19, e20, Nat.reduceEqDiff, Nat.reduceAdd, Nat.reduceLeDiff, ↓reduceIte, reduceCtorEq, Nat.reduceEqDiff]
              · rcases ifB h with ⟨e21, h⟩ | ⟨e21, h⟩
                · cases h
                  simp (implicitDefEqProofs := false) only [go_sem, b4, R4, E9, laws_szTree_run e1, e2, laws_szRuleS_run e3, e4, laws_toTree_run e5, laws_toRuleS_run e6, spec_BoxesOf_run e7, impl_BoxesOf_run e8, laws_eqBoxS_run e9, e10, laws_eqTree_run e11, e12, laws_eqRuleS_run e13, e14, laws_markTree_run e15, laws_markRuleS_run e16, e17, laws_markBoxS_run e18, laws_heldBoxS_run e19, e20, e21, Nat.reduceEqDiff, Nat.reduceAdd, Nat.reduceLeDiff, ↓reduceIte, reduceCtorEq, Nat.reduceEqDiff]
                · cases h
                  simp (implicitDefEqProofs := false) only [go_sem, b4, R4, E9, laws_szTree_run e1, e2, laws_szRuleS_run e3, e4, laws_toTree_run e5, laws_toRuleS_run e6, spec_BoxesOf_run e7, impl_BoxesOf_run e8, laws_eqBoxS_run e9, e10, laws_eqTree_run e11, e12, laws_eqRuleS_run e13, e14, laws_markTree_run e15, laws_markRuleS_run e16, e17, laws_markBoxS_run e18, laws_heldBoxS_run e19, e20, e21, Nat.reduceEqDiff, Nat.reduceAdd, Nat.reduceLeDiff, ↓reduceIte, reduceCtorEq, Nat.reduceEqDiff]
end Go.Fw.Law
namespace Go.Fw.Law
open Go Go.Fw
end Go.Fw.Law
