/- What the functions come to. Conditions: none. -/
import Derived.Test.YtjldolmokfnkoaaGreatDoorLwD
namespace Go.Fw.Law
open Go Go.Fw
theorem laws_markRuleS_of (x0 : List TRule) (x1 : Int) {r : Int × (List TRule)} (h : (laws_markRuleS_b1 x0 x1 0) = some r) : laws_markRuleS x0 x1 = some r := by
  refine Fn.of L_eq E26_inj (fi := fi20) rfl rfl ?_
  simp only [fi20]
  have q := Blk.run h
  try simp only [go_sem] at q
  simp (implicitDefEqProofs := false) only [go_sem, b20, k20_1, g20_1, Nat.reduceEqDiff, Nat.reduceAdd, ↓reduceIte, reduceCtorEq]
  exact q
theorem laws_markRuleS_b1_of (x0 : List TRule) (x1 x5 : Int) {r : Int × (List TRule)} (h : (if decide (x5 < (x0.length : Int)) then ((rdx x0 x5).bind fun v1 =>
   (rdx (x0.set x5.toNat (⟨x1, v1.Above, v1.Name, v1.Val, v1.Look, v1.Give⟩ : TRule)) x5).bind fun v2 =>
   (rdx ((x0.set x5.toNat (⟨x1, v1.Above, v1.Name, v1.Val, v1.Look, v1.Give⟩ : TRule)).set x5.toNat (⟨v2.Tag, w64 (x1 + 1), v2.Name, v2.Val, v2.Look, v2.Give⟩ : TRule)) x5).bind fun v3 =>
   (rdx (((x0.set x5.toNat (⟨x1, v1.Above, v1.Name, v1.Val, v1.Look, v1.Give⟩ : TRule)).set x5.toNat (⟨v2.Tag, w64 (x1 + 1), v2.Name, v2.Val, v2.Look, v2.Give⟩ : TRule)).set x5.toNat (⟨v3.Tag, v3.Above, w64 ((w64 (x1 + 1)) + 1), v3.Val, v3.Look, v3.Give⟩ : TRule)) x5).bind fun v4 =>
   (rdx ((((x0.set x5.toNat (⟨x1, v1.Above, v1.Name, v1.Val, v1.Look, v1.Give⟩ : TRule)).set x5.toNat (⟨v2.Tag, w64 (x1 + 1), v2.Name, v2.Val, v2.Look, v2.Give⟩ : TRule)).set x5.toNat (⟨v3.Tag, v3.Above, w64 ((w64 (x1 + 1)) + 1), v3.Val, v3.Look, v3.Give⟩ : TRule)).set x5.toNat (⟨v4.Tag, v4.Above, v4.Name, (⟨w64 ((w64 ((w64 (x1 + 1)) + 1)) + 1), v4.Val.Num, v4.Val.Text⟩ : TValue), v4.Look, v4.Give⟩ : TRule)) x5).bind fun v5 =>
   (laws_markText (w64 ((w64 ((w64 ((w64 ((w64 (x1 + 1)) + 1)) + 1)) + 1)) + 1))).bind fun r6 =>
   (rdx (((((x0.set x5.toNat (⟨x1, v1.Above, v1.Name, v1.Val, v1.Look, v1.Give⟩ : TRule)).set x5.toNat (⟨v2.Tag, w64 (x1 + 1), v2.Name, v2.Val, v2.Look, v2.Give⟩ : TRule)).set x5.toNat (⟨v3.Tag, v3.Above, w64 ((w64 (x1 + 1)) + 1), v3.Val, v3.Look, v3.Give⟩ : TRule)).set x5.toNat (⟨v4.Tag, v4.Above, v4.Name, (⟨w64 ((w64 ((w64 (x1 + 1)) + 1)) + 1), v4.Val.Num, v4.Val.Text⟩ : TValue), v4.Look, v4.Give⟩ : TRule)).set x5.toNat (⟨v5.Tag, v5.Above, v5.Name, (⟨v5.Val.Kind, w64 ((w64 ((w64 ((w64 (x1 + 1)) + 1)) + 1)) + 1), v5.Val.Text⟩ : TValue), v5.Look, v5.Give⟩ : TRule)) x5).bind fun v7 =>
   (rdx ((((((x0.set x5.toNat (⟨x1, v1.Above, v1.Name, v1.Val, v1.Look, v1.Give⟩ : TRule)).set x5.toNat (⟨v2.Tag, w64 (x1 + 1), v2.Name, v2.Val, v2.Look, v2.Give⟩ : TRule)).set x5.toNat (⟨v3.Tag, v3.Above, w64 ((w64 (x1 + 1)) + 1), v3.Val, v3.Look, v3.Give⟩ : TRule)).set x5.toNat (⟨v4.Tag, v4.Above, v4.Name, (⟨w64 ((w64 ((w64 (x1 + 1)) + 1)) + 1), v4.Val.Num, v4.Val.Text⟩ : TValue), v4.Look, v4.Give⟩ : TRule)).set x5.toNat (⟨v5.Tag, v5.Above, v5.Name, (⟨v5.Val.Kind, w64 ((w64 ((w64 ((w64 (x1 + 1)) + 1)) + 1)) + 1), v5.Val.Text⟩ : TValue), v5.Look, v5.Give⟩ : TRule)).set x5.toNat (⟨v7.Tag, v7.Above, v7.Name, (⟨v7.Val.Kind, v7.Val.Num, r6⟩ : TValue), v7.Look, v7.Give⟩ : TRule)) x5).bind fun v8 =>
   (rdx (((((((x0.set x5.toNat (⟨x1, v1.Above, v1.Name, v1.Val, v1.Look, v1.Give⟩ : TRule)).set x5.toNat (⟨v2.Tag, w64 (x1 + 1), v2.Name, v2.Val, v2.Look, v2.Give⟩ : TRule)).set x5.toNat (⟨v3.Tag, v3.Above, w64 ((w64 (x1 + 1)) + 1), v3.Val, v3.Look, v3.Give⟩ : TRule)).set x5.toNat (⟨v4.Tag, v4.Above, v4.Name, (⟨w64 ((w64 ((w64 (x1 + 1)) + 1)) + 1), v4.Val.Num, v4.Val.Text⟩ : TValue), v4.Look, v4.Give⟩ : TRule)).set x5.toNat (⟨v5.Tag, v5.Above, v5.Name, (⟨v5.Val.Kind, w64 ((w64 ((w64 ((w64 (x1 + 1)) + 1)) + 1)) + 1), v5.Val.Text⟩ : TValue), v5.Look, v5.Give⟩ : TRule)).set x5.toNat (⟨v7.Tag, v7.Above, v7.Name, (⟨v7.Val.Kind, v7.Val.Num, r6⟩ : TValue), v7.Look, v7.Give⟩ : TRule)).set x5.toNat (⟨v8.Tag, v8.Above, v8.Name, v8.Val, w64 ((w64 ((w64 ((w64 ((w64 ((w64 (x1 + 1)) + 1)) + 1)) + 1)) + 1)) + 1), v8.Give⟩ : TRule)) x5).bind fun v9 =>
   laws_markRuleS_b1 ((((((((x0.set x5.toNat (⟨x1, v1.Above, v1.Name, v1.Val, v1.Look, v1.Give⟩ : TRule)).set x5.toNat (⟨v2.Tag, w64 (x1 + 1), v2.Name, v2.Val, v2.Look, v2.Give⟩ : TRule)).set x5.toNat (⟨v3.Tag, v3.Above, w64 ((w64 (x1 + 1)) + 1), v3.Val, v3.Look, v3.Give⟩ : TRule)).set x5.toNat (⟨v4.Tag, v4.Above, v4.Name, (⟨w64 ((w64 ((w64 (x1 + 1)) + 1)) + 1), v4.Val.Num, v4.Val.Text⟩ : TValue), v4.Look, v4.Give⟩ : TRule)).set x5.toNat (⟨v5.Tag, v5.Above, v5.Name, (⟨v5.Val.Kind, w64 ((w64 ((w64 ((w64 (x1 + 1)) + 1)) + 1)) + 1), v5.Val.Text⟩ : TValue), v5.Look, v5.Give⟩ : TRule)).set x5.toNat (⟨v7.Tag, v7.Above, v7.Name, (⟨v7.Val.Kind, v7.Val.Num, r6⟩ : TValue), v7.Look, v7.Give⟩ : TRule)).set x5.toNat (⟨v8.Tag, v8.Above, v8.Name, v8.Val, w64 ((w64 ((w64 ((w64 ((w64 ((w64 (x1 + 1)) + 1)) + 1)) + 1)) + 1)) + 1), v8.Give⟩ : TRule)).set x5.toNat (⟨v9.Tag, v9.Above, v9.Name, v9.Val, v9.Look, w64 ((w64 ((w64 ((w64 ((w64 ((w64 ((w64 (x1 + 1)) + 1)) + 1)) + 1)) + 1)) + 1)) + 1)⟩ : TRule)) (w64 ((w64 ((w64 ((w64 ((w64 ((w64 ((w64 ((w64 (x1 + 1)) + 1)) + 1)) + 1)) + 1)) + 1)) + 1)) + 1)) (w64 (x5 + 1)))
  else some (x1, x0)) = some r) : laws_markRuleS_b1 x0 x1 x5 = some r := by
  refine Blk.of E26_inj ?_
  refine D_start (c' := d20_1) rfl ?_
  rcases ifB h with ⟨e1, h⟩ | ⟨e1, h⟩
  · obtain ⟨v1, e2, h⟩ := bnd h
    obtain ⟨v2, e3, h⟩ := bnd h
    have me3 := rdm eTRule e3
    try simp only [go_sem] at me3
    obtain ⟨v3, e4, h⟩ := bnd h
    have me4 := rdm eTRule e4
    try simp only [go_sem] at me4
    obtain ⟨v4, e5, h⟩ := bnd h
    have me5 := rdm eTRule e5
    try simp only [go_sem] at me5
    obtain ⟨v5, e6, h⟩ := bnd h
    have me6 := rdm eTRule e6
    try simp only [go_sem] at me6
    obtain ⟨r6, e7, h⟩ := bnd h
    obtain ⟨v7, e8, h⟩ := bnd h
    have me8 := rdm eTRule e8
    try simp only [go_sem] at me8
    obtain ⟨v8, e9, h⟩ := bnd h
    have me9 := rdm eTRule e9
    try simp only [go_sem] at me9
    obtain ⟨v9, e10, h⟩ := bnd h
    have me10 := rdm eTRule e10
    try simp only [go_sem] at me10
    have q := Blk.run h
    try simp only [go_sem] at q
    simp (implicitDefEqProofs := false) only [go_sem, d20_1, k20_1, g20_1, e1, rdp e2, rdm eTRule e2, me3, me4, me5, me6, laws_markText_run e7, me8, me9, me10, Nat.reduceEqDiff, Nat.reduceAdd, Nat.reduceLeDiff, ↓reduceIte, reduceCtorEq]
    exact q
  · cases h
    simp (implicitDefEqProofs := false) only [go_sem, d20_1, k20_1, g20_1, R20, E26, e1, Nat.reduceEqDiff, Nat.reduceAdd, ↓reduceIte, reduceCtorEq, Nat.reduceBEq]
theorem laws_markBoxS_of (x0 : List TBox) (x1 : Int) {r : Int × (List TBox)} (h : (laws_markBoxS_b1 x0 x1 0) = some r) : laws_markBoxS x0 x1 = some r := by
  refine Fn.of L_eq E27_inj (fi := fi21) rfl rfl ?_
  simp only [fi21]
  have q := Blk.run h
  try simp only [go_sem] at q
  simp (implicitDefEqProofs := false) only [go_sem, b21, k21_1, g21_1, Nat.reduceEqDiff, Nat.reduceAdd, ↓reduceIte, reduceCtorEq]
  exact q
theorem laws_markBoxS_b1_of (x0 : List TBox) (x1 x5 : Int) {r : Int × (List TBox)} (h : (if decide (x5 < (x0.length : Int)) then ((rdx x0 x5).bind fun v1 =>
   (rdx (x0.set x5.toNat (⟨x1, v1.Top, v1.Wide, v1.High⟩ : TBox)) x5).bind fun v2 =>
   (rdx ((x0.set x5.toNat (⟨x1, v1.Top, v1.Wide, v1.High⟩ : TBox)).set x5.toNat (⟨v2.Left, w64 (x1 + 1), v2.Wide, v2.High⟩ : TBox)) x5).bind fun v3 =>
   (rdx (((x0.set x5.toNat (⟨x1, v1.Top, v1.Wide, v1.High⟩ : TBox)).set x5.toNat (⟨v2.Left, w64 (x1 + 1), v2.Wide, v2.High⟩ : TBox)).set x5.toNat (⟨v3.Left, v3.Top, w64 ((w64 (x1 + 1)) + 1), v3.High⟩ : TBox)) x5).bind fun v4 =>
   laws_markBoxS_b1 ((((x0.set x5.toNat (⟨x1, v1.Top, v1.Wide, v1.High⟩ : TBox)).set x5.toNat (⟨v2.Left, w64 (x1 + 1), v2.Wide, v2.High⟩ : TBox)).set x5.toNat (⟨v3.Left, v3.Top, w64 ((w64 (x1 + 1)) + 1), v3.High⟩ : TBox)).set x5.toNat (⟨v4.Left, v4.Top, v4.Wide, w64 ((w64 ((w64 (x1 + 1)) + 1)) + 1)⟩ : TBox)) (w64 ((w64 ((w64 ((w64 (x1 + 1)) + 1)) + 1)) + 1)) (w64 (x5 + 1)))
  else some (x1, x0)) = some r) : laws_markBoxS_b1 x0 x1 x5 = some r := by
  refine Blk.of E27_inj ?_
  refine D_start (c' := d21_1) rfl ?_
  rcases ifB h with ⟨e1, h⟩ | ⟨e1, h⟩
  · obtain ⟨v1, e2, h⟩ := bnd h
    obtain ⟨v2, e3, h⟩ := bnd h
    have me3 := rdm eTBox e3
    try simp only [go_sem] at me3
    obtain ⟨v3, e4, h⟩ := bnd h
    have me4 := rdm eTBox e4
    try simp only [go_sem] at me4
    obtain ⟨v4, e5, h⟩ := bnd h
    have me5 := rdm eTBox e5
    try simp only [go_sem] at me5
    have q := Blk.run h
    try simp only [go_sem] at q
    simp (implicitDefEqProofs := false) only [go_sem, d21_1, k21_1, g21_1, e1, rdp e2, rdm eTBox e2, me3, me4, me5, Nat.reduceEqDiff, Nat.reduceAdd, Nat.reduceLeDiff, ↓reduceIte, reduceCtorEq]
    exact q
  · cases h
    simp (implicitDefEqProofs := false) only [go_sem, d21_1, k21_1, g21_1, R21, E27, e1, Nat.reduceEqDiff, Nat.reduceAdd, ↓reduceIte, reduceCtorEq, Nat.reduceBEq]
theorem laws_heldBoxS_of (x0 : List TBox) (x1 : Int) {r : Int} (h : (laws_heldBoxS_b1 x0 x1 0) = some r) : laws_heldBoxS x0 x1 = some r := by
  refine Fn.of L_eq E1_inj (fi := fi22) rfl rfl ?_
  simp only [fi22]
  have q := Blk.run h
  try simp only [go_sem] at q
  simp (implicitDefEqProofs := false) only [go_sem, b22, k22_1, g22_1, Nat.reduceEqDiff, Nat.reduceAdd, ↓reduceIte, reduceCtorEq]
  exact q
theorem laws_heldBoxS_b1_of (x0 : List TBox) (x1 x5 : Int) {r : Int} (h : (if decide (x5 < (x0.length : Int)) then ((rdx x0 x5).bind fun v1 =>
   if !(decide (v1.Left = x1)) then some (-1)
   else (if !(decide (v1.Top = (w64 (x1 + 1)))) then some (-1)
    else (if !(decide (v1.Wide = (w64 ((w64 (x1 + 1)) + 1)))) then some (-1)
     else (if !(decide (v1.High = (w64 ((w64 ((w64 (x1 + 1)) + 1)) + 1)))) then some (-1)
      else laws_heldBoxS_b1 x0 (w64 ((w64 ((w64 ((w64 (x1 + 1)) + 1)) + 1)) + 1)) (w64 (x5 + 1))))))
  else some x1) = some r) : laws_heldBoxS_b1 x0 x1 x5 = some r := by
  refine Blk.of E1_inj ?_
  refine D_start (c' := d22_1) rfl ?_
  rcases ifB h with ⟨e1, h⟩ | ⟨e1, h⟩
  · obtain ⟨v1, e2, h⟩ := bnd h
    rcases ifB h with ⟨e3, h⟩ | ⟨e3, h⟩
    · cases h
      simp (implicitDefEqProofs := false) only [go_sem, d22_1, k22_1, g22_1, R22, E1, e1, rdp e2, rdm eTBox e2, e3, Nat.reduceEqDiff, Nat.reduceAdd, Nat.reduceLeDiff, ↓reduceIte, reduceCtorEq]
    · rcases ifB h with ⟨e4, h⟩ | ⟨e4, h⟩
      · cases h
        simp (implicitDefEqProofs := false) only [go_sem, d22_1, k22_1, g22_1, R22, E1, e1, rdp e2, rdm eTBox e2, e3, e4, Nat.reduceEqDiff, Nat.reduceAdd, Nat.reduceLeDiff, ↓reduceIte, reduceCtorEq]
      · rcases ifB h with ⟨e5, h⟩ | ⟨e5, h⟩
        · cases h
          simp (implicitDefEqProofs := false) only [go_sem, d22_1, k22_1, g22_1, R22, E1, e1, rdp e2, rdm eTBox e2, e3, e4, e5, Nat.reduceEqDiff, Nat.reduceAdd, Nat.reduceLeDiff, ↓reduceIte, reduceCtorEq]
        · rcases ifB h with ⟨e6, h⟩ | ⟨e6, h⟩
          · cases h
            simp (implicitDefEqProofs := false) only [go_sem, d22_1, k22_1, g22_1, R22, E1, e1, rdp e2, rdm eTBox e2, e3, e4, e5, e6, Nat.reduceEqDiff, Nat.reduceAdd, Nat.reduceLeDiff, ↓reduceIte, reduceCtorEq]
          · have q := Blk.run h
            try simp only [go_sem] at q
            simp (implicitDefEqProofs := false) only [go_sem, d22_1, k22_1, g22_1, e1, rdp e2, rdm eTBox e2, e3, e4, e5, e6, Nat.reduceEqDiff, Nat.reduceAdd, Nat.reduceLeDiff, ↓reduceIte, reduceCtorEq]
            exact q
  · cases h
    simp (implicitDefEqProofs := false) only [go_sem, d22_1, k22_1, g22_1, R22, E1, e1, Nat.reduceEqDiff, Nat.reduceAdd, ↓reduceIte, reduceCtorEq]
set_option maxHeartbeats 4000000 in
theorem laws_FnExactBoxesMoved_of (x0 x1 : TTree) (x2 : List TRule) (x3 x4 x5 : Int) {r : Bool} (h : ((laws_szTree x0 1048576).bind fun r1 =>
  if decide (r1 < 0) then some true
  else ((laws_szTree x1 r1).bind fun r2 =>
   if decide (r2 < 0) then some true
   else ((laws_szRuleS x2 r2).bind fun r3 =>
    if decide (r3 < 0) then some true
    else ((laws_toTree x0).bind fun r4 =>
     (laws_toTree x1).bind fun r5 =>
     (laws_toRuleS x2).bind fun r6 =>
     (spec_BoxesMoved r4 r5 r6 x3 x4 x5).bind fun r7 =>
     (impl_BoxesMoved r4 r5 r6 x3 x4 x5).bind fun r8 =>
     (laws_eqBoxS r8 r7).bind fun r9 =>
     if !r9 then some false
     else ((laws_eqTree r4 r4).bind fun r10 =>
      if !r10 then some false
      else ((laws_eqTree r5 r5).bind fun r11 =>
       if !r11 then some false
       else ((laws_eqRuleS r6 r6).bind fun r12 =>
        if !r12 then some false
        else ((laws_markTree r4 1).bind fun r13 =>
         (laws_markTree r5 r13).bind fun r14 =>
         (laws_markRuleS r6 r14).bind fun r15 =>
         if decide (r15.1 < 0) then some false
         else ((laws_markBoxS r8 1).bind fun r16 =>
          (laws_heldBoxS r16.2 1).bind fun r17 =>
          if decide (r17 < 0) then some false
          else (if !(decide (r17 = r16.1)) then some false
           else some true)))))))))) = some r) : laws_FnExactBoxesMoved x0 x1 x2 x3 x4 x5 = some r := by
  refine Fn.of L_eq E9_inj (fi := fi7) rfl rfl ?_
  simp only [fi7]
  obtain ⟨r1, e1, h⟩ := bnd h
  rcases ifB h with ⟨e2, h⟩ | ⟨e2, h⟩
  · cases h
    simp (implicitDefEqProofs := false) only [go_sem, b7, R7, E9, laws_szTree_run e1, e2, Nat.reduceEqDiff, Nat.reduceAdd, Nat.reduceLeDiff, ↓reduceIte, reduceCtorEq]
  · obtain ⟨r2, e3, h⟩ := bnd h
    rcases ifB h with ⟨e4, h⟩ | ⟨e4, h⟩
    · cases h
      simp (implicitDefEqProofs := false) only [go_sem, b7, R7, E9, laws_szTree_run e1, e2, laws_szTree_run e3, e4, Nat.reduceEqDiff, Nat.reduceAdd, Nat.reduceLeDiff, ↓reduceIte, reduceCtorEq]
    · obtain ⟨r3, e5, h⟩ := bnd h
      rcases ifB h with ⟨e6, h⟩ | ⟨e6, h⟩
      · cases h
        simp (implicitDefEqProofs := false) only [go_sem, b7, R7, E9, laws_szTree_run e1, e2, laws_szTree_run e3, e4, laws_szRuleS_run e5, e6, Nat.reduceEqDiff, Nat.reduceAdd, Nat.reduceLeDiff, ↓reduceIte, reduceCtorEq]
      · obtain ⟨r4, e7, h⟩ := bnd h
        obtain ⟨r5, e8, h⟩ := bnd h
        obtain ⟨r6, e9, h⟩ := bnd h
        obtain ⟨r7, e10, h⟩ := bnd h
        obtain ⟨r8, e11, h⟩ := bnd h
        obtain ⟨r9, e12, h⟩ := bnd h
        rcases ifB h with ⟨e13, h⟩ | ⟨e13, h⟩
        · cases h
          simp (implicitDefEqProofs := false) only [go_sem, b7, R7, E9, laws_szTree_run e1, e2, laws_szTree_run e3, e4, laws_szRuleS_run e5, e6, laws_toTree_run e7, laws_toTree_run e8, laws_toRuleS_run e9, spec_BoxesMoved_run e10, impl_BoxesMoved_run e11, laws_eqBoxS_run e12, e13, Nat.reduceEqDiff, Nat.reduceAdd, Nat.reduceLeDiff, ↓reduceIte, reduceCtorEq]
        · obtain ⟨r10, e14, h⟩ := bnd h
          rcases ifB h with ⟨e15, h⟩ | ⟨e15, h⟩
          · cases h
            simp (implicitDefEqProofs := false) only [go_sem, b7, R7, E9, laws_szTree_run e1, e2, laws_szTree_run e3, e4, laws_szRuleS_run e5, e6, laws_toTree_run e7, laws_toTree_run e8, laws_toRuleS_run e9, spec_BoxesMoved_run e10, impl_BoxesMoved_run e11, laws_eqBoxS_run e12, e13, laws_eqTree_run e14, e15, Nat.reduceEqDiff, Nat.reduceAdd, Nat.reduceLeDiff, ↓reduceIte, reduceCtorEq]
          · obtain ⟨r11, e16, h⟩ := bnd h
            rcases ifB h with ⟨e17, h⟩ | ⟨e17, h⟩
            · cases h
              simp (implicitDefEqProofs := false) only [go_sem, b7, R7, E9, laws_szTree_run e1, e2, laws_szTree_run e3, e4, laws_szRuleS_run e5, e6, laws_toTree_run e7, laws_toTree_run e8, laws_toRuleS_run e9, spec_BoxesMoved_run e10, impl_BoxesMoved_run e11, laws_eqBoxS_run e12, e13, laws_eqTree_run e14, e15, laws_eqTree_run e16, e17, Nat.reduceEqDiff, Nat.reduceAdd, Nat.reduceLeDiff, ↓reduceIte, reduceCtorEq]
            · obtain ⟨r12, e18, h⟩ := bnd h
              rcases ifB h with ⟨e19, h⟩ | ⟨e19, h⟩
              · cases h
                simp (implicitDefEqProofs := false) only [go_sem, b7, R7, E9, laws_szTree_run e1, e2, laws_szTree_run e3, e4, laws_szRuleS_run e5, e6, laws_toTree_run e7, laws_toTree_run e8, laws_toRuleS_run e9, spec_BoxesMoved_run e10, impl_BoxesMoved_run e11, laws_eqBoxS_run e12, e13, laws_eqTree_run e14, e15, laws_eqTree_run e16, e17, laws_eqRuleS_run e18, e19, Nat.reduceEqDiff, Nat.reduceAdd, Nat.reduceLeDiff, ↓reduceIte, reduceCtorEq]
              · obtain ⟨r13, e20, h⟩ := bnd h
                obtain ⟨r14, e21, h⟩ := bnd h
                obtain ⟨r15, e22, h⟩ := bnd h
                rcases ifB h with ⟨e23, h⟩ | ⟨e23, h⟩
                · cases h
                  simp (implicitDefEqProofs := false) only [go_sem, b7, R7, E9, laws_szTree_run e1, e2, laws_szTree_run e3, e4, laws_szRuleS_run e5, e6, laws_toTree_run e7, laws_toTree_run e8, laws_toRuleS_run e9, spec_BoxesMoved_run e10, impl_BoxesMoved_run e11, laws_eqBoxS_run e12, e13, laws_eqTree_run e14, e15, laws_eqTree_run e16, e17, laws_eqRuleS_run e18, e19, laws_markTree_run e20, laws_markTree_run e21, laws_markRuleS_run e22, e23, Nat.reduceEqDiff, Nat.reduceAdd, Nat.reduceLeDiff, ↓reduceIte, reduceCtorEq]
                · obtain ⟨r16, e24, h⟩ := bnd h
                  obtain ⟨r17, e25, h⟩ := bnd h
                  rcases ifB h with ⟨e26, h⟩ | ⟨e26, h⟩
                  · cases h
                    simp (implicitDefEqProofs := false) only [go_sem, b7, R7, E9, laws_szTree_run e1, e2, laws_szTree_run e3, e4, laws_szRuleS_run e5, e6, laws_toTree_run e7, laws_toTree_run e8, laws_toRuleS_run e9, spec_BoxesMoved_run e10, impl_BoxesMoved_run e11, laws_eqBoxS_run e12, e13, laws_eqTree_run e14, e15, laws_eqTree_run e16, e17, laws_eqRuleS_run e18, e19, laws_markTree_run e20, laws_markTree_run e21, laws_markRuleS_run e22, e23, laws_markBoxS_run e24, laws_heldBoxS_run e25, e26, Nat.reduceEqDiff, Nat.reduceAdd, Nat.reduceLeDiff, ↓reduceIte, reduceCtorEq]
                  · rcases ifB h with ⟨e27, h⟩ | ⟨e27, h⟩
                    · cases h
                      simp (implicitDefEqProofs := false) only [go_sem, b7, R7, E9, laws_szTree_run e1, e2, laws_szTree_run e3, e4, laws_szRuleS_run e5, e6, laws_toTree_run e7, laws_toTree_run e8, laws_toRuleS_run e9, spec_BoxesMoved_run e10, impl_BoxesMoved_run e11, laws_eqBoxS_run e12, e13, laws_eqTree_run e14, e15, laws_eqTree_run e16, e17, laws_eqRuleS_run e18, e19, laws_markTree_run e20, laws_markTree_run e21, laws_markRuleS_run e22, e23, laws_markBoxS_run e24, laws_heldBoxS_run e25, e26, e27, Nat.reduceEqDiff, Nat.reduceAdd, Nat.reduceLeDiff, ↓reduceIte, reduceCtorEq]
                    · cases h
                      simp (implicitDefEqProofs := false) only [go_sem, b7, R7, E9, laws_szTree_run e1, e2, laws_szTree_run e3, e4, laws_szRuleS_run e5, e6, laws_toTree_run e7, laws_toTree_run e8, laws_toRuleS_run e9, spec_BoxesMoved_run e10, impl_BoxesMoved_run e11, laws_eqBoxS_run e12, e13, laws_eqTree_run e14, e15, laws_eqTree_run e16, e17, laws_eqRuleS_run e18, e19, laws_markTree_run e20, laws_markTree_run e21, laws_markRuleS_run e22, e23, laws_markBoxS_run e24, laws_heldBoxS_run e25, e26, e27, Nat.reduceEqDiff, Nat.reduceAdd, Nat.reduceLeDiff, ↓reduceIte, reduceCtorEq]
end Go.Fw.Law
