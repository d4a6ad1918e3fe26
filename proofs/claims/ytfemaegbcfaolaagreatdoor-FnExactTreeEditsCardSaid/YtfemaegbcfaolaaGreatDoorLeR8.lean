/- What the functions come to. Conditions: none. -/
import Derived.Test.YtfemaegbcfaolaaGreatDoorLeD
namespace Go.Fw.Law
open Go Go.Fw
theorem laws_markEditS_of (x0 : (List TEdit)) (x1 : Int) {r : Int × (List TEdit)} (h : (laws_markEditS_b1 x0 x1 0) = some r) : laws_markEditS x0 x1 = some r := by
  refine Fn.of L_eq E17_inj (fi := fi20) rfl rfl ?_
  simp only [fi20]
  have q := Blk.run h
  try simp (implicitDefEqProofs := false) only [go_sem] at q
  simp (implicitDefEqProofs := false) only [go_sem, b20, k20_1, Nat.reduceEqDiff, Nat.reduceAdd, ↓reduceIte, reduceCtorEq, Nat.reduceEqDiff]
  exact q
set_option maxHeartbeats 4000000 in
theorem laws_markEditS_b1_of (x0 : (List TEdit)) (x1 : Int) (x5 : Int) {r : Int × (List TEdit)} (h : (if decide (x5 < (x0.length : Int)) then ((rdx x0 x5).bind fun v1 =>
   (rdx (x0.set x5.toNat (⟨x1, v1.Way, v1.At, v1.To, v1.Val, v1.Tree⟩ : TEdit)) x5).bind fun v2 =>
   (laws_markIntS v2.Way (w64 (x1 + 1))).bind fun r3 =>
   (rdx ((x0.set x5.toNat (⟨x1, v1.Way, v1.At, v1.To, v1.Val, v1.Tree⟩ : TEdit)).set x5.toNat (⟨v2.Kind, r3.2, v2.At, v2.To, v2.Val, v2.Tree⟩ : TEdit)) x5).bind fun v4 =>
   (rdx (((x0.set x5.toNat (⟨x1, v1.Way, v1.At, v1.To, v1.Val, v1.Tree⟩ : TEdit)).set x5.toNat (⟨v2.Kind, r3.2, v2.At, v2.To, v2.Val, v2.Tree⟩ : TEdit)).set x5.toNat (⟨v4.Kind, v4.Way, r3.1, v4.To, v4.Val, v4.Tree⟩ : TEdit)) x5).bind fun v5 =>
   (rdx ((((x0.set x5.toNat (⟨x1, v1.Way, v1.At, v1.To, v1.Val, v1.Tree⟩ : TEdit)).set x5.toNat (⟨v2.Kind, r3.2, v2.At, v2.To, v2.Val, v2.Tree⟩ : TEdit)).set x5.toNat (⟨v4.Kind, v4.Way, r3.1, v4.To, v4.Val, v4.Tree⟩ : TEdit)).set x5.toNat (⟨v5.Kind, v5.Way, v5.At, w64 (r3.1 + 1), v5.Val, v5.Tree⟩ : TEdit)) x5).bind fun v6 =>
   (rdx (((((x0.set x5.toNat (⟨x1, v1.Way, v1.At, v1.To, v1.Val, v1.Tree⟩ : TEdit)).set x5.toNat (⟨v2.Kind, r3.2, v2.At, v2.To, v2.Val, v2.Tree⟩ : TEdit)).set x5.toNat (⟨v4.Kind, v4.Way, r3.1, v4.To, v4.Val, v4.Tree⟩ : TEdit)).set x5.toNat (⟨v5.Kind, v5.Way, v5.At, w64 (r3.1 + 1), v5.Val, v5.Tree⟩ : TEdit)).set x5.toNat (⟨v6.Kind, v6.Way, v6.At, v6.To, (⟨w64 ((w64 (r3.1 + 1)) + 1), v6.Val.Num, v6.Val.Text⟩ : TValue), v6.Tree⟩ : TEdit)) x5).bind fun v7 =>
   (laws_markText (w64 ((w64 ((w64 ((w64 (r3.1 + 1)) + 1)) + 1)) + 1))).bind fun r8 =>
   (rdx ((((((x0.set x5.toNat (⟨x1, v1.Way, v1.At, v1.To, v1.Val, v1.Tree⟩ : TEdit)).set x5.toNat (⟨v2.Kind, r3.2, v2.At, v2.To, v2.Val, v2.Tree⟩ : TEdit)).set x5.toNat (⟨v4.Kind, v4.Way, r3.1, v4.To, v4.Val, v4.Tree⟩ : TEdit)).set x5.toNat (⟨v5.Kind, v5.Way, v5.At, w64 (r3.1 + 1), v5.Val, v5.Tree⟩ : TEdit)).set x5.toNat (⟨v6.Kind, v6.Way, v6.At, v6.To, (⟨w64 ((w64 (r3.1 + 1)) + 1), v6.Val.Num, v6.Val.Text⟩ : TValue), v6.Tree⟩ : TEdit)).set x5.toNat (⟨v7.Kind, v7.Way, v7.At, v7.To, (⟨v7.Val.Kind, w64 ((w64 ((w64 (r3.1 + 1)) + 1)) + 1), v7.Val.Text⟩ : TValue), v7.Tree⟩ : TEdit)) x5).bind fun v9 =>
   (rdx (((((((x0.set x5.toNat (⟨x1, v1.Way, v1.At, v1.To, v1.Val, v1.Tree⟩ : TEdit)).set x5.toNat (⟨v2.Kind, r3.2, v2.At, v2.To, v2.Val, v2.Tree⟩ : TEdit)).set x5.toNat (⟨v4.Kind, v4.Way, r3.1, v4.To, v4.Val, v4.Tree⟩ : TEdit)).set x5.toNat (⟨v5.Kind, v5.Way, v5.At, w64 (r3.1 + 1), v5.Val, v5.Tree⟩ : TEdit)).set x5.toNat (⟨v6.Kind, v6.Way, v6.At, v6.To, (⟨w64 ((w64 (r3.1 + 1)) + 1), v6.Val.Num, v6.Val.Text⟩ : TValue), v6.Tree⟩ : TEdit)).set x5.toNat (⟨v7.Kind, v7.Way, v7.At, v7.To, (⟨v7.Val.Kind, w64 ((w64 ((w64 (r3.1 + 1)) + 1)) + 1), v7.Val.Text⟩ : TValue), v7.Tree⟩ : TEdit)).set x5.toNat (⟨v9.Kind, v9.Way, v9.At, v9.To, (⟨v9.Val.Kind, v9.Val.Num, r8⟩ : TValue), v9.Tree⟩ : TEdit)) x5).bind fun v10 =>
   (rdx ((((((((x0.set x5.toNat (⟨x1, v1.Way, v1.At, v1.To, v1.Val, v1.Tree⟩ : TEdit)).set x5.toNat (⟨v2.Kind, r3.2, v2.At, v2.To, v2.Val, v2.Tree⟩ : TEdit)).set x5.toNat (⟨v4.Kind, v4.Way, r3.1, v4.To, v4.Val, v4.Tree⟩ : TEdit)).set x5.toNat (⟨v5.Kind, v5.Way, v5.At, w64 (r3.1 + 1), v5.Val, v5.Tree⟩ : TEdit)).set x5.toNat (⟨v6.Kind, v6.Way, v6.At, v6.To, (⟨w64 ((w64 (r3.1 + 1)) + 1), v6.Val.Num, v6.Val.Text⟩ : TValue), v6.Tree⟩ : TEdit)).set x5.toNat (⟨v7.Kind, v7.Way, v7.At, v7.To, (⟨v7.Val.Kind, w64 ((w64 ((w64 (r3.1 + 1)) + 1)) + 1), v7.Val.Text⟩ : TValue), v7.Tree⟩ : TEdit)).set x5.toNat (⟨v9.Kind, v9.Way, v9.At, v9.To, (⟨v9.Val.Kind, v9.Val.Num, r8⟩ : TValue), v9.Tree⟩ : TEdit)).set x5.toNat (⟨v10.Kind, v10.Way, v10.At, v10.To, v10.Val, (⟨w64 ((w64 ((w64 ((w64 ((w64 (r3.1 + 1)) + 1)) + 1)) + 1)) + 1), v10.Tree.Key, v10.Tree.Text, v10.Tree.Props, v10.Tree.Kids⟩ : TTree)⟩ : TEdit)) x5).bind fun v11 =>
   (laws_markText (w64 ((w64 ((w64 ((w64 ((w64 ((w64 ((w64 (r3.1 + 1)) + 1)) + 1)) + 1)) + 1)) + 1)) + 1))).bind fun r12 =>
   (rdx (((((((((x0.set x5.toNat (⟨x1, v1.Way, v1.At, v1.To, v1.Val, v1.Tree⟩ : TEdit)).set x5.toNat (⟨v2.Kind, r3.2, v2.At, v2.To, v2.Val, v2.Tree⟩ : TEdit)).set x5.toNat (⟨v4.Kind, v4.Way, r3.1, v4.To, v4.Val, v4.Tree⟩ : TEdit)).set x5.toNat (⟨v5.Kind, v5.Way, v5.At, w64 (r3.1 + 1), v5.Val, v5.Tree⟩ : TEdit)).set x5.toNat (⟨v6.Kind, v6.Way, v6.At, v6.To, (⟨w64 ((w64 (r3.1 + 1)) + 1), v6.Val.Num, v6.Val.Text⟩ : TValue), v6.Tree⟩ : TEdit)).set x5.toNat (⟨v7.Kind, v7.Way, v7.At, v7.To, (⟨v7.Val.Kind, w64 ((w64 ((w64 (r3.1 + 1)) + 1)) + 1), v7.Val.Text⟩ : TValue), v7.Tree⟩ : TEdit)).set x5.toNat (⟨v9.Kind, v9.Way, v9.At, v9.To, (⟨v9.Val.Kind, v9.Val.Num, r8⟩ : TValue), v9.Tree⟩ : TEdit)).set x5.toNat (⟨v10.Kind, v10.Way, v10.At, v10.To, v10.Val, (⟨w64 ((w64 ((w64 ((w64 ((w64 (r3.1 + 1)) + 1)) + 1)) + 1)) + 1), v10.Tree.Key, v10.Tree.Text, v10.Tree.Props, v10.Tree.Kids⟩ : TTree)⟩ : TEdit)).set x5.toNat (⟨v11.Kind, v11.Way, v11.At, v11.To, v11.Val, (⟨v11.Tree.Tag, w64 ((w64 ((w64 ((w64 ((w64 ((w64 (r3.1 + 1)) + 1)) + 1)) + 1)) + 1)) + 1), v11.Tree.Text, v11.Tree.Props, v11.Tree.Kids⟩ : TTree)⟩ : TEdit)) x5).bind fun v13 =>
   (rdx ((((((((((x0.set x5.toNat (⟨x1, v1.Way, v1.At, v1.To, v1.Val, v1.Tree⟩ : TEdit)).set x5.toNat (⟨v2.Kind, r3.2, v2.At, v2.To, v2.Val, v2.Tree⟩ : TEdit)).set x5.toNat (⟨v4.Kind, v4.Way, r3.1, v4.To, v4.Val, v4.Tree⟩ : TEdit)).set x5.toNat (⟨v5.Kind, v5.Way, v5.At, w64 (r3.1 + 1), v5.Val, v5.Tree⟩ : TEdit)).set x5.toNat (⟨v6.Kind, v6.Way, v6.At, v6.To, (⟨w64 ((w64 (r3.1 + 1)) + 1), v6.Val.Num, v6.Val.Text⟩ : TValue), v6.Tree⟩ : TEdit)).set x5.toNat (⟨v7.Kind, v7.Way, v7.At, v7.To, (⟨v7.Val.Kind, w64 ((w64 ((w64 (r3.1 + 1)) + 1)) + 1), v7.Val.Text⟩ : TValue), v7.Tree⟩ : TEdit)).set x5.toNat (⟨v9.Kind, v9.Way, v9.At, v9.To, (⟨v9.Val.Kind, v9.Val.Num, r8⟩ : TValue), v9.Tree⟩ : TEdit)).set x5.toNat (⟨v10.Kind, v10.Way, v10.At, v10.To, v10.Val, (⟨w64 ((w64 ((w64 ((w64 ((w64 (r3.1 + 1)) + 1)) + 1)) + 1)) + 1), v10.Tree.Key, v10.Tree.Text, v10.Tree.Props, v10.Tree.Kids⟩ : TTree)⟩ : TEdit)).set x5.toNat (⟨v11.Kind, v11.Way, v11.At, v11.To, v11.Val, (⟨v11.Tree.Tag, w64 ((w64 ((w64 ((w64 ((w64 ((w64 (r3.1 + 1)) + 1)) + 1)) + 1)) + 1)) + 1), v11.Tree.Text, v11.Tree.Props, v11.Tree.Kids⟩ : TTree)⟩ : TEdit)).set x5.toNat (⟨v13.Kind, v13.Way, v13.At, v13.To, v13.Val, (⟨v13.Tree.Tag, v13.Tree.Key, r12, v13.Tree.Props, v13.Tree.Kids⟩ : TTree)⟩ : TEdit)) x5).bind fun v14 =>
   (laws_markPropS v14.Tree.Props (w64 ((w64 ((w64 ((w64 ((w64 ((w64 ((w64 ((w64 (r3.1 + 1)) + 1)) + 1)) + 1)) + 1)) + 1)) + 1)) + 1))).bind fun r15 =>
   (rdx (((((((((((x0.set x5.toNat (⟨x1, v1.Way, v1.At, v1.To, v1.Val, v1.Tree⟩ : TEdit)).set x5.toNat (⟨v2.Kind, r3.2, v2.At, v2.To, v2.Val, v2.Tree⟩ : TEdit)).set x5.toNat (⟨v4.Kind, v4.Way, r3.1, v4.To, v4.Val, v4.Tree⟩ : TEdit)).set x5.toNat (⟨v5.Kind, v5.Way, v5.At, w64 (r3.1 + 1), v5.Val, v5.Tree⟩ : TEdit)).set x5.toNat (⟨v6.Kind, v6.Way, v6.At, v6.To, (⟨w64 ((w64 (r3.1 + 1)) + 1), v6.Val.Num, v6.Val.Text⟩ : TValue), v6.Tree⟩ : TEdit)).set x5.toNat (⟨v7.Kind, v7.Way, v7.At, v7.To, (⟨v7.Val.Kind, w64 ((w64 ((w64 (r3.1 + 1)) + 1)) + 1), v7.Val.Text⟩ : TValue), v7.Tree⟩ : TEdit)).set x5.toNat (⟨v9.Kind, v9.Way, v9.At, v9.To, (⟨v9.Val.Kind, v9.Val.Num, r8⟩ : TValue), v9.Tree⟩ : TEdit)).set x5.toNat (⟨v10.Kind, v10.Way, v10.At, v10.To, v10.Val, (⟨w64 ((w64 ((w64 ((w64 ((w64 (r3.1 + 1)) + 1)) + 1)) + 1)) + 1), v10.Tree.Key, v10.Tree.Text, v10.Tree.Props, v10.Tree.Kids⟩ : TTree)⟩ : TEdit)).set x5.toNat (⟨v11.Kind, v11.Way, v11.At, v11.To, v11.Val, (⟨v11.Tree.Tag, w64 ((w64 ((w64 ((w64 ((w64 ((w64 (r3.1 + 1)) + 1)) + 1)) + 1)) + 1)) + 1), v11.Tree.Text, v11.Tree.Props, v11.Tree.Kids⟩ : TTree)⟩ : TEdit)).set x5.toNat (⟨v13.Kind, v13.Way, v13.At, v13.To, v13.Val, (⟨v13.Tree.Tag, v13.Tree.Key, r12, v13.Tree.Props, v13.Tree.Kids⟩ : TTree)⟩ : TEdit)).set x5.toNat (⟨v14.Kind, v14.Way, v14.At, v14.To, v14.Val, (⟨v14.Tree.Tag, v14.Tree.Key, v14.Tree.Text, r15.2, v14.Tree.Kids⟩ : TTree)⟩ : TEdit)) x5).bind fun v16 =>
   (laws_markTreeS v16.Tree.Kids r15.1).bind fun r17 =>
   laws_markEditS_b1 ((((((((((((x0.set x5.toNat (⟨x1, v1.Way, v1.At, v1.To, v1.Val, v1.Tree⟩ : TEdit)).set x5.toNat (⟨v2.Kind, r3.2, v2.At, v2.To, v2.Val, v2.Tree⟩ : TEdit)).set x5.toNat (⟨v4.Kind, v4.Way, r3.1, v4.To, v4.Val, v4.Tree⟩ : TEdit)).set x5.toNat (⟨v5.Kind, v5.Way, v5.At, w64 (r3.1 + 1), v5.Val, v5.Tree⟩ : TEdit)).set x5.toNat (⟨v6.Kind, v6.Way, v6.At, v6.To, (⟨w64 ((w64 (r3.1 + 1)) + 1), v6.Val.Num, v6.Val.Text⟩ : TValue), v6.Tree⟩ : TEdit)).set x5.toNat (⟨v7.Kind, v7.Way, v7.At, v7.To, (⟨v7.Val.Kind, w64 ((w64 ((w64 (r3.1 + 1)) + 1)) + 1), v7.Val.Text⟩ : TValue), v7.Tree⟩ : TEdit)).set x5.toNat (⟨v9.Kind, v9.Way, v9.At, v9.To, (⟨v9.Val.Kind, v9.Val.Num, r8⟩ : TValue), v9.Tree⟩ : TEdit)).set x5.toNat (⟨v10.Kind, v10.Way, v10.At, v10.To, v10.Val, (⟨w64 ((w64 ((w64 ((w64 ((w64 (r3.1 + 1)) + 1)) + 1)) + 1)) + 1), v10.Tree.Key, v10.Tree.Text, v10.Tree.Props, v10.Tree.Kids⟩ : TTree)⟩ : TEdit)).set x5.toNat (⟨v11.Kind, v11.Way, v11.At, v11.To, v11.Val, (⟨v11.Tree.Tag, w64 ((w64 ((w64 ((w64 ((w64 ((w64 (r3.1 + 1)) + 1)) + 1)) + 1)) + 1)) + 1), v11.Tree.Text, v11.Tree.Props, v11.Tree.Kids⟩ : TTree)⟩ : TEdit)).set x5.toNat (⟨v13.Kind, v13.Way, v13.At, v13.To, v13.Val, (⟨v13.Tree.Tag, v13.Tree.Key, r12, v13.Tree.Props, v13.Tree.Kids⟩ : TTree)⟩ : TEdit)).set x5.toNat (⟨v14.Kind, v14.Way, v14.At, v14.To, v14.Val, (⟨v14.Tree.Tag, v14.Tree.Key, v14.Tree.Text, r15.2, v14.Tree.Kids⟩ : TTree)⟩ : TEdit)).set x5.toNat (⟨v16.Kind, v16.Way, v16.At, v16.To, v16.Val, (⟨v16.Tree.Tag, v16.Tree.Key, v16.Tree.Text, v16.Tree.Props, r17.2⟩ : TTree)⟩ : TEdit)) r17.1 (w64 (x5 + 1)))
  else some (x1, x0)) = some r) : laws_markEditS_b1 x0 x1 x5 = some r := by
  refine Blk.of E17_inj ?_
  refine D_start (c' := d20_1) rfl ?_
  rcases ifB h with ⟨e1, h⟩ | ⟨e1, h⟩
  · obtain ⟨v1, e2, h⟩ := bnd h
    obtain ⟨v2, e3, h⟩ := bnd h
    have me3 := rdm (eTEdit .own) e3
    try simp (implicitDefEqProofs := false) only [go_sem] at me3
    obtain ⟨r3, e4, h⟩ := bnd h
    obtain ⟨v4, e5, h⟩ := bnd h
    have me5 := rdm (eTEdit .own) e5
    try simp (implicitDefEqProofs := false) only [go_sem] at me5
    obtain ⟨v5, e6, h⟩ := bnd h
    have me6 := rdm (eTEdit .own) e6
    try simp (implicitDefEqProofs := false) only [go_sem] at me6
    obtain ⟨v6, e7, h⟩ := bnd h
    have me7 := rdm (eTEdit .own) e7
    try simp (implicitDefEqProofs := false) only [go_sem] at me7
    obtain ⟨v7, e8, h⟩ := bnd h
    have me8 := rdm (eTEdit .own) e8
    try simp (implicitDefEqProofs := false) only [go_sem] at me8
    obtain ⟨r8, e9, h⟩ := bnd h
    obtain ⟨v9, e10, h⟩ := bnd h
    have me10 := rdm (eTEdit .own) e10
    try simp (implicitDefEqProofs := false) only [go_sem] at me10
    obtain ⟨v10, e11, h⟩ := bnd h
    have me11 := rdm (eTEdit .own) e11
    try simp (implicitDefEqProofs := false) only [go_sem] at me11
    obtain ⟨v11, e12, h⟩ := bnd h
    have me12 := rdm (eTEdit .own) e12
    try simp (implicitDefEqProofs := false) only [go_sem] at me12
    obtain ⟨r12, e13, h⟩ := bnd h
    obtain ⟨v13, e14, h⟩ := bnd h
    have me14 := rdm (eTEdit .own) e14
    try simp (implicitDefEqProofs := false) only [go_sem] at me14
    obtain ⟨v14, e15, h⟩ := bnd h
    have me15 := rdm (eTEdit .own) e15
    try simp (implicitDefEqProofs := false) only [go_sem] at me15
    obtain ⟨r15, e16, h⟩ := bnd h
    obtain ⟨v16, e17, h⟩ := bnd h
    have me17 := rdm (eTEdit .own) e17
    try simp (implicitDefEqProofs := false) only [go_sem] at me17
    obtain ⟨r17, e18, h⟩ := bnd h
    have q := Blk.run h
    try simp (implicitDefEqProofs := false) only [go_sem] at q
    simp (implicitDefEqProofs := false) only [go_sem, d20_1, k20_1, e1, rdp e2, rdm (eTEdit .own) e2, me3, laws_markIntS_run e4, me5, me6, me7, me8, laws_markText_run e9, me10, me11, me12, laws_markText_run e13, me14, me15, laws_markPropS_run e16, me17, laws_markTreeS_run e18, Nat.reduceEqDiff, Nat.reduceAdd, Nat.reduceLeDiff, ↓reduceIte, reduceCtorEq, Nat.reduceEqDiff]
    exact q
  · cases h
    simp (implicitDefEqProofs := false) only [go_sem, d20_1, k20_1, R20, E17, e1, Nat.reduceEqDiff, Nat.reduceAdd, ↓reduceIte, reduceCtorEq, Nat.reduceBEq, Nat.reduceEqDiff]
theorem laws_heldIntS_of (x0 : (List Int)) (x1 : Int) {r : Int} (h : (laws_heldIntS_b1 x0 x1 0) = some r) : laws_heldIntS x0 x1 = some r := by
  refine Fn.of L_eq E1_inj (fi := fi50) rfl rfl ?_
  simp only [fi50]
  have q := Blk.run h
  try simp (implicitDefEqProofs := false) only [go_sem] at q
  simp (implicitDefEqProofs := false) only [go_sem, b50, k50_1, Nat.reduceEqDiff, Nat.reduceAdd, ↓reduceIte, reduceCtorEq, Nat.reduceEqDiff]
  exact q
theorem laws_heldIntS_b1_of (x0 : (List Int)) (x1 : Int) (x5 : Int) {r : Int} (h : (if decide (x5 < (x0.length : Int)) then ((rdx x0 x5).bind fun v1 =>
   if !(decide (v1 = x1)) then some (-1)
   else laws_heldIntS_b1 x0 (w64 (x1 + 1)) (w64 (x5 + 1)))
  else some x1) = some r) : laws_heldIntS_b1 x0 x1 x5 = some r := by
  refine Blk.of E1_inj ?_
  refine D_start (c' := d50_1) rfl ?_
  rcases ifB h with ⟨e1, h⟩ | ⟨e1, h⟩
  · obtain ⟨v1, e2, h⟩ := bnd h
    rcases ifB h with ⟨e3, h⟩ | ⟨e3, h⟩
    · cases h
      simp (implicitDefEqProofs := false) only [go_sem, d50_1, k50_1, R50, E1, e1, rdp e2, rdm eI e2, e3, Nat.reduceEqDiff, Nat.reduceAdd, Nat.reduceLeDiff, ↓reduceIte, reduceCtorEq, Nat.reduceEqDiff]
    · have q := Blk.run h
      try simp (implicitDefEqProofs := false) only [go_sem] at q
      simp (implicitDefEqProofs := false) only [go_sem, d50_1, k50_1, e1, rdp e2, rdm eI e2, e3, Nat.reduceEqDiff, Nat.reduceAdd, Nat.reduceLeDiff, ↓reduceIte, reduceCtorEq, Nat.reduceEqDiff]
      exact q
  · cases h
    simp (implicitDefEqProofs := false) only [go_sem, d50_1, k50_1, R50, E1, e1, Nat.reduceEqDiff, Nat.reduceAdd, ↓reduceIte, reduceCtorEq, Nat.reduceEqDiff]
theorem laws_heldPropS_of (x0 : (List TProp)) (x1 : Int) {r : Int} (h : (laws_heldPropS_b1 x0 x1 0) = some r) : laws_heldPropS x0 x1 = some r := by
  refine Fn.of L_eq E1_inj (fi := fi51) rfl rfl ?_
  simp only [fi51]
  have q := Blk.run h
  try simp (implicitDefEqProofs := false) only [go_sem] at q
  simp (implicitDefEqProofs := false) only [go_sem, b51, k51_1, Nat.reduceEqDiff, Nat.reduceAdd, ↓reduceIte, reduceCtorEq, Nat.reduceEqDiff]
  exact q
theorem laws_heldPropS_b1_of (x0 : (List TProp)) (x1 : Int) (x5 : Int) {r : Int} (h : (if decide (x5 < (x0.length : Int)) then ((rdx x0 x5).bind fun v1 =>
   if !(decide (v1.Name = x1)) then some (-1)
   else (if !(decide (v1.Val.Kind = (w64 (x1 + 1)))) then some (-1)
    else (if !(decide (v1.Val.Num = (w64 ((w64 (x1 + 1)) + 1)))) then some (-1)
     else ((laws_markText (w64 ((w64 ((w64 (x1 + 1)) + 1)) + 1))).bind fun r2 =>
      if !(decide (v1.Val.Text = r2)) then some (-1)
      else laws_heldPropS_b1 x0 (w64 ((w64 ((w64 ((w64 (x1 + 1)) + 1)) + 1)) + 1)) (w64 (x5 + 1))))))
  else some x1) = some r) : laws_heldPropS_b1 x0 x1 x5 = some r := by
  refine Blk.of E1_inj ?_
  refine D_start (c' := d51_1) rfl ?_
  rcases ifB h with ⟨e1, h⟩ | ⟨e1, h⟩
  · obtain ⟨v1, e2, h⟩ := bnd h
    rcases ifB h with ⟨e3, h⟩ | ⟨e3, h⟩
    · cases h
      simp (implicitDefEqProofs := false) only [go_sem, d51_1, k51_1, R51, E1, e1, rdp e2, rdm eTProp e2, e3, Nat.reduceEqDiff, Nat.reduceAdd, Nat.reduceLeDiff, ↓reduceIte, reduceCtorEq, Nat.reduceEqDiff]
    · rcases ifB h with ⟨e4, h⟩ | ⟨e4, h⟩
      · cases h
        simp (implicitDefEqProofs := false) only [go_sem, d51_1, k51_1, R51, E1, e1, rdp e2, rdm eTProp e2, e3, e4, Nat.reduceEqDiff, Nat.reduceAdd, Nat.reduceLeDiff, ↓reduceIte, reduceCtorEq, Nat.reduceEqDiff]
      · rcases ifB h with ⟨e5, h⟩ | ⟨e5, h⟩
        · cases h
          simp (implicitDefEqProofs := false) only [go_sem, d51_1, k51_1, R51, E1, e1, rdp e2, rdm eTProp e2, e3, e4, e5, Nat.reduceEqDiff, Nat.reduceAdd, Nat.reduceLeDiff, ↓reduceIte, reduceCtorEq, Nat.reduceEqDiff]
        · obtain ⟨r2, e6, h⟩ := bnd h
          rcases ifB h with ⟨e7, h⟩ | ⟨e7, h⟩
          · cases h
            simp (implicitDefEqProofs := false) only [go_sem, d51_1, k51_1, R51, E1, e1, rdp e2, rdm eTProp e2, e3, e4, e5, laws_markText_run e6, e7, Nat.reduceEqDiff, Nat.reduceAdd, Nat.reduceLeDiff, ↓reduceIte, reduceCtorEq, Nat.reduceEqDiff]
          · have q := Blk.run h
            try simp (implicitDefEqProofs := false) only [go_sem] at q
            simp (implicitDefEqProofs := false) only [go_sem, d51_1, k51_1, e1, rdp e2, rdm eTProp e2, e3, e4, e5, laws_markText_run e6, e7, Nat.reduceEqDiff, Nat.reduceAdd, Nat.reduceLeDiff, ↓reduceIte, reduceCtorEq, Nat.reduceEqDiff]
            exact q
  · cases h
    simp (implicitDefEqProofs := false) only [go_sem, d51_1, k51_1, R51, E1, e1, Nat.reduceEqDiff, Nat.reduceAdd, ↓reduceIte, reduceCtorEq, Nat.reduceEqDiff]
theorem laws_heldTreeS_of (x0 : (List TTree)) (x1 : Int) {r : Int} (h : (laws_heldTreeS_b1 x0 x1 0) = some r) : laws_heldTreeS x0 x1 = some r := by
  refine Fn.of L_eq E1_inj (fi := fi52) rfl rfl ?_
  simp only [fi52]
  have q := Blk.run h
  try simp (implicitDefEqProofs := false) only [go_sem] at q
  simp (implicitDefEqProofs := false) only [go_sem, b52, k52_1, Nat.reduceEqDiff, Nat.reduceAdd, ↓reduceIte, reduceCtorEq, Nat.reduceEqDiff]
  exact q
set_option maxHeartbeats 4000000 in
theorem laws_heldTreeS_b1_of (x0 : (List TTree)) (x1 : Int) (x5 : Int) {r : Int} (h : (if decide (x5 < (x0.length : Int)) then ((rdx x0 x5).bind fun v1 =>
   if !(decide (v1.Tag = x1)) then some (-1)
   else (if !(decide (v1.Key = (w64 (x1 + 1)))) then some (-1)
    else ((laws_markText (w64 ((w64 (x1 + 1)) + 1))).bind fun r2 =>
     if !(decide (v1.Text = r2)) then some (-1)
     else ((laws_heldPropS v1.Props (w64 ((w64 ((w64 (x1 + 1)) + 1)) + 1))).bind fun r3 =>
      if decide (r3 < 0) then some (-1)
      else ((laws_heldTreeS v1.Kids r3).bind fun r4 =>
       if decide (r4 < 0) then some (-1)
       else laws_heldTreeS_b1 x0 r4 (w64 (x5 + 1)))))))
  else some x1) = some r) : laws_heldTreeS_b1 x0 x1 x5 = some r := by
  refine Blk.of E1_inj ?_
  refine D_start (c' := d52_1) rfl ?_
  rcases ifB h with ⟨e1, h⟩ | ⟨e1, h⟩
  · obtain ⟨v1, e2, h⟩ := bnd h
    rcases ifB h with ⟨e3, h⟩ | ⟨e3, h⟩
    · cases h
      simp (implicitDefEqProofs := false) only [go_sem, d52_1, k52_1, R52, E1, e1, rdp e2, rdm (eTTree .bor) e2, e3, Nat.reduceEqDiff, Nat.reduceAdd, Nat.reduceLeDiff, ↓reduceIte, reduceCtorEq, Nat.reduceEqDiff]
    · rcases ifB h with ⟨e4, h⟩ | ⟨e4, h⟩
      · cases h
        simp (implicitDefEqProofs := false) only [go_sem, d52_1, k52_1, R52, E1, e1, rdp e2, rdm (eTTree .bor) e2, e3, e4, Nat.reduceEqDiff, Nat.reduceAdd, Nat.reduceLeDiff, ↓reduceIte, reduceCtorEq, Nat.reduceEqDiff]
      · obtain ⟨r2, e5, h⟩ := bnd h
        rcases ifB h with ⟨e6, h⟩ | ⟨e6, h⟩
        · cases h
          simp (implicitDefEqProofs := false) only [go_sem, d52_1, k52_1, R52, E1, e1, rdp e2, rdm (eTTree .bor) e2, e3, e4, laws_markText_run e5, e6, Nat.reduceEqDiff, Nat.reduceAdd, Nat.reduceLeDiff, ↓reduceIte, reduceCtorEq, Nat.reduceEqDiff]
        · obtain ⟨r3, e7, h⟩ := bnd h
          rcases ifB h with ⟨e8, h⟩ | ⟨e8, h⟩
          · cases h
            simp (implicitDefEqProofs := false) only [go_sem, d52_1, k52_1, R52, E1, e1, rdp e2, rdm (eTTree .bor) e2, e3, e4, laws_markText_run e5, e6, laws_heldPropS_run e7, e8, Nat.reduceEqDiff, Nat.reduceAdd, Nat.reduceLeDiff, ↓reduceIte, reduceCtorEq, Nat.reduceEqDiff]
          · obtain ⟨r4, e9, h⟩ := bnd h
            rcases ifB h with ⟨e10, h⟩ | ⟨e10, h⟩
            · cases h
              simp (implicitDefEqProofs := false) only [go_sem, d52_1, k52_1, R52, E1, e1, rdp e2, rdm (eTTree .bor) e2, e3, e4, laws_markText_run e5, e6, laws_heldPropS_run e7, e8, laws_heldTreeS_run e9, e10, Nat.reduceEqDiff, Nat.reduceAdd, Nat.reduceLeDiff, ↓reduceIte, reduceCtorEq, Nat.reduceEqDiff]
            · have q := Blk.run h
              try simp (implicitDefEqProofs := false) only [go_sem] at q
              simp (implicitDefEqProofs := false) only [go_sem, d52_1, k52_1, e1, rdp e2, rdm (eTTree .bor) e2, e3, e4, laws_markText_run e5, e6, laws_heldPropS_run e7, e8, laws_heldTreeS_run e9, e10, Nat.reduceEqDiff, Nat.reduceAdd, Nat.reduceLeDiff, ↓reduceIte, reduceCtorEq, Nat.reduceEqDiff]
              exact q
  · cases h
    simp (implicitDefEqProofs := false) only [go_sem, d52_1, k52_1, R52, E1, e1, Nat.reduceEqDiff, Nat.reduceAdd, ↓reduceIte, reduceCtorEq, Nat.reduceEqDiff]
theorem laws_heldEditS_of (x0 : (List TEdit)) (x1 : Int) {r : Int} (h : (laws_heldEditS_b1 x0 x1 0) = some r) : laws_heldEditS x0 x1 = some r := by
  refine Fn.of L_eq E1_inj (fi := fi21) rfl rfl ?_
  simp only [fi21]
  have q := Blk.run h
  try simp (implicitDefEqProofs := false) only [go_sem] at q
  simp (implicitDefEqProofs := false) only [go_sem, b21, k21_1, Nat.reduceEqDiff, Nat.reduceAdd, ↓reduceIte, reduceCtorEq, Nat.reduceEqDiff]
  exact q
set_option maxHeartbeats 4000000 in
theorem laws_heldEditS_b1_of (x0 : (List TEdit)) (x1 : Int) (x5 : Int) {r : Int} (h : (if decide (x5 < (x0.length : Int)) then ((rdx x0 x5).bind fun v1 =>
   if !(decide (v1.Kind = x1)) then some (-1)
   else ((laws_heldIntS v1.Way (w64 (x1 + 1))).bind fun r2 =>
    if decide (r2 < 0) then some (-1)
    else (if !(decide (v1.At = r2)) then some (-1)
     else (if !(decide (v1.To = (w64 (r2 + 1)))) then some (-1)
      else (if !(decide (v1.Val.Kind = (w64 ((w64 (r2 + 1)) + 1)))) then some (-1)
       else (if !(decide (v1.Val.Num = (w64 ((w64 ((w64 (r2 + 1)) + 1)) + 1)))) then some (-1)
        else ((laws_markText (w64 ((w64 ((w64 ((w64 (r2 + 1)) + 1)) + 1)) + 1))).bind fun r3 =>
         if !(decide (v1.Val.Text = r3)) then some (-1)
         else (if !(decide (v1.Tree.Tag = (w64 ((w64 ((w64 ((w64 ((w64 (r2 + 1)) + 1)) + 1)) + 1)) + 1)))) then some (-1)
          else (if !(decide (v1.Tree.Key = (w64 ((w64 ((w64 ((w64 ((w64 ((w64 (r2 + 1)) + 1)) + 1)) + 1)) + 1)) + 1)))) then some (-1)
           else ((laws_markText (w64 ((w64 ((w64 ((w64 ((w64 ((w64 ((w64 (r2 + 1)) + 1)) + 1)) + 1)) + 1)) + 1)) + 1))).bind fun r4 =>
            if !(decide (v1.Tree.Text = r4)) then some (-1)
            else ((laws_heldPropS v1.Tree.Props (w64 ((w64 ((w64 ((w64 ((w64 ((w64 ((w64 ((w64 (r2 + 1)) + 1)) + 1)) + 1)) + 1)) + 1)) + 1)) + 1))).bind fun r5 =>
             if decide (r5 < 0) then some (-1)
             else ((laws_heldTreeS v1.Tree.Kids r5).bind fun r6 =>
              if decide (r6 < 0) then some (-1)
              else laws_heldEditS_b1 x0 r6 (w64 (x5 + 1))))))))))))))
  else some x1) = some r) : laws_heldEditS_b1 x0 x1 x5 = some r := by
  refine Blk.of E1_inj ?_
  refine D_start (c' := d21_1) rfl ?_
  rcases ifB h with ⟨e1, h⟩ | ⟨e1, h⟩
  · obtain ⟨v1, e2, h⟩ := bnd h
    rcases ifB h with ⟨e3, h⟩ | ⟨e3, h⟩
    · cases h
      simp (implicitDefEqProofs := false) only [go_sem, d21_1, k21_1, R21, E1, e1, rdp e2, rdm (eTEdit .bor) e2, e3, Nat.reduceEqDiff, Nat.reduceAdd, Nat.reduceLeDiff, ↓reduceIte, reduceCtorEq, Nat.reduceEqDiff]
    · obtain ⟨r2, e4, h⟩ := bnd h
      rcases ifB h with ⟨e5, h⟩ | ⟨e5, h⟩
      · cases h
        simp (implicitDefEqProofs := false) only [go_sem, d21_1, k21_1, R21, E1, e1, rdp e2, rdm (eTEdit .bor) e2, e3, laws_heldIntS_run e4, e5, Nat.reduceEqDiff, Nat.reduceAdd, Nat.reduceLeDiff, ↓reduceIte, reduceCtorEq, Nat.reduceEqDiff]
      · rcases ifB h with ⟨e6, h⟩ | ⟨e6, h⟩
        · cases h
          simp (implicitDefEqProofs := false) only [go_sem, d21_1, k21_1, R21, E1, e1, rdp e2, rdm (eTEdit .bor) e2, e3, laws_heldIntS_run e4, e5, e6, Nat.reduceEqDiff, Nat.reduceAdd, Nat.reduceLeDiff, ↓reduceIte, reduceCtorEq, Nat.reduceEqDiff]
        · rcases ifB h with ⟨e7, h⟩ | ⟨e7, h⟩
          · cases h
            simp (implicitDefEqProofs := false) only [go_sem, d21_1, k21_1, R21, E1, e1, rdp e2, rdm (eTEdit .bor) e2, e3, laws_heldIntS_run e4, e5, e6, e7, Nat.reduceEqDiff, Nat.reduceAdd, Nat.reduceLeDiff, ↓reduceIte, reduceCtorEq, Nat.reduceEqDiff]
          · rcases ifB h with ⟨e8, h⟩ | ⟨e8, h⟩
            · cases h
              simp (implicitDefEqProofs := false) only [go_sem, d21_1, k21_1, R21, E1, e1, rdp e2, rdm (eTEdit .bor) e2, e3, laws_heldIntS_run e4, e5, e6, e7, e8, Nat.reduceEqDiff, Nat.reduceAdd, Nat.reduceLeDiff, ↓reduceIte, reduceCtorEq, Nat.reduceEqDiff]
            · rcases ifB h with ⟨e9, h⟩ | ⟨e9, h⟩
              · cases h
                simp (implicitDefEqProofs := false) only [go_sem, d21_1, k21_1, R21, E1, e1, rdp e2, rdm (eTEdit .bor) e2, e3, laws_heldIntS_run e4, e5, e6, e7, e8, e9, Nat.reduceEqDiff, Nat.reduceAdd, Nat.reduceLeDiff, ↓reduceIte, reduceCtorEq, Nat.reduceEqDiff]
              · obtain ⟨r3, e10, h⟩ := bnd h
                rcases ifB h with ⟨e11, h⟩ | ⟨e11, h⟩
                · cases h
                  simp (implicitDefEqProofs := false) only [go_sem, d21_1, k21_1, R21, E1, e1, rdp e2, rdm (eTEdit .bor) e2, e3, laws_heldIntS_run e4, e5, e6, e7, e8, e9, laws_markText_run e10, e11, Nat.reduceEqDiff, Nat.reduceAdd, Nat.reduceLeDiff, ↓reduceIte, reduceCtorEq, Nat.reduceEqDiff]
                · rcases ifB h with ⟨e12, h⟩ | ⟨e12, h⟩
                  · cases h
                    simp (implicitDefEqProofs := false) only [go_sem, d21_1, k21_1, R21, E1, e1, rdp e2, rdm (eTEdit .bor) e2, e3, laws_heldIntS_run e4, e5, e6, e7, e8, e9, laws_markText_run e10, e11, e12, Nat.reduceEqDiff, Nat.reduceAdd, Nat.reduceLeDiff, ↓reduceIte, reduceCtorEq, Nat.reduceEqDiff]
                  · rcases ifB h with ⟨e13, h⟩ | ⟨e13, h⟩
                    · cases h
                      simp (implicitDefEqProofs := false) only [go_sem, d21_1, k21_1, R21, E1, e1, rdp e2, rdm (eTEdit .bor) e2, e3, laws_heldIntS_run e4, e5, e6, e7, e8, e9, laws_markText_run e10, e11, e12, e13, Nat.reduceEqDiff, Nat.reduceAdd, Nat.reduceLeDiff, ↓reduceIte, reduceCtorEq, Nat.reduceEqDiff]
                    · obtain ⟨r4, e14, h⟩ := bnd h
                      rcases ifB h with ⟨e15, h⟩ | ⟨e15, h⟩
                      · cases h
                        simp (implicitDefEqProofs := false) only [go_sem, d21_1, k21_1, R21, E1, e1, rdp e2, rdm (eTEdit .bor) e2, e3, laws_heldIntS_run e4, e5, e6, e7, e8, e9, laws_markText_run e10, e11, e12, e13, laws_markText_run e14, e15, Nat.reduceEqDiff, Nat.reduceAdd, Nat.reduceLeDiff, ↓reduceIte, reduceCtorEq, Nat.reduceEqDiff]
                      · obtain ⟨r5, e16, h⟩ := bnd h
                        rcases ifB h with ⟨e17, h⟩ | ⟨e17, h⟩
                        · cases h
                          simp (implicitDefEqProofs := false) only [go_sem, d21_1, k21_1, R21, E1, e1, rdp e2, rdm (eTEdit .bor) e2, e3, laws_heldIntS_run e4, e5, e6, e7, e8, e9, laws_markText_run e10, e11, e12, e13, laws_markText_run e14, e15, laws_heldPropS_run e16, e17, Nat.reduceEqDiff, Nat.reduceAdd, Nat.reduceLeDiff, ↓reduceIte, reduceCtorEq, Nat.reduceEqDiff]
                        · obtain ⟨r6, e18, h⟩ := bnd h
                          rcases ifB h with ⟨e19, h⟩ | ⟨e19, h⟩
                          · cases h
                            simp (implicitDefEqProofs := false) only [go_sem, d21_1, k21_1, R21, E1, e1, rdp e2, rdm (eTEdit .bor) e2, e3, laws_heldIntS_run e4, e5, e6, e7, e8, e9, laws_markText_run e10, e11, e12, e13, laws_markText_run e14, e15, laws_heldPropS_run e16, e17, laws_heldTreeS_run e18, e19, Nat.reduceEqDiff, Nat.reduceAdd, Nat.reduceLeDiff, ↓reduceIte, reduceCtorEq, Nat.reduceEqDiff]
                          · have q := Blk.run h
                            try simp (implicitDefEqProofs := false) only [go_sem] at q
                            simp (implicitDefEqProofs := false) only [go_sem, d21_1, k21_1, e1, rdp e2, rdm (eTEdit .bor) e2, e3, laws_heldIntS_run e4, e5, e6, e7, e8, e9, laws_markText_run e10, e11, e12, e13, laws_markText_run e14, e15, laws_heldPropS_run e16, e17, laws_heldTreeS_run e18, e19, Nat.reduceEqDiff, Nat.reduceAdd, Nat.reduceLeDiff, ↓reduceIte, reduceCtorEq, Nat.reduceEqDiff]
                            exact q
  · cases h
    simp (implicitDefEqProofs := false) only [go_sem, d21_1, k21_1, R21, E1, e1, Nat.reduceEqDiff, Nat.reduceAdd, ↓reduceIte, reduceCtorEq, Nat.reduceEqDiff]
end Go.Fw.Law
