/- What the functions come to. Conditions: none. -/
import Derived.Test.YtfemaegbcfaolaaGreatDoorLeD
namespace Go.Fw.Law
open Go Go.Fw
theorem impl_edits_of (x0 : TTree) (x1 : TTree) (x2 : (List Int)) {r : (List TEdit)} (h : (if !(decide (x0.Tag = x1.Tag)) then ((impl_wayCopy x2).bind fun r1 =>
   (impl_treeCopy x1).bind fun r2 =>
   some ([(⟨0, r1, 0, 0, (⟨0, 0, []⟩ : TValue), r2⟩ : TEdit)]))
  else (if !(decide (x0.Key = x1.Key)) then ((impl_wayCopy x2).bind fun r3 =>
    (impl_treeCopy x1).bind fun r4 =>
    some ([(⟨0, r3, 0, 0, (⟨0, 0, []⟩ : TValue), r4⟩ : TEdit)]))
   else (if decide (x0.Tag = (-1)) then (if decide (x0.Text = x1.Text) then some []
     else ((impl_wayCopy x2).bind fun r5 =>
      some ([(⟨1, r5, 0, 0, (⟨2, 0, x1.Text⟩ : TValue), (⟨0, 0, [], [], []⟩ : TTree)⟩ : TEdit)])))
    else ((impl_propEdits x0 x1 x2).bind fun r6 =>
     if (0 ≤ (x0.Kids.length : Int) ∧ (x0.Kids.length : Int) * 1 ≤ 281474976710656 ∧ (x0.Kids.length : Int) ≤ 9223372036854775807) then impl_edits_b1 x2 r6 [] (List.replicate (x0.Kids.length : Int).toNat false) x1.Kids (x1.Kids.length : Int) 0 x0 x1
     else none)))) = some r) : impl_edits x0 x1 x2 = some r := by
  refine Fn.of L_eq E9_inj (fi := fi37) rfl rfl ?_
  simp only [fi37]
  rcases ifB h with ⟨e1, h⟩ | ⟨e1, h⟩
  · obtain ⟨r1, e2, h⟩ := bnd h
    obtain ⟨r2, e3, h⟩ := bnd h
    cases h
    simp (implicitDefEqProofs := false) only [go_sem, b37, k37_1, k37_4, k37_5, k37_6, k37_8, R37, E9, e1, impl_wayCopy_run e2, impl_treeCopy_run e3, Nat.reduceEqDiff, Nat.reduceAdd, Nat.reduceLeDiff, ↓reduceIte, reduceCtorEq, Nat.reduceEqDiff]
  · rcases ifB h with ⟨e4, h⟩ | ⟨e4, h⟩
    · obtain ⟨r3, e5, h⟩ := bnd h
      obtain ⟨r4, e6, h⟩ := bnd h
      cases h
      simp (implicitDefEqProofs := false) only [go_sem, b37, k37_1, k37_4, k37_5, k37_6, k37_8, R37, E9, e1, e4, impl_wayCopy_run e5, impl_treeCopy_run e6, Nat.reduceEqDiff, Nat.reduceAdd, Nat.reduceLeDiff, ↓reduceIte, reduceCtorEq, Nat.reduceEqDiff]
    · rcases ifB h with ⟨e7, h⟩ | ⟨e7, h⟩
      · rcases ifB h with ⟨e8, h⟩ | ⟨e8, h⟩
        · cases h
          simp (implicitDefEqProofs := false) only [go_sem, b37, k37_1, k37_4, k37_5, k37_6, k37_8, R37, E9, e1, e4, e7, e8, Nat.reduceEqDiff, Nat.reduceAdd, Nat.reduceLeDiff, ↓reduceIte, reduceCtorEq, Nat.reduceEqDiff]
        · obtain ⟨r5, e9, h⟩ := bnd h
          cases h
          simp (implicitDefEqProofs := false) only [go_sem, b37, k37_1, k37_4, k37_5, k37_6, k37_8, R37, E9, e1, e4, e7, e8, impl_wayCopy_run e9, Nat.reduceEqDiff, Nat.reduceAdd, Nat.reduceLeDiff, ↓reduceIte, reduceCtorEq, Nat.reduceEqDiff]
      · obtain ⟨r6, e10, h⟩ := bnd h
        obtain ⟨e11, h⟩ := ifP h
        have me11 := e11
        try simp (implicitDefEqProofs := false) only [go_sem, Nat.reduceEqDiff, Nat.reduceAdd, Nat.reduceMul, Nat.reduceSub, Nat.reduceLeDiff, Int.reduceLE, Int.reduceLT, Int.reduceEq, ↓reduceIte, reduceCtorEq, Nat.beq_eq_true_eq, Nat.reduceBEq, Nat.reduceEqDiff] at me11
        have q := Blk.run h
        try simp (implicitDefEqProofs := false) only [go_sem] at q
        simp (implicitDefEqProofs := false) only [go_sem, b37, k37_1, k37_4, k37_5, k37_6, k37_8, e1, e4, e7, impl_propEdits_run e10, e11, Nat.reduceEqDiff, Nat.reduceAdd, Nat.reduceLeDiff, ↓reduceIte, reduceCtorEq, Nat.reduceBEq, Nat.reduceEqDiff]
        exact q
theorem impl_edits_b1_of (x2 : (List Int)) (x7 : (List TEdit)) (x8 : (List Int)) (x9 : (List Bool)) (x70 : (List TTree)) (x71 : Int) (x72 : Int) (y3 : TTree) (y4 : TTree) {r : (List TEdit)} (h : (if decide (x72 < x71) then ((rdx x70 x72).bind fun v7 =>
   impl_edits_b2 x2 x7 x8 x9 (-1) x70 x71 x72 y3.Kids (y3.Kids.length : Int) 0 y3 y4 v7)
  else impl_edits_b3 x2 x7 x8 x9 [] (y3.Kids.length : Int) 0 y3 y4) = some r) : impl_edits_b1 x2 x7 x8 x9 x70 x71 x72 y3 y4 = some r := by
  refine Blk.of E9_inj ?_
  refine D_start (c' := d37_1) rfl ?_
  rcases ifB h with ⟨e1, h⟩ | ⟨e1, h⟩
  · obtain ⟨v7, e2, h⟩ := bnd h
    have q := Blk.run h
    try simp (implicitDefEqProofs := false) only [go_sem] at q
    simp (implicitDefEqProofs := false) only [go_sem, d37_1, k37_1, k37_2, k37_3, k37_4, k37_5, k37_6, k37_8, e1, rdp e2, rdm (eTTree .bor) e2, Nat.reduceEqDiff, Nat.reduceAdd, Nat.reduceLeDiff, ↓reduceIte, reduceCtorEq, Nat.reduceBEq, Nat.reduceEqDiff]
    exact q
  · have q := Blk.run h
    try simp (implicitDefEqProofs := false) only [go_sem] at q
    simp (implicitDefEqProofs := false) only [go_sem, d37_1, k37_1, k37_2, k37_3, k37_4, k37_5, k37_6, k37_8, e1, Nat.reduceEqDiff, Nat.reduceAdd, Nat.reduceLeDiff, ↓reduceIte, reduceCtorEq, Nat.reduceBEq, Nat.reduceEqDiff]
    exact q
theorem impl_edits_b2_of (x2 : (List Int)) (x7 : (List TEdit)) (x8 : (List Int)) (x9 : (List Bool)) (x12 : Int) (x70 : (List TTree)) (x71 : Int) (x72 : Int) (x77 : (List TTree)) (x78 : Int) (x79 : Int) (y3 : TTree) (y4 : TTree) (y11 : TTree) {r : (List TEdit)} (h : (if decide (x79 < x78) then ((rdx x77 x79).bind fun v8 =>
   (rdx x9 x79).bind fun v9 =>
   if !v9 then (if decide (v8.Tag = y11.Tag) then (if decide (v8.Key = y11.Key) then (if apOk 8 x8 ([x79]) then impl_edits_b1 x2 x7 (x8 ++ ([x79])) (x9.set x79.toNat true) x70 x71 (w64 (x72 + 1)) y3 y4
      else none)
     else impl_edits_b2 x2 x7 x8 x9 x12 x70 x71 x72 x77 x78 (w64 (x79 + 1)) y3 y4 y11)
    else impl_edits_b2 x2 x7 x8 x9 x12 x70 x71 x72 x77 x78 (w64 (x79 + 1)) y3 y4 y11)
   else impl_edits_b2 x2 x7 x8 x9 x12 x70 x71 x72 x77 x78 (w64 (x79 + 1)) y3 y4 y11)
  else (if apOk 8 x8 ([x12]) then impl_edits_b1 x2 x7 (x8 ++ ([x12])) x9 x70 x71 (w64 (x72 + 1)) y3 y4
   else none)) = some r) : impl_edits_b2 x2 x7 x8 x9 x12 x70 x71 x72 x77 x78 x79 y3 y4 y11 = some r := by
  refine Blk.of E9_inj ?_
  refine D_start (c' := d37_6) rfl ?_
  rcases ifB h with ⟨e1, h⟩ | ⟨e1, h⟩
  · obtain ⟨v8, e2, h⟩ := bnd h
    obtain ⟨v9, e3, h⟩ := bnd h
    rcases ifB h with ⟨e4, h⟩ | ⟨e4, h⟩
    · rcases ifB h with ⟨e5, h⟩ | ⟨e5, h⟩
      · rcases ifB h with ⟨e6, h⟩ | ⟨e6, h⟩
        · obtain ⟨e7, h⟩ := ifP h
          have me7 := apL e7
          try simp (implicitDefEqProofs := false) only [go_sem, Nat.reduceAdd, Nat.reduceLeDiff] at me7
          have q := Blk.run h
          try simp (implicitDefEqProofs := false) only [go_sem] at q
          simp (implicitDefEqProofs := false) only [go_sem, d37_6, k37_1, k37_2, k37_3, k37_4, k37_5, k37_6, k37_8, e1, rdp e2, rdm (eTTree .bor) e2, rdm eB e3, e4, e5, e6, me7, Nat.reduceEqDiff, Nat.reduceAdd, Nat.reduceLeDiff, ↓reduceIte, reduceCtorEq, Nat.reduceBEq, Nat.reduceEqDiff]
          exact q
        · have q := Blk.run h
          try simp (implicitDefEqProofs := false) only [go_sem] at q
          simp (implicitDefEqProofs := false) only [go_sem, d37_6, k37_1, k37_2, k37_3, k37_4, k37_5, k37_6, k37_8, e1, rdp e2, rdm (eTTree .bor) e2, rdm eB e3, e4, e5, e6, Nat.reduceEqDiff, Nat.reduceAdd, Nat.reduceLeDiff, ↓reduceIte, reduceCtorEq, Nat.reduceBEq, Nat.reduceEqDiff]
          exact q
      · have q := Blk.run h
        try simp (implicitDefEqProofs := false) only [go_sem] at q
        simp (implicitDefEqProofs := false) only [go_sem, d37_6, k37_1, k37_2, k37_3, k37_4, k37_5, k37_6, k37_8, e1, rdp e2, rdm (eTTree .bor) e2, rdm eB e3, e4, e5, Nat.reduceEqDiff, Nat.reduceAdd, Nat.reduceLeDiff, ↓reduceIte, reduceCtorEq, Nat.reduceBEq, Nat.reduceEqDiff]
        exact q
    · have q := Blk.run h
      try simp (implicitDefEqProofs := false) only [go_sem] at q
      simp (implicitDefEqProofs := false) only [go_sem, d37_6, k37_1, k37_2, k37_3, k37_4, k37_5, k37_6, k37_8, e1, rdp e2, rdm (eTTree .bor) e2, rdm eB e3, e4, Nat.reduceEqDiff, Nat.reduceAdd, Nat.reduceLeDiff, ↓reduceIte, reduceCtorEq, Nat.reduceBEq, Nat.reduceEqDiff]
      exact q
  · obtain ⟨e8, h⟩ := ifP h
    have me8 := apL e8
    try simp (implicitDefEqProofs := false) only [go_sem, Nat.reduceAdd, Nat.reduceLeDiff] at me8
    have q := Blk.run h
    try simp (implicitDefEqProofs := false) only [go_sem] at q
    simp (implicitDefEqProofs := false) only [go_sem, d37_6, k37_1, k37_2, k37_3, k37_4, k37_5, k37_6, k37_8, e1, me8, Nat.reduceEqDiff, Nat.reduceAdd, Nat.reduceLeDiff, ↓reduceIte, Nat.reduceBEq, Nat.reduceEqDiff]
    exact q
theorem impl_edits_b3_of (x2 : (List Int)) (x7 : (List TEdit)) (x8 : (List Int)) (x9 : (List Bool)) (x15 : (List Int)) (x116 : Int) (x117 : Int) (y3 : TTree) (y4 : TTree) {r : (List TEdit)} (h : (if decide (x117 < x116) then (if apOk 8 x15 ([x117]) then impl_edits_b3 x2 x7 x8 x9 (x15 ++ ([x117])) x116 (w64 (x117 + 1)) y3 y4
   else none)
  else impl_edits_b4 x2 x7 x8 x9 x15 (w64 ((y3.Kids.length : Int) - 1)) y3 y4) = some r) : impl_edits_b3 x2 x7 x8 x9 x15 x116 x117 y3 y4 = some r := by
  refine Blk.of E9_inj ?_
  refine D_start (c' := d37_2) rfl ?_
  rcases ifB h with ⟨e1, h⟩ | ⟨e1, h⟩
  · obtain ⟨e2, h⟩ := ifP h
    have me2 := apL e2
    try simp (implicitDefEqProofs := false) only [go_sem, Nat.reduceAdd, Nat.reduceLeDiff] at me2
    have q := Blk.run h
    try simp (implicitDefEqProofs := false) only [go_sem] at q
    simp (implicitDefEqProofs := false) only [go_sem, d37_2, k37_4, k37_5, k37_6, k37_8, e1, me2, Nat.reduceEqDiff, Nat.reduceAdd, Nat.reduceLeDiff, ↓reduceIte, Nat.reduceBEq, Nat.reduceEqDiff]
    exact q
  · have q := Blk.run h
    try simp (implicitDefEqProofs := false) only [go_sem] at q
    simp (implicitDefEqProofs := false) only [go_sem, d37_2, k37_4, k37_5, k37_6, k37_8, e1, Nat.reduceEqDiff, Nat.reduceAdd, Nat.reduceLeDiff, ↓reduceIte, reduceCtorEq, Nat.reduceBEq, Nat.reduceEqDiff]
    exact q
theorem impl_edits_b4_of (x2 : (List Int)) (x7 : (List TEdit)) (x8 : (List Int)) (x9 : (List Bool)) (x15 : (List Int)) (x17 : Int) (y3 : TTree) (y4 : TTree) {r : (List TEdit)} (h : (if decide (0 ≤ x17) then ((rdx x9 x17).bind fun v10 =>
   if !v10 then ((impl_wayCopy x2).bind fun r11 =>
    if apOk 160 x7 ([(⟨4, r11, x17, 0, (⟨0, 0, []⟩ : TValue), (⟨0, 0, [], [], []⟩ : TTree)⟩ : TEdit)]) then ((slices_Delete_int_int x15 x17 (w64 (x17 + 1))).bind fun r12 =>
     impl_edits_b4 x2 (x7 ++ ([(⟨4, r11, x17, 0, (⟨0, 0, []⟩ : TValue), (⟨0, 0, [], [], []⟩ : TTree)⟩ : TEdit)])) x8 x9 r12 (w64 (x17 - 1)) y3 y4)
    else none)
   else impl_edits_b4 x2 x7 x8 x9 x15 (w64 (x17 - 1)) y3 y4)
  else ((impl_rising x8).bind fun r13 =>
   impl_edits_b5 x2 x7 x8 x15 r13 (-2) (-1) (w64 ((y4.Kids.length : Int) - 1)) y3 y4)) = some r) : impl_edits_b4 x2 x7 x8 x9 x15 x17 y3 y4 = some r := by
  refine Blk.of E9_inj ?_
  refine D_start (c' := d37_3) rfl ?_
  rcases ifB h with ⟨e1, h⟩ | ⟨e1, h⟩
  · obtain ⟨v10, e2, h⟩ := bnd h
    rcases ifB h with ⟨e3, h⟩ | ⟨e3, h⟩
    · obtain ⟨r11, e4, h⟩ := bnd h
      obtain ⟨e5, h⟩ := ifP h
      have me5 := apL e5
      try simp (implicitDefEqProofs := false) only [go_sem, Nat.reduceAdd, Nat.reduceLeDiff] at me5
      obtain ⟨r12, e6, h⟩ := bnd h
      have q := Blk.run h
      try simp (implicitDefEqProofs := false) only [go_sem] at q
      simp (implicitDefEqProofs := false) only [go_sem, d37_3, k37_5, k37_6, k37_8, rdp e2, rdm eB e2, e3, impl_wayCopy_run e4, me5, slices_Delete_int_int_run e6, Nat.reduceEqDiff, Nat.reduceAdd, Nat.reduceLeDiff, ↓reduceIte, reduceCtorEq, Nat.reduceBEq, Nat.reduceEqDiff]
      exact q
    · have q := Blk.run h
      try simp (implicitDefEqProofs := false) only [go_sem] at q
      simp (implicitDefEqProofs := false) only [go_sem, d37_3, k37_5, k37_6, k37_8, rdp e2, rdm eB e2, e3, Nat.reduceEqDiff, Nat.reduceAdd, Nat.reduceLeDiff, ↓reduceIte, reduceCtorEq, Nat.reduceBEq, Nat.reduceEqDiff]
      exact q
  · obtain ⟨r13, e7, h⟩ := bnd h
    have q := Blk.run h
    try simp (implicitDefEqProofs := false) only [go_sem] at q
    simp (implicitDefEqProofs := false) only [go_sem, d37_3, k37_5, k37_6, k37_8, e1, impl_rising_run e7, Nat.reduceEqDiff, Nat.reduceAdd, Nat.reduceLeDiff, ↓reduceIte, reduceCtorEq, Nat.reduceBEq, Nat.reduceEqDiff]
    exact q
theorem impl_edits_b5_of (x2 : (List Int)) (x7 : (List TEdit)) (x8 : (List Int)) (x15 : (List Int)) (x18 : (List Bool)) (x19 : Int) (x20 : Int) (x21 : Int) (y3 : TTree) (y4 : TTree) {r : (List TEdit)} (h : (if decide (0 ≤ x21) then (if !(decide (x20 = (-1))) then ((slices_Index_int_int x15 x20).bind fun r14 =>
    impl_edits_b6 x2 x7 x8 x15 x18 x19 x20 x21 r14 y3 y4)
   else impl_edits_b6 x2 x7 x8 x15 x18 x19 x20 x21 (x15.length : Int) y3 y4)
  else impl_edits_b7 x2 x7 x8 y4.Kids (y4.Kids.length : Int) 0 y3) = some r) : impl_edits_b5 x2 x7 x8 x15 x18 x19 x20 x21 y3 y4 = some r := by
  refine Blk.of E9_inj ?_
  refine D_start (c' := d37_4) rfl ?_
  rcases ifB h with ⟨e1, h⟩ | ⟨e1, h⟩
  · rcases ifB h with ⟨e2, h⟩ | ⟨e2, h⟩
    · obtain ⟨r14, e3, h⟩ := bnd h
      have q := Blk.run h
      try simp (implicitDefEqProofs := false) only [go_sem] at q
      simp (implicitDefEqProofs := false) only [go_sem, d37_4, k37_6, k37_7, k37_8, e1, e2, slices_Index_int_int_run e3, Nat.reduceEqDiff, Nat.reduceAdd, ↓reduceIte, reduceCtorEq, Nat.reduceBEq, Nat.reduceEqDiff]
      exact q
    · have q := Blk.run h
      try simp (implicitDefEqProofs := false) only [go_sem] at q
      simp (implicitDefEqProofs := false) only [go_sem, d37_4, k37_6, k37_7, k37_8, e1, e2, Nat.reduceEqDiff, Nat.reduceAdd, ↓reduceIte, reduceCtorEq, Nat.reduceBEq, Nat.reduceEqDiff]
      exact q
  · have q := Blk.run h
    try simp (implicitDefEqProofs := false) only [go_sem] at q
    simp (implicitDefEqProofs := false) only [go_sem, d37_4, k37_6, k37_7, k37_8, e1, Nat.reduceEqDiff, Nat.reduceAdd, Nat.reduceLeDiff, ↓reduceIte, reduceCtorEq, Nat.reduceEqDiff]
    exact q
theorem impl_edits_b6_of (x2 : (List Int)) (x7 : (List TEdit)) (x8 : (List Int)) (x15 : (List Int)) (x18 : (List Bool)) (x19 : Int) (x20 : Int) (x21 : Int) (x22 : Int) (y3 : TTree) (y4 : TTree) {r : (List TEdit)} (h : ((rdx x8 x21).bind fun v15 =>
  if decide (v15 < 0) then ((impl_wayCopy x2).bind fun r16 =>
   (rdx y4.Kids x21).bind fun v17 =>
   (impl_treeCopy v17).bind fun r18 =>
   if apOk 160 x7 ([(⟨5, r16, x22, 0, (⟨0, 0, []⟩ : TValue), r18⟩ : TEdit)]) then ((slices_Insert_int_int x15 x22 ([x19])).bind fun r19 =>
    impl_edits_b5 x2 (x7 ++ ([(⟨5, r16, x22, 0, (⟨0, 0, []⟩ : TValue), r18⟩ : TEdit)])) x8 r19 x18 (w64 (x19 - 1)) x19 (w64 (x21 - 1)) y3 y4)
   else none)
  else ((rdx x18 x21).bind fun v20 =>
   if v20 then impl_edits_b5 x2 x7 x8 x15 x18 x19 v15 (w64 (x21 - 1)) y3 y4
   else ((slices_Index_int_int x15 v15).bind fun r21 =>
    (slices_Delete_int_int x15 r21 (w64 (r21 + 1))).bind fun r22 =>
    if !(decide (x20 = (-1))) then ((slices_Index_int_int r22 x20).bind fun r23 =>
     impl_edits_b8 x2 x7 x8 r22 x18 x19 x21 r21 r23 y3 y4)
    else impl_edits_b8 x2 x7 x8 r22 x18 x19 x21 r21 (r22.length : Int) y3 y4))) = some r) : impl_edits_b6 x2 x7 x8 x15 x18 x19 x20 x21 x22 y3 y4 = some r := by
  refine Blk.of E9_inj ?_
  refine D_start (c' := d37_7) rfl ?_
  obtain ⟨v15, e1, h⟩ := bnd h
  rcases ifB h with ⟨e2, h⟩ | ⟨e2, h⟩
  · obtain ⟨r16, e3, h⟩ := bnd h
    obtain ⟨v17, e4, h⟩ := bnd h
    obtain ⟨r18, e5, h⟩ := bnd h
    obtain ⟨e6, h⟩ := ifP h
    have me6 := apL e6
    try simp (implicitDefEqProofs := false) only [go_sem, Nat.reduceAdd, Nat.reduceLeDiff] at me6
    obtain ⟨r19, e7, h⟩ := bnd h
    have me7 := slices_Insert_int_int_run e7
    try simp (implicitDefEqProofs := false) only [go_sem] at me7
    have q := Blk.run h
    try simp (implicitDefEqProofs := false) only [go_sem] at q
    simp (implicitDefEqProofs := false) only [go_sem, d37_7, k37_6, k37_7, k37_8, rdp e1, rdm eI e1, e2, impl_wayCopy_run e3, rdm (eTTree .bor) e4, impl_treeCopy_run e5, me6, me7, Nat.reduceEqDiff, Nat.reduceAdd, Nat.reduceLeDiff, ↓reduceIte, reduceCtorEq, Nat.reduceBEq, Nat.reduceEqDiff]
    exact q
  · obtain ⟨v20, e8, h⟩ := bnd h
    rcases ifB h with ⟨e9, h⟩ | ⟨e9, h⟩
    · have q := Blk.run h
      try simp (implicitDefEqProofs := false) only [go_sem] at q
      simp (implicitDefEqProofs := false) only [go_sem, d37_7, k37_6, k37_7, k37_8, rdp e1, rdm eI e1, e2, rdm eB e8, e9, Nat.reduceEqDiff, Nat.reduceAdd, Nat.reduceLeDiff, ↓reduceIte, reduceCtorEq, Nat.reduceBEq, Nat.reduceEqDiff]
      exact q
    · obtain ⟨r21, e10, h⟩ := bnd h
      obtain ⟨r22, e11, h⟩ := bnd h
      rcases ifB h with ⟨e12, h⟩ | ⟨e12, h⟩
      · obtain ⟨r23, e13, h⟩ := bnd h
        have q := Blk.run h
        try simp (implicitDefEqProofs := false) only [go_sem] at q
        simp (implicitDefEqProofs := false) only [go_sem, d37_7, k37_6, k37_7, k37_8, rdp e1, rdm eI e1, e2, rdm eB e8, e9, slices_Index_int_int_run e10, slices_Delete_int_int_run e11, e12, slices_Index_int_int_run e13, Nat.reduceEqDiff, Nat.reduceAdd, Nat.reduceLeDiff, ↓reduceIte, reduceCtorEq, Nat.reduceBEq, Nat.reduceEqDiff]
        exact q
      · have q := Blk.run h
        try simp (implicitDefEqProofs := false) only [go_sem] at q
        simp (implicitDefEqProofs := false) only [go_sem, d37_7, k37_6, k37_7, k37_8, rdp e1, rdm eI e1, e2, rdm eB e8, e9, slices_Index_int_int_run e10, slices_Delete_int_int_run e11, e12, Nat.reduceEqDiff, Nat.reduceAdd, Nat.reduceLeDiff, ↓reduceIte, reduceCtorEq, Nat.reduceBEq, Nat.reduceEqDiff]
        exact q
theorem impl_edits_b7_of (x2 : (List Int)) (x7 : (List TEdit)) (x8 : (List Int)) (x242 : (List TTree)) (x243 : Int) (x244 : Int) (y3 : TTree) {r : (List TEdit)} (h : (if decide (x244 < x243) then ((rdx x242 x244).bind fun v24 =>
   (rdx x8 x244).bind fun v25 =>
   if decide (0 ≤ v25) then ((rdx y3.Kids v25).bind fun v26 =>
    (impl_wayMore x2 x244).bind fun r27 =>
    (impl_edits v26 v24 r27).bind fun r28 =>
    if apOk 160 x7 r28 then impl_edits_b7 x2 (x7 ++ r28) x8 x242 x243 (w64 (x244 + 1)) y3
    else none)
   else impl_edits_b7 x2 x7 x8 x242 x243 (w64 (x244 + 1)) y3)
  else some x7) = some r) : impl_edits_b7 x2 x7 x8 x242 x243 x244 y3 = some r := by
  refine Blk.of E9_inj ?_
  refine D_start (c' := d37_5) rfl ?_
  rcases ifB h with ⟨e1, h⟩ | ⟨e1, h⟩
  · obtain ⟨v24, e2, h⟩ := bnd h
    obtain ⟨v25, e3, h⟩ := bnd h
    rcases ifB h with ⟨e4, h⟩ | ⟨e4, h⟩
    · obtain ⟨v26, e5, h⟩ := bnd h
      obtain ⟨r27, e6, h⟩ := bnd h
      obtain ⟨r28, e7, h⟩ := bnd h
      obtain ⟨e8, h⟩ := ifP h
      have me8 := apL e8
      try simp (implicitDefEqProofs := false) only [go_sem, Nat.reduceEqDiff, Nat.reduceAdd, Nat.reduceMul, Nat.reduceSub, Nat.reduceLeDiff, Int.reduceLE, Int.reduceLT, Int.reduceEq, ↓reduceIte, reduceCtorEq, Nat.beq_eq_true_eq, Nat.reduceBEq, Nat.reduceEqDiff] at me8
      have q := Blk.run h
      try simp (implicitDefEqProofs := false) only [go_sem] at q
      simp (implicitDefEqProofs := false) only [go_sem, d37_5, k37_8, e1, rdp e2, rdm (eTTree .bor) e2, rdm eI e3, rdp e5, rdm (eTTree .bor) e5, impl_wayMore_run e6, impl_edits_run e7, me8, Nat.reduceEqDiff, Nat.reduceAdd, Nat.reduceLeDiff, ↓reduceIte, reduceCtorEq, Nat.reduceEqDiff]
      exact q
    · have q := Blk.run h
      try simp (implicitDefEqProofs := false) only [go_sem] at q
      simp (implicitDefEqProofs := false) only [go_sem, d37_5, k37_8, e1, rdp e2, rdm (eTTree .bor) e2, rdm eI e3, e4, Nat.reduceEqDiff, Nat.reduceAdd, Nat.reduceLeDiff, ↓reduceIte, reduceCtorEq, Nat.reduceEqDiff]
      exact q
  · cases h
    simp (implicitDefEqProofs := false) only [go_sem, d37_5, k37_8, R37, E9, e1, Nat.reduceEqDiff, Nat.reduceAdd, ↓reduceIte, Nat.reduceEqDiff]
theorem impl_edits_b8_of (x2 : (List Int)) (x7 : (List TEdit)) (x8 : (List Int)) (x15 : (List Int)) (x18 : (List Bool)) (x19 : Int) (x21 : Int) (x23 : Int) (x24 : Int) (y3 : TTree) (y4 : TTree) {r : (List TEdit)} (h : ((rdx x8 x21).bind fun v29 =>
  (slices_Insert_int_int x15 x24 ([v29])).bind fun r30 =>
  (impl_wayCopy x2).bind fun r31 =>
  if apOk 160 x7 ([(⟨6, r31, x23, x24, (⟨0, 0, []⟩ : TValue), (⟨0, 0, [], [], []⟩ : TTree)⟩ : TEdit)]) then impl_edits_b5 x2 (x7 ++ ([(⟨6, r31, x23, x24, (⟨0, 0, []⟩ : TValue), (⟨0, 0, [], [], []⟩ : TTree)⟩ : TEdit)])) x8 r30 x18 x19 v29 (w64 (x21 - 1)) y3 y4
  else none) = some r) : impl_edits_b8 x2 x7 x8 x15 x18 x19 x21 x23 x24 y3 y4 = some r := by
  refine Blk.of E9_inj ?_
  refine D_start (c' := d37_8) rfl ?_
  obtain ⟨v29, e1, h⟩ := bnd h
  obtain ⟨r30, e2, h⟩ := bnd h
  have me2 := slices_Insert_int_int_run e2
  try simp (implicitDefEqProofs := false) only [go_sem] at me2
  obtain ⟨r31, e3, h⟩ := bnd h
  obtain ⟨e4, h⟩ := ifP h
  have me4 := apL e4
  try simp (implicitDefEqProofs := false) only [go_sem, Nat.reduceAdd, Nat.reduceLeDiff] at me4
  have q := Blk.run h
  try simp (implicitDefEqProofs := false) only [go_sem] at q
  simp (implicitDefEqProofs := false) only [go_sem, d37_8, k37_6, k37_7, k37_8, rdp e1, rdm eI e1, me2, impl_wayCopy_run e3, me4, Nat.reduceEqDiff, Nat.reduceAdd, Nat.reduceLeDiff, ↓reduceIte, reduceCtorEq, Nat.reduceBEq, Nat.reduceEqDiff]
  exact q
theorem impl_TreeEdits_of (x0 : TTree) (x1 : TTree) {r : (List TEdit)} (h : ((impl_TreeOk x0).bind fun r1 =>
  if !r1 then some []
  else ((impl_TreeOk x1).bind fun r2 =>
   if !r2 then some []
   else ((impl_edits x0 x1 []).bind fun r3 =>
    some r3))) = some r) : impl_TreeEdits x0 x1 = some r := by
  refine Fn.of L_eq E9_inj (fi := fi12) rfl rfl ?_
  simp only [fi12]
  obtain ⟨r1, e1, h⟩ := bnd h
  rcases ifB h with ⟨e2, h⟩ | ⟨e2, h⟩
  · cases h
    simp (implicitDefEqProofs := false) only [go_sem, b12, R12, E9, impl_TreeOk_run e1, e2, Nat.reduceEqDiff, Nat.reduceAdd, Nat.reduceLeDiff, ↓reduceIte, reduceCtorEq, Nat.reduceEqDiff]
  · obtain ⟨r2, e3, h⟩ := bnd h
    rcases ifB h with ⟨e4, h⟩ | ⟨e4, h⟩
    · cases h
      simp (implicitDefEqProofs := false) only [go_sem, b12, R12, E9, impl_TreeOk_run e1, e2, impl_TreeOk_run e3, e4, Nat.reduceEqDiff, Nat.reduceAdd, Nat.reduceLeDiff, ↓reduceIte, reduceCtorEq, Nat.reduceEqDiff]
    · obtain ⟨r3, e5, h⟩ := bnd h
      have me5 := impl_edits_run e5
      try simp (implicitDefEqProofs := false) only [go_sem] at me5
      cases h
      simp (implicitDefEqProofs := false) only [go_sem, b12, R12, E9, impl_TreeOk_run e1, e2, impl_TreeOk_run e3, e4, me5, Nat.reduceEqDiff, Nat.reduceAdd, Nat.reduceLeDiff, ↓reduceIte, reduceCtorEq, Nat.reduceEqDiff]
theorem laws_eqIntS_of (x0 : (List Int)) (x1 : (List Int)) {r : Bool} (h : (if !(decide ((x0.length : Int) = (x1.length : Int))) then some false
  else laws_eqIntS_b1 x0 x1 0) = some r) : laws_eqIntS x0 x1 = some r := by
  refine Fn.of L_eq E7_inj (fi := fi84) rfl rfl ?_
  simp only [fi84]
  rcases ifB h with ⟨e1, h⟩ | ⟨e1, h⟩
  · cases h
    simp (implicitDefEqProofs := false) only [go_sem, b84, k84_1, R84, E7, e1, Nat.reduceEqDiff, Nat.reduceAdd, ↓reduceIte, reduceCtorEq, Nat.reduceEqDiff]
  · have q := Blk.run h
    try simp (implicitDefEqProofs := false) only [go_sem] at q
    simp (implicitDefEqProofs := false) only [go_sem, b84, k84_1, e1, Nat.reduceEqDiff, Nat.reduceAdd, ↓reduceIte, reduceCtorEq, Nat.reduceEqDiff]
    exact q
theorem laws_eqIntS_b1_of (x0 : (List Int)) (x1 : (List Int)) (x5 : Int) {r : Bool} (h : (if decide (x5 < (x0.length : Int)) then ((rdx x0 x5).bind fun v1 =>
   (rdx x1 x5).bind fun v2 =>
   if !(decide (v1 = v2)) then some false
   else laws_eqIntS_b1 x0 x1 (w64 (x5 + 1)))
  else some true) = some r) : laws_eqIntS_b1 x0 x1 x5 = some r := by
  refine Blk.of E7_inj ?_
  refine D_start (c' := d84_1) rfl ?_
  rcases ifB h with ⟨e1, h⟩ | ⟨e1, h⟩
  · obtain ⟨v1, e2, h⟩ := bnd h
    obtain ⟨v2, e3, h⟩ := bnd h
    rcases ifB h with ⟨e4, h⟩ | ⟨e4, h⟩
    · cases h
      simp (implicitDefEqProofs := false) only [go_sem, d84_1, k84_1, R84, E7, e1, rdp e2, rdm eI e2, rdm eI e3, e4, Nat.reduceEqDiff, Nat.reduceAdd, Nat.reduceLeDiff, ↓reduceIte, reduceCtorEq, Nat.reduceEqDiff]
    · have q := Blk.run h
      try simp (implicitDefEqProofs := false) only [go_sem] at q
      simp (implicitDefEqProofs := false) only [go_sem, d84_1, k84_1, e1, rdp e2, rdm eI e2, rdm eI e3, e4, Nat.reduceEqDiff, Nat.reduceAdd, Nat.reduceLeDiff, ↓reduceIte, reduceCtorEq, Nat.reduceEqDiff]
      exact q
  · cases h
    simp (implicitDefEqProofs := false) only [go_sem, d84_1, k84_1, R84, E7, e1, Nat.reduceEqDiff, Nat.reduceAdd, ↓reduceIte, reduceCtorEq, Nat.reduceEqDiff]
theorem laws_eqValue_of (x0 : TValue) (x1 : TValue) {r : Bool} (h : (if !(decide (x0.Kind = x1.Kind)) then some false
  else (if !(decide (x0.Num = x1.Num)) then some false
   else (if !(decide (x0.Text = x1.Text)) then some false
    else some true))) = some r) : laws_eqValue x0 x1 = some r := by
  refine Fn.of L_eq E7_inj (fi := fi85) rfl rfl ?_
  simp only [fi85]
  rcases ifB h with ⟨e1, h⟩ | ⟨e1, h⟩
  · cases h
    simp (implicitDefEqProofs := false) only [go_sem, b85, R85, E7, e1, Nat.reduceEqDiff, Nat.reduceAdd, Nat.reduceLeDiff, ↓reduceIte, reduceCtorEq, Nat.reduceEqDiff]
  · rcases ifB h with ⟨e2, h⟩ | ⟨e2, h⟩
    · cases h
      simp (implicitDefEqProofs := false) only [go_sem, b85, R85, E7, e1, e2, Nat.reduceEqDiff, Nat.reduceAdd, Nat.reduceLeDiff, ↓reduceIte, reduceCtorEq, Nat.reduceEqDiff]
    · rcases ifB h with ⟨e3, h⟩ | ⟨e3, h⟩
      · cases h
        simp (implicitDefEqProofs := false) only [go_sem, b85, R85, E7, e1, e2, e3, Nat.reduceEqDiff, Nat.reduceAdd, Nat.reduceLeDiff, ↓reduceIte, reduceCtorEq, Nat.reduceEqDiff]
      · cases h
        simp (implicitDefEqProofs := false) only [go_sem, b85, R85, E7, e1, e2, e3, Nat.reduceEqDiff, Nat.reduceAdd, Nat.reduceLeDiff, ↓reduceIte, reduceCtorEq, Nat.reduceEqDiff]
theorem laws_eqProp_of (x0 : TProp) (x1 : TProp) {r : Bool} (h : (if !(decide (x0.Name = x1.Name)) then some false
  else ((laws_eqValue x0.Val x1.Val).bind fun r1 =>
   if !r1 then some false
   else some true)) = some r) : laws_eqProp x0 x1 = some r := by
  refine Fn.of L_eq E7_inj (fi := fi86) rfl rfl ?_
  simp only [fi86]
  rcases ifB h with ⟨e1, h⟩ | ⟨e1, h⟩
  · cases h
    simp (implicitDefEqProofs := false) only [go_sem, b86, R86, E7, e1, Nat.reduceEqDiff, Nat.reduceAdd, Nat.reduceLeDiff, ↓reduceIte, reduceCtorEq, Nat.reduceEqDiff]
  · obtain ⟨r1, e2, h⟩ := bnd h
    rcases ifB h with ⟨e3, h⟩ | ⟨e3, h⟩
    · cases h
      simp (implicitDefEqProofs := false) only [go_sem, b86, R86, E7, e1, laws_eqValue_run e2, e3, Nat.reduceEqDiff, Nat.reduceAdd, Nat.reduceLeDiff, ↓reduceIte, reduceCtorEq, Nat.reduceEqDiff]
    · cases h
      simp (implicitDefEqProofs := false) only [go_sem, b86, R86, E7, e1, laws_eqValue_run e2, e3, Nat.reduceEqDiff, Nat.reduceAdd, Nat.reduceLeDiff, ↓reduceIte, reduceCtorEq, Nat.reduceEqDiff]
end Go.Fw.Law
