/- What the functions come to. Conditions: none. -/
import Derived.Test.YtjldolmokfnkoaaGreatDoorLyD
namespace Go.Fw.Law
open Go Go.Fw
theorem impl_canvas_paint_of (x0 : TCanvas) (x1 : TTree) (x2 : TBox) {r : TCanvas} (h : ((rdx x0.boxes x0.at_).bind fun v1 =>
  (rdx x0.looks x0.at_).bind fun v2 =>
  (impl_boxMeet v1 x2).bind fun r3 =>
  if decide (x1.Tag = (-1)) then impl_canvas_paint_b1 r3.Top x0 x1 v1 r3
  else ((rdx v2 4).bind fun v4 =>
   if !(decide (v4 = 0)) then impl_canvas_paint_b2 v4 r3.Top x0 x1 r3
   else impl_canvas_paint_b3 x0 x1 r3)) = some r) : impl_canvas_paint x0 x1 x2 = some r := by
  refine Fn.of L_eq E26_inj (fi := fi73) rfl rfl ?_
  simp only [fi73]
  obtain ⟨v1, e1, h⟩ := bnd h
  obtain ⟨v2, e2, h⟩ := bnd h
  obtain ⟨r3, e3, h⟩ := bnd h
  rcases ifB h with ⟨e4, h⟩ | ⟨e4, h⟩
  · have q := Blk.run h
    try simp only [go_sem] at q
    simp (implicitDefEqProofs := false) only [go_sem, b73, g73_1, g73_2, g73_3, rdp e1, rdm eTBox e1, rdm (eL_I .sh) e2, impl_boxMeet_run e3, e4, Nat.reduceEqDiff, Nat.reduceAdd, Nat.reduceLeDiff, ↓reduceIte, reduceCtorEq, Nat.reduceBEq]
    exact q
  · obtain ⟨v4, e5, h⟩ := bnd h
    have me5 := rdm eI e5
    try simp only [go_sem] at me5
    rcases ifB h with ⟨e6, h⟩ | ⟨e6, h⟩
    · have q := Blk.run h
      try simp only [go_sem] at q
      simp (implicitDefEqProofs := false) only [go_sem, b73, g73_1, g73_2, g73_3, rdp e1, rdm eTBox e1, rdm (eL_I .sh) e2, impl_boxMeet_run e3, e4, rdp e5, me5, e6, Nat.reduceEqDiff, Nat.reduceAdd, Nat.reduceLeDiff, ↓reduceIte, reduceCtorEq, Nat.reduceBEq]
      exact q
    · have q := Blk.run h
      try simp only [go_sem] at q
      simp (implicitDefEqProofs := false) only [go_sem, b73, g73_1, g73_2, g73_3, rdp e1, rdm eTBox e1, rdm (eL_I .sh) e2, impl_boxMeet_run e3, e4, rdp e5, me5, e6, Nat.reduceEqDiff, Nat.reduceAdd, Nat.reduceLeDiff, ↓reduceIte, reduceCtorEq, Nat.reduceBEq]
      exact q
theorem impl_canvas_paint_b1_of (x9 : Int) (y0 : TCanvas) (y4 : TTree) (y6 y8 : TBox) {r : TCanvas} (h : (if decide (x9 < (w64 (y8.Top + y8.High))) then impl_canvas_paint_b4 x9 y8.Left y0 y4 y6 y8
  else impl_canvas_paint_b3 y0 y4 y8) = some r) : impl_canvas_paint_b1 x9 y0 y4 y6 y8 = some r := by
  refine Blk.of E26_inj ?_
  refine D_start (c' := d73_1) rfl ?_
  rcases ifB h with ⟨e1, h⟩ | ⟨e1, h⟩
  · have q := Blk.run h
    try simp only [go_sem] at q
    simp (implicitDefEqProofs := false) only [go_sem, d73_1, k73_1, g73_1, g73_3, g73_4, e1, Nat.reduceEqDiff, Nat.reduceAdd, Nat.reduceLeDiff, ↓reduceIte, reduceCtorEq, Nat.reduceBEq]
    exact q
  · have q := Blk.run h
    try simp only [go_sem] at q
    simp (implicitDefEqProofs := false) only [go_sem, d73_1, k73_1, g73_1, g73_3, g73_4, e1, Nat.reduceEqDiff, Nat.reduceAdd, Nat.reduceLeDiff, ↓reduceIte, reduceCtorEq, Nat.reduceBEq]
    exact q
theorem impl_canvas_paint_b2_of (x12 x13 : Int) (y0 : TCanvas) (y4 : TTree) (y8 : TBox) {r : TCanvas} (h : (if decide (x13 < (w64 (y8.Top + y8.High))) then impl_canvas_paint_b5 x12 x13 y8.Left y0 y4 y8
  else impl_canvas_paint_b3 y0 y4 y8) = some r) : impl_canvas_paint_b2 x12 x13 y0 y4 y8 = some r := by
  refine Blk.of E26_inj ?_
  refine D_start (c' := d73_2) rfl ?_
  rcases ifB h with ⟨e1, h⟩ | ⟨e1, h⟩
  · have q := Blk.run h
    try simp only [go_sem] at q
    simp (implicitDefEqProofs := false) only [go_sem, d73_2, k73_2, g73_2, g73_3, g73_5, e1, Nat.reduceEqDiff, Nat.reduceAdd, Nat.reduceLeDiff, ↓reduceIte, reduceCtorEq, Nat.reduceBEq]
    exact q
  · have q := Blk.run h
    try simp only [go_sem] at q
    simp (implicitDefEqProofs := false) only [go_sem, d73_2, k73_2, g73_2, g73_3, g73_5, e1, Nat.reduceEqDiff, Nat.reduceAdd, Nat.reduceLeDiff, ↓reduceIte, reduceCtorEq, Nat.reduceBEq]
    exact q
theorem impl_canvas_paint_b3_of (y0 : TCanvas) (y4 : TTree) (y8 : TBox) {r : TCanvas} (h : (impl_canvas_paint_b6 y4.Kids (y4.Kids.length : Int) 0 (⟨y0.looks, y0.boxes, w64 (y0.at_ + 1), y0.rows, y0.hits⟩ : TCanvas) y8) = some r) : impl_canvas_paint_b3 y0 y4 y8 = some r := by
  refine Blk.of E26_inj ?_
  refine D_start (c' := d73_3) rfl ?_
  have q := Blk.run h
  try simp only [go_sem] at q
  simp (implicitDefEqProofs := false) only [go_sem, d73_3, g73_6, Nat.reduceEqDiff, Nat.reduceAdd, Nat.reduceLeDiff, ↓reduceIte, reduceCtorEq, Nat.reduceBEq]
  exact q
theorem impl_canvas_paint_b4_of (x9 x10 : Int) (y0 : TCanvas) (y4 : TTree) (y6 y8 : TBox) {r : TCanvas} (h : (if decide (x10 < (w64 (y8.Left + y8.Wide))) then (if decide ((w64 ((w64 ((w64 ((w64 (x9 - y6.Top)) * y6.Wide)) + x10)) - y6.Left)) < (y4.Text.length : Int)) then ((rdx y4.Text (w64 ((w64 ((w64 ((w64 (x9 - y6.Top)) * y6.Wide)) + x10)) - y6.Left))).bind fun v5 =>
    (impl_canvas_put y0 x10 x9 (v5.toNat : Int)).bind fun r6 =>
    impl_canvas_paint_b4 x9 (w64 (x10 + 1)) r6 y4 y6 y8)
   else impl_canvas_paint_b4 x9 (w64 (x10 + 1)) y0 y4 y6 y8)
  else impl_canvas_paint_b1 (w64 (x9 + 1)) y0 y4 y6 y8) = some r) : impl_canvas_paint_b4 x9 x10 y0 y4 y6 y8 = some r := by
  refine Blk.of E26_inj ?_
  refine D_start (c' := d73_4) rfl ?_
  rcases ifB h with ⟨e1, h⟩ | ⟨e1, h⟩
  · rcases ifB h with ⟨e2, h⟩ | ⟨e2, h⟩
    · obtain ⟨v5, e3, h⟩ := bnd h
      obtain ⟨r6, e4, h⟩ := bnd h
      have q := Blk.run h
      try simp only [go_sem] at q
      simp (implicitDefEqProofs := false) only [go_sem, d73_4, k73_1, g73_1, g73_3, g73_4, e1, e2, rdp e3, rds e3, impl_canvas_put_run e4, Nat.reduceEqDiff, Nat.reduceAdd, Nat.reduceLeDiff, ↓reduceIte, reduceCtorEq, Nat.reduceBEq]
      exact q
    · have q := Blk.run h
      try simp only [go_sem] at q
      simp (implicitDefEqProofs := false) only [go_sem, d73_4, k73_1, g73_1, g73_3, g73_4, e1, e2, Nat.reduceEqDiff, Nat.reduceAdd, Nat.reduceLeDiff, ↓reduceIte, reduceCtorEq, Nat.reduceBEq]
      exact q
  · have q := Blk.run h
    try simp only [go_sem] at q
    simp (implicitDefEqProofs := false) only [go_sem, d73_4, k73_1, g73_1, g73_3, g73_4, e1, Nat.reduceEqDiff, Nat.reduceAdd, Nat.reduceLeDiff, ↓reduceIte, reduceCtorEq, Nat.reduceBEq]
    exact q
theorem impl_canvas_paint_b5_of (x12 x13 x14 : Int) (y0 : TCanvas) (y4 : TTree) (y8 : TBox) {r : TCanvas} (h : (if decide (x14 < (w64 (y8.Left + y8.Wide))) then ((rdx ([46, 58, 45, 61, 43, 42, 35, 37, 64] : Str) (x12.tmod 9)).bind fun v7 =>
   (impl_canvas_put y0 x14 x13 (v7.toNat : Int)).bind fun r8 =>
   impl_canvas_paint_b5 x12 x13 (w64 (x14 + 1)) r8 y4 y8)
  else impl_canvas_paint_b2 x12 (w64 (x13 + 1)) y0 y4 y8) = some r) : impl_canvas_paint_b5 x12 x13 x14 y0 y4 y8 = some r := by
  refine Blk.of E26_inj ?_
  refine D_start (c' := d73_5) rfl ?_
  rcases ifB h with ⟨e1, h⟩ | ⟨e1, h⟩
  · obtain ⟨v7, e2, h⟩ := bnd h
    obtain ⟨r8, e3, h⟩ := bnd h
    have q := Blk.run h
    try simp only [go_sem] at q
    simp (implicitDefEqProofs := false) only [go_sem, d73_5, k73_2, g73_2, g73_3, g73_5, e1, rdp e2, rds e2, impl_canvas_put_run e3, Nat.reduceEqDiff, Nat.reduceAdd, Nat.reduceLeDiff, Int.reduceEq, ↓reduceIte, reduceCtorEq, Nat.reduceBEq]
    exact q
  · have q := Blk.run h
    try simp only [go_sem] at q
    simp (implicitDefEqProofs := false) only [go_sem, d73_5, k73_2, g73_2, g73_3, g73_5, e1, Nat.reduceEqDiff, Nat.reduceAdd, Nat.reduceLeDiff, ↓reduceIte, reduceCtorEq, Nat.reduceBEq]
    exact q
theorem impl_canvas_paint_b6_of (x132 : List TTree) (x133 x134 : Int) (y0 : TCanvas) (y8 : TBox) {r : TCanvas} (h : (if decide (x134 < x133) then ((rdx x132 x134).bind fun v9 =>
   (impl_canvas_paint y0 v9 y8).bind fun r10 =>
   impl_canvas_paint_b6 x132 x133 (w64 (x134 + 1)) r10 y8)
  else some y0) = some r) : impl_canvas_paint_b6 x132 x133 x134 y0 y8 = some r := by
  refine Blk.of E26_inj ?_
  refine D_start (c' := d73_6) rfl ?_
  rcases ifB h with ⟨e1, h⟩ | ⟨e1, h⟩
  · obtain ⟨v9, e2, h⟩ := bnd h
    obtain ⟨r10, e3, h⟩ := bnd h
    have q := Blk.run h
    try simp only [go_sem] at q
    simp (implicitDefEqProofs := false) only [go_sem, d73_6, g73_6, e1, rdp e2, rdm (eTTree .sh) e2, impl_canvas_paint_run e3, Nat.reduceEqDiff, Nat.reduceAdd, Nat.reduceLeDiff, ↓reduceIte, reduceCtorEq, Nat.reduceBEq]
    exact q
  · cases h
    simp (implicitDefEqProofs := false) only [go_sem, d73_6, g73_6, R73, E26, e1, Nat.reduceEqDiff, Nat.reduceAdd, ↓reduceIte, reduceCtorEq]
theorem impl_newCanvas_of (x0 : TTree) (x1 : List TRule) (x2 x3 : Int) {r : TCanvas} (h : ((impl_looks x0 x1 [] 0).bind fun r1 =>
  (impl_boxes x0 x1 x2).bind fun r2 =>
  impl_newCanvas_b1 x2 x3 x3 0 x0 (⟨r1, r2, 0, [], []⟩ : TCanvas)) = some r) : impl_newCanvas x0 x1 x2 x3 = some r := by
  refine Fn.of L_eq E27_inj (fi := fi44) rfl rfl ?_
  simp only [fi44]
  obtain ⟨r1, e1, h⟩ := bnd h
  have me1 := impl_looks_run e1
  try simp only [go_sem] at me1
  obtain ⟨r2, e2, h⟩ := bnd h
  have q := Blk.run h
  try simp only [go_sem] at q
  simp (implicitDefEqProofs := false) only [go_sem, b44, k44_1, g44_1, me1, impl_boxes_run e2, Nat.reduceEqDiff, Nat.reduceAdd, Nat.reduceLeDiff, ↓reduceIte, reduceCtorEq, Nat.reduceBEq]
  exact q
theorem impl_newCanvas_b1_of (x2 x3 x22 x23 : Int) (y4 : TTree) (y21 : TCanvas) {r : TCanvas} (h : (if decide (x23 < x22) then (if (0 ≤ x2 ∧ x2 * 1 ≤ 281474976710656 ∧ x2 ≤ 9223372036854775807) then (if (0 ≤ x2 ∧ x2 * 8 ≤ 281474976710656 ∧ x2 ≤ 9223372036854775807) then impl_newCanvas_b2 x2 x3 (List.replicate x2.toNat (0 : Int)) (List.replicate x2.toNat (0 : Int)) x22 x23 ((List.replicate x2.toNat (0 : Int)).length : Int) 0 y4 y21
    else none)
   else none)
  else ((impl_canvas_paint y21 y4 (⟨0, 0, x2, x3⟩ : TBox)).bind fun r3 =>
   some r3)) = some r) : impl_newCanvas_b1 x2 x3 x22 x23 y4 y21 = some r := by
  refine Blk.of E27_inj ?_
  refine D_start (c' := d44_1) rfl ?_
  rcases ifB h with ⟨e1, h⟩ | ⟨e1, h⟩
  · obtain ⟨e2, h⟩ := ifP h
    have me2 := e2
    try simp only [go_sem, Int.reduceMul, Nat.reduceEqDiff, Nat.reduceAdd, Nat.reduceMul, Nat.reduceSub, Nat.reduceLeDiff, Int.reduceLE, Int.reduceLT, Int.reduceEq, ↓reduceIte, reduceCtorEq, Nat.beq_eq_true_eq, Nat.reduceBEq] at me2
    obtain ⟨e3, h⟩ := ifP h
    have me3 := e3
    try simp only [go_sem, Int.reduceMul, Nat.reduceEqDiff, Nat.reduceAdd, Nat.reduceMul, Nat.reduceSub, Nat.reduceLeDiff, Int.reduceLE, Int.reduceLT, Int.reduceEq, ↓reduceIte, reduceCtorEq, Nat.beq_eq_true_eq, Nat.reduceBEq] at me3
    have q := Blk.run h
    try simp only [go_sem] at q
    simp (implicitDefEqProofs := false) only [go_sem, d44_1, k44_1, k44_2, k44_3, g44_1, g44_2, e1, e2, e3, Nat.reduceEqDiff, Nat.reduceAdd, ↓reduceIte, reduceCtorEq, Nat.reduceBEq]
    exact q
  · obtain ⟨r3, e4, h⟩ := bnd h
    have me4 := impl_canvas_paint_run e4
    try simp only [go_sem] at me4
    cases h
    simp (implicitDefEqProofs := false) only [go_sem, d44_1, k44_1, k44_2, k44_3, g44_1, g44_2, R44, E27, e1, me4, Nat.reduceEqDiff, Nat.reduceAdd, Nat.reduceLeDiff, ↓reduceIte, reduceCtorEq]
theorem impl_newCanvas_b2_of (x2 x3 : Int) (x10 x11 : List Int) (x22 x23 x30 x31 : Int) (y4 : TTree) (y21 : TCanvas) {r : TCanvas} (h : (if decide (x31 < x30) then ((rdx x10 x31).bind fun _v4 =>
   (rdx x11 x31).bind fun _v5 =>
   impl_newCanvas_b2 x2 x3 (x10.set x31.toNat 32) (x11.set x31.toNat (-1)) x22 x23 x30 (w64 (x31 + 1)) y4 y21)
  else (if apOk 24 y21.rows ([x10]) then (if apOk 24 y21.hits ([x11]) then impl_newCanvas_b1 x2 x3 x22 (w64 (x23 + 1)) y4 (⟨y21.looks, y21.boxes, y21.at_, y21.rows ++ ([x10]), y21.hits ++ ([x11])⟩ : TCanvas)
    else none)
   else none)) = some r) : impl_newCanvas_b2 x2 x3 x10 x11 x22 x23 x30 x31 y4 y21 = some r := by
  refine Blk.of E27_inj ?_
  refine D_start (c' := d44_2) rfl ?_
  rcases ifB h with ⟨e1, h⟩ | ⟨e1, h⟩
  · obtain ⟨v4, e2, h⟩ := bnd h
    obtain ⟨v5, e3, h⟩ := bnd h
    have q := Blk.run h
    try simp only [go_sem] at q
    simp (implicitDefEqProofs := false) only [go_sem, d44_2, k44_1, k44_2, k44_3, g44_1, g44_2, e1, rdp e2, rdm eU8 e2, rdm eI e3, Nat.reduceEqDiff, Nat.reduceAdd, Nat.reduceLeDiff, ↓reduceIte, reduceCtorEq, Nat.reduceBEq]
    exact q
  · obtain ⟨e4, h⟩ := ifP h
    have me4 := apL e4
    try simp only [go_sem, Nat.reduceAdd, Nat.reduceLeDiff] at me4
    obtain ⟨e5, h⟩ := ifP h
    have me5 := apL e5
    try simp only [go_sem, Nat.reduceAdd, Nat.reduceLeDiff] at me5
    have q := Blk.run h
    try simp only [go_sem] at q
    simp (implicitDefEqProofs := false) only [go_sem, d44_2, k44_1, k44_2, k44_3, g44_1, g44_2, e1, me4, me5, Nat.reduceEqDiff, Nat.reduceAdd, Nat.reduceLeDiff, ↓reduceIte, reduceCtorEq, Nat.reduceBEq]
    exact q
theorem impl_paint_of (x0 : TTree) (x1 : List TRule) (x2 x3 : Int) {r : (List Str)} (h : ((impl_newCanvas x0 x1 x2 x3).bind fun r1 =>
  impl_paint_b1 [] r1.rows (r1.rows.length : Int) 0) = some r) : impl_paint x0 x1 x2 x3 = some r := by
  refine Fn.of L_eq E28_inj (fi := fi59) rfl rfl ?_
  simp only [fi59]
  obtain ⟨r1, e1, h⟩ := bnd h
  have q := Blk.run h
  try simp only [go_sem] at q
  simp (implicitDefEqProofs := false) only [go_sem, b59, k59_1, g59_1, impl_newCanvas_run e1, Nat.reduceEqDiff, Nat.reduceAdd, Nat.reduceLeDiff, ↓reduceIte, reduceCtorEq]
  exact q
theorem impl_paint_b1_of (x9 : List Str) (x19 : List (List Int)) (x20 x21 : Int) {r : (List Str)} (h : (if decide (x21 < x20) then ((rdx x19 x21).bind fun v2 =>
   (tos v2).bind fun v3 =>
   if apOk 16 x9 ([v3]) then impl_paint_b1 (x9 ++ ([v3])) x19 x20 (w64 (x21 + 1))
   else none)
  else some x9) = some r) : impl_paint_b1 x9 x19 x20 x21 = some r := by
  refine Blk.of E28_inj ?_
  refine D_start (c' := d59_1) rfl ?_
  rcases ifB h with ⟨e1, h⟩ | ⟨e1, h⟩
  · obtain ⟨v2, e2, h⟩ := bnd h
    obtain ⟨v3, e3, h⟩ := bnd h
    have me3 := tosm e3
    try simp only [go_sem, Int.reduceMul, Nat.reduceEqDiff, Nat.reduceAdd, Nat.reduceMul, Nat.reduceSub, Nat.reduceLeDiff, Int.reduceLE, Int.reduceLT, Int.reduceEq, ↓reduceIte, reduceCtorEq, Nat.beq_eq_true_eq, Nat.reduceBEq] at me3
    obtain ⟨e4, h⟩ := ifP h
    have me4 := apL e4
    try simp only [go_sem, Nat.reduceAdd, Nat.reduceLeDiff] at me4
    have q := Blk.run h
    try simp only [go_sem] at q
    simp (implicitDefEqProofs := false) only [go_sem, d59_1, k59_1, g59_1, e1, rdp e2, rdm (eL_U8 .sh) e2, me3, me4, Nat.reduceEqDiff, Nat.reduceAdd, Nat.reduceLeDiff, ↓reduceIte, reduceCtorEq]
    exact q
  · cases h
    simp (implicitDefEqProofs := false) only [go_sem, d59_1, k59_1, g59_1, R59, E28, e1, Nat.reduceEqDiff, Nat.reduceAdd, ↓reduceIte]
theorem impl_DamageOf_of (x0 x1 : TTree) (x2 : List TRule) (x3 x4 : Int) {r : TBox} (h : ((impl_paintOk x0 x2 x3 x4).bind fun r1 =>
  if !r1 then some (⟨0, 0, 0, 0⟩ : TBox)
  else ((impl_TreeOk x1).bind fun r2 =>
   if !r2 then some (⟨0, 0, 0, 0⟩ : TBox)
   else ((impl_paint x0 x2 x3 x4).bind fun r3 =>
    (impl_paint x1 x2 x3 x4).bind fun r4 =>
    impl_DamageOf_b1 r3 r4 x3 x4 (-1) (-1) (r3.length : Int) 0 (⟨0, 0, 0, 0⟩ : TBox)))) = some r) : impl_DamageOf x0 x1 x2 x3 x4 = some r := by
  refine Fn.of L_eq E17_inj (fi := fi24) rfl rfl ?_
  simp only [fi24]
  obtain ⟨r1, e1, h⟩ := bnd h
  rcases ifB h with ⟨e2, h⟩ | ⟨e2, h⟩
  · cases h
    simp (implicitDefEqProofs := false) only [go_sem, b24, k24_1, g24_1, R24, E17, impl_paintOk_run e1, e2, Nat.reduceEqDiff, Nat.reduceAdd, Nat.reduceLeDiff, ↓reduceIte, reduceCtorEq]
  · obtain ⟨r2, e3, h⟩ := bnd h
    rcases ifB h with ⟨e4, h⟩ | ⟨e4, h⟩
    · cases h
      simp (implicitDefEqProofs := false) only [go_sem, b24, k24_1, g24_1, R24, E17, impl_paintOk_run e1, e2, impl_TreeOk_run e3, e4, Nat.reduceEqDiff, Nat.reduceAdd, Nat.reduceLeDiff, ↓reduceIte, reduceCtorEq]
    · obtain ⟨r3, e5, h⟩ := bnd h
      obtain ⟨r4, e6, h⟩ := bnd h
      have q := Blk.run h
      try simp only [go_sem] at q
      simp (implicitDefEqProofs := false) only [go_sem, b24, k24_1, g24_1, impl_paintOk_run e1, e2, impl_TreeOk_run e3, e4, impl_paint_run e5, impl_paint_run e6, Nat.reduceEqDiff, Nat.reduceAdd, Nat.reduceLeDiff, ↓reduceIte, reduceCtorEq]
      exact q
theorem impl_DamageOf_b1_of (x11 x12 : List Str) (x13 x14 x15 x16 x44 x45 : Int) (y10 : TBox) {r : TBox} (h : (if decide (x45 < x44) then ((rdx x11 x45).bind fun v5 =>
   impl_DamageOf_b2 x11 x12 x13 x14 x15 x16 x45 x44 x45 (v5.length : Int) 0 y10)
  else (if decide (x15 < 0) then some (⟨0, 0, 0, 0⟩ : TBox)
   else some (⟨x13, x14, w64 ((w64 (x15 - x13)) + 1), w64 ((w64 (x16 - x14)) + 1)⟩ : TBox))) = some r) : impl_DamageOf_b1 x11 x12 x13 x14 x15 x16 x44 x45 y10 = some r := by
  refine Blk.of E17_inj ?_
  refine D_start (c' := d24_1) rfl ?_
  rcases ifB h with ⟨e1, h⟩ | ⟨e1, h⟩
  · obtain ⟨v5, e2, h⟩ := bnd h
    have q := Blk.run h
    try simp only [go_sem] at q
    simp (implicitDefEqProofs := false) only [go_sem, d24_1, k24_1, k24_2, g24_1, g24_2, e1, rdp e2, rdm eS e2, Nat.reduceEqDiff, Nat.reduceAdd, Nat.reduceLeDiff, ↓reduceIte, reduceCtorEq]
    exact q
  · rcases ifB h with ⟨e3, h⟩ | ⟨e3, h⟩
    · cases h
      simp (implicitDefEqProofs := false) only [go_sem, d24_1, k24_1, k24_2, g24_1, g24_2, R24, E17, e1, e3, Nat.reduceEqDiff, Nat.reduceAdd, Nat.reduceLeDiff, ↓reduceIte]
    · cases h
      simp (implicitDefEqProofs := false) only [go_sem, d24_1, k24_1, k24_2, g24_1, g24_2, R24, E17, e1, e3, Nat.reduceEqDiff, Nat.reduceAdd, Nat.reduceLeDiff, ↓reduceIte]
theorem impl_DamageOf_b2_of (x11 x12 : List Str) (x13 x14 x15 x16 x17 x44 x45 x52 x53 : Int) (y10 : TBox) {r : TBox} (h : (if decide (x53 < x52) then ((rdx x11 x17).bind fun v6 =>
   (rdx v6 x53).bind fun v7 =>
   (rdx x12 x17).bind fun v8 =>
   (rdx v8 x53).bind fun v9 =>
   if !(decide ((v7.toNat : Int) = (v9.toNat : Int))) then impl_DamageOf_b2 x11 x12 (min x13 x53) (min x14 x17) (max x15 x53) (max x16 x17) x17 x44 x45 x52 (w64 (x53 + 1)) y10
   else impl_DamageOf_b2 x11 x12 x13 x14 x15 x16 x17 x44 x45 x52 (w64 (x53 + 1)) y10)
  else impl_DamageOf_b1 x11 x12 x13 x14 x15 x16 x44 (w64 (x45 + 1)) y10) = some r) : impl_DamageOf_b2 x11 x12 x13 x14 x15 x16 x17 x44 x45 x52 x53 y10 = some r := by
  refine Blk.of E17_inj ?_
  refine D_start (c' := d24_2) rfl ?_
  rcases ifB h with ⟨e1, h⟩ | ⟨e1, h⟩
  · obtain ⟨v6, e2, h⟩ := bnd h
    obtain ⟨v7, e3, h⟩ := bnd h
    obtain ⟨v8, e4, h⟩ := bnd h
    obtain ⟨v9, e5, h⟩ := bnd h
    rcases ifB h with ⟨e6, h⟩ | ⟨e6, h⟩
    · have q := Blk.run h
      try simp only [go_sem] at q
      simp (implicitDefEqProofs := false) only [go_sem, d24_2, k24_1, k24_2, g24_1, g24_2, e1, rdp e2, rdm eS e2, rdp e3, rds e3, rdm eS e4, rds e5, e6, Nat.reduceEqDiff, Nat.reduceAdd, Nat.reduceLeDiff, ↓reduceIte, reduceCtorEq]
      exact q
    · have q := Blk.run h
      try simp only [go_sem] at q
      simp (implicitDefEqProofs := false) only [go_sem, d24_2, k24_1, k24_2, g24_1, g24_2, e1, rdp e2, rdm eS e2, rdp e3, rds e3, rdm eS e4, rds e5, e6, Nat.reduceEqDiff, Nat.reduceAdd, Nat.reduceLeDiff, ↓reduceIte, reduceCtorEq]
      exact q
  · have q := Blk.run h
    try simp only [go_sem] at q
    simp (implicitDefEqProofs := false) only [go_sem, d24_2, k24_1, k24_2, g24_1, g24_2, e1, Nat.reduceEqDiff, Nat.reduceAdd, ↓reduceIte]
    exact q
theorem laws_eqBox_of (x0 x1 : TBox) {r : Bool} (h : (if !(decide (x0.Left = x1.Left)) then some false
  else (if !(decide (x0.Top = x1.Top)) then some false
   else (if !(decide (x0.Wide = x1.Wide)) then some false
    else (if !(decide (x0.High = x1.High)) then some false
     else some true)))) = some r) : laws_eqBox x0 x1 = some r := by
  refine Fn.of L_eq E9_inj (fi := fi25) rfl rfl ?_
  simp only [fi25]
  rcases ifB h with ⟨e1, h⟩ | ⟨e1, h⟩
  · cases h
    simp (implicitDefEqProofs := false) only [go_sem, b25, R25, E9, e1, Nat.reduceEqDiff, Nat.reduceAdd, Nat.reduceLeDiff, ↓reduceIte, reduceCtorEq]
  · rcases ifB h with ⟨e2, h⟩ | ⟨e2, h⟩
    · cases h
      simp (implicitDefEqProofs := false) only [go_sem, b25, R25, E9, e1, e2, Nat.reduceEqDiff, Nat.reduceAdd, Nat.reduceLeDiff, ↓reduceIte, reduceCtorEq]
    · rcases ifB h with ⟨e3, h⟩ | ⟨e3, h⟩
      · cases h
        simp (implicitDefEqProofs := false) only [go_sem, b25, R25, E9, e1, e2, e3, Nat.reduceEqDiff, Nat.reduceAdd, Nat.reduceLeDiff, ↓reduceIte, reduceCtorEq]
      · rcases ifB h with ⟨e4, h⟩ | ⟨e4, h⟩
        · cases h
          simp (implicitDefEqProofs := false) only [go_sem, b25, R25, E9, e1, e2, e3, e4, Nat.reduceEqDiff, Nat.reduceAdd, Nat.reduceLeDiff, ↓reduceIte, reduceCtorEq]
        · cases h
          simp (implicitDefEqProofs := false) only [go_sem, b25, R25, E9, e1, e2, e3, e4, Nat.reduceEqDiff, Nat.reduceAdd, Nat.reduceLeDiff, ↓reduceIte, reduceCtorEq]
theorem laws_eqValue_of (x0 x1 : TValue) {r : Bool} (h : (if !(decide (x0.Kind = x1.Kind)) then some false
  else (if !(decide (x0.Num = x1.Num)) then some false
   else (if !(decide (x0.Text = x1.Text)) then some false
    else some true))) = some r) : laws_eqValue x0 x1 = some r := by
  refine Fn.of L_eq E9_inj (fi := fi75) rfl rfl ?_
  simp only [fi75]
  rcases ifB h with ⟨e1, h⟩ | ⟨e1, h⟩
  · cases h
    simp (implicitDefEqProofs := false) only [go_sem, b75, R75, E9, e1, Nat.reduceEqDiff, Nat.reduceAdd, Nat.reduceLeDiff, ↓reduceIte, reduceCtorEq]
  · rcases ifB h with ⟨e2, h⟩ | ⟨e2, h⟩
    · cases h
      simp (implicitDefEqProofs := false) only [go_sem, b75, R75, E9, e1, e2, Nat.reduceEqDiff, Nat.reduceAdd, Nat.reduceLeDiff, ↓reduceIte, reduceCtorEq]
    · rcases ifB h with ⟨e3, h⟩ | ⟨e3, h⟩
      · cases h
        simp (implicitDefEqProofs := false) only [go_sem, b75, R75, E9, e1, e2, e3, Nat.reduceEqDiff, Nat.reduceAdd, Nat.reduceLeDiff, ↓reduceIte, reduceCtorEq]
      · cases h
        simp (implicitDefEqProofs := false) only [go_sem, b75, R75, E9, e1, e2, e3, Nat.reduceEqDiff, Nat.reduceAdd, Nat.reduceLeDiff, ↓reduceIte, reduceCtorEq]
theorem laws_eqProp_of (x0 x1 : TProp) {r : Bool} (h : (if !(decide (x0.Name = x1.Name)) then some false
  else ((laws_eqValue x0.Val x1.Val).bind fun r1 =>
   if !r1 then some false
   else some true)) = some r) : laws_eqProp x0 x1 = some r := by
  refine Fn.of L_eq E9_inj (fi := fi74) rfl rfl ?_
  simp only [fi74]
  rcases ifB h with ⟨e1, h⟩ | ⟨e1, h⟩
  · cases h
    simp (implicitDefEqProofs := false) only [go_sem, b74, R74, E9, e1, Nat.reduceEqDiff, Nat.reduceAdd, Nat.reduceLeDiff, ↓reduceIte, reduceCtorEq]
  · obtain ⟨r1, e2, h⟩ := bnd h
    rcases ifB h with ⟨e3, h⟩ | ⟨e3, h⟩
    · cases h
      simp (implicitDefEqProofs := false) only [go_sem, b74, R74, E9, e1, laws_eqValue_run e2, e3, Nat.reduceEqDiff, Nat.reduceAdd, Nat.reduceLeDiff, ↓reduceIte, reduceCtorEq]
    · cases h
      simp (implicitDefEqProofs := false) only [go_sem, b74, R74, E9, e1, laws_eqValue_run e2, e3, Nat.reduceEqDiff, Nat.reduceAdd, Nat.reduceLeDiff, ↓reduceIte, reduceCtorEq]
end Go.Fw.Law
