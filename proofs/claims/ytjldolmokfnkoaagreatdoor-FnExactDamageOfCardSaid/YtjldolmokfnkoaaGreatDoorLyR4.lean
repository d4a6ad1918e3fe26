/- What the functions come to. Conditions: none. -/
import Derived.Test.YtjldolmokfnkoaaGreatDoorLyD
namespace Go.Fw.Law
open Go Go.Fw
theorem spec_painter_part_v_of (x0 : TPainter) (x1 : TTree) (x2 x3 : List Int) (x4 : TBox) {r : TPainter} (h : ((spec_looksOf x0.rules x1 x2 x3).bind fun r1 =>
  (rdx x0.boxes x0.at_).bind fun v2 =>
  (spec_meet x4 v2).bind fun r3 =>
  if decide (x1.Tag < 0) then spec_painter_part_v_b1 x0.at_ 0 (⟨x0.rules, x0.boxes, w64 (x0.at_ + 1), x0.wide, x0.high, x0.cells, x0.owner⟩ : TPainter) x1 r3 v2
  else ((rdx r1 4).bind fun v4 =>
   if decide (0 < v4) then spec_painter_part_v_b2 x2 r1 x0.at_ r3.Top (⟨x0.rules, x0.boxes, w64 (x0.at_ + 1), x0.wide, x0.high, x0.cells, x0.owner⟩ : TPainter) x1 r3
   else spec_painter_part_v_b3 x2 r1 0 (⟨x0.rules, x0.boxes, w64 (x0.at_ + 1), x0.wide, x0.high, x0.cells, x0.owner⟩ : TPainter) x1 r3)) = some r) : spec_painter_part_v x0 x1 x2 x3 x4 = some r := by
  refine Fn.of L_eq E18_inj (fi := fi69) rfl rfl ?_
  simp only [fi69]
  obtain ⟨r1, e1, h⟩ := bnd h
  obtain ⟨v2, e2, h⟩ := bnd h
  obtain ⟨r3, e3, h⟩ := bnd h
  rcases ifB h with ⟨e4, h⟩ | ⟨e4, h⟩
  · have q := Blk.run h
    try simp only [go_sem] at q
    simp (implicitDefEqProofs := false) only [go_sem, b69, k69_1, k69_2, g69_1, g69_2, g69_3, spec_looksOf_run e1, rdp e2, rdm eTBox e2, spec_meet_run e3, e4, Nat.reduceEqDiff, Nat.reduceAdd, Nat.reduceLeDiff, ↓reduceIte, reduceCtorEq, Nat.reduceBEq]
    exact q
  · obtain ⟨v4, e5, h⟩ := bnd h
    have me5 := rdm eI e5
    try simp only [go_sem] at me5
    rcases ifB h with ⟨e6, h⟩ | ⟨e6, h⟩
    · have q := Blk.run h
      try simp only [go_sem] at q
      simp (implicitDefEqProofs := false) only [go_sem, b69, k69_1, k69_2, g69_1, g69_2, g69_3, spec_looksOf_run e1, rdp e2, rdm eTBox e2, spec_meet_run e3, e4, rdp e5, me5, e6, Nat.reduceEqDiff, Nat.reduceAdd, Nat.reduceLeDiff, ↓reduceIte, reduceCtorEq, Nat.reduceBEq]
      exact q
    · have q := Blk.run h
      try simp only [go_sem] at q
      simp (implicitDefEqProofs := false) only [go_sem, b69, k69_1, k69_2, g69_1, g69_2, g69_3, spec_looksOf_run e1, rdp e2, rdm eTBox e2, spec_meet_run e3, e4, rdp e5, me5, e6, Nat.reduceEqDiff, Nat.reduceAdd, Nat.reduceLeDiff, ↓reduceIte, reduceCtorEq, Nat.reduceBEq]
      exact q
theorem spec_painter_part_v_b1_of (x11 x13 : Int) (y0 : TPainter) (y6 : TTree) (y9 y12 : TBox) {r : TPainter} (h : (if decide (x13 < (y6.Text.length : Int)) then (if decide (0 < y12.Wide) then (if ¬ y12.Wide = 0 then ((rdx y6.Text x13).bind fun v5 =>
     (spec_painter_cell y0 y9 (w64 (y12.Left + (x13.tmod y12.Wide))) (w64 (y12.Top + (w64 (x13.tdiv y12.Wide)))) (v5.toNat : Int) x11).bind fun r6 =>
     spec_painter_part_v_b1 x11 (w64 (x13 + 1)) r6 y6 y9 y12)
    else none)
   else some y0)
  else some y0) = some r) : spec_painter_part_v_b1 x11 x13 y0 y6 y9 y12 = some r := by
  refine Blk.of E18_inj ?_
  refine D_start (c' := d69_1) rfl ?_
  rcases ifB h with ⟨e1, h⟩ | ⟨e1, h⟩
  · rcases ifB h with ⟨e2, h⟩ | ⟨e2, h⟩
    · obtain ⟨e3, h⟩ := ifP h
      obtain ⟨v5, e4, h⟩ := bnd h
      obtain ⟨r6, e5, h⟩ := bnd h
      have q := Blk.run h
      try simp only [go_sem] at q
      simp (implicitDefEqProofs := false) only [go_sem, d69_1, k69_1, k69_2, g69_1, g69_2, g69_3, e1, e2, e3, rdp e4, rds e4, spec_painter_cell_run e5, Nat.reduceEqDiff, Nat.reduceAdd, Nat.reduceLeDiff, ↓reduceIte, reduceCtorEq, Nat.reduceBEq]
      exact q
    · cases h
      simp (implicitDefEqProofs := false) only [go_sem, d69_1, k69_1, k69_2, g69_1, g69_2, g69_3, R69, E18, e1, e2, Nat.reduceEqDiff, Nat.reduceAdd, Nat.reduceLeDiff, ↓reduceIte, reduceCtorEq]
  · cases h
    simp (implicitDefEqProofs := false) only [go_sem, d69_1, k69_1, k69_2, g69_1, g69_2, g69_3, R69, E18, e1, Nat.reduceEqDiff, Nat.reduceAdd, Nat.reduceLeDiff, ↓reduceIte, reduceCtorEq]
theorem spec_painter_part_v_b2_of (x2 x10 : List Int) (x11 x14 : Int) (y0 : TPainter) (y6 : TTree) (y9 : TBox) {r : TPainter} (h : (if decide (x14 < (w64 (y9.Top + y9.High))) then spec_painter_part_v_b4 x2 x10 x11 x14 y9.Left y0 y6 y9
  else spec_painter_part_v_b3 x2 x10 0 y0 y6 y9) = some r) : spec_painter_part_v_b2 x2 x10 x11 x14 y0 y6 y9 = some r := by
  refine Blk.of E18_inj ?_
  refine D_start (c' := d69_2) rfl ?_
  rcases ifB h with ⟨e1, h⟩ | ⟨e1, h⟩
  · have q := Blk.run h
    try simp only [go_sem] at q
    simp (implicitDefEqProofs := false) only [go_sem, d69_2, k69_2, k69_3, g69_2, g69_3, g69_4, e1, Nat.reduceEqDiff, Nat.reduceAdd, Nat.reduceLeDiff, ↓reduceIte, reduceCtorEq, Nat.reduceBEq]
    exact q
  · have q := Blk.run h
    try simp only [go_sem] at q
    simp (implicitDefEqProofs := false) only [go_sem, d69_2, k69_2, k69_3, g69_2, g69_3, g69_4, e1, Nat.reduceEqDiff, Nat.reduceAdd, Nat.reduceLeDiff, ↓reduceIte, reduceCtorEq, Nat.reduceBEq]
    exact q
theorem spec_painter_part_v_b3_of (x2 x10 : List Int) (x16 : Int) (y0 : TPainter) (y6 : TTree) (y9 : TBox) {r : TPainter} (h : (if decide (x16 < (y6.Kids.length : Int)) then ((rdx y6.Kids x16).bind fun v7 =>
   if apOk 8 ([] : (List Int)) x2 then (if apOk 8 x2 ([y6.Tag]) then ((spec_painter_part_v y0 v7 (x2 ++ ([y6.Tag])) x10 y9).bind fun r8 =>
     spec_painter_part_v_b3 x2 x10 (w64 (x16 + 1)) r8 y6 y9)
    else none)
   else none)
  else some y0) = some r) : spec_painter_part_v_b3 x2 x10 x16 y0 y6 y9 = some r := by
  refine Blk.of E18_inj ?_
  refine D_start (c' := d69_3) rfl ?_
  rcases ifB h with ⟨e1, h⟩ | ⟨e1, h⟩
  · obtain ⟨v7, e2, h⟩ := bnd h
    obtain ⟨e3, h⟩ := ifP h
    have me3 := apL e3
    try simp only [go_sem] at me3
    obtain ⟨e4, h⟩ := ifP h
    have me4 := apL e4
    try simp only [go_sem, Nat.reduceAdd, Nat.reduceLeDiff] at me4
    obtain ⟨r8, e5, h⟩ := bnd h
    have me5 := spec_painter_part_v_run e5
    try simp only [go_sem] at me5
    have q := Blk.run h
    try simp only [go_sem] at q
    simp (implicitDefEqProofs := false) only [go_sem, d69_3, g69_3, e1, rdp e2, rdm (eTTree .sh) e2, me3, me4, me5, Nat.reduceEqDiff, Nat.reduceAdd, Nat.reduceLeDiff, ↓reduceIte, reduceCtorEq, Nat.reduceBEq]
    exact q
  · cases h
    simp (implicitDefEqProofs := false) only [go_sem, d69_3, g69_3, R69, E18, e1, Nat.reduceEqDiff, Nat.reduceAdd, Nat.reduceLeDiff, ↓reduceIte, reduceCtorEq]
theorem spec_painter_part_v_b4_of (x2 x10 : List Int) (x11 x14 x15 : Int) (y0 : TPainter) (y6 : TTree) (y9 : TBox) {r : TPainter} (h : (if decide (x15 < (w64 (y9.Left + y9.Wide))) then ((rdx x10 4).bind fun v9 =>
   (spec_markOf v9).bind fun r10 =>
   (spec_painter_cell y0 y9 x15 x14 r10 x11).bind fun r11 =>
   spec_painter_part_v_b4 x2 x10 x11 x14 (w64 (x15 + 1)) r11 y6 y9)
  else spec_painter_part_v_b2 x2 x10 x11 (w64 (x14 + 1)) y0 y6 y9) = some r) : spec_painter_part_v_b4 x2 x10 x11 x14 x15 y0 y6 y9 = some r := by
  refine Blk.of E18_inj ?_
  refine D_start (c' := d69_4) rfl ?_
  rcases ifB h with ⟨e1, h⟩ | ⟨e1, h⟩
  · obtain ⟨v9, e2, h⟩ := bnd h
    have me2 := rdm eI e2
    try simp only [go_sem] at me2
    obtain ⟨r10, e3, h⟩ := bnd h
    obtain ⟨r11, e4, h⟩ := bnd h
    have q := Blk.run h
    try simp only [go_sem] at q
    simp (implicitDefEqProofs := false) only [go_sem, d69_4, k69_2, k69_3, g69_2, g69_3, g69_4, e1, rdp e2, me2, spec_markOf_run e3, spec_painter_cell_run e4, Nat.reduceEqDiff, Nat.reduceAdd, Nat.reduceLeDiff, ↓reduceIte, reduceCtorEq, Nat.reduceBEq]
    exact q
  · have q := Blk.run h
    try simp only [go_sem] at q
    simp (implicitDefEqProofs := false) only [go_sem, d69_4, k69_2, k69_3, g69_2, g69_3, g69_4, e1, Nat.reduceEqDiff, Nat.reduceAdd, Nat.reduceLeDiff, ↓reduceIte, reduceCtorEq, Nat.reduceBEq]
    exact q
theorem spec_painter_part_of (x0 : TPainter) (x1 : TTree) (x2 x3 : List Int) (x4 : TBox) {r : TPainter} (h : ((spec_looksOf x0.rules x1 x2 x3).bind fun r1 =>
  (rdx x0.boxes x0.at_).bind fun v2 =>
  (spec_meet x4 v2).bind fun r3 =>
  if decide (x1.Tag < 0) then spec_painter_part_b1 x0.at_ 0 (⟨x0.rules, x0.boxes, w64 (x0.at_ + 1), x0.wide, x0.high, x0.cells, x0.owner⟩ : TPainter) x1 r3 v2
  else ((rdx r1 4).bind fun v4 =>
   if decide (0 < v4) then spec_painter_part_b2 x2 r1 x0.at_ r3.Top (⟨x0.rules, x0.boxes, w64 (x0.at_ + 1), x0.wide, x0.high, x0.cells, x0.owner⟩ : TPainter) x1 r3
   else spec_painter_part_b3 x2 r1 0 (⟨x0.rules, x0.boxes, w64 (x0.at_ + 1), x0.wide, x0.high, x0.cells, x0.owner⟩ : TPainter) x1 r3)) = some r) : spec_painter_part x0 x1 x2 x3 x4 = some r := by
  refine Fn.of L_eq E18_inj (fi := fi69) rfl rfl ?_
  simp only [fi69]
  obtain ⟨r1, e1, h⟩ := bnd h
  obtain ⟨v2, e2, h⟩ := bnd h
  obtain ⟨r3, e3, h⟩ := bnd h
  rcases ifB h with ⟨e4, h⟩ | ⟨e4, h⟩
  · have q := Blk.run h
    try simp only [go_sem] at q
    simp (implicitDefEqProofs := false) only [go_sem, b69, k69_1, k69_2, g69_1, g69_2, g69_3, spec_looksOf_run e1, rdp e2, rdm eTBox e2, spec_meet_run e3, e4, Nat.reduceEqDiff, Nat.reduceAdd, Nat.reduceLeDiff, ↓reduceIte, reduceCtorEq, Nat.reduceBEq]
    exact q
  · obtain ⟨v4, e5, h⟩ := bnd h
    have me5 := rdm eI e5
    try simp only [go_sem] at me5
    rcases ifB h with ⟨e6, h⟩ | ⟨e6, h⟩
    · have q := Blk.run h
      try simp only [go_sem] at q
      simp (implicitDefEqProofs := false) only [go_sem, b69, k69_1, k69_2, g69_1, g69_2, g69_3, spec_looksOf_run e1, rdp e2, rdm eTBox e2, spec_meet_run e3, e4, rdp e5, me5, e6, Nat.reduceEqDiff, Nat.reduceAdd, Nat.reduceLeDiff, ↓reduceIte, reduceCtorEq, Nat.reduceBEq]
      exact q
    · have q := Blk.run h
      try simp only [go_sem] at q
      simp (implicitDefEqProofs := false) only [go_sem, b69, k69_1, k69_2, g69_1, g69_2, g69_3, spec_looksOf_run e1, rdp e2, rdm eTBox e2, spec_meet_run e3, e4, rdp e5, me5, e6, Nat.reduceEqDiff, Nat.reduceAdd, Nat.reduceLeDiff, ↓reduceIte, reduceCtorEq, Nat.reduceBEq]
      exact q
theorem spec_painter_part_b1_of (x11 x13 : Int) (y0 : TPainter) (y6 : TTree) (y9 y12 : TBox) {r : TPainter} (h : (if decide (x13 < (y6.Text.length : Int)) then (if decide (0 < y12.Wide) then (if ¬ y12.Wide = 0 then ((rdx y6.Text x13).bind fun v5 =>
     (spec_painter_cell y0 y9 (w64 (y12.Left + (x13.tmod y12.Wide))) (w64 (y12.Top + (w64 (x13.tdiv y12.Wide)))) (v5.toNat : Int) x11).bind fun r6 =>
     spec_painter_part_b1 x11 (w64 (x13 + 1)) r6 y6 y9 y12)
    else none)
   else some y0)
  else some y0) = some r) : spec_painter_part_b1 x11 x13 y0 y6 y9 y12 = some r := by
  refine Blk.of E18_inj ?_
  refine D_start (c' := d69_1) rfl ?_
  rcases ifB h with ⟨e1, h⟩ | ⟨e1, h⟩
  · rcases ifB h with ⟨e2, h⟩ | ⟨e2, h⟩
    · obtain ⟨e3, h⟩ := ifP h
      obtain ⟨v5, e4, h⟩ := bnd h
      obtain ⟨r6, e5, h⟩ := bnd h
      have q := Blk.run h
      try simp only [go_sem] at q
      simp (implicitDefEqProofs := false) only [go_sem, d69_1, k69_1, k69_2, g69_1, g69_2, g69_3, e1, e2, e3, rdp e4, rds e4, spec_painter_cell_run e5, Nat.reduceEqDiff, Nat.reduceAdd, Nat.reduceLeDiff, ↓reduceIte, reduceCtorEq, Nat.reduceBEq]
      exact q
    · cases h
      simp (implicitDefEqProofs := false) only [go_sem, d69_1, k69_1, k69_2, g69_1, g69_2, g69_3, R69, E18, e1, e2, Nat.reduceEqDiff, Nat.reduceAdd, Nat.reduceLeDiff, ↓reduceIte, reduceCtorEq]
  · cases h
    simp (implicitDefEqProofs := false) only [go_sem, d69_1, k69_1, k69_2, g69_1, g69_2, g69_3, R69, E18, e1, Nat.reduceEqDiff, Nat.reduceAdd, Nat.reduceLeDiff, ↓reduceIte, reduceCtorEq]
theorem spec_painter_part_b2_of (x2 x10 : List Int) (x11 x14 : Int) (y0 : TPainter) (y6 : TTree) (y9 : TBox) {r : TPainter} (h : (if decide (x14 < (w64 (y9.Top + y9.High))) then spec_painter_part_b4 x2 x10 x11 x14 y9.Left y0 y6 y9
  else spec_painter_part_b3 x2 x10 0 y0 y6 y9) = some r) : spec_painter_part_b2 x2 x10 x11 x14 y0 y6 y9 = some r := by
  refine Blk.of E18_inj ?_
  refine D_start (c' := d69_2) rfl ?_
  rcases ifB h with ⟨e1, h⟩ | ⟨e1, h⟩
  · have q := Blk.run h
    try simp only [go_sem] at q
    simp (implicitDefEqProofs := false) only [go_sem, d69_2, k69_2, k69_3, g69_2, g69_3, g69_4, e1, Nat.reduceEqDiff, Nat.reduceAdd, Nat.reduceLeDiff, ↓reduceIte, reduceCtorEq, Nat.reduceBEq]
    exact q
  · have q := Blk.run h
    try simp only [go_sem] at q
    simp (implicitDefEqProofs := false) only [go_sem, d69_2, k69_2, k69_3, g69_2, g69_3, g69_4, e1, Nat.reduceEqDiff, Nat.reduceAdd, Nat.reduceLeDiff, ↓reduceIte, reduceCtorEq, Nat.reduceBEq]
    exact q
theorem spec_painter_part_b3_of (x2 x10 : List Int) (x16 : Int) (y0 : TPainter) (y6 : TTree) (y9 : TBox) {r : TPainter} (h : (if decide (x16 < (y6.Kids.length : Int)) then ((rdx y6.Kids x16).bind fun v7 =>
   if apOk 8 ([] : (List Int)) x2 then (if apOk 8 x2 ([y6.Tag]) then ((spec_painter_part_v y0 v7 (x2 ++ ([y6.Tag])) x10 y9).bind fun r8 =>
     spec_painter_part_b3 x2 x10 (w64 (x16 + 1)) r8 y6 y9)
    else none)
   else none)
  else some y0) = some r) : spec_painter_part_b3 x2 x10 x16 y0 y6 y9 = some r := by
  refine Blk.of E18_inj ?_
  refine D_start (c' := d69_3) rfl ?_
  rcases ifB h with ⟨e1, h⟩ | ⟨e1, h⟩
  · obtain ⟨v7, e2, h⟩ := bnd h
    obtain ⟨e3, h⟩ := ifP h
    have me3 := apL e3
    try simp only [go_sem] at me3
    obtain ⟨e4, h⟩ := ifP h
    have me4 := apL e4
    try simp only [go_sem, Nat.reduceAdd, Nat.reduceLeDiff] at me4
    obtain ⟨r8, e5, h⟩ := bnd h
    have me5 := spec_painter_part_v_run e5
    try simp only [go_sem] at me5
    have q := Blk.run h
    try simp only [go_sem] at q
    simp (implicitDefEqProofs := false) only [go_sem, d69_3, g69_3, e1, rdp e2, rdm (eTTree .sh) e2, me3, me4, me5, Nat.reduceEqDiff, Nat.reduceAdd, Nat.reduceLeDiff, ↓reduceIte, reduceCtorEq, Nat.reduceBEq]
    exact q
  · cases h
    simp (implicitDefEqProofs := false) only [go_sem, d69_3, g69_3, R69, E18, e1, Nat.reduceEqDiff, Nat.reduceAdd, Nat.reduceLeDiff, ↓reduceIte, reduceCtorEq]
theorem spec_painter_part_b4_of (x2 x10 : List Int) (x11 x14 x15 : Int) (y0 : TPainter) (y6 : TTree) (y9 : TBox) {r : TPainter} (h : (if decide (x15 < (w64 (y9.Left + y9.Wide))) then ((rdx x10 4).bind fun v9 =>
   (spec_markOf v9).bind fun r10 =>
   (spec_painter_cell y0 y9 x15 x14 r10 x11).bind fun r11 =>
   spec_painter_part_b4 x2 x10 x11 x14 (w64 (x15 + 1)) r11 y6 y9)
  else spec_painter_part_b2 x2 x10 x11 (w64 (x14 + 1)) y0 y6 y9) = some r) : spec_painter_part_b4 x2 x10 x11 x14 x15 y0 y6 y9 = some r := by
  refine Blk.of E18_inj ?_
  refine D_start (c' := d69_4) rfl ?_
  rcases ifB h with ⟨e1, h⟩ | ⟨e1, h⟩
  · obtain ⟨v9, e2, h⟩ := bnd h
    have me2 := rdm eI e2
    try simp only [go_sem] at me2
    obtain ⟨r10, e3, h⟩ := bnd h
    obtain ⟨r11, e4, h⟩ := bnd h
    have q := Blk.run h
    try simp only [go_sem] at q
    simp (implicitDefEqProofs := false) only [go_sem, d69_4, k69_2, k69_3, g69_2, g69_3, g69_4, e1, rdp e2, me2, spec_markOf_run e3, spec_painter_cell_run e4, Nat.reduceEqDiff, Nat.reduceAdd, Nat.reduceLeDiff, ↓reduceIte, reduceCtorEq, Nat.reduceBEq]
    exact q
  · have q := Blk.run h
    try simp only [go_sem] at q
    simp (implicitDefEqProofs := false) only [go_sem, d69_4, k69_2, k69_3, g69_2, g69_3, g69_4, e1, Nat.reduceEqDiff, Nat.reduceAdd, Nat.reduceLeDiff, ↓reduceIte, reduceCtorEq, Nat.reduceBEq]
    exact q
theorem spec_painted_of (x0 : TTree) (x1 : List TRule) (x2 x3 : Int) {r : TPainter} (h : ((spec_boxes x0 x1 x2).bind fun r1 =>
  if (0 ≤ (w64 (x2 * x3)) ∧ (w64 (x2 * x3)) * 1 ≤ 281474976710656 ∧ (w64 (x2 * x3)) ≤ 9223372036854775807) then (if (0 ≤ (w64 (x2 * x3)) ∧ (w64 (x2 * x3)) * 8 ≤ 281474976710656 ∧ (w64 (x2 * x3)) ≤ 9223372036854775807) then spec_painted_b1 x2 x3 0 x0 (⟨x1, r1, 0, x2, x3, List.replicate (w64 (x2 * x3)).toNat (0 : Int), List.replicate (w64 (x2 * x3)).toNat (0 : Int)⟩ : TPainter)
   else none)
  else none) = some r) : spec_painted x0 x1 x2 x3 = some r := by
  refine Fn.of L_eq E20_inj (fi := fi38) rfl rfl ?_
  simp only [fi38]
  obtain ⟨r1, e1, h⟩ := bnd h
  obtain ⟨e2, h⟩ := ifP h
  have me2 := e2
  try simp only [go_sem, Int.reduceMul, Nat.reduceEqDiff, Nat.reduceAdd, Nat.reduceMul, Nat.reduceSub, Nat.reduceLeDiff, Int.reduceLE, Int.reduceLT, Int.reduceEq, ↓reduceIte, reduceCtorEq, Nat.beq_eq_true_eq, Nat.reduceBEq] at me2
  obtain ⟨e3, h⟩ := ifP h
  have me3 := e3
  try simp only [go_sem, Int.reduceMul, Nat.reduceEqDiff, Nat.reduceAdd, Nat.reduceMul, Nat.reduceSub, Nat.reduceLeDiff, Int.reduceLE, Int.reduceLT, Int.reduceEq, ↓reduceIte, reduceCtorEq, Nat.beq_eq_true_eq, Nat.reduceBEq] at me3
  have q := Blk.run h
  try simp only [go_sem] at q
  simp (implicitDefEqProofs := false) only [go_sem, b38, k38_1, g38_1, spec_boxes_run e1, e2, e3, Nat.reduceEqDiff, Nat.reduceAdd, Nat.reduceLeDiff, ↓reduceIte, reduceCtorEq, Nat.reduceBEq]
  exact q
theorem spec_painted_b1_of (x2 x3 x10 : Int) (y4 : TTree) (y27 : TPainter) {r : TPainter} (h : (if decide (x10 < (y27.cells.length : Int)) then ((rdx y27.cells x10).bind fun _v2 =>
   (rdx y27.owner x10).bind fun _v3 =>
   spec_painted_b1 x2 x3 (w64 (x10 + 1)) y4 (⟨y27.rules, y27.boxes, y27.at_, y27.wide, y27.high, (y27.cells.set x10.toNat 32), (y27.owner.set x10.toNat (-1))⟩ : TPainter))
  else ((spec_painter_part y27 y4 [] ([0, 0, 0, 0, 0] : List Int) (⟨0, 0, x2, x3⟩ : TBox)).bind fun r4 =>
   some r4)) = some r) : spec_painted_b1 x2 x3 x10 y4 y27 = some r := by
  refine Blk.of E20_inj ?_
  refine D_start (c' := d38_1) rfl ?_
  rcases ifB h with ⟨e1, h⟩ | ⟨e1, h⟩
  · obtain ⟨v2, e2, h⟩ := bnd h
    obtain ⟨v3, e3, h⟩ := bnd h
    have q := Blk.run h
    try simp only [go_sem] at q
    simp (implicitDefEqProofs := false) only [go_sem, d38_1, k38_1, g38_1, e1, rdp e2, rdm eU8 e2, rdm eI e3, Nat.reduceEqDiff, Nat.reduceAdd, Nat.reduceLeDiff, ↓reduceIte, reduceCtorEq, Nat.reduceBEq]
    exact q
  · obtain ⟨r4, e4, h⟩ := bnd h
    have me4 := spec_painter_part_run e4
    try simp only [go_sem] at me4
    cases h
    simp (implicitDefEqProofs := false) only [go_sem, d38_1, k38_1, g38_1, R38, E20, e1, me4, Int.reduceMul, Nat.reduceEqDiff, Nat.reduceAdd, Nat.reduceLeDiff, Int.reduceLE, ↓reduceIte, reduceCtorEq]
theorem spec_painter_rows_of (x0 : TPainter) {r : (List Str) × TPainter} (h : (spec_painter_rows_b1 [] 0 x0) = some r) : spec_painter_rows x0 = some r := by
  refine Fn.of L_eq E21_inj (fi := fi58) rfl rfl ?_
  simp only [fi58]
  have q := Blk.run h
  try simp only [go_sem] at q
  simp (implicitDefEqProofs := false) only [go_sem, b58, k58_1, g58_1, Nat.reduceEqDiff, Nat.reduceAdd, ↓reduceIte, reduceCtorEq]
  exact q
theorem spec_painter_rows_b1_of (x3 : List Str) (x4 : Int) (y0 : TPainter) {r : (List Str) × TPainter} (h : (if decide (x4 < y0.high) then (if (0 ≤ (w64 (x4 * y0.wide)) ∧ (w64 (x4 * y0.wide)) ≤ (w64 ((w64 (x4 + 1)) * y0.wide)) ∧ (w64 ((w64 (x4 + 1)) * y0.wide)) ≤ (y0.cells.length : Int)) then ((tos (sub y0.cells (w64 (x4 * y0.wide)) (w64 ((w64 (x4 + 1)) * y0.wide)))).bind fun v1 =>
    if apOk 16 x3 ([v1]) then spec_painter_rows_b1 (x3 ++ ([v1])) (w64 (x4 + 1)) y0
    else none)
   else none)
  else some (x3, y0)) = some r) : spec_painter_rows_b1 x3 x4 y0 = some r := by
  refine Blk.of E21_inj ?_
  refine D_start (c' := d58_1) rfl ?_
  rcases ifB h with ⟨e1, h⟩ | ⟨e1, h⟩
  · obtain ⟨e2, h⟩ := ifP h
    have me2 := e2
    try simp only [go_sem, Int.reduceMul, Nat.reduceEqDiff, Nat.reduceAdd, Nat.reduceMul, Nat.reduceSub, Nat.reduceLeDiff, Int.reduceLE, Int.reduceLT, Int.reduceEq, ↓reduceIte, reduceCtorEq, Nat.beq_eq_true_eq, Nat.reduceBEq] at me2
    obtain ⟨v1, e3, h⟩ := bnd h
    have me3 := tosm e3
    try simp only [go_sem] at me3
    obtain ⟨e4, h⟩ := ifP h
    have me4 := apL e4
    try simp only [go_sem, Nat.reduceAdd, Nat.reduceLeDiff] at me4
    have q := Blk.run h
    try simp only [go_sem] at q
    simp (implicitDefEqProofs := false) only [go_sem, d58_1, k58_1, g58_1, e1, e2, me3, me4, Nat.reduceEqDiff, Nat.reduceAdd, Nat.reduceLeDiff, ↓reduceIte, reduceCtorEq]
    exact q
  · cases h
    simp (implicitDefEqProofs := false) only [go_sem, d58_1, k58_1, g58_1, R58, E21, e1, Nat.reduceEqDiff, Nat.reduceAdd, Nat.reduceLeDiff, ↓reduceIte, reduceCtorEq]
theorem spec_differs_of (x0 x1 : List Str) {r : TBox} (h : (spec_differs_b1 x0 x1 true 0 (⟨0, 0, 0, 0⟩ : TBox) (⟨0, 0, 0, 0⟩ : TBox)) = some r) : spec_differs x0 x1 = some r := by
  refine Fn.of L_eq E17_inj (fi := fi57) rfl rfl ?_
  simp only [fi57]
  have q := Blk.run h
  try simp only [go_sem] at q
  simp (implicitDefEqProofs := false) only [go_sem, b57, k57_1, g57_1, Nat.reduceEqDiff, Nat.reduceAdd, Nat.reduceLeDiff, ↓reduceIte, reduceCtorEq, Nat.reduceBEq]
  exact q
theorem spec_differs_b1_of (x0 x1 : List Str) (x6 : Bool) (x7 : Int) (y4 y5 : TBox) {r : TBox} (h : (if decide (x7 < (x0.length : Int)) then spec_differs_b2 x0 x1 x6 x7 0 y4 y5
  else some y5) = some r) : spec_differs_b1 x0 x1 x6 x7 y4 y5 = some r := by
  refine Blk.of E17_inj ?_
  refine D_start (c' := d57_1) rfl ?_
  rcases ifB h with ⟨e1, h⟩ | ⟨e1, h⟩
  · have q := Blk.run h
    try simp only [go_sem] at q
    simp (implicitDefEqProofs := false) only [go_sem, d57_1, k57_1, k57_2, g57_1, g57_2, e1, Nat.reduceEqDiff, Nat.reduceAdd, ↓reduceIte, reduceCtorEq, Nat.reduceBEq]
    exact q
  · cases h
    simp (implicitDefEqProofs := false) only [go_sem, d57_1, k57_1, k57_2, g57_1, g57_2, R57, E17, e1, Nat.reduceEqDiff, Nat.reduceAdd, Nat.reduceLeDiff, ↓reduceIte, reduceCtorEq]
theorem spec_differs_b2_of (x0 x1 : List Str) (x6 : Bool) (x7 x8 : Int) (y4 y5 : TBox) {r : TBox} (h : ((rdx x0 x7).bind fun v1 =>
  if decide (x8 < (v1.length : Int)) then ((rdx v1 x8).bind fun v2 =>
   (rdx x1 x7).bind fun v3 =>
   (rdx v3 x8).bind fun v4 =>
   if decide ((v2.toNat : Int) = (v4.toNat : Int)) then spec_differs_b2 x0 x1 x6 x7 (w64 (x8 + 1)) y4 y5
   else (if x6 then spec_differs_b2 x0 x1 false x7 (w64 (x8 + 1)) y4 (⟨x8, x7, 1, 1⟩ : TBox)
    else spec_differs_b2 x0 x1 x6 x7 (w64 (x8 + 1)) y4 (⟨min y5.Left x8, y5.Top, w64 ((max (w64 (y5.Left + y5.Wide)) (w64 (x8 + 1))) - (min y5.Left x8)), w64 ((w64 (x7 + 1)) - y5.Top)⟩ : TBox)))
  else spec_differs_b1 x0 x1 x6 (w64 (x7 + 1)) y4 y5) = some r) : spec_differs_b2 x0 x1 x6 x7 x8 y4 y5 = some r := by
  refine Blk.of E17_inj ?_
  refine D_start (c' := d57_2) rfl ?_
  obtain ⟨v1, e1, h⟩ := bnd h
  rcases ifB h with ⟨e2, h⟩ | ⟨e2, h⟩
  · obtain ⟨v2, e3, h⟩ := bnd h
    obtain ⟨v3, e4, h⟩ := bnd h
    obtain ⟨v4, e5, h⟩ := bnd h
    rcases ifB h with ⟨e6, h⟩ | ⟨e6, h⟩
    · have q := Blk.run h
      try simp only [go_sem] at q
      simp (implicitDefEqProofs := false) only [go_sem, d57_2, k57_1, k57_2, g57_1, g57_2, rdp e1, rdm eS e1, e2, rdp e3, rds e3, rdm eS e4, rds e5, e6, Nat.reduceEqDiff, Nat.reduceAdd, Nat.reduceLeDiff, ↓reduceIte, reduceCtorEq, Nat.reduceBEq]
      exact q
    · rcases ifB h with ⟨e7, h⟩ | ⟨e7, h⟩
      · subst e7
        have q := Blk.run h
        try simp only [go_sem] at q
        simp (implicitDefEqProofs := false) only [go_sem, d57_2, k57_1, k57_2, g57_1, g57_2, rdp e1, rdm eS e1, e2, rdp e3, rds e3, rdm eS e4, rds e5, e6, Nat.reduceEqDiff, Nat.reduceAdd, Nat.reduceLeDiff, ↓reduceIte, reduceCtorEq, Nat.reduceBEq]
        exact q
      · subst e7
        have q := Blk.run h
        try simp only [go_sem] at q
        simp (implicitDefEqProofs := false) only [go_sem, d57_2, k57_1, k57_2, g57_1, g57_2, rdp e1, rdm eS e1, e2, rdp e3, rds e3, rdm eS e4, rds e5, e6, Nat.reduceEqDiff, Nat.reduceAdd, Nat.reduceLeDiff, ↓reduceIte, reduceCtorEq, Nat.reduceBEq]
        exact q
  · have q := Blk.run h
    try simp only [go_sem] at q
    simp (implicitDefEqProofs := false) only [go_sem, d57_2, k57_1, k57_2, g57_1, g57_2, rdp e1, rdm eS e1, e2, Nat.reduceEqDiff, Nat.reduceAdd, Nat.reduceLeDiff, ↓reduceIte, reduceCtorEq, Nat.reduceBEq]
    exact q
end Go.Fw.Law
