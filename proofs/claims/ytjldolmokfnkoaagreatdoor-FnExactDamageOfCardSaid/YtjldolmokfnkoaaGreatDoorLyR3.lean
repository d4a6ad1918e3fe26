/- What the functions come to. Conditions: none. -/
import Derived.Test.YtjldolmokfnkoaaGreatDoorLyD
namespace Go.Fw.Law
open Go Go.Fw
theorem spec_placer_part_v_of (x0 : TPlacer) (x1 : TTree) (x2 x3 : List Int) (x4 x5 x6 : Int) {r : TBox × TPlacer} (h : ((spec_looksOf x0.rules x1 x2 x3).bind fun r1 =>
  if apOk 32 x0.out ([(⟨x4, x5, 0, 0⟩ : TBox)]) then (if decide (x1.Tag < 0) then ((spec_textBox (x1.Text.length : Int) x6).bind fun r2 =>
    (rdx (x0.out ++ ([(⟨x4, x5, 0, 0⟩ : TBox)])) (x0.out.length : Int)).bind fun _v3 =>
    some ((⟨x4, x5, r2.1, r2.2⟩ : TBox), (⟨x0.rules, ((x0.out ++ ([(⟨x4, x5, 0, 0⟩ : TBox)])).set (x0.out.length : Int).toNat (⟨x4, x5, r2.1, r2.2⟩ : TBox))⟩ : TPlacer)))
   else ((rdx r1 0).bind fun v4 =>
    if decide (0 < v4) then spec_placer_part_v_b1 x2 x4 x5 r1 (x0.out.length : Int) (⟨x0.rules, x0.out ++ ([(⟨x4, x5, 0, 0⟩ : TBox)])⟩ : TPlacer) x1 (⟨0, 0, 0, 0⟩ : TBox) (⟨x4, x5, min x6 v4, 0⟩ : TBox)
    else spec_placer_part_v_b1 x2 x4 x5 r1 (x0.out.length : Int) (⟨x0.rules, x0.out ++ ([(⟨x4, x5, 0, 0⟩ : TBox)])⟩ : TPlacer) x1 (⟨0, 0, 0, 0⟩ : TBox) (⟨x4, x5, x6, 0⟩ : TBox)))
  else none) = some r) : spec_placer_part_v x0 x1 x2 x3 x4 x5 x6 = some r := by
  refine Fn.of L_eq E15_inj (fi := fi79) rfl rfl ?_
  simp only [fi79]
  obtain ⟨r1, e1, h⟩ := bnd h
  obtain ⟨e2, h⟩ := ifP h
  have me2 := apL e2
  try simp only [go_sem, Nat.reduceAdd, Nat.reduceLeDiff] at me2
  rcases ifB h with ⟨e3, h⟩ | ⟨e3, h⟩
  · obtain ⟨r2, e4, h⟩ := bnd h
    obtain ⟨v3, e5, h⟩ := bnd h
    have me5 := rdm eTBox e5
    try simp only [go_sem] at me5
    cases h
    simp (implicitDefEqProofs := false) only [go_sem, b79, g79_1, R79, E15, spec_looksOf_run e1, me2, e3, spec_textBox_run e4, rdp e5, me5, Nat.reduceEqDiff, Nat.reduceAdd, Nat.reduceLeDiff, ↓reduceIte, reduceCtorEq, Nat.reduceBEq]
  · obtain ⟨v4, e6, h⟩ := bnd h
    have me6 := rdm eI e6
    try simp only [go_sem] at me6
    rcases ifB h with ⟨e7, h⟩ | ⟨e7, h⟩
    · have q := Blk.run h
      try simp only [go_sem] at q
      simp (implicitDefEqProofs := false) only [go_sem, b79, g79_1, spec_looksOf_run e1, me2, e3, rdp e6, me6, e7, Nat.reduceEqDiff, Nat.reduceAdd, Nat.reduceLeDiff, ↓reduceIte, reduceCtorEq, Nat.reduceBEq]
      exact q
    · have q := Blk.run h
      try simp only [go_sem] at q
      simp (implicitDefEqProofs := false) only [go_sem, b79, g79_1, spec_looksOf_run e1, me2, e3, rdp e6, me6, e7, Nat.reduceEqDiff, Nat.reduceAdd, Nat.reduceLeDiff, ↓reduceIte, reduceCtorEq, Nat.reduceBEq]
      exact q
theorem spec_placer_part_v_b1_of (x2 : List Int) (x4 x5 : Int) (x15 : List Int) (x16 : Int) (y0 : TPlacer) (y8 : TTree) (y14 y17 : TBox) {r : TBox × TPlacer} (h : ((rdx x15 2).bind fun v5 =>
  if apOk 8 ([] : (List Int)) x2 then (if apOk 8 x2 ([y8.Tag]) then ((rdx x15 3).bind fun v6 =>
    if decide (0 < v6) then ((spec_placer_across y0 y8.Kids (x2 ++ ([y8.Tag])) x15 (w64 (x4 + v5)) (w64 (x5 + v5)) (max 0 (w64 (y17.Wide - (w64 (2 * v5)))))).bind fun r7 =>
     spec_placer_part_v_b2 x15 x16 v5 r7.1 r7.2 y14 y17)
    else spec_placer_part_v_b3 x4 x5 x15 x16 v5 (max 0 (w64 (y17.Wide - (w64 (2 * v5))))) (x2 ++ ([y8.Tag])) y0 y8 y14 y17)
   else none)
  else none) = some r) : spec_placer_part_v_b1 x2 x4 x5 x15 x16 y0 y8 y14 y17 = some r := by
  refine Blk.of E15_inj ?_
  refine D_start (c' := d79_1) rfl ?_
  obtain ⟨v5, e1, h⟩ := bnd h
  have me1 := rdm eI e1
  try simp only [go_sem] at me1
  obtain ⟨e2, h⟩ := ifP h
  have me2 := apL e2
  try simp only [go_sem] at me2
  obtain ⟨e3, h⟩ := ifP h
  have me3 := apL e3
  try simp only [go_sem, Nat.reduceAdd, Nat.reduceLeDiff] at me3
  obtain ⟨v6, e4, h⟩ := bnd h
  have me4 := rdm eI e4
  try simp only [go_sem] at me4
  rcases ifB h with ⟨e5, h⟩ | ⟨e5, h⟩
  · obtain ⟨r7, e6, h⟩ := bnd h
    have me6 := spec_placer_across_run e6
    try simp only [go_sem] at me6
    have q := Blk.run h
    try simp only [go_sem] at q
    simp (implicitDefEqProofs := false) only [go_sem, d79_1, g79_2, g79_3, rdp e1, me1, me2, me3, rdp e4, me4, e5, me6, Nat.reduceEqDiff, Nat.reduceAdd, Nat.reduceLeDiff, ↓reduceIte, reduceCtorEq, Nat.reduceBEq]
    exact q
  · have q := Blk.run h
    try simp only [go_sem] at q
    simp (implicitDefEqProofs := false) only [go_sem, d79_1, g79_2, g79_3, rdp e1, me1, me2, me3, rdp e4, me4, e5, Nat.reduceEqDiff, Nat.reduceAdd, Nat.reduceLeDiff, ↓reduceIte, reduceCtorEq, Nat.reduceBEq]
    exact q
theorem spec_placer_part_v_b2_of (x15 : List Int) (x16 x18 x21 : Int) (y0 : TPlacer) (y14 y17 : TBox) {r : TBox × TPlacer} (h : ((rdx x15 1).bind fun v8 =>
  if decide (0 < v8) then spec_placer_part_v_b4 x16 y0 y14 (⟨y17.Left, y17.Top, y17.Wide, v8⟩ : TBox)
  else spec_placer_part_v_b4 x16 y0 y14 (⟨y17.Left, y17.Top, y17.Wide, w64 (x21 + (w64 (2 * x18)))⟩ : TBox)) = some r) : spec_placer_part_v_b2 x15 x16 x18 x21 y0 y14 y17 = some r := by
  refine Blk.of E15_inj ?_
  refine D_start (c' := d79_3) rfl ?_
  obtain ⟨v8, e1, h⟩ := bnd h
  have me1 := rdm eI e1
  try simp only [go_sem] at me1
  rcases ifB h with ⟨e2, h⟩ | ⟨e2, h⟩
  · have q := Blk.run h
    try simp only [go_sem] at q
    simp (implicitDefEqProofs := false) only [go_sem, d79_3, g79_4, rdp e1, me1, e2, Nat.reduceEqDiff, Nat.reduceAdd, Nat.reduceLeDiff, ↓reduceIte, reduceCtorEq, Nat.reduceBEq]
    exact q
  · have q := Blk.run h
    try simp only [go_sem] at q
    simp (implicitDefEqProofs := false) only [go_sem, d79_3, g79_4, rdp e1, me1, e2, Nat.reduceEqDiff, Nat.reduceAdd, Nat.reduceLeDiff, ↓reduceIte, reduceCtorEq, Nat.reduceBEq]
    exact q
theorem spec_placer_part_v_b3_of (x4 x5 : Int) (x15 : List Int) (x16 x18 x19 : Int) (x20 : List Int) (y0 : TPlacer) (y8 : TTree) (y14 y17 : TBox) {r : TBox × TPlacer} (h : ((spec_placer_down y0 y8.Kids x20 x15 (w64 (x4 + x18)) (w64 (x5 + x18)) x19).bind fun r9 =>
  spec_placer_part_v_b2 x15 x16 x18 r9.1 r9.2 y14 y17) = some r) : spec_placer_part_v_b3 x4 x5 x15 x16 x18 x19 x20 y0 y8 y14 y17 = some r := by
  refine Blk.of E15_inj ?_
  refine D_start (c' := d79_2) rfl ?_
  obtain ⟨r9, e1, h⟩ := bnd h
  have q := Blk.run h
  try simp only [go_sem] at q
  simp (implicitDefEqProofs := false) only [go_sem, d79_2, g79_3, spec_placer_down_run e1, Nat.reduceEqDiff, Nat.reduceAdd, Nat.reduceLeDiff, ↓reduceIte, reduceCtorEq, Nat.reduceBEq]
  exact q
theorem spec_placer_part_v_b4_of (x16 : Int) (y0 : TPlacer) (y14 y17 : TBox) {r : TBox × TPlacer} (h : ((rdx y0.out x16).bind fun _v10 =>
  some (y17, (⟨y0.rules, (y0.out.set x16.toNat y17)⟩ : TPlacer))) = some r) : spec_placer_part_v_b4 x16 y0 y14 y17 = some r := by
  refine Blk.of E15_inj ?_
  refine D_start (c' := d79_4) rfl ?_
  obtain ⟨v10, e1, h⟩ := bnd h
  cases h
  simp (implicitDefEqProofs := false) only [go_sem, d79_4, R79, E15, rdp e1, rdm eTBox e1, Nat.reduceEqDiff, Nat.reduceAdd, Nat.reduceLeDiff, ↓reduceIte, reduceCtorEq, Nat.reduceBEq]
theorem spec_placer_across_of (x0 : TPlacer) (x1 : List TTree) (x2 x3 : List Int) (x4 x5 x6 : Int) {r : Int × TPlacer} (h : ((spec_placer_wishes x0 x1 x2 x3 x6).bind fun r1 =>
  spec_placer_across_b1 x1 x2 x3 x4 x5 r1.1 0 0 r1.2) = some r) : spec_placer_across x0 x1 x2 x3 x4 x5 x6 = some r := by
  refine Fn.of L_eq E14_inj (fi := fi104) rfl rfl ?_
  simp only [fi104]
  obtain ⟨r1, e1, h⟩ := bnd h
  have q := Blk.run h
  try simp only [go_sem] at q
  simp (implicitDefEqProofs := false) only [go_sem, b104, k104_1, g104_1, spec_placer_wishes_run e1, Nat.reduceEqDiff, Nat.reduceAdd, ↓reduceIte, reduceCtorEq]
  exact q
theorem spec_placer_across_b1_of (x1 : List TTree) (x2 x3 : List Int) (x4 x5 : Int) (x15 : List Int) (x16 x17 : Int) (y0 : TPlacer) {r : Int × TPlacer} (h : (if decide (x17 < (x1.length : Int)) then ((rdx x1 x17).bind fun v2 =>
   (rdx x15 x17).bind fun v3 =>
   (spec_placer_part_v y0 v2 x2 x3 x4 x5 v3).bind fun r4 =>
   spec_placer_across_b1 x1 x2 x3 (w64 (x4 + v3)) x5 x15 (max x16 r4.1.High) (w64 (x17 + 1)) r4.2)
  else some (x16, y0)) = some r) : spec_placer_across_b1 x1 x2 x3 x4 x5 x15 x16 x17 y0 = some r := by
  refine Blk.of E14_inj ?_
  refine D_start (c' := d104_1) rfl ?_
  rcases ifB h with ⟨e1, h⟩ | ⟨e1, h⟩
  · obtain ⟨v2, e2, h⟩ := bnd h
    obtain ⟨v3, e3, h⟩ := bnd h
    obtain ⟨r4, e4, h⟩ := bnd h
    have q := Blk.run h
    try simp only [go_sem] at q
    simp (implicitDefEqProofs := false) only [go_sem, d104_1, k104_1, g104_1, e1, rdp e2, rdm (eTTree .sh) e2, rdm eI e3, spec_placer_part_v_run e4, Nat.reduceEqDiff, Nat.reduceAdd, Nat.reduceLeDiff, ↓reduceIte, reduceCtorEq]
    exact q
  · cases h
    simp (implicitDefEqProofs := false) only [go_sem, d104_1, k104_1, g104_1, R104, E14, e1, Nat.reduceEqDiff, Nat.reduceAdd, ↓reduceIte, reduceCtorEq]
theorem spec_placer_part_of (x0 : TPlacer) (x1 : TTree) (x2 x3 : List Int) (x4 x5 x6 : Int) {r : TBox × TPlacer} (h : ((spec_looksOf x0.rules x1 x2 x3).bind fun r1 =>
  if apOk 32 x0.out ([(⟨x4, x5, 0, 0⟩ : TBox)]) then (if decide (x1.Tag < 0) then ((spec_textBox (x1.Text.length : Int) x6).bind fun r2 =>
    (rdx (x0.out ++ ([(⟨x4, x5, 0, 0⟩ : TBox)])) (x0.out.length : Int)).bind fun _v3 =>
    some ((⟨x4, x5, r2.1, r2.2⟩ : TBox), (⟨x0.rules, ((x0.out ++ ([(⟨x4, x5, 0, 0⟩ : TBox)])).set (x0.out.length : Int).toNat (⟨x4, x5, r2.1, r2.2⟩ : TBox))⟩ : TPlacer)))
   else ((rdx r1 0).bind fun v4 =>
    if decide (0 < v4) then spec_placer_part_b1 x2 x4 x5 r1 (x0.out.length : Int) (⟨x0.rules, x0.out ++ ([(⟨x4, x5, 0, 0⟩ : TBox)])⟩ : TPlacer) x1 (⟨0, 0, 0, 0⟩ : TBox) (⟨x4, x5, min x6 v4, 0⟩ : TBox)
    else spec_placer_part_b1 x2 x4 x5 r1 (x0.out.length : Int) (⟨x0.rules, x0.out ++ ([(⟨x4, x5, 0, 0⟩ : TBox)])⟩ : TPlacer) x1 (⟨0, 0, 0, 0⟩ : TBox) (⟨x4, x5, x6, 0⟩ : TBox)))
  else none) = some r) : spec_placer_part x0 x1 x2 x3 x4 x5 x6 = some r := by
  refine Fn.of L_eq E15_inj (fi := fi79) rfl rfl ?_
  simp only [fi79]
  obtain ⟨r1, e1, h⟩ := bnd h
  obtain ⟨e2, h⟩ := ifP h
  have me2 := apL e2
  try simp only [go_sem, Nat.reduceAdd, Nat.reduceLeDiff] at me2
  rcases ifB h with ⟨e3, h⟩ | ⟨e3, h⟩
  · obtain ⟨r2, e4, h⟩ := bnd h
    obtain ⟨v3, e5, h⟩ := bnd h
    have me5 := rdm eTBox e5
    try simp only [go_sem] at me5
    cases h
    simp (implicitDefEqProofs := false) only [go_sem, b79, g79_1, R79, E15, spec_looksOf_run e1, me2, e3, spec_textBox_run e4, rdp e5, me5, Nat.reduceEqDiff, Nat.reduceAdd, Nat.reduceLeDiff, ↓reduceIte, reduceCtorEq, Nat.reduceBEq]
  · obtain ⟨v4, e6, h⟩ := bnd h
    have me6 := rdm eI e6
    try simp only [go_sem] at me6
    rcases ifB h with ⟨e7, h⟩ | ⟨e7, h⟩
    · have q := Blk.run h
      try simp only [go_sem] at q
      simp (implicitDefEqProofs := false) only [go_sem, b79, g79_1, spec_looksOf_run e1, me2, e3, rdp e6, me6, e7, Nat.reduceEqDiff, Nat.reduceAdd, Nat.reduceLeDiff, ↓reduceIte, reduceCtorEq, Nat.reduceBEq]
      exact q
    · have q := Blk.run h
      try simp only [go_sem] at q
      simp (implicitDefEqProofs := false) only [go_sem, b79, g79_1, spec_looksOf_run e1, me2, e3, rdp e6, me6, e7, Nat.reduceEqDiff, Nat.reduceAdd, Nat.reduceLeDiff, ↓reduceIte, reduceCtorEq, Nat.reduceBEq]
      exact q
theorem spec_placer_part_b1_of (x2 : List Int) (x4 x5 : Int) (x15 : List Int) (x16 : Int) (y0 : TPlacer) (y8 : TTree) (y14 y17 : TBox) {r : TBox × TPlacer} (h : ((rdx x15 2).bind fun v5 =>
  if apOk 8 ([] : (List Int)) x2 then (if apOk 8 x2 ([y8.Tag]) then ((rdx x15 3).bind fun v6 =>
    if decide (0 < v6) then ((spec_placer_across y0 y8.Kids (x2 ++ ([y8.Tag])) x15 (w64 (x4 + v5)) (w64 (x5 + v5)) (max 0 (w64 (y17.Wide - (w64 (2 * v5)))))).bind fun r7 =>
     spec_placer_part_b2 x15 x16 v5 r7.1 r7.2 y14 y17)
    else spec_placer_part_b3 x4 x5 x15 x16 v5 (max 0 (w64 (y17.Wide - (w64 (2 * v5))))) (x2 ++ ([y8.Tag])) y0 y8 y14 y17)
   else none)
  else none) = some r) : spec_placer_part_b1 x2 x4 x5 x15 x16 y0 y8 y14 y17 = some r := by
  refine Blk.of E15_inj ?_
  refine D_start (c' := d79_1) rfl ?_
  obtain ⟨v5, e1, h⟩ := bnd h
  have me1 := rdm eI e1
  try simp only [go_sem] at me1
  obtain ⟨e2, h⟩ := ifP h
  have me2 := apL e2
  try simp only [go_sem] at me2
  obtain ⟨e3, h⟩ := ifP h
  have me3 := apL e3
  try simp only [go_sem, Nat.reduceAdd, Nat.reduceLeDiff] at me3
  obtain ⟨v6, e4, h⟩ := bnd h
  have me4 := rdm eI e4
  try simp only [go_sem] at me4
  rcases ifB h with ⟨e5, h⟩ | ⟨e5, h⟩
  · obtain ⟨r7, e6, h⟩ := bnd h
    have me6 := spec_placer_across_run e6
    try simp only [go_sem] at me6
    have q := Blk.run h
    try simp only [go_sem] at q
    simp (implicitDefEqProofs := false) only [go_sem, d79_1, g79_2, g79_3, rdp e1, me1, me2, me3, rdp e4, me4, e5, me6, Nat.reduceEqDiff, Nat.reduceAdd, Nat.reduceLeDiff, ↓reduceIte, reduceCtorEq, Nat.reduceBEq]
    exact q
  · have q := Blk.run h
    try simp only [go_sem] at q
    simp (implicitDefEqProofs := false) only [go_sem, d79_1, g79_2, g79_3, rdp e1, me1, me2, me3, rdp e4, me4, e5, Nat.reduceEqDiff, Nat.reduceAdd, Nat.reduceLeDiff, ↓reduceIte, reduceCtorEq, Nat.reduceBEq]
    exact q
theorem spec_placer_part_b2_of (x15 : List Int) (x16 x18 x21 : Int) (y0 : TPlacer) (y14 y17 : TBox) {r : TBox × TPlacer} (h : ((rdx x15 1).bind fun v8 =>
  if decide (0 < v8) then spec_placer_part_b4 x16 y0 y14 (⟨y17.Left, y17.Top, y17.Wide, v8⟩ : TBox)
  else spec_placer_part_b4 x16 y0 y14 (⟨y17.Left, y17.Top, y17.Wide, w64 (x21 + (w64 (2 * x18)))⟩ : TBox)) = some r) : spec_placer_part_b2 x15 x16 x18 x21 y0 y14 y17 = some r := by
  refine Blk.of E15_inj ?_
  refine D_start (c' := d79_3) rfl ?_
  obtain ⟨v8, e1, h⟩ := bnd h
  have me1 := rdm eI e1
  try simp only [go_sem] at me1
  rcases ifB h with ⟨e2, h⟩ | ⟨e2, h⟩
  · have q := Blk.run h
    try simp only [go_sem] at q
    simp (implicitDefEqProofs := false) only [go_sem, d79_3, g79_4, rdp e1, me1, e2, Nat.reduceEqDiff, Nat.reduceAdd, Nat.reduceLeDiff, ↓reduceIte, reduceCtorEq, Nat.reduceBEq]
    exact q
  · have q := Blk.run h
    try simp only [go_sem] at q
    simp (implicitDefEqProofs := false) only [go_sem, d79_3, g79_4, rdp e1, me1, e2, Nat.reduceEqDiff, Nat.reduceAdd, Nat.reduceLeDiff, ↓reduceIte, reduceCtorEq, Nat.reduceBEq]
    exact q
theorem spec_placer_part_b3_of (x4 x5 : Int) (x15 : List Int) (x16 x18 x19 : Int) (x20 : List Int) (y0 : TPlacer) (y8 : TTree) (y14 y17 : TBox) {r : TBox × TPlacer} (h : ((spec_placer_down y0 y8.Kids x20 x15 (w64 (x4 + x18)) (w64 (x5 + x18)) x19).bind fun r9 =>
  spec_placer_part_b2 x15 x16 x18 r9.1 r9.2 y14 y17) = some r) : spec_placer_part_b3 x4 x5 x15 x16 x18 x19 x20 y0 y8 y14 y17 = some r := by
  refine Blk.of E15_inj ?_
  refine D_start (c' := d79_2) rfl ?_
  obtain ⟨r9, e1, h⟩ := bnd h
  have q := Blk.run h
  try simp only [go_sem] at q
  simp (implicitDefEqProofs := false) only [go_sem, d79_2, g79_3, spec_placer_down_run e1, Nat.reduceEqDiff, Nat.reduceAdd, Nat.reduceLeDiff, ↓reduceIte, reduceCtorEq, Nat.reduceBEq]
  exact q
theorem spec_placer_part_b4_of (x16 : Int) (y0 : TPlacer) (y14 y17 : TBox) {r : TBox × TPlacer} (h : ((rdx y0.out x16).bind fun _v10 =>
  some (y17, (⟨y0.rules, (y0.out.set x16.toNat y17)⟩ : TPlacer))) = some r) : spec_placer_part_b4 x16 y0 y14 y17 = some r := by
  refine Blk.of E15_inj ?_
  refine D_start (c' := d79_4) rfl ?_
  obtain ⟨v10, e1, h⟩ := bnd h
  cases h
  simp (implicitDefEqProofs := false) only [go_sem, d79_4, R79, E15, rdp e1, rdm eTBox e1, Nat.reduceEqDiff, Nat.reduceAdd, Nat.reduceLeDiff, ↓reduceIte, reduceCtorEq, Nat.reduceBEq]
theorem spec_boxes_of (x0 : TTree) (x1 : List TRule) (x2 : Int) {r : (List TBox)} (h : ((spec_placer_part (⟨x1, []⟩ : TPlacer) x0 [] ([0, 0, 0, 0, 0] : List Int) 0 0 x2).bind fun r1 =>
  some r1.2.out) = some r) : spec_boxes x0 x1 x2 = some r := by
  refine Fn.of L_eq E16_inj (fi := fi50) rfl rfl ?_
  simp only [fi50]
  obtain ⟨r1, e1, h⟩ := bnd h
  have me1 := spec_placer_part_run e1
  try simp only [go_sem] at me1
  cases h
  simp (implicitDefEqProofs := false) only [go_sem, b50, R50, E16, me1, Int.reduceMul, Nat.reduceEqDiff, Nat.reduceAdd, Nat.reduceLeDiff, Int.reduceLE, ↓reduceIte, reduceCtorEq]
theorem spec_meet_of (x0 x1 : TBox) {r : TBox} (h : (some (⟨max x0.Left x1.Left, max x0.Top x1.Top, max 0 (w64 ((min (w64 (x0.Left + x0.Wide)) (w64 (x1.Left + x1.Wide))) - (max x0.Left x1.Left))), max 0 (w64 ((min (w64 (x0.Top + x0.High)) (w64 (x1.Top + x1.High))) - (max x0.Top x1.Top)))⟩ : TBox)) = some r) : spec_meet x0 x1 = some r := by
  refine Fn.of L_eq E17_inj (fi := fi92) rfl rfl ?_
  simp only [fi92]
  cases h
  simp (implicitDefEqProofs := false) only [go_sem, b92, R92, E17, Nat.reduceEqDiff, Nat.reduceAdd, Nat.reduceLeDiff, ↓reduceIte, reduceCtorEq]
theorem spec_holds_of (x0 : TBox) (x1 x2 : Int) {r : Bool} (h : (if decide (x0.Left ≤ x1) then (if decide (x1 < (w64 (x0.Left + x0.Wide))) then (if decide (x0.Top ≤ x2) then some (decide (x2 < (w64 (x0.Top + x0.High))))
    else some false)
   else some false)
  else some false) = some r) : spec_holds x0 x1 x2 = some r := by
  refine Fn.of L_eq E9_inj (fi := fi113) rfl rfl ?_
  simp only [fi113]
  rcases ifB h with ⟨e1, h⟩ | ⟨e1, h⟩
  · rcases ifB h with ⟨e2, h⟩ | ⟨e2, h⟩
    · rcases ifB h with ⟨e3, h⟩ | ⟨e3, h⟩
      · cases h
        simp (implicitDefEqProofs := false) only [go_sem, b113, R113, E9, e1, e2, e3, Nat.reduceEqDiff, Nat.reduceAdd, Nat.reduceLeDiff, ↓reduceIte, reduceCtorEq]
      · cases h
        simp (implicitDefEqProofs := false) only [go_sem, b113, R113, E9, e1, e2, e3, Nat.reduceEqDiff, Nat.reduceAdd, Nat.reduceLeDiff, ↓reduceIte, reduceCtorEq]
    · cases h
      simp (implicitDefEqProofs := false) only [go_sem, b113, R113, E9, e1, e2, Nat.reduceEqDiff, Nat.reduceAdd, Nat.reduceLeDiff, ↓reduceIte, reduceCtorEq]
  · cases h
    simp (implicitDefEqProofs := false) only [go_sem, b113, R113, E9, e1, Nat.reduceEqDiff, Nat.reduceAdd, Nat.reduceLeDiff, ↓reduceIte, reduceCtorEq]
theorem spec_painter_cell_of (x0 : TPainter) (x1 : TBox) (x2 x3 x4 x5 : Int) {r : TPainter} (h : ((spec_holds x1 x2 x3).bind fun r1 =>
  if r1 then ((rdx x0.cells (w64 ((w64 (x3 * x0.wide)) + x2))).bind fun _v2 =>
   (rdx x0.owner (w64 ((w64 (x3 * x0.wide)) + x2))).bind fun _v3 =>
   some (⟨x0.rules, x0.boxes, x0.at_, x0.wide, x0.high, (x0.cells.set (w64 ((w64 (x3 * x0.wide)) + x2)).toNat x4), (x0.owner.set (w64 ((w64 (x3 * x0.wide)) + x2)).toNat x5)⟩ : TPainter))
  else some x0) = some r) : spec_painter_cell x0 x1 x2 x3 x4 x5 = some r := by
  refine Fn.of L_eq E18_inj (fi := fi93) rfl rfl ?_
  simp only [fi93]
  obtain ⟨r1, e1, h⟩ := bnd h
  rcases ifB h with ⟨e2, h⟩ | ⟨e2, h⟩
  · obtain ⟨v2, e3, h⟩ := bnd h
    obtain ⟨v3, e4, h⟩ := bnd h
    cases h
    simp (implicitDefEqProofs := false) only [go_sem, b93, R93, E18, spec_holds_run e1, e2, rdp e3, rdm eU8 e3, rdm eI e4, Nat.reduceEqDiff, Nat.reduceAdd, Nat.reduceLeDiff, ↓reduceIte, reduceCtorEq]
  · cases h
    simp (implicitDefEqProofs := false) only [go_sem, b93, R93, E18, spec_holds_run e1, e2, Nat.reduceEqDiff, Nat.reduceAdd, Nat.reduceLeDiff, ↓reduceIte, reduceCtorEq]
theorem spec_markOf_of (x0 : Int) {r : Int} (h : ((rdx ([46, 58, 45, 61, 43, 42, 35, 37, 64] : Str) (x0.tmod 9)).bind fun v1 =>
  some (v1.toNat : Int)) = some r) : spec_markOf x0 = some r := by
  refine Fn.of L_eq E19_inj (fi := fi94) rfl rfl ?_
  simp only [fi94]
  obtain ⟨v1, e1, h⟩ := bnd h
  cases h
  simp (implicitDefEqProofs := false) only [go_sem, b94, R94, E19, rdp e1, rds e1, Nat.reduceEqDiff, Nat.reduceAdd, Int.reduceEq, ↓reduceIte, reduceCtorEq]
end Go.Fw.Law
