/- What the functions come to. Conditions: none. -/
import Derived.Test.YtjldolmokfnkoaaGreatDoorLwD
namespace Go.Fw.Law
open Go Go.Fw
theorem spec_placer_across_of (x0 : TPlacer) (x1 : List TTree) (x2 x3 : List Int) (x4 x5 x6 : Int) {r : Int × TPlacer} (h : ((spec_placer_wishes x0 x1 x2 x3 x6).bind fun r1 =>
  spec_placer_across_b1 x1 x2 x3 x4 x5 r1.1 0 0 r1.2) = some r) : spec_placer_across x0 x1 x2 x3 x4 x5 x6 = some r := by
  refine Fn.of L_eq E14_inj (fi := fi104) rfl rfl ?_
  simp only [fi104]
  obtain ⟨r1, e1, h⟩ := bnd h
  have q := Blk.run h
  try simp only [go_sem] at q
  simp (implicitDefEqProofs := false) only [go_sem, b104, k104_1, g104_1, spec_placer_wishes_run e1, Nat.reduceEqDiff, Nat.reduceAdd, ↓reduceIte, reduceCtorEq]
  exact q
theorem spec_placer_across_b1_of (x1 : List TTree) (x2 x3 : List Int) (x4 x5 : Int) (x15 : List Int) (x16 x17 : Int) (y0 : TPlacer) {r : Int × TPlacer} (h : (if decide (x17 < (x1.length : Int)) then ((rdx x1 x17).bind fun v2 =>
   (rdx x15 x17).bind fun v3 =>
   (spec_placer_part_v y0 v2 x2 x3 x4 x5 v3).bind fun r4 =>
   spec_placer_across_b1 x1 x2 x3 (w64 (x4 + v3)) x5 x15 (max x16 r4.1.High) (w64 (x17 + 1)) r4.2)
  else some (x16, y0)) = some r) : spec_placer_across_b1 x1 x2 x3 x4 x5 x15 x16 x17 y0 = some r := by
  refine Blk.of E14_inj ?_
  refine D_start (c' := d104_1) rfl ?_
  rcases ifB h with ⟨e1, h⟩ | ⟨e1, h⟩
  · obtain ⟨v2, e2, h⟩ := bnd h
    obtain ⟨v3, e3, h⟩ := bnd h
    obtain ⟨r4, e4, h⟩ := bnd h
    have q := Blk.run h
    try simp only [go_sem] at q
    simp (implicitDefEqProofs := false) only [go_sem, d104_1, k104_1, g104_1, e1, rdp e2, rdm (eTTree .sh) e2, rdm eI e3, spec_placer_part_v_run e4, Nat.reduceEqDiff, Nat.reduceAdd, Nat.reduceLeDiff, ↓reduceIte, reduceCtorEq]
    exact q
  · cases h
    simp (implicitDefEqProofs := false) only [go_sem, d104_1, k104_1, g104_1, R104, E14, e1, Nat.reduceEqDiff, Nat.reduceAdd, ↓reduceIte, reduceCtorEq]
theorem spec_placer_part_of (x0 : TPlacer) (x1 : TTree) (x2 x3 : List Int) (x4 x5 x6 : Int) {r : TBox × TPlacer} (h : ((spec_looksOf x0.rules x1 x2 x3).bind fun r1 =>
  if apOk 32 x0.out ([(⟨x4, x5, 0, 0⟩ : TBox)]) then (if decide (x1.Tag < 0) then ((spec_textBox (x1.Text.length : Int) x6).bind fun r2 =>
    (rdx (x0.out ++ ([(⟨x4, x5, 0, 0⟩ : TBox)])) (x0.out.length : Int)).bind fun _v3 =>
    some ((⟨x4, x5, r2.1, r2.2⟩ : TBox), (⟨x0.rules, ((x0.out ++ ([(⟨x4, x5, 0, 0⟩ : TBox)])).set (x0.out.length : Int).toNat (⟨x4, x5, r2.1, r2.2⟩ : TBox))⟩ : TPlacer)))
   else ((rdx r1 0).bind fun v4 =>
    if decide (0 < v4) then spec_placer_part_b1 x2 x4 x5 r1 (x0.out.length : Int) (⟨x0.rules, x0.out ++ ([(⟨x4, x5, 0, 0⟩ : TBox)])⟩ : TPlacer) x1 (⟨0, 0, 0, 0⟩ : TBox) (⟨x4, x5, min x6 v4, 0⟩ : TBox)
    else spec_placer_part_b1 x2 x4 x5 r1 (x0.out.length : Int) (⟨x0.rules, x0.out ++ ([(⟨x4, x5, 0, 0⟩ : TBox)])⟩ : TPlacer) x1 (⟨0, 0, 0, 0⟩ : TBox) (⟨x4, x5, x6, 0⟩ : TBox)))
  else none) = some r) : spec_placer_part x0 x1 x2 x3 x4 x5 x6 = some r := by
  refine Fn.of L_eq E15_inj (fi := fi79) rfl rfl ?_
  simp only [fi79]
  obtain ⟨r1, e1, h⟩ := bnd h
  obtain ⟨e2, h⟩ := ifP h
  have me2 := apL e2
  try simp only [go_sem, Nat.reduceAdd, Nat.reduceLeDiff] at me2
  rcases ifB h with ⟨e3, h⟩ | ⟨e3, h⟩
  · obtain ⟨r2, e4, h⟩ := bnd h
    obtain ⟨v3, e5, h⟩ := bnd h
    have me5 := rdm eTBox e5
    try simp only [go_sem] at me5
    cases h
    simp (implicitDefEqProofs := false) only [go_sem, b79, g79_1, R79, E15, spec_looksOf_run e1, me2, e3, spec_textBox_run e4, rdp e5, me5, Nat.reduceEqDiff, Nat.reduceAdd, Nat.reduceLeDiff, ↓reduceIte, reduceCtorEq, Nat.reduceBEq]
  · obtain ⟨v4, e6, h⟩ := bnd h
    have me6 := rdm eI e6
    try simp only [go_sem] at me6
    rcases ifB h with ⟨e7, h⟩ | ⟨e7, h⟩
    · have q := Blk.run h
      try simp only [go_sem] at q
      simp (implicitDefEqProofs := false) only [go_sem, b79, g79_1, spec_looksOf_run e1, me2, e3, rdp e6, me6, e7, Nat.reduceEqDiff, Nat.reduceAdd, Nat.reduceLeDiff, ↓reduceIte, reduceCtorEq, Nat.reduceBEq]
      exact q
    · have q := Blk.run h
      try simp only [go_sem] at q
      simp (implicitDefEqProofs := false) only [go_sem, b79, g79_1, spec_looksOf_run e1, me2, e3, rdp e6, me6, e7, Nat.reduceEqDiff, Nat.reduceAdd, Nat.reduceLeDiff, ↓reduceIte, reduceCtorEq, Nat.reduceBEq]
      exact q
theorem spec_placer_part_b1_of (x2 : List Int) (x4 x5 : Int) (x15 : List Int) (x16 : Int) (y0 : TPlacer) (y8 : TTree) (y14 y17 : TBox) {r : TBox × TPlacer} (h : ((rdx x15 2).bind fun v5 =>
  if apOk 8 ([] : (List Int)) x2 then (if apOk 8 x2 ([y8.Tag]) then ((rdx x15 3).bind fun v6 =>
    if decide (0 < v6) then ((spec_placer_across y0 y8.Kids (x2 ++ ([y8.Tag])) x15 (w64 (x4 + v5)) (w64 (x5 + v5)) (max 0 (w64 (y17.Wide - (w64 (2 * v5)))))).bind fun r7 =>
     spec_placer_part_b2 x15 x16 v5 r7.1 r7.2 y14 y17)
    else spec_placer_part_b3 x4 x5 x15 x16 v5 (max 0 (w64 (y17.Wide - (w64 (2 * v5))))) (x2 ++ ([y8.Tag])) y0 y8 y14 y17)
   else none)
  else none) = some r) : spec_placer_part_b1 x2 x4 x5 x15 x16 y0 y8 y14 y17 = some r := by
  refine Blk.of E15_inj ?_
  refine D_start (c' := d79_1) rfl ?_
  obtain ⟨v5, e1, h⟩ := bnd h
  have me1 := rdm eI e1
  try simp only [go_sem] at me1
  obtain ⟨e2, h⟩ := ifP h
  have me2 := apL e2
  try simp only [go_sem] at me2
  obtain ⟨e3, h⟩ := ifP h
  have me3 := apL e3
  try simp only [go_sem, Nat.reduceAdd, Nat.reduceLeDiff] at me3
  obtain ⟨v6, e4, h⟩ := bnd h
  have me4 := rdm eI e4
  try simp only [go_sem] at me4
  rcases ifB h with ⟨e5, h⟩ | ⟨e5, h⟩
  · obtain ⟨r7, e6, h⟩ := bnd h
    have me6 := spec_placer_across_run e6
    try simp only [go_sem] at me6
    have q := Blk.run h
    try simp only [go_sem] at q
    simp (implicitDefEqProofs := false) only [go_sem, d79_1, g79_2, g79_3, rdp e1, me1, me2, me3, rdp e4, me4, e5, me6, Nat.reduceEqDiff, Nat.reduceAdd, Nat.reduceLeDiff, ↓reduceIte, reduceCtorEq, Nat.reduceBEq]
    exact q
  · have q := Blk.run h
    try simp only [go_sem] at q
    simp (implicitDefEqProofs := false) only [go_sem, d79_1, g79_2, g79_3, rdp e1, me1, me2, me3, rdp e4, me4, e5, Nat.reduceEqDiff, Nat.reduceAdd, Nat.reduceLeDiff, ↓reduceIte, reduceCtorEq, Nat.reduceBEq]
    exact q
theorem spec_placer_part_b2_of (x15 : List Int) (x16 x18 x21 : Int) (y0 : TPlacer) (y14 y17 : TBox) {r : TBox × TPlacer} (h : ((rdx x15 1).bind fun v8 =>
  if decide (0 < v8) then spec_placer_part_b4 x16 y0 y14 (⟨y17.Left, y17.Top, y17.Wide, v8⟩ : TBox)
  else spec_placer_part_b4 x16 y0 y14 (⟨y17.Left, y17.Top, y17.Wide, w64 (x21 + (w64 (2 * x18)))⟩ : TBox)) = some r) : spec_placer_part_b2 x15 x16 x18 x21 y0 y14 y17 = some r := by
  refine Blk.of E15_inj ?_
  refine D_start (c' := d79_3) rfl ?_
  obtain ⟨v8, e1, h⟩ := bnd h
  have me1 := rdm eI e1
  try simp only [go_sem] at me1
  rcases ifB h with ⟨e2, h⟩ | ⟨e2, h⟩
  · have q := Blk.run h
    try simp only [go_sem] at q
    simp (implicitDefEqProofs := false) only [go_sem, d79_3, g79_4, rdp e1, me1, e2, Nat.reduceEqDiff, Nat.reduceAdd, Nat.reduceLeDiff, ↓reduceIte, reduceCtorEq, Nat.reduceBEq]
    exact q
  · have q := Blk.run h
    try simp only [go_sem] at q
    simp (implicitDefEqProofs := false) only [go_sem, d79_3, g79_4, rdp e1, me1, e2, Nat.reduceEqDiff, Nat.reduceAdd, Nat.reduceLeDiff, ↓reduceIte, reduceCtorEq, Nat.reduceBEq]
    exact q
theorem spec_placer_part_b3_of (x4 x5 : Int) (x15 : List Int) (x16 x18 x19 : Int) (x20 : List Int) (y0 : TPlacer) (y8 : TTree) (y14 y17 : TBox) {r : TBox × TPlacer} (h : ((spec_placer_down y0 y8.Kids x20 x15 (w64 (x4 + x18)) (w64 (x5 + x18)) x19).bind fun r9 =>
  spec_placer_part_b2 x15 x16 x18 r9.1 r9.2 y14 y17) = some r) : spec_placer_part_b3 x4 x5 x15 x16 x18 x19 x20 y0 y8 y14 y17 = some r := by
  refine Blk.of E15_inj ?_
  refine D_start (c' := d79_2) rfl ?_
  obtain ⟨r9, e1, h⟩ := bnd h
  have q := Blk.run h
  try simp only [go_sem] at q
  simp (implicitDefEqProofs := false) only [go_sem, d79_2, g79_3, spec_placer_down_run e1, Nat.reduceEqDiff, Nat.reduceAdd, Nat.reduceLeDiff, ↓reduceIte, reduceCtorEq, Nat.reduceBEq]
  exact q
theorem spec_placer_part_b4_of (x16 : Int) (y0 : TPlacer) (y14 y17 : TBox) {r : TBox × TPlacer} (h : ((rdx y0.out x16).bind fun _v10 =>
  some (y17, (⟨y0.rules, (y0.out.set x16.toNat y17)⟩ : TPlacer))) = some r) : spec_placer_part_b4 x16 y0 y14 y17 = some r := by
  refine Blk.of E15_inj ?_
  refine D_start (c' := d79_4) rfl ?_
  obtain ⟨v10, e1, h⟩ := bnd h
  cases h
  simp (implicitDefEqProofs := false) only [go_sem, d79_4, R79, E15, rdp e1, rdm eTBox e1, Nat.reduceEqDiff, Nat.reduceAdd, Nat.reduceLeDiff, ↓reduceIte, reduceCtorEq, Nat.reduceBEq]
theorem spec_boxes_of (x0 : TTree) (x1 : List TRule) (x2 : Int) {r : (List TBox)} (h : ((spec_placer_part (⟨x1, []⟩ : TPlacer) x0 [] ([0, 0, 0, 0, 0] : List Int) 0 0 x2).bind fun r1 =>
  some r1.2.out) = some r) : spec_boxes x0 x1 x2 = some r := by
  refine Fn.of L_eq E16_inj (fi := fi50) rfl rfl ?_
  simp only [fi50]
  obtain ⟨r1, e1, h⟩ := bnd h
  have me1 := spec_placer_part_run e1
  try simp only [go_sem] at me1
  cases h
  simp (implicitDefEqProofs := false) only [go_sem, b50, R50, E16, me1, Int.reduceMul, Nat.reduceEqDiff, Nat.reduceAdd, Nat.reduceLeDiff, Int.reduceLE, ↓reduceIte, reduceCtorEq]
theorem spec_wayTo_of (x0 : TTree) (x1 x2 : Int) {r : (List Int) × Int} (h : (if decide (x2 = 0) then some ([], x1)
  else spec_wayTo_b1 (w64 (x1 + 1)) x2 0 x0) = some r) : spec_wayTo x0 x1 x2 = some r := by
  refine Fn.of L_eq E17_inj (fi := fi83) rfl rfl ?_
  simp only [fi83]
  rcases ifB h with ⟨e1, h⟩ | ⟨e1, h⟩
  · cases h
    simp (implicitDefEqProofs := false) only [go_sem, b83, k83_1, g83_1, R83, E17, e1, Nat.reduceEqDiff, Nat.reduceAdd, ↓reduceIte, reduceCtorEq, Nat.reduceBEq]
  · have q := Blk.run h
    try simp only [go_sem] at q
    simp (implicitDefEqProofs := false) only [go_sem, b83, k83_1, g83_1, e1, Nat.reduceEqDiff, Nat.reduceAdd, ↓reduceIte, reduceCtorEq]
    exact q
theorem spec_wayTo_b1_of (x1 x2 x8 : Int) (y3 : TTree) {r : (List Int) × Int} (h : (if decide (x8 < (y3.Kids.length : Int)) then ((rdx y3.Kids x8).bind fun v1 =>
   (spec_treeSize v1 1).bind fun r2 =>
   if decide (x1 ≤ x2) then (if decide (x2 < (w64 (x1 + r2))) then ((spec_wayTo v1 0 (w64 (x2 - x1))).bind fun r3 =>
     if apOk 8 ([x8]) r3.1 then some (([x8]) ++ r3.1, x1)
     else none)
    else spec_wayTo_b1 (w64 (x1 + r2)) x2 (w64 (x8 + 1)) y3)
   else spec_wayTo_b1 (w64 (x1 + r2)) x2 (w64 (x8 + 1)) y3)
  else some ([], x1)) = some r) : spec_wayTo_b1 x1 x2 x8 y3 = some r := by
  refine Blk.of E17_inj ?_
  refine D_start (c' := d83_1) rfl ?_
  rcases ifB h with ⟨e1, h⟩ | ⟨e1, h⟩
  · obtain ⟨v1, e2, h⟩ := bnd h
    obtain ⟨r2, e3, h⟩ := bnd h
    rcases ifB h with ⟨e4, h⟩ | ⟨e4, h⟩
    · rcases ifB h with ⟨e5, h⟩ | ⟨e5, h⟩
      · obtain ⟨r3, e6, h⟩ := bnd h
        obtain ⟨e7, h⟩ := ifP h
        have me7 := apL e7
        try simp only [go_sem, Nat.reduceAdd] at me7
        cases h
        simp (implicitDefEqProofs := false) only [go_sem, d83_1, k83_1, g83_1, R83, E17, e1, rdp e2, rdm (eTTree .sh) e2, spec_treeSize_run e3, e4, e5, spec_wayTo_run e6, me7, Nat.reduceEqDiff, Nat.reduceAdd, Nat.reduceLeDiff, ↓reduceIte, reduceCtorEq, Nat.reduceBEq]
      · have q := Blk.run h
        try simp only [go_sem] at q
        simp (implicitDefEqProofs := false) only [go_sem, d83_1, k83_1, g83_1, e1, rdp e2, rdm (eTTree .sh) e2, spec_treeSize_run e3, e4, e5, Nat.reduceEqDiff, Nat.reduceAdd, Nat.reduceLeDiff, ↓reduceIte, reduceCtorEq]
        exact q
    · have q := Blk.run h
      try simp only [go_sem] at q
      simp (implicitDefEqProofs := false) only [go_sem, d83_1, k83_1, g83_1, e1, rdp e2, rdm (eTTree .sh) e2, spec_treeSize_run e3, e4, Nat.reduceEqDiff, Nat.reduceAdd, Nat.reduceLeDiff, ↓reduceIte, reduceCtorEq]
      exact q
  · cases h
    simp (implicitDefEqProofs := false) only [go_sem, d83_1, k83_1, g83_1, R83, E17, e1, Nat.reduceEqDiff, Nat.reduceAdd, Nat.reduceLeDiff, ↓reduceIte, reduceCtorEq, Nat.reduceBEq]
theorem spec_partners_of (x0 x1 : List TTree) {r : (List Int)} (h : (if (0 ≤ (x0.length : Int) ∧ (x0.length : Int) * 1 ≤ 281474976710656 ∧ (x0.length : Int) ≤ 9223372036854775807) then spec_partners_b1 x0 x1 [] (List.replicate (x0.length : Int).toNat false) 0
  else none) = some r) : spec_partners x0 x1 = some r := by
  refine Fn.of L_eq E11_inj (fi := fi109) rfl rfl ?_
  simp only [fi109]
  obtain ⟨e1, h⟩ := ifP h
  have me1 := e1
  try simp only [go_sem, Int.reduceMul, Nat.reduceEqDiff, Nat.reduceAdd, Nat.reduceMul, Nat.reduceSub, Nat.reduceLeDiff, Int.reduceLE, Int.reduceLT, Int.reduceEq, ↓reduceIte, reduceCtorEq, Nat.beq_eq_true_eq, Nat.reduceBEq] at me1
  have q := Blk.run h
  try simp only [go_sem] at q
  simp (implicitDefEqProofs := false) only [go_sem, b109, k109_1, g109_1, e1, Nat.reduceEqDiff, Nat.reduceAdd, ↓reduceIte, reduceCtorEq]
  exact q
theorem spec_partners_b1_of (x0 x1 : List TTree) (x5 : List Int) (x6 : List Bool) (x7 : Int) {r : (List Int)} (h : (if decide (x7 < (x1.length : Int)) then spec_partners_b2 x0 x1 x5 x6 x7 (-1) 0
  else some x5) = some r) : spec_partners_b1 x0 x1 x5 x6 x7 = some r := by
  refine Blk.of E11_inj ?_
  refine D_start (c' := d109_1) rfl ?_
  rcases ifB h with ⟨e1, h⟩ | ⟨e1, h⟩
  · have q := Blk.run h
    try simp only [go_sem] at q
    simp (implicitDefEqProofs := false) only [go_sem, d109_1, k109_1, k109_2, g109_1, g109_2, g109_3, e1, Nat.reduceEqDiff, Nat.reduceAdd, ↓reduceIte, reduceCtorEq]
    exact q
  · cases h
    simp (implicitDefEqProofs := false) only [go_sem, d109_1, k109_1, k109_2, g109_1, g109_2, g109_3, R109, E11, e1, Nat.reduceEqDiff, Nat.reduceAdd, ↓reduceIte, reduceCtorEq]
theorem spec_partners_b2_of (x0 x1 : List TTree) (x5 : List Int) (x6 : List Bool) (x7 x8 x9 : Int) {r : (List Int)} (h : (if decide (x9 < (x0.length : Int)) then (if decide (x8 < 0) then ((rdx x6 x9).bind fun v1 =>
    if !v1 then ((rdx x0 x9).bind fun v2 =>
     (rdx x1 x7).bind fun v3 =>
     if decide (v2.Tag = v3.Tag) then (if decide (v2.Key = v3.Key) then spec_partners_b2 x0 x1 x5 x6 x7 x9 (w64 (x9 + 1))
      else spec_partners_b2 x0 x1 x5 x6 x7 x8 (w64 (x9 + 1)))
     else spec_partners_b2 x0 x1 x5 x6 x7 x8 (w64 (x9 + 1)))
    else spec_partners_b2 x0 x1 x5 x6 x7 x8 (w64 (x9 + 1)))
   else spec_partners_b3 x0 x1 x5 x6 x7 x8)
  else spec_partners_b3 x0 x1 x5 x6 x7 x8) = some r) : spec_partners_b2 x0 x1 x5 x6 x7 x8 x9 = some r := by
  refine Blk.of E11_inj ?_
  refine D_start (c' := d109_2) rfl ?_
  rcases ifB h with ⟨e1, h⟩ | ⟨e1, h⟩
  · rcases ifB h with ⟨e2, h⟩ | ⟨e2, h⟩
    · obtain ⟨v1, e3, h⟩ := bnd h
      rcases ifB h with ⟨e4, h⟩ | ⟨e4, h⟩
      · obtain ⟨v2, e5, h⟩ := bnd h
        obtain ⟨v3, e6, h⟩ := bnd h
        rcases ifB h with ⟨e7, h⟩ | ⟨e7, h⟩
        · rcases ifB h with ⟨e8, h⟩ | ⟨e8, h⟩
          · have q := Blk.run h
            try simp only [go_sem] at q
            simp (implicitDefEqProofs := false) only [go_sem, d109_2, k109_1, k109_2, g109_1, g109_2, g109_3, e1, e2, rdp e3, rdm eB e3, e4, rdm (eTTree .sh) e5, rdp e6, rdm (eTTree .sh) e6, e7, e8, Nat.reduceEqDiff, Nat.reduceAdd, Nat.reduceLeDiff, ↓reduceIte, reduceCtorEq]
            exact q
          · have q := Blk.run h
            try simp only [go_sem] at q
            simp (implicitDefEqProofs := false) only [go_sem, d109_2, k109_1, k109_2, g109_1, g109_2, g109_3, e1, e2, rdp e3, rdm eB e3, e4, rdm (eTTree .sh) e5, rdp e6, rdm (eTTree .sh) e6, e7, e8, Nat.reduceEqDiff, Nat.reduceAdd, Nat.reduceLeDiff, ↓reduceIte, reduceCtorEq]
            exact q
        · have q := Blk.run h
          try simp only [go_sem] at q
          simp (implicitDefEqProofs := false) only [go_sem, d109_2, k109_1, k109_2, g109_1, g109_2, g109_3, e1, e2, rdp e3, rdm eB e3, e4, rdm (eTTree .sh) e5, rdp e6, rdm (eTTree .sh) e6, e7, Nat.reduceEqDiff, Nat.reduceAdd, Nat.reduceLeDiff, ↓reduceIte, reduceCtorEq]
          exact q
      · have q := Blk.run h
        try simp only [go_sem] at q
        simp (implicitDefEqProofs := false) only [go_sem, d109_2, k109_1, k109_2, g109_1, g109_2, g109_3, e1, e2, rdp e3, rdm eB e3, e4, Nat.reduceEqDiff, Nat.reduceAdd, Nat.reduceLeDiff, ↓reduceIte, reduceCtorEq]
        exact q
    · have q := Blk.run h
      try simp only [go_sem] at q
      simp (implicitDefEqProofs := false) only [go_sem, d109_2, k109_1, k109_2, g109_1, g109_2, g109_3, e1, e2, Nat.reduceEqDiff, Nat.reduceAdd, ↓reduceIte, reduceCtorEq]
      exact q
  · have q := Blk.run h
    try simp only [go_sem] at q
    simp (implicitDefEqProofs := false) only [go_sem, d109_2, k109_1, k109_2, g109_1, g109_2, g109_3, e1, Nat.reduceEqDiff, Nat.reduceAdd, ↓reduceIte, reduceCtorEq]
    exact q
theorem spec_partners_b3_of (x0 x1 : List TTree) (x5 : List Int) (x6 : List Bool) (x7 x8 : Int) {r : (List Int)} (h : (if decide (0 ≤ x8) then ((rdx x6 x8).bind fun _v4 =>
   if apOk 8 x5 ([x8]) then spec_partners_b1 x0 x1 (x5 ++ ([x8])) (x6.set x8.toNat true) (w64 (x7 + 1))
   else none)
  else (if apOk 8 x5 ([x8]) then spec_partners_b1 x0 x1 (x5 ++ ([x8])) x6 (w64 (x7 + 1))
   else none)) = some r) : spec_partners_b3 x0 x1 x5 x6 x7 x8 = some r := by
  refine Blk.of E11_inj ?_
  refine D_start (c' := d109_3) rfl ?_
  rcases ifB h with ⟨e1, h⟩ | ⟨e1, h⟩
  · obtain ⟨v4, e2, h⟩ := bnd h
    obtain ⟨e3, h⟩ := ifP h
    have me3 := apL e3
    try simp only [go_sem, Nat.reduceAdd, Nat.reduceLeDiff] at me3
    have q := Blk.run h
    try simp only [go_sem] at q
    simp (implicitDefEqProofs := false) only [go_sem, d109_3, k109_1, k109_2, g109_1, rdp e2, rdm eB e2, me3, Nat.reduceEqDiff, Nat.reduceAdd, Nat.reduceLeDiff, ↓reduceIte, reduceCtorEq]
    exact q
  · obtain ⟨e4, h⟩ := ifP h
    have me4 := apL e4
    try simp only [go_sem, Nat.reduceAdd, Nat.reduceLeDiff] at me4
    have q := Blk.run h
    try simp only [go_sem] at q
    simp (implicitDefEqProofs := false) only [go_sem, d109_3, k109_1, k109_2, g109_1, e1, me4, Nat.reduceEqDiff, Nat.reduceAdd, Nat.reduceLeDiff, ↓reduceIte, reduceCtorEq]
    exact q
theorem spec_indexOf_of (x0 : List Int) (x1 : Int) {r : Int} (h : (spec_indexOf_b1 x0 x1 0) = some r) : spec_indexOf x0 x1 = some r := by
  refine Fn.of L_eq E1_inj (fi := fi108) rfl rfl ?_
  simp only [fi108]
  have q := Blk.run h
  try simp only [go_sem] at q
  simp (implicitDefEqProofs := false) only [go_sem, b108, k108_1, g108_1, Nat.reduceEqDiff, Nat.reduceAdd, ↓reduceIte, reduceCtorEq]
  exact q
theorem spec_indexOf_b1_of (x0 : List Int) (x1 x5 : Int) {r : Int} (h : (if decide (x5 < (x0.length : Int)) then ((rdx x0 x5).bind fun v1 =>
   if decide (v1 = x1) then some x5
   else spec_indexOf_b1 x0 x1 (w64 (x5 + 1)))
  else some (-1)) = some r) : spec_indexOf_b1 x0 x1 x5 = some r := by
  refine Blk.of E1_inj ?_
  refine D_start (c' := d108_1) rfl ?_
  rcases ifB h with ⟨e1, h⟩ | ⟨e1, h⟩
  · obtain ⟨v1, e2, h⟩ := bnd h
    rcases ifB h with ⟨e3, h⟩ | ⟨e3, h⟩
    · cases h
      simp (implicitDefEqProofs := false) only [go_sem, d108_1, k108_1, g108_1, R108, E1, e1, rdp e2, rdm eI e2, e3, Nat.reduceEqDiff, Nat.reduceAdd, Nat.reduceLeDiff, ↓reduceIte, reduceCtorEq]
    · have q := Blk.run h
      try simp only [go_sem] at q
      simp (implicitDefEqProofs := false) only [go_sem, d108_1, k108_1, g108_1, e1, rdp e2, rdm eI e2, e3, Nat.reduceEqDiff, Nat.reduceAdd, Nat.reduceLeDiff, ↓reduceIte, reduceCtorEq]
      exact q
  · cases h
    simp (implicitDefEqProofs := false) only [go_sem, d108_1, k108_1, g108_1, R108, E1, e1, Nat.reduceEqDiff, Nat.reduceAdd, ↓reduceIte, reduceCtorEq]
theorem spec_wayAfter_of (x0 x1 : TTree) (x2 : List Int) {r : (List Int) × Bool} (h : (if !(decide (x0.Tag = x1.Tag)) then some ([], false)
  else (if !(decide (x0.Key = x1.Key)) then some ([], false)
   else spec_wayAfter_b1 x2 [] 0 x0 x1)) = some r) : spec_wayAfter x0 x1 x2 = some r := by
  refine Fn.of L_eq E18_inj (fi := fi84) rfl rfl ?_
  simp only [fi84]
  rcases ifB h with ⟨e1, h⟩ | ⟨e1, h⟩
  · cases h
    simp (implicitDefEqProofs := false) only [go_sem, b84, k84_1, g84_1, R84, E18, e1, Nat.reduceEqDiff, Nat.reduceAdd, Nat.reduceLeDiff, ↓reduceIte, reduceCtorEq, Nat.reduceBEq]
  · rcases ifB h with ⟨e2, h⟩ | ⟨e2, h⟩
    · cases h
      simp (implicitDefEqProofs := false) only [go_sem, b84, k84_1, g84_1, R84, E18, e1, e2, Nat.reduceEqDiff, Nat.reduceAdd, Nat.reduceLeDiff, ↓reduceIte, reduceCtorEq, Nat.reduceBEq]
    · have q := Blk.run h
      try simp only [go_sem] at q
      simp (implicitDefEqProofs := false) only [go_sem, b84, k84_1, g84_1, e1, e2, Nat.reduceEqDiff, Nat.reduceAdd, Nat.reduceLeDiff, ↓reduceIte, reduceCtorEq, Nat.reduceBEq]
      exact q
theorem spec_wayAfter_b1_of (x2 x8 : List Int) (x9 : Int) (y3 y4 : TTree) {r : (List Int) × Bool} (h : (if decide (x9 < (x2.length : Int)) then ((spec_partners y3.Kids y4.Kids).bind fun r1 =>
   (rdx x2 x9).bind fun v2 =>
   (spec_indexOf r1 v2).bind fun r3 =>
   if decide (r3 < 0) then some ([], false)
   else (if apOk 8 x8 ([r3]) then ((rdx y3.Kids v2).bind fun v4 =>
     (rdx y4.Kids r3).bind fun v5 =>
     spec_wayAfter_b1 x2 (x8 ++ ([r3])) (w64 (x9 + 1)) v4 v5)
    else none))
  else some (x8, true)) = some r) : spec_wayAfter_b1 x2 x8 x9 y3 y4 = some r := by
  refine Blk.of E18_inj ?_
  refine D_start (c' := d84_1) rfl ?_
  rcases ifB h with ⟨e1, h⟩ | ⟨e1, h⟩
  · obtain ⟨r1, e2, h⟩ := bnd h
    obtain ⟨v2, e3, h⟩ := bnd h
    obtain ⟨r3, e4, h⟩ := bnd h
    rcases ifB h with ⟨e5, h⟩ | ⟨e5, h⟩
    · cases h
      simp (implicitDefEqProofs := false) only [go_sem, d84_1, k84_1, g84_1, R84, E18, e1, spec_partners_run e2, rdp e3, rdm eI e3, spec_indexOf_run e4, e5, Nat.reduceEqDiff, Nat.reduceAdd, Nat.reduceLeDiff, ↓reduceIte, reduceCtorEq, Nat.reduceBEq]
    · obtain ⟨e6, h⟩ := ifP h
      have me6 := apL e6
      try simp only [go_sem, Nat.reduceAdd, Nat.reduceLeDiff] at me6
      obtain ⟨v4, e7, h⟩ := bnd h
      obtain ⟨v5, e8, h⟩ := bnd h
      have q := Blk.run h
      try simp only [go_sem] at q
      simp (implicitDefEqProofs := false) only [go_sem, d84_1, k84_1, g84_1, e1, spec_partners_run e2, rdp e3, rdm eI e3, spec_indexOf_run e4, e5, me6, rdp e7, rdm (eTTree .sh) e7, rdp e8, rdm (eTTree .sh) e8, Nat.reduceEqDiff, Nat.reduceAdd, Nat.reduceLeDiff, ↓reduceIte, reduceCtorEq, Nat.reduceBEq]
      exact q
  · cases h
    simp (implicitDefEqProofs := false) only [go_sem, d84_1, k84_1, g84_1, R84, E18, e1, Nat.reduceEqDiff, Nat.reduceAdd, ↓reduceIte, reduceCtorEq, Nat.reduceBEq]
end Go.Fw.Law
