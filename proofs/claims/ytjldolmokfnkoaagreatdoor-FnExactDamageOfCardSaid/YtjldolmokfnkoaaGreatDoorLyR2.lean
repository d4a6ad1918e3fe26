/- What the functions come to. Conditions: none. -/
import Derived.Test.YtjldolmokfnkoaaGreatDoorLyD
namespace Go.Fw.Law
open Go Go.Fw
theorem spec_hasInt_of (x0 : List Int) (x1 : Int) {r : Bool} (h : (spec_hasInt_b1 x0 x1 0) = some r) : spec_hasInt x0 x1 = some r := by
  refine Fn.of L_eq E9_inj (fi := fi125) rfl rfl ?_
  simp only [fi125]
  have q := Blk.run h
  try simp only [go_sem] at q
  simp (implicitDefEqProofs := false) only [go_sem, b125, k125_1, g125_1, Nat.reduceEqDiff, Nat.reduceAdd, ↓reduceIte, reduceCtorEq]
  exact q
theorem spec_hasInt_b1_of (x0 : List Int) (x1 x5 : Int) {r : Bool} (h : (if decide (x5 < (x0.length : Int)) then ((rdx x0 x5).bind fun v1 =>
   if decide (v1 = x1) then some true
   else spec_hasInt_b1 x0 x1 (w64 (x5 + 1)))
  else some false) = some r) : spec_hasInt_b1 x0 x1 x5 = some r := by
  refine Blk.of E9_inj ?_
  refine D_start (c' := d125_1) rfl ?_
  rcases ifB h with ⟨e1, h⟩ | ⟨e1, h⟩
  · obtain ⟨v1, e2, h⟩ := bnd h
    rcases ifB h with ⟨e3, h⟩ | ⟨e3, h⟩
    · cases h
      simp (implicitDefEqProofs := false) only [go_sem, d125_1, k125_1, g125_1, R125, E9, e1, rdp e2, rdm eI e2, e3, Nat.reduceEqDiff, Nat.reduceAdd, Nat.reduceLeDiff, ↓reduceIte, reduceCtorEq]
    · have q := Blk.run h
      try simp only [go_sem] at q
      simp (implicitDefEqProofs := false) only [go_sem, d125_1, k125_1, g125_1, e1, rdp e2, rdm eI e2, e3, Nat.reduceEqDiff, Nat.reduceAdd, Nat.reduceLeDiff, ↓reduceIte, reduceCtorEq]
      exact q
  · cases h
    simp (implicitDefEqProofs := false) only [go_sem, d125_1, k125_1, g125_1, R125, E9, e1, Nat.reduceEqDiff, Nat.reduceAdd, ↓reduceIte, reduceCtorEq]
theorem spec_propAt_of (x0 : List TProp) (x1 : Int) {r : Int} (h : (spec_propAt_b1 x0 x1 0) = some r) : spec_propAt x0 x1 = some r := by
  refine Fn.of L_eq E1_inj (fi := fi126) rfl rfl ?_
  simp only [fi126]
  have q := Blk.run h
  try simp only [go_sem] at q
  simp (implicitDefEqProofs := false) only [go_sem, b126, k126_1, g126_1, Nat.reduceEqDiff, Nat.reduceAdd, ↓reduceIte, reduceCtorEq]
  exact q
theorem spec_propAt_b1_of (x0 : List TProp) (x1 x5 : Int) {r : Int} (h : (if decide (x5 < (x0.length : Int)) then ((rdx x0 x5).bind fun v1 =>
   if decide (v1.Name = x1) then some x5
   else spec_propAt_b1 x0 x1 (w64 (x5 + 1)))
  else some (-1)) = some r) : spec_propAt_b1 x0 x1 x5 = some r := by
  refine Blk.of E1_inj ?_
  refine D_start (c' := d126_1) rfl ?_
  rcases ifB h with ⟨e1, h⟩ | ⟨e1, h⟩
  · obtain ⟨v1, e2, h⟩ := bnd h
    rcases ifB h with ⟨e3, h⟩ | ⟨e3, h⟩
    · cases h
      simp (implicitDefEqProofs := false) only [go_sem, d126_1, k126_1, g126_1, R126, E1, e1, rdp e2, rdm eTProp e2, e3, Nat.reduceEqDiff, Nat.reduceAdd, Nat.reduceLeDiff, ↓reduceIte, reduceCtorEq]
    · have q := Blk.run h
      try simp only [go_sem] at q
      simp (implicitDefEqProofs := false) only [go_sem, d126_1, k126_1, g126_1, e1, rdp e2, rdm eTProp e2, e3, Nat.reduceEqDiff, Nat.reduceAdd, Nat.reduceLeDiff, ↓reduceIte, reduceCtorEq]
      exact q
  · cases h
    simp (implicitDefEqProofs := false) only [go_sem, d126_1, k126_1, g126_1, R126, E1, e1, Nat.reduceEqDiff, Nat.reduceAdd, ↓reduceIte, reduceCtorEq]
theorem spec_meets_of (x0 : TRule) (x1 : TTree) (x2 : List Int) {r : Bool} (h : (if !(decide (x0.Tag = (-1))) then (if !(decide (x0.Tag = x1.Tag)) then some false
   else (if !(decide (x0.Above = (-1))) then ((spec_hasInt x2 x0.Above).bind fun r1 =>
     if !r1 then some false
     else spec_meets_b1 x0 x1)
    else spec_meets_b1 x0 x1))
  else (if !(decide (x0.Above = (-1))) then ((spec_hasInt x2 x0.Above).bind fun r2 =>
    if !r2 then some false
    else spec_meets_b1 x0 x1)
   else spec_meets_b1 x0 x1)) = some r) : spec_meets x0 x1 x2 = some r := by
  refine Fn.of L_eq E9_inj (fi := fi119) rfl rfl ?_
  simp only [fi119]
  rcases ifB h with ⟨e1, h⟩ | ⟨e1, h⟩
  · rcases ifB h with ⟨e2, h⟩ | ⟨e2, h⟩
    · cases h
      simp (implicitDefEqProofs := false) only [go_sem, b119, g119_1, R119, E9, e1, e2, Nat.reduceEqDiff, Nat.reduceAdd, Nat.reduceLeDiff, ↓reduceIte, reduceCtorEq]
    · rcases ifB h with ⟨e3, h⟩ | ⟨e3, h⟩
      · obtain ⟨r1, e4, h⟩ := bnd h
        rcases ifB h with ⟨e5, h⟩ | ⟨e5, h⟩
        · cases h
          simp (implicitDefEqProofs := false) only [go_sem, b119, g119_1, R119, E9, e1, e2, e3, spec_hasInt_run e4, e5, Nat.reduceEqDiff, Nat.reduceAdd, Nat.reduceLeDiff, ↓reduceIte, reduceCtorEq]
        · have q := Blk.run h
          try simp only [go_sem] at q
          simp (implicitDefEqProofs := false) only [go_sem, b119, g119_1, e1, e2, e3, spec_hasInt_run e4, e5, Nat.reduceEqDiff, Nat.reduceAdd, Nat.reduceLeDiff, ↓reduceIte, reduceCtorEq, Nat.reduceBEq]
          exact q
      · have q := Blk.run h
        try simp only [go_sem] at q
        simp (implicitDefEqProofs := false) only [go_sem, b119, g119_1, e1, e2, e3, Nat.reduceEqDiff, Nat.reduceAdd, Nat.reduceLeDiff, ↓reduceIte, reduceCtorEq, Nat.reduceBEq]
        exact q
  · rcases ifB h with ⟨e6, h⟩ | ⟨e6, h⟩
    · obtain ⟨r2, e7, h⟩ := bnd h
      rcases ifB h with ⟨e8, h⟩ | ⟨e8, h⟩
      · cases h
        simp (implicitDefEqProofs := false) only [go_sem, b119, g119_1, R119, E9, e1, e6, spec_hasInt_run e7, e8, Nat.reduceEqDiff, Nat.reduceAdd, Nat.reduceLeDiff, ↓reduceIte, reduceCtorEq]
      · have q := Blk.run h
        try simp only [go_sem] at q
        simp (implicitDefEqProofs := false) only [go_sem, b119, g119_1, e1, e6, spec_hasInt_run e7, e8, Nat.reduceEqDiff, Nat.reduceAdd, Nat.reduceLeDiff, ↓reduceIte, reduceCtorEq, Nat.reduceBEq]
        exact q
    · have q := Blk.run h
      try simp only [go_sem] at q
      simp (implicitDefEqProofs := false) only [go_sem, b119, g119_1, e1, e6, Nat.reduceEqDiff, Nat.reduceAdd, Nat.reduceLeDiff, ↓reduceIte, reduceCtorEq, Nat.reduceBEq]
      exact q
theorem spec_meets_b1_of (y3 : TRule) (y4 : TTree) {r : Bool} (h : (if decide (y3.Name = (-1)) then some true
  else ((spec_propAt y4.Props y3.Name).bind fun r3 =>
   if decide (0 ≤ r3) then ((rdx y4.Props r3).bind fun v4 =>
    some (decide (v4.Val.Kind = y3.Val.Kind) && (decide (v4.Val.Num = y3.Val.Num) && decide (v4.Val.Text = y3.Val.Text))))
   else some false)) = some r) : spec_meets_b1 y3 y4 = some r := by
  refine Blk.of E9_inj ?_
  refine D_start (c' := d119_1) rfl ?_
  rcases ifB h with ⟨e1, h⟩ | ⟨e1, h⟩
  · cases h
    simp (implicitDefEqProofs := false) only [go_sem, d119_1, R119, E9, e1, Nat.reduceEqDiff, Nat.reduceAdd, Nat.reduceLeDiff, ↓reduceIte]
  · obtain ⟨r3, e2, h⟩ := bnd h
    rcases ifB h with ⟨e3, h⟩ | ⟨e3, h⟩
    · obtain ⟨v4, e4, h⟩ := bnd h
      cases h
      simp (implicitDefEqProofs := false) only [go_sem, d119_1, R119, E9, e1, spec_propAt_run e2, rdp e4, rdm eTProp e4, Nat.reduceEqDiff, Nat.reduceAdd, Nat.reduceLeDiff, ↓reduceIte, reduceCtorEq]
    · cases h
      simp (implicitDefEqProofs := false) only [go_sem, d119_1, R119, E9, e1, spec_propAt_run e2, e3, Nat.reduceEqDiff, Nat.reduceAdd, Nat.reduceLeDiff, ↓reduceIte]
theorem spec_weight_of (x0 : TRule) {r : Int} (h : (if !(decide (x0.Tag = (-1))) then spec_weight_b1 (w64 (0 + 1)) x0
  else spec_weight_b1 0 x0) = some r) : spec_weight x0 = some r := by
  refine Fn.of L_eq E1_inj (fi := fi120) rfl rfl ?_
  simp only [fi120]
  rcases ifB h with ⟨e1, h⟩ | ⟨e1, h⟩
  · have q := Blk.run h
    try simp only [go_sem] at q
    simp (implicitDefEqProofs := false) only [go_sem, b120, g120_1, e1, Nat.reduceEqDiff, Nat.reduceAdd, Nat.reduceLeDiff, ↓reduceIte, reduceCtorEq]
    exact q
  · have q := Blk.run h
    try simp only [go_sem] at q
    simp (implicitDefEqProofs := false) only [go_sem, b120, g120_1, e1, Nat.reduceEqDiff, Nat.reduceAdd, Nat.reduceLeDiff, ↓reduceIte, reduceCtorEq]
    exact q
theorem spec_weight_b1_of (x3 : Int) (y1 : TRule) {r : Int} (h : (if !(decide (y1.Above = (-1))) then (if !(decide (y1.Name = (-1))) then some (w64 ((w64 (x3 + 1)) + 10))
   else some (w64 (x3 + 1)))
  else (if !(decide (y1.Name = (-1))) then some (w64 (x3 + 10))
   else some x3)) = some r) : spec_weight_b1 x3 y1 = some r := by
  refine Blk.of E1_inj ?_
  refine D_start (c' := d120_1) rfl ?_
  rcases ifB h with ⟨e1, h⟩ | ⟨e1, h⟩
  · rcases ifB h with ⟨e2, h⟩ | ⟨e2, h⟩
    · cases h
      simp (implicitDefEqProofs := false) only [go_sem, d120_1, R120, E1, e1, e2, Nat.reduceEqDiff, Nat.reduceAdd, Nat.reduceLeDiff, ↓reduceIte]
    · cases h
      simp (implicitDefEqProofs := false) only [go_sem, d120_1, R120, E1, e1, e2, Nat.reduceEqDiff, Nat.reduceAdd, Nat.reduceLeDiff, ↓reduceIte]
  · rcases ifB h with ⟨e3, h⟩ | ⟨e3, h⟩
    · cases h
      simp (implicitDefEqProofs := false) only [go_sem, d120_1, R120, E1, e1, e3, Nat.reduceEqDiff, Nat.reduceAdd, Nat.reduceLeDiff, ↓reduceIte]
    · cases h
      simp (implicitDefEqProofs := false) only [go_sem, d120_1, R120, E1, e1, e3, Nat.reduceEqDiff, Nat.reduceAdd, Nat.reduceLeDiff, ↓reduceIte]
theorem spec_looks_of (x0 : List TRule) (x1 : TTree) (x2 x3 : List Int) {r : (List Int)} (h : ((rdx x3 4).bind fun v1 =>
  spec_looks_b1 x0 x2 ([0, 0, 0, 0, v1] : List Int) ([0, 0, 0, 0, 0] : List Int) 0 x1) = some r) : spec_looks x0 x1 x2 x3 = some r := by
  refine Fn.of L_eq E11_inj (fi := fi112) rfl rfl ?_
  simp only [fi112]
  obtain ⟨v1, e1, h⟩ := bnd h
  have me1 := rdm eI e1
  try simp only [go_sem] at me1
  have q := Blk.run h
  try simp only [go_sem] at q
  simp (implicitDefEqProofs := false) only [go_sem, b112, k112_1, g112_1, rdp e1, me1, Int.reduceMul, Nat.reduceEqDiff, Nat.reduceAdd, Nat.reduceLeDiff, Int.reduceLE, ↓reduceIte, reduceCtorEq]
  exact q
theorem spec_looks_b1_of (x0 : List TRule) (x2 x9 x10 : List Int) (x11 : Int) (y5 : TTree) {r : (List Int)} (h : (if decide (x11 < (x0.length : Int)) then ((rdx x0 x11).bind fun v2 =>
   (spec_meets v2 y5 x2).bind fun r3 =>
   if r3 then ((spec_weight v2).bind fun r4 =>
    (rdx x10 v2.Look).bind fun v5 =>
    if decide (v5 ≤ (w64 (r4 + 1))) then ((rdx x9 v2.Look).bind fun _v6 =>
     spec_looks_b1 x0 x2 (x9.set v2.Look.toNat v2.Give) (x10.set v2.Look.toNat (w64 (r4 + 1))) (w64 (x11 + 1)) y5)
    else spec_looks_b1 x0 x2 x9 x10 (w64 (x11 + 1)) y5)
   else spec_looks_b1 x0 x2 x9 x10 (w64 (x11 + 1)) y5)
  else some x9) = some r) : spec_looks_b1 x0 x2 x9 x10 x11 y5 = some r := by
  refine Blk.of E11_inj ?_
  refine D_start (c' := d112_1) rfl ?_
  rcases ifB h with ⟨e1, h⟩ | ⟨e1, h⟩
  · obtain ⟨v2, e2, h⟩ := bnd h
    obtain ⟨r3, e3, h⟩ := bnd h
    rcases ifB h with ⟨e4, h⟩ | ⟨e4, h⟩
    · obtain ⟨r4, e5, h⟩ := bnd h
      obtain ⟨v5, e6, h⟩ := bnd h
      rcases ifB h with ⟨e7, h⟩ | ⟨e7, h⟩
      · obtain ⟨v6, e8, h⟩ := bnd h
        have q := Blk.run h
        try simp only [go_sem] at q
        simp (implicitDefEqProofs := false) only [go_sem, d112_1, k112_1, g112_1, e1, rdp e2, rdm eTRule e2, spec_meets_run e3, e4, spec_weight_run e5, rdp e6, rdm eI e6, e7, rdm eI e8, Nat.reduceEqDiff, Nat.reduceAdd, Nat.reduceLeDiff, ↓reduceIte, reduceCtorEq]
        exact q
      · have q := Blk.run h
        try simp only [go_sem] at q
        simp (implicitDefEqProofs := false) only [go_sem, d112_1, k112_1, g112_1, e1, rdp e2, rdm eTRule e2, spec_meets_run e3, e4, spec_weight_run e5, rdp e6, rdm eI e6, e7, Nat.reduceEqDiff, Nat.reduceAdd, Nat.reduceLeDiff, ↓reduceIte, reduceCtorEq]
        exact q
    · have q := Blk.run h
      try simp only [go_sem] at q
      simp (implicitDefEqProofs := false) only [go_sem, d112_1, k112_1, g112_1, e1, rdp e2, rdm eTRule e2, spec_meets_run e3, e4, Nat.reduceEqDiff, Nat.reduceAdd, Nat.reduceLeDiff, ↓reduceIte, reduceCtorEq]
      exact q
  · cases h
    simp (implicitDefEqProofs := false) only [go_sem, d112_1, k112_1, g112_1, R112, E11, e1, Nat.reduceEqDiff, Nat.reduceAdd, ↓reduceIte, reduceCtorEq]
theorem spec_looksOf_of (x0 : List TRule) (x1 : TTree) (x2 x3 : List Int) {r : (List Int)} (h : (if decide (x1.Tag < 0) then ((spec_textLooks x3).bind fun r1 =>
   some r1)
  else ((spec_looks x0 x1 x2 x3).bind fun r2 =>
   some r2)) = some r) : spec_looksOf x0 x1 x2 x3 = some r := by
  refine Fn.of L_eq E11_inj (fi := fi91) rfl rfl ?_
  simp only [fi91]
  rcases ifB h with ⟨e1, h⟩ | ⟨e1, h⟩
  · obtain ⟨r1, e2, h⟩ := bnd h
    cases h
    simp (implicitDefEqProofs := false) only [go_sem, b91, R91, E11, e1, spec_textLooks_run e2, Nat.reduceEqDiff, Nat.reduceAdd, Nat.reduceLeDiff, ↓reduceIte, reduceCtorEq]
  · obtain ⟨r2, e3, h⟩ := bnd h
    cases h
    simp (implicitDefEqProofs := false) only [go_sem, b91, R91, E11, e1, spec_looks_run e3, Nat.reduceEqDiff, Nat.reduceAdd, Nat.reduceLeDiff, ↓reduceIte, reduceCtorEq]
theorem spec_textBox_of (x0 x1 : Int) {r : Int × Int} (h : (if decide (x1 ≤ 0) then some (0, 0)
  else (if decide (x0 = 0) then some (0, 0)
   else (if ¬ x1 = 0 then some (min x0 x1, w64 ((w64 ((w64 (x0 + x1)) - 1)).tdiv x1))
    else none))) = some r) : spec_textBox x0 x1 = some r := by
  refine Fn.of L_eq E12_inj (fi := fi103) rfl rfl ?_
  simp only [fi103]
  rcases ifB h with ⟨e1, h⟩ | ⟨e1, h⟩
  · cases h
    simp (implicitDefEqProofs := false) only [go_sem, b103, R103, E12, e1, Nat.reduceEqDiff, Nat.reduceAdd, ↓reduceIte, reduceCtorEq, Nat.reduceBEq]
  · rcases ifB h with ⟨e2, h⟩ | ⟨e2, h⟩
    · cases h
      simp (implicitDefEqProofs := false) only [go_sem, b103, R103, E12, e1, e2, Nat.reduceEqDiff, Nat.reduceAdd, ↓reduceIte, reduceCtorEq, Nat.reduceBEq]
    · obtain ⟨e3, h⟩ := ifP h
      cases h
      simp (implicitDefEqProofs := false) only [go_sem, b103, R103, E12, e1, e2, e3, Nat.reduceEqDiff, Nat.reduceAdd, ↓reduceIte, reduceCtorEq, Nat.reduceBEq]
theorem spec_placer_wishes_of (x0 : TPlacer) (x1 : List TTree) (x2 x3 : List Int) (x4 : Int) {r : (List Int) × TPlacer} (h : (if (0 ≤ (x1.length : Int) ∧ (x1.length : Int) * 8 ≤ 281474976710656 ∧ (x1.length : Int) ≤ 9223372036854775807) then spec_placer_wishes_b1 x1 x2 x3 (List.replicate (x1.length : Int).toNat (0 : Int)) x4 0 0 x0
  else none) = some r) : spec_placer_wishes x0 x1 x2 x3 x4 = some r := by
  refine Fn.of L_eq E13_inj (fi := fi116) rfl rfl ?_
  simp only [fi116]
  obtain ⟨e1, h⟩ := ifP h
  have me1 := e1
  try simp only [go_sem, Int.reduceMul, Nat.reduceEqDiff, Nat.reduceAdd, Nat.reduceMul, Nat.reduceSub, Nat.reduceLeDiff, Int.reduceLE, Int.reduceLT, Int.reduceEq, ↓reduceIte, reduceCtorEq, Nat.beq_eq_true_eq, Nat.reduceBEq] at me1
  have q := Blk.run h
  try simp only [go_sem] at q
  simp (implicitDefEqProofs := false) only [go_sem, b116, k116_1, k116_2, g116_1, g116_2, e1, Nat.reduceEqDiff, Nat.reduceAdd, ↓reduceIte, reduceCtorEq]
  exact q
theorem spec_placer_wishes_b1_of (x1 : List TTree) (x2 x3 x11 : List Int) (x12 x13 x14 : Int) (y0 : TPlacer) {r : (List Int) × TPlacer} (h : (if decide (x14 < (x1.length : Int)) then ((rdx x1 x14).bind fun v1 =>
   (spec_looksOf y0.rules v1 x2 x3).bind fun r2 =>
   (rdx r2 0).bind fun v3 =>
   if decide (v3 = 0) then spec_placer_wishes_b1 x1 x2 x3 x11 x12 (w64 (x13 + 1)) (w64 (x14 + 1)) y0
   else ((rdx x11 x14).bind fun _v4 =>
    (rdx (x11.set x14.toNat (min v3 x12)) x14).bind fun v5 =>
    spec_placer_wishes_b1 x1 x2 x3 (x11.set x14.toNat (min v3 x12)) (w64 (x12 - v5)) x13 (w64 (x14 + 1)) y0))
  else spec_placer_wishes_b2 x1 x2 x3 x11 x12 x13 0 y0) = some r) : spec_placer_wishes_b1 x1 x2 x3 x11 x12 x13 x14 y0 = some r := by
  refine Blk.of E13_inj ?_
  refine D_start (c' := d116_1) rfl ?_
  rcases ifB h with ⟨e1, h⟩ | ⟨e1, h⟩
  · obtain ⟨v1, e2, h⟩ := bnd h
    obtain ⟨r2, e3, h⟩ := bnd h
    obtain ⟨v3, e4, h⟩ := bnd h
    have me4 := rdm eI e4
    try simp only [go_sem] at me4
    rcases ifB h with ⟨e5, h⟩ | ⟨e5, h⟩
    · have q := Blk.run h
      try simp only [go_sem] at q
      simp (implicitDefEqProofs := false) only [go_sem, d116_1, k116_1, k116_2, g116_1, g116_2, e1, rdp e2, rdm (eTTree .sh) e2, spec_looksOf_run e3, rdp e4, me4, e5, Nat.reduceEqDiff, Nat.reduceAdd, Nat.reduceLeDiff, ↓reduceIte, reduceCtorEq]
      exact q
    · obtain ⟨v4, e6, h⟩ := bnd h
      obtain ⟨v5, e7, h⟩ := bnd h
      have me7 := rdm eI e7
      try simp only [go_sem] at me7
      have q := Blk.run h
      try simp only [go_sem] at q
      simp (implicitDefEqProofs := false) only [go_sem, d116_1, k116_1, k116_2, g116_1, g116_2, e1, rdp e2, rdm (eTTree .sh) e2, spec_looksOf_run e3, rdp e4, me4, e5, rdm eI e6, me7, Nat.reduceEqDiff, Nat.reduceAdd, Nat.reduceLeDiff, ↓reduceIte, reduceCtorEq]
      exact q
  · have q := Blk.run h
    try simp only [go_sem] at q
    simp (implicitDefEqProofs := false) only [go_sem, d116_1, k116_1, k116_2, g116_1, g116_2, e1, Nat.reduceEqDiff, Nat.reduceAdd, ↓reduceIte, reduceCtorEq]
    exact q
theorem spec_placer_wishes_b2_of (x1 : List TTree) (x2 x3 x11 : List Int) (x12 x13 x16 : Int) (y0 : TPlacer) {r : (List Int) × TPlacer} (h : (if decide (x16 < (x1.length : Int)) then ((rdx x1 x16).bind fun v6 =>
   (spec_looksOf y0.rules v6 x2 x3).bind fun r7 =>
   (rdx r7 0).bind fun v8 =>
   if decide (v8 = 0) then (if ¬ x13 = 0 then ((rdx x11 x16).bind fun _v9 =>
     (rdx (x11.set x16.toNat (w64 ((w64 ((w64 (x12 + x13)) - 1)).tdiv x13))) x16).bind fun v10 =>
     spec_placer_wishes_b2 x1 x2 x3 (x11.set x16.toNat (w64 ((w64 ((w64 (x12 + x13)) - 1)).tdiv x13))) (w64 (x12 - v10)) (w64 (x13 - 1)) (w64 (x16 + 1)) y0)
    else none)
   else spec_placer_wishes_b2 x1 x2 x3 x11 x12 x13 (w64 (x16 + 1)) y0)
  else some (x11, y0)) = some r) : spec_placer_wishes_b2 x1 x2 x3 x11 x12 x13 x16 y0 = some r := by
  refine Blk.of E13_inj ?_
  refine D_start (c' := d116_2) rfl ?_
  rcases ifB h with ⟨e1, h⟩ | ⟨e1, h⟩
  · obtain ⟨v6, e2, h⟩ := bnd h
    obtain ⟨r7, e3, h⟩ := bnd h
    obtain ⟨v8, e4, h⟩ := bnd h
    have me4 := rdm eI e4
    try simp only [go_sem] at me4
    rcases ifB h with ⟨e5, h⟩ | ⟨e5, h⟩
    · obtain ⟨e6, h⟩ := ifP h
      obtain ⟨v9, e7, h⟩ := bnd h
      obtain ⟨v10, e8, h⟩ := bnd h
      have me8 := rdm eI e8
      try simp only [go_sem] at me8
      have q := Blk.run h
      try simp only [go_sem] at q
      simp (implicitDefEqProofs := false) only [go_sem, d116_2, k116_2, g116_2, e1, rdp e2, rdm (eTTree .sh) e2, spec_looksOf_run e3, rdp e4, me4, e5, e6, rdm eI e7, me8, Nat.reduceEqDiff, Nat.reduceAdd, Nat.reduceLeDiff, ↓reduceIte, reduceCtorEq]
      exact q
    · have q := Blk.run h
      try simp only [go_sem] at q
      simp (implicitDefEqProofs := false) only [go_sem, d116_2, k116_2, g116_2, e1, rdp e2, rdm (eTTree .sh) e2, spec_looksOf_run e3, rdp e4, me4, e5, Nat.reduceEqDiff, Nat.reduceAdd, Nat.reduceLeDiff, ↓reduceIte, reduceCtorEq]
      exact q
  · cases h
    simp (implicitDefEqProofs := false) only [go_sem, d116_2, k116_2, g116_2, R116, E13, e1, Nat.reduceEqDiff, Nat.reduceAdd, ↓reduceIte, reduceCtorEq]
theorem spec_placer_down_of (x0 : TPlacer) (x1 : List TTree) (x2 x3 : List Int) (x4 x5 x6 : Int) {r : Int × TPlacer} (h : (spec_placer_down_b1 x1 x2 x3 x4 x5 x6 0 0 x0) = some r) : spec_placer_down x0 x1 x2 x3 x4 x5 x6 = some r := by
  refine Fn.of L_eq E14_inj (fi := fi105) rfl rfl ?_
  simp only [fi105]
  have q := Blk.run h
  try simp only [go_sem] at q
  simp (implicitDefEqProofs := false) only [go_sem, b105, k105_1, g105_1, Nat.reduceEqDiff, Nat.reduceAdd, ↓reduceIte, reduceCtorEq]
  exact q
theorem spec_placer_down_b1_of (x1 : List TTree) (x2 x3 : List Int) (x4 x5 x6 x15 x16 : Int) (y0 : TPlacer) {r : Int × TPlacer} (h : (if decide (x16 < (x1.length : Int)) then ((rdx x1 x16).bind fun v1 =>
   (spec_placer_part_v y0 v1 x2 x3 x4 (w64 (x5 + x15)) x6).bind fun r2 =>
   spec_placer_down_b1 x1 x2 x3 x4 x5 x6 (w64 (x15 + r2.1.High)) (w64 (x16 + 1)) r2.2)
  else some (x15, y0)) = some r) : spec_placer_down_b1 x1 x2 x3 x4 x5 x6 x15 x16 y0 = some r := by
  refine Blk.of E14_inj ?_
  refine D_start (c' := d105_1) rfl ?_
  rcases ifB h with ⟨e1, h⟩ | ⟨e1, h⟩
  · obtain ⟨v1, e2, h⟩ := bnd h
    obtain ⟨r2, e3, h⟩ := bnd h
    have q := Blk.run h
    try simp only [go_sem] at q
    simp (implicitDefEqProofs := false) only [go_sem, d105_1, k105_1, g105_1, e1, rdp e2, rdm (eTTree .sh) e2, spec_placer_part_v_run e3, Nat.reduceEqDiff, Nat.reduceAdd, Nat.reduceLeDiff, ↓reduceIte, reduceCtorEq]
    exact q
  · cases h
    simp (implicitDefEqProofs := false) only [go_sem, d105_1, k105_1, g105_1, R105, E14, e1, Nat.reduceEqDiff, Nat.reduceAdd, ↓reduceIte, reduceCtorEq]
end Go.Fw.Law
