/- What the functions come to. Conditions: none. -/
import Derived.Test.YtjldolmokfnkoaaGreatDoorLyD
namespace Go.Fw.Law
open Go Go.Fw
theorem laws_szValue_of (x0 : TValue) (x1 : Int) {r : Int} (h : (if decide ((w64 (x1 - (x0.Text.length : Int))) < 0) then some (-1)
  else some (w64 (x1 - (x0.Text.length : Int)))) = some r) : laws_szValue x0 x1 = some r := by
  refine Fn.of L_eq E1_inj (fi := fi68) rfl rfl ?_
  simp only [fi68]
  rcases ifB h with ⟨e1, h⟩ | ⟨e1, h⟩
  · cases h
    simp (implicitDefEqProofs := false) only [go_sem, b68, R68, E1, e1, Nat.reduceEqDiff, Nat.reduceAdd, Nat.reduceLeDiff, ↓reduceIte, reduceCtorEq]
  · cases h
    simp (implicitDefEqProofs := false) only [go_sem, b68, R68, E1, e1, Nat.reduceEqDiff, Nat.reduceAdd, Nat.reduceLeDiff, ↓reduceIte, reduceCtorEq]
theorem laws_szProp_of (x0 : TProp) (x1 : Int) {r : Int} (h : ((laws_szValue x0.Val x1).bind fun r1 =>
  if decide (r1 < 0) then some (-1)
  else some r1) = some r) : laws_szProp x0 x1 = some r := by
  refine Fn.of L_eq E1_inj (fi := fi67) rfl rfl ?_
  simp only [fi67]
  obtain ⟨r1, e1, h⟩ := bnd h
  rcases ifB h with ⟨e2, h⟩ | ⟨e2, h⟩
  · cases h
    simp (implicitDefEqProofs := false) only [go_sem, b67, R67, E1, laws_szValue_run e1, e2, Nat.reduceEqDiff, Nat.reduceAdd, Nat.reduceLeDiff, ↓reduceIte, reduceCtorEq]
  · cases h
    simp (implicitDefEqProofs := false) only [go_sem, b67, R67, E1, laws_szValue_run e1, e2, Nat.reduceEqDiff, Nat.reduceAdd, Nat.reduceLeDiff, ↓reduceIte, reduceCtorEq]
theorem laws_szPropS_of (x0 : List TProp) (x1 : Int) {r : Int} (h : (if decide ((w64 (x1 - (x0.length : Int))) < 0) then some (-1)
  else laws_szPropS_b1 x0 (w64 (x1 - (x0.length : Int))) 0) = some r) : laws_szPropS x0 x1 = some r := by
  refine Fn.of L_eq E1_inj (fi := fi33) rfl rfl ?_
  simp only [fi33]
  rcases ifB h with ⟨e1, h⟩ | ⟨e1, h⟩
  · cases h
    simp (implicitDefEqProofs := false) only [go_sem, b33, k33_1, g33_1, R33, E1, e1, Nat.reduceEqDiff, Nat.reduceAdd, ↓reduceIte, reduceCtorEq]
  · have q := Blk.run h
    try simp only [go_sem] at q
    simp (implicitDefEqProofs := false) only [go_sem, b33, k33_1, g33_1, e1, Nat.reduceEqDiff, Nat.reduceAdd, ↓reduceIte, reduceCtorEq]
    exact q
theorem laws_szPropS_b1_of (x0 : List TProp) (x1 x5 : Int) {r : Int} (h : (if decide (x5 < (x0.length : Int)) then ((rdx x0 x5).bind fun v1 =>
   (laws_szProp v1 x1).bind fun r2 =>
   if decide (r2 < 0) then some (-1)
   else laws_szPropS_b1 x0 r2 (w64 (x5 + 1)))
  else some x1) = some r) : laws_szPropS_b1 x0 x1 x5 = some r := by
  refine Blk.of E1_inj ?_
  refine D_start (c' := d33_1) rfl ?_
  rcases ifB h with ⟨e1, h⟩ | ⟨e1, h⟩
  · obtain ⟨v1, e2, h⟩ := bnd h
    obtain ⟨r2, e3, h⟩ := bnd h
    rcases ifB h with ⟨e4, h⟩ | ⟨e4, h⟩
    · cases h
      simp (implicitDefEqProofs := false) only [go_sem, d33_1, k33_1, g33_1, R33, E1, e1, rdp e2, rdm eTProp e2, laws_szProp_run e3, e4, Nat.reduceEqDiff, Nat.reduceAdd, Nat.reduceLeDiff, ↓reduceIte, reduceCtorEq]
    · have q := Blk.run h
      try simp only [go_sem] at q
      simp (implicitDefEqProofs := false) only [go_sem, d33_1, k33_1, g33_1, e1, rdp e2, rdm eTProp e2, laws_szProp_run e3, e4, Nat.reduceEqDiff, Nat.reduceAdd, Nat.reduceLeDiff, ↓reduceIte, reduceCtorEq]
      exact q
  · cases h
    simp (implicitDefEqProofs := false) only [go_sem, d33_1, k33_1, g33_1, R33, E1, e1, Nat.reduceEqDiff, Nat.reduceAdd, ↓reduceIte, reduceCtorEq]
theorem laws_szTreeS_of (x0 : List TTree) (x1 : Int) {r : Int} (h : (if decide ((w64 (x1 - (x0.length : Int))) < 0) then some (-1)
  else laws_szTreeS_b1 x0 (w64 (x1 - (x0.length : Int))) 0) = some r) : laws_szTreeS x0 x1 = some r := by
  refine Fn.of L_eq E1_inj (fi := fi34) rfl rfl ?_
  simp only [fi34]
  rcases ifB h with ⟨e1, h⟩ | ⟨e1, h⟩
  · cases h
    simp (implicitDefEqProofs := false) only [go_sem, b34, k34_1, g34_1, R34, E1, e1, Nat.reduceEqDiff, Nat.reduceAdd, ↓reduceIte, reduceCtorEq]
  · have q := Blk.run h
    try simp only [go_sem] at q
    simp (implicitDefEqProofs := false) only [go_sem, b34, k34_1, g34_1, e1, Nat.reduceEqDiff, Nat.reduceAdd, ↓reduceIte, reduceCtorEq]
    exact q
theorem laws_szTreeS_b1_of (x0 : List TTree) (x1 x5 : Int) {r : Int} (h : (if decide (x5 < (x0.length : Int)) then ((rdx x0 x5).bind fun v1 =>
   (laws_szTree v1 x1).bind fun r2 =>
   if decide (r2 < 0) then some (-1)
   else laws_szTreeS_b1 x0 r2 (w64 (x5 + 1)))
  else some x1) = some r) : laws_szTreeS_b1 x0 x1 x5 = some r := by
  refine Blk.of E1_inj ?_
  refine D_start (c' := d34_1) rfl ?_
  rcases ifB h with ⟨e1, h⟩ | ⟨e1, h⟩
  · obtain ⟨v1, e2, h⟩ := bnd h
    obtain ⟨r2, e3, h⟩ := bnd h
    rcases ifB h with ⟨e4, h⟩ | ⟨e4, h⟩
    · cases h
      simp (implicitDefEqProofs := false) only [go_sem, d34_1, k34_1, g34_1, R34, E1, e1, rdp e2, rdm (eTTree .sh) e2, laws_szTree_run e3, e4, Nat.reduceEqDiff, Nat.reduceAdd, Nat.reduceLeDiff, ↓reduceIte, reduceCtorEq]
    · have q := Blk.run h
      try simp only [go_sem] at q
      simp (implicitDefEqProofs := false) only [go_sem, d34_1, k34_1, g34_1, e1, rdp e2, rdm (eTTree .sh) e2, laws_szTree_run e3, e4, Nat.reduceEqDiff, Nat.reduceAdd, Nat.reduceLeDiff, ↓reduceIte, reduceCtorEq]
      exact q
  · cases h
    simp (implicitDefEqProofs := false) only [go_sem, d34_1, k34_1, g34_1, R34, E1, e1, Nat.reduceEqDiff, Nat.reduceAdd, ↓reduceIte, reduceCtorEq]
theorem laws_szTree_of (x0 : TTree) (x1 : Int) {r : Int} (h : (if decide ((w64 (x1 - (x0.Text.length : Int))) < 0) then some (-1)
  else ((laws_szPropS x0.Props (w64 (x1 - (x0.Text.length : Int)))).bind fun r1 =>
   if decide (r1 < 0) then some (-1)
   else ((laws_szTreeS x0.Kids r1).bind fun r2 =>
    if decide (r2 < 0) then some (-1)
    else some r2))) = some r) : laws_szTree x0 x1 = some r := by
  refine Fn.of L_eq E1_inj (fi := fi8) rfl rfl ?_
  simp only [fi8]
  rcases ifB h with ⟨e1, h⟩ | ⟨e1, h⟩
  · cases h
    simp (implicitDefEqProofs := false) only [go_sem, b8, R8, E1, e1, Nat.reduceEqDiff, Nat.reduceAdd, Nat.reduceLeDiff, ↓reduceIte, reduceCtorEq]
  · obtain ⟨r1, e2, h⟩ := bnd h
    rcases ifB h with ⟨e3, h⟩ | ⟨e3, h⟩
    · cases h
      simp (implicitDefEqProofs := false) only [go_sem, b8, R8, E1, e1, laws_szPropS_run e2, e3, Nat.reduceEqDiff, Nat.reduceAdd, Nat.reduceLeDiff, ↓reduceIte, reduceCtorEq]
    · obtain ⟨r2, e4, h⟩ := bnd h
      rcases ifB h with ⟨e5, h⟩ | ⟨e5, h⟩
      · cases h
        simp (implicitDefEqProofs := false) only [go_sem, b8, R8, E1, e1, laws_szPropS_run e2, e3, laws_szTreeS_run e4, e5, Nat.reduceEqDiff, Nat.reduceAdd, Nat.reduceLeDiff, ↓reduceIte, reduceCtorEq]
      · cases h
        simp (implicitDefEqProofs := false) only [go_sem, b8, R8, E1, e1, laws_szPropS_run e2, e3, laws_szTreeS_run e4, e5, Nat.reduceEqDiff, Nat.reduceAdd, Nat.reduceLeDiff, ↓reduceIte, reduceCtorEq]
theorem laws_szRule_of (x0 : TRule) (x1 : Int) {r : Int} (h : ((laws_szValue x0.Val x1).bind fun r1 =>
  if decide (r1 < 0) then some (-1)
  else some r1) = some r) : laws_szRule x0 x1 = some r := by
  refine Fn.of L_eq E1_inj (fi := fi35) rfl rfl ?_
  simp only [fi35]
  obtain ⟨r1, e1, h⟩ := bnd h
  rcases ifB h with ⟨e2, h⟩ | ⟨e2, h⟩
  · cases h
    simp (implicitDefEqProofs := false) only [go_sem, b35, R35, E1, laws_szValue_run e1, e2, Nat.reduceEqDiff, Nat.reduceAdd, Nat.reduceLeDiff, ↓reduceIte, reduceCtorEq]
  · cases h
    simp (implicitDefEqProofs := false) only [go_sem, b35, R35, E1, laws_szValue_run e1, e2, Nat.reduceEqDiff, Nat.reduceAdd, Nat.reduceLeDiff, ↓reduceIte, reduceCtorEq]
theorem laws_szRuleS_of (x0 : List TRule) (x1 : Int) {r : Int} (h : (if decide ((w64 (x1 - (x0.length : Int))) < 0) then some (-1)
  else laws_szRuleS_b1 x0 (w64 (x1 - (x0.length : Int))) 0) = some r) : laws_szRuleS x0 x1 = some r := by
  refine Fn.of L_eq E1_inj (fi := fi9) rfl rfl ?_
  simp only [fi9]
  rcases ifB h with ⟨e1, h⟩ | ⟨e1, h⟩
  · cases h
    simp (implicitDefEqProofs := false) only [go_sem, b9, k9_1, g9_1, R9, E1, e1, Nat.reduceEqDiff, Nat.reduceAdd, ↓reduceIte, reduceCtorEq]
  · have q := Blk.run h
    try simp only [go_sem] at q
    simp (implicitDefEqProofs := false) only [go_sem, b9, k9_1, g9_1, e1, Nat.reduceEqDiff, Nat.reduceAdd, ↓reduceIte, reduceCtorEq]
    exact q
theorem laws_szRuleS_b1_of (x0 : List TRule) (x1 x5 : Int) {r : Int} (h : (if decide (x5 < (x0.length : Int)) then ((rdx x0 x5).bind fun v1 =>
   (laws_szRule v1 x1).bind fun r2 =>
   if decide (r2 < 0) then some (-1)
   else laws_szRuleS_b1 x0 r2 (w64 (x5 + 1)))
  else some x1) = some r) : laws_szRuleS_b1 x0 x1 x5 = some r := by
  refine Blk.of E1_inj ?_
  refine D_start (c' := d9_1) rfl ?_
  rcases ifB h with ⟨e1, h⟩ | ⟨e1, h⟩
  · obtain ⟨v1, e2, h⟩ := bnd h
    obtain ⟨r2, e3, h⟩ := bnd h
    rcases ifB h with ⟨e4, h⟩ | ⟨e4, h⟩
    · cases h
      simp (implicitDefEqProofs := false) only [go_sem, d9_1, k9_1, g9_1, R9, E1, e1, rdp e2, rdm eTRule e2, laws_szRule_run e3, e4, Nat.reduceEqDiff, Nat.reduceAdd, Nat.reduceLeDiff, ↓reduceIte, reduceCtorEq]
    · have q := Blk.run h
      try simp only [go_sem] at q
      simp (implicitDefEqProofs := false) only [go_sem, d9_1, k9_1, g9_1, e1, rdp e2, rdm eTRule e2, laws_szRule_run e3, e4, Nat.reduceEqDiff, Nat.reduceAdd, Nat.reduceLeDiff, ↓reduceIte, reduceCtorEq]
      exact q
  · cases h
    simp (implicitDefEqProofs := false) only [go_sem, d9_1, k9_1, g9_1, R9, E1, e1, Nat.reduceEqDiff, Nat.reduceAdd, ↓reduceIte, reduceCtorEq]
theorem laws_toValue_of (x0 : TValue) {r : TValue} (h : (some x0) = some r) : laws_toValue x0 = some r := by
  refine Fn.of L_eq E2_inj (fi := fi71) rfl rfl ?_
  simp only [fi71]
  cases h
  simp (implicitDefEqProofs := false) only [go_sem, b71, R71, E2, Nat.reduceEqDiff, Nat.reduceAdd, Nat.reduceLeDiff, ↓reduceIte, reduceCtorEq]
theorem laws_toProp_of (x0 : TProp) {r : TProp} (h : ((laws_toValue x0.Val).bind fun r1 =>
  some (⟨x0.Name, r1⟩ : TProp)) = some r) : laws_toProp x0 = some r := by
  refine Fn.of L_eq E3_inj (fi := fi70) rfl rfl ?_
  simp only [fi70]
  obtain ⟨r1, e1, h⟩ := bnd h
  cases h
  simp (implicitDefEqProofs := false) only [go_sem, b70, R70, E3, laws_toValue_run e1, Nat.reduceEqDiff, Nat.reduceAdd, Nat.reduceLeDiff, ↓reduceIte, reduceCtorEq]
theorem laws_toPropS_of (x0 : List TProp) {r : (List TProp)} (h : (if (0 ≤ (x0.length : Int) ∧ (x0.length : Int) * 40 ≤ 281474976710656 ∧ (x0.length : Int) ≤ 9223372036854775807) then laws_toPropS_b1 x0 (List.replicate (x0.length : Int).toNat (⟨0, (⟨0, 0, []⟩ : TValue)⟩ : TProp)) 0
  else none) = some r) : laws_toPropS x0 = some r := by
  refine Fn.of L_eq E4_inj (fi := fi39) rfl rfl ?_
  simp only [fi39]
  obtain ⟨e1, h⟩ := ifP h
  have me1 := e1
  try simp only [go_sem, Int.reduceMul, Nat.reduceEqDiff, Nat.reduceAdd, Nat.reduceMul, Nat.reduceSub, Nat.reduceLeDiff, Int.reduceLE, Int.reduceLT, Int.reduceEq, ↓reduceIte, reduceCtorEq, Nat.beq_eq_true_eq, Nat.reduceBEq] at me1
  have q := Blk.run h
  try simp only [go_sem] at q
  simp (implicitDefEqProofs := false) only [go_sem, b39, k39_1, g39_1, e1, Nat.reduceEqDiff, Nat.reduceAdd, ↓reduceIte, reduceCtorEq]
  exact q
theorem laws_toPropS_b1_of (x0 x3 : List TProp) (x4 : Int) {r : (List TProp)} (h : (if decide (x4 < (x0.length : Int)) then ((rdx x0 x4).bind fun v1 =>
   (laws_toProp v1).bind fun r2 =>
   (rdx x3 x4).bind fun _v3 =>
   laws_toPropS_b1 x0 (x3.set x4.toNat r2) (w64 (x4 + 1)))
  else some x3) = some r) : laws_toPropS_b1 x0 x3 x4 = some r := by
  refine Blk.of E4_inj ?_
  refine D_start (c' := d39_1) rfl ?_
  rcases ifB h with ⟨e1, h⟩ | ⟨e1, h⟩
  · obtain ⟨v1, e2, h⟩ := bnd h
    obtain ⟨r2, e3, h⟩ := bnd h
    obtain ⟨v3, e4, h⟩ := bnd h
    have q := Blk.run h
    try simp only [go_sem] at q
    simp (implicitDefEqProofs := false) only [go_sem, d39_1, k39_1, g39_1, e1, rdp e2, rdm eTProp e2, laws_toProp_run e3, rdm eTProp e4, Nat.reduceEqDiff, Nat.reduceAdd, Nat.reduceLeDiff, ↓reduceIte, reduceCtorEq]
    exact q
  · cases h
    simp (implicitDefEqProofs := false) only [go_sem, d39_1, k39_1, g39_1, R39, E4, e1, Nat.reduceEqDiff, Nat.reduceAdd, ↓reduceIte, reduceCtorEq]
theorem laws_toTreeS_of (x0 : List TTree) {r : (List TTree)} (h : (if (0 ≤ (x0.length : Int) ∧ (x0.length : Int) * 80 ≤ 281474976710656 ∧ (x0.length : Int) ≤ 9223372036854775807) then laws_toTreeS_b1 x0 (List.replicate (x0.length : Int).toNat (⟨0, 0, [], [], []⟩ : TTree)) 0
  else none) = some r) : laws_toTreeS x0 = some r := by
  refine Fn.of L_eq E5_inj (fi := fi40) rfl rfl ?_
  simp only [fi40]
  obtain ⟨e1, h⟩ := ifP h
  have me1 := e1
  try simp only [go_sem, Int.reduceMul, Nat.reduceEqDiff, Nat.reduceAdd, Nat.reduceMul, Nat.reduceSub, Nat.reduceLeDiff, Int.reduceLE, Int.reduceLT, Int.reduceEq, ↓reduceIte, reduceCtorEq, Nat.beq_eq_true_eq, Nat.reduceBEq] at me1
  have q := Blk.run h
  try simp only [go_sem] at q
  simp (implicitDefEqProofs := false) only [go_sem, b40, k40_1, g40_1, e1, Nat.reduceEqDiff, Nat.reduceAdd, ↓reduceIte, reduceCtorEq]
  exact q
theorem laws_toTreeS_b1_of (x0 x3 : List TTree) (x4 : Int) {r : (List TTree)} (h : (if decide (x4 < (x0.length : Int)) then ((rdx x0 x4).bind fun v1 =>
   (laws_toTree v1).bind fun r2 =>
   (rdx x3 x4).bind fun _v3 =>
   laws_toTreeS_b1 x0 (x3.set x4.toNat r2) (w64 (x4 + 1)))
  else some x3) = some r) : laws_toTreeS_b1 x0 x3 x4 = some r := by
  refine Blk.of E5_inj ?_
  refine D_start (c' := d40_1) rfl ?_
  rcases ifB h with ⟨e1, h⟩ | ⟨e1, h⟩
  · obtain ⟨v1, e2, h⟩ := bnd h
    obtain ⟨r2, e3, h⟩ := bnd h
    obtain ⟨v3, e4, h⟩ := bnd h
    have q := Blk.run h
    try simp only [go_sem] at q
    simp (implicitDefEqProofs := false) only [go_sem, d40_1, k40_1, g40_1, e1, rdp e2, rdm (eTTree .sh) e2, laws_toTree_run e3, rdm (eTTree .own) e4, Nat.reduceEqDiff, Nat.reduceAdd, Nat.reduceLeDiff, ↓reduceIte, reduceCtorEq]
    exact q
  · cases h
    simp (implicitDefEqProofs := false) only [go_sem, d40_1, k40_1, g40_1, R40, E5, e1, Nat.reduceEqDiff, Nat.reduceAdd, ↓reduceIte, reduceCtorEq]
theorem laws_toTree_of (x0 : TTree) {r : TTree} (h : ((laws_toPropS x0.Props).bind fun r1 =>
  (laws_toTreeS x0.Kids).bind fun r2 =>
  some (⟨x0.Tag, x0.Key, x0.Text, r1, r2⟩ : TTree)) = some r) : laws_toTree x0 = some r := by
  refine Fn.of L_eq E6_inj (fi := fi11) rfl rfl ?_
  simp only [fi11]
  obtain ⟨r1, e1, h⟩ := bnd h
  obtain ⟨r2, e2, h⟩ := bnd h
  cases h
  simp (implicitDefEqProofs := false) only [go_sem, b11, R11, E6, laws_toPropS_run e1, laws_toTreeS_run e2, Nat.reduceEqDiff, Nat.reduceAdd, Nat.reduceLeDiff, ↓reduceIte, reduceCtorEq]
theorem laws_toRule_of (x0 : TRule) {r : TRule} (h : ((laws_toValue x0.Val).bind fun r1 =>
  some (⟨x0.Tag, x0.Above, x0.Name, r1, x0.Look, x0.Give⟩ : TRule)) = some r) : laws_toRule x0 = some r := by
  refine Fn.of L_eq E7_inj (fi := fi41) rfl rfl ?_
  simp only [fi41]
  obtain ⟨r1, e1, h⟩ := bnd h
  cases h
  simp (implicitDefEqProofs := false) only [go_sem, b41, R41, E7, laws_toValue_run e1, Nat.reduceEqDiff, Nat.reduceAdd, Nat.reduceLeDiff, ↓reduceIte, reduceCtorEq]
theorem laws_toRuleS_of (x0 : List TRule) {r : (List TRule)} (h : (if (0 ≤ (x0.length : Int) ∧ (x0.length : Int) * 72 ≤ 281474976710656 ∧ (x0.length : Int) ≤ 9223372036854775807) then laws_toRuleS_b1 x0 (List.replicate (x0.length : Int).toNat (⟨0, 0, 0, (⟨0, 0, []⟩ : TValue), 0, 0⟩ : TRule)) 0
  else none) = some r) : laws_toRuleS x0 = some r := by
  refine Fn.of L_eq E8_inj (fi := fi12) rfl rfl ?_
  simp only [fi12]
  obtain ⟨e1, h⟩ := ifP h
  have me1 := e1
  try simp only [go_sem, Int.reduceMul, Nat.reduceEqDiff, Nat.reduceAdd, Nat.reduceMul, Nat.reduceSub, Nat.reduceLeDiff, Int.reduceLE, Int.reduceLT, Int.reduceEq, ↓reduceIte, reduceCtorEq, Nat.beq_eq_true_eq, Nat.reduceBEq] at me1
  have q := Blk.run h
  try simp only [go_sem] at q
  simp (implicitDefEqProofs := false) only [go_sem, b12, k12_1, g12_1, e1, Nat.reduceEqDiff, Nat.reduceAdd, ↓reduceIte, reduceCtorEq]
  exact q
theorem laws_toRuleS_b1_of (x0 x3 : List TRule) (x4 : Int) {r : (List TRule)} (h : (if decide (x4 < (x0.length : Int)) then ((rdx x0 x4).bind fun v1 =>
   (laws_toRule v1).bind fun r2 =>
   (rdx x3 x4).bind fun _v3 =>
   laws_toRuleS_b1 x0 (x3.set x4.toNat r2) (w64 (x4 + 1)))
  else some x3) = some r) : laws_toRuleS_b1 x0 x3 x4 = some r := by
  refine Blk.of E8_inj ?_
  refine D_start (c' := d12_1) rfl ?_
  rcases ifB h with ⟨e1, h⟩ | ⟨e1, h⟩
  · obtain ⟨v1, e2, h⟩ := bnd h
    obtain ⟨r2, e3, h⟩ := bnd h
    obtain ⟨v3, e4, h⟩ := bnd h
    have q := Blk.run h
    try simp only [go_sem] at q
    simp (implicitDefEqProofs := false) only [go_sem, d12_1, k12_1, g12_1, e1, rdp e2, rdm eTRule e2, laws_toRule_run e3, rdm eTRule e4, Nat.reduceEqDiff, Nat.reduceAdd, Nat.reduceLeDiff, ↓reduceIte, reduceCtorEq]
    exact q
  · cases h
    simp (implicitDefEqProofs := false) only [go_sem, d12_1, k12_1, g12_1, R12, E8, e1, Nat.reduceEqDiff, Nat.reduceAdd, ↓reduceIte, reduceCtorEq]
theorem spec_treeSize_of (x0 : TTree) (x1 : Int) {r : Int} (h : (if decide (24 < x1) then some 201
  else spec_treeSize_b1 x1 1 0 x0) = some r) : spec_treeSize x0 x1 = some r := by
  refine Fn.of L_eq E1_inj (fi := fi76) rfl rfl ?_
  simp only [fi76]
  rcases ifB h with ⟨e1, h⟩ | ⟨e1, h⟩
  · cases h
    simp (implicitDefEqProofs := false) only [go_sem, b76, k76_1, g76_1, R76, E1, e1, Nat.reduceEqDiff, Nat.reduceAdd, ↓reduceIte, reduceCtorEq]
  · have q := Blk.run h
    try simp only [go_sem] at q
    simp (implicitDefEqProofs := false) only [go_sem, b76, k76_1, g76_1, e1, Nat.reduceEqDiff, Nat.reduceAdd, ↓reduceIte, reduceCtorEq]
    exact q
theorem spec_treeSize_b1_of (x1 x5 x6 : Int) (y2 : TTree) {r : Int} (h : (if decide (x6 < (y2.Kids.length : Int)) then (if decide (x5 ≤ 200) then ((rdx y2.Kids x6).bind fun v1 =>
    (spec_treeSize v1 (w64 (x1 + 1))).bind fun r2 =>
    spec_treeSize_b1 x1 (w64 (x5 + r2)) (w64 (x6 + 1)) y2)
   else some (min x5 201))
  else some (min x5 201)) = some r) : spec_treeSize_b1 x1 x5 x6 y2 = some r := by
  refine Blk.of E1_inj ?_
  refine D_start (c' := d76_1) rfl ?_
  rcases ifB h with ⟨e1, h⟩ | ⟨e1, h⟩
  · rcases ifB h with ⟨e2, h⟩ | ⟨e2, h⟩
    · obtain ⟨v1, e3, h⟩ := bnd h
      obtain ⟨r2, e4, h⟩ := bnd h
      have q := Blk.run h
      try simp only [go_sem] at q
      simp (implicitDefEqProofs := false) only [go_sem, d76_1, k76_1, g76_1, e1, e2, rdp e3, rdm (eTTree .sh) e3, spec_treeSize_run e4, Nat.reduceEqDiff, Nat.reduceAdd, Nat.reduceLeDiff, ↓reduceIte, reduceCtorEq]
      exact q
    · cases h
      simp (implicitDefEqProofs := false) only [go_sem, d76_1, k76_1, g76_1, R76, E1, e1, e2, Nat.reduceEqDiff, Nat.reduceAdd, Nat.reduceLeDiff, ↓reduceIte, reduceCtorEq]
  · cases h
    simp (implicitDefEqProofs := false) only [go_sem, d76_1, k76_1, g76_1, R76, E1, e1, Nat.reduceEqDiff, Nat.reduceAdd, Nat.reduceLeDiff, ↓reduceIte, reduceCtorEq]
theorem spec_plainByte_of (x0 : Int) {r : Bool} (h : (if decide (97 ≤ x0) then (if decide (x0 ≤ 122) then some true
   else (if decide (48 ≤ x0) then (if decide (x0 ≤ 57) then some true
     else some (decide (x0 = 32)))
    else some (decide (x0 = 32))))
  else (if decide (48 ≤ x0) then (if decide (x0 ≤ 57) then some true
    else some (decide (x0 = 32)))
   else some (decide (x0 = 32)))) = some r) : spec_plainByte x0 = some r := by
  refine Fn.of L_eq E9_inj (fi := fi121) rfl rfl ?_
  simp only [fi121]
  rcases ifB h with ⟨e1, h⟩ | ⟨e1, h⟩
  · rcases ifB h with ⟨e2, h⟩ | ⟨e2, h⟩
    · cases h
      simp (implicitDefEqProofs := false) only [go_sem, b121, R121, E9, e1, e2, Nat.reduceEqDiff, Nat.reduceAdd, ↓reduceIte, reduceCtorEq]
    · rcases ifB h with ⟨e3, h⟩ | ⟨e3, h⟩
      · rcases ifB h with ⟨e4, h⟩ | ⟨e4, h⟩
        · cases h
          simp (implicitDefEqProofs := false) only [go_sem, b121, R121, E9, e1, e2, e3, e4, Nat.reduceEqDiff, Nat.reduceAdd, ↓reduceIte, reduceCtorEq]
        · cases h
          simp (implicitDefEqProofs := false) only [go_sem, b121, R121, E9, e1, e2, e3, e4, Nat.reduceEqDiff, Nat.reduceAdd, ↓reduceIte, reduceCtorEq]
      · cases h
        simp (implicitDefEqProofs := false) only [go_sem, b121, R121, E9, e1, e2, e3, Nat.reduceEqDiff, Nat.reduceAdd, ↓reduceIte, reduceCtorEq]
  · rcases ifB h with ⟨e5, h⟩ | ⟨e5, h⟩
    · rcases ifB h with ⟨e6, h⟩ | ⟨e6, h⟩
      · cases h
        simp (implicitDefEqProofs := false) only [go_sem, b121, R121, E9, e1, e5, e6, Nat.reduceEqDiff, Nat.reduceAdd, ↓reduceIte, reduceCtorEq]
      · cases h
        simp (implicitDefEqProofs := false) only [go_sem, b121, R121, E9, e1, e5, e6, Nat.reduceEqDiff, Nat.reduceAdd, ↓reduceIte, reduceCtorEq]
    · cases h
      simp (implicitDefEqProofs := false) only [go_sem, b121, R121, E9, e1, e5, Nat.reduceEqDiff, Nat.reduceAdd, ↓reduceIte, reduceCtorEq]
theorem spec_validWord_of (x0 : Str) {r : Bool} (h : (if decide (12 < (x0.length : Int)) then some false
  else spec_validWord_b1 x0 0) = some r) : spec_validWord x0 = some r := by
  refine Fn.of L_eq E9_inj (fi := fi114) rfl rfl ?_
  simp only [fi114]
  rcases ifB h with ⟨e1, h⟩ | ⟨e1, h⟩
  · cases h
    simp (implicitDefEqProofs := false) only [go_sem, b114, k114_1, g114_1, R114, E9, e1, Nat.reduceEqDiff, Nat.reduceAdd, ↓reduceIte, reduceCtorEq]
  · have q := Blk.run h
    try simp only [go_sem] at q
    simp (implicitDefEqProofs := false) only [go_sem, b114, k114_1, g114_1, e1, Nat.reduceEqDiff, Nat.reduceAdd, ↓reduceIte, reduceCtorEq]
    exact q
theorem spec_validWord_b1_of (x0 : Str) (x3 : Int) {r : Bool} (h : (if decide (x3 < (x0.length : Int)) then ((rdx x0 x3).bind fun v1 =>
   (spec_plainByte (v1.toNat : Int)).bind fun r2 =>
   if !r2 then some false
   else spec_validWord_b1 x0 (w64 (x3 + 1)))
  else some true) = some r) : spec_validWord_b1 x0 x3 = some r := by
  refine Blk.of E9_inj ?_
  refine D_start (c' := d114_1) rfl ?_
  rcases ifB h with ⟨e1, h⟩ | ⟨e1, h⟩
  · obtain ⟨v1, e2, h⟩ := bnd h
    obtain ⟨r2, e3, h⟩ := bnd h
    rcases ifB h with ⟨e4, h⟩ | ⟨e4, h⟩
    · cases h
      simp (implicitDefEqProofs := false) only [go_sem, d114_1, k114_1, g114_1, R114, E9, e1, rdp e2, rds e2, spec_plainByte_run e3, e4, Nat.reduceEqDiff, Nat.reduceAdd, ↓reduceIte, reduceCtorEq]
    · have q := Blk.run h
      try simp only [go_sem] at q
      simp (implicitDefEqProofs := false) only [go_sem, d114_1, k114_1, g114_1, e1, rdp e2, rds e2, spec_plainByte_run e3, e4, Nat.reduceEqDiff, Nat.reduceAdd, ↓reduceIte, reduceCtorEq]
      exact q
  · cases h
    simp (implicitDefEqProofs := false) only [go_sem, d114_1, k114_1, g114_1, R114, E9, e1, Nat.reduceEqDiff, Nat.reduceAdd, ↓reduceIte, reduceCtorEq]
theorem spec_decimal_of (x0 : Int) {r : Str} (h : (if decide (x0 < 0) then ((spec_decimal (w64 (-x0))).bind fun r1 =>
   if ([45]).length + r1.length ≤ 9223372036854775807 then some (([45]) ++ r1)
   else none)
  else (if decide (x0 < 10) then (if (0 ≤ x0 ∧ x0 ≤ (w64 (x0 + 1)) ∧ (w64 (x0 + 1)) ≤ (([48, 49, 50, 51, 52, 53, 54, 55, 56, 57]).length : Int)) then some (sub ([48, 49, 50, 51, 52, 53, 54, 55, 56, 57]) x0 (w64 (x0 + 1)))
    else none)
   else ((spec_decimal (w64 (x0.tdiv 10))).bind fun r2 =>
    (spec_decimal (x0.tmod 10)).bind fun r3 =>
    if r2.length + r3.length ≤ 9223372036854775807 then some (r2 ++ r3)
    else none))) = some r) : spec_decimal x0 = some r := by
  refine Fn.of L_eq E10_inj (fi := fi115) rfl rfl ?_
  simp only [fi115]
  rcases ifB h with ⟨e1, h⟩ | ⟨e1, h⟩
  · obtain ⟨r1, e2, h⟩ := bnd h
    obtain ⟨e3, h⟩ := ifP h
    have me3 := e3
    try simp only [go_sem, Nat.reduceAdd] at me3
    cases h
    simp (implicitDefEqProofs := false) only [go_sem, b115, R115, E10, e1, spec_decimal_run e2, me3, Nat.reduceEqDiff, Nat.reduceAdd, ↓reduceIte, reduceCtorEq]
  · rcases ifB h with ⟨e4, h⟩ | ⟨e4, h⟩
    · obtain ⟨e5, h⟩ := ifP h
      have me5 := e5
      try simp only [go_sem, Nat.reduceAdd] at me5
      cases h
      simp (implicitDefEqProofs := false) only [go_sem, b115, R115, E10, e1, e4, e5, me5, Nat.reduceEqDiff, Nat.reduceAdd, ↓reduceIte, reduceCtorEq]
    · obtain ⟨r2, e6, h⟩ := bnd h
      obtain ⟨r3, e7, h⟩ := bnd h
      obtain ⟨e8, h⟩ := ifP h
      have me8 := e8
      try simp only [go_sem, Int.reduceMul, Nat.reduceEqDiff, Nat.reduceAdd, Nat.reduceMul, Nat.reduceSub, Nat.reduceLeDiff, Int.reduceLE, Int.reduceLT, Int.reduceEq, ↓reduceIte, reduceCtorEq, Nat.beq_eq_true_eq, Nat.reduceBEq] at me8
      cases h
      simp (implicitDefEqProofs := false) only [go_sem, b115, R115, E10, e1, e4, spec_decimal_run e6, spec_decimal_run e7, e8, Nat.reduceEqDiff, Nat.reduceAdd, Int.reduceEq, ↓reduceIte, reduceCtorEq]
end Go.Fw.Law
