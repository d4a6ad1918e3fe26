/- What the functions come to. Conditions: none. -/
import Derived.Test.YtjldolmokfnkoaaGreatDoorLwD
namespace Go.Fw.Law
open Go Go.Fw
theorem spec_numberOf_of (x0 : TTree) (x1 : List Int) {r : Int} (h : (spec_numberOf_b1 x1 0 0 x0) = some r) : spec_numberOf x0 x1 = some r := by
  refine Fn.of L_eq E1_inj (fi := fi85) rfl rfl ?_
  simp only [fi85]
  have q := Blk.run h
  try simp only [go_sem] at q
  simp (implicitDefEqProofs := false) only [go_sem, b85, k85_1, g85_1, Nat.reduceEqDiff, Nat.reduceAdd, ↓reduceIte, reduceCtorEq]
  exact q
theorem spec_numberOf_b1_of (x1 : List Int) (x5 x6 : Int) (y2 : TTree) {r : Int} (h : (if decide (x6 < (x1.length : Int)) then spec_numberOf_b2 x1 (w64 (x5 + 1)) x6 0 y2
  else some x5) = some r) : spec_numberOf_b1 x1 x5 x6 y2 = some r := by
  refine Blk.of E1_inj ?_
  refine D_start (c' := d85_1) rfl ?_
  rcases ifB h with ⟨e1, h⟩ | ⟨e1, h⟩
  · have q := Blk.run h
    try simp only [go_sem] at q
    simp (implicitDefEqProofs := false) only [go_sem, d85_1, k85_1, k85_2, k85_3, g85_1, g85_2, e1, Nat.reduceEqDiff, Nat.reduceAdd, ↓reduceIte, reduceCtorEq]
    exact q
  · cases h
    simp (implicitDefEqProofs := false) only [go_sem, d85_1, k85_1, k85_2, k85_3, g85_1, g85_2, R85, E1, e1, Nat.reduceEqDiff, Nat.reduceAdd, ↓reduceIte, reduceCtorEq]
theorem spec_numberOf_b2_of (x1 : List Int) (x5 x6 x7 : Int) (y2 : TTree) {r : Int} (h : ((rdx x1 x6).bind fun v1 =>
  if decide (x7 < v1) then ((rdx y2.Kids x7).bind fun v2 =>
   (spec_treeSize v2 1).bind fun r3 =>
   spec_numberOf_b2 x1 (w64 (x5 + r3)) x6 (w64 (x7 + 1)) y2)
  else ((rdx y2.Kids v1).bind fun v4 =>
   spec_numberOf_b1 x1 x5 (w64 (x6 + 1)) v4)) = some r) : spec_numberOf_b2 x1 x5 x6 x7 y2 = some r := by
  refine Blk.of E1_inj ?_
  refine D_start (c' := d85_2) rfl ?_
  obtain ⟨v1, e1, h⟩ := bnd h
  rcases ifB h with ⟨e2, h⟩ | ⟨e2, h⟩
  · obtain ⟨v2, e3, h⟩ := bnd h
    obtain ⟨r3, e4, h⟩ := bnd h
    have q := Blk.run h
    try simp only [go_sem] at q
    simp (implicitDefEqProofs := false) only [go_sem, d85_2, k85_1, k85_2, k85_3, g85_1, g85_2, rdp e1, rdm eI e1, e2, rdp e3, rdm (eTTree .sh) e3, spec_treeSize_run e4, Nat.reduceEqDiff, Nat.reduceAdd, Nat.reduceLeDiff, ↓reduceIte, reduceCtorEq]
    exact q
  · obtain ⟨v4, e5, h⟩ := bnd h
    have q := Blk.run h
    try simp only [go_sem] at q
    simp (implicitDefEqProofs := false) only [go_sem, d85_2, k85_1, k85_2, k85_3, g85_1, g85_2, rdp e1, rdm eI e1, e2, rdp e5, rdm (eTTree .sh) e5, Nat.reduceEqDiff, Nat.reduceAdd, Nat.reduceLeDiff, ↓reduceIte, reduceCtorEq]
    exact q
theorem spec_between_of (x0 x1 x2 x3 : Int) {r : Int} (h : (if ¬ x3 = 0 then some (w64 (x0 + (w64 ((w64 ((w64 (x1 - x0)) * x2)).tdiv x3))))
  else none) = some r) : spec_between x0 x1 x2 x3 = some r := by
  refine Fn.of L_eq E1_inj (fi := fi110) rfl rfl ?_
  simp only [fi110]
  obtain ⟨e1, h⟩ := ifP h
  cases h
  simp (implicitDefEqProofs := false) only [go_sem, b110, R110, E1, e1, Nat.reduceEqDiff, Nat.reduceAdd, ↓reduceIte, reduceCtorEq]
theorem spec_boxBetween_of (x0 x1 : TBox) (x2 x3 : Int) {r : TBox} (h : ((spec_between x0.Left x1.Left x2 x3).bind fun r1 =>
  (spec_between x0.Top x1.Top x2 x3).bind fun r2 =>
  (spec_between x0.Wide x1.Wide x2 x3).bind fun r3 =>
  (spec_between x0.High x1.High x2 x3).bind fun r4 =>
  some (⟨r1, r2, r3, r4⟩ : TBox)) = some r) : spec_boxBetween x0 x1 x2 x3 = some r := by
  refine Fn.of L_eq E19_inj (fi := fi86) rfl rfl ?_
  simp only [fi86]
  obtain ⟨r1, e1, h⟩ := bnd h
  obtain ⟨r2, e2, h⟩ := bnd h
  obtain ⟨r3, e3, h⟩ := bnd h
  obtain ⟨r4, e4, h⟩ := bnd h
  cases h
  simp (implicitDefEqProofs := false) only [go_sem, b86, R86, E19, spec_between_run e1, spec_between_run e2, spec_between_run e3, spec_between_run e4, Nat.reduceEqDiff, Nat.reduceAdd, Nat.reduceLeDiff, ↓reduceIte, reduceCtorEq]
theorem spec_moved_of (x0 x1 : TTree) (x2 : List TRule) (x3 x4 x5 : Int) {r : (List TBox)} (h : ((spec_boxes x0 x2 x3).bind fun r1 =>
  (spec_boxes x1 x2 x3).bind fun r2 =>
  spec_moved_b1 x4 x5 r1 r2 0 x0 x1) = some r) : spec_moved x0 x1 x2 x3 x4 x5 = some r := by
  refine Fn.of L_eq E16_inj (fi := fi61) rfl rfl ?_
  simp only [fi61]
  obtain ⟨r1, e1, h⟩ := bnd h
  obtain ⟨r2, e2, h⟩ := bnd h
  have q := Blk.run h
  try simp only [go_sem] at q
  simp (implicitDefEqProofs := false) only [go_sem, b61, k61_1, g61_1, spec_boxes_run e1, spec_boxes_run e2, Nat.reduceEqDiff, Nat.reduceAdd, Nat.reduceLeDiff, ↓reduceIte, reduceCtorEq, Nat.reduceBEq]
  exact q
theorem spec_moved_b1_of (x4 x5 : Int) (x13 x14 : List TBox) (x15 : Int) (y6 y7 : TTree) {r : (List TBox)} (h : (if decide (x15 < (x13.length : Int)) then ((spec_wayTo y6 0 x15).bind fun r3 =>
   (spec_wayAfter y6 y7 r3.1).bind fun r4 =>
   if r4.2 then ((spec_numberOf y7 r4.1).bind fun r5 =>
    (rdx x13 x15).bind fun v6 =>
    (rdx x14 r5).bind fun v7 =>
    (spec_boxBetween v6 v7 x4 x5).bind fun r8 =>
    spec_moved_b1 x4 x5 x13 (x14.set r5.toNat r8) (w64 (x15 + 1)) y6 y7)
   else spec_moved_b1 x4 x5 x13 x14 (w64 (x15 + 1)) y6 y7)
  else some x14) = some r) : spec_moved_b1 x4 x5 x13 x14 x15 y6 y7 = some r := by
  refine Blk.of E16_inj ?_
  refine D_start (c' := d61_1) rfl ?_
  rcases ifB h with ⟨e1, h⟩ | ⟨e1, h⟩
  · obtain ⟨r3, e2, h⟩ := bnd h
    obtain ⟨r4, e3, h⟩ := bnd h
    rcases ifB h with ⟨e4, h⟩ | ⟨e4, h⟩
    · obtain ⟨r5, e5, h⟩ := bnd h
      obtain ⟨v6, e6, h⟩ := bnd h
      obtain ⟨v7, e7, h⟩ := bnd h
      obtain ⟨r8, e8, h⟩ := bnd h
      have q := Blk.run h
      try simp only [go_sem] at q
      simp (implicitDefEqProofs := false) only [go_sem, d61_1, k61_1, g61_1, e1, spec_wayTo_run e2, spec_wayAfter_run e3, e4, spec_numberOf_run e5, rdp e6, rdm eTBox e6, rdp e7, rdm eTBox e7, spec_boxBetween_run e8, Nat.reduceEqDiff, Nat.reduceAdd, Nat.reduceLeDiff, ↓reduceIte, reduceCtorEq, Nat.reduceBEq]
      exact q
    · have q := Blk.run h
      try simp only [go_sem] at q
      simp (implicitDefEqProofs := false) only [go_sem, d61_1, k61_1, g61_1, e1, spec_wayTo_run e2, spec_wayAfter_run e3, e4, Nat.reduceEqDiff, Nat.reduceAdd, Nat.reduceLeDiff, ↓reduceIte, reduceCtorEq, Nat.reduceBEq]
      exact q
  · cases h
    simp (implicitDefEqProofs := false) only [go_sem, d61_1, k61_1, g61_1, R61, E16, e1, Nat.reduceEqDiff, Nat.reduceAdd, ↓reduceIte, reduceCtorEq]
theorem spec_BoxesMoved_of (x0 x1 : TTree) (x2 : List TRule) (x3 x4 x5 : Int) {r : (List TBox)} (h : ((spec_validTree x0).bind fun r1 =>
  if !r1 then some []
  else ((spec_validTree x1).bind fun r2 =>
   if !r2 then some []
   else ((spec_validRules x2).bind fun r3 =>
    if !r3 then some []
    else ((spec_inRange x3 0 60).bind fun r4 =>
     if !r4 then some []
     else ((spec_validStepOf x4 x5).bind fun r5 =>
      if !r5 then some []
      else ((spec_moved x0 x1 x2 x3 x4 x5).bind fun r6 =>
       some r6)))))) = some r) : spec_BoxesMoved x0 x1 x2 x3 x4 x5 = some r := by
  refine Fn.of L_eq E16_inj (fi := fi31) rfl rfl ?_
  simp only [fi31]
  obtain ⟨r1, e1, h⟩ := bnd h
  rcases ifB h with ⟨e2, h⟩ | ⟨e2, h⟩
  · cases h
    simp (implicitDefEqProofs := false) only [go_sem, b31, R31, E16, spec_validTree_run e1, e2, Nat.reduceEqDiff, Nat.reduceAdd, Nat.reduceLeDiff, ↓reduceIte, reduceCtorEq]
  · obtain ⟨r2, e3, h⟩ := bnd h
    rcases ifB h with ⟨e4, h⟩ | ⟨e4, h⟩
    · cases h
      simp (implicitDefEqProofs := false) only [go_sem, b31, R31, E16, spec_validTree_run e1, e2, spec_validTree_run e3, e4, Nat.reduceEqDiff, Nat.reduceAdd, Nat.reduceLeDiff, ↓reduceIte, reduceCtorEq]
    · obtain ⟨r3, e5, h⟩ := bnd h
      rcases ifB h with ⟨e6, h⟩ | ⟨e6, h⟩
      · cases h
        simp (implicitDefEqProofs := false) only [go_sem, b31, R31, E16, spec_validTree_run e1, e2, spec_validTree_run e3, e4, spec_validRules_run e5, e6, Nat.reduceEqDiff, Nat.reduceAdd, Nat.reduceLeDiff, ↓reduceIte, reduceCtorEq]
      · obtain ⟨r4, e7, h⟩ := bnd h
        rcases ifB h with ⟨e8, h⟩ | ⟨e8, h⟩
        · cases h
          simp (implicitDefEqProofs := false) only [go_sem, b31, R31, E16, spec_validTree_run e1, e2, spec_validTree_run e3, e4, spec_validRules_run e5, e6, spec_inRange_run e7, e8, Nat.reduceEqDiff, Nat.reduceAdd, Nat.reduceLeDiff, ↓reduceIte, reduceCtorEq]
        · obtain ⟨r5, e9, h⟩ := bnd h
          rcases ifB h with ⟨e10, h⟩ | ⟨e10, h⟩
          · cases h
            simp (implicitDefEqProofs := false) only [go_sem, b31, R31, E16, spec_validTree_run e1, e2, spec_validTree_run e3, e4, spec_validRules_run e5, e6, spec_inRange_run e7, e8, spec_validStepOf_run e9, e10, Nat.reduceEqDiff, Nat.reduceAdd, Nat.reduceLeDiff, ↓reduceIte, reduceCtorEq]
          · obtain ⟨r6, e11, h⟩ := bnd h
            cases h
            simp (implicitDefEqProofs := false) only [go_sem, b31, R31, E16, spec_validTree_run e1, e2, spec_validTree_run e3, e4, spec_validRules_run e5, e6, spec_inRange_run e7, e8, spec_validStepOf_run e9, e10, spec_moved_run e11, Nat.reduceEqDiff, Nat.reduceAdd, Nat.reduceLeDiff, ↓reduceIte, reduceCtorEq]
theorem impl_word_of (x0 : Str) {r : Bool} (h : (impl_word_b1 x0 0) = some r) : impl_word x0 = some r := by
  refine Fn.of L_eq E9_inj (fi := fi107) rfl rfl ?_
  simp only [fi107]
  have q := Blk.run h
  try simp only [go_sem] at q
  simp (implicitDefEqProofs := false) only [go_sem, b107, k107_1, g107_1, Nat.reduceEqDiff, Nat.reduceAdd, ↓reduceIte, reduceCtorEq]
  exact q
theorem impl_word_b1_of (x0 : Str) (x3 : Int) {r : Bool} (h : (if decide (x3 < (x0.length : Int)) then ((rdx x0 x3).bind fun v1 =>
   if decide (97 ≤ (v1.toNat : Int)) then (if decide ((v1.toNat : Int) ≤ 122) then impl_word_b2 x0 x3
    else (if decide (48 ≤ (v1.toNat : Int)) then (if decide ((v1.toNat : Int) ≤ 57) then impl_word_b2 x0 x3
      else (if !(decide ((v1.toNat : Int) = 32)) then some false
       else impl_word_b2 x0 x3))
     else (if !(decide ((v1.toNat : Int) = 32)) then some false
      else impl_word_b2 x0 x3)))
   else (if decide (48 ≤ (v1.toNat : Int)) then (if decide ((v1.toNat : Int) ≤ 57) then impl_word_b2 x0 x3
     else (if !(decide ((v1.toNat : Int) = 32)) then some false
      else impl_word_b2 x0 x3))
    else (if !(decide ((v1.toNat : Int) = 32)) then some false
     else impl_word_b2 x0 x3)))
  else some (decide ((x0.length : Int) ≤ 12))) = some r) : impl_word_b1 x0 x3 = some r := by
  refine Blk.of E9_inj ?_
  refine D_start (c' := d107_1) rfl ?_
  rcases ifB h with ⟨e1, h⟩ | ⟨e1, h⟩
  · obtain ⟨v1, e2, h⟩ := bnd h
    rcases ifB h with ⟨e3, h⟩ | ⟨e3, h⟩
    · rcases ifB h with ⟨e4, h⟩ | ⟨e4, h⟩
      · have q := Blk.run h
        try simp only [go_sem] at q
        simp (implicitDefEqProofs := false) only [go_sem, d107_1, k107_1, g107_1, g107_2, e1, rdp e2, rds e2, e3, e4, Nat.reduceEqDiff, Nat.reduceAdd, ↓reduceIte, reduceCtorEq]
        exact q
      · rcases ifB h with ⟨e5, h⟩ | ⟨e5, h⟩
        · rcases ifB h with ⟨e6, h⟩ | ⟨e6, h⟩
          · have q := Blk.run h
            try simp only [go_sem] at q
            simp (implicitDefEqProofs := false) only [go_sem, d107_1, k107_1, g107_1, g107_2, e1, rdp e2, rds e2, e3, e4, e5, e6, Nat.reduceEqDiff, Nat.reduceAdd, ↓reduceIte, reduceCtorEq]
            exact q
          · rcases ifB h with ⟨e7, h⟩ | ⟨e7, h⟩
            · cases h
              simp (implicitDefEqProofs := false) only [go_sem, d107_1, k107_1, g107_1, g107_2, R107, E9, e1, rdp e2, rds e2, e3, e4, e5, e6, e7, Nat.reduceEqDiff, Nat.reduceAdd, ↓reduceIte, reduceCtorEq]
            · have q := Blk.run h
              try simp only [go_sem] at q
              simp (implicitDefEqProofs := false) only [go_sem, d107_1, k107_1, g107_1, g107_2, e1, rdp e2, rds e2, e3, e4, e5, e6, e7, Nat.reduceEqDiff, Nat.reduceAdd, ↓reduceIte, reduceCtorEq]
              exact q
        · rcases ifB h with ⟨e8, h⟩ | ⟨e8, h⟩
          · cases h
            simp (implicitDefEqProofs := false) only [go_sem, d107_1, k107_1, g107_1, g107_2, R107, E9, e1, rdp e2, rds e2, e3, e4, e5, e8, Nat.reduceEqDiff, Nat.reduceAdd, ↓reduceIte, reduceCtorEq]
          · have q := Blk.run h
            try simp only [go_sem] at q
            simp (implicitDefEqProofs := false) only [go_sem, d107_1, k107_1, g107_1, g107_2, e1, rdp e2, rds e2, e3, e4, e5, e8, Nat.reduceEqDiff, Nat.reduceAdd, ↓reduceIte, reduceCtorEq]
            exact q
    · rcases ifB h with ⟨e9, h⟩ | ⟨e9, h⟩
      · rcases ifB h with ⟨e10, h⟩ | ⟨e10, h⟩
        · have q := Blk.run h
          try simp only [go_sem] at q
          simp (implicitDefEqProofs := false) only [go_sem, d107_1, k107_1, g107_1, g107_2, e1, rdp e2, rds e2, e3, e9, e10, Nat.reduceEqDiff, Nat.reduceAdd, ↓reduceIte, reduceCtorEq]
          exact q
        · rcases ifB h with ⟨e11, h⟩ | ⟨e11, h⟩
          · cases h
            simp (implicitDefEqProofs := false) only [go_sem, d107_1, k107_1, g107_1, g107_2, R107, E9, e1, rdp e2, rds e2, e3, e9, e10, e11, Nat.reduceEqDiff, Nat.reduceAdd, ↓reduceIte, reduceCtorEq]
          · have q := Blk.run h
            try simp only [go_sem] at q
            simp (implicitDefEqProofs := false) only [go_sem, d107_1, k107_1, g107_1, g107_2, e1, rdp e2, rds e2, e3, e9, e10, e11, Nat.reduceEqDiff, Nat.reduceAdd, ↓reduceIte, reduceCtorEq]
            exact q
      · rcases ifB h with ⟨e12, h⟩ | ⟨e12, h⟩
        · cases h
          simp (implicitDefEqProofs := false) only [go_sem, d107_1, k107_1, g107_1, g107_2, R107, E9, e1, rdp e2, rds e2, e3, e9, e12, Nat.reduceEqDiff, Nat.reduceAdd, ↓reduceIte, reduceCtorEq]
        · have q := Blk.run h
          try simp only [go_sem] at q
          simp (implicitDefEqProofs := false) only [go_sem, d107_1, k107_1, g107_1, g107_2, e1, rdp e2, rds e2, e3, e9, e12, Nat.reduceEqDiff, Nat.reduceAdd, ↓reduceIte, reduceCtorEq]
          exact q
  · cases h
    simp (implicitDefEqProofs := false) only [go_sem, d107_1, k107_1, g107_1, g107_2, R107, E9, e1, Nat.reduceEqDiff, Nat.reduceAdd, ↓reduceIte, reduceCtorEq]
theorem impl_word_b2_of (x0 : Str) (x3 : Int) {r : Bool} (h : (impl_word_b1 x0 (w64 (x3 + 1))) = some r) : impl_word_b2 x0 x3 = some r := by
  refine Blk.of E9_inj ?_
  refine D_start (c' := d107_2) rfl ?_
  have q := Blk.run h
  try simp only [go_sem] at q
  simp (implicitDefEqProofs := false) only [go_sem, d107_2, k107_1, g107_1, Nat.reduceEqDiff, Nat.reduceAdd, ↓reduceIte, reduceCtorEq]
  exact q
theorem strconv_Atoi_of (x0 : Str) {r : Int × Bool} (h : (if x0.length ≤ 281474976710656 then some (atoiP x0) else none) = some r) : strconv_Atoi x0 = some r := by
  refine Fn.ofExt L_eq E20_inj rfl ?_
  obtain ⟨e1, h⟩ := ifP h
  cases h
  simp only [TB, ext, extAtoi, e1, E20, Nat.reduceEqDiff, reduceIte, if_true, atoiP]
  cases Lib.atoiAll x0 <;> simp
theorem impl_within_of (x0 x1 x2 : Int) {r : Bool} (h : (if decide (x1 ≤ x0) then some (decide (x0 ≤ x2))
  else some false) = some r) : impl_within x0 x1 x2 = some r := by
  refine Fn.of L_eq E9_inj (fi := fi43) rfl rfl ?_
  simp only [fi43]
  rcases ifB h with ⟨e1, h⟩ | ⟨e1, h⟩
  · cases h
    simp (implicitDefEqProofs := false) only [go_sem, b43, R43, E9, e1, Nat.reduceEqDiff, Nat.reduceAdd, ↓reduceIte, reduceCtorEq]
  · cases h
    simp (implicitDefEqProofs := false) only [go_sem, b43, R43, E9, e1, Nat.reduceEqDiff, Nat.reduceAdd, ↓reduceIte, reduceCtorEq]
theorem strconv_Itoa_of (x0 : Int) {r : Str} (h : (if -9223372036854775808 ≤ x0 ∧ x0 ≤ 9223372036854775807 then some (Lib.itoa x0) else none) = some r) : strconv_Itoa x0 = some r := by
  refine Fn.ofExt L_eq E10_inj rfl ?_
  obtain ⟨e1, h⟩ := ifP h
  cases h
  simp only [TB, ext, extItoa, e1, E10, Nat.reduceEqDiff, reduceIte, if_true]
  simp
theorem impl_shown_of (x0 : Str) {r : Bool} (h : ((impl_word x0).bind fun r1 =>
  if r1 then some true
  else ((strconv_Atoi x0).bind fun r2 =>
   if r2.2 then ((impl_within r2.1 (-1000) 1000).bind fun r3 =>
    if r3 then ((strconv_Itoa r2.1).bind fun r4 =>
     some (decide (r4 = x0)))
    else some false)
   else some false)) = some r) : impl_shown x0 = some r := by
  refine Fn.of L_eq E9_inj (fi := fi106) rfl rfl ?_
  simp only [fi106]
  obtain ⟨r1, e1, h⟩ := bnd h
  rcases ifB h with ⟨e2, h⟩ | ⟨e2, h⟩
  · cases h
    simp (implicitDefEqProofs := false) only [go_sem, b106, R106, E9, impl_word_run e1, e2, Nat.reduceEqDiff, Nat.reduceAdd, ↓reduceIte, reduceCtorEq]
  · obtain ⟨r2, e3, h⟩ := bnd h
    rcases ifB h with ⟨e4, h⟩ | ⟨e4, h⟩
    · obtain ⟨r3, e5, h⟩ := bnd h
      rcases ifB h with ⟨e6, h⟩ | ⟨e6, h⟩
      · obtain ⟨r4, e7, h⟩ := bnd h
        cases h
        simp (implicitDefEqProofs := false) only [go_sem, b106, R106, E9, impl_word_run e1, e2, strconv_Atoi_run e3, e4, impl_within_run e5, e6, strconv_Itoa_run e7, Nat.reduceEqDiff, Nat.reduceAdd, ↓reduceIte, reduceCtorEq]
      · cases h
        simp (implicitDefEqProofs := false) only [go_sem, b106, R106, E9, impl_word_run e1, e2, strconv_Atoi_run e3, e4, impl_within_run e5, e6, Nat.reduceEqDiff, Nat.reduceAdd, ↓reduceIte, reduceCtorEq]
    · cases h
      simp (implicitDefEqProofs := false) only [go_sem, b106, R106, E9, impl_word_run e1, e2, strconv_Atoi_run e3, e4, Nat.reduceEqDiff, Nat.reduceAdd, ↓reduceIte, reduceCtorEq]
theorem impl_ValOk_of (x0 : TValue) {r : Bool} (h : (if decide (x0.Kind = 0) then (if decide (x0.Num = 0) then some (decide (x0.Text = []))
   else some false)
  else (if decide (x0.Kind = 1) then ((impl_within x0.Num (-1000) 1000).bind fun r1 =>
    if r1 then some (decide (x0.Text = []))
    else some false)
   else (if decide (x0.Kind = 2) then (if decide (x0.Num = 0) then ((impl_word x0.Text).bind fun r2 =>
      some r2)
     else some false)
    else some false))) = some r) : impl_ValOk x0 = some r := by
  refine Fn.of L_eq E9_inj (fi := fi81) rfl rfl ?_
  simp only [fi81]
  rcases ifB h with ⟨e1, h⟩ | ⟨e1, h⟩
  · rcases ifB h with ⟨e2, h⟩ | ⟨e2, h⟩
    · cases h
      simp (implicitDefEqProofs := false) only [go_sem, b81, R81, E9, e1, e2, Nat.reduceEqDiff, Nat.reduceAdd, Nat.reduceLeDiff, ↓reduceIte, reduceCtorEq]
    · cases h
      simp (implicitDefEqProofs := false) only [go_sem, b81, R81, E9, e1, e2, Nat.reduceEqDiff, Nat.reduceAdd, Nat.reduceLeDiff, ↓reduceIte, reduceCtorEq]
  · rcases ifB h with ⟨e3, h⟩ | ⟨e3, h⟩
    · obtain ⟨r1, e4, h⟩ := bnd h
      rcases ifB h with ⟨e5, h⟩ | ⟨e5, h⟩
      · cases h
        simp (implicitDefEqProofs := false) only [go_sem, b81, R81, E9, e1, e3, impl_within_run e4, e5, Nat.reduceEqDiff, Nat.reduceAdd, Nat.reduceLeDiff, ↓reduceIte, reduceCtorEq]
      · cases h
        simp (implicitDefEqProofs := false) only [go_sem, b81, R81, E9, e1, e3, impl_within_run e4, e5, Nat.reduceEqDiff, Nat.reduceAdd, Nat.reduceLeDiff, ↓reduceIte, reduceCtorEq]
    · rcases ifB h with ⟨e6, h⟩ | ⟨e6, h⟩
      · rcases ifB h with ⟨e7, h⟩ | ⟨e7, h⟩
        · obtain ⟨r2, e8, h⟩ := bnd h
          cases h
          simp (implicitDefEqProofs := false) only [go_sem, b81, R81, E9, e1, e3, e6, e7, impl_word_run e8, Nat.reduceEqDiff, Nat.reduceAdd, Nat.reduceLeDiff, ↓reduceIte, reduceCtorEq]
        · cases h
          simp (implicitDefEqProofs := false) only [go_sem, b81, R81, E9, e1, e3, e6, e7, Nat.reduceEqDiff, Nat.reduceAdd, Nat.reduceLeDiff, ↓reduceIte, reduceCtorEq]
      · cases h
        simp (implicitDefEqProofs := false) only [go_sem, b81, R81, E9, e1, e3, e6, Nat.reduceEqDiff, Nat.reduceAdd, Nat.reduceLeDiff, ↓reduceIte, reduceCtorEq]
end Go.Fw.Law
