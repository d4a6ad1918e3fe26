/- What the functions come to. Conditions: none. -/
import Derived.Test.YtjldolmokfnkoaaGreatDoorLyD
namespace Go.Fw.Law
open Go Go.Fw
theorem spec_validShown_of (x0 : Str) {r : Bool} (h : (if decide ((x0.length : Int) = 0) then ((spec_validWord x0).bind fun r1 =>
   some r1)
  else ((rdx x0 0).bind fun v2 =>
   if !(decide ((v2.toNat : Int) = 45)) then ((spec_validWord x0).bind fun r3 =>
    some r3)
   else spec_validShown_b1 x0 1)) = some r) : spec_validShown x0 = some r := by
  refine Fn.of L_eq E9_inj (fi := fi99) rfl rfl ?_
  simp only [fi99]
  rcases ifB h with ⟨e1, h⟩ | ⟨e1, h⟩
  · obtain ⟨r1, e2, h⟩ := bnd h
    cases h
    simp (implicitDefEqProofs := false) only [go_sem, b99, k99_1, g99_1, R99, E9, e1, spec_validWord_run e2, Nat.reduceEqDiff, Nat.reduceAdd, ↓reduceIte, reduceCtorEq]
  · obtain ⟨v2, e3, h⟩ := bnd h
    have me3 := rds e3
    try simp only [go_sem] at me3
    rcases ifB h with ⟨e4, h⟩ | ⟨e4, h⟩
    · obtain ⟨r3, e5, h⟩ := bnd h
      cases h
      simp (implicitDefEqProofs := false) only [go_sem, b99, k99_1, g99_1, R99, E9, e1, rdp e3, me3, e4, spec_validWord_run e5, Nat.reduceEqDiff, Nat.reduceAdd, ↓reduceIte, reduceCtorEq]
    · have q := Blk.run h
      try simp only [go_sem] at q
      simp (implicitDefEqProofs := false) only [go_sem, b99, k99_1, g99_1, e1, rdp e3, me3, e4, Nat.reduceEqDiff, Nat.reduceAdd, ↓reduceIte, reduceCtorEq]
      exact q
theorem spec_validShown_b1_of (x0 : Str) (x3 : Int) {r : Bool} (h : (if decide (x3 ≤ 1000) then ((spec_decimal (w64 (-x3))).bind fun r4 =>
   if decide (x0 = r4) then some true
   else spec_validShown_b1 x0 (w64 (x3 + 1)))
  else some false) = some r) : spec_validShown_b1 x0 x3 = some r := by
  refine Blk.of E9_inj ?_
  refine D_start (c' := d99_1) rfl ?_
  rcases ifB h with ⟨e1, h⟩ | ⟨e1, h⟩
  · obtain ⟨r4, e2, h⟩ := bnd h
    rcases ifB h with ⟨e3, h⟩ | ⟨e3, h⟩
    · cases h
      simp (implicitDefEqProofs := false) only [go_sem, d99_1, k99_1, g99_1, R99, E9, e1, spec_decimal_run e2, e3, Nat.reduceEqDiff, Nat.reduceAdd, ↓reduceIte, reduceCtorEq]
    · have q := Blk.run h
      try simp only [go_sem] at q
      simp (implicitDefEqProofs := false) only [go_sem, d99_1, k99_1, g99_1, e1, spec_decimal_run e2, e3, Nat.reduceEqDiff, Nat.reduceAdd, ↓reduceIte, reduceCtorEq]
      exact q
  · cases h
    simp (implicitDefEqProofs := false) only [go_sem, d99_1, k99_1, g99_1, R99, E9, e1, Nat.reduceEqDiff, Nat.reduceAdd, ↓reduceIte, reduceCtorEq]
theorem spec_inRange_of (x0 x1 x2 : Int) {r : Bool} (h : (if decide (x1 ≤ x0) then some (decide (x0 ≤ x2))
  else some false) = some r) : spec_inRange x0 x1 x2 = some r := by
  refine Fn.of L_eq E9_inj (fi := fi37) rfl rfl ?_
  simp only [fi37]
  rcases ifB h with ⟨e1, h⟩ | ⟨e1, h⟩
  · cases h
    simp (implicitDefEqProofs := false) only [go_sem, b37, R37, E9, e1, Nat.reduceEqDiff, Nat.reduceAdd, ↓reduceIte, reduceCtorEq]
  · cases h
    simp (implicitDefEqProofs := false) only [go_sem, b37, R37, E9, e1, Nat.reduceEqDiff, Nat.reduceAdd, ↓reduceIte, reduceCtorEq]
theorem spec_validValue_of (x0 : TValue) {r : Bool} (h : (if decide (x0.Kind = 0) then (if decide (x0.Num = 0) then some (decide (x0.Text = []))
   else some false)
  else (if decide (x0.Kind = 1) then ((spec_inRange x0.Num (-1000) 1000).bind fun r1 =>
    if r1 then some (decide (x0.Text = []))
    else some false)
   else (if decide (x0.Kind = 2) then (if decide (x0.Num = 0) then ((spec_validWord x0.Text).bind fun r2 =>
      some r2)
     else some false)
    else some false))) = some r) : spec_validValue x0 = some r := by
  refine Fn.of L_eq E9_inj (fi := fi102) rfl rfl ?_
  simp only [fi102]
  rcases ifB h with ⟨e1, h⟩ | ⟨e1, h⟩
  · rcases ifB h with ⟨e2, h⟩ | ⟨e2, h⟩
    · cases h
      simp (implicitDefEqProofs := false) only [go_sem, b102, R102, E9, e1, e2, Nat.reduceEqDiff, Nat.reduceAdd, Nat.reduceLeDiff, ↓reduceIte, reduceCtorEq]
    · cases h
      simp (implicitDefEqProofs := false) only [go_sem, b102, R102, E9, e1, e2, Nat.reduceEqDiff, Nat.reduceAdd, Nat.reduceLeDiff, ↓reduceIte, reduceCtorEq]
  · rcases ifB h with ⟨e3, h⟩ | ⟨e3, h⟩
    · obtain ⟨r1, e4, h⟩ := bnd h
      rcases ifB h with ⟨e5, h⟩ | ⟨e5, h⟩
      · cases h
        simp (implicitDefEqProofs := false) only [go_sem, b102, R102, E9, e1, e3, spec_inRange_run e4, e5, Nat.reduceEqDiff, Nat.reduceAdd, Nat.reduceLeDiff, ↓reduceIte, reduceCtorEq]
      · cases h
        simp (implicitDefEqProofs := false) only [go_sem, b102, R102, E9, e1, e3, spec_inRange_run e4, e5, Nat.reduceEqDiff, Nat.reduceAdd, Nat.reduceLeDiff, ↓reduceIte, reduceCtorEq]
    · rcases ifB h with ⟨e6, h⟩ | ⟨e6, h⟩
      · rcases ifB h with ⟨e7, h⟩ | ⟨e7, h⟩
        · obtain ⟨r2, e8, h⟩ := bnd h
          cases h
          simp (implicitDefEqProofs := false) only [go_sem, b102, R102, E9, e1, e3, e6, e7, spec_validWord_run e8, Nat.reduceEqDiff, Nat.reduceAdd, Nat.reduceLeDiff, ↓reduceIte, reduceCtorEq]
        · cases h
          simp (implicitDefEqProofs := false) only [go_sem, b102, R102, E9, e1, e3, e6, e7, Nat.reduceEqDiff, Nat.reduceAdd, Nat.reduceLeDiff, ↓reduceIte, reduceCtorEq]
      · cases h
        simp (implicitDefEqProofs := false) only [go_sem, b102, R102, E9, e1, e3, e6, Nat.reduceEqDiff, Nat.reduceAdd, Nat.reduceLeDiff, ↓reduceIte, reduceCtorEq]
theorem spec_validPropList_of (x0 : List TProp) {r : Bool} (h : (spec_validPropList_b1 x0 0) = some r) : spec_validPropList x0 = some r := by
  refine Fn.of L_eq E9_inj (fi := fi100) rfl rfl ?_
  simp only [fi100]
  have q := Blk.run h
  try simp only [go_sem] at q
  simp (implicitDefEqProofs := false) only [go_sem, b100, k100_1, g100_1, Nat.reduceEqDiff, Nat.reduceAdd, ↓reduceIte, reduceCtorEq]
  exact q
theorem spec_validPropList_b1_of (x0 : List TProp) (x3 : Int) {r : Bool} (h : (if decide (x3 < (x0.length : Int)) then ((rdx x0 x3).bind fun v1 =>
   (spec_inRange v1.Name 0 3).bind fun r2 =>
   if !r2 then some false
   else ((spec_validValue v1.Val).bind fun r3 =>
    if !r3 then some false
    else (if decide (0 < x3) then ((rdx x0 (w64 (x3 - 1))).bind fun v4 =>
      if decide (v1.Name ≤ v4.Name) then some false
      else spec_validPropList_b1 x0 (w64 (x3 + 1)))
     else spec_validPropList_b1 x0 (w64 (x3 + 1)))))
  else some true) = some r) : spec_validPropList_b1 x0 x3 = some r := by
  refine Blk.of E9_inj ?_
  refine D_start (c' := d100_1) rfl ?_
  rcases ifB h with ⟨e1, h⟩ | ⟨e1, h⟩
  · obtain ⟨v1, e2, h⟩ := bnd h
    obtain ⟨r2, e3, h⟩ := bnd h
    rcases ifB h with ⟨e4, h⟩ | ⟨e4, h⟩
    · cases h
      simp (implicitDefEqProofs := false) only [go_sem, d100_1, k100_1, g100_1, R100, E9, e1, rdp e2, rdm eTProp e2, spec_inRange_run e3, e4, Nat.reduceEqDiff, Nat.reduceAdd, Nat.reduceLeDiff, ↓reduceIte, reduceCtorEq]
    · obtain ⟨r3, e5, h⟩ := bnd h
      rcases ifB h with ⟨e6, h⟩ | ⟨e6, h⟩
      · cases h
        simp (implicitDefEqProofs := false) only [go_sem, d100_1, k100_1, g100_1, R100, E9, e1, rdp e2, rdm eTProp e2, spec_inRange_run e3, e4, spec_validValue_run e5, e6, Nat.reduceEqDiff, Nat.reduceAdd, Nat.reduceLeDiff, ↓reduceIte, reduceCtorEq]
      · rcases ifB h with ⟨e7, h⟩ | ⟨e7, h⟩
        · obtain ⟨v4, e8, h⟩ := bnd h
          rcases ifB h with ⟨e9, h⟩ | ⟨e9, h⟩
          · cases h
            simp (implicitDefEqProofs := false) only [go_sem, d100_1, k100_1, g100_1, R100, E9, e1, rdp e2, rdm eTProp e2, spec_inRange_run e3, e4, spec_validValue_run e5, e6, e7, rdp e8, rdm eTProp e8, e9, Nat.reduceEqDiff, Nat.reduceAdd, Nat.reduceLeDiff, ↓reduceIte, reduceCtorEq]
          · have q := Blk.run h
            try simp only [go_sem] at q
            simp (implicitDefEqProofs := false) only [go_sem, d100_1, k100_1, g100_1, e1, rdp e2, rdm eTProp e2, spec_inRange_run e3, e4, spec_validValue_run e5, e6, e7, rdp e8, rdm eTProp e8, e9, Nat.reduceEqDiff, Nat.reduceAdd, Nat.reduceLeDiff, ↓reduceIte, reduceCtorEq]
            exact q
        · have q := Blk.run h
          try simp only [go_sem] at q
          simp (implicitDefEqProofs := false) only [go_sem, d100_1, k100_1, g100_1, e1, rdp e2, rdm eTProp e2, spec_inRange_run e3, e4, spec_validValue_run e5, e6, e7, Nat.reduceEqDiff, Nat.reduceAdd, Nat.reduceLeDiff, ↓reduceIte, reduceCtorEq]
          exact q
  · cases h
    simp (implicitDefEqProofs := false) only [go_sem, d100_1, k100_1, g100_1, R100, E9, e1, Nat.reduceEqDiff, Nat.reduceAdd, ↓reduceIte, reduceCtorEq]
theorem spec_keysApart_of (x0 : List TTree) {r : Bool} (h : (spec_keysApart_b1 x0 0) = some r) : spec_keysApart x0 = some r := by
  refine Fn.of L_eq E9_inj (fi := fi101) rfl rfl ?_
  simp only [fi101]
  have q := Blk.run h
  try simp only [go_sem] at q
  simp (implicitDefEqProofs := false) only [go_sem, b101, k101_1, g101_1, Nat.reduceEqDiff, Nat.reduceAdd, ↓reduceIte, reduceCtorEq]
  exact q
theorem spec_keysApart_b1_of (x0 : List TTree) (x3 : Int) {r : Bool} (h : (if decide (x3 < (x0.length : Int)) then spec_keysApart_b2 x0 x3 0
  else some true) = some r) : spec_keysApart_b1 x0 x3 = some r := by
  refine Blk.of E9_inj ?_
  refine D_start (c' := d101_1) rfl ?_
  rcases ifB h with ⟨e1, h⟩ | ⟨e1, h⟩
  · have q := Blk.run h
    try simp only [go_sem] at q
    simp (implicitDefEqProofs := false) only [go_sem, d101_1, k101_1, k101_2, g101_1, g101_2, e1, Nat.reduceEqDiff, Nat.reduceAdd, ↓reduceIte, reduceCtorEq]
    exact q
  · cases h
    simp (implicitDefEqProofs := false) only [go_sem, d101_1, k101_1, k101_2, g101_1, g101_2, R101, E9, e1, Nat.reduceEqDiff, Nat.reduceAdd, ↓reduceIte, reduceCtorEq]
theorem spec_keysApart_b2_of (x0 : List TTree) (x3 x4 : Int) {r : Bool} (h : (if decide (x4 < x3) then ((rdx x0 x3).bind fun v1 =>
   if !(decide (v1.Key = (-1))) then ((rdx x0 x4).bind fun v2 =>
    if decide (v1.Key = v2.Key) then some false
    else spec_keysApart_b2 x0 x3 (w64 (x4 + 1)))
   else spec_keysApart_b2 x0 x3 (w64 (x4 + 1)))
  else spec_keysApart_b1 x0 (w64 (x3 + 1))) = some r) : spec_keysApart_b2 x0 x3 x4 = some r := by
  refine Blk.of E9_inj ?_
  refine D_start (c' := d101_2) rfl ?_
  rcases ifB h with ⟨e1, h⟩ | ⟨e1, h⟩
  · obtain ⟨v1, e2, h⟩ := bnd h
    rcases ifB h with ⟨e3, h⟩ | ⟨e3, h⟩
    · obtain ⟨v2, e4, h⟩ := bnd h
      rcases ifB h with ⟨e5, h⟩ | ⟨e5, h⟩
      · cases h
        simp (implicitDefEqProofs := false) only [go_sem, d101_2, k101_1, k101_2, g101_1, g101_2, R101, E9, e1, rdp e2, rdm (eTTree .sh) e2, e3, rdp e4, rdm (eTTree .sh) e4, e5, Nat.reduceEqDiff, Nat.reduceAdd, Nat.reduceLeDiff, ↓reduceIte, reduceCtorEq]
      · have q := Blk.run h
        try simp only [go_sem] at q
        simp (implicitDefEqProofs := false) only [go_sem, d101_2, k101_1, k101_2, g101_1, g101_2, e1, rdp e2, rdm (eTTree .sh) e2, e3, rdp e4, rdm (eTTree .sh) e4, e5, Nat.reduceEqDiff, Nat.reduceAdd, Nat.reduceLeDiff, ↓reduceIte, reduceCtorEq]
        exact q
    · have q := Blk.run h
      try simp only [go_sem] at q
      simp (implicitDefEqProofs := false) only [go_sem, d101_2, k101_1, k101_2, g101_1, g101_2, e1, rdp e2, rdm (eTTree .sh) e2, e3, Nat.reduceEqDiff, Nat.reduceAdd, Nat.reduceLeDiff, ↓reduceIte, reduceCtorEq]
      exact q
  · have q := Blk.run h
    try simp only [go_sem] at q
    simp (implicitDefEqProofs := false) only [go_sem, d101_2, k101_1, k101_2, g101_1, g101_2, e1, Nat.reduceEqDiff, Nat.reduceAdd, ↓reduceIte, reduceCtorEq]
    exact q
theorem spec_validPart_of (x0 : TTree) {r : Bool} (h : (if decide (x0.Tag = (-1)) then (if decide (x0.Key = (-1)) then (if decide ((x0.Props.length : Int) = 0) then (if decide ((x0.Kids.length : Int) = 0) then ((spec_validShown x0.Text).bind fun r1 =>
      some r1)
     else some false)
    else some false)
   else some false)
  else ((spec_inRange x0.Tag 0 4).bind fun r2 =>
   if !r2 then some false
   else ((spec_inRange x0.Key (-1) 99).bind fun r3 =>
    if !r3 then some false
    else (if !(decide (x0.Text = [])) then some false
     else ((spec_validPropList x0.Props).bind fun r4 =>
      if !r4 then some false
      else spec_validPart_b1 0 x0))))) = some r) : spec_validPart x0 = some r := by
  refine Fn.of L_eq E9_inj (fi := fi77) rfl rfl ?_
  simp only [fi77]
  rcases ifB h with ⟨e1, h⟩ | ⟨e1, h⟩
  · rcases ifB h with ⟨e2, h⟩ | ⟨e2, h⟩
    · rcases ifB h with ⟨e3, h⟩ | ⟨e3, h⟩
      · rcases ifB h with ⟨e4, h⟩ | ⟨e4, h⟩
        · obtain ⟨r1, e5, h⟩ := bnd h
          cases h
          simp (implicitDefEqProofs := false) only [go_sem, b77, k77_1, g77_1, R77, E9, e1, e2, e3, e4, spec_validShown_run e5, Nat.reduceEqDiff, Nat.reduceAdd, Nat.reduceLeDiff, ↓reduceIte, reduceCtorEq]
        · cases h
          simp (implicitDefEqProofs := false) only [go_sem, b77, k77_1, g77_1, R77, E9, e1, e2, e3, e4, Nat.reduceEqDiff, Nat.reduceAdd, Nat.reduceLeDiff, ↓reduceIte, reduceCtorEq]
      · cases h
        simp (implicitDefEqProofs := false) only [go_sem, b77, k77_1, g77_1, R77, E9, e1, e2, e3, Nat.reduceEqDiff, Nat.reduceAdd, Nat.reduceLeDiff, ↓reduceIte, reduceCtorEq]
    · cases h
      simp (implicitDefEqProofs := false) only [go_sem, b77, k77_1, g77_1, R77, E9, e1, e2, Nat.reduceEqDiff, Nat.reduceAdd, Nat.reduceLeDiff, ↓reduceIte, reduceCtorEq]
  · obtain ⟨r2, e6, h⟩ := bnd h
    rcases ifB h with ⟨e7, h⟩ | ⟨e7, h⟩
    · cases h
      simp (implicitDefEqProofs := false) only [go_sem, b77, k77_1, g77_1, R77, E9, e1, spec_inRange_run e6, e7, Nat.reduceEqDiff, Nat.reduceAdd, Nat.reduceLeDiff, ↓reduceIte, reduceCtorEq]
    · obtain ⟨r3, e8, h⟩ := bnd h
      rcases ifB h with ⟨e9, h⟩ | ⟨e9, h⟩
      · cases h
        simp (implicitDefEqProofs := false) only [go_sem, b77, k77_1, g77_1, R77, E9, e1, spec_inRange_run e6, e7, spec_inRange_run e8, e9, Nat.reduceEqDiff, Nat.reduceAdd, Nat.reduceLeDiff, ↓reduceIte, reduceCtorEq]
      · rcases ifB h with ⟨e10, h⟩ | ⟨e10, h⟩
        · cases h
          simp (implicitDefEqProofs := false) only [go_sem, b77, k77_1, g77_1, R77, E9, e1, spec_inRange_run e6, e7, spec_inRange_run e8, e9, e10, Nat.reduceEqDiff, Nat.reduceAdd, Nat.reduceLeDiff, ↓reduceIte, reduceCtorEq]
        · obtain ⟨r4, e11, h⟩ := bnd h
          rcases ifB h with ⟨e12, h⟩ | ⟨e12, h⟩
          · cases h
            simp (implicitDefEqProofs := false) only [go_sem, b77, k77_1, g77_1, R77, E9, e1, spec_inRange_run e6, e7, spec_inRange_run e8, e9, e10, spec_validPropList_run e11, e12, Nat.reduceEqDiff, Nat.reduceAdd, Nat.reduceLeDiff, ↓reduceIte, reduceCtorEq]
          · have q := Blk.run h
            try simp only [go_sem] at q
            simp (implicitDefEqProofs := false) only [go_sem, b77, k77_1, g77_1, e1, spec_inRange_run e6, e7, spec_inRange_run e8, e9, e10, spec_validPropList_run e11, e12, Nat.reduceEqDiff, Nat.reduceAdd, Nat.reduceLeDiff, ↓reduceIte, reduceCtorEq]
            exact q
theorem spec_validPart_b1_of (x3 : Int) (y1 : TTree) {r : Bool} (h : (if decide (x3 < (y1.Kids.length : Int)) then ((rdx y1.Kids x3).bind fun v5 =>
   (spec_validPart v5).bind fun r6 =>
   if !r6 then some false
   else spec_validPart_b1 (w64 (x3 + 1)) y1)
  else ((spec_keysApart y1.Kids).bind fun r7 =>
   some r7)) = some r) : spec_validPart_b1 x3 y1 = some r := by
  refine Blk.of E9_inj ?_
  refine D_start (c' := d77_1) rfl ?_
  rcases ifB h with ⟨e1, h⟩ | ⟨e1, h⟩
  · obtain ⟨v5, e2, h⟩ := bnd h
    obtain ⟨r6, e3, h⟩ := bnd h
    rcases ifB h with ⟨e4, h⟩ | ⟨e4, h⟩
    · cases h
      simp (implicitDefEqProofs := false) only [go_sem, d77_1, k77_1, g77_1, R77, E9, e1, rdp e2, rdm (eTTree .sh) e2, spec_validPart_run e3, e4, Nat.reduceEqDiff, Nat.reduceAdd, Nat.reduceLeDiff, ↓reduceIte, reduceCtorEq]
    · have q := Blk.run h
      try simp only [go_sem] at q
      simp (implicitDefEqProofs := false) only [go_sem, d77_1, k77_1, g77_1, e1, rdp e2, rdm (eTTree .sh) e2, spec_validPart_run e3, e4, Nat.reduceEqDiff, Nat.reduceAdd, Nat.reduceLeDiff, ↓reduceIte, reduceCtorEq]
      exact q
  · obtain ⟨r7, e5, h⟩ := bnd h
    cases h
    simp (implicitDefEqProofs := false) only [go_sem, d77_1, k77_1, g77_1, R77, E9, e1, spec_keysApart_run e5, Nat.reduceEqDiff, Nat.reduceAdd, Nat.reduceLeDiff, ↓reduceIte, reduceCtorEq]
theorem spec_validTree_of (x0 : TTree) {r : Bool} (h : ((spec_treeSize x0 1).bind fun r1 =>
  if decide (r1 ≤ 200) then ((spec_validPart x0).bind fun r2 =>
   some r2)
  else some false) = some r) : spec_validTree x0 = some r := by
  refine Fn.of L_eq E9_inj (fi := fi48) rfl rfl ?_
  simp only [fi48]
  obtain ⟨r1, e1, h⟩ := bnd h
  rcases ifB h with ⟨e2, h⟩ | ⟨e2, h⟩
  · obtain ⟨r2, e3, h⟩ := bnd h
    cases h
    simp (implicitDefEqProofs := false) only [go_sem, b48, R48, E9, spec_treeSize_run e1, e2, spec_validPart_run e3, Nat.reduceEqDiff, Nat.reduceAdd, Nat.reduceLeDiff, ↓reduceIte, reduceCtorEq]
  · cases h
    simp (implicitDefEqProofs := false) only [go_sem, b48, R48, E9, spec_treeSize_run e1, e2, Nat.reduceEqDiff, Nat.reduceAdd, Nat.reduceLeDiff, ↓reduceIte, reduceCtorEq]
theorem spec_validRule_of (x0 : TRule) {r : Bool} (h : ((spec_inRange x0.Tag (-1) 4).bind fun r1 =>
  if r1 then ((spec_inRange x0.Above (-1) 4).bind fun r2 =>
   if r2 then ((spec_inRange x0.Name (-1) 3).bind fun r3 =>
    if r3 then ((spec_validValue x0.Val).bind fun r4 =>
     if r4 then (if !(decide (x0.Name = (-1))) then ((spec_inRange x0.Look 0 4).bind fun r5 =>
       if r5 then ((spec_inRange x0.Give 0 60).bind fun r6 =>
        some r6)
       else some false)
      else (if (decide (x0.Val.Kind = 0) && (decide (x0.Val.Num = 0) && decide (x0.Val.Text = []))) then ((spec_inRange x0.Look 0 4).bind fun r7 =>
        if r7 then ((spec_inRange x0.Give 0 60).bind fun r8 =>
         some r8)
        else some false)
       else some false))
     else some false)
    else some false)
   else some false)
  else some false) = some r) : spec_validRule x0 = some r := by
  refine Fn.of L_eq E9_inj (fi := fi78) rfl rfl ?_
  simp only [fi78]
  obtain ⟨r1, e1, h⟩ := bnd h
  rcases ifB h with ⟨e2, h⟩ | ⟨e2, h⟩
  · obtain ⟨r2, e3, h⟩ := bnd h
    rcases ifB h with ⟨e4, h⟩ | ⟨e4, h⟩
    · obtain ⟨r3, e5, h⟩ := bnd h
      rcases ifB h with ⟨e6, h⟩ | ⟨e6, h⟩
      · obtain ⟨r4, e7, h⟩ := bnd h
        rcases ifB h with ⟨e8, h⟩ | ⟨e8, h⟩
        · rcases ifB h with ⟨e9, h⟩ | ⟨e9, h⟩
          · obtain ⟨r5, e10, h⟩ := bnd h
            rcases ifB h with ⟨e11, h⟩ | ⟨e11, h⟩
            · obtain ⟨r6, e12, h⟩ := bnd h
              cases h
              simp (implicitDefEqProofs := false) only [go_sem, b78, R78, E9, spec_inRange_run e1, e2, spec_inRange_run e3, e4, spec_inRange_run e5, e6, spec_validValue_run e7, e8, e9, spec_inRange_run e10, e11, spec_inRange_run e12, Nat.reduceEqDiff, Nat.reduceAdd, Nat.reduceLeDiff, ↓reduceIte, reduceCtorEq]
            · cases h
              simp (implicitDefEqProofs := false) only [go_sem, b78, R78, E9, spec_inRange_run e1, e2, spec_inRange_run e3, e4, spec_inRange_run e5, e6, spec_validValue_run e7, e8, e9, spec_inRange_run e10, e11, Nat.reduceEqDiff, Nat.reduceAdd, Nat.reduceLeDiff, ↓reduceIte, reduceCtorEq]
          · rcases ifB h with ⟨e13, h⟩ | ⟨e13, h⟩
            · obtain ⟨r7, e14, h⟩ := bnd h
              rcases ifB h with ⟨e15, h⟩ | ⟨e15, h⟩
              · obtain ⟨r8, e16, h⟩ := bnd h
                cases h
                simp (implicitDefEqProofs := false) only [go_sem, b78, R78, E9, spec_inRange_run e1, e2, spec_inRange_run e3, e4, spec_inRange_run e5, e6, spec_validValue_run e7, e8, e9, e13, spec_inRange_run e14, e15, spec_inRange_run e16, Nat.reduceEqDiff, Nat.reduceAdd, Nat.reduceLeDiff, ↓reduceIte, reduceCtorEq]
              · cases h
                simp (implicitDefEqProofs := false) only [go_sem, b78, R78, E9, spec_inRange_run e1, e2, spec_inRange_run e3, e4, spec_inRange_run e5, e6, spec_validValue_run e7, e8, e9, e13, spec_inRange_run e14, e15, Nat.reduceEqDiff, Nat.reduceAdd, Nat.reduceLeDiff, ↓reduceIte, reduceCtorEq]
            · cases h
              simp (implicitDefEqProofs := false) only [go_sem, b78, R78, E9, spec_inRange_run e1, e2, spec_inRange_run e3, e4, spec_inRange_run e5, e6, spec_validValue_run e7, e8, e9, e13, Nat.reduceEqDiff, Nat.reduceAdd, Nat.reduceLeDiff, ↓reduceIte, reduceCtorEq]
        · cases h
          simp (implicitDefEqProofs := false) only [go_sem, b78, R78, E9, spec_inRange_run e1, e2, spec_inRange_run e3, e4, spec_inRange_run e5, e6, spec_validValue_run e7, e8, Nat.reduceEqDiff, Nat.reduceAdd, Nat.reduceLeDiff, ↓reduceIte, reduceCtorEq]
      · cases h
        simp (implicitDefEqProofs := false) only [go_sem, b78, R78, E9, spec_inRange_run e1, e2, spec_inRange_run e3, e4, spec_inRange_run e5, e6, Nat.reduceEqDiff, Nat.reduceAdd, Nat.reduceLeDiff, ↓reduceIte, reduceCtorEq]
    · cases h
      simp (implicitDefEqProofs := false) only [go_sem, b78, R78, E9, spec_inRange_run e1, e2, spec_inRange_run e3, e4, Nat.reduceEqDiff, Nat.reduceAdd, Nat.reduceLeDiff, ↓reduceIte, reduceCtorEq]
  · cases h
    simp (implicitDefEqProofs := false) only [go_sem, b78, R78, E9, spec_inRange_run e1, e2, Nat.reduceEqDiff, Nat.reduceAdd, Nat.reduceLeDiff, ↓reduceIte, reduceCtorEq]
theorem spec_validRules_of (x0 : List TRule) {r : Bool} (h : (if decide (12 < (x0.length : Int)) then some false
  else spec_validRules_b1 x0 0) = some r) : spec_validRules x0 = some r := by
  refine Fn.of L_eq E9_inj (fi := fi49) rfl rfl ?_
  simp only [fi49]
  rcases ifB h with ⟨e1, h⟩ | ⟨e1, h⟩
  · cases h
    simp (implicitDefEqProofs := false) only [go_sem, b49, k49_1, g49_1, R49, E9, e1, Nat.reduceEqDiff, Nat.reduceAdd, ↓reduceIte, reduceCtorEq]
  · have q := Blk.run h
    try simp only [go_sem] at q
    simp (implicitDefEqProofs := false) only [go_sem, b49, k49_1, g49_1, e1, Nat.reduceEqDiff, Nat.reduceAdd, ↓reduceIte, reduceCtorEq]
    exact q
theorem spec_validRules_b1_of (x0 : List TRule) (x3 : Int) {r : Bool} (h : (if decide (x3 < (x0.length : Int)) then ((rdx x0 x3).bind fun v1 =>
   (spec_validRule v1).bind fun r2 =>
   if !r2 then some false
   else spec_validRules_b1 x0 (w64 (x3 + 1)))
  else some true) = some r) : spec_validRules_b1 x0 x3 = some r := by
  refine Blk.of E9_inj ?_
  refine D_start (c' := d49_1) rfl ?_
  rcases ifB h with ⟨e1, h⟩ | ⟨e1, h⟩
  · obtain ⟨v1, e2, h⟩ := bnd h
    obtain ⟨r2, e3, h⟩ := bnd h
    rcases ifB h with ⟨e4, h⟩ | ⟨e4, h⟩
    · cases h
      simp (implicitDefEqProofs := false) only [go_sem, d49_1, k49_1, g49_1, R49, E9, e1, rdp e2, rdm eTRule e2, spec_validRule_run e3, e4, Nat.reduceEqDiff, Nat.reduceAdd, Nat.reduceLeDiff, ↓reduceIte, reduceCtorEq]
    · have q := Blk.run h
      try simp only [go_sem] at q
      simp (implicitDefEqProofs := false) only [go_sem, d49_1, k49_1, g49_1, e1, rdp e2, rdm eTRule e2, spec_validRule_run e3, e4, Nat.reduceEqDiff, Nat.reduceAdd, Nat.reduceLeDiff, ↓reduceIte, reduceCtorEq]
      exact q
  · cases h
    simp (implicitDefEqProofs := false) only [go_sem, d49_1, k49_1, g49_1, R49, E9, e1, Nat.reduceEqDiff, Nat.reduceAdd, ↓reduceIte, reduceCtorEq]
theorem spec_validScreen_of (x0 : TTree) (x1 : List TRule) (x2 x3 : Int) {r : Bool} (h : ((spec_validTree x0).bind fun r1 =>
  if r1 then ((spec_validRules x1).bind fun r2 =>
   if r2 then ((spec_inRange x2 0 60).bind fun r3 =>
    if r3 then ((spec_inRange x3 0 30).bind fun r4 =>
     some r4)
    else some false)
   else some false)
  else some false) = some r) : spec_validScreen x0 x1 x2 x3 = some r := by
  refine Fn.of L_eq E9_inj (fi := fi36) rfl rfl ?_
  simp only [fi36]
  obtain ⟨r1, e1, h⟩ := bnd h
  rcases ifB h with ⟨e2, h⟩ | ⟨e2, h⟩
  · obtain ⟨r2, e3, h⟩ := bnd h
    rcases ifB h with ⟨e4, h⟩ | ⟨e4, h⟩
    · obtain ⟨r3, e5, h⟩ := bnd h
      rcases ifB h with ⟨e6, h⟩ | ⟨e6, h⟩
      · obtain ⟨r4, e7, h⟩ := bnd h
        cases h
        simp (implicitDefEqProofs := false) only [go_sem, b36, R36, E9, spec_validTree_run e1, e2, spec_validRules_run e3, e4, spec_inRange_run e5, e6, spec_inRange_run e7, Nat.reduceEqDiff, Nat.reduceAdd, Nat.reduceLeDiff, ↓reduceIte, reduceCtorEq]
      · cases h
        simp (implicitDefEqProofs := false) only [go_sem, b36, R36, E9, spec_validTree_run e1, e2, spec_validRules_run e3, e4, spec_inRange_run e5, e6, Nat.reduceEqDiff, Nat.reduceAdd, Nat.reduceLeDiff, ↓reduceIte, reduceCtorEq]
    · cases h
      simp (implicitDefEqProofs := false) only [go_sem, b36, R36, E9, spec_validTree_run e1, e2, spec_validRules_run e3, e4, Nat.reduceEqDiff, Nat.reduceAdd, Nat.reduceLeDiff, ↓reduceIte, reduceCtorEq]
  · cases h
    simp (implicitDefEqProofs := false) only [go_sem, b36, R36, E9, spec_validTree_run e1, e2, Nat.reduceEqDiff, Nat.reduceAdd, Nat.reduceLeDiff, ↓reduceIte, reduceCtorEq]
theorem spec_textLooks_of (x0 : List Int) {r : (List Int)} (h : ((rdx x0 4).bind fun v1 =>
  some ([0, 0, 0, 0, v1] : List Int)) = some r) : spec_textLooks x0 = some r := by
  refine Fn.of L_eq E11_inj (fi := fi111) rfl rfl ?_
  simp only [fi111]
  obtain ⟨v1, e1, h⟩ := bnd h
  have me1 := rdm eI e1
  try simp only [go_sem] at me1
  cases h
  simp (implicitDefEqProofs := false) only [go_sem, b111, R111, E11, rdp e1, me1, Int.reduceMul, Nat.reduceEqDiff, Nat.reduceAdd, Nat.reduceLeDiff, Int.reduceLE, ↓reduceIte, reduceCtorEq]
end Go.Fw.Law
