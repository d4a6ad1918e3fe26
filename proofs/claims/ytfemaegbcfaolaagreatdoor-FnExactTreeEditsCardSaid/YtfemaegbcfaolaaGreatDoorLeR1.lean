/- What the functions come to. Conditions: none. -/
import Derived.Test.YtfemaegbcfaolaaGreatDoorLeD
namespace Go.Fw.Law
open Go Go.Fw
theorem spec_validPropList_of (x0 : (List TProp)) {r : Bool} (h : (spec_validPropList_b1 x0 0) = some r) : spec_validPropList x0 = some r := by
  refine Fn.of L_eq E7_inj (fi := fi88) rfl rfl ?_
  simp only [fi88]
  have q := Blk.run h
  try simp (implicitDefEqProofs := false) only [go_sem] at q
  simp (implicitDefEqProofs := false) only [go_sem, b88, k88_1, Nat.reduceEqDiff, Nat.reduceAdd, ↓reduceIte, reduceCtorEq, Nat.reduceEqDiff]
  exact q
theorem spec_validPropList_b1_of (x0 : (List TProp)) (x3 : Int) {r : Bool} (h : (if decide (x3 < (x0.length : Int)) then ((rdx x0 x3).bind fun v1 =>
   (spec_inRange v1.Name 0 3).bind fun r2 =>
   if !r2 then some false
   else ((spec_validValue v1.Val).bind fun r3 =>
    if !r3 then some false
    else (if decide (0 < x3) then ((rdx x0 (w64 (x3 - 1))).bind fun v4 =>
      if decide (v1.Name ≤ v4.Name) then some false
      else spec_validPropList_b1 x0 (w64 (x3 + 1)))
     else spec_validPropList_b1 x0 (w64 (x3 + 1)))))
  else some true) = some r) : spec_validPropList_b1 x0 x3 = some r := by
  refine Blk.of E7_inj ?_
  refine D_start (c' := d88_1) rfl ?_
  rcases ifB h with ⟨e1, h⟩ | ⟨e1, h⟩
  · obtain ⟨v1, e2, h⟩ := bnd h
    obtain ⟨r2, e3, h⟩ := bnd h
    rcases ifB h with ⟨e4, h⟩ | ⟨e4, h⟩
    · cases h
      simp (implicitDefEqProofs := false) only [go_sem, d88_1, k88_1, R88, E7, e1, rdp e2, rdm eTProp e2, spec_inRange_run e3, e4, Nat.reduceEqDiff, Nat.reduceAdd, Nat.reduceLeDiff, ↓reduceIte, reduceCtorEq, Nat.reduceEqDiff]
    · obtain ⟨r3, e5, h⟩ := bnd h
      rcases ifB h with ⟨e6, h⟩ | ⟨e6, h⟩
      · cases h
        simp (implicitDefEqProofs := false) only [go_sem, d88_1, k88_1, R88, E7, e1, rdp e2, rdm eTProp e2, spec_inRange_run e3, e4, spec_validValue_run e5, e6, Nat.reduceEqDiff, Nat.reduceAdd, Nat.reduceLeDiff, ↓reduceIte, reduceCtorEq, Nat.reduceEqDiff]
      · rcases ifB h with ⟨e7, h⟩ | ⟨e7, h⟩
        · obtain ⟨v4, e8, h⟩ := bnd h
          rcases ifB h with ⟨e9, h⟩ | ⟨e9, h⟩
          · cases h
            simp (implicitDefEqProofs := false) only [go_sem, d88_1, k88_1, R88, E7, e1, rdp e2, rdm eTProp e2, spec_inRange_run e3, e4, spec_validValue_run e5, e6, e7, rdp e8, rdm eTProp e8, e9, Nat.reduceEqDiff, Nat.reduceAdd, Nat.reduceLeDiff, ↓reduceIte, reduceCtorEq, Nat.reduceEqDiff]
          · have q := Blk.run h
            try simp (implicitDefEqProofs := false) only [go_sem] at q
            simp (implicitDefEqProofs := false) only [go_sem, d88_1, k88_1, e1, rdp e2, rdm eTProp e2, spec_inRange_run e3, e4, spec_validValue_run e5, e6, e7, rdp e8, rdm eTProp e8, e9, Nat.reduceEqDiff, Nat.reduceAdd, Nat.reduceLeDiff, ↓reduceIte, reduceCtorEq, Nat.reduceEqDiff]
            exact q
        · have q := Blk.run h
          try simp (implicitDefEqProofs := false) only [go_sem] at q
          simp (implicitDefEqProofs := false) only [go_sem, d88_1, k88_1, e1, rdp e2, rdm eTProp e2, spec_inRange_run e3, e4, spec_validValue_run e5, e6, e7, Nat.reduceEqDiff, Nat.reduceAdd, Nat.reduceLeDiff, ↓reduceIte, reduceCtorEq, Nat.reduceEqDiff]
          exact q
  · cases h
    simp (implicitDefEqProofs := false) only [go_sem, d88_1, k88_1, R88, E7, e1, Nat.reduceEqDiff, Nat.reduceAdd, ↓reduceIte, reduceCtorEq, Nat.reduceEqDiff]
theorem spec_keysApart_of (x0 : (List TTree)) {r : Bool} (h : (spec_keysApart_b1 x0 0) = some r) : spec_keysApart x0 = some r := by
  refine Fn.of L_eq E7_inj (fi := fi89) rfl rfl ?_
  simp only [fi89]
  have q := Blk.run h
  try simp (implicitDefEqProofs := false) only [go_sem] at q
  simp (implicitDefEqProofs := false) only [go_sem, b89, k89_1, Nat.reduceEqDiff, Nat.reduceAdd, ↓reduceIte, reduceCtorEq, Nat.reduceEqDiff]
  exact q
theorem spec_keysApart_b1_of (x0 : (List TTree)) (x3 : Int) {r : Bool} (h : (if decide (x3 < (x0.length : Int)) then spec_keysApart_b2 x0 x3 0
  else some true) = some r) : spec_keysApart_b1 x0 x3 = some r := by
  refine Blk.of E7_inj ?_
  refine D_start (c' := d89_1) rfl ?_
  rcases ifB h with ⟨e1, h⟩ | ⟨e1, h⟩
  · have q := Blk.run h
    try simp (implicitDefEqProofs := false) only [go_sem] at q
    simp (implicitDefEqProofs := false) only [go_sem, d89_1, k89_1, k89_2, e1, Nat.reduceEqDiff, Nat.reduceAdd, ↓reduceIte, reduceCtorEq, Nat.reduceEqDiff]
    exact q
  · cases h
    simp (implicitDefEqProofs := false) only [go_sem, d89_1, k89_1, k89_2, R89, E7, e1, Nat.reduceEqDiff, Nat.reduceAdd, ↓reduceIte, reduceCtorEq, Nat.reduceEqDiff]
theorem spec_keysApart_b2_of (x0 : (List TTree)) (x3 : Int) (x4 : Int) {r : Bool} (h : (if decide (x4 < x3) then ((rdx x0 x3).bind fun v1 =>
   if !(decide (v1.Key = (-1))) then ((rdx x0 x4).bind fun v2 =>
    if decide (v1.Key = v2.Key) then some false
    else spec_keysApart_b2 x0 x3 (w64 (x4 + 1)))
   else spec_keysApart_b2 x0 x3 (w64 (x4 + 1)))
  else spec_keysApart_b1 x0 (w64 (x3 + 1))) = some r) : spec_keysApart_b2 x0 x3 x4 = some r := by
  refine Blk.of E7_inj ?_
  refine D_start (c' := d89_2) rfl ?_
  rcases ifB h with ⟨e1, h⟩ | ⟨e1, h⟩
  · obtain ⟨v1, e2, h⟩ := bnd h
    rcases ifB h with ⟨e3, h⟩ | ⟨e3, h⟩
    · obtain ⟨v2, e4, h⟩ := bnd h
      rcases ifB h with ⟨e5, h⟩ | ⟨e5, h⟩
      · cases h
        simp (implicitDefEqProofs := false) only [go_sem, d89_2, k89_1, k89_2, R89, E7, e1, rdp e2, rdm (eTTree .sh) e2, e3, rdp e4, rdm (eTTree .sh) e4, e5, Nat.reduceEqDiff, Nat.reduceAdd, Nat.reduceLeDiff, ↓reduceIte, reduceCtorEq, Nat.reduceEqDiff]
      · have q := Blk.run h
        try simp (implicitDefEqProofs := false) only [go_sem] at q
        simp (implicitDefEqProofs := false) only [go_sem, d89_2, k89_1, k89_2, e1, rdp e2, rdm (eTTree .sh) e2, e3, rdp e4, rdm (eTTree .sh) e4, e5, Nat.reduceEqDiff, Nat.reduceAdd, Nat.reduceLeDiff, ↓reduceIte, reduceCtorEq, Nat.reduceEqDiff]
        exact q
    · have q := Blk.run h
      try simp (implicitDefEqProofs := false) only [go_sem] at q
      simp (implicitDefEqProofs := false) only [go_sem, d89_2, k89_1, k89_2, e1, rdp e2, rdm (eTTree .sh) e2, e3, Nat.reduceEqDiff, Nat.reduceAdd, Nat.reduceLeDiff, ↓reduceIte, reduceCtorEq, Nat.reduceEqDiff]
      exact q
  · have q := Blk.run h
    try simp (implicitDefEqProofs := false) only [go_sem] at q
    simp (implicitDefEqProofs := false) only [go_sem, d89_2, k89_1, k89_2, e1, Nat.reduceEqDiff, Nat.reduceAdd, ↓reduceIte, reduceCtorEq, Nat.reduceEqDiff]
    exact q
theorem spec_validPart_of (x0 : TTree) {r : Bool} (h : (if decide (x0.Tag = (-1)) then (if decide (x0.Key = (-1)) then (if decide ((x0.Props.length : Int) = 0) then (if decide ((x0.Kids.length : Int) = 0) then ((spec_validShown x0.Text).bind fun r1 =>
      some r1)
     else some false)
    else some false)
   else some false)
  else ((spec_inRange x0.Tag 0 4).bind fun r2 =>
   if !r2 then some false
   else ((spec_inRange x0.Key (-1) 99).bind fun r3 =>
    if !r3 then some false
    else (if !(decide (x0.Text = [])) then some false
     else ((spec_validPropList x0.Props).bind fun r4 =>
      if !r4 then some false
      else spec_validPart_b1 0 x0))))) = some r) : spec_validPart x0 = some r := by
  refine Fn.of L_eq E7_inj (fi := fi54) rfl rfl ?_
  simp only [fi54]
  rcases ifB h with ⟨e1, h⟩ | ⟨e1, h⟩
  · rcases ifB h with ⟨e2, h⟩ | ⟨e2, h⟩
    · rcases ifB h with ⟨e3, h⟩ | ⟨e3, h⟩
      · rcases ifB h with ⟨e4, h⟩ | ⟨e4, h⟩
        · obtain ⟨r1, e5, h⟩ := bnd h
          cases h
          simp (implicitDefEqProofs := false) only [go_sem, b54, k54_1, R54, E7, e1, e2, e3, e4, spec_validShown_run e5, Nat.reduceEqDiff, Nat.reduceAdd, Nat.reduceLeDiff, ↓reduceIte, reduceCtorEq, Nat.reduceEqDiff]
        · cases h
          simp (implicitDefEqProofs := false) only [go_sem, b54, k54_1, R54, E7, e1, e2, e3, e4, Nat.reduceEqDiff, Nat.reduceAdd, Nat.reduceLeDiff, ↓reduceIte, reduceCtorEq, Nat.reduceEqDiff]
      · cases h
        simp (implicitDefEqProofs := false) only [go_sem, b54, k54_1, R54, E7, e1, e2, e3, Nat.reduceEqDiff, Nat.reduceAdd, Nat.reduceLeDiff, ↓reduceIte, reduceCtorEq, Nat.reduceEqDiff]
    · cases h
      simp (implicitDefEqProofs := false) only [go_sem, b54, k54_1, R54, E7, e1, e2, Nat.reduceEqDiff, Nat.reduceAdd, Nat.reduceLeDiff, ↓reduceIte, reduceCtorEq, Nat.reduceEqDiff]
  · obtain ⟨r2, e6, h⟩ := bnd h
    rcases ifB h with ⟨e7, h⟩ | ⟨e7, h⟩
    · cases h
      simp (implicitDefEqProofs := false) only [go_sem, b54, k54_1, R54, E7, e1, spec_inRange_run e6, e7, Nat.reduceEqDiff, Nat.reduceAdd, Nat.reduceLeDiff, ↓reduceIte, reduceCtorEq, Nat.reduceEqDiff]
    · obtain ⟨r3, e8, h⟩ := bnd h
      rcases ifB h with ⟨e9, h⟩ | ⟨e9, h⟩
      · cases h
        simp (implicitDefEqProofs := false) only [go_sem, b54, k54_1, R54, E7, e1, spec_inRange_run e6, e7, spec_inRange_run e8, e9, Nat.reduceEqDiff, Nat.reduceAdd, Nat.reduceLeDiff, ↓reduceIte, reduceCtorEq, Nat.reduceEqDiff]
      · rcases ifB h with ⟨e10, h⟩ | ⟨e10, h⟩
        · cases h
          simp (implicitDefEqProofs := false) only [go_sem, b54, k54_1, R54, E7, e1, spec_inRange_run e6, e7, spec_inRange_run e8, e9, e10, Nat.reduceEqDiff, Nat.reduceAdd, Nat.reduceLeDiff, ↓reduceIte, reduceCtorEq, Nat.reduceEqDiff]
        · obtain ⟨r4, e11, h⟩ := bnd h
          rcases ifB h with ⟨e12, h⟩ | ⟨e12, h⟩
          · cases h
            simp (implicitDefEqProofs := false) only [go_sem, b54, k54_1, R54, E7, e1, spec_inRange_run e6, e7, spec_inRange_run e8, e9, e10, spec_validPropList_run e11, e12, Nat.reduceEqDiff, Nat.reduceAdd, Nat.reduceLeDiff, ↓reduceIte, reduceCtorEq, Nat.reduceEqDiff]
          · have q := Blk.run h
            try simp (implicitDefEqProofs := false) only [go_sem] at q
            simp (implicitDefEqProofs := false) only [go_sem, b54, k54_1, e1, spec_inRange_run e6, e7, spec_inRange_run e8, e9, e10, spec_validPropList_run e11, e12, Nat.reduceEqDiff, Nat.reduceAdd, Nat.reduceLeDiff, ↓reduceIte, reduceCtorEq, Nat.reduceEqDiff]
            exact q
theorem spec_validPart_b1_of (x3 : Int) (y1 : TTree) {r : Bool} (h : (if decide (x3 < (y1.Kids.length : Int)) then ((rdx y1.Kids x3).bind fun v5 =>
   (spec_validPart v5).bind fun r6 =>
   if !r6 then some false
   else spec_validPart_b1 (w64 (x3 + 1)) y1)
  else ((spec_keysApart y1.Kids).bind fun r7 =>
   some r7)) = some r) : spec_validPart_b1 x3 y1 = some r := by
  refine Blk.of E7_inj ?_
  refine D_start (c' := d54_1) rfl ?_
  rcases ifB h with ⟨e1, h⟩ | ⟨e1, h⟩
  · obtain ⟨v5, e2, h⟩ := bnd h
    obtain ⟨r6, e3, h⟩ := bnd h
    rcases ifB h with ⟨e4, h⟩ | ⟨e4, h⟩
    · cases h
      simp (implicitDefEqProofs := false) only [go_sem, d54_1, k54_1, R54, E7, e1, rdp e2, rdm (eTTree .sh) e2, spec_validPart_run e3, e4, Nat.reduceEqDiff, Nat.reduceAdd, Nat.reduceLeDiff, ↓reduceIte, reduceCtorEq, Nat.reduceEqDiff]
    · have q := Blk.run h
      try simp (implicitDefEqProofs := false) only [go_sem] at q
      simp (implicitDefEqProofs := false) only [go_sem, d54_1, k54_1, e1, rdp e2, rdm (eTTree .sh) e2, spec_validPart_run e3, e4, Nat.reduceEqDiff, Nat.reduceAdd, Nat.reduceLeDiff, ↓reduceIte, reduceCtorEq, Nat.reduceEqDiff]
      exact q
  · obtain ⟨r7, e5, h⟩ := bnd h
    cases h
    simp (implicitDefEqProofs := false) only [go_sem, d54_1, k54_1, R54, E7, e1, spec_keysApart_run e5, Nat.reduceEqDiff, Nat.reduceAdd, Nat.reduceLeDiff, ↓reduceIte, reduceCtorEq, Nat.reduceEqDiff]
theorem spec_validTree_of (x0 : TTree) {r : Bool} (h : ((spec_treeSize x0 1).bind fun r1 =>
  if decide (r1 ≤ 200) then ((spec_validPart x0).bind fun r2 =>
   some r2)
  else some false) = some r) : spec_validTree x0 = some r := by
  refine Fn.of L_eq E7_inj (fi := fi23) rfl rfl ?_
  simp only [fi23]
  obtain ⟨r1, e1, h⟩ := bnd h
  rcases ifB h with ⟨e2, h⟩ | ⟨e2, h⟩
  · obtain ⟨r2, e3, h⟩ := bnd h
    cases h
    simp (implicitDefEqProofs := false) only [go_sem, b23, R23, E7, spec_treeSize_run e1, e2, spec_validPart_run e3, Nat.reduceEqDiff, Nat.reduceAdd, Nat.reduceLeDiff, ↓reduceIte, reduceCtorEq, Nat.reduceEqDiff]
  · cases h
    simp (implicitDefEqProofs := false) only [go_sem, b23, R23, E7, spec_treeSize_run e1, e2, Nat.reduceEqDiff, Nat.reduceAdd, Nat.reduceLeDiff, ↓reduceIte, reduceCtorEq, Nat.reduceEqDiff]
theorem spec_copyTree_of (x0 : TTree) {r : TTree} (h : (if apOk 40 ([] : (List TProp)) x0.Props then spec_copyTree_b1 0 x0 (⟨0, 0, [], [], []⟩ : TTree) (⟨x0.Tag, x0.Key, x0.Text, x0.Props, []⟩ : TTree)
  else none) = some r) : spec_copyTree x0 = some r := by
  refine Fn.of L_eq E6_inj (fi := fi31) rfl rfl ?_
  simp only [fi31]
  obtain ⟨e1, h⟩ := ifP h
  have me1 := apL e1
  try simp (implicitDefEqProofs := false) only [go_sem] at me1
  have q := Blk.run h
  try simp (implicitDefEqProofs := false) only [go_sem] at q
  simp (implicitDefEqProofs := false) only [go_sem, b31, k31_1, me1, Nat.reduceEqDiff, Nat.reduceAdd, Nat.reduceLeDiff, ↓reduceIte, reduceCtorEq, Nat.reduceBEq, Nat.reduceEqDiff]
  exact q
theorem spec_copyTree_b1_of (x4 : Int) (y1 : TTree) (y2 : TTree) (y3 : TTree) {r : TTree} (h : (if decide (x4 < (y1.Kids.length : Int)) then ((rdx y1.Kids x4).bind fun v1 =>
   (spec_copyTree v1).bind fun r2 =>
   if apOk 80 y3.Kids ([r2]) then spec_copyTree_b1 (w64 (x4 + 1)) y1 y2 (⟨y3.Tag, y3.Key, y3.Text, y3.Props, y3.Kids ++ ([r2])⟩ : TTree)
   else none)
  else some y3) = some r) : spec_copyTree_b1 x4 y1 y2 y3 = some r := by
  refine Blk.of E6_inj ?_
  refine D_start (c' := d31_1) rfl ?_
  rcases ifB h with ⟨e1, h⟩ | ⟨e1, h⟩
  · obtain ⟨v1, e2, h⟩ := bnd h
    obtain ⟨r2, e3, h⟩ := bnd h
    obtain ⟨e4, h⟩ := ifP h
    have me4 := apL e4
    try simp (implicitDefEqProofs := false) only [go_sem, Nat.reduceAdd, Nat.reduceLeDiff] at me4
    have q := Blk.run h
    try simp (implicitDefEqProofs := false) only [go_sem] at q
    simp (implicitDefEqProofs := false) only [go_sem, d31_1, k31_1, e1, rdp e2, rdm (eTTree .sh) e2, spec_copyTree_run e3, me4, Nat.reduceEqDiff, Nat.reduceAdd, Nat.reduceLeDiff, ↓reduceIte, reduceCtorEq, Nat.reduceBEq, Nat.reduceEqDiff]
    exact q
  · cases h
    simp (implicitDefEqProofs := false) only [go_sem, d31_1, k31_1, R31, E6, e1, Nat.reduceEqDiff, Nat.reduceAdd, Nat.reduceLeDiff, ↓reduceIte, reduceCtorEq, Nat.reduceEqDiff]
theorem spec_propAt_of (x0 : (List TProp)) (x1 : Int) {r : Int} (h : (spec_propAt_b1 x0 x1 0) = some r) : spec_propAt x0 x1 = some r := by
  refine Fn.of L_eq E1_inj (fi := fi112) rfl rfl ?_
  simp only [fi112]
  have q := Blk.run h
  try simp (implicitDefEqProofs := false) only [go_sem] at q
  simp (implicitDefEqProofs := false) only [go_sem, b112, k112_1, Nat.reduceEqDiff, Nat.reduceAdd, ↓reduceIte, reduceCtorEq, Nat.reduceEqDiff]
  exact q
theorem spec_propAt_b1_of (x0 : (List TProp)) (x1 : Int) (x5 : Int) {r : Int} (h : (if decide (x5 < (x0.length : Int)) then ((rdx x0 x5).bind fun v1 =>
   if decide (v1.Name = x1) then some x5
   else spec_propAt_b1 x0 x1 (w64 (x5 + 1)))
  else some (-1)) = some r) : spec_propAt_b1 x0 x1 x5 = some r := by
  refine Blk.of E1_inj ?_
  refine D_start (c' := d112_1) rfl ?_
  rcases ifB h with ⟨e1, h⟩ | ⟨e1, h⟩
  · obtain ⟨v1, e2, h⟩ := bnd h
    rcases ifB h with ⟨e3, h⟩ | ⟨e3, h⟩
    · cases h
      simp (implicitDefEqProofs := false) only [go_sem, d112_1, k112_1, R112, E1, e1, rdp e2, rdm eTProp e2, e3, Nat.reduceEqDiff, Nat.reduceAdd, Nat.reduceLeDiff, ↓reduceIte, reduceCtorEq, Nat.reduceEqDiff]
    · have q := Blk.run h
      try simp (implicitDefEqProofs := false) only [go_sem] at q
      simp (implicitDefEqProofs := false) only [go_sem, d112_1, k112_1, e1, rdp e2, rdm eTProp e2, e3, Nat.reduceEqDiff, Nat.reduceAdd, Nat.reduceLeDiff, ↓reduceIte, reduceCtorEq, Nat.reduceEqDiff]
      exact q
  · cases h
    simp (implicitDefEqProofs := false) only [go_sem, d112_1, k112_1, R112, E1, e1, Nat.reduceEqDiff, Nat.reduceAdd, ↓reduceIte, reduceCtorEq, Nat.reduceEqDiff]
theorem spec_propEdits_of (x0 : (List TProp)) (x1 : (List TProp)) (x2 : (List Int)) {r : (List TEdit)} (h : (spec_propEdits_b1 x0 x1 x2 [] 0) = some r) : spec_propEdits x0 x1 x2 = some r := by
  refine Fn.of L_eq E9_inj (fi := fi90) rfl rfl ?_
  simp only [fi90]
  have q := Blk.run h
  try simp (implicitDefEqProofs := false) only [go_sem] at q
  simp (implicitDefEqProofs := false) only [go_sem, b90, k90_1, Nat.reduceEqDiff, Nat.reduceAdd, ↓reduceIte, reduceCtorEq, Nat.reduceEqDiff]
  exact q
theorem spec_propEdits_b1_of (x0 : (List TProp)) (x1 : (List TProp)) (x2 : (List Int)) (x7 : (List TEdit)) (x8 : Int) {r : (List TEdit)} (h : (if decide (x8 < 4) then ((spec_propAt x0 x8).bind fun r1 =>
   (spec_propAt x1 x8).bind fun r2 =>
   if decide (r2 < 0) then spec_propEdits_b2 x0 x1 x2 x7 x8 r1 r2 (decide (0 ≤ r1))
   else spec_propEdits_b2 x0 x1 x2 x7 x8 r1 r2 false)
  else some x7) = some r) : spec_propEdits_b1 x0 x1 x2 x7 x8 = some r := by
  refine Blk.of E9_inj ?_
  refine D_start (c' := d90_1) rfl ?_
  rcases ifB h with ⟨e1, h⟩ | ⟨e1, h⟩
  · obtain ⟨r1, e2, h⟩ := bnd h
    obtain ⟨r2, e3, h⟩ := bnd h
    rcases ifB h with ⟨e4, h⟩ | ⟨e4, h⟩
    · have q := Blk.run h
      try simp (implicitDefEqProofs := false) only [go_sem] at q
      simp (implicitDefEqProofs := false) only [go_sem, d90_1, k90_1, k90_2, e1, spec_propAt_run e2, spec_propAt_run e3, e4, Nat.reduceEqDiff, Nat.reduceAdd, ↓reduceIte, reduceCtorEq, Nat.reduceEqDiff]
      exact q
    · have q := Blk.run h
      try simp (implicitDefEqProofs := false) only [go_sem] at q
      simp (implicitDefEqProofs := false) only [go_sem, d90_1, k90_1, k90_2, e1, spec_propAt_run e2, spec_propAt_run e3, e4, Nat.reduceEqDiff, Nat.reduceAdd, ↓reduceIte, reduceCtorEq, Nat.reduceEqDiff]
      exact q
  · cases h
    simp (implicitDefEqProofs := false) only [go_sem, d90_1, k90_1, k90_2, R90, E9, e1, Nat.reduceEqDiff, Nat.reduceAdd, ↓reduceIte, reduceCtorEq, Nat.reduceEqDiff]
theorem spec_propEdits_b2_of (x0 : (List TProp)) (x1 : (List TProp)) (x2 : (List Int)) (x7 : (List TEdit)) (x8 : Int) (x9 : Int) (x10 : Int) (x22 : Bool) {r : (List TEdit)} (h : (if x22 then (if apOk 8 ([] : (List Int)) x2 then (if apOk 160 x7 ([(⟨3, x2, x8, 0, (⟨0, 0, []⟩ : TValue), (⟨0, 0, [], [], []⟩ : TTree)⟩ : TEdit)]) then spec_propEdits_b1 x0 x1 x2 (x7 ++ ([(⟨3, x2, x8, 0, (⟨0, 0, []⟩ : TValue), (⟨0, 0, [], [], []⟩ : TTree)⟩ : TEdit)])) (w64 (x8 + 1))
    else none)
   else none)
  else (if decide (0 ≤ x10) then (if decide (x9 < 0) then spec_propEdits_b3 x0 x1 x2 x7 x8 x10 true
    else ((rdx x0 x9).bind fun v3 =>
     (rdx x1 x10).bind fun v4 =>
     spec_propEdits_b3 x0 x1 x2 x7 x8 x10 (!(decide (v3.Val.Kind = v4.Val.Kind) && (decide (v3.Val.Num = v4.Val.Num) && (decide (v3.Val.Text = v4.Val.Text) && true))))))
   else spec_propEdits_b3 x0 x1 x2 x7 x8 x10 false)) = some r) : spec_propEdits_b2 x0 x1 x2 x7 x8 x9 x10 x22 = some r := by
  refine Blk.of E9_inj ?_
  refine D_start (c' := d90_2) rfl ?_
  rcases ifB h with ⟨e1, h⟩ | ⟨e1, h⟩
  · obtain ⟨e2, h⟩ := ifP h
    have me2 := apL e2
    try simp (implicitDefEqProofs := false) only [go_sem] at me2
    obtain ⟨e3, h⟩ := ifP h
    have me3 := apL e3
    try simp (implicitDefEqProofs := false) only [go_sem, Nat.reduceAdd, Nat.reduceLeDiff] at me3
    have q := Blk.run h
    try simp (implicitDefEqProofs := false) only [go_sem] at q
    simp (implicitDefEqProofs := false) only [go_sem, d90_2, k90_1, k90_2, e1, me2, me3, Nat.reduceEqDiff, Nat.reduceAdd, Nat.reduceLeDiff, ↓reduceIte, reduceCtorEq, Nat.reduceEqDiff]
    exact q
  · rcases ifB h with ⟨e4, h⟩ | ⟨e4, h⟩
    · rcases ifB h with ⟨e5, h⟩ | ⟨e5, h⟩
      · have q := Blk.run h
        try simp (implicitDefEqProofs := false) only [go_sem] at q
        simp (implicitDefEqProofs := false) only [go_sem, d90_2, k90_1, k90_2, e1, e4, e5, Nat.reduceEqDiff, Nat.reduceAdd, ↓reduceIte, reduceCtorEq, Nat.reduceEqDiff]
        exact q
      · obtain ⟨v3, e6, h⟩ := bnd h
        obtain ⟨v4, e7, h⟩ := bnd h
        have q := Blk.run h
        try simp (implicitDefEqProofs := false) only [go_sem] at q
        simp (implicitDefEqProofs := false) only [go_sem, d90_2, k90_1, k90_2, e1, e5, rdp e6, rdm eTProp e6, rdp e7, rdm eTProp e7, Nat.reduceEqDiff, Nat.reduceAdd, Nat.reduceLeDiff, ↓reduceIte, reduceCtorEq, Nat.reduceEqDiff]
        exact q
    · have q := Blk.run h
      try simp (implicitDefEqProofs := false) only [go_sem] at q
      simp (implicitDefEqProofs := false) only [go_sem, d90_2, k90_1, k90_2, e1, e4, Nat.reduceEqDiff, Nat.reduceAdd, ↓reduceIte, reduceCtorEq, Nat.reduceEqDiff]
      exact q
theorem spec_propEdits_b3_of (x0 : (List TProp)) (x1 : (List TProp)) (x2 : (List Int)) (x7 : (List TEdit)) (x8 : Int) (x10 : Int) (x37 : Bool) {r : (List TEdit)} (h : (if x37 then (if apOk 8 ([] : (List Int)) x2 then ((rdx x1 x10).bind fun v5 =>
    if apOk 160 x7 ([(⟨2, x2, x8, 0, v5.Val, (⟨0, 0, [], [], []⟩ : TTree)⟩ : TEdit)]) then spec_propEdits_b1 x0 x1 x2 (x7 ++ ([(⟨2, x2, x8, 0, v5.Val, (⟨0, 0, [], [], []⟩ : TTree)⟩ : TEdit)])) (w64 (x8 + 1))
    else none)
   else none)
  else spec_propEdits_b1 x0 x1 x2 x7 (w64 (x8 + 1))) = some r) : spec_propEdits_b3 x0 x1 x2 x7 x8 x10 x37 = some r := by
  refine Blk.of E9_inj ?_
  refine D_start (c' := d90_3) rfl ?_
  rcases ifB h with ⟨e1, h⟩ | ⟨e1, h⟩
  · obtain ⟨e2, h⟩ := ifP h
    have me2 := apL e2
    try simp (implicitDefEqProofs := false) only [go_sem] at me2
    obtain ⟨v5, e3, h⟩ := bnd h
    obtain ⟨e4, h⟩ := ifP h
    have me4 := apL e4
    try simp (implicitDefEqProofs := false) only [go_sem, Nat.reduceAdd, Nat.reduceLeDiff] at me4
    have q := Blk.run h
    try simp (implicitDefEqProofs := false) only [go_sem] at q
    simp (implicitDefEqProofs := false) only [go_sem, d90_3, k90_1, k90_2, e1, me2, rdp e3, rdm eTProp e3, me4, Nat.reduceEqDiff, Nat.reduceAdd, Nat.reduceLeDiff, ↓reduceIte, reduceCtorEq, Nat.reduceEqDiff]
    exact q
  · have q := Blk.run h
    try simp (implicitDefEqProofs := false) only [go_sem] at q
    simp (implicitDefEqProofs := false) only [go_sem, d90_3, k90_1, k90_2, e1, Nat.reduceEqDiff, Nat.reduceAdd, ↓reduceIte, reduceCtorEq, Nat.reduceEqDiff]
    exact q
end Go.Fw.Law
