/- What the functions come to. Conditions: none. -/
import Derived.Test.YtfemaegbcfaolaaGreatDoorLeD
namespace Go.Fw.Law
open Go Go.Fw
theorem impl_ValOk_of (x0 : TValue) {r : Bool} (h : (if decide (x0.Kind = 0) then (if decide (x0.Num = 0) then some (decide (x0.Text = []))
   else some false)
  else (if decide (x0.Kind = 1) then ((impl_within x0.Num (-1000) 1000).bind fun r1 =>
    if r1 then some (decide (x0.Text = []))
    else some false)
   else (if decide (x0.Kind = 2) then (if decide (x0.Num = 0) then ((impl_word x0.Text).bind fun r2 =>
      some r2)
     else some false)
    else some false))) = some r) : impl_ValOk x0 = some r := by
  refine Fn.of L_eq E7_inj (fi := fi71) rfl rfl ?_
  simp only [fi71]
  rcases ifB h with ⟨e1, h⟩ | ⟨e1, h⟩
  · rcases ifB h with ⟨e2, h⟩ | ⟨e2, h⟩
    · cases h
      simp (implicitDefEqProofs := false) only [go_sem, b71, R71, E7, e1, e2, Nat.reduceEqDiff, Nat.reduceAdd, Nat.reduceLeDiff, ↓reduceIte, reduceCtorEq, Nat.reduceEqDiff]
    · cases h
      simp (implicitDefEqProofs := false) only [go_sem, b71, R71, E7, e1, e2, Nat.reduceEqDiff, Nat.reduceAdd, Nat.reduceLeDiff, ↓reduceIte, reduceCtorEq, Nat.reduceEqDiff]
  · rcases ifB h with ⟨e3, h⟩ | ⟨e3, h⟩
    · obtain ⟨r1, e4, h⟩ := bnd h
      rcases ifB h with ⟨e5, h⟩ | ⟨e5, h⟩
      · cases h
        simp (implicitDefEqProofs := false) only [go_sem, b71, R71, E7, e1, e3, impl_within_run e4, e5, Nat.reduceEqDiff, Nat.reduceAdd, Nat.reduceLeDiff, ↓reduceIte, reduceCtorEq, Nat.reduceEqDiff]
      · cases h
        simp (implicitDefEqProofs := false) only [go_sem, b71, R71, E7, e1, e3, impl_within_run e4, e5, Nat.reduceEqDiff, Nat.reduceAdd, Nat.reduceLeDiff, ↓reduceIte, reduceCtorEq, Nat.reduceEqDiff]
    · rcases ifB h with ⟨e6, h⟩ | ⟨e6, h⟩
      · rcases ifB h with ⟨e7, h⟩ | ⟨e7, h⟩
        · obtain ⟨r2, e8, h⟩ := bnd h
          cases h
          simp (implicitDefEqProofs := false) only [go_sem, b71, R71, E7, e1, e3, e6, e7, impl_word_run e8, Nat.reduceEqDiff, Nat.reduceAdd, Nat.reduceLeDiff, ↓reduceIte, reduceCtorEq, Nat.reduceEqDiff]
        · cases h
          simp (implicitDefEqProofs := false) only [go_sem, b71, R71, E7, e1, e3, e6, e7, Nat.reduceEqDiff, Nat.reduceAdd, Nat.reduceLeDiff, ↓reduceIte, reduceCtorEq, Nat.reduceEqDiff]
      · cases h
        simp (implicitDefEqProofs := false) only [go_sem, b71, R71, E7, e1, e3, e6, Nat.reduceEqDiff, Nat.reduceAdd, Nat.reduceLeDiff, ↓reduceIte, reduceCtorEq, Nat.reduceEqDiff]
theorem impl_treeFits_of (x0 : TTree) (x1 : Int) (x2 : Int) {r : Bool × Int} (h : (if decide (24 < x1) then some (false, w64 (x2 - 1))
  else (if decide ((w64 (x2 - 1)) < 0) then some (false, w64 (x2 - 1))
   else (if decide (x0.Tag = (-1)) then (if decide (x0.Key = (-1)) then ((impl_shown x0.Text).bind fun r1 =>
      if r1 then (if decide ((x0.Props.length : Int) = 0) then some (decide ((x0.Kids.length : Int) = 0), w64 (x2 - 1))
       else some (false, w64 (x2 - 1)))
      else some (false, w64 (x2 - 1)))
     else some (false, w64 (x2 - 1)))
    else ((impl_within x0.Tag 0 4).bind fun r2 =>
     if !r2 then some (false, w64 (x2 - 1))
     else ((impl_within x0.Key (-1) 99).bind fun r3 =>
      if !r3 then some (false, w64 (x2 - 1))
      else (if !(decide (x0.Text = [])) then some (false, w64 (x2 - 1))
       else impl_treeFits_b1 x1 x0.Props (x0.Props.length : Int) 0 (w64 (x2 - 1)) x0)))))) = some r) : impl_treeFits x0 x1 x2 = some r := by
  refine Fn.of L_eq E13_inj (fi := fi34) rfl rfl ?_
  simp only [fi34]
  rcases ifB h with ⟨e1, h⟩ | ⟨e1, h⟩
  · cases h
    simp (implicitDefEqProofs := false) only [go_sem, b34, k34_1, k34_2, R34, E13, e1, Nat.reduceEqDiff, Nat.reduceAdd, Nat.reduceLeDiff, ↓reduceIte, reduceCtorEq, Nat.reduceEqDiff]
  · rcases ifB h with ⟨e2, h⟩ | ⟨e2, h⟩
    · cases h
      simp (implicitDefEqProofs := false) only [go_sem, b34, k34_1, k34_2, R34, E13, e1, e2, Nat.reduceEqDiff, Nat.reduceAdd, Nat.reduceLeDiff, ↓reduceIte, reduceCtorEq, Nat.reduceEqDiff]
    · rcases ifB h with ⟨e3, h⟩ | ⟨e3, h⟩
      · rcases ifB h with ⟨e4, h⟩ | ⟨e4, h⟩
        · obtain ⟨r1, e5, h⟩ := bnd h
          rcases ifB h with ⟨e6, h⟩ | ⟨e6, h⟩
          · rcases ifB h with ⟨e7, h⟩ | ⟨e7, h⟩
            · cases h
              simp (implicitDefEqProofs := false) only [go_sem, b34, k34_1, k34_2, R34, E13, e1, e2, e3, e4, impl_shown_run e5, e6, e7, Nat.reduceEqDiff, Nat.reduceAdd, Nat.reduceLeDiff, ↓reduceIte, reduceCtorEq, Nat.reduceEqDiff]
            · cases h
              simp (implicitDefEqProofs := false) only [go_sem, b34, k34_1, k34_2, R34, E13, e1, e2, e3, e4, impl_shown_run e5, e6, e7, Nat.reduceEqDiff, Nat.reduceAdd, Nat.reduceLeDiff, ↓reduceIte, reduceCtorEq, Nat.reduceEqDiff]
          · cases h
            simp (implicitDefEqProofs := false) only [go_sem, b34, k34_1, k34_2, R34, E13, e1, e2, e3, e4, impl_shown_run e5, e6, Nat.reduceEqDiff, Nat.reduceAdd, Nat.reduceLeDiff, ↓reduceIte, reduceCtorEq, Nat.reduceEqDiff]
        · cases h
          simp (implicitDefEqProofs := false) only [go_sem, b34, k34_1, k34_2, R34, E13, e1, e2, e3, e4, Nat.reduceEqDiff, Nat.reduceAdd, Nat.reduceLeDiff, ↓reduceIte, reduceCtorEq, Nat.reduceEqDiff]
      · obtain ⟨r2, e8, h⟩ := bnd h
        rcases ifB h with ⟨e9, h⟩ | ⟨e9, h⟩
        · cases h
          simp (implicitDefEqProofs := false) only [go_sem, b34, k34_1, k34_2, R34, E13, e1, e2, e3, impl_within_run e8, e9, Nat.reduceEqDiff, Nat.reduceAdd, Nat.reduceLeDiff, ↓reduceIte, reduceCtorEq, Nat.reduceEqDiff]
        · obtain ⟨r3, e10, h⟩ := bnd h
          rcases ifB h with ⟨e11, h⟩ | ⟨e11, h⟩
          · cases h
            simp (implicitDefEqProofs := false) only [go_sem, b34, k34_1, k34_2, R34, E13, e1, e2, e3, impl_within_run e8, e9, impl_within_run e10, e11, Nat.reduceEqDiff, Nat.reduceAdd, Nat.reduceLeDiff, ↓reduceIte, reduceCtorEq, Nat.reduceEqDiff]
          · rcases ifB h with ⟨e12, h⟩ | ⟨e12, h⟩
            · cases h
              simp (implicitDefEqProofs := false) only [go_sem, b34, k34_1, k34_2, R34, E13, e1, e2, e3, impl_within_run e8, e9, impl_within_run e10, e11, e12, Nat.reduceEqDiff, Nat.reduceAdd, Nat.reduceLeDiff, ↓reduceIte, reduceCtorEq, Nat.reduceEqDiff]
            · have q := Blk.run h
              try simp (implicitDefEqProofs := false) only [go_sem] at q
              simp (implicitDefEqProofs := false) only [go_sem, b34, k34_1, k34_2, e1, e2, e3, impl_within_run e8, e9, impl_within_run e10, e11, e12, Nat.reduceEqDiff, Nat.reduceAdd, Nat.reduceLeDiff, ↓reduceIte, reduceCtorEq, Nat.reduceBEq, Nat.reduceEqDiff]
              exact q
theorem impl_treeFits_b1_of (x1 : Int) (x64 : (List TProp)) (x65 : Int) (x66 : Int) (y2 : Int) (y3 : TTree) {r : Bool × Int} (h : (if decide (x66 < x65) then ((rdx x64 x66).bind fun v4 =>
   (impl_within v4.Name 0 3).bind fun r5 =>
   if !r5 then some (false, y2)
   else (if decide (0 < x66) then ((rdx y3.Props (w64 (x66 - 1))).bind fun v6 =>
     if decide (v4.Name ≤ v6.Name) then some (false, y2)
     else ((impl_ValOk v4.Val).bind fun r7 =>
      if !r7 then some (false, y2)
      else impl_treeFits_b1 x1 x64 x65 (w64 (x66 + 1)) y2 y3))
    else ((impl_ValOk v4.Val).bind fun r8 =>
     if !r8 then some (false, y2)
     else impl_treeFits_b1 x1 x64 x65 (w64 (x66 + 1)) y2 y3)))
  else impl_treeFits_b2 x1 [] y3.Kids (y3.Kids.length : Int) 0 y2) = some r) : impl_treeFits_b1 x1 x64 x65 x66 y2 y3 = some r := by
  refine Blk.of E13_inj ?_
  refine D_start (c' := d34_1) rfl ?_
  rcases ifB h with ⟨e1, h⟩ | ⟨e1, h⟩
  · obtain ⟨v4, e2, h⟩ := bnd h
    obtain ⟨r5, e3, h⟩ := bnd h
    rcases ifB h with ⟨e4, h⟩ | ⟨e4, h⟩
    · cases h
      simp (implicitDefEqProofs := false) only [go_sem, d34_1, k34_1, k34_2, R34, E13, e1, rdp e2, rdm eTProp e2, impl_within_run e3, e4, Nat.reduceEqDiff, Nat.reduceAdd, Nat.reduceLeDiff, ↓reduceIte, reduceCtorEq, Nat.reduceEqDiff]
    · rcases ifB h with ⟨e5, h⟩ | ⟨e5, h⟩
      · obtain ⟨v6, e6, h⟩ := bnd h
        rcases ifB h with ⟨e7, h⟩ | ⟨e7, h⟩
        · cases h
          simp (implicitDefEqProofs := false) only [go_sem, d34_1, k34_1, k34_2, R34, E13, e1, rdp e2, rdm eTProp e2, impl_within_run e3, e4, e5, rdp e6, rdm eTProp e6, e7, Nat.reduceEqDiff, Nat.reduceAdd, Nat.reduceLeDiff, ↓reduceIte, reduceCtorEq, Nat.reduceEqDiff]
        · obtain ⟨r7, e8, h⟩ := bnd h
          rcases ifB h with ⟨e9, h⟩ | ⟨e9, h⟩
          · cases h
            simp (implicitDefEqProofs := false) only [go_sem, d34_1, k34_1, k34_2, R34, E13, e1, rdp e2, rdm eTProp e2, impl_within_run e3, e4, e5, rdp e6, rdm eTProp e6, e7, impl_ValOk_run e8, e9, Nat.reduceEqDiff, Nat.reduceAdd, Nat.reduceLeDiff, ↓reduceIte, reduceCtorEq, Nat.reduceEqDiff]
          · have q := Blk.run h
            try simp (implicitDefEqProofs := false) only [go_sem] at q
            simp (implicitDefEqProofs := false) only [go_sem, d34_1, k34_1, k34_2, e1, rdp e2, rdm eTProp e2, impl_within_run e3, e4, e5, rdp e6, rdm eTProp e6, e7, impl_ValOk_run e8, e9, Nat.reduceEqDiff, Nat.reduceAdd, Nat.reduceLeDiff, ↓reduceIte, reduceCtorEq, Nat.reduceBEq, Nat.reduceEqDiff]
            exact q
      · obtain ⟨r8, e10, h⟩ := bnd h
        rcases ifB h with ⟨e11, h⟩ | ⟨e11, h⟩
        · cases h
          simp (implicitDefEqProofs := false) only [go_sem, d34_1, k34_1, k34_2, R34, E13, e1, rdp e2, rdm eTProp e2, impl_within_run e3, e4, e5, impl_ValOk_run e10, e11, Nat.reduceEqDiff, Nat.reduceAdd, Nat.reduceLeDiff, ↓reduceIte, reduceCtorEq, Nat.reduceEqDiff]
        · have q := Blk.run h
          try simp (implicitDefEqProofs := false) only [go_sem] at q
          simp (implicitDefEqProofs := false) only [go_sem, d34_1, k34_1, k34_2, e1, rdp e2, rdm eTProp e2, impl_within_run e3, e4, e5, impl_ValOk_run e10, e11, Nat.reduceEqDiff, Nat.reduceAdd, Nat.reduceLeDiff, ↓reduceIte, reduceCtorEq, Nat.reduceBEq, Nat.reduceEqDiff]
          exact q
  · have q := Blk.run h
    try simp (implicitDefEqProofs := false) only [go_sem] at q
    simp (implicitDefEqProofs := false) only [go_sem, d34_1, k34_1, k34_2, e1, Nat.reduceEqDiff, Nat.reduceAdd, Nat.reduceLeDiff, ↓reduceIte, reduceCtorEq, Nat.reduceEqDiff]
    exact q
theorem impl_treeFits_b2_of (x1 : Int) (x9 : List (Int × Bool)) (x100 : (List TTree)) (x101 : Int) (x102 : Int) (y2 : Int) {r : Bool × Int} (h : (if decide (x102 < x101) then ((rdx x100 x102).bind fun v9 =>
   if !(decide (v9.Key = (-1))) then (if mget x9 v9.Key then some (false, y2)
    else ((impl_treeFits v9 (w64 (x1 + 1)) y2).bind fun r10 =>
     if !r10.1 then some (false, r10.2)
     else impl_treeFits_b2 x1 (mput x9 v9.Key true) x100 x101 (w64 (x102 + 1)) r10.2))
   else ((impl_treeFits v9 (w64 (x1 + 1)) y2).bind fun r11 =>
    if !r11.1 then some (false, r11.2)
    else impl_treeFits_b2 x1 (mput x9 v9.Key true) x100 x101 (w64 (x102 + 1)) r11.2))
  else some (true, y2)) = some r) : impl_treeFits_b2 x1 x9 x100 x101 x102 y2 = some r := by
  refine Blk.of E13_inj ?_
  refine D_start (c' := d34_2) rfl ?_
  rcases ifB h with ⟨e1, h⟩ | ⟨e1, h⟩
  · obtain ⟨v9, e2, h⟩ := bnd h
    rcases ifB h with ⟨e3, h⟩ | ⟨e3, h⟩
    · rcases ifB h with ⟨e4, h⟩ | ⟨e4, h⟩
      · cases h
        simp (implicitDefEqProofs := false) only [go_sem, d34_2, k34_2, R34, E13, e1, rdp e2, rdm (eTTree .bor) e2, e3, e4, Nat.reduceEqDiff, Nat.reduceAdd, Nat.reduceLeDiff, ↓reduceIte, reduceCtorEq, Nat.reduceBEq, Nat.reduceEqDiff]
      · obtain ⟨r10, e5, h⟩ := bnd h
        rcases ifB h with ⟨e6, h⟩ | ⟨e6, h⟩
        · cases h
          simp (implicitDefEqProofs := false) only [go_sem, d34_2, k34_2, R34, E13, e1, rdp e2, rdm (eTTree .bor) e2, e3, e4, impl_treeFits_run e5, e6, Nat.reduceEqDiff, Nat.reduceAdd, Nat.reduceLeDiff, ↓reduceIte, reduceCtorEq, Nat.reduceBEq, Nat.reduceEqDiff]
        · have q := Blk.run h
          try simp (implicitDefEqProofs := false) only [go_sem] at q
          simp (implicitDefEqProofs := false) only [go_sem, d34_2, k34_2, e1, rdp e2, rdm (eTTree .bor) e2, e3, e4, impl_treeFits_run e5, e6, Nat.reduceEqDiff, Nat.reduceAdd, Nat.reduceLeDiff, ↓reduceIte, reduceCtorEq, Nat.reduceBEq, Nat.reduceEqDiff]
          exact q
    · obtain ⟨r11, e7, h⟩ := bnd h
      rcases ifB h with ⟨e8, h⟩ | ⟨e8, h⟩
      · cases h
        simp (implicitDefEqProofs := false) only [go_sem, d34_2, k34_2, R34, E13, e1, rdp e2, rdm (eTTree .bor) e2, e3, impl_treeFits_run e7, e8, Nat.reduceEqDiff, Nat.reduceAdd, Nat.reduceLeDiff, ↓reduceIte, reduceCtorEq, Nat.reduceBEq, Nat.reduceEqDiff]
      · have q := Blk.run h
        try simp (implicitDefEqProofs := false) only [go_sem] at q
        simp (implicitDefEqProofs := false) only [go_sem, d34_2, k34_2, e1, rdp e2, rdm (eTTree .bor) e2, e3, impl_treeFits_run e7, e8, Nat.reduceEqDiff, Nat.reduceAdd, Nat.reduceLeDiff, ↓reduceIte, reduceCtorEq, Nat.reduceBEq, Nat.reduceEqDiff]
        exact q
  · cases h
    simp (implicitDefEqProofs := false) only [go_sem, d34_2, k34_2, R34, E13, e1, Nat.reduceEqDiff, Nat.reduceAdd, ↓reduceIte, Nat.reduceEqDiff]
theorem impl_TreeOk_of (x0 : TTree) {r : Bool} (h : ((impl_treeFits x0 1 200).bind fun r1 =>
  some r1.1) = some r) : impl_TreeOk x0 = some r := by
  refine Fn.of L_eq E7_inj (fi := fi10) rfl rfl ?_
  simp only [fi10]
  obtain ⟨r1, e1, h⟩ := bnd h
  cases h
  simp (implicitDefEqProofs := false) only [go_sem, b10, R10, E7, impl_treeFits_run e1, Nat.reduceEqDiff, Nat.reduceAdd, Nat.reduceLeDiff, ↓reduceIte, reduceCtorEq, Nat.reduceEqDiff]
theorem impl_wayCopy_of (x0 : (List Int)) {r : (List Int)} (h : (if apOk 8 ([] : (List Int)) x0 then some x0
  else none) = some r) : impl_wayCopy x0 = some r := by
  refine Fn.of L_eq E10_inj (fi := fi75) rfl rfl ?_
  simp only [fi75]
  obtain ⟨e1, h⟩ := ifP h
  have me1 := apL e1
  try simp (implicitDefEqProofs := false) only [go_sem] at me1
  cases h
  simp (implicitDefEqProofs := false) only [go_sem, b75, R75, E10, me1, Nat.reduceEqDiff, Nat.reduceAdd, ↓reduceIte, reduceCtorEq, Nat.reduceEqDiff]
theorem impl_treesCopy_of (x0 : (List TTree)) {r : (List TTree)} (h : (impl_treesCopy_b1 [] x0 (x0.length : Int) 0) = some r) : impl_treesCopy x0 = some r := by
  refine Fn.of L_eq E5_inj (fi := fi56) rfl rfl ?_
  simp only [fi56]
  have q := Blk.run h
  try simp (implicitDefEqProofs := false) only [go_sem] at q
  simp (implicitDefEqProofs := false) only [go_sem, b56, k56_1, Nat.reduceEqDiff, Nat.reduceAdd, ↓reduceIte, reduceCtorEq, Nat.reduceEqDiff]
  exact q
theorem impl_treesCopy_b1_of (x3 : (List TTree)) (x6 : (List TTree)) (x7 : Int) (x8 : Int) {r : (List TTree)} (h : (if decide (x8 < x7) then ((rdx x6 x8).bind fun v1 =>
   (impl_treeCopy v1).bind fun r2 =>
   if apOk 80 x3 ([r2]) then impl_treesCopy_b1 (x3 ++ ([r2])) x6 x7 (w64 (x8 + 1))
   else none)
  else some x3) = some r) : impl_treesCopy_b1 x3 x6 x7 x8 = some r := by
  refine Blk.of E5_inj ?_
  refine D_start (c' := d56_1) rfl ?_
  rcases ifB h with ⟨e1, h⟩ | ⟨e1, h⟩
  · obtain ⟨v1, e2, h⟩ := bnd h
    obtain ⟨r2, e3, h⟩ := bnd h
    obtain ⟨e4, h⟩ := ifP h
    have me4 := apL e4
    try simp (implicitDefEqProofs := false) only [go_sem, Nat.reduceAdd, Nat.reduceLeDiff] at me4
    have q := Blk.run h
    try simp (implicitDefEqProofs := false) only [go_sem] at q
    simp (implicitDefEqProofs := false) only [go_sem, d56_1, k56_1, e1, rdp e2, rdm (eTTree .bor) e2, impl_treeCopy_run e3, me4, Nat.reduceEqDiff, Nat.reduceAdd, Nat.reduceLeDiff, ↓reduceIte, reduceCtorEq, Nat.reduceEqDiff]
    exact q
  · cases h
    simp (implicitDefEqProofs := false) only [go_sem, d56_1, k56_1, R56, E5, e1, Nat.reduceEqDiff, Nat.reduceAdd, ↓reduceIte, Nat.reduceEqDiff]
theorem impl_treeCopy_of (x0 : TTree) {r : TTree} (h : (if apOk 40 ([] : (List TProp)) x0.Props then ((impl_treesCopy x0.Kids).bind fun r1 =>
   some (⟨x0.Tag, x0.Key, x0.Text, x0.Props, r1⟩ : TTree))
  else none) = some r) : impl_treeCopy x0 = some r := by
  refine Fn.of L_eq E6_inj (fi := fi28) rfl rfl ?_
  simp only [fi28]
  obtain ⟨e1, h⟩ := ifP h
  have me1 := apL e1
  try simp (implicitDefEqProofs := false) only [go_sem] at me1
  obtain ⟨r1, e2, h⟩ := bnd h
  cases h
  simp (implicitDefEqProofs := false) only [go_sem, b28, R28, E6, me1, impl_treesCopy_run e2, Nat.reduceEqDiff, Nat.reduceAdd, Nat.reduceLeDiff, ↓reduceIte, reduceCtorEq, Nat.reduceEqDiff]
theorem impl_propEdits_1_of (x0 : TProp) (x1 : Int) {r : Bool} (h : (some (decide (x0.Name = x1))) = some r) : impl_propEdits_1 x0 x1 = some r := by
  refine Fn.of L_eq E7_inj (fi := fi104) rfl rfl ?_
  simp only [fi104]
  cases h
  simp (implicitDefEqProofs := false) only [go_sem, b104, R104, E7, Nat.reduceEqDiff, Nat.reduceAdd, Nat.reduceLeDiff, ↓reduceIte, reduceCtorEq, Nat.reduceEqDiff]
theorem slices_IndexFunc_impl_Prop_impl_Prop_of (x0 : (List TProp)) (x1_0 : Int) {r : Int} (h : (slices_IndexFunc_impl_Prop_impl_Prop_b1 x0 x1_0 (x0.length : Int) 0) = some r) : slices_IndexFunc_impl_Prop_impl_Prop x0 x1_0 = some r := by
  refine Fn.of L_eq E1_inj (fi := fi61) rfl rfl ?_
  simp only [fi61]
  have q := Blk.run h
  try simp (implicitDefEqProofs := false) only [go_sem] at q
  simp (implicitDefEqProofs := false) only [go_sem, b61, k61_1, Nat.reduceEqDiff, Nat.reduceAdd, ↓reduceIte, reduceCtorEq, Nat.reduceEqDiff]
  exact q
theorem slices_IndexFunc_impl_Prop_impl_Prop_b1_of (x0 : (List TProp)) (x1_0 : Int) (x7 : Int) (x8 : Int) {r : Int} (h : (if decide (x8 < x7) then ((rdx x0 x8).bind fun v1 =>
   (impl_propEdits_1 v1 x1_0).bind fun r2 =>
   if r2 then some x8
   else slices_IndexFunc_impl_Prop_impl_Prop_b1 x0 x1_0 x7 (w64 (x8 + 1)))
  else some (-1)) = some r) : slices_IndexFunc_impl_Prop_impl_Prop_b1 x0 x1_0 x7 x8 = some r := by
  refine Blk.of E1_inj ?_
  refine D_start (c' := d61_1) rfl ?_
  rcases ifB h with ⟨e1, h⟩ | ⟨e1, h⟩
  · obtain ⟨v1, e2, h⟩ := bnd h
    obtain ⟨r2, e3, h⟩ := bnd h
    rcases ifB h with ⟨e4, h⟩ | ⟨e4, h⟩
    · cases h
      simp (implicitDefEqProofs := false) only [go_sem, d61_1, k61_1, R61, E1, e1, rdp e2, rdm eTProp e2, impl_propEdits_1_run e3, e4, Nat.reduceEqDiff, Nat.reduceAdd, Nat.reduceLeDiff, ↓reduceIte, reduceCtorEq, Nat.reduceBEq, Nat.reduceEqDiff]
    · have q := Blk.run h
      try simp (implicitDefEqProofs := false) only [go_sem] at q
      simp (implicitDefEqProofs := false) only [go_sem, d61_1, k61_1, e1, rdp e2, rdm eTProp e2, impl_propEdits_1_run e3, e4, Nat.reduceEqDiff, Nat.reduceAdd, Nat.reduceLeDiff, ↓reduceIte, reduceCtorEq, Nat.reduceBEq, Nat.reduceEqDiff]
      exact q
  · cases h
    simp (implicitDefEqProofs := false) only [go_sem, d61_1, k61_1, R61, E1, e1, Nat.reduceEqDiff, Nat.reduceAdd, ↓reduceIte, reduceCtorEq, Nat.reduceEqDiff]
theorem impl_propEdits_2_of (x0 : TProp) (x1 : Int) {r : Bool} (h : (some (decide (x0.Name = x1))) = some r) : impl_propEdits_2 x0 x1 = some r := by
  refine Fn.of L_eq E7_inj (fi := fi105) rfl rfl ?_
  simp only [fi105]
  cases h
  simp (implicitDefEqProofs := false) only [go_sem, b105, R105, E7, Nat.reduceEqDiff, Nat.reduceAdd, Nat.reduceLeDiff, ↓reduceIte, reduceCtorEq, Nat.reduceEqDiff]
theorem slices_IndexFunc_impl_Prop_impl_Prop_v_of (x0 : (List TProp)) (x1_0 : Int) {r : Int} (h : (slices_IndexFunc_impl_Prop_impl_Prop_v_b1 x0 x1_0 (x0.length : Int) 0) = some r) : slices_IndexFunc_impl_Prop_impl_Prop_v x0 x1_0 = some r := by
  refine Fn.of L_eq E1_inj (fi := fi61) rfl rfl ?_
  simp only [fi61]
  have q := Blk.run h
  try simp (implicitDefEqProofs := false) only [go_sem] at q
  simp (implicitDefEqProofs := false) only [go_sem, b61, k61_1, Nat.reduceEqDiff, Nat.reduceAdd, ↓reduceIte, reduceCtorEq, Nat.reduceEqDiff]
  exact q
theorem slices_IndexFunc_impl_Prop_impl_Prop_v_b1_of (x0 : (List TProp)) (x1_0 : Int) (x7 : Int) (x8 : Int) {r : Int} (h : (if decide (x8 < x7) then ((rdx x0 x8).bind fun v1 =>
   (impl_propEdits_2 v1 x1_0).bind fun r2 =>
   if r2 then some x8
   else slices_IndexFunc_impl_Prop_impl_Prop_v_b1 x0 x1_0 x7 (w64 (x8 + 1)))
  else some (-1)) = some r) : slices_IndexFunc_impl_Prop_impl_Prop_v_b1 x0 x1_0 x7 x8 = some r := by
  refine Blk.of E1_inj ?_
  refine D_start (c' := d61_1) rfl ?_
  rcases ifB h with ⟨e1, h⟩ | ⟨e1, h⟩
  · obtain ⟨v1, e2, h⟩ := bnd h
    obtain ⟨r2, e3, h⟩ := bnd h
    rcases ifB h with ⟨e4, h⟩ | ⟨e4, h⟩
    · cases h
      simp (implicitDefEqProofs := false) only [go_sem, d61_1, k61_1, R61, E1, e1, rdp e2, rdm eTProp e2, impl_propEdits_2_run e3, e4, Nat.reduceEqDiff, Nat.reduceAdd, Nat.reduceLeDiff, ↓reduceIte, reduceCtorEq, Nat.reduceBEq, Nat.reduceEqDiff]
    · have q := Blk.run h
      try simp (implicitDefEqProofs := false) only [go_sem] at q
      simp (implicitDefEqProofs := false) only [go_sem, d61_1, k61_1, e1, rdp e2, rdm eTProp e2, impl_propEdits_2_run e3, e4, Nat.reduceEqDiff, Nat.reduceAdd, Nat.reduceLeDiff, ↓reduceIte, reduceCtorEq, Nat.reduceBEq, Nat.reduceEqDiff]
      exact q
  · cases h
    simp (implicitDefEqProofs := false) only [go_sem, d61_1, k61_1, R61, E1, e1, Nat.reduceEqDiff, Nat.reduceAdd, ↓reduceIte, reduceCtorEq, Nat.reduceEqDiff]
theorem impl_propEdits_of (x0 : TTree) (x1 : TTree) (x2 : (List Int)) {r : (List TEdit)} (h : (impl_propEdits_b1 x2 [] 0 x0 x1) = some r) : impl_propEdits x0 x1 x2 = some r := by
  refine Fn.of L_eq E9_inj (fi := fi76) rfl rfl ?_
  simp only [fi76]
  have q := Blk.run h
  try simp (implicitDefEqProofs := false) only [go_sem] at q
  simp (implicitDefEqProofs := false) only [go_sem, b76, k76_1, Nat.reduceEqDiff, Nat.reduceAdd, ↓reduceIte, reduceCtorEq, Nat.reduceBEq, Nat.reduceEqDiff]
  exact q
theorem impl_propEdits_b1_of (x2 : (List Int)) (x7 : (List TEdit)) (x11 : Int) (y3 : TTree) (y4 : TTree) {r : (List TEdit)} (h : (if decide (x11 < 4) then ((slices_IndexFunc_impl_Prop_impl_Prop y3.Props x11).bind fun r1 =>
   (slices_IndexFunc_impl_Prop_impl_Prop_v y4.Props x11).bind fun r2 =>
   if decide (0 ≤ r1) then impl_propEdits_b2 x2 x7 r1 r2 x11 (decide (r2 < 0)) y3 y4 x11
   else impl_propEdits_b2 x2 x7 r1 r2 x11 false y3 y4 x11)
  else some x7) = some r) : impl_propEdits_b1 x2 x7 x11 y3 y4 = some r := by
  refine Blk.of E9_inj ?_
  refine D_start (c' := d76_1) rfl ?_
  rcases ifB h with ⟨e1, h⟩ | ⟨e1, h⟩
  · obtain ⟨r1, e2, h⟩ := bnd h
    obtain ⟨r2, e3, h⟩ := bnd h
    rcases ifB h with ⟨e4, h⟩ | ⟨e4, h⟩
    · have q := Blk.run h
      try simp (implicitDefEqProofs := false) only [go_sem] at q
      simp (implicitDefEqProofs := false) only [go_sem, d76_1, k76_1, k76_2, e1, slices_IndexFunc_impl_Prop_impl_Prop_run e2, slices_IndexFunc_impl_Prop_impl_Prop_v_run e3, e4, Nat.reduceEqDiff, Nat.reduceAdd, Nat.reduceLeDiff, ↓reduceIte, reduceCtorEq, Nat.reduceBEq, Nat.reduceEqDiff]
      exact q
    · have q := Blk.run h
      try simp (implicitDefEqProofs := false) only [go_sem] at q
      simp (implicitDefEqProofs := false) only [go_sem, d76_1, k76_1, k76_2, e1, slices_IndexFunc_impl_Prop_impl_Prop_run e2, slices_IndexFunc_impl_Prop_impl_Prop_v_run e3, e4, Nat.reduceEqDiff, Nat.reduceAdd, Nat.reduceLeDiff, ↓reduceIte, reduceCtorEq, Nat.reduceBEq, Nat.reduceEqDiff]
      exact q
  · cases h
    simp (implicitDefEqProofs := false) only [go_sem, d76_1, k76_1, k76_2, R76, E9, e1, Nat.reduceEqDiff, Nat.reduceAdd, ↓reduceIte, Nat.reduceEqDiff]
theorem impl_propEdits_b2_of (x2 : (List Int)) (x7 : (List TEdit)) (x9 : Int) (x10 : Int) (x11 : Int) (x22 : Bool) (y3 : TTree) (y4 : TTree) (y8 : Int) {r : (List TEdit)} (h : (if x22 then ((impl_wayCopy x2).bind fun r3 =>
   if apOk 160 x7 ([(⟨3, r3, y8, 0, (⟨0, 0, []⟩ : TValue), (⟨0, 0, [], [], []⟩ : TTree)⟩ : TEdit)]) then impl_propEdits_b1 x2 (x7 ++ ([(⟨3, r3, y8, 0, (⟨0, 0, []⟩ : TValue), (⟨0, 0, [], [], []⟩ : TTree)⟩ : TEdit)])) (w64 (x11 + 1)) y3 y4
   else none)
  else (if decide (0 ≤ x10) then (if decide (x9 < 0) then impl_propEdits_b3 x2 x7 x10 x11 true y3 y4 y8
    else ((rdx y3.Props x9).bind fun v4 =>
     (rdx y4.Props x10).bind fun v5 =>
     impl_propEdits_b3 x2 x7 x10 x11 (!(decide (v4.Val.Kind = v5.Val.Kind) && (decide (v4.Val.Num = v5.Val.Num) && (decide (v4.Val.Text = v5.Val.Text) && true)))) y3 y4 y8))
   else impl_propEdits_b3 x2 x7 x10 x11 false y3 y4 y8)) = some r) : impl_propEdits_b2 x2 x7 x9 x10 x11 x22 y3 y4 y8 = some r := by
  refine Blk.of E9_inj ?_
  refine D_start (c' := d76_2) rfl ?_
  rcases ifB h with ⟨e1, h⟩ | ⟨e1, h⟩
  · obtain ⟨r3, e2, h⟩ := bnd h
    obtain ⟨e3, h⟩ := ifP h
    have me3 := apL e3
    try simp (implicitDefEqProofs := false) only [go_sem, Nat.reduceAdd, Nat.reduceLeDiff] at me3
    have q := Blk.run h
    try simp (implicitDefEqProofs := false) only [go_sem] at q
    simp (implicitDefEqProofs := false) only [go_sem, d76_2, k76_1, k76_2, e1, impl_wayCopy_run e2, me3, Nat.reduceEqDiff, Nat.reduceAdd, Nat.reduceLeDiff, ↓reduceIte, Nat.reduceBEq, Nat.reduceEqDiff]
    exact q
  · rcases ifB h with ⟨e4, h⟩ | ⟨e4, h⟩
    · rcases ifB h with ⟨e5, h⟩ | ⟨e5, h⟩
      · have q := Blk.run h
        try simp (implicitDefEqProofs := false) only [go_sem] at q
        simp (implicitDefEqProofs := false) only [go_sem, d76_2, k76_1, k76_2, e1, e4, e5, Nat.reduceEqDiff, Nat.reduceAdd, ↓reduceIte, Nat.reduceBEq, Nat.reduceEqDiff]
        exact q
      · obtain ⟨v4, e6, h⟩ := bnd h
        obtain ⟨v5, e7, h⟩ := bnd h
        have q := Blk.run h
        try simp (implicitDefEqProofs := false) only [go_sem] at q
        simp (implicitDefEqProofs := false) only [go_sem, d76_2, k76_1, k76_2, e1, e5, rdp e6, rdm eTProp e6, rdp e7, rdm eTProp e7, Nat.reduceEqDiff, Nat.reduceAdd, Nat.reduceLeDiff, ↓reduceIte, reduceCtorEq, Nat.reduceBEq, Nat.reduceEqDiff]
        exact q
    · have q := Blk.run h
      try simp (implicitDefEqProofs := false) only [go_sem] at q
      simp (implicitDefEqProofs := false) only [go_sem, d76_2, k76_1, k76_2, e1, e4, Nat.reduceEqDiff, Nat.reduceAdd, ↓reduceIte, Nat.reduceBEq, Nat.reduceEqDiff]
      exact q
theorem impl_propEdits_b3_of (x2 : (List Int)) (x7 : (List TEdit)) (x10 : Int) (x11 : Int) (x36 : Bool) (y3 : TTree) (y4 : TTree) (y8 : Int) {r : (List TEdit)} (h : (if x36 then ((impl_wayCopy x2).bind fun r6 =>
   (rdx y4.Props x10).bind fun v7 =>
   if apOk 160 x7 ([(⟨2, r6, y8, 0, v7.Val, (⟨0, 0, [], [], []⟩ : TTree)⟩ : TEdit)]) then impl_propEdits_b1 x2 (x7 ++ ([(⟨2, r6, y8, 0, v7.Val, (⟨0, 0, [], [], []⟩ : TTree)⟩ : TEdit)])) (w64 (x11 + 1)) y3 y4
   else none)
  else impl_propEdits_b1 x2 x7 (w64 (x11 + 1)) y3 y4) = some r) : impl_propEdits_b3 x2 x7 x10 x11 x36 y3 y4 y8 = some r := by
  refine Blk.of E9_inj ?_
  refine D_start (c' := d76_3) rfl ?_
  rcases ifB h with ⟨e1, h⟩ | ⟨e1, h⟩
  · obtain ⟨r6, e2, h⟩ := bnd h
    obtain ⟨v7, e3, h⟩ := bnd h
    obtain ⟨e4, h⟩ := ifP h
    have me4 := apL e4
    try simp (implicitDefEqProofs := false) only [go_sem, Nat.reduceAdd, Nat.reduceLeDiff] at me4
    have q := Blk.run h
    try simp (implicitDefEqProofs := false) only [go_sem] at q
    simp (implicitDefEqProofs := false) only [go_sem, d76_3, k76_1, k76_2, e1, impl_wayCopy_run e2, rdp e3, rdm eTProp e3, me4, Nat.reduceEqDiff, Nat.reduceAdd, Nat.reduceLeDiff, ↓reduceIte, reduceCtorEq, Nat.reduceBEq, Nat.reduceEqDiff]
    exact q
  · have q := Blk.run h
    try simp (implicitDefEqProofs := false) only [go_sem] at q
    simp (implicitDefEqProofs := false) only [go_sem, d76_3, k76_1, k76_2, e1, Nat.reduceEqDiff, Nat.reduceAdd, ↓reduceIte, Nat.reduceBEq, Nat.reduceEqDiff]
    exact q
theorem slices_Delete_int_int_of (x0 : (List Int)) (x1 : Int) (x2 : Int) {r : (List Int)} (h : (if 0 ≤ x1 ∧ x1 < x2 ∧ x2 ≤ (x0.length : Int) then some (x0.take x1.toNat ++ x0.drop x2.toNat) else none) = some r) : slices_Delete_int_int x0 x1 x2 = some r := by
  refine Fn.ofExt L_eq E10_inj rfl ?_
  obtain ⟨e1, h⟩ := ifP h
  cases h
  simp only [TB, ext, extDel, e1, E10, Nat.reduceEqDiff, reduceIte, if_true, intsOf_map, ob_some']
  simp
end Go.Fw.Law
