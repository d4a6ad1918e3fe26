/- What the functions come to. Conditions: none. -/
import Derived.Test.YtjldolmokfnkoaaGreatDoorLyD
namespace Go.Fw.Law
open Go Go.Fw
theorem spec_DamageOf_of (x0 x1 : TTree) (x2 : List TRule) (x3 x4 : Int) {r : TBox} (h : ((spec_validScreen x0 x2 x3 x4).bind fun r1 =>
  if !r1 then some (⟨0, 0, 0, 0⟩ : TBox)
  else ((spec_validTree x1).bind fun r2 =>
   if !r2 then some (⟨0, 0, 0, 0⟩ : TBox)
   else ((spec_painted x0 x2 x3 x4).bind fun r3 =>
    (spec_painter_rows r3).bind fun r4 =>
    (spec_painted x1 x2 x3 x4).bind fun r5 =>
    (spec_painter_rows r5).bind fun r6 =>
    (spec_differs r4.1 r6.1).bind fun r7 =>
    some r7))) = some r) : spec_DamageOf x0 x1 x2 x3 x4 = some r := by
  refine Fn.of L_eq E17_inj (fi := fi23) rfl rfl ?_
  simp only [fi23]
  obtain ⟨r1, e1, h⟩ := bnd h
  rcases ifB h with ⟨e2, h⟩ | ⟨e2, h⟩
  · cases h
    simp (implicitDefEqProofs := false) only [go_sem, b23, R23, E17, spec_validScreen_run e1, e2, Nat.reduceEqDiff, Nat.reduceAdd, Nat.reduceLeDiff, ↓reduceIte, reduceCtorEq]
  · obtain ⟨r2, e3, h⟩ := bnd h
    rcases ifB h with ⟨e4, h⟩ | ⟨e4, h⟩
    · cases h
      simp (implicitDefEqProofs := false) only [go_sem, b23, R23, E17, spec_validScreen_run e1, e2, spec_validTree_run e3, e4, Nat.reduceEqDiff, Nat.reduceAdd, Nat.reduceLeDiff, ↓reduceIte, reduceCtorEq]
    · obtain ⟨r3, e5, h⟩ := bnd h
      obtain ⟨r4, e6, h⟩ := bnd h
      obtain ⟨r5, e7, h⟩ := bnd h
      obtain ⟨r6, e8, h⟩ := bnd h
      obtain ⟨r7, e9, h⟩ := bnd h
      cases h
      simp (implicitDefEqProofs := false) only [go_sem, b23, R23, E17, spec_validScreen_run e1, e2, spec_validTree_run e3, e4, spec_painted_run e5, spec_painter_rows_run e6, spec_painted_run e7, spec_painter_rows_run e8, spec_differs_run e9, Nat.reduceEqDiff, Nat.reduceAdd, Nat.reduceLeDiff, ↓reduceIte, reduceCtorEq]
theorem impl_word_of (x0 : Str) {r : Bool} (h : (impl_word_b1 x0 0) = some r) : impl_word x0 = some r := by
  refine Fn.of L_eq E9_inj (fi := fi107) rfl rfl ?_
  simp only [fi107]
  have q := Blk.run h
  try simp only [go_sem] at q
  simp (implicitDefEqProofs := false) only [go_sem, b107, k107_1, g107_1, Nat.reduceEqDiff, Nat.reduceAdd, ↓reduceIte, reduceCtorEq]
  exact q
theorem impl_word_b1_of (x0 : Str) (x3 : Int) {r : Bool} (h : (if decide (x3 < (x0.length : Int)) then ((rdx x0 x3).bind fun v1 =>
   if decide (97 ≤ (v1.toNat : Int)) then (if decide ((v1.toNat : Int) ≤ 122) then impl_word_b2 x0 x3
    else (if decide (48 ≤ (v1.toNat : Int)) then (if decide ((v1.toNat : Int) ≤ 57) then impl_word_b2 x0 x3
      else (if !(decide ((v1.toNat : Int) = 32)) then some false
       else impl_word_b2 x0 x3))
     else (if !(decide ((v1.toNat : Int) = 32)) then some false
      else impl_word_b2 x0 x3)))
   else (if decide (48 ≤ (v1.toNat : Int)) then (if decide ((v1.toNat : Int) ≤ 57) then impl_word_b2 x0 x3
     else (if !(decide ((v1.toNat : Int) = 32)) then some false
      else impl_word_b2 x0 x3))
    else (if !(decide ((v1.toNat : Int) = 32)) then some false
     else impl_word_b2 x0 x3)))
  else some (decide ((x0.length : Int) ≤ 12))) = some r) : impl_word_b1 x0 x3 = some r := by
  refine Blk.of E9_inj ?_
  refine D_start (c' := d107_1) rfl ?_
  rcases ifB h with ⟨e1, h⟩ | ⟨e1, h⟩
  · obtain ⟨v1, e2, h⟩ := bnd h
    rcases ifB h with ⟨e3, h⟩ | ⟨e3, h⟩
    · rcases ifB h with ⟨e4, h⟩ | ⟨e4, h⟩
      · have q := Blk.run h
        try simp only [go_sem] at q
        simp (implicitDefEqProofs := false) only [go_sem, d107_1, k107_1, g107_1, g107_2, e1, rdp e2, rds e2, e3, e4, Nat.reduceEqDiff, Nat.reduceAdd, ↓reduceIte, reduceCtorEq]
        exact q
      · rcases ifB h with ⟨e5, h⟩ | ⟨e5, h⟩
        · rcases ifB h with ⟨e6, h⟩ | ⟨e6, h⟩
          · have q := Blk.run h
            try simp only [go_sem] at q
            simp (implicitDefEqProofs := false) only [go_sem, d107_1, k107_1, g107_1, g107_2, e1, rdp e2, rds e2, e3, e4, e5, e6, Nat.reduceEqDiff, Nat.reduceAdd, ↓reduceIte, reduceCtorEq]
            exact q
          · rcases ifB h with ⟨e7, h⟩ | ⟨e7, h⟩
            · cases h
              simp (implicitDefEqProofs := false) only [go_sem, d107_1, k107_1, g107_1, g107_2, R107, E9, e1, rdp e2, rds e2, e3, e4, e5, e6, e7, Nat.reduceEqDiff, Nat.reduceAdd, ↓reduceIte, reduceCtorEq]
            · have q := Blk.run h
              try simp only [go_sem] at q
              simp (implicitDefEqProofs := false) only [go_sem, d107_1, k107_1, g107_1, g107_2, e1, rdp e2, rds e2, e3, e4, e5, e6, e7, Nat.reduceEqDiff, Nat.reduceAdd, ↓reduceIte, reduceCtorEq]
              exact q
        · rcases ifB h with ⟨e8, h⟩ | ⟨e8, h⟩
          · cases h
            simp (implicitDefEqProofs := false) only [go_sem, d107_1, k107_1, g107_1, g107_2, R107, E9, e1, rdp e2, rds e2, e3, e4, e5, e8, Nat.reduceEqDiff, Nat.reduceAdd, ↓reduceIte, reduceCtorEq]
          · have q := Blk.run h
            try simp only [go_sem] at q
            simp (implicitDefEqProofs := false) only [go_sem, d107_1, k107_1, g107_1, g107_2, e1, rdp e2, rds e2, e3, e4, e5, e8, Nat.reduceEqDiff, Nat.reduceAdd, ↓reduceIte, reduceCtorEq]
            exact q
    · rcases ifB h with ⟨e9, h⟩ | ⟨e9, h⟩
      · rcases ifB h with ⟨e10, h⟩ | ⟨e10, h⟩
        · have q := Blk.run h
          try simp only [go_sem] at q
          simp (implicitDefEqProofs := false) only [go_sem, d107_1, k107_1, g107_1, g107_2, e1, rdp e2, rds e2, e3, e9, e10, Nat.reduceEqDiff, Nat.reduceAdd, ↓reduceIte, reduceCtorEq]
          exact q
        · rcases ifB h with ⟨e11, h⟩ | ⟨e11, h⟩
          · cases h
            simp (implicitDefEqProofs := false) only [go_sem, d107_1, k107_1, g107_1, g107_2, R107, E9, e1, rdp e2, rds e2, e3, e9, e10, e11, Nat.reduceEqDiff, Nat.reduceAdd, ↓reduceIte, reduceCtorEq]
          · have q := Blk.run h
            try simp only [go_sem] at q
            simp (implicitDefEqProofs := false) only [go_sem, d107_1, k107_1, g107_1, g107_2, e1, rdp e2, rds e2, e3, e9, e10, e11, Nat.reduceEqDiff, Nat.reduceAdd, ↓reduceIte, reduceCtorEq]
            exact q
      · rcases ifB h with ⟨e12, h⟩ | ⟨e12, h⟩
        · cases h
          simp (implicitDefEqProofs := false) only [go_sem, d107_1, k107_1, g107_1, g107_2, R107, E9, e1, rdp e2, rds e2, e3, e9, e12, Nat.reduceEqDiff, Nat.reduceAdd, ↓reduceIte, reduceCtorEq]
        · have q := Blk.run h
          try simp only [go_sem] at q
          simp (implicitDefEqProofs := false) only [go_sem, d107_1, k107_1, g107_1, g107_2, e1, rdp e2, rds e2, e3, e9, e12, Nat.reduceEqDiff, Nat.reduceAdd, ↓reduceIte, reduceCtorEq]
          exact q
  · cases h
    simp (implicitDefEqProofs := false) only [go_sem, d107_1, k107_1, g107_1, g107_2, R107, E9, e1, Nat.reduceEqDiff, Nat.reduceAdd, ↓reduceIte, reduceCtorEq]
theorem impl_word_b2_of (x0 : Str) (x3 : Int) {r : Bool} (h : (impl_word_b1 x0 (w64 (x3 + 1))) = some r) : impl_word_b2 x0 x3 = some r := by
  refine Blk.of E9_inj ?_
  refine D_start (c' := d107_2) rfl ?_
  have q := Blk.run h
  try simp only [go_sem] at q
  simp (implicitDefEqProofs := false) only [go_sem, d107_2, k107_1, g107_1, Nat.reduceEqDiff, Nat.reduceAdd, ↓reduceIte, reduceCtorEq]
  exact q
theorem strconv_Atoi_of (x0 : Str) {r : Int × Bool} (h : (if x0.length ≤ 281474976710656 then some (atoiP x0) else none) = some r) : strconv_Atoi x0 = some r := by
  refine Fn.ofExt L_eq E22_inj rfl ?_
  obtain ⟨e1, h⟩ := ifP h
  cases h
  simp only [TB, ext, extAtoi, e1, E22, Nat.reduceEqDiff, reduceIte, if_true, atoiP]
  cases Lib.atoiAll x0 <;> simp
theorem impl_within_of (x0 x1 x2 : Int) {r : Bool} (h : (if decide (x1 ≤ x0) then some (decide (x0 ≤ x2))
  else some false) = some r) : impl_within x0 x1 x2 = some r := by
  refine Fn.of L_eq E9_inj (fi := fi43) rfl rfl ?_
  simp only [fi43]
  rcases ifB h with ⟨e1, h⟩ | ⟨e1, h⟩
  · cases h
    simp (implicitDefEqProofs := false) only [go_sem, b43, R43, E9, e1, Nat.reduceEqDiff, Nat.reduceAdd, ↓reduceIte, reduceCtorEq]
  · cases h
    simp (implicitDefEqProofs := false) only [go_sem, b43, R43, E9, e1, Nat.reduceEqDiff, Nat.reduceAdd, ↓reduceIte, reduceCtorEq]
theorem strconv_Itoa_of (x0 : Int) {r : Str} (h : (if -9223372036854775808 ≤ x0 ∧ x0 ≤ 9223372036854775807 then some (Lib.itoa x0) else none) = some r) : strconv_Itoa x0 = some r := by
  refine Fn.ofExt L_eq E10_inj rfl ?_
  obtain ⟨e1, h⟩ := ifP h
  cases h
  simp only [TB, ext, extItoa, e1, E10, Nat.reduceEqDiff, reduceIte, if_true]
  simp
theorem impl_shown_of (x0 : Str) {r : Bool} (h : ((impl_word x0).bind fun r1 =>
  if r1 then some true
  else ((strconv_Atoi x0).bind fun r2 =>
   if r2.2 then ((impl_within r2.1 (-1000) 1000).bind fun r3 =>
    if r3 then ((strconv_Itoa r2.1).bind fun r4 =>
     some (decide (r4 = x0)))
    else some false)
   else some false)) = some r) : impl_shown x0 = some r := by
  refine Fn.of L_eq E9_inj (fi := fi106) rfl rfl ?_
  simp only [fi106]
  obtain ⟨r1, e1, h⟩ := bnd h
  rcases ifB h with ⟨e2, h⟩ | ⟨e2, h⟩
  · cases h
    simp (implicitDefEqProofs := false) only [go_sem, b106, R106, E9, impl_word_run e1, e2, Nat.reduceEqDiff, Nat.reduceAdd, ↓reduceIte, reduceCtorEq]
  · obtain ⟨r2, e3, h⟩ := bnd h
    rcases ifB h with ⟨e4, h⟩ | ⟨e4, h⟩
    · obtain ⟨r3, e5, h⟩ := bnd h
      rcases ifB h with ⟨e6, h⟩ | ⟨e6, h⟩
      · obtain ⟨r4, e7, h⟩ := bnd h
        cases h
        simp (implicitDefEqProofs := false) only [go_sem, b106, R106, E9, impl_word_run e1, e2, strconv_Atoi_run e3, e4, impl_within_run e5, e6, strconv_Itoa_run e7, Nat.reduceEqDiff, Nat.reduceAdd, ↓reduceIte, reduceCtorEq]
      · cases h
        simp (implicitDefEqProofs := false) only [go_sem, b106, R106, E9, impl_word_run e1, e2, strconv_Atoi_run e3, e4, impl_within_run e5, e6, Nat.reduceEqDiff, Nat.reduceAdd, ↓reduceIte, reduceCtorEq]
    · cases h
      simp (implicitDefEqProofs := false) only [go_sem, b106, R106, E9, impl_word_run e1, e2, strconv_Atoi_run e3, e4, Nat.reduceEqDiff, Nat.reduceAdd, ↓reduceIte, reduceCtorEq]
theorem impl_ValOk_of (x0 : TValue) {r : Bool} (h : (if decide (x0.Kind = 0) then (if decide (x0.Num = 0) then some (decide (x0.Text = []))
   else some false)
  else (if decide (x0.Kind = 1) then ((impl_within x0.Num (-1000) 1000).bind fun r1 =>
    if r1 then some (decide (x0.Text = []))
    else some false)
   else (if decide (x0.Kind = 2) then (if decide (x0.Num = 0) then ((impl_word x0.Text).bind fun r2 =>
      some r2)
     else some false)
    else some false))) = some r) : impl_ValOk x0 = some r := by
  refine Fn.of L_eq E9_inj (fi := fi81) rfl rfl ?_
  simp only [fi81]
  rcases ifB h with ⟨e1, h⟩ | ⟨e1, h⟩
  · rcases ifB h with ⟨e2, h⟩ | ⟨e2, h⟩
    · cases h
      simp (implicitDefEqProofs := false) only [go_sem, b81, R81, E9, e1, e2, Nat.reduceEqDiff, Nat.reduceAdd, Nat.reduceLeDiff, ↓reduceIte, reduceCtorEq]
    · cases h
      simp (implicitDefEqProofs := false) only [go_sem, b81, R81, E9, e1, e2, Nat.reduceEqDiff, Nat.reduceAdd, Nat.reduceLeDiff, ↓reduceIte, reduceCtorEq]
  · rcases ifB h with ⟨e3, h⟩ | ⟨e3, h⟩
    · obtain ⟨r1, e4, h⟩ := bnd h
      rcases ifB h with ⟨e5, h⟩ | ⟨e5, h⟩
      · cases h
        simp (implicitDefEqProofs := false) only [go_sem, b81, R81, E9, e1, e3, impl_within_run e4, e5, Nat.reduceEqDiff, Nat.reduceAdd, Nat.reduceLeDiff, ↓reduceIte, reduceCtorEq]
      · cases h
        simp (implicitDefEqProofs := false) only [go_sem, b81, R81, E9, e1, e3, impl_within_run e4, e5, Nat.reduceEqDiff, Nat.reduceAdd, Nat.reduceLeDiff, ↓reduceIte, reduceCtorEq]
    · rcases ifB h with ⟨e6, h⟩ | ⟨e6, h⟩
      · rcases ifB h with ⟨e7, h⟩ | ⟨e7, h⟩
        · obtain ⟨r2, e8, h⟩ := bnd h
          cases h
          simp (implicitDefEqProofs := false) only [go_sem, b81, R81, E9, e1, e3, e6, e7, impl_word_run e8, Nat.reduceEqDiff, Nat.reduceAdd, Nat.reduceLeDiff, ↓reduceIte, reduceCtorEq]
        · cases h
          simp (implicitDefEqProofs := false) only [go_sem, b81, R81, E9, e1, e3, e6, e7, Nat.reduceEqDiff, Nat.reduceAdd, Nat.reduceLeDiff, ↓reduceIte, reduceCtorEq]
      · cases h
        simp (implicitDefEqProofs := false) only [go_sem, b81, R81, E9, e1, e3, e6, Nat.reduceEqDiff, Nat.reduceAdd, Nat.reduceLeDiff, ↓reduceIte, reduceCtorEq]
theorem impl_treeFits_of (x0 : TTree) (x1 x2 : Int) {r : Bool × Int} (h : (if decide (24 < x1) then some (false, w64 (x2 - 1))
  else (if decide ((w64 (x2 - 1)) < 0) then some (false, w64 (x2 - 1))
   else (if decide (x0.Tag = (-1)) then (if decide (x0.Key = (-1)) then ((impl_shown x0.Text).bind fun r1 =>
      if r1 then (if decide ((x0.Props.length : Int) = 0) then some (decide ((x0.Kids.length : Int) = 0), w64 (x2 - 1))
       else some (false, w64 (x2 - 1)))
      else some (false, w64 (x2 - 1)))
     else some (false, w64 (x2 - 1)))
    else ((impl_within x0.Tag 0 4).bind fun r2 =>
     if !r2 then some (false, w64 (x2 - 1))
     else ((impl_within x0.Key (-1) 99).bind fun r3 =>
      if !r3 then some (false, w64 (x2 - 1))
      else (if !(decide (x0.Text = [])) then some (false, w64 (x2 - 1))
       else impl_treeFits_b1 x1 x0.Props (x0.Props.length : Int) 0 (w64 (x2 - 1)) x0)))))) = some r) : impl_treeFits x0 x1 x2 = some r := by
  refine Fn.of L_eq E23_inj (fi := fi80) rfl rfl ?_
  simp only [fi80]
  rcases ifB h with ⟨e1, h⟩ | ⟨e1, h⟩
  · cases h
    simp (implicitDefEqProofs := false) only [go_sem, b80, k80_1, k80_2, g80_1, g80_2, R80, E23, e1, Nat.reduceEqDiff, Nat.reduceAdd, Nat.reduceLeDiff, ↓reduceIte, reduceCtorEq]
  · rcases ifB h with ⟨e2, h⟩ | ⟨e2, h⟩
    · cases h
      simp (implicitDefEqProofs := false) only [go_sem, b80, k80_1, k80_2, g80_1, g80_2, R80, E23, e1, e2, Nat.reduceEqDiff, Nat.reduceAdd, Nat.reduceLeDiff, ↓reduceIte, reduceCtorEq]
    · rcases ifB h with ⟨e3, h⟩ | ⟨e3, h⟩
      · rcases ifB h with ⟨e4, h⟩ | ⟨e4, h⟩
        · obtain ⟨r1, e5, h⟩ := bnd h
          rcases ifB h with ⟨e6, h⟩ | ⟨e6, h⟩
          · rcases ifB h with ⟨e7, h⟩ | ⟨e7, h⟩
            · cases h
              simp (implicitDefEqProofs := false) only [go_sem, b80, k80_1, k80_2, g80_1, g80_2, R80, E23, e1, e2, e3, e4, impl_shown_run e5, e6, e7, Nat.reduceEqDiff, Nat.reduceAdd, Nat.reduceLeDiff, ↓reduceIte, reduceCtorEq]
            · cases h
              simp (implicitDefEqProofs := false) only [go_sem, b80, k80_1, k80_2, g80_1, g80_2, R80, E23, e1, e2, e3, e4, impl_shown_run e5, e6, e7, Nat.reduceEqDiff, Nat.reduceAdd, Nat.reduceLeDiff, ↓reduceIte, reduceCtorEq]
          · cases h
            simp (implicitDefEqProofs := false) only [go_sem, b80, k80_1, k80_2, g80_1, g80_2, R80, E23, e1, e2, e3, e4, impl_shown_run e5, e6, Nat.reduceEqDiff, Nat.reduceAdd, Nat.reduceLeDiff, ↓reduceIte, reduceCtorEq]
        · cases h
          simp (implicitDefEqProofs := false) only [go_sem, b80, k80_1, k80_2, g80_1, g80_2, R80, E23, e1, e2, e3, e4, Nat.reduceEqDiff, Nat.reduceAdd, Nat.reduceLeDiff, ↓reduceIte, reduceCtorEq]
      · obtain ⟨r2, e8, h⟩ := bnd h
        rcases ifB h with ⟨e9, h⟩ | ⟨e9, h⟩
        · cases h
          simp (implicitDefEqProofs := false) only [go_sem, b80, k80_1, k80_2, g80_1, g80_2, R80, E23, e1, e2, e3, impl_within_run e8, e9, Nat.reduceEqDiff, Nat.reduceAdd, Nat.reduceLeDiff, ↓reduceIte, reduceCtorEq]
        · obtain ⟨r3, e10, h⟩ := bnd h
          rcases ifB h with ⟨e11, h⟩ | ⟨e11, h⟩
          · cases h
            simp (implicitDefEqProofs := false) only [go_sem, b80, k80_1, k80_2, g80_1, g80_2, R80, E23, e1, e2, e3, impl_within_run e8, e9, impl_within_run e10, e11, Nat.reduceEqDiff, Nat.reduceAdd, Nat.reduceLeDiff, ↓reduceIte, reduceCtorEq]
          · rcases ifB h with ⟨e12, h⟩ | ⟨e12, h⟩
            · cases h
              simp (implicitDefEqProofs := false) only [go_sem, b80, k80_1, k80_2, g80_1, g80_2, R80, E23, e1, e2, e3, impl_within_run e8, e9, impl_within_run e10, e11, e12, Nat.reduceEqDiff, Nat.reduceAdd, Nat.reduceLeDiff, ↓reduceIte, reduceCtorEq]
            · have q := Blk.run h
              try simp only [go_sem] at q
              simp (implicitDefEqProofs := false) only [go_sem, b80, k80_1, k80_2, g80_1, g80_2, e1, e2, e3, impl_within_run e8, e9, impl_within_run e10, e11, e12, Nat.reduceEqDiff, Nat.reduceAdd, Nat.reduceLeDiff, ↓reduceIte, reduceCtorEq, Nat.reduceBEq]
              exact q
theorem impl_treeFits_b1_of (x1 : Int) (x64 : List TProp) (x65 x66 y2 : Int) (y3 : TTree) {r : Bool × Int} (h : (if decide (x66 < x65) then ((rdx x64 x66).bind fun v4 =>
   (impl_within v4.Name 0 3).bind fun r5 =>
   if !r5 then some (false, y2)
   else (if decide (0 < x66) then ((rdx y3.Props (w64 (x66 - 1))).bind fun v6 =>
     if decide (v4.Name ≤ v6.Name) then some (false, y2)
     else ((impl_ValOk v4.Val).bind fun r7 =>
      if !r7 then some (false, y2)
      else impl_treeFits_b1 x1 x64 x65 (w64 (x66 + 1)) y2 y3))
    else ((impl_ValOk v4.Val).bind fun r8 =>
     if !r8 then some (false, y2)
     else impl_treeFits_b1 x1 x64 x65 (w64 (x66 + 1)) y2 y3)))
  else impl_treeFits_b2 x1 [] y3.Kids (y3.Kids.length : Int) 0 y2) = some r) : impl_treeFits_b1 x1 x64 x65 x66 y2 y3 = some r := by
  refine Blk.of E23_inj ?_
  refine D_start (c' := d80_1) rfl ?_
  rcases ifB h with ⟨e1, h⟩ | ⟨e1, h⟩
  · obtain ⟨v4, e2, h⟩ := bnd h
    obtain ⟨r5, e3, h⟩ := bnd h
    rcases ifB h with ⟨e4, h⟩ | ⟨e4, h⟩
    · cases h
      simp (implicitDefEqProofs := false) only [go_sem, d80_1, k80_1, k80_2, g80_1, g80_2, R80, E23, e1, rdp e2, rdm eTProp e2, impl_within_run e3, e4, Nat.reduceEqDiff, Nat.reduceAdd, Nat.reduceLeDiff, ↓reduceIte, reduceCtorEq]
    · rcases ifB h with ⟨e5, h⟩ | ⟨e5, h⟩
      · obtain ⟨v6, e6, h⟩ := bnd h
        rcases ifB h with ⟨e7, h⟩ | ⟨e7, h⟩
        · cases h
          simp (implicitDefEqProofs := false) only [go_sem, d80_1, k80_1, k80_2, g80_1, g80_2, R80, E23, e1, rdp e2, rdm eTProp e2, impl_within_run e3, e4, e5, rdp e6, rdm eTProp e6, e7, Nat.reduceEqDiff, Nat.reduceAdd, Nat.reduceLeDiff, ↓reduceIte, reduceCtorEq]
        · obtain ⟨r7, e8, h⟩ := bnd h
          rcases ifB h with ⟨e9, h⟩ | ⟨e9, h⟩
          · cases h
            simp (implicitDefEqProofs := false) only [go_sem, d80_1, k80_1, k80_2, g80_1, g80_2, R80, E23, e1, rdp e2, rdm eTProp e2, impl_within_run e3, e4, e5, rdp e6, rdm eTProp e6, e7, impl_ValOk_run e8, e9, Nat.reduceEqDiff, Nat.reduceAdd, Nat.reduceLeDiff, ↓reduceIte, reduceCtorEq]
          · have q := Blk.run h
            try simp only [go_sem] at q
            simp (implicitDefEqProofs := false) only [go_sem, d80_1, k80_1, k80_2, g80_1, g80_2, e1, rdp e2, rdm eTProp e2, impl_within_run e3, e4, e5, rdp e6, rdm eTProp e6, e7, impl_ValOk_run e8, e9, Nat.reduceEqDiff, Nat.reduceAdd, Nat.reduceLeDiff, ↓reduceIte, reduceCtorEq, Nat.reduceBEq]
            exact q
      · obtain ⟨r8, e10, h⟩ := bnd h
        rcases ifB h with ⟨e11, h⟩ | ⟨e11, h⟩
        · cases h
          simp (implicitDefEqProofs := false) only [go_sem, d80_1, k80_1, k80_2, g80_1, g80_2, R80, E23, e1, rdp e2, rdm eTProp e2, impl_within_run e3, e4, e5, impl_ValOk_run e10, e11, Nat.reduceEqDiff, Nat.reduceAdd, Nat.reduceLeDiff, ↓reduceIte, reduceCtorEq]
        · have q := Blk.run h
          try simp only [go_sem] at q
          simp (implicitDefEqProofs := false) only [go_sem, d80_1, k80_1, k80_2, g80_1, g80_2, e1, rdp e2, rdm eTProp e2, impl_within_run e3, e4, e5, impl_ValOk_run e10, e11, Nat.reduceEqDiff, Nat.reduceAdd, Nat.reduceLeDiff, ↓reduceIte, reduceCtorEq, Nat.reduceBEq]
          exact q
  · have q := Blk.run h
    try simp only [go_sem] at q
    simp (implicitDefEqProofs := false) only [go_sem, d80_1, k80_1, k80_2, g80_1, g80_2, e1, Nat.reduceEqDiff, Nat.reduceAdd, Nat.reduceLeDiff, ↓reduceIte, reduceCtorEq]
    exact q
theorem impl_treeFits_b2_of (x1 : Int) (x9 : List (Int × Bool)) (x100 : List TTree) (x101 x102 y2 : Int) {r : Bool × Int} (h : (if decide (x102 < x101) then ((rdx x100 x102).bind fun v9 =>
   if !(decide (v9.Key = (-1))) then (if mget x9 v9.Key then some (false, y2)
    else ((impl_treeFits v9 (w64 (x1 + 1)) y2).bind fun r10 =>
     if !r10.1 then some (false, r10.2)
     else impl_treeFits_b2 x1 (mput x9 v9.Key true) x100 x101 (w64 (x102 + 1)) r10.2))
   else ((impl_treeFits v9 (w64 (x1 + 1)) y2).bind fun r11 =>
    if !r11.1 then some (false, r11.2)
    else impl_treeFits_b2 x1 (mput x9 v9.Key true) x100 x101 (w64 (x102 + 1)) r11.2))
  else some (true, y2)) = some r) : impl_treeFits_b2 x1 x9 x100 x101 x102 y2 = some r := by
  refine Blk.of E23_inj ?_
  refine D_start (c' := d80_2) rfl ?_
  rcases ifB h with ⟨e1, h⟩ | ⟨e1, h⟩
  · obtain ⟨v9, e2, h⟩ := bnd h
    rcases ifB h with ⟨e3, h⟩ | ⟨e3, h⟩
    · rcases ifB h with ⟨e4, h⟩ | ⟨e4, h⟩
      · cases h
        simp (implicitDefEqProofs := false) only [go_sem, d80_2, k80_2, g80_2, R80, E23, e1, rdp e2, rdm (eTTree .sh) e2, e3, e4, Nat.reduceEqDiff, Nat.reduceAdd, Nat.reduceLeDiff, ↓reduceIte, reduceCtorEq, Nat.reduceBEq]
      · obtain ⟨r10, e5, h⟩ := bnd h
        rcases ifB h with ⟨e6, h⟩ | ⟨e6, h⟩
        · cases h
          simp (implicitDefEqProofs := false) only [go_sem, d80_2, k80_2, g80_2, R80, E23, e1, rdp e2, rdm (eTTree .sh) e2, e3, e4, impl_treeFits_run e5, e6, Nat.reduceEqDiff, Nat.reduceAdd, Nat.reduceLeDiff, ↓reduceIte, reduceCtorEq, Nat.reduceBEq]
        · have q := Blk.run h
          try simp only [go_sem] at q
          simp (implicitDefEqProofs := false) only [go_sem, d80_2, k80_2, g80_2, e1, rdp e2, rdm (eTTree .sh) e2, e3, e4, impl_treeFits_run e5, e6, Nat.reduceEqDiff, Nat.reduceAdd, Nat.reduceLeDiff, ↓reduceIte, reduceCtorEq, Nat.reduceBEq]
          exact q
    · obtain ⟨r11, e7, h⟩ := bnd h
      rcases ifB h with ⟨e8, h⟩ | ⟨e8, h⟩
      · cases h
        simp (implicitDefEqProofs := false) only [go_sem, d80_2, k80_2, g80_2, R80, E23, e1, rdp e2, rdm (eTTree .sh) e2, e3, impl_treeFits_run e7, e8, Nat.reduceEqDiff, Nat.reduceAdd, Nat.reduceLeDiff, ↓reduceIte, reduceCtorEq, Nat.reduceBEq]
      · have q := Blk.run h
        try simp only [go_sem] at q
        simp (implicitDefEqProofs := false) only [go_sem, d80_2, k80_2, g80_2, e1, rdp e2, rdm (eTTree .sh) e2, e3, impl_treeFits_run e7, e8, Nat.reduceEqDiff, Nat.reduceAdd, Nat.reduceLeDiff, ↓reduceIte, reduceCtorEq, Nat.reduceBEq]
        exact q
  · cases h
    simp (implicitDefEqProofs := false) only [go_sem, d80_2, k80_2, g80_2, R80, E23, e1, Nat.reduceEqDiff, Nat.reduceAdd, ↓reduceIte]
theorem impl_TreeOk_of (x0 : TTree) {r : Bool} (h : ((impl_treeFits x0 1 200).bind fun r1 =>
  some r1.1) = some r) : impl_TreeOk x0 = some r := by
  refine Fn.of L_eq E9_inj (fi := fi51) rfl rfl ?_
  simp only [fi51]
  obtain ⟨r1, e1, h⟩ := bnd h
  cases h
  simp (implicitDefEqProofs := false) only [go_sem, b51, R51, E9, impl_treeFits_run e1, Nat.reduceEqDiff, Nat.reduceAdd, Nat.reduceLeDiff, ↓reduceIte, reduceCtorEq]
end Go.Fw.Law
