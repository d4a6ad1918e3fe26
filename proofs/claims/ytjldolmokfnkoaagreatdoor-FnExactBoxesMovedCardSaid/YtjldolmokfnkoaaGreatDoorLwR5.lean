/- What the functions come to. Conditions: none. -/
import Derived.Test.YtjldolmokfnkoaaGreatDoorLwD
namespace Go.Fw.Law
open Go Go.Fw
theorem impl_treeFits_of (x0 : TTree) (x1 x2 : Int) {r : Bool × Int} (h : (if decide (24 < x1) then some (false, w64 (x2 - 1))
  else (if decide ((w64 (x2 - 1)) < 0) then some (false, w64 (x2 - 1))
   else (if decide (x0.Tag = (-1)) then (if decide (x0.Key = (-1)) then ((impl_shown x0.Text).bind fun r1 =>
      if r1 then (if decide ((x0.Props.length : Int) = 0) then some (decide ((x0.Kids.length : Int) = 0), w64 (x2 - 1))
       else some (false, w64 (x2 - 1)))
      else some (false, w64 (x2 - 1)))
     else some (false, w64 (x2 - 1)))
    else ((impl_within x0.Tag 0 4).bind fun r2 =>
     if !r2 then some (false, w64 (x2 - 1))
     else ((impl_within x0.Key (-1) 99).bind fun r3 =>
      if !r3 then some (false, w64 (x2 - 1))
      else (if !(decide (x0.Text = [])) then some (false, w64 (x2 - 1))
       else impl_treeFits_b1 x1 x0.Props (x0.Props.length : Int) 0 (w64 (x2 - 1)) x0)))))) = some r) : impl_treeFits x0 x1 x2 = some r := by
  refine Fn.of L_eq E21_inj (fi := fi80) rfl rfl ?_
  simp only [fi80]
  rcases ifB h with ⟨e1, h⟩ | ⟨e1, h⟩
  · cases h
    simp (implicitDefEqProofs := false) only [go_sem, b80, k80_1, k80_2, g80_1, g80_2, R80, E21, e1, Nat.reduceEqDiff, Nat.reduceAdd, Nat.reduceLeDiff, ↓reduceIte, reduceCtorEq]
  · rcases ifB h with ⟨e2, h⟩ | ⟨e2, h⟩
    · cases h
      simp (implicitDefEqProofs := false) only [go_sem, b80, k80_1, k80_2, g80_1, g80_2, R80, E21, e1, e2, Nat.reduceEqDiff, Nat.reduceAdd, Nat.reduceLeDiff, ↓reduceIte, reduceCtorEq]
    · rcases ifB h with ⟨e3, h⟩ | ⟨e3, h⟩
      · rcases ifB h with ⟨e4, h⟩ | ⟨e4, h⟩
        · obtain ⟨r1, e5, h⟩ := bnd h
          rcases ifB h with ⟨e6, h⟩ | ⟨e6, h⟩
          · rcases ifB h with ⟨e7, h⟩ | ⟨e7, h⟩
            · cases h
              simp (implicitDefEqProofs := false) only [go_sem, b80, k80_1, k80_2, g80_1, g80_2, R80, E21, e1, e2, e3, e4, impl_shown_run e5, e6, e7, Nat.reduceEqDiff, Nat.reduceAdd, Nat.reduceLeDiff, ↓reduceIte, reduceCtorEq]
            · cases h
              simp (implicitDefEqProofs := false) only [go_sem, b80, k80_1, k80_2, g80_1, g80_2, R80, E21, e1, e2, e3, e4, impl_shown_run e5, e6, e7, Nat.reduceEqDiff, Nat.reduceAdd, Nat.reduceLeDiff, ↓reduceIte, reduceCtorEq]
          · cases h
            simp (implicitDefEqProofs := false) only [go_sem, b80, k80_1, k80_2, g80_1, g80_2, R80, E21, e1, e2, e3, e4, impl_shown_run e5, e6, Nat.reduceEqDiff, Nat.reduceAdd, Nat.reduceLeDiff, ↓reduceIte, reduceCtorEq]
        · cases h
          simp (implicitDefEqProofs := false) only [go_sem, b80, k80_1, k80_2, g80_1, g80_2, R80, E21, e1, e2, e3, e4, Nat.reduceEqDiff, Nat.reduceAdd, Nat.reduceLeDiff, ↓reduceIte, reduceCtorEq]
      · obtain ⟨r2, e8, h⟩ := bnd h
        rcases ifB h with ⟨e9, h⟩ | ⟨e9, h⟩
        · cases h
          simp (implicitDefEqProofs := false) only [go_sem, b80, k80_1, k80_2, g80_1, g80_2, R80, E21, e1, e2, e3, impl_within_run e8, e9, Nat.reduceEqDiff, Nat.reduceAdd, Nat.reduceLeDiff, ↓reduceIte, reduceCtorEq]
        · obtain ⟨r3, e10, h⟩ := bnd h
          rcases ifB h with ⟨e11, h⟩ | ⟨e11, h⟩
          · cases h
            simp (implicitDefEqProofs := false) only [go_sem, b80, k80_1, k80_2, g80_1, g80_2, R80, E21, e1, e2, e3, impl_within_run e8, e9, impl_within_run e10, e11, Nat.reduceEqDiff, Nat.reduceAdd, Nat.reduceLeDiff, ↓reduceIte, reduceCtorEq]
          · rcases ifB h with ⟨e12, h⟩ | ⟨e12, h⟩
            · cases h
              simp (implicitDefEqProofs := false) only [go_sem, b80, k80_1, k80_2, g80_1, g80_2, R80, E21, e1, e2, e3, impl_within_run e8, e9, impl_within_run e10, e11, e12, Nat.reduceEqDiff, Nat.reduceAdd, Nat.reduceLeDiff, ↓reduceIte, reduceCtorEq]
            · have q := Blk.run h
              try simp only [go_sem] at q
              simp (implicitDefEqProofs := false) only [go_sem, b80, k80_1, k80_2, g80_1, g80_2, e1, e2, e3, impl_within_run e8, e9, impl_within_run e10, e11, e12, Nat.reduceEqDiff, Nat.reduceAdd, Nat.reduceLeDiff, ↓reduceIte, reduceCtorEq, Nat.reduceBEq]
              exact q
theorem impl_treeFits_b1_of (x1 : Int) (x64 : List TProp) (x65 x66 y2 : Int) (y3 : TTree) {r : Bool × Int} (h : (if decide (x66 < x65) then ((rdx x64 x66).bind fun v4 =>
   (impl_within v4.Name 0 3).bind fun r5 =>
   if !r5 then some (false, y2)
   else (if decide (0 < x66) then ((rdx y3.Props (w64 (x66 - 1))).bind fun v6 =>
     if decide (v4.Name ≤ v6.Name) then some (false, y2)
     else ((impl_ValOk v4.Val).bind fun r7 =>
      if !r7 then some (false, y2)
      else impl_treeFits_b1 x1 x64 x65 (w64 (x66 + 1)) y2 y3))
    else ((impl_ValOk v4.Val).bind fun r8 =>
     if !r8 then some (false, y2)
     else impl_treeFits_b1 x1 x64 x65 (w64 (x66 + 1)) y2 y3)))
  else impl_treeFits_b2 x1 [] y3.Kids (y3.Kids.length : Int) 0 y2) = some r) : impl_treeFits_b1 x1 x64 x65 x66 y2 y3 = some r := by
  refine Blk.of E21_inj ?_
  refine D_start (c' := d80_1) rfl ?_
  rcases ifB h with ⟨e1, h⟩ | ⟨e1, h⟩
  · obtain ⟨v4, e2, h⟩ := bnd h
    obtain ⟨r5, e3, h⟩ := bnd h
    rcases ifB h with ⟨e4, h⟩ | ⟨e4, h⟩
    · cases h
      simp (implicitDefEqProofs := false) only [go_sem, d80_1, k80_1, k80_2, g80_1, g80_2, R80, E21, e1, rdp e2, rdm eTProp e2, impl_within_run e3, e4, Nat.reduceEqDiff, Nat.reduceAdd, Nat.reduceLeDiff, ↓reduceIte, reduceCtorEq]
    · rcases ifB h with ⟨e5, h⟩ | ⟨e5, h⟩
      · obtain ⟨v6, e6, h⟩ := bnd h
        rcases ifB h with ⟨e7, h⟩ | ⟨e7, h⟩
        · cases h
          simp (implicitDefEqProofs := false) only [go_sem, d80_1, k80_1, k80_2, g80_1, g80_2, R80, E21, e1, rdp e2, rdm eTProp e2, impl_within_run e3, e4, e5, rdp e6, rdm eTProp e6, e7, Nat.reduceEqDiff, Nat.reduceAdd, Nat.reduceLeDiff, ↓reduceIte, reduceCtorEq]
        · obtain ⟨r7, e8, h⟩ := bnd h
          rcases ifB h with ⟨e9, h⟩ | ⟨e9, h⟩
          · cases h
            simp (implicitDefEqProofs := false) only [go_sem, d80_1, k80_1, k80_2, g80_1, g80_2, R80, E21, e1, rdp e2, rdm eTProp e2, impl_within_run e3, e4, e5, rdp e6, rdm eTProp e6, e7, impl_ValOk_run e8, e9, Nat.reduceEqDiff, Nat.reduceAdd, Nat.reduceLeDiff, ↓reduceIte, reduceCtorEq]
          · have q := Blk.run h
            try simp only [go_sem] at q
            simp (implicitDefEqProofs := false) only [go_sem, d80_1, k80_1, k80_2, g80_1, g80_2, e1, rdp e2, rdm eTProp e2, impl_within_run e3, e4, e5, rdp e6, rdm eTProp e6, e7, impl_ValOk_run e8, e9, Nat.reduceEqDiff, Nat.reduceAdd, Nat.reduceLeDiff, ↓reduceIte, reduceCtorEq, Nat.reduceBEq]
            exact q
      · obtain ⟨r8, e10, h⟩ := bnd h
        rcases ifB h with ⟨e11, h⟩ | ⟨e11, h⟩
        · cases h
          simp (implicitDefEqProofs := false) only [go_sem, d80_1, k80_1, k80_2, g80_1, g80_2, R80, E21, e1, rdp e2, rdm eTProp e2, impl_within_run e3, e4, e5, impl_ValOk_run e10, e11, Nat.reduceEqDiff, Nat.reduceAdd, Nat.reduceLeDiff, ↓reduceIte, reduceCtorEq]
        · have q := Blk.run h
          try simp only [go_sem] at q
          simp (implicitDefEqProofs := false) only [go_sem, d80_1, k80_1, k80_2, g80_1, g80_2, e1, rdp e2, rdm eTProp e2, impl_within_run e3, e4, e5, impl_ValOk_run e10, e11, Nat.reduceEqDiff, Nat.reduceAdd, Nat.reduceLeDiff, ↓reduceIte, reduceCtorEq, Nat.reduceBEq]
          exact q
  · have q := Blk.run h
    try simp only [go_sem] at q
    simp (implicitDefEqProofs := false) only [go_sem, d80_1, k80_1, k80_2, g80_1, g80_2, e1, Nat.reduceEqDiff, Nat.reduceAdd, Nat.reduceLeDiff, ↓reduceIte, reduceCtorEq]
    exact q
theorem impl_treeFits_b2_of (x1 : Int) (x9 : List (Int × Bool)) (x100 : List TTree) (x101 x102 y2 : Int) {r : Bool × Int} (h : (if decide (x102 < x101) then ((rdx x100 x102).bind fun v9 =>
   if !(decide (v9.Key = (-1))) then (if mget x9 v9.Key then some (false, y2)
    else ((impl_treeFits v9 (w64 (x1 + 1)) y2).bind fun r10 =>
     if !r10.1 then some (false, r10.2)
     else impl_treeFits_b2 x1 (mput x9 v9.Key true) x100 x101 (w64 (x102 + 1)) r10.2))
   else ((impl_treeFits v9 (w64 (x1 + 1)) y2).bind fun r11 =>
    if !r11.1 then some (false, r11.2)
    else impl_treeFits_b2 x1 (mput x9 v9.Key true) x100 x101 (w64 (x102 + 1)) r11.2))
  else some (true, y2)) = some r) : impl_treeFits_b2 x1 x9 x100 x101 x102 y2 = some r := by
  refine Blk.of E21_inj ?_
  refine D_start (c' := d80_2) rfl ?_
  rcases ifB h with ⟨e1, h⟩ | ⟨e1, h⟩
  · obtain ⟨v9, e2, h⟩ := bnd h
    rcases ifB h with ⟨e3, h⟩ | ⟨e3, h⟩
    · rcases ifB h with ⟨e4, h⟩ | ⟨e4, h⟩
      · cases h
        simp (implicitDefEqProofs := false) only [go_sem, d80_2, k80_2, g80_2, R80, E21, e1, rdp e2, rdm (eTTree .bor) e2, e3, e4, Nat.reduceEqDiff, Nat.reduceAdd, Nat.reduceLeDiff, ↓reduceIte, reduceCtorEq, Nat.reduceBEq]
      · obtain ⟨r10, e5, h⟩ := bnd h
        rcases ifB h with ⟨e6, h⟩ | ⟨e6, h⟩
        · cases h
          simp (implicitDefEqProofs := false) only [go_sem, d80_2, k80_2, g80_2, R80, E21, e1, rdp e2, rdm (eTTree .bor) e2, e3, e4, impl_treeFits_run e5, e6, Nat.reduceEqDiff, Nat.reduceAdd, Nat.reduceLeDiff, ↓reduceIte, reduceCtorEq, Nat.reduceBEq]
        · have q := Blk.run h
          try simp only [go_sem] at q
          simp (implicitDefEqProofs := false) only [go_sem, d80_2, k80_2, g80_2, e1, rdp e2, rdm (eTTree .bor) e2, e3, e4, impl_treeFits_run e5, e6, Nat.reduceEqDiff, Nat.reduceAdd, Nat.reduceLeDiff, ↓reduceIte, reduceCtorEq, Nat.reduceBEq]
          exact q
    · obtain ⟨r11, e7, h⟩ := bnd h
      rcases ifB h with ⟨e8, h⟩ | ⟨e8, h⟩
      · cases h
        simp (implicitDefEqProofs := false) only [go_sem, d80_2, k80_2, g80_2, R80, E21, e1, rdp e2, rdm (eTTree .bor) e2, e3, impl_treeFits_run e7, e8, Nat.reduceEqDiff, Nat.reduceAdd, Nat.reduceLeDiff, ↓reduceIte, reduceCtorEq, Nat.reduceBEq]
      · have q := Blk.run h
        try simp only [go_sem] at q
        simp (implicitDefEqProofs := false) only [go_sem, d80_2, k80_2, g80_2, e1, rdp e2, rdm (eTTree .bor) e2, e3, impl_treeFits_run e7, e8, Nat.reduceEqDiff, Nat.reduceAdd, Nat.reduceLeDiff, ↓reduceIte, reduceCtorEq, Nat.reduceBEq]
        exact q
  · cases h
    simp (implicitDefEqProofs := false) only [go_sem, d80_2, k80_2, g80_2, R80, E21, e1, Nat.reduceEqDiff, Nat.reduceAdd, ↓reduceIte]
theorem impl_TreeOk_of (x0 : TTree) {r : Bool} (h : ((impl_treeFits x0 1 200).bind fun r1 =>
  some r1.1) = some r) : impl_TreeOk x0 = some r := by
  refine Fn.of L_eq E9_inj (fi := fi51) rfl rfl ?_
  simp only [fi51]
  obtain ⟨r1, e1, h⟩ := bnd h
  cases h
  simp (implicitDefEqProofs := false) only [go_sem, b51, R51, E9, impl_treeFits_run e1, Nat.reduceEqDiff, Nat.reduceAdd, Nat.reduceLeDiff, ↓reduceIte, reduceCtorEq]
theorem impl_RulesOk_of (x0 : List TRule) {r : Bool} (h : (impl_RulesOk_b1 x0 x0 (x0.length : Int) 0) = some r) : impl_RulesOk x0 = some r := by
  refine Fn.of L_eq E9_inj (fi := fi52) rfl rfl ?_
  simp only [fi52]
  have q := Blk.run h
  try simp only [go_sem] at q
  simp (implicitDefEqProofs := false) only [go_sem, b52, k52_1, g52_1, Nat.reduceEqDiff, Nat.reduceAdd, ↓reduceIte, reduceCtorEq]
  exact q
theorem impl_RulesOk_b1_of (x0 x5 : List TRule) (x6 x7 : Int) {r : Bool} (h : (if decide (x7 < x6) then ((rdx x5 x7).bind fun v1 =>
   (impl_within v1.Tag (-1) 4).bind fun r2 =>
   if !r2 then some false
   else ((impl_within v1.Above (-1) 4).bind fun r3 =>
    if !r3 then some false
    else ((impl_within v1.Name (-1) 3).bind fun r4 =>
     if !r4 then some false
     else ((impl_within v1.Look 0 4).bind fun r5 =>
      if !r5 then some false
      else ((impl_within v1.Give 0 60).bind fun r6 =>
       if !r6 then some false
       else (if decide (v1.Name = (-1)) then (if !(decide (v1.Val.Kind = 0) && (decide (v1.Val.Num = 0) && decide (v1.Val.Text = []))) then some false
         else ((impl_ValOk v1.Val).bind fun r7 =>
          if !r7 then some false
          else impl_RulesOk_b1 x0 x5 x6 (w64 (x7 + 1))))
        else ((impl_ValOk v1.Val).bind fun r8 =>
         if !r8 then some false
         else impl_RulesOk_b1 x0 x5 x6 (w64 (x7 + 1)))))))))
  else some (decide ((x0.length : Int) ≤ 12))) = some r) : impl_RulesOk_b1 x0 x5 x6 x7 = some r := by
  refine Blk.of E9_inj ?_
  refine D_start (c' := d52_1) rfl ?_
  rcases ifB h with ⟨e1, h⟩ | ⟨e1, h⟩
  · obtain ⟨v1, e2, h⟩ := bnd h
    obtain ⟨r2, e3, h⟩ := bnd h
    rcases ifB h with ⟨e4, h⟩ | ⟨e4, h⟩
    · cases h
      simp (implicitDefEqProofs := false) only [go_sem, d52_1, k52_1, g52_1, R52, E9, e1, rdp e2, rdm eTRule e2, impl_within_run e3, e4, Nat.reduceEqDiff, Nat.reduceAdd, Nat.reduceLeDiff, ↓reduceIte, reduceCtorEq]
    · obtain ⟨r3, e5, h⟩ := bnd h
      rcases ifB h with ⟨e6, h⟩ | ⟨e6, h⟩
      · cases h
        simp (implicitDefEqProofs := false) only [go_sem, d52_1, k52_1, g52_1, R52, E9, e1, rdp e2, rdm eTRule e2, impl_within_run e3, e4, impl_within_run e5, e6, Nat.reduceEqDiff, Nat.reduceAdd, Nat.reduceLeDiff, ↓reduceIte, reduceCtorEq]
      · obtain ⟨r4, e7, h⟩ := bnd h
        rcases ifB h with ⟨e8, h⟩ | ⟨e8, h⟩
        · cases h
          simp (implicitDefEqProofs := false) only [go_sem, d52_1, k52_1, g52_1, R52, E9, e1, rdp e2, rdm eTRule e2, impl_within_run e3, e4, impl_within_run e5, e6, impl_within_run e7, e8, Nat.reduceEqDiff, Nat.reduceAdd, Nat.reduceLeDiff, ↓reduceIte, reduceCtorEq]
        · obtain ⟨r5, e9, h⟩ := bnd h
          rcases ifB h with ⟨e10, h⟩ | ⟨e10, h⟩
          · cases h
            simp (implicitDefEqProofs := false) only [go_sem, d52_1, k52_1, g52_1, R52, E9, e1, rdp e2, rdm eTRule e2, impl_within_run e3, e4, impl_within_run e5, e6, impl_within_run e7, e8, impl_within_run e9, e10, Nat.reduceEqDiff, Nat.reduceAdd, Nat.reduceLeDiff, ↓reduceIte, reduceCtorEq]
          · obtain ⟨r6, e11, h⟩ := bnd h
            rcases ifB h with ⟨e12, h⟩ | ⟨e12, h⟩
            · cases h
              simp (implicitDefEqProofs := false) only [go_sem, d52_1, k52_1, g52_1, R52, E9, e1, rdp e2, rdm eTRule e2, impl_within_run e3, e4, impl_within_run e5, e6, impl_within_run e7, e8, impl_within_run e9, e10, impl_within_run e11, e12, Nat.reduceEqDiff, Nat.reduceAdd, Nat.reduceLeDiff, ↓reduceIte, reduceCtorEq]
            · rcases ifB h with ⟨e13, h⟩ | ⟨e13, h⟩
              · rcases ifB h with ⟨e14, h⟩ | ⟨e14, h⟩
                · cases h
                  simp (implicitDefEqProofs := false) only [go_sem, d52_1, k52_1, g52_1, R52, E9, e1, rdp e2, rdm eTRule e2, impl_within_run e3, e4, impl_within_run e5, e6, impl_within_run e7, e8, impl_within_run e9, e10, impl_within_run e11, e12, e13, e14, Nat.reduceEqDiff, Nat.reduceAdd, Nat.reduceLeDiff, ↓reduceIte, reduceCtorEq]
                · obtain ⟨r7, e15, h⟩ := bnd h
                  rcases ifB h with ⟨e16, h⟩ | ⟨e16, h⟩
                  · cases h
                    simp (implicitDefEqProofs := false) only [go_sem, d52_1, k52_1, g52_1, R52, E9, e1, rdp e2, rdm eTRule e2, impl_within_run e3, e4, impl_within_run e5, e6, impl_within_run e7, e8, impl_within_run e9, e10, impl_within_run e11, e12, e13, e14, impl_ValOk_run e15, e16, Nat.reduceEqDiff, Nat.reduceAdd, Nat.reduceLeDiff, ↓reduceIte, reduceCtorEq]
                  · have q := Blk.run h
                    try simp only [go_sem] at q
                    simp (implicitDefEqProofs := false) only [go_sem, d52_1, k52_1, g52_1, e1, rdp e2, rdm eTRule e2, impl_within_run e3, e4, impl_within_run e5, e6, impl_within_run e7, e8, impl_within_run e9, e10, impl_within_run e11, e12, e13, e14, impl_ValOk_run e15, e16, Nat.reduceEqDiff, Nat.reduceAdd, Nat.reduceLeDiff, ↓reduceIte, reduceCtorEq]
                    exact q
              · obtain ⟨r8, e17, h⟩ := bnd h
                rcases ifB h with ⟨e18, h⟩ | ⟨e18, h⟩
                · cases h
                  simp (implicitDefEqProofs := false) only [go_sem, d52_1, k52_1, g52_1, R52, E9, e1, rdp e2, rdm eTRule e2, impl_within_run e3, e4, impl_within_run e5, e6, impl_within_run e7, e8, impl_within_run e9, e10, impl_within_run e11, e12, e13, impl_ValOk_run e17, e18, Nat.reduceEqDiff, Nat.reduceAdd, Nat.reduceLeDiff, ↓reduceIte, reduceCtorEq]
                · have q := Blk.run h
                  try simp only [go_sem] at q
                  simp (implicitDefEqProofs := false) only [go_sem, d52_1, k52_1, g52_1, e1, rdp e2, rdm eTRule e2, impl_within_run e3, e4, impl_within_run e5, e6, impl_within_run e7, e8, impl_within_run e9, e10, impl_within_run e11, e12, e13, impl_ValOk_run e17, e18, Nat.reduceEqDiff, Nat.reduceAdd, Nat.reduceLeDiff, ↓reduceIte, reduceCtorEq]
                  exact q
  · cases h
    simp (implicitDefEqProofs := false) only [go_sem, d52_1, k52_1, g52_1, R52, E9, e1, Nat.reduceEqDiff, Nat.reduceAdd, ↓reduceIte, reduceCtorEq]
theorem impl_stepOk_of (x0 x1 : Int) {r : Bool} (h : ((impl_within x1 1 100).bind fun r1 =>
  if r1 then ((impl_within x0 0 x1).bind fun r2 =>
   some r2)
  else some false) = some r) : impl_stepOk x0 x1 = some r := by
  refine Fn.of L_eq E9_inj (fi := fi62) rfl rfl ?_
  simp only [fi62]
  obtain ⟨r1, e1, h⟩ := bnd h
  rcases ifB h with ⟨e2, h⟩ | ⟨e2, h⟩
  · obtain ⟨r2, e3, h⟩ := bnd h
    cases h
    simp (implicitDefEqProofs := false) only [go_sem, b62, R62, E9, impl_within_run e1, e2, impl_within_run e3, Nat.reduceEqDiff, Nat.reduceAdd, ↓reduceIte, reduceCtorEq]
  · cases h
    simp (implicitDefEqProofs := false) only [go_sem, b62, R62, E9, impl_within_run e1, e2, Nat.reduceEqDiff, Nat.reduceAdd, ↓reduceIte, reduceCtorEq]
theorem impl_weight_of (x0 : TRule) {r : Int} (h : (if !(decide (x0.Tag = (-1))) then impl_weight_b1 (w64 (0 + 1)) x0
  else impl_weight_b1 0 x0) = some r) : impl_weight x0 = some r := by
  refine Fn.of L_eq E1_inj (fi := fi95) rfl rfl ?_
  simp only [fi95]
  rcases ifB h with ⟨e1, h⟩ | ⟨e1, h⟩
  · have q := Blk.run h
    try simp only [go_sem] at q
    simp (implicitDefEqProofs := false) only [go_sem, b95, g95_1, e1, Nat.reduceEqDiff, Nat.reduceAdd, Nat.reduceLeDiff, ↓reduceIte, reduceCtorEq]
    exact q
  · have q := Blk.run h
    try simp only [go_sem] at q
    simp (implicitDefEqProofs := false) only [go_sem, b95, g95_1, e1, Nat.reduceEqDiff, Nat.reduceAdd, Nat.reduceLeDiff, ↓reduceIte, reduceCtorEq]
    exact q
theorem impl_weight_b1_of (x3 : Int) (y1 : TRule) {r : Int} (h : (if !(decide (y1.Above = (-1))) then (if !(decide (y1.Name = (-1))) then some (w64 ((w64 (x3 + 1)) + 10))
   else some (w64 (x3 + 1)))
  else (if !(decide (y1.Name = (-1))) then some (w64 (x3 + 10))
   else some x3)) = some r) : impl_weight_b1 x3 y1 = some r := by
  refine Blk.of E1_inj ?_
  refine D_start (c' := d95_1) rfl ?_
  rcases ifB h with ⟨e1, h⟩ | ⟨e1, h⟩
  · rcases ifB h with ⟨e2, h⟩ | ⟨e2, h⟩
    · cases h
      simp (implicitDefEqProofs := false) only [go_sem, d95_1, R95, E1, e1, e2, Nat.reduceEqDiff, Nat.reduceAdd, Nat.reduceLeDiff, ↓reduceIte]
    · cases h
      simp (implicitDefEqProofs := false) only [go_sem, d95_1, R95, E1, e1, e2, Nat.reduceEqDiff, Nat.reduceAdd, Nat.reduceLeDiff, ↓reduceIte]
  · rcases ifB h with ⟨e3, h⟩ | ⟨e3, h⟩
    · cases h
      simp (implicitDefEqProofs := false) only [go_sem, d95_1, R95, E1, e1, e3, Nat.reduceEqDiff, Nat.reduceAdd, Nat.reduceLeDiff, ↓reduceIte]
    · cases h
      simp (implicitDefEqProofs := false) only [go_sem, d95_1, R95, E1, e1, e3, Nat.reduceEqDiff, Nat.reduceAdd, Nat.reduceLeDiff, ↓reduceIte]
theorem impl_meets_of (x0 : TRule) (x1 : TTree) (x2 : List Int) {r : Bool} (h : (if !(decide (x0.Tag = (-1))) then (if !(decide (x0.Tag = x1.Tag)) then some false
   else impl_meets_b1 x2 x0 x1)
  else impl_meets_b1 x2 x0 x1) = some r) : impl_meets x0 x1 x2 = some r := by
  refine Fn.of L_eq E9_inj (fi := fi96) rfl rfl ?_
  simp only [fi96]
  rcases ifB h with ⟨e1, h⟩ | ⟨e1, h⟩
  · rcases ifB h with ⟨e2, h⟩ | ⟨e2, h⟩
    · cases h
      simp (implicitDefEqProofs := false) only [go_sem, b96, g96_1, R96, E9, e1, e2, Nat.reduceEqDiff, Nat.reduceAdd, Nat.reduceLeDiff, ↓reduceIte, reduceCtorEq]
    · have q := Blk.run h
      try simp only [go_sem] at q
      simp (implicitDefEqProofs := false) only [go_sem, b96, g96_1, e1, e2, Nat.reduceEqDiff, Nat.reduceAdd, Nat.reduceLeDiff, ↓reduceIte, reduceCtorEq, Nat.reduceBEq]
      exact q
  · have q := Blk.run h
    try simp only [go_sem] at q
    simp (implicitDefEqProofs := false) only [go_sem, b96, g96_1, e1, Nat.reduceEqDiff, Nat.reduceAdd, Nat.reduceLeDiff, ↓reduceIte, reduceCtorEq, Nat.reduceBEq]
    exact q
theorem impl_meets_b1_of (x2 : List Int) (y3 : TRule) (y4 : TTree) {r : Bool} (h : (if !(decide (y3.Above = (-1))) then impl_meets_b2 false x2 (x2.length : Int) 0 y3 y4
  else (if decide (y3.Name = (-1)) then some true
   else impl_meets_b3 y4.Props (y4.Props.length : Int) 0 y3)) = some r) : impl_meets_b1 x2 y3 y4 = some r := by
  refine Blk.of E9_inj ?_
  refine D_start (c' := d96_1) rfl ?_
  rcases ifB h with ⟨e1, h⟩ | ⟨e1, h⟩
  · have q := Blk.run h
    try simp only [go_sem] at q
    simp (implicitDefEqProofs := false) only [go_sem, d96_1, k96_1, k96_2, k96_3, g96_2, g96_3, e1, Nat.reduceEqDiff, Nat.reduceAdd, Nat.reduceLeDiff, ↓reduceIte, reduceCtorEq, Nat.reduceBEq]
    exact q
  · rcases ifB h with ⟨e2, h⟩ | ⟨e2, h⟩
    · cases h
      simp (implicitDefEqProofs := false) only [go_sem, d96_1, k96_1, k96_2, k96_3, g96_2, g96_3, R96, E9, e1, e2, Nat.reduceEqDiff, Nat.reduceAdd, Nat.reduceLeDiff, ↓reduceIte]
    · have q := Blk.run h
      try simp only [go_sem] at q
      simp (implicitDefEqProofs := false) only [go_sem, d96_1, k96_1, k96_2, k96_3, g96_2, g96_3, e1, e2, Nat.reduceEqDiff, Nat.reduceAdd, Nat.reduceLeDiff, ↓reduceIte, reduceCtorEq]
      exact q
theorem impl_meets_b2_of (x7 : Bool) (x25 : List Int) (x26 x27 : Int) (y3 : TRule) (y4 : TTree) {r : Bool} (h : (if decide (x27 < x26) then ((rdx x25 x27).bind fun v1 =>
   if x7 then impl_meets_b2 true x25 x26 (w64 (x27 + 1)) y3 y4
   else impl_meets_b2 (decide (v1 = y3.Above)) x25 x26 (w64 (x27 + 1)) y3 y4)
  else (if !x7 then some false
   else (if decide (y3.Name = (-1)) then some true
    else impl_meets_b3 y4.Props (y4.Props.length : Int) 0 y3))) = some r) : impl_meets_b2 x7 x25 x26 x27 y3 y4 = some r := by
  refine Blk.of E9_inj ?_
  refine D_start (c' := d96_2) rfl ?_
  rcases ifB h with ⟨e1, h⟩ | ⟨e1, h⟩
  · obtain ⟨v1, e2, h⟩ := bnd h
    rcases ifB h with ⟨e3, h⟩ | ⟨e3, h⟩
    · have q := Blk.run h
      try simp only [go_sem] at q
      simp (implicitDefEqProofs := false) only [go_sem, d96_2, k96_1, k96_2, k96_3, g96_2, g96_3, e1, rdp e2, rdm eI e2, e3, Nat.reduceEqDiff, Nat.reduceAdd, Nat.reduceLeDiff, ↓reduceIte, reduceCtorEq, Nat.reduceBEq]
      exact q
    · have q := Blk.run h
      try simp only [go_sem] at q
      simp (implicitDefEqProofs := false) only [go_sem, d96_2, k96_1, k96_2, k96_3, g96_2, g96_3, e1, rdp e2, rdm eI e2, e3, Nat.reduceEqDiff, Nat.reduceAdd, Nat.reduceLeDiff, ↓reduceIte, reduceCtorEq, Nat.reduceBEq]
      exact q
  · rcases ifB h with ⟨e4, h⟩ | ⟨e4, h⟩
    · cases h
      simp (implicitDefEqProofs := false) only [go_sem, d96_2, k96_1, k96_2, k96_3, g96_2, g96_3, R96, E9, e1, e4, Nat.reduceEqDiff, Nat.reduceAdd, ↓reduceIte]
    · rcases ifB h with ⟨e5, h⟩ | ⟨e5, h⟩
      · cases h
        simp (implicitDefEqProofs := false) only [go_sem, d96_2, k96_1, k96_2, k96_3, g96_2, g96_3, R96, E9, e1, e4, e5, Nat.reduceEqDiff, Nat.reduceAdd, Nat.reduceLeDiff, ↓reduceIte]
      · have q := Blk.run h
        try simp only [go_sem] at q
        simp (implicitDefEqProofs := false) only [go_sem, d96_2, k96_1, k96_2, k96_3, g96_2, g96_3, e1, e4, e5, Nat.reduceEqDiff, Nat.reduceAdd, Nat.reduceLeDiff, ↓reduceIte, reduceCtorEq]
        exact q
theorem impl_meets_b3_of (x45 : List TProp) (x46 x47 : Int) (y3 : TRule) {r : Bool} (h : (if decide (x47 < x46) then ((rdx x45 x47).bind fun v2 =>
   if decide (v2.Name = y3.Name) then (if (decide (v2.Val.Kind = y3.Val.Kind) && (decide (v2.Val.Num = y3.Val.Num) && decide (v2.Val.Text = y3.Val.Text))) then some true
    else impl_meets_b3 x45 x46 (w64 (x47 + 1)) y3)
   else impl_meets_b3 x45 x46 (w64 (x47 + 1)) y3)
  else some false) = some r) : impl_meets_b3 x45 x46 x47 y3 = some r := by
  refine Blk.of E9_inj ?_
  refine D_start (c' := d96_3) rfl ?_
  rcases ifB h with ⟨e1, h⟩ | ⟨e1, h⟩
  · obtain ⟨v2, e2, h⟩ := bnd h
    rcases ifB h with ⟨e3, h⟩ | ⟨e3, h⟩
    · rcases ifB h with ⟨e4, h⟩ | ⟨e4, h⟩
      · cases h
        simp (implicitDefEqProofs := false) only [go_sem, d96_3, k96_3, g96_3, R96, E9, e1, rdp e2, rdm eTProp e2, e3, e4, Nat.reduceEqDiff, Nat.reduceAdd, Nat.reduceLeDiff, ↓reduceIte, reduceCtorEq]
      · have q := Blk.run h
        try simp only [go_sem] at q
        simp (implicitDefEqProofs := false) only [go_sem, d96_3, k96_3, g96_3, e1, rdp e2, rdm eTProp e2, e3, e4, Nat.reduceEqDiff, Nat.reduceAdd, Nat.reduceLeDiff, ↓reduceIte, reduceCtorEq]
        exact q
    · have q := Blk.run h
      try simp only [go_sem] at q
      simp (implicitDefEqProofs := false) only [go_sem, d96_3, k96_3, g96_3, e1, rdp e2, rdm eTProp e2, e3, Nat.reduceEqDiff, Nat.reduceAdd, Nat.reduceLeDiff, ↓reduceIte, reduceCtorEq]
      exact q
  · cases h
    simp (implicitDefEqProofs := false) only [go_sem, d96_3, k96_3, g96_3, R96, E9, e1, Nat.reduceEqDiff, Nat.reduceAdd, ↓reduceIte]
end Go.Fw.Law
