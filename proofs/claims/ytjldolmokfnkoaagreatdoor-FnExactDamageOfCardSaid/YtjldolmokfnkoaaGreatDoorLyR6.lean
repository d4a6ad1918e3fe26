/- What the functions come to. Conditions: none. -/
import Derived.Test.YtjldolmokfnkoaaGreatDoorLyD
namespace Go.Fw.Law
open Go Go.Fw
theorem impl_RulesOk_of (x0 : List TRule) {r : Bool} (h : (impl_RulesOk_b1 x0 x0 (x0.length : Int) 0) = some r) : impl_RulesOk x0 = some r := by
  refine Fn.of L_eq E9_inj (fi := fi52) rfl rfl ?_
  simp only [fi52]
  have q := Blk.run h
  try simp only [go_sem] at q
  simp (implicitDefEqProofs := false) only [go_sem, b52, k52_1, g52_1, Nat.reduceEqDiff, Nat.reduceAdd, ↓reduceIte, reduceCtorEq]
  exact q
theorem impl_RulesOk_b1_of (x0 x5 : List TRule) (x6 x7 : Int) {r : Bool} (h : (if decide (x7 < x6) then ((rdx x5 x7).bind fun v1 =>
   (impl_within v1.Tag (-1) 4).bind fun r2 =>
   if !r2 then some false
   else ((impl_within v1.Above (-1) 4).bind fun r3 =>
    if !r3 then some false
    else ((impl_within v1.Name (-1) 3).bind fun r4 =>
     if !r4 then some false
     else ((impl_within v1.Look 0 4).bind fun r5 =>
      if !r5 then some false
      else ((impl_within v1.Give 0 60).bind fun r6 =>
       if !r6 then some false
       else (if decide (v1.Name = (-1)) then (if !(decide (v1.Val.Kind = 0) && (decide (v1.Val.Num = 0) && decide (v1.Val.Text = []))) then some false
         else ((impl_ValOk v1.Val).bind fun r7 =>
          if !r7 then some false
          else impl_RulesOk_b1 x0 x5 x6 (w64 (x7 + 1))))
        else ((impl_ValOk v1.Val).bind fun r8 =>
         if !r8 then some false
         else impl_RulesOk_b1 x0 x5 x6 (w64 (x7 + 1)))))))))
  else some (decide ((x0.length : Int) ≤ 12))) = some r) : impl_RulesOk_b1 x0 x5 x6 x7 = some r := by
  refine Blk.of E9_inj ?_
  refine D_start (c' := d52_1) rfl ?_
  rcases ifB h with ⟨e1, h⟩ | ⟨e1, h⟩
  · obtain ⟨v1, e2, h⟩ := bnd h
    obtain ⟨r2, e3, h⟩ := bnd h
    rcases ifB h with ⟨e4, h⟩ | ⟨e4, h⟩
    · cases h
      simp (implicitDefEqProofs := false) only [go_sem, d52_1, k52_1, g52_1, R52, E9, e1, rdp e2, rdm eTRule e2, impl_within_run e3, e4, Nat.reduceEqDiff, Nat.reduceAdd, Nat.reduceLeDiff, ↓reduceIte, reduceCtorEq]
    · obtain ⟨r3, e5, h⟩ := bnd h
      rcases ifB h with ⟨e6, h⟩ | ⟨e6, h⟩
      · cases h
        simp (implicitDefEqProofs := false) only [go_sem, d52_1, k52_1, g52_1, R52, E9, e1, rdp e2, rdm eTRule e2, impl_within_run e3, e4, impl_within_run e5, e6, Nat.reduceEqDiff, Nat.reduceAdd, Nat.reduceLeDiff, ↓reduceIte, reduceCtorEq]
      · obtain ⟨r4, e7, h⟩ := bnd h
        rcases ifB h with ⟨e8, h⟩ | ⟨e8, h⟩
        · cases h
          simp (implicitDefEqProofs := false) only [go_sem, d52_1, k52_1, g52_1, R52, E9, e1, rdp e2, rdm eTRule e2, impl_within_run e3, e4, impl_within_run e5, e6, impl_within_run e7, e8, Nat.reduceEqDiff, Nat.reduceAdd, Nat.reduceLeDiff, ↓reduceIte, reduceCtorEq]
        · obtain ⟨r5, e9, h⟩ := bnd h
          rcases ifB h with ⟨e10, h⟩ | ⟨e10, h⟩
          · cases h
            simp (implicitDefEqProofs := false) only [go_sem, d52_1, k52_1, g52_1, R52, E9, e1, rdp e2, rdm eTRule e2, impl_within_run e3, e4, impl_within_run e5, e6, impl_within_run e7, e8, impl_within_run e9, e10, Nat.reduceEqDiff, Nat.reduceAdd, Nat.reduceLeDiff, ↓reduceIte, reduceCtorEq]
          · obtain ⟨r6, e11, h⟩ := bnd h
            rcases ifB h with ⟨e12, h⟩ | ⟨e12, h⟩
            · cases h
              simp (implicitDefEqProofs := false) only [go_sem, d52_1, k52_1, g52_1, R52, E9, e1, rdp e2, rdm eTRule e2, impl_within_run e3, e4, impl_within_run e5, e6, impl_within_run e7, e8, impl_within_run e9, e10, impl_within_run e11, e12, Nat.reduceEqDiff, Nat.reduceAdd, Nat.reduceLeDiff, ↓reduceIte, reduceCtorEq]
            · rcases ifB h with ⟨e13, h⟩ | ⟨e13, h⟩
              · rcases ifB h with ⟨e14, h⟩ | ⟨e14, h⟩
                · cases h
                  simp (implicitDefEqProofs := false) only [go_sem, d52_1, k52_1, g52_1, R52, E9, e1, rdp e2, rdm eTRule e2, impl_within_run e3, e4, impl_within_run e5, e6, impl_within_run e7, e8, impl_within_run e9, e10, impl_within_run e11, e12, e13, e14, Nat.reduceEqDiff, Nat.reduceAdd, Nat.reduceLeDiff, ↓reduceIte, reduceCtorEq]
                · obtain ⟨r7, e15, h⟩ := bnd h
                  rcases ifB h with ⟨e16, h⟩ | ⟨e16, h⟩
                  · cases h
                    simp (implicitDefEqProofs := false) only [go_sem, d52_1, k52_1, g52_1, R52, E9, e1, rdp e2, rdm eTRule e2, impl_within_run e3, e4, impl_within_run e5, e6, impl_within_run e7, e8, impl_within_run e9, e10, impl_within_run e11, e12, e13, e14, impl_ValOk_run e15, e16, Nat.reduceEqDiff, Nat.reduceAdd, Nat.reduceLeDiff, ↓reduceIte, reduceCtorEq]
                  · have q := Blk.run h
                    try simp only [go_sem] at q
                    simp (implicitDefEqProofs := false) only [go_sem, d52_1, k52_1, g52_1, e1, rdp e2, rdm eTRule e2, impl_within_run e3, e4, impl_within_run e5, e6, impl_within_run e7, e8, impl_within_run e9, e10, impl_within_run e11, e12, e13, e14, impl_ValOk_run e15, e16, Nat.reduceEqDiff, Nat.reduceAdd, Nat.reduceLeDiff, ↓reduceIte, reduceCtorEq]
                    exact q
              · obtain ⟨r8, e17, h⟩ := bnd h
                rcases ifB h with ⟨e18, h⟩ | ⟨e18, h⟩
                · cases h
                  simp (implicitDefEqProofs := false) only [go_sem, d52_1, k52_1, g52_1, R52, E9, e1, rdp e2, rdm eTRule e2, impl_within_run e3, e4, impl_within_run e5, e6, impl_within_run e7, e8, impl_within_run e9, e10, impl_within_run e11, e12, e13, impl_ValOk_run e17, e18, Nat.reduceEqDiff, Nat.reduceAdd, Nat.reduceLeDiff, ↓reduceIte, reduceCtorEq]
                · have q := Blk.run h
                  try simp only [go_sem] at q
                  simp (implicitDefEqProofs := false) only [go_sem, d52_1, k52_1, g52_1, e1, rdp e2, rdm eTRule e2, impl_within_run e3, e4, impl_within_run e5, e6, impl_within_run e7, e8, impl_within_run e9, e10, impl_within_run e11, e12, e13, impl_ValOk_run e17, e18, Nat.reduceEqDiff, Nat.reduceAdd, Nat.reduceLeDiff, ↓reduceIte, reduceCtorEq]
                  exact q
  · cases h
    simp (implicitDefEqProofs := false) only [go_sem, d52_1, k52_1, g52_1, R52, E9, e1, Nat.reduceEqDiff, Nat.reduceAdd, ↓reduceIte, reduceCtorEq]
theorem impl_paintOk_of (x0 : TTree) (x1 : List TRule) (x2 x3 : Int) {r : Bool} (h : ((impl_TreeOk x0).bind fun r1 =>
  if r1 then ((impl_RulesOk x1).bind fun r2 =>
   if r2 then ((impl_within x2 0 60).bind fun r3 =>
    if r3 then ((impl_within x3 0 30).bind fun r4 =>
     some r4)
    else some false)
   else some false)
  else some false) = some r) : impl_paintOk x0 x1 x2 x3 = some r := by
  refine Fn.of L_eq E9_inj (fi := fi42) rfl rfl ?_
  simp only [fi42]
  obtain ⟨r1, e1, h⟩ := bnd h
  rcases ifB h with ⟨e2, h⟩ | ⟨e2, h⟩
  · obtain ⟨r2, e3, h⟩ := bnd h
    rcases ifB h with ⟨e4, h⟩ | ⟨e4, h⟩
    · obtain ⟨r3, e5, h⟩ := bnd h
      rcases ifB h with ⟨e6, h⟩ | ⟨e6, h⟩
      · obtain ⟨r4, e7, h⟩ := bnd h
        cases h
        simp (implicitDefEqProofs := false) only [go_sem, b42, R42, E9, impl_TreeOk_run e1, e2, impl_RulesOk_run e3, e4, impl_within_run e5, e6, impl_within_run e7, Nat.reduceEqDiff, Nat.reduceAdd, Nat.reduceLeDiff, ↓reduceIte, reduceCtorEq]
      · cases h
        simp (implicitDefEqProofs := false) only [go_sem, b42, R42, E9, impl_TreeOk_run e1, e2, impl_RulesOk_run e3, e4, impl_within_run e5, e6, Nat.reduceEqDiff, Nat.reduceAdd, Nat.reduceLeDiff, ↓reduceIte, reduceCtorEq]
    · cases h
      simp (implicitDefEqProofs := false) only [go_sem, b42, R42, E9, impl_TreeOk_run e1, e2, impl_RulesOk_run e3, e4, Nat.reduceEqDiff, Nat.reduceAdd, Nat.reduceLeDiff, ↓reduceIte, reduceCtorEq]
  · cases h
    simp (implicitDefEqProofs := false) only [go_sem, b42, R42, E9, impl_TreeOk_run e1, e2, Nat.reduceEqDiff, Nat.reduceAdd, Nat.reduceLeDiff, ↓reduceIte, reduceCtorEq]
theorem impl_weight_of (x0 : TRule) {r : Int} (h : (if !(decide (x0.Tag = (-1))) then impl_weight_b1 (w64 (0 + 1)) x0
  else impl_weight_b1 0 x0) = some r) : impl_weight x0 = some r := by
  refine Fn.of L_eq E1_inj (fi := fi95) rfl rfl ?_
  simp only [fi95]
  rcases ifB h with ⟨e1, h⟩ | ⟨e1, h⟩
  · have q := Blk.run h
    try simp only [go_sem] at q
    simp (implicitDefEqProofs := false) only [go_sem, b95, g95_1, e1, Nat.reduceEqDiff, Nat.reduceAdd, Nat.reduceLeDiff, ↓reduceIte, reduceCtorEq]
    exact q
  · have q := Blk.run h
    try simp only [go_sem] at q
    simp (implicitDefEqProofs := false) only [go_sem, b95, g95_1, e1, Nat.reduceEqDiff, Nat.reduceAdd, Nat.reduceLeDiff, ↓reduceIte, reduceCtorEq]
    exact q
theorem impl_weight_b1_of (x3 : Int) (y1 : TRule) {r : Int} (h : (if !(decide (y1.Above = (-1))) then (if !(decide (y1.Name = (-1))) then some (w64 ((w64 (x3 + 1)) + 10))
   else some (w64 (x3 + 1)))
  else (if !(decide (y1.Name = (-1))) then some (w64 (x3 + 10))
   else some x3)) = some r) : impl_weight_b1 x3 y1 = some r := by
  refine Blk.of E1_inj ?_
  refine D_start (c' := d95_1) rfl ?_
  rcases ifB h with ⟨e1, h⟩ | ⟨e1, h⟩
  · rcases ifB h with ⟨e2, h⟩ | ⟨e2, h⟩
    · cases h
      simp (implicitDefEqProofs := false) only [go_sem, d95_1, R95, E1, e1, e2, Nat.reduceEqDiff, Nat.reduceAdd, Nat.reduceLeDiff, ↓reduceIte]
    · cases h
      simp (implicitDefEqProofs := false) only [go_sem, d95_1, R95, E1, e1, e2, Nat.reduceEqDiff, Nat.reduceAdd, Nat.reduceLeDiff, ↓reduceIte]
  · rcases ifB h with ⟨e3, h⟩ | ⟨e3, h⟩
    · cases h
      simp (implicitDefEqProofs := false) only [go_sem, d95_1, R95, E1, e1, e3, Nat.reduceEqDiff, Nat.reduceAdd, Nat.reduceLeDiff, ↓reduceIte]
    · cases h
      simp (implicitDefEqProofs := false) only [go_sem, d95_1, R95, E1, e1, e3, Nat.reduceEqDiff, Nat.reduceAdd, Nat.reduceLeDiff, ↓reduceIte]
theorem impl_meets_of (x0 : TRule) (x1 : TTree) (x2 : List Int) {r : Bool} (h : (if !(decide (x0.Tag = (-1))) then (if !(decide (x0.Tag = x1.Tag)) then some false
   else impl_meets_b1 x2 x0 x1)
  else impl_meets_b1 x2 x0 x1) = some r) : impl_meets x0 x1 x2 = some r := by
  refine Fn.of L_eq E9_inj (fi := fi96) rfl rfl ?_
  simp only [fi96]
  rcases ifB h with ⟨e1, h⟩ | ⟨e1, h⟩
  · rcases ifB h with ⟨e2, h⟩ | ⟨e2, h⟩
    · cases h
      simp (implicitDefEqProofs := false) only [go_sem, b96, g96_1, R96, E9, e1, e2, Nat.reduceEqDiff, Nat.reduceAdd, Nat.reduceLeDiff, ↓reduceIte, reduceCtorEq]
    · have q := Blk.run h
      try simp only [go_sem] at q
      simp (implicitDefEqProofs := false) only [go_sem, b96, g96_1, e1, e2, Nat.reduceEqDiff, Nat.reduceAdd, Nat.reduceLeDiff, ↓reduceIte, reduceCtorEq, Nat.reduceBEq]
      exact q
  · have q := Blk.run h
    try simp only [go_sem] at q
    simp (implicitDefEqProofs := false) only [go_sem, b96, g96_1, e1, Nat.reduceEqDiff, Nat.reduceAdd, Nat.reduceLeDiff, ↓reduceIte, reduceCtorEq, Nat.reduceBEq]
    exact q
theorem impl_meets_b1_of (x2 : List Int) (y3 : TRule) (y4 : TTree) {r : Bool} (h : (if !(decide (y3.Above = (-1))) then impl_meets_b2 false x2 (x2.length : Int) 0 y3 y4
  else (if decide (y3.Name = (-1)) then some true
   else impl_meets_b3 y4.Props (y4.Props.length : Int) 0 y3)) = some r) : impl_meets_b1 x2 y3 y4 = some r := by
  refine Blk.of E9_inj ?_
  refine D_start (c' := d96_1) rfl ?_
  rcases ifB h with ⟨e1, h⟩ | ⟨e1, h⟩
  · have q := Blk.run h
    try simp only [go_sem] at q
    simp (implicitDefEqProofs := false) only [go_sem, d96_1, k96_1, k96_2, k96_3, g96_2, g96_3, e1, Nat.reduceEqDiff, Nat.reduceAdd, Nat.reduceLeDiff, ↓reduceIte, reduceCtorEq, Nat.reduceBEq]
    exact q
  · rcases ifB h with ⟨e2, h⟩ | ⟨e2, h⟩
    · cases h
      simp (implicitDefEqProofs := false) only [go_sem, d96_1, k96_1, k96_2, k96_3, g96_2, g96_3, R96, E9, e1, e2, Nat.reduceEqDiff, Nat.reduceAdd, Nat.reduceLeDiff, ↓reduceIte]
    · have q := Blk.run h
      try simp only [go_sem] at q
      simp (implicitDefEqProofs := false) only [go_sem, d96_1, k96_1, k96_2, k96_3, g96_2, g96_3, e1, e2, Nat.reduceEqDiff, Nat.reduceAdd, Nat.reduceLeDiff, ↓reduceIte, reduceCtorEq]
      exact q
theorem impl_meets_b2_of (x7 : Bool) (x25 : List Int) (x26 x27 : Int) (y3 : TRule) (y4 : TTree) {r : Bool} (h : (if decide (x27 < x26) then ((rdx x25 x27).bind fun v1 =>
   if x7 then impl_meets_b2 true x25 x26 (w64 (x27 + 1)) y3 y4
   else impl_meets_b2 (decide (v1 = y3.Above)) x25 x26 (w64 (x27 + 1)) y3 y4)
  else (if !x7 then some false
   else (if decide (y3.Name = (-1)) then some true
    else impl_meets_b3 y4.Props (y4.Props.length : Int) 0 y3))) = some r) : impl_meets_b2 x7 x25 x26 x27 y3 y4 = some r := by
  refine Blk.of E9_inj ?_
  refine D_start (c' := d96_2) rfl ?_
  rcases ifB h with ⟨e1, h⟩ | ⟨e1, h⟩
  · obtain ⟨v1, e2, h⟩ := bnd h
    rcases ifB h with ⟨e3, h⟩ | ⟨e3, h⟩
    · subst e3
      have q := Blk.run h
      try simp only [go_sem] at q
      simp (implicitDefEqProofs := false) only [go_sem, d96_2, k96_1, k96_2, k96_3, g96_2, g96_3, e1, rdp e2, rdm eI e2, Nat.reduceEqDiff, Nat.reduceAdd, Nat.reduceLeDiff, ↓reduceIte, reduceCtorEq, Nat.reduceBEq]
      exact q
    · subst e3
      have q := Blk.run h
      try simp only [go_sem] at q
      simp (implicitDefEqProofs := false) only [go_sem, d96_2, k96_1, k96_2, k96_3, g96_2, g96_3, e1, rdp e2, rdm eI e2, Nat.reduceEqDiff, Nat.reduceAdd, Nat.reduceLeDiff, ↓reduceIte, reduceCtorEq, Nat.reduceBEq]
      exact q
  · rcases ifB h with ⟨e4, h⟩ | ⟨e4, h⟩
    · cases h
      simp (implicitDefEqProofs := false) only [go_sem, d96_2, k96_1, k96_2, k96_3, g96_2, g96_3, R96, E9, e1, e4, Nat.reduceEqDiff, Nat.reduceAdd, ↓reduceIte]
    · rcases ifB h with ⟨e5, h⟩ | ⟨e5, h⟩
      · cases h
        simp (implicitDefEqProofs := false) only [go_sem, d96_2, k96_1, k96_2, k96_3, g96_2, g96_3, R96, E9, e1, e4, e5, Nat.reduceEqDiff, Nat.reduceAdd, Nat.reduceLeDiff, ↓reduceIte]
      · have q := Blk.run h
        try simp only [go_sem] at q
        simp (implicitDefEqProofs := false) only [go_sem, d96_2, k96_1, k96_2, k96_3, g96_2, g96_3, e1, e4, e5, Nat.reduceEqDiff, Nat.reduceAdd, Nat.reduceLeDiff, ↓reduceIte, reduceCtorEq]
        exact q
theorem impl_meets_b3_of (x45 : List TProp) (x46 x47 : Int) (y3 : TRule) {r : Bool} (h : (if decide (x47 < x46) then ((rdx x45 x47).bind fun v2 =>
   if decide (v2.Name = y3.Name) then (if (decide (v2.Val.Kind = y3.Val.Kind) && (decide (v2.Val.Num = y3.Val.Num) && decide (v2.Val.Text = y3.Val.Text))) then some true
    else impl_meets_b3 x45 x46 (w64 (x47 + 1)) y3)
   else impl_meets_b3 x45 x46 (w64 (x47 + 1)) y3)
  else some false) = some r) : impl_meets_b3 x45 x46 x47 y3 = some r := by
  refine Blk.of E9_inj ?_
  refine D_start (c' := d96_3) rfl ?_
  rcases ifB h with ⟨e1, h⟩ | ⟨e1, h⟩
  · obtain ⟨v2, e2, h⟩ := bnd h
    rcases ifB h with ⟨e3, h⟩ | ⟨e3, h⟩
    · rcases ifB h with ⟨e4, h⟩ | ⟨e4, h⟩
      · cases h
        simp (implicitDefEqProofs := false) only [go_sem, d96_3, k96_3, g96_3, R96, E9, e1, rdp e2, rdm eTProp e2, e3, e4, Nat.reduceEqDiff, Nat.reduceAdd, Nat.reduceLeDiff, ↓reduceIte, reduceCtorEq]
      · have q := Blk.run h
        try simp only [go_sem] at q
        simp (implicitDefEqProofs := false) only [go_sem, d96_3, k96_3, g96_3, e1, rdp e2, rdm eTProp e2, e3, e4, Nat.reduceEqDiff, Nat.reduceAdd, Nat.reduceLeDiff, ↓reduceIte, reduceCtorEq]
        exact q
    · have q := Blk.run h
      try simp only [go_sem] at q
      simp (implicitDefEqProofs := false) only [go_sem, d96_3, k96_3, g96_3, e1, rdp e2, rdm eTProp e2, e3, Nat.reduceEqDiff, Nat.reduceAdd, Nat.reduceLeDiff, ↓reduceIte, reduceCtorEq]
      exact q
  · cases h
    simp (implicitDefEqProofs := false) only [go_sem, d96_3, k96_3, g96_3, R96, E9, e1, Nat.reduceEqDiff, Nat.reduceAdd, ↓reduceIte]
theorem impl_looks_of (x0 : TTree) (x1 : List TRule) (x2 : List Int) (x3 : Int) {r : (List (List Int))} (h : (if decide (x0.Tag = (-1)) then some ([([0, 0, 0, 0, x3] : List Int)])
  else impl_looks_b1 x1 x2 ([0, 0, 0, 0, x3] : List Int) 0 x0) = some r) : impl_looks x0 x1 x2 x3 = some r := by
  refine Fn.of L_eq E24_inj (fi := fi72) rfl rfl ?_
  simp only [fi72]
  rcases ifB h with ⟨e1, h⟩ | ⟨e1, h⟩
  · cases h
    simp (implicitDefEqProofs := false) only [go_sem, b72, k72_1, k72_3, g72_1, g72_2, R72, E24, e1, Int.reduceMul, Nat.reduceEqDiff, Nat.reduceAdd, Nat.reduceLeDiff, Int.reduceLE, ↓reduceIte, reduceCtorEq]
  · have q := Blk.run h
    try simp only [go_sem] at q
    simp (implicitDefEqProofs := false) only [go_sem, b72, k72_1, k72_3, g72_1, g72_2, e1, Int.reduceMul, Nat.reduceEqDiff, Nat.reduceAdd, Nat.reduceLeDiff, Int.reduceLE, ↓reduceIte, reduceCtorEq, Nat.reduceBEq]
    exact q
theorem impl_looks_b1_of (x1 : List TRule) (x2 x10 : List Int) (x28 : Int) (y4 : TTree) {r : (List (List Int))} (h : (if decide (x28 < 5) then impl_looks_b2 x1 x2 x10 x28 (-1) x28 x1 (x1.length : Int) 0 y4
  else (if apOk 8 ([] : (List Int)) x2 then (if apOk 8 x2 ([y4.Tag]) then impl_looks_b3 x1 x10 ([x10]) (x2 ++ ([y4.Tag])) y4.Kids (y4.Kids.length : Int) 0
    else none)
   else none)) = some r) : impl_looks_b1 x1 x2 x10 x28 y4 = some r := by
  refine Blk.of E24_inj ?_
  refine D_start (c' := d72_1) rfl ?_
  rcases ifB h with ⟨e1, h⟩ | ⟨e1, h⟩
  · have q := Blk.run h
    try simp only [go_sem] at q
    simp (implicitDefEqProofs := false) only [go_sem, d72_1, k72_1, k72_2, k72_3, g72_1, g72_2, g72_3, e1, Nat.reduceEqDiff, Nat.reduceAdd, ↓reduceIte, reduceCtorEq, Nat.reduceBEq]
    exact q
  · obtain ⟨e2, h⟩ := ifP h
    have me2 := apL e2
    try simp only [go_sem] at me2
    obtain ⟨e3, h⟩ := ifP h
    have me3 := apL e3
    try simp only [go_sem, Nat.reduceAdd, Nat.reduceLeDiff] at me3
    have q := Blk.run h
    try simp only [go_sem] at q
    simp (implicitDefEqProofs := false) only [go_sem, d72_1, k72_1, k72_2, k72_3, g72_1, g72_2, g72_3, e1, me2, me3, Nat.reduceEqDiff, Nat.reduceAdd, Nat.reduceLeDiff, ↓reduceIte, reduceCtorEq]
    exact q
theorem impl_looks_b2_of (x1 : List TRule) (x2 x10 : List Int) (x11 x12 x28 : Int) (x31 : List TRule) (x32 x33 : Int) (y4 : TTree) {r : (List (List Int))} (h : (if decide (x33 < x32) then ((rdx x31 x33).bind fun v1 =>
   if decide (v1.Look = x11) then ((impl_weight v1).bind fun r2 =>
    if decide (x12 ≤ r2) then ((impl_meets v1 y4 x2).bind fun r3 =>
     if r3 then ((rdx x10 x11).bind fun _v4 =>
      impl_looks_b2 x1 x2 (x10.set x11.toNat v1.Give) x11 r2 x28 x31 x32 (w64 (x33 + 1)) y4)
     else impl_looks_b2 x1 x2 x10 x11 x12 x28 x31 x32 (w64 (x33 + 1)) y4)
    else impl_looks_b2 x1 x2 x10 x11 x12 x28 x31 x32 (w64 (x33 + 1)) y4)
   else impl_looks_b2 x1 x2 x10 x11 x12 x28 x31 x32 (w64 (x33 + 1)) y4)
  else impl_looks_b1 x1 x2 x10 (w64 (x28 + 1)) y4) = some r) : impl_looks_b2 x1 x2 x10 x11 x12 x28 x31 x32 x33 y4 = some r := by
  refine Blk.of E24_inj ?_
  refine D_start (c' := d72_3) rfl ?_
  rcases ifB h with ⟨e1, h⟩ | ⟨e1, h⟩
  · obtain ⟨v1, e2, h⟩ := bnd h
    rcases ifB h with ⟨e3, h⟩ | ⟨e3, h⟩
    · obtain ⟨r2, e4, h⟩ := bnd h
      rcases ifB h with ⟨e5, h⟩ | ⟨e5, h⟩
      · obtain ⟨r3, e6, h⟩ := bnd h
        rcases ifB h with ⟨e7, h⟩ | ⟨e7, h⟩
        · obtain ⟨v4, e8, h⟩ := bnd h
          have q := Blk.run h
          try simp only [go_sem] at q
          simp (implicitDefEqProofs := false) only [go_sem, d72_3, k72_1, k72_2, k72_3, g72_1, g72_2, g72_3, e1, rdp e2, rdm eTRule e2, e3, impl_weight_run e4, e5, impl_meets_run e6, e7, rdp e8, rdm eI e8, Nat.reduceEqDiff, Nat.reduceAdd, Nat.reduceLeDiff, ↓reduceIte, reduceCtorEq, Nat.reduceBEq]
          exact q
        · have q := Blk.run h
          try simp only [go_sem] at q
          simp (implicitDefEqProofs := false) only [go_sem, d72_3, k72_1, k72_2, k72_3, g72_1, g72_2, g72_3, e1, rdp e2, rdm eTRule e2, e3, impl_weight_run e4, e5, impl_meets_run e6, e7, Nat.reduceEqDiff, Nat.reduceAdd, Nat.reduceLeDiff, ↓reduceIte, reduceCtorEq, Nat.reduceBEq]
          exact q
      · have q := Blk.run h
        try simp only [go_sem] at q
        simp (implicitDefEqProofs := false) only [go_sem, d72_3, k72_1, k72_2, k72_3, g72_1, g72_2, g72_3, e1, rdp e2, rdm eTRule e2, e3, impl_weight_run e4, e5, Nat.reduceEqDiff, Nat.reduceAdd, Nat.reduceLeDiff, ↓reduceIte, reduceCtorEq, Nat.reduceBEq]
        exact q
    · have q := Blk.run h
      try simp only [go_sem] at q
      simp (implicitDefEqProofs := false) only [go_sem, d72_3, k72_1, k72_2, k72_3, g72_1, g72_2, g72_3, e1, rdp e2, rdm eTRule e2, e3, Nat.reduceEqDiff, Nat.reduceAdd, Nat.reduceLeDiff, ↓reduceIte, reduceCtorEq, Nat.reduceBEq]
      exact q
  · have q := Blk.run h
    try simp only [go_sem] at q
    simp (implicitDefEqProofs := false) only [go_sem, d72_3, k72_1, k72_2, k72_3, g72_1, g72_2, g72_3, e1, Nat.reduceEqDiff, Nat.reduceAdd, ↓reduceIte, Nat.reduceBEq]
    exact q
theorem impl_looks_b3_of (x1 : List TRule) (x9 : List Int) (x10 : List (List Int)) (x15 : List Int) (x70 : List TTree) (x71 x72 : Int) {r : (List (List Int))} (h : (if decide (x72 < x71) then ((rdx x70 x72).bind fun v5 =>
   (rdx x9 4).bind fun v6 =>
   (impl_looks v5 x1 x15 v6).bind fun r7 =>
   if apOk 24 x10 r7 then impl_looks_b3 x1 x9 (x10 ++ r7) x15 x70 x71 (w64 (x72 + 1))
   else none)
  else some x10) = some r) : impl_looks_b3 x1 x9 x10 x15 x70 x71 x72 = some r := by
  refine Blk.of E24_inj ?_
  refine D_start (c' := d72_2) rfl ?_
  rcases ifB h with ⟨e1, h⟩ | ⟨e1, h⟩
  · obtain ⟨v5, e2, h⟩ := bnd h
    obtain ⟨v6, e3, h⟩ := bnd h
    have me3 := rdm eI e3
    try simp only [go_sem] at me3
    obtain ⟨r7, e4, h⟩ := bnd h
    obtain ⟨e5, h⟩ := ifP h
    have me5 := apL e5
    try simp only [go_sem, Int.reduceMul, Nat.reduceEqDiff, Nat.reduceAdd, Nat.reduceMul, Nat.reduceSub, Nat.reduceLeDiff, Int.reduceLE, Int.reduceLT, Int.reduceEq, ↓reduceIte, reduceCtorEq, Nat.beq_eq_true_eq, Nat.reduceBEq] at me5
    have q := Blk.run h
    try simp only [go_sem] at q
    simp (implicitDefEqProofs := false) only [go_sem, d72_2, k72_3, g72_2, e1, rdp e2, rdm (eTTree .sh) e2, rdp e3, me3, impl_looks_run e4, me5, Nat.reduceEqDiff, Nat.reduceAdd, Nat.reduceLeDiff, ↓reduceIte, reduceCtorEq]
    exact q
  · cases h
    simp (implicitDefEqProofs := false) only [go_sem, d72_2, k72_3, g72_2, R72, E24, e1, Nat.reduceEqDiff, Nat.reduceAdd, ↓reduceIte, reduceCtorEq]
theorem impl_treeCount_of (x0 : TTree) {r : Int} (h : (impl_treeCount_b1 1 x0.Kids (x0.Kids.length : Int) 0) = some r) : impl_treeCount x0 = some r := by
  refine Fn.of L_eq E1_inj (fi := fi87) rfl rfl ?_
  simp only [fi87]
  have q := Blk.run h
  try simp only [go_sem] at q
  simp (implicitDefEqProofs := false) only [go_sem, b87, k87_1, g87_1, Nat.reduceEqDiff, Nat.reduceAdd, Nat.reduceLeDiff, ↓reduceIte, reduceCtorEq]
  exact q
theorem impl_treeCount_b1_of (x3 : Int) (x7 : List TTree) (x8 x9 : Int) {r : Int} (h : (if decide (x9 < x8) then ((rdx x7 x9).bind fun v1 =>
   (impl_treeCount v1).bind fun r2 =>
   impl_treeCount_b1 (w64 (x3 + r2)) x7 x8 (w64 (x9 + 1)))
  else some x3) = some r) : impl_treeCount_b1 x3 x7 x8 x9 = some r := by
  refine Blk.of E1_inj ?_
  refine D_start (c' := d87_1) rfl ?_
  rcases ifB h with ⟨e1, h⟩ | ⟨e1, h⟩
  · obtain ⟨v1, e2, h⟩ := bnd h
    obtain ⟨r2, e3, h⟩ := bnd h
    have q := Blk.run h
    try simp only [go_sem] at q
    simp (implicitDefEqProofs := false) only [go_sem, d87_1, k87_1, g87_1, e1, rdp e2, rdm (eTTree .sh) e2, impl_treeCount_run e3, Nat.reduceEqDiff, Nat.reduceAdd, Nat.reduceLeDiff, ↓reduceIte, reduceCtorEq]
    exact q
  · cases h
    simp (implicitDefEqProofs := false) only [go_sem, d87_1, k87_1, g87_1, R87, E1, e1, Nat.reduceEqDiff, Nat.reduceAdd, ↓reduceIte]
end Go.Fw.Law
