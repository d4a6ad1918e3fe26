/- What the functions come to. Conditions: none. -/
import Derived.Test.YtjldolmokfnkoaaGreatDoorLyD
namespace Go.Fw.Law
open Go Go.Fw
theorem impl_boxer_lay_of (x0 : TBoxer) (x1 : TTree) (x2 x3 x4 : Int) {r : TBox × TBoxer} (h : ((rdx x0.looks x0.at_).bind fun v1 =>
  if apOk 32 x0.out ([(⟨0, 0, 0, 0⟩ : TBox)]) then (if decide (x1.Tag = (-1)) then (if decide (0 < (x1.Text.length : Int)) then (if decide (0 < x4) then (if ¬ x4 = 0 then impl_boxer_lay_b1 (x0.out.length : Int) (⟨x0.looks, w64 (x0.at_ + 1), x0.out ++ ([(⟨0, 0, 0, 0⟩ : TBox)])⟩ : TBoxer) (⟨0, 0, 0, 0⟩ : TBox) (⟨x2, x3, min (x1.Text.length : Int) x4, w64 ((w64 ((w64 ((x1.Text.length : Int) + x4)) - 1)).tdiv x4)⟩ : TBox)
      else none)
     else impl_boxer_lay_b1 (x0.out.length : Int) (⟨x0.looks, w64 (x0.at_ + 1), x0.out ++ ([(⟨0, 0, 0, 0⟩ : TBox)])⟩ : TBoxer) (⟨0, 0, 0, 0⟩ : TBox) (⟨x2, x3, 0, 0⟩ : TBox))
    else impl_boxer_lay_b1 (x0.out.length : Int) (⟨x0.looks, w64 (x0.at_ + 1), x0.out ++ ([(⟨0, 0, 0, 0⟩ : TBox)])⟩ : TBoxer) (⟨0, 0, 0, 0⟩ : TBox) (⟨x2, x3, 0, 0⟩ : TBox))
   else ((rdx v1 0).bind fun v2 =>
    if !(decide (v2 = 0)) then impl_boxer_lay_b2 x2 x3 v1 (x0.out.length : Int) (⟨x0.looks, w64 (x0.at_ + 1), x0.out ++ ([(⟨0, 0, 0, 0⟩ : TBox)])⟩ : TBoxer) x1 (⟨0, 0, 0, 0⟩ : TBox) (⟨x2, x3, min v2 x4, 0⟩ : TBox)
    else impl_boxer_lay_b2 x2 x3 v1 (x0.out.length : Int) (⟨x0.looks, w64 (x0.at_ + 1), x0.out ++ ([(⟨0, 0, 0, 0⟩ : TBox)])⟩ : TBoxer) x1 (⟨0, 0, 0, 0⟩ : TBox) (⟨x2, x3, x4, 0⟩ : TBox)))
  else none) = some r) : impl_boxer_lay x0 x1 x2 x3 x4 = some r := by
  refine Fn.of L_eq E25_inj (fi := fi82) rfl rfl ?_
  simp only [fi82]
  obtain ⟨v1, e1, h⟩ := bnd h
  obtain ⟨e2, h⟩ := ifP h
  have me2 := apL e2
  try simp only [go_sem, Nat.reduceAdd, Nat.reduceLeDiff] at me2
  rcases ifB h with ⟨e3, h⟩ | ⟨e3, h⟩
  · rcases ifB h with ⟨e4, h⟩ | ⟨e4, h⟩
    · rcases ifB h with ⟨e5, h⟩ | ⟨e5, h⟩
      · obtain ⟨e6, h⟩ := ifP h
        have q := Blk.run h
        try simp only [go_sem] at q
        simp (implicitDefEqProofs := false) only [go_sem, b82, k82_1, g82_1, g82_2, rdp e1, rdm (eL_I .sh) e1, me2, e3, e4, e5, e6, Nat.reduceEqDiff, Nat.reduceAdd, Nat.reduceLeDiff, ↓reduceIte, reduceCtorEq, Nat.reduceBEq]
        exact q
      · have q := Blk.run h
        try simp only [go_sem] at q
        simp (implicitDefEqProofs := false) only [go_sem, b82, k82_1, g82_1, g82_2, rdp e1, rdm (eL_I .sh) e1, me2, e3, e4, e5, Nat.reduceEqDiff, Nat.reduceAdd, Nat.reduceLeDiff, ↓reduceIte, reduceCtorEq, Nat.reduceBEq]
        exact q
    · have q := Blk.run h
      try simp only [go_sem] at q
      simp (implicitDefEqProofs := false) only [go_sem, b82, k82_1, g82_1, g82_2, rdp e1, rdm (eL_I .sh) e1, me2, e3, e4, Nat.reduceEqDiff, Nat.reduceAdd, Nat.reduceLeDiff, ↓reduceIte, reduceCtorEq, Nat.reduceBEq]
      exact q
  · obtain ⟨v2, e7, h⟩ := bnd h
    have me7 := rdm eI e7
    try simp only [go_sem] at me7
    rcases ifB h with ⟨e8, h⟩ | ⟨e8, h⟩
    · have q := Blk.run h
      try simp only [go_sem] at q
      simp (implicitDefEqProofs := false) only [go_sem, b82, k82_1, g82_1, g82_2, rdp e1, rdm (eL_I .sh) e1, me2, e3, rdp e7, me7, e8, Nat.reduceEqDiff, Nat.reduceAdd, Nat.reduceLeDiff, ↓reduceIte, reduceCtorEq, Nat.reduceBEq]
      exact q
    · have q := Blk.run h
      try simp only [go_sem] at q
      simp (implicitDefEqProofs := false) only [go_sem, b82, k82_1, g82_1, g82_2, rdp e1, rdm (eL_I .sh) e1, me2, e3, rdp e7, me7, e8, Nat.reduceEqDiff, Nat.reduceAdd, Nat.reduceLeDiff, ↓reduceIte, reduceCtorEq, Nat.reduceBEq]
      exact q
theorem impl_boxer_lay_b1_of (x12 : Int) (y0 : TBoxer) (y10 y13 : TBox) {r : TBox × TBoxer} (h : ((rdx y0.out x12).bind fun _v3 =>
  some (y13, (⟨y0.looks, y0.at_, (y0.out.set x12.toNat y13)⟩ : TBoxer))) = some r) : impl_boxer_lay_b1 x12 y0 y10 y13 = some r := by
  refine Blk.of E25_inj ?_
  refine D_start (c' := d82_1) rfl ?_
  obtain ⟨v3, e1, h⟩ := bnd h
  cases h
  simp (implicitDefEqProofs := false) only [go_sem, d82_1, k82_1, g82_2, R82, E25, rdp e1, rdm eTBox e1, Nat.reduceEqDiff, Nat.reduceAdd, Nat.reduceLeDiff, ↓reduceIte, reduceCtorEq, Nat.reduceBEq]
theorem impl_boxer_lay_b2_of (x2 x3 : Int) (x11 : List Int) (x12 : Int) (y0 : TBoxer) (y6 : TTree) (y10 y13 : TBox) {r : TBox × TBoxer} (h : ((rdx x11 2).bind fun v4 =>
  (rdx x11 3).bind fun v5 =>
  if decide (v5 = 0) then impl_boxer_lay_b3 x2 x3 x11 x12 v4 (max (w64 (y13.Wide - (w64 (2 * v4)))) 0) 0 y6.Kids (y6.Kids.length : Int) 0 y0 y10 y13
  else (if (0 ≤ (y6.Kids.length : Int) ∧ (y6.Kids.length : Int) * 8 ≤ 281474976710656 ∧ (y6.Kids.length : Int) ≤ 9223372036854775807) then impl_boxer_lay_b4 x2 x3 x11 x12 v4 0 (max (w64 (y13.Wide - (w64 (2 * v4)))) 0) (List.replicate (y6.Kids.length : Int).toNat (0 : Int)) 0 y0.at_ y6.Kids (y6.Kids.length : Int) 0 y0 y6 y10 y13
   else none)) = some r) : impl_boxer_lay_b2 x2 x3 x11 x12 y0 y6 y10 y13 = some r := by
  refine Blk.of E25_inj ?_
  refine D_start (c' := d82_2) rfl ?_
  obtain ⟨v4, e1, h⟩ := bnd h
  have me1 := rdm eI e1
  try simp only [go_sem] at me1
  obtain ⟨v5, e2, h⟩ := bnd h
  have me2 := rdm eI e2
  try simp only [go_sem] at me2
  rcases ifB h with ⟨e3, h⟩ | ⟨e3, h⟩
  · have q := Blk.run h
    try simp only [go_sem] at q
    simp (implicitDefEqProofs := false) only [go_sem, d82_2, k82_2, g82_3, g82_4, g82_5, g82_6, rdp e1, me1, rdp e2, me2, e3, Nat.reduceEqDiff, Nat.reduceAdd, Nat.reduceLeDiff, ↓reduceIte, reduceCtorEq, Nat.reduceBEq]
    exact q
  · obtain ⟨e4, h⟩ := ifP h
    have me4 := e4
    try simp only [go_sem, Int.reduceMul, Nat.reduceEqDiff, Nat.reduceAdd, Nat.reduceMul, Nat.reduceSub, Nat.reduceLeDiff, Int.reduceLE, Int.reduceLT, Int.reduceEq, ↓reduceIte, reduceCtorEq, Nat.beq_eq_true_eq, Nat.reduceBEq] at me4
    have q := Blk.run h
    try simp only [go_sem] at q
    simp (implicitDefEqProofs := false) only [go_sem, d82_2, k82_2, g82_3, g82_4, g82_5, g82_6, rdp e1, me1, rdp e2, me2, e3, e4, Nat.reduceEqDiff, Nat.reduceAdd, Nat.reduceLeDiff, ↓reduceIte, reduceCtorEq, Nat.reduceBEq]
    exact q
theorem impl_boxer_lay_b3_of (x2 x3 : Int) (x11 : List Int) (x12 x15 x16 x17 : Int) (x122 : List TTree) (x123 x124 : Int) (y0 : TBoxer) (y10 y13 : TBox) {r : TBox × TBoxer} (h : (if decide (x124 < x123) then ((rdx x122 x124).bind fun v6 =>
   (impl_boxer_lay y0 v6 (w64 (x2 + x15)) (w64 ((w64 (x3 + x15)) + x17)) x16).bind fun r7 =>
   impl_boxer_lay_b3 x2 x3 x11 x12 x15 x16 (w64 (x17 + r7.1.High)) x122 x123 (w64 (x124 + 1)) r7.2 y10 y13)
  else impl_boxer_lay_b5 x11 x12 x15 x17 y0 y10 y13) = some r) : impl_boxer_lay_b3 x2 x3 x11 x12 x15 x16 x17 x122 x123 x124 y0 y10 y13 = some r := by
  refine Blk.of E25_inj ?_
  refine D_start (c' := d82_3) rfl ?_
  rcases ifB h with ⟨e1, h⟩ | ⟨e1, h⟩
  · obtain ⟨v6, e2, h⟩ := bnd h
    obtain ⟨r7, e3, h⟩ := bnd h
    have q := Blk.run h
    try simp only [go_sem] at q
    simp (implicitDefEqProofs := false) only [go_sem, d82_3, g82_3, g82_6, e1, rdp e2, rdm (eTTree .sh) e2, impl_boxer_lay_run e3, Nat.reduceEqDiff, Nat.reduceAdd, Nat.reduceLeDiff, ↓reduceIte, reduceCtorEq, Nat.reduceBEq]
    exact q
  · have q := Blk.run h
    try simp only [go_sem] at q
    simp (implicitDefEqProofs := false) only [go_sem, d82_3, g82_3, g82_6, e1, Nat.reduceEqDiff, Nat.reduceAdd, ↓reduceIte, reduceCtorEq, Nat.reduceBEq]
    exact q
theorem impl_boxer_lay_b4_of (x2 x3 : Int) (x11 : List Int) (x12 x15 x17 x20 : Int) (x21 : List Int) (x22 x23 : Int) (x154 : List TTree) (x155 x156 : Int) (y0 : TBoxer) (y6 : TTree) (y10 y13 : TBox) {r : TBox × TBoxer} (h : (if decide (x156 < x155) then ((rdx x154 x156).bind fun v8 =>
   (rdx y0.looks x23).bind fun v9 =>
   (rdx v9 0).bind fun v10 =>
   if !(decide (v8.Tag = (-1))) then (if !(decide (v10 = 0)) then ((rdx x21 x156).bind fun _v11 =>
     (rdx (x21.set x156.toNat (min v10 x20)) x156).bind fun v12 =>
     (impl_treeCount v8).bind fun r13 =>
     impl_boxer_lay_b4 x2 x3 x11 x12 x15 x17 (w64 (x20 - v12)) (x21.set x156.toNat (min v10 x20)) x22 (w64 (x23 + r13)) x154 x155 (w64 (x156 + 1)) y0 y6 y10 y13)
    else ((rdx x21 x156).bind fun _v14 =>
     (impl_treeCount v8).bind fun r15 =>
     impl_boxer_lay_b4 x2 x3 x11 x12 x15 x17 x20 (x21.set x156.toNat (-1)) (w64 (x22 + 1)) (w64 (x23 + r15)) x154 x155 (w64 (x156 + 1)) y0 y6 y10 y13))
   else ((rdx x21 x156).bind fun _v16 =>
    (impl_treeCount v8).bind fun r17 =>
    impl_boxer_lay_b4 x2 x3 x11 x12 x15 x17 x20 (x21.set x156.toNat (-1)) (w64 (x22 + 1)) (w64 (x23 + r17)) x154 x155 (w64 (x156 + 1)) y0 y6 y10 y13))
  else impl_boxer_lay_b6 x3 x11 x12 x15 x17 x20 x21 x22 (w64 (x2 + x15)) y6.Kids (y6.Kids.length : Int) 0 y0 y10 y13) = some r) : impl_boxer_lay_b4 x2 x3 x11 x12 x15 x17 x20 x21 x22 x23 x154 x155 x156 y0 y6 y10 y13 = some r := by
  refine Blk.of E25_inj ?_
  refine D_start (c' := d82_4) rfl ?_
  rcases ifB h with ⟨e1, h⟩ | ⟨e1, h⟩
  · obtain ⟨v8, e2, h⟩ := bnd h
    obtain ⟨v9, e3, h⟩ := bnd h
    obtain ⟨v10, e4, h⟩ := bnd h
    have me4 := rdm eI e4
    try simp only [go_sem] at me4
    rcases ifB h with ⟨e5, h⟩ | ⟨e5, h⟩
    · rcases ifB h with ⟨e6, h⟩ | ⟨e6, h⟩
      · obtain ⟨v11, e7, h⟩ := bnd h
        obtain ⟨v12, e8, h⟩ := bnd h
        have me8 := rdm eI e8
        try simp only [go_sem] at me8
        obtain ⟨r13, e9, h⟩ := bnd h
        have q := Blk.run h
        try simp only [go_sem] at q
        simp (implicitDefEqProofs := false) only [go_sem, d82_4, k82_2, g82_4, g82_5, g82_6, e1, rdp e2, rdm (eTTree .sh) e2, rdp e3, rdm (eL_I .sh) e3, rdp e4, me4, e5, e6, rdm eI e7, me8, impl_treeCount_run e9, Nat.reduceEqDiff, Nat.reduceAdd, Nat.reduceLeDiff, ↓reduceIte, reduceCtorEq, Nat.reduceBEq]
        exact q
      · obtain ⟨v14, e10, h⟩ := bnd h
        obtain ⟨r15, e11, h⟩ := bnd h
        have q := Blk.run h
        try simp only [go_sem] at q
        simp (implicitDefEqProofs := false) only [go_sem, d82_4, k82_2, g82_4, g82_5, g82_6, e1, rdp e2, rdm (eTTree .sh) e2, rdp e3, rdm (eL_I .sh) e3, rdp e4, me4, e5, e6, rdm eI e10, impl_treeCount_run e11, Nat.reduceEqDiff, Nat.reduceAdd, Nat.reduceLeDiff, ↓reduceIte, reduceCtorEq, Nat.reduceBEq]
        exact q
    · obtain ⟨v16, e12, h⟩ := bnd h
      obtain ⟨r17, e13, h⟩ := bnd h
      have q := Blk.run h
      try simp only [go_sem] at q
      simp (implicitDefEqProofs := false) only [go_sem, d82_4, k82_2, g82_4, g82_5, g82_6, e1, rdp e2, rdm (eTTree .sh) e2, rdp e3, rdm (eL_I .sh) e3, rdp e4, me4, e5, rdm eI e12, impl_treeCount_run e13, Nat.reduceEqDiff, Nat.reduceAdd, Nat.reduceLeDiff, ↓reduceIte, reduceCtorEq, Nat.reduceBEq]
      exact q
  · have q := Blk.run h
    try simp only [go_sem] at q
    simp (implicitDefEqProofs := false) only [go_sem, d82_4, k82_2, g82_4, g82_5, g82_6, e1, Nat.reduceEqDiff, Nat.reduceAdd, Nat.reduceLeDiff, ↓reduceIte, reduceCtorEq, Nat.reduceBEq]
    exact q
theorem impl_boxer_lay_b5_of (x11 : List Int) (x12 x15 x17 : Int) (y0 : TBoxer) (y10 y13 : TBox) {r : TBox × TBoxer} (h : ((rdx x11 1).bind fun v18 =>
  if !(decide (v18 = 0)) then ((rdx y0.out x12).bind fun _v19 =>
   some ((⟨y13.Left, y13.Top, y13.Wide, v18⟩ : TBox), (⟨y0.looks, y0.at_, (y0.out.set x12.toNat (⟨y13.Left, y13.Top, y13.Wide, v18⟩ : TBox))⟩ : TBoxer)))
  else ((rdx y0.out x12).bind fun _v20 =>
   some ((⟨y13.Left, y13.Top, y13.Wide, w64 (x17 + (w64 (2 * x15)))⟩ : TBox), (⟨y0.looks, y0.at_, (y0.out.set x12.toNat (⟨y13.Left, y13.Top, y13.Wide, w64 (x17 + (w64 (2 * x15)))⟩ : TBox))⟩ : TBoxer)))) = some r) : impl_boxer_lay_b5 x11 x12 x15 x17 y0 y10 y13 = some r := by
  refine Blk.of E25_inj ?_
  refine D_start (c' := d82_6) rfl ?_
  obtain ⟨v18, e1, h⟩ := bnd h
  have me1 := rdm eI e1
  try simp only [go_sem] at me1
  rcases ifB h with ⟨e2, h⟩ | ⟨e2, h⟩
  · obtain ⟨v19, e3, h⟩ := bnd h
    cases h
    simp (implicitDefEqProofs := false) only [go_sem, d82_6, R82, E25, rdp e1, me1, e2, rdp e3, rdm eTBox e3, Nat.reduceEqDiff, Nat.reduceAdd, Nat.reduceLeDiff, ↓reduceIte, reduceCtorEq, Nat.reduceBEq]
  · obtain ⟨v20, e4, h⟩ := bnd h
    cases h
    simp (implicitDefEqProofs := false) only [go_sem, d82_6, R82, E25, rdp e1, me1, e2, rdp e4, rdm eTBox e4, Nat.reduceEqDiff, Nat.reduceAdd, Nat.reduceLeDiff, ↓reduceIte, reduceCtorEq, Nat.reduceBEq]
theorem impl_boxer_lay_b6_of (x3 : Int) (x11 : List Int) (x12 x15 x17 x20 : Int) (x21 : List Int) (x22 x27 : Int) (x203 : List TTree) (x204 x205 : Int) (y0 : TBoxer) (y10 y13 : TBox) {r : TBox × TBoxer} (h : (if decide (x205 < x204) then ((rdx x203 x205).bind fun v21 =>
   (rdx x21 x205).bind fun v22 =>
   if decide (v22 < 0) then (if ¬ x22 = 0 then ((rdx (x21.set x205.toNat (w64 ((w64 ((w64 (x20 + x22)) - 1)).tdiv x22))) x205).bind fun v23 =>
     impl_boxer_lay_b7 x3 x11 x12 x15 x17 (w64 (x20 - v23)) (x21.set x205.toNat (w64 ((w64 ((w64 (x20 + x22)) - 1)).tdiv x22))) (w64 (x22 - 1)) x27 x205 x203 x204 x205 y0 y10 y13 v21)
    else none)
   else impl_boxer_lay_b7 x3 x11 x12 x15 x17 x20 x21 x22 x27 x205 x203 x204 x205 y0 y10 y13 v21)
  else impl_boxer_lay_b5 x11 x12 x15 x17 y0 y10 y13) = some r) : impl_boxer_lay_b6 x3 x11 x12 x15 x17 x20 x21 x22 x27 x203 x204 x205 y0 y10 y13 = some r := by
  refine Blk.of E25_inj ?_
  refine D_start (c' := d82_5) rfl ?_
  rcases ifB h with ⟨e1, h⟩ | ⟨e1, h⟩
  · obtain ⟨v21, e2, h⟩ := bnd h
    obtain ⟨v22, e3, h⟩ := bnd h
    rcases ifB h with ⟨e4, h⟩ | ⟨e4, h⟩
    · obtain ⟨e5, h⟩ := ifP h
      obtain ⟨v23, e6, h⟩ := bnd h
      have me6 := rdm eI e6
      try simp only [go_sem] at me6
      have q := Blk.run h
      try simp only [go_sem] at q
      simp (implicitDefEqProofs := false) only [go_sem, d82_5, k82_3, g82_5, g82_6, g82_7, e1, rdp e2, rdm (eTTree .sh) e2, rdm eI e3, e4, e5, me6, Nat.reduceEqDiff, Nat.reduceAdd, Nat.reduceLeDiff, ↓reduceIte, reduceCtorEq, Nat.reduceBEq]
      exact q
    · have q := Blk.run h
      try simp only [go_sem] at q
      simp (implicitDefEqProofs := false) only [go_sem, d82_5, k82_3, g82_5, g82_6, g82_7, e1, rdp e2, rdm (eTTree .sh) e2, rdm eI e3, e4, Nat.reduceEqDiff, Nat.reduceAdd, Nat.reduceLeDiff, ↓reduceIte, reduceCtorEq, Nat.reduceBEq]
      exact q
  · have q := Blk.run h
    try simp only [go_sem] at q
    simp (implicitDefEqProofs := false) only [go_sem, d82_5, k82_3, g82_5, g82_6, g82_7, e1, Nat.reduceEqDiff, Nat.reduceAdd, ↓reduceIte, reduceCtorEq, Nat.reduceBEq]
    exact q
theorem impl_boxer_lay_b7_of (x3 : Int) (x11 : List Int) (x12 x15 x17 x20 : Int) (x21 : List Int) (x22 x27 x28 : Int) (x203 : List TTree) (x204 x205 : Int) (y0 : TBoxer) (y10 y13 : TBox) (y29 : TTree) {r : TBox × TBoxer} (h : ((rdx x21 x28).bind fun v24 =>
  (impl_boxer_lay y0 y29 x27 (w64 (x3 + x15)) v24).bind fun r25 =>
  impl_boxer_lay_b6 x3 x11 x12 x15 (max x17 r25.1.High) x20 x21 x22 (w64 (x27 + v24)) x203 x204 (w64 (x205 + 1)) r25.2 y10 y13) = some r) : impl_boxer_lay_b7 x3 x11 x12 x15 x17 x20 x21 x22 x27 x28 x203 x204 x205 y0 y10 y13 y29 = some r := by
  refine Blk.of E25_inj ?_
  refine D_start (c' := d82_7) rfl ?_
  obtain ⟨v24, e1, h⟩ := bnd h
  obtain ⟨r25, e2, h⟩ := bnd h
  have q := Blk.run h
  try simp only [go_sem] at q
  simp (implicitDefEqProofs := false) only [go_sem, d82_7, k82_3, g82_5, g82_6, rdp e1, rdm eI e1, impl_boxer_lay_run e2, Nat.reduceEqDiff, Nat.reduceAdd, Nat.reduceLeDiff, ↓reduceIte, reduceCtorEq, Nat.reduceBEq]
  exact q
theorem impl_boxes_of (x0 : TTree) (x1 : List TRule) (x2 : Int) {r : (List TBox)} (h : ((impl_looks x0 x1 [] 0).bind fun r1 =>
  (impl_boxer_lay (⟨r1, 0, []⟩ : TBoxer) x0 0 0 x2).bind fun r2 =>
  some r2.2.out) = some r) : impl_boxes x0 x1 x2 = some r := by
  refine Fn.of L_eq E16_inj (fi := fi53) rfl rfl ?_
  simp only [fi53]
  obtain ⟨r1, e1, h⟩ := bnd h
  have me1 := impl_looks_run e1
  try simp only [go_sem] at me1
  obtain ⟨r2, e2, h⟩ := bnd h
  have me2 := impl_boxer_lay_run e2
  try simp only [go_sem] at me2
  cases h
  simp (implicitDefEqProofs := false) only [go_sem, b53, R53, E16, me1, me2, Nat.reduceEqDiff, Nat.reduceAdd, Nat.reduceLeDiff, ↓reduceIte, reduceCtorEq]
theorem impl_boxMeet_of (x0 x1 : TBox) {r : TBox} (h : (some (⟨max x0.Left x1.Left, max x0.Top x1.Top, max (w64 ((min (w64 (x0.Left + x0.Wide)) (w64 (x1.Left + x1.Wide))) - (max x0.Left x1.Left))) 0, max (w64 ((min (w64 (x0.Top + x0.High)) (w64 (x1.Top + x1.High))) - (max x0.Top x1.Top))) 0⟩ : TBox)) = some r) : impl_boxMeet x0 x1 = some r := by
  refine Fn.of L_eq E17_inj (fi := fi97) rfl rfl ?_
  simp only [fi97]
  cases h
  simp (implicitDefEqProofs := false) only [go_sem, b97, R97, E17, Nat.reduceEqDiff, Nat.reduceAdd, Nat.reduceLeDiff, ↓reduceIte, reduceCtorEq]
theorem impl_canvas_put_of (x0 : TCanvas) (x1 x2 x3 : Int) {r : TCanvas} (h : ((rdx x0.rows x2).bind fun v1 =>
  (rdx v1 x1).bind fun _v2 =>
  (rdx x0.hits x2).bind fun v3 =>
  (rdx v3 x1).bind fun _v4 =>
  some (⟨x0.looks, x0.boxes, x0.at_, (x0.rows.set x2.toNat (v1.set x1.toNat x3)), (x0.hits.set x2.toNat (v3.set x1.toNat x0.at_))⟩ : TCanvas)) = some r) : impl_canvas_put x0 x1 x2 x3 = some r := by
  refine Fn.of L_eq E26_inj (fi := fi98) rfl rfl ?_
  simp only [fi98]
  obtain ⟨v1, e1, h⟩ := bnd h
  obtain ⟨v2, e2, h⟩ := bnd h
  obtain ⟨v3, e3, h⟩ := bnd h
  obtain ⟨v4, e4, h⟩ := bnd h
  cases h
  simp (implicitDefEqProofs := false) only [go_sem, b98, R98, E26, rdp e1, rdm (eL_U8 .own) e1, rdp e2, rdm eU8 e2, rdm (eL_I .own) e3, rdm eI e4, Nat.reduceEqDiff, Nat.reduceAdd, Nat.reduceLeDiff, ↓reduceIte, reduceCtorEq]
end Go.Fw.Law
