/- What the functions come to. Conditions: none. -/
import Derived.Test.YtfemaegbcfaolaaGreatDoorLeD
namespace Go.Fw.Law
open Go Go.Fw
theorem impl_rising_of (x0 : (List Int)) {r : (List Bool)} (h : (if (0 ≤ (x0.length : Int) ∧ (x0.length : Int) * 8 ≤ 281474976710656 ∧ (x0.length : Int) ≤ 9223372036854775807) then impl_rising_b1 x0 (x0.length : Int) (List.replicate (x0.length : Int).toNat 0) (w64 ((x0.length : Int) - 1))
  else none) = some r) : impl_rising x0 = some r := by
  refine Fn.of L_eq E11_inj (fi := fi78) rfl rfl ?_
  simp only [fi78]
  obtain ⟨e1, h⟩ := ifP h
  have me1 := e1
  try simp (implicitDefEqProofs := false) only [go_sem, Nat.reduceEqDiff, Nat.reduceAdd, Nat.reduceMul, Nat.reduceSub, Nat.reduceLeDiff, Int.reduceLE, Int.reduceLT, Int.reduceEq, ↓reduceIte, reduceCtorEq, Nat.beq_eq_true_eq, Nat.reduceBEq, Nat.reduceEqDiff] at me1
  have q := Blk.run h
  try simp (implicitDefEqProofs := false) only [go_sem] at q
  simp (implicitDefEqProofs := false) only [go_sem, b78, k78_1, k78_3, k78_4, e1, Nat.reduceEqDiff, Nat.reduceAdd, ↓reduceIte, reduceCtorEq, Nat.reduceEqDiff]
  exact q
theorem impl_rising_b1_of (x0 : (List Int)) (x3 : Int) (x4 : (List Int)) (x5 : Int) {r : (List Bool)} (h : (if decide (0 ≤ x5) then ((rdx x0 x5).bind fun v1 =>
   if decide (v1 < 0) then impl_rising_b1 x0 x3 x4 (w64 (x5 - 1))
   else ((rdx x4 x5).bind fun _v2 =>
    impl_rising_b2 x0 x3 (x4.set x5.toNat 1) x5 (w64 (x5 + 1))))
  else impl_rising_b3 x0 x3 x4 0 (x4.length : Int) 0) = some r) : impl_rising_b1 x0 x3 x4 x5 = some r := by
  refine Blk.of E11_inj ?_
  refine D_start (c' := d78_1) rfl ?_
  rcases ifB h with ⟨e1, h⟩ | ⟨e1, h⟩
  · obtain ⟨v1, e2, h⟩ := bnd h
    rcases ifB h with ⟨e3, h⟩ | ⟨e3, h⟩
    · have q := Blk.run h
      try simp (implicitDefEqProofs := false) only [go_sem] at q
      simp (implicitDefEqProofs := false) only [go_sem, d78_1, k78_1, k78_2, k78_3, k78_4, rdp e2, rdm eI e2, e3, Nat.reduceEqDiff, Nat.reduceAdd, Nat.reduceLeDiff, ↓reduceIte, reduceCtorEq, Nat.reduceEqDiff]
      exact q
    · obtain ⟨v2, e4, h⟩ := bnd h
      have q := Blk.run h
      try simp (implicitDefEqProofs := false) only [go_sem] at q
      simp (implicitDefEqProofs := false) only [go_sem, d78_1, k78_1, k78_2, k78_3, k78_4, rdp e2, rdm eI e2, e3, rdm eI e4, Nat.reduceEqDiff, Nat.reduceAdd, Nat.reduceLeDiff, ↓reduceIte, reduceCtorEq, Nat.reduceEqDiff]
      exact q
  · have q := Blk.run h
    try simp (implicitDefEqProofs := false) only [go_sem] at q
    simp (implicitDefEqProofs := false) only [go_sem, d78_1, k78_1, k78_2, k78_3, k78_4, e1, Nat.reduceEqDiff, Nat.reduceAdd, ↓reduceIte, reduceCtorEq, Nat.reduceBEq, Nat.reduceEqDiff]
    exact q
theorem impl_rising_b2_of (x0 : (List Int)) (x3 : Int) (x4 : (List Int)) (x5 : Int) (x6 : Int) {r : (List Bool)} (h : (if decide (x6 < x3) then ((rdx x0 x6).bind fun v3 =>
   (rdx x0 x5).bind fun v4 =>
   if decide (v4 < v3) then ((rdx x4 x6).bind fun v5 =>
    (rdx x4 x5).bind fun v6 =>
    if decide (v6 < (w64 (v5 + 1))) then impl_rising_b2 x0 x3 (x4.set x5.toNat (w64 (v5 + 1))) x5 (w64 (x6 + 1))
    else impl_rising_b2 x0 x3 x4 x5 (w64 (x6 + 1)))
   else impl_rising_b2 x0 x3 x4 x5 (w64 (x6 + 1)))
  else impl_rising_b1 x0 x3 x4 (w64 (x5 - 1))) = some r) : impl_rising_b2 x0 x3 x4 x5 x6 = some r := by
  refine Blk.of E11_inj ?_
  refine D_start (c' := d78_4) rfl ?_
  rcases ifB h with ⟨e1, h⟩ | ⟨e1, h⟩
  · obtain ⟨v3, e2, h⟩ := bnd h
    obtain ⟨v4, e3, h⟩ := bnd h
    rcases ifB h with ⟨e4, h⟩ | ⟨e4, h⟩
    · obtain ⟨v5, e5, h⟩ := bnd h
      obtain ⟨v6, e6, h⟩ := bnd h
      rcases ifB h with ⟨e7, h⟩ | ⟨e7, h⟩
      · have q := Blk.run h
        try simp (implicitDefEqProofs := false) only [go_sem] at q
        simp (implicitDefEqProofs := false) only [go_sem, d78_4, k78_1, k78_2, k78_3, k78_4, e1, rdp e2, rdm eI e2, rdp e3, rdm eI e3, e4, rdm eI e5, rdm eI e6, e7, Nat.reduceEqDiff, Nat.reduceAdd, Nat.reduceLeDiff, ↓reduceIte, reduceCtorEq, Nat.reduceEqDiff]
        exact q
      · have q := Blk.run h
        try simp (implicitDefEqProofs := false) only [go_sem] at q
        simp (implicitDefEqProofs := false) only [go_sem, d78_4, k78_1, k78_2, k78_3, k78_4, e1, rdp e2, rdm eI e2, rdp e3, rdm eI e3, e4, rdm eI e5, rdm eI e6, e7, Nat.reduceEqDiff, Nat.reduceAdd, Nat.reduceLeDiff, ↓reduceIte, reduceCtorEq, Nat.reduceEqDiff]
        exact q
    · have q := Blk.run h
      try simp (implicitDefEqProofs := false) only [go_sem] at q
      simp (implicitDefEqProofs := false) only [go_sem, d78_4, k78_1, k78_2, k78_3, k78_4, e1, rdp e2, rdm eI e2, rdp e3, rdm eI e3, e4, Nat.reduceEqDiff, Nat.reduceAdd, Nat.reduceLeDiff, ↓reduceIte, reduceCtorEq, Nat.reduceEqDiff]
      exact q
  · have q := Blk.run h
    try simp (implicitDefEqProofs := false) only [go_sem] at q
    simp (implicitDefEqProofs := false) only [go_sem, d78_4, k78_1, k78_2, k78_3, k78_4, e1, Nat.reduceEqDiff, Nat.reduceAdd, ↓reduceIte, reduceCtorEq, Nat.reduceEqDiff]
    exact q
theorem impl_rising_b3_of (x0 : (List Int)) (x3 : Int) (x4 : (List Int)) (x7 : Int) (x68 : Int) (x69 : Int) {r : (List Bool)} (h : (if decide (x69 < x68) then ((rdx x4 x69).bind fun v7 =>
   impl_rising_b3 x0 x3 x4 (max x7 v7) x68 (w64 (x69 + 1)))
  else (if (0 ≤ x3 ∧ x3 * 1 ≤ 281474976710656 ∧ x3 ≤ 9223372036854775807) then impl_rising_b4 x0 x3 x4 x7 (List.replicate x3.toNat false) (-1) 0
   else none)) = some r) : impl_rising_b3 x0 x3 x4 x7 x68 x69 = some r := by
  refine Blk.of E11_inj ?_
  refine D_start (c' := d78_2) rfl ?_
  rcases ifB h with ⟨e1, h⟩ | ⟨e1, h⟩
  · obtain ⟨v7, e2, h⟩ := bnd h
    have q := Blk.run h
    try simp (implicitDefEqProofs := false) only [go_sem] at q
    simp (implicitDefEqProofs := false) only [go_sem, d78_2, k78_3, k78_4, e1, rdp e2, rdm eI e2, Nat.reduceEqDiff, Nat.reduceAdd, Nat.reduceLeDiff, ↓reduceIte, reduceCtorEq, Nat.reduceBEq, Nat.reduceEqDiff]
    exact q
  · obtain ⟨e3, h⟩ := ifP h
    have me3 := e3
    try simp (implicitDefEqProofs := false) only [go_sem, Nat.reduceEqDiff, Nat.reduceAdd, Nat.reduceMul, Nat.reduceSub, Nat.reduceLeDiff, Int.reduceLE, Int.reduceLT, Int.reduceEq, ↓reduceIte, reduceCtorEq, Nat.beq_eq_true_eq, Nat.reduceBEq, Nat.reduceEqDiff] at me3
    have q := Blk.run h
    try simp (implicitDefEqProofs := false) only [go_sem] at q
    simp (implicitDefEqProofs := false) only [go_sem, d78_2, k78_3, k78_4, e1, e3, Nat.reduceEqDiff, Nat.reduceAdd, ↓reduceIte, reduceCtorEq, Nat.reduceEqDiff]
    exact q
theorem impl_rising_b4_of (x0 : (List Int)) (x3 : Int) (x4 : (List Int)) (x7 : Int) (x10 : (List Bool)) (x11 : Int) (x12 : Int) {r : (List Bool)} (h : (if decide (x12 < x3) then (if decide (0 < x7) then ((rdx x0 x12).bind fun v8 =>
    if decide (x11 < v8) then ((rdx x4 x12).bind fun v9 =>
     if decide (v9 = x7) then ((rdx x10 x12).bind fun _v10 =>
      impl_rising_b4 x0 x3 x4 (w64 (x7 - 1)) (x10.set x12.toNat true) v8 (w64 (x12 + 1)))
     else impl_rising_b4 x0 x3 x4 x7 x10 x11 (w64 (x12 + 1)))
    else impl_rising_b4 x0 x3 x4 x7 x10 x11 (w64 (x12 + 1)))
   else some x10)
  else some x10) = some r) : impl_rising_b4 x0 x3 x4 x7 x10 x11 x12 = some r := by
  refine Blk.of E11_inj ?_
  refine D_start (c' := d78_3) rfl ?_
  rcases ifB h with ⟨e1, h⟩ | ⟨e1, h⟩
  · rcases ifB h with ⟨e2, h⟩ | ⟨e2, h⟩
    · obtain ⟨v8, e3, h⟩ := bnd h
      rcases ifB h with ⟨e4, h⟩ | ⟨e4, h⟩
      · obtain ⟨v9, e5, h⟩ := bnd h
        rcases ifB h with ⟨e6, h⟩ | ⟨e6, h⟩
        · obtain ⟨v10, e7, h⟩ := bnd h
          have q := Blk.run h
          try simp (implicitDefEqProofs := false) only [go_sem] at q
          simp (implicitDefEqProofs := false) only [go_sem, d78_3, k78_4, e1, e2, rdp e3, rdm eI e3, e4, rdm eI e5, e6, rdm eB e7, Nat.reduceEqDiff, Nat.reduceAdd, Nat.reduceLeDiff, ↓reduceIte, reduceCtorEq, Nat.reduceEqDiff]
          exact q
        · have q := Blk.run h
          try simp (implicitDefEqProofs := false) only [go_sem] at q
          simp (implicitDefEqProofs := false) only [go_sem, d78_3, k78_4, e1, e2, rdp e3, rdm eI e3, e4, rdm eI e5, e6, Nat.reduceEqDiff, Nat.reduceAdd, Nat.reduceLeDiff, ↓reduceIte, reduceCtorEq, Nat.reduceEqDiff]
          exact q
      · have q := Blk.run h
        try simp (implicitDefEqProofs := false) only [go_sem] at q
        simp (implicitDefEqProofs := false) only [go_sem, d78_3, k78_4, e1, e2, rdp e3, rdm eI e3, e4, Nat.reduceEqDiff, Nat.reduceAdd, Nat.reduceLeDiff, ↓reduceIte, reduceCtorEq, Nat.reduceEqDiff]
        exact q
    · cases h
      simp (implicitDefEqProofs := false) only [go_sem, d78_3, k78_4, R78, E11, e1, e2, Nat.reduceEqDiff, Nat.reduceAdd, ↓reduceIte, reduceCtorEq, Nat.reduceEqDiff]
  · cases h
    simp (implicitDefEqProofs := false) only [go_sem, d78_3, k78_4, R78, E11, e1, Nat.reduceEqDiff, Nat.reduceAdd, ↓reduceIte, reduceCtorEq, Nat.reduceEqDiff]
theorem slices_Index_int_int_of (x0 : (List Int)) (x1 : Int) {r : Int} (h : (slices_Index_int_int_b1 x0 x1 (x0.length : Int) 0) = some r) : slices_Index_int_int x0 x1 = some r := by
  refine Fn.of L_eq E1_inj (fi := fi79) rfl rfl ?_
  simp only [fi79]
  have q := Blk.run h
  try simp (implicitDefEqProofs := false) only [go_sem] at q
  simp (implicitDefEqProofs := false) only [go_sem, b79, k79_1, Nat.reduceEqDiff, Nat.reduceAdd, ↓reduceIte, reduceCtorEq, Nat.reduceEqDiff]
  exact q
theorem slices_Index_int_int_b1_of (x0 : (List Int)) (x1 : Int) (x7 : Int) (x8 : Int) {r : Int} (h : (if decide (x8 < x7) then ((rdx x0 x8).bind fun v1 =>
   if decide (x1 = v1) then some x8
   else slices_Index_int_int_b1 x0 x1 x7 (w64 (x8 + 1)))
  else some (-1)) = some r) : slices_Index_int_int_b1 x0 x1 x7 x8 = some r := by
  refine Blk.of E1_inj ?_
  refine D_start (c' := d79_1) rfl ?_
  rcases ifB h with ⟨e1, h⟩ | ⟨e1, h⟩
  · obtain ⟨v1, e2, h⟩ := bnd h
    rcases ifB h with ⟨e3, h⟩ | ⟨e3, h⟩
    · cases h
      simp (implicitDefEqProofs := false) only [go_sem, d79_1, k79_1, R79, E1, e1, rdp e2, rdm eI e2, e3, Nat.reduceEqDiff, Nat.reduceAdd, Nat.reduceLeDiff, ↓reduceIte, reduceCtorEq, Nat.reduceEqDiff]
    · have q := Blk.run h
      try simp (implicitDefEqProofs := false) only [go_sem] at q
      simp (implicitDefEqProofs := false) only [go_sem, d79_1, k79_1, e1, rdp e2, rdm eI e2, e3, Nat.reduceEqDiff, Nat.reduceAdd, Nat.reduceLeDiff, ↓reduceIte, reduceCtorEq, Nat.reduceEqDiff]
      exact q
  · cases h
    simp (implicitDefEqProofs := false) only [go_sem, d79_1, k79_1, R79, E1, e1, Nat.reduceEqDiff, Nat.reduceAdd, ↓reduceIte, reduceCtorEq, Nat.reduceEqDiff]
theorem slices_Insert_int_int_of (x0 : (List Int)) (x1 : Int) (x2 : (List Int)) {r : (List Int)} (h : (if 0 ≤ x1 ∧ x1 ≤ (x0.length : Int) ∧ 0 < x2.length ∧ (x0.length + x2.length) * 8 ≤ 140737488355328 then some (x0.take x1.toNat ++ (x2 ++ x0.drop x1.toNat)) else none) = some r) : slices_Insert_int_int x0 x1 x2 = some r := by
  refine Fn.ofExt L_eq E10_inj rfl ?_
  obtain ⟨e1, h⟩ := ifP h
  cases h
  simp only [TB, ext, extIns, e1, E10, Nat.reduceEqDiff, reduceIte, if_true, intsOf_map, ob_some']
  simp
theorem impl_wayMore_of (x0 : (List Int)) (x1 : Int) {r : (List Int)} (h : (if apOk 8 ([] : (List Int)) x0 then (if apOk 8 x0 ([x1]) then some (x0 ++ ([x1]))
   else none)
  else none) = some r) : impl_wayMore x0 x1 = some r := by
  refine Fn.of L_eq E10_inj (fi := fi81) rfl rfl ?_
  simp only [fi81]
  obtain ⟨e1, h⟩ := ifP h
  have me1 := apL e1
  try simp (implicitDefEqProofs := false) only [go_sem] at me1
  obtain ⟨e2, h⟩ := ifP h
  have me2 := apL e2
  try simp (implicitDefEqProofs := false) only [go_sem, Nat.reduceAdd, Nat.reduceLeDiff] at me2
  cases h
  simp (implicitDefEqProofs := false) only [go_sem, b81, R81, E10, me1, me2, Nat.reduceEqDiff, Nat.reduceAdd, Nat.reduceLeDiff, ↓reduceIte, reduceCtorEq, Nat.reduceEqDiff]
end Go.Fw.Law
