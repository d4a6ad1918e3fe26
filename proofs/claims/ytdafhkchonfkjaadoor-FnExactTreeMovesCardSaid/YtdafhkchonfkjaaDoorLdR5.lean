/- What the functions come to. Conditions: none. -/
import Derived.Test.YtdafhkchonfkjaaDoorLdD
namespace Go.Fw.Law
open Go Go.Fw
theorem impl_propEdits_of (x0 : TTree) (x1 : TTree) (x2 : (List Int)) {r : (List TEdit)} (h : (impl_propEdits_b1 x2 [] 0 x0 x1) = some r) : impl_propEdits x0 x1 x2 = some r := by
  refine Fn.of L_eq E9_inj (fi := fi30) rfl rfl ?_
  simp only [fi30]
  have q := Blk.run h
  try simp (implicitDefEqProofs := false) only [go_sem] at q
  simp (implicitDefEqProofs := false) only [go_sem, b30, k30_1, Nat.reduceEqDiff, Nat.reduceAdd, ↓reduceIte, reduceCtorEq, Nat.reduceBEq, Nat.reduceEqDiff]
  exact q
theorem impl_propEdits_b1_of (x2 : (List Int)) (x7 : (List TEdit)) (x11 : Int) (y3 : TTree) (y4 : TTree) {r : (List TEdit)} (h : (if decide (x11 < 4) then ((slices_IndexFunc_impl_Prop_impl_Prop y3.Props x11).bind fun r1 =>
   (slices_IndexFunc_impl_Prop_impl_Prop_v y4.Props x11).bind fun r2 =>
   if decide (0 ≤ r1) then impl_propEdits_b2 x2 x7 r1 r2 x11 (decide (r2 < 0)) y3 y4 x11
   else impl_propEdits_b2 x2 x7 r1 r2 x11 false y3 y4 x11)
  else some x7) = some r) : impl_propEdits_b1 x2 x7 x11 y3 y4 = some r := by
  refine Blk.of E9_inj ?_
  refine D_start (c' := d30_1) rfl ?_
  rcases ifB h with ⟨e1, h⟩ | ⟨e1, h⟩
  · obtain ⟨r1, e2, h⟩ := bnd h
    obtain ⟨r2, e3, h⟩ := bnd h
    rcases ifB h with ⟨e4, h⟩ | ⟨e4, h⟩
    · have q := Blk.run h
      try simp (implicitDefEqProofs := false) only [go_sem] at q
      simp (implicitDefEqProofs := false) only [go_sem, d30_1, k30_1, k30_2, e1, slices_IndexFunc_impl_Prop_impl_Prop_run e2, slices_IndexFunc_impl_Prop_impl_Prop_v_run e3, e4, Nat.reduceEqDiff, Nat.reduceAdd, Nat.reduceLeDiff, ↓reduceIte, reduceCtorEq, Nat.reduceBEq, Nat.reduceEqDiff]
      exact q
    · have q := Blk.run h
      try simp (implicitDefEqProofs := false) only [go_sem] at q
      simp (implicitDefEqProofs := false) only [go_sem, d30_1, k30_1, k30_2, e1, slices_IndexFunc_impl_Prop_impl_Prop_run e2, slices_IndexFunc_impl_Prop_impl_Prop_v_run e3, e4, Nat.reduceEqDiff, Nat.reduceAdd, Nat.reduceLeDiff, ↓reduceIte, reduceCtorEq, Nat.reduceBEq, Nat.reduceEqDiff]
      exact q
  · cases h
    simp (implicitDefEqProofs := false) only [go_sem, d30_1, k30_1, k30_2, R30, E9, e1, Nat.reduceEqDiff, Nat.reduceAdd, ↓reduceIte, Nat.reduceEqDiff]
theorem impl_propEdits_b2_of (x2 : (List Int)) (x7 : (List TEdit)) (x9 : Int) (x10 : Int) (x11 : Int) (x22 : Bool) (y3 : TTree) (y4 : TTree) (y8 : Int) {r : (List TEdit)} (h : (if x22 then ((impl_wayCopy x2).bind fun r3 =>
   if apOk 160 x7 ([(⟨3, r3, y8, 0, (⟨0, 0, []⟩ : TValue), (⟨0, 0, [], [], []⟩ : TTree)⟩ : TEdit)]) then impl_propEdits_b1 x2 (x7 ++ ([(⟨3, r3, y8, 0, (⟨0, 0, []⟩ : TValue), (⟨0, 0, [], [], []⟩ : TTree)⟩ : TEdit)])) (w64 (x11 + 1)) y3 y4
   else none)
  else (if decide (0 ≤ x10) then (if decide (x9 < 0) then impl_propEdits_b3 x2 x7 x10 x11 true y3 y4 y8
    else ((rdx y3.Props x9).bind fun v4 =>
     (rdx y4.Props x10).bind fun v5 =>
     impl_propEdits_b3 x2 x7 x10 x11 (!(decide (v4.Val.Kind = v5.Val.Kind) && (decide (v4.Val.Num = v5.Val.Num) && (decide (v4.Val.Text = v5.Val.Text) && true)))) y3 y4 y8))
   else impl_propEdits_b3 x2 x7 x10 x11 false y3 y4 y8)) = some r) : impl_propEdits_b2 x2 x7 x9 x10 x11 x22 y3 y4 y8 = some r := by
  refine Blk.of E9_inj ?_
  refine D_start (c' := d30_2) rfl ?_
  rcases ifB h with ⟨e1, h⟩ | ⟨e1, h⟩
  · obtain ⟨r3, e2, h⟩ := bnd h
    obtain ⟨e3, h⟩ := ifP h
    have me3 := apL e3
    try simp (implicitDefEqProofs := false) only [go_sem, Nat.reduceAdd, Nat.reduceLeDiff] at me3
    have q := Blk.run h
    try simp (implicitDefEqProofs := false) only [go_sem] at q
    simp (implicitDefEqProofs := false) only [go_sem, d30_2, k30_1, k30_2, e1, impl_wayCopy_run e2, me3, Nat.reduceEqDiff, Nat.reduceAdd, Nat.reduceLeDiff, ↓reduceIte, Nat.reduceBEq, Nat.reduceEqDiff]
    exact q
  · rcases ifB h with ⟨e4, h⟩ | ⟨e4, h⟩
    · rcases ifB h with ⟨e5, h⟩ | ⟨e5, h⟩
      · have q := Blk.run h
        try simp (implicitDefEqProofs := false) only [go_sem] at q
        simp (implicitDefEqProofs := false) only [go_sem, d30_2, k30_1, k30_2, e1, e4, e5, Nat.reduceEqDiff, Nat.reduceAdd, ↓reduceIte, Nat.reduceBEq, Nat.reduceEqDiff]
        exact q
      · obtain ⟨v4, e6, h⟩ := bnd h
        obtain ⟨v5, e7, h⟩ := bnd h
        have q := Blk.run h
        try simp (implicitDefEqProofs := false) only [go_sem] at q
        simp (implicitDefEqProofs := false) only [go_sem, d30_2, k30_1, k30_2, e1, e5, rdp e6, rdm eTProp e6, rdp e7, rdm eTProp e7, Nat.reduceEqDiff, Nat.reduceAdd, Nat.reduceLeDiff, ↓reduceIte, reduceCtorEq, Nat.reduceBEq, Nat.reduceEqDiff]
        exact q
    · have q := Blk.run h
      try simp (implicitDefEqProofs := false) only [go_sem] at q
      simp (implicitDefEqProofs := false) only [go_sem, d30_2, k30_1, k30_2, e1, e4, Nat.reduceEqDiff, Nat.reduceAdd, ↓reduceIte, Nat.reduceBEq, Nat.reduceEqDiff]
      exact q
theorem impl_propEdits_b3_of (x2 : (List Int)) (x7 : (List TEdit)) (x10 : Int) (x11 : Int) (x36 : Bool) (y3 : TTree) (y4 : TTree) (y8 : Int) {r : (List TEdit)} (h : (if x36 then ((impl_wayCopy x2).bind fun r6 =>
   (rdx y4.Props x10).bind fun v7 =>
   if apOk 160 x7 ([(⟨2, r6, y8, 0, v7.Val, (⟨0, 0, [], [], []⟩ : TTree)⟩ : TEdit)]) then impl_propEdits_b1 x2 (x7 ++ ([(⟨2, r6, y8, 0, v7.Val, (⟨0, 0, [], [], []⟩ : TTree)⟩ : TEdit)])) (w64 (x11 + 1)) y3 y4
   else none)
  else impl_propEdits_b1 x2 x7 (w64 (x11 + 1)) y3 y4) = some r) : impl_propEdits_b3 x2 x7 x10 x11 x36 y3 y4 y8 = some r := by
  refine Blk.of E9_inj ?_
  refine D_start (c' := d30_3) rfl ?_
  rcases ifB h with ⟨e1, h⟩ | ⟨e1, h⟩
  · obtain ⟨r6, e2, h⟩ := bnd h
    obtain ⟨v7, e3, h⟩ := bnd h
    obtain ⟨e4, h⟩ := ifP h
    have me4 := apL e4
    try simp (implicitDefEqProofs := false) only [go_sem, Nat.reduceAdd, Nat.reduceLeDiff] at me4
    have q := Blk.run h
    try simp (implicitDefEqProofs := false) only [go_sem] at q
    simp (implicitDefEqProofs := false) only [go_sem, d30_3, k30_1, k30_2, e1, impl_wayCopy_run e2, rdp e3, rdm eTProp e3, me4, Nat.reduceEqDiff, Nat.reduceAdd, Nat.reduceLeDiff, ↓reduceIte, reduceCtorEq, Nat.reduceBEq, Nat.reduceEqDiff]
    exact q
  · have q := Blk.run h
    try simp (implicitDefEqProofs := false) only [go_sem] at q
    simp (implicitDefEqProofs := false) only [go_sem, d30_3, k30_1, k30_2, e1, Nat.reduceEqDiff, Nat.reduceAdd, ↓reduceIte, Nat.reduceBEq, Nat.reduceEqDiff]
    exact q
theorem slices_Delete_int_int_of (x0 : (List Int)) (x1 : Int) (x2 : Int) {r : (List Int)} (h : (if 0 ≤ x1 ∧ x1 < x2 ∧ x2 ≤ (x0.length : Int) then some (x0.take x1.toNat ++ x0.drop x2.toNat) else none) = some r) : slices_Delete_int_int x0 x1 x2 = some r := by
  refine Fn.ofExt L_eq E10_inj rfl ?_
  obtain ⟨e1, h⟩ := ifP h
  cases h
  simp only [TB, ext, extDel, e1, E10, Nat.reduceEqDiff, reduceIte, if_true, intsOf_map, ob_some']
  simp
theorem impl_rising_of (x0 : (List Int)) {r : (List Bool)} (h : (if (0 ≤ (x0.length : Int) ∧ (x0.length : Int) * 8 ≤ 281474976710656 ∧ (x0.length : Int) ≤ 9223372036854775807) then impl_rising_b1 x0 (x0.length : Int) (List.replicate (x0.length : Int).toNat 0) (w64 ((x0.length : Int) - 1))
  else none) = some r) : impl_rising x0 = some r := by
  refine Fn.of L_eq E11_inj (fi := fi32) rfl rfl ?_
  simp only [fi32]
  obtain ⟨e1, h⟩ := ifP h
  have me1 := e1
  try simp (implicitDefEqProofs := false) only [go_sem, Nat.reduceEqDiff, Nat.reduceAdd, Nat.reduceMul, Nat.reduceSub, Nat.reduceLeDiff, Int.reduceLE, Int.reduceLT, Int.reduceEq, ↓reduceIte, reduceCtorEq, Nat.beq_eq_true_eq, Nat.reduceBEq, Nat.reduceEqDiff] at me1
  have q := Blk.run h
  try simp (implicitDefEqProofs := false) only [go_sem] at q
  simp (implicitDefEqProofs := false) only [go_sem, b32, k32_1, k32_3, k32_4, e1, Nat.reduceEqDiff, Nat.reduceAdd, ↓reduceIte, reduceCtorEq, Nat.reduceEqDiff]
  exact q
theorem impl_rising_b1_of (x0 : (List Int)) (x3 : Int) (x4 : (List Int)) (x5 : Int) {r : (List Bool)} (h : (if decide (0 ≤ x5) then ((rdx x0 x5).bind fun v1 =>
   if decide (v1 < 0) then impl_rising_b1 x0 x3 x4 (w64 (x5 - 1))
   else ((rdx x4 x5).bind fun _v2 =>
    impl_rising_b2 x0 x3 (x4.set x5.toNat 1) x5 (w64 (x5 + 1))))
  else impl_rising_b3 x0 x3 x4 0 (x4.length : Int) 0) = some r) : impl_rising_b1 x0 x3 x4 x5 = some r := by
  refine Blk.of E11_inj ?_
  refine D_start (c' := d32_1) rfl ?_
  rcases ifB h with ⟨e1, h⟩ | ⟨e1, h⟩
  · obtain ⟨v1, e2, h⟩ := bnd h
    rcases ifB h with ⟨e3, h⟩ | ⟨e3, h⟩
    · have q := Blk.run h
      try simp (implicitDefEqProofs := false) only [go_sem] at q
      simp (implicitDefEqProofs := false) only [go_sem, d32_1, k32_1, k32_2, k32_3, k32_4, rdp e2, rdm eI e2, e3, Nat.reduceEqDiff, Nat.reduceAdd, Nat.reduceLeDiff, ↓reduceIte, reduceCtorEq, Nat.reduceEqDiff]
      exact q
    · obtain ⟨v2, e4, h⟩ := bnd h
      have q := Blk.run h
      try simp (implicitDefEqProofs := false) only [go_sem] at q
      simp (implicitDefEqProofs := false) only [go_sem, d32_1, k32_1, k32_2, k32_3, k32_4, rdp e2, rdm eI e2, e3, rdm eI e4, Nat.reduceEqDiff, Nat.reduceAdd, Nat.reduceLeDiff, ↓reduceIte, reduceCtorEq, Nat.reduceEqDiff]
      exact q
  · have q := Blk.run h
    try simp (implicitDefEqProofs := false) only [go_sem] at q
    simp (implicitDefEqProofs := false) only [go_sem, d32_1, k32_1, k32_2, k32_3, k32_4, e1, Nat.reduceEqDiff, Nat.reduceAdd, ↓reduceIte, reduceCtorEq, Nat.reduceBEq, Nat.reduceEqDiff]
    exact q
theorem impl_rising_b2_of (x0 : (List Int)) (x3 : Int) (x4 : (List Int)) (x5 : Int) (x6 : Int) {r : (List Bool)} (h : (if decide (x6 < x3) then ((rdx x0 x6).bind fun v3 =>
   (rdx x0 x5).bind fun v4 =>
   if decide (v4 < v3) then ((rdx x4 x6).bind fun v5 =>
    (rdx x4 x5).bind fun v6 =>
    if decide (v6 < (w64 (v5 + 1))) then impl_rising_b2 x0 x3 (x4.set x5.toNat (w64 (v5 + 1))) x5 (w64 (x6 + 1))
    else impl_rising_b2 x0 x3 x4 x5 (w64 (x6 + 1)))
   else impl_rising_b2 x0 x3 x4 x5 (w64 (x6 + 1)))
  else impl_rising_b1 x0 x3 x4 (w64 (x5 - 1))) = some r) : impl_rising_b2 x0 x3 x4 x5 x6 = some r := by
  refine Blk.of E11_inj ?_
  refine D_start (c' := d32_4) rfl ?_
  rcases ifB h with ⟨e1, h⟩ | ⟨e1, h⟩
  · obtain ⟨v3, e2, h⟩ := bnd h
    obtain ⟨v4, e3, h⟩ := bnd h
    rcases ifB h with ⟨e4, h⟩ | ⟨e4, h⟩
    · obtain ⟨v5, e5, h⟩ := bnd h
      obtain ⟨v6, e6, h⟩ := bnd h
      rcases ifB h with ⟨e7, h⟩ | ⟨e7, h⟩
      · have q := Blk.run h
        try simp (implicitDefEqProofs := false) only [go_sem] at q
        simp (implicitDefEqProofs := false) only [go_sem, d32_4, k32_1, k32_2, k32_3, k32_4, e1, rdp e2, rdm eI e2, rdp e3, rdm eI e3, e4, rdm eI e5, rdm eI e6, e7, Nat.reduceEqDiff, Nat.reduceAdd, Nat.reduceLeDiff, ↓reduceIte, reduceCtorEq, Nat.reduceEqDiff]
        exact q
      · have q := Blk.run h
        try simp (implicitDefEqProofs := false) only [go_sem] at q
        simp (implicitDefEqProofs := false) only [go_sem, d32_4, k32_1, k32_2, k32_3, k32_4, e1, rdp e2, rdm eI e2, rdp e3, rdm eI e3, e4, rdm eI e5, rdm eI e6, e7, Nat.reduceEqDiff, Nat.reduceAdd, Nat.reduceLeDiff, ↓reduceIte, reduceCtorEq, Nat.reduceEqDiff]
        exact q
    · have q := Blk.run h
      try simp (implicitDefEqProofs := false) only [go_sem] at q
      simp (implicitDefEqProofs := false) only [go_sem, d32_4, k32_1, k32_2, k32_3, k32_4, e1, rdp e2, rdm eI e2, rdp e3, rdm eI e3, e4, Nat.reduceEqDiff, Nat.reduceAdd, Nat.reduceLeDiff, ↓reduceIte, reduceCtorEq, Nat.reduceEqDiff]
      exact q
  · have q := Blk.run h
    try simp (implicitDefEqProofs := false) only [go_sem] at q
    simp (implicitDefEqProofs := false) only [go_sem, d32_4, k32_1, k32_2, k32_3, k32_4, e1, Nat.reduceEqDiff, Nat.reduceAdd, ↓reduceIte, reduceCtorEq, Nat.reduceEqDiff]
    exact q
theorem impl_rising_b3_of (x0 : (List Int)) (x3 : Int) (x4 : (List Int)) (x7 : Int) (x68 : Int) (x69 : Int) {r : (List Bool)} (h : (if decide (x69 < x68) then ((rdx x4 x69).bind fun v7 =>
   impl_rising_b3 x0 x3 x4 (max x7 v7) x68 (w64 (x69 + 1)))
  else (if (0 ≤ x3 ∧ x3 * 1 ≤ 281474976710656 ∧ x3 ≤ 9223372036854775807) then impl_rising_b4 x0 x3 x4 x7 (List.replicate x3.toNat false) (-1) 0
   else none)) = some r) : impl_rising_b3 x0 x3 x4 x7 x68 x69 = some r := by
  refine Blk.of E11_inj ?_
  refine D_start (c' := d32_2) rfl ?_
  rcases ifB h with ⟨e1, h⟩ | ⟨e1, h⟩
  · obtain ⟨v7, e2, h⟩ := bnd h
    have q := Blk.run h
    try simp (implicitDefEqProofs := false) only [go_sem] at q
    simp (implicitDefEqProofs := false) only [go_sem, d32_2, k32_3, k32_4, e1, rdp e2, rdm eI e2, Nat.reduceEqDiff, Nat.reduceAdd, Nat.reduceLeDiff, ↓reduceIte, reduceCtorEq, Nat.reduceBEq, Nat.reduceEqDiff]
    exact q
  · obtain ⟨e3, h⟩ := ifP h
    have me3 := e3
    try simp (implicitDefEqProofs := false) only [go_sem, Nat.reduceEqDiff, Nat.reduceAdd, Nat.reduceMul, Nat.reduceSub, Nat.reduceLeDiff, Int.reduceLE, Int.reduceLT, Int.reduceEq, ↓reduceIte, reduceCtorEq, Nat.beq_eq_true_eq, Nat.reduceBEq, Nat.reduceEqDiff] at me3
    have q := Blk.run h
    try simp (implicitDefEqProofs := false) only [go_sem] at q
    simp (implicitDefEqProofs := false) only [go_sem, d32_2, k32_3, k32_4, e1, e3, Nat.reduceEqDiff, Nat.reduceAdd, ↓reduceIte, reduceCtorEq, Nat.reduceEqDiff]
    exact q
theorem impl_rising_b4_of (x0 : (List Int)) (x3 : Int) (x4 : (List Int)) (x7 : Int) (x10 : (List Bool)) (x11 : Int) (x12 : Int) {r : (List Bool)} (h : (if decide (x12 < x3) then (if decide (0 < x7) then ((rdx x0 x12).bind fun v8 =>
    if decide (x11 < v8) then ((rdx x4 x12).bind fun v9 =>
     if decide (v9 = x7) then ((rdx x10 x12).bind fun _v10 =>
      impl_rising_b4 x0 x3 x4 (w64 (x7 - 1)) (x10.set x12.toNat true) v8 (w64 (x12 + 1)))
     else impl_rising_b4 x0 x3 x4 x7 x10 x11 (w64 (x12 + 1)))
    else impl_rising_b4 x0 x3 x4 x7 x10 x11 (w64 (x12 + 1)))
   else some x10)
  else some x10) = some r) : impl_rising_b4 x0 x3 x4 x7 x10 x11 x12 = some r := by
  refine Blk.of E11_inj ?_
  refine D_start (c' := d32_3) rfl ?_
  rcases ifB h with ⟨e1, h⟩ | ⟨e1, h⟩
  · rcases ifB h with ⟨e2, h⟩ | ⟨e2, h⟩
    · obtain ⟨v8, e3, h⟩ := bnd h
      rcases ifB h with ⟨e4, h⟩ | ⟨e4, h⟩
      · obtain ⟨v9, e5, h⟩ := bnd h
        rcases ifB h with ⟨e6, h⟩ | ⟨e6, h⟩
        · obtain ⟨v10, e7, h⟩ := bnd h
          have q := Blk.run h
          try simp (implicitDefEqProofs := false) only [go_sem] at q
          simp (implicitDefEqProofs := false) only [go_sem, d32_3, k32_4, e1, e2, rdp e3, rdm eI e3, e4, rdm eI e5, e6, rdm eB e7, Nat.reduceEqDiff, Nat.reduceAdd, Nat.reduceLeDiff, ↓reduceIte, reduceCtorEq, Nat.reduceEqDiff]
          exact q
        · have q := Blk.run h
          try simp (implicitDefEqProofs := false) only [go_sem] at q
          simp (implicitDefEqProofs := false) only [go_sem, d32_3, k32_4, e1, e2, rdp e3, rdm eI e3, e4, rdm eI e5, e6, Nat.reduceEqDiff, Nat.reduceAdd, Nat.reduceLeDiff, ↓reduceIte, reduceCtorEq, Nat.reduceEqDiff]
          exact q
      · have q := Blk.run h
        try simp (implicitDefEqProofs := false) only [go_sem] at q
        simp (implicitDefEqProofs := false) only [go_sem, d32_3, k32_4, e1, e2, rdp e3, rdm eI e3, e4, Nat.reduceEqDiff, Nat.reduceAdd, Nat.reduceLeDiff, ↓reduceIte, reduceCtorEq, Nat.reduceEqDiff]
        exact q
    · cases h
      simp (implicitDefEqProofs := false) only [go_sem, d32_3, k32_4, R32, E11, e1, e2, Nat.reduceEqDiff, Nat.reduceAdd, ↓reduceIte, reduceCtorEq, Nat.reduceEqDiff]
  · cases h
    simp (implicitDefEqProofs := false) only [go_sem, d32_3, k32_4, R32, E11, e1, Nat.reduceEqDiff, Nat.reduceAdd, ↓reduceIte, reduceCtorEq, Nat.reduceEqDiff]
theorem slices_Index_int_int_of (x0 : (List Int)) (x1 : Int) {r : Int} (h : (slices_Index_int_int_b1 x0 x1 (x0.length : Int) 0) = some r) : slices_Index_int_int x0 x1 = some r := by
  refine Fn.of L_eq E1_inj (fi := fi33) rfl rfl ?_
  simp only [fi33]
  have q := Blk.run h
  try simp (implicitDefEqProofs := false) only [go_sem] at q
  simp (implicitDefEqProofs := false) only [go_sem, b33, k33_1, Nat.reduceEqDiff, Nat.reduceAdd, ↓reduceIte, reduceCtorEq, Nat.reduceEqDiff]
  exact q
theorem slices_Index_int_int_b1_of (x0 : (List Int)) (x1 : Int) (x7 : Int) (x8 : Int) {r : Int} (h : (if decide (x8 < x7) then ((rdx x0 x8).bind fun v1 =>
   if decide (x1 = v1) then some x8
   else slices_Index_int_int_b1 x0 x1 x7 (w64 (x8 + 1)))
  else some (-1)) = some r) : slices_Index_int_int_b1 x0 x1 x7 x8 = some r := by
  refine Blk.of E1_inj ?_
  refine D_start (c' := d33_1) rfl ?_
  rcases ifB h with ⟨e1, h⟩ | ⟨e1, h⟩
  · obtain ⟨v1, e2, h⟩ := bnd h
    rcases ifB h with ⟨e3, h⟩ | ⟨e3, h⟩
    · cases h
      simp (implicitDefEqProofs := false) only [go_sem, d33_1, k33_1, R33, E1, e1, rdp e2, rdm eI e2, e3, Nat.reduceEqDiff, Nat.reduceAdd, Nat.reduceLeDiff, ↓reduceIte, reduceCtorEq, Nat.reduceEqDiff]
    · have q := Blk.run h
      try simp (implicitDefEqProofs := false) only [go_sem] at q
      simp (implicitDefEqProofs := false) only [go_sem, d33_1, k33_1, e1, rdp e2, rdm eI e2, e3, Nat.reduceEqDiff, Nat.reduceAdd, Nat.reduceLeDiff, ↓reduceIte, reduceCtorEq, Nat.reduceEqDiff]
      exact q
  · cases h
    simp (implicitDefEqProofs := false) only [go_sem, d33_1, k33_1, R33, E1, e1, Nat.reduceEqDiff, Nat.reduceAdd, ↓reduceIte, reduceCtorEq, Nat.reduceEqDiff]
theorem slices_Insert_int_int_of (x0 : (List Int)) (x1 : Int) (x2 : (List Int)) {r : (List Int)} (h : (if 0 ≤ x1 ∧ x1 ≤ (x0.length : Int) ∧ 0 < x2.length ∧ (x0.length + x2.length) * 8 ≤ 140737488355328 then some (x0.take x1.toNat ++ (x2 ++ x0.drop x1.toNat)) else none) = some r) : slices_Insert_int_int x0 x1 x2 = some r := by
  refine Fn.ofExt L_eq E10_inj rfl ?_
  obtain ⟨e1, h⟩ := ifP h
  cases h
  simp only [TB, ext, extIns, e1, E10, Nat.reduceEqDiff, reduceIte, if_true, intsOf_map, ob_some']
  simp
theorem impl_wayMore_of (x0 : (List Int)) (x1 : Int) {r : (List Int)} (h : (if apOk 8 ([] : (List Int)) x0 then (if apOk 8 x0 ([x1]) then some (x0 ++ ([x1]))
   else none)
  else none) = some r) : impl_wayMore x0 x1 = some r := by
  refine Fn.of L_eq E10_inj (fi := fi35) rfl rfl ?_
  simp only [fi35]
  obtain ⟨e1, h⟩ := ifP h
  have me1 := apL e1
  try simp (implicitDefEqProofs := false) only [go_sem] at me1
  obtain ⟨e2, h⟩ := ifP h
  have me2 := apL e2
  try simp (implicitDefEqProofs := false) only [go_sem, Nat.reduceAdd, Nat.reduceLeDiff] at me2
  cases h
  simp (implicitDefEqProofs := false) only [go_sem, b35, R35, E10, me1, me2, Nat.reduceEqDiff, Nat.reduceAdd, Nat.reduceLeDiff, ↓reduceIte, reduceCtorEq, Nat.reduceEqDiff]
end Go.Fw.Law
