/- What the functions come to. Conditions: none. -/
import Derived.Test.YtfemaegbcfaolaaGreatDoorLeD
namespace Go.Fw.Law
open Go Go.Fw
theorem spec_kidEdits_of (x0 : (List TTree)) (x1 : (List TTree)) (x2 : (List Int)) {r : (List TEdit)} (h : ((spec_partners x0 x1).bind fun r1 =>
  spec_kidEdits_b1 x0 x1 x2 [] r1 [] 0) = some r) : spec_kidEdits x0 x1 x2 = some r := by
  refine Fn.of L_eq E9_inj (fi := fi91) rfl rfl ?_
  simp only [fi91]
  obtain ⟨r1, e1, h⟩ := bnd h
  have q := Blk.run h
  try simp (implicitDefEqProofs := false) only [go_sem] at q
  simp (implicitDefEqProofs := false) only [go_sem, b91, k91_1, k91_2, k91_3, spec_partners_run e1, Nat.reduceEqDiff, Nat.reduceAdd, ↓reduceIte, reduceCtorEq, Nat.reduceEqDiff]
  exact q
theorem spec_kidEdits_b1_of (x0 : (List TTree)) (x1 : (List TTree)) (x2 : (List Int)) (x7 : (List TEdit)) (x8 : (List Int)) (x9 : (List Int)) (x10 : Int) {r : (List TEdit)} (h : (if decide (x10 < (x0.length : Int)) then ((spec_indexOf x8 x10).bind fun r2 =>
   if decide (0 ≤ r2) then (if apOk 8 x9 ([x10]) then spec_kidEdits_b1 x0 x1 x2 x7 x8 (x9 ++ ([x10])) (w64 (x10 + 1))
    else none)
   else spec_kidEdits_b1 x0 x1 x2 x7 x8 x9 (w64 (x10 + 1)))
  else spec_kidEdits_b2 x1 x2 x7 x8 x9 (w64 ((x0.length : Int) - 1))) = some r) : spec_kidEdits_b1 x0 x1 x2 x7 x8 x9 x10 = some r := by
  refine Blk.of E9_inj ?_
  refine D_start (c' := d91_1) rfl ?_
  rcases ifB h with ⟨e1, h⟩ | ⟨e1, h⟩
  · obtain ⟨r2, e2, h⟩ := bnd h
    rcases ifB h with ⟨e3, h⟩ | ⟨e3, h⟩
    · obtain ⟨e4, h⟩ := ifP h
      have me4 := apL e4
      try simp (implicitDefEqProofs := false) only [go_sem, Nat.reduceAdd, Nat.reduceLeDiff] at me4
      have q := Blk.run h
      try simp (implicitDefEqProofs := false) only [go_sem] at q
      simp (implicitDefEqProofs := false) only [go_sem, d91_1, k91_1, k91_2, k91_3, e1, spec_indexOf_run e2, e3, me4, Nat.reduceEqDiff, Nat.reduceAdd, Nat.reduceLeDiff, ↓reduceIte, reduceCtorEq, Nat.reduceEqDiff]
      exact q
    · have q := Blk.run h
      try simp (implicitDefEqProofs := false) only [go_sem] at q
      simp (implicitDefEqProofs := false) only [go_sem, d91_1, k91_1, k91_2, k91_3, e1, spec_indexOf_run e2, e3, Nat.reduceEqDiff, Nat.reduceAdd, ↓reduceIte, reduceCtorEq, Nat.reduceEqDiff]
      exact q
  · have q := Blk.run h
    try simp (implicitDefEqProofs := false) only [go_sem] at q
    simp (implicitDefEqProofs := false) only [go_sem, d91_1, k91_1, k91_2, k91_3, e1, Nat.reduceEqDiff, Nat.reduceAdd, ↓reduceIte, reduceCtorEq, Nat.reduceEqDiff]
    exact q
theorem spec_kidEdits_b2_of (x1 : (List TTree)) (x2 : (List Int)) (x7 : (List TEdit)) (x8 : (List Int)) (x9 : (List Int)) (x11 : Int) {r : (List TEdit)} (h : (if decide (0 ≤ x11) then ((spec_indexOf x8 x11).bind fun r3 =>
   if decide (r3 < 0) then (if apOk 8 ([] : (List Int)) x2 then (if apOk 160 x7 ([(⟨4, x2, x11, 0, (⟨0, 0, []⟩ : TValue), (⟨0, 0, [], [], []⟩ : TTree)⟩ : TEdit)]) then spec_kidEdits_b2 x1 x2 (x7 ++ ([(⟨4, x2, x11, 0, (⟨0, 0, []⟩ : TValue), (⟨0, 0, [], [], []⟩ : TTree)⟩ : TEdit)])) x8 x9 (w64 (x11 - 1))
     else none)
    else none)
   else spec_kidEdits_b2 x1 x2 x7 x8 x9 (w64 (x11 - 1)))
  else ((spec_longestRise x8).bind fun r4 =>
   spec_kidEdits_b3 x1 x2 x7 x8 x9 r4 (x9.length : Int) (w64 ((x1.length : Int) - 1)))) = some r) : spec_kidEdits_b2 x1 x2 x7 x8 x9 x11 = some r := by
  refine Blk.of E9_inj ?_
  refine D_start (c' := d91_2) rfl ?_
  rcases ifB h with ⟨e1, h⟩ | ⟨e1, h⟩
  · obtain ⟨r3, e2, h⟩ := bnd h
    rcases ifB h with ⟨e3, h⟩ | ⟨e3, h⟩
    · obtain ⟨e4, h⟩ := ifP h
      have me4 := apL e4
      try simp (implicitDefEqProofs := false) only [go_sem] at me4
      obtain ⟨e5, h⟩ := ifP h
      have me5 := apL e5
      try simp (implicitDefEqProofs := false) only [go_sem, Nat.reduceAdd, Nat.reduceLeDiff] at me5
      have q := Blk.run h
      try simp (implicitDefEqProofs := false) only [go_sem] at q
      simp (implicitDefEqProofs := false) only [go_sem, d91_2, k91_2, k91_3, e1, spec_indexOf_run e2, e3, me4, me5, Nat.reduceEqDiff, Nat.reduceAdd, Nat.reduceLeDiff, ↓reduceIte, reduceCtorEq, Nat.reduceEqDiff]
      exact q
    · have q := Blk.run h
      try simp (implicitDefEqProofs := false) only [go_sem] at q
      simp (implicitDefEqProofs := false) only [go_sem, d91_2, k91_2, k91_3, e1, spec_indexOf_run e2, e3, Nat.reduceEqDiff, Nat.reduceAdd, ↓reduceIte, Nat.reduceEqDiff]
      exact q
  · obtain ⟨r4, e6, h⟩ := bnd h
    have q := Blk.run h
    try simp (implicitDefEqProofs := false) only [go_sem] at q
    simp (implicitDefEqProofs := false) only [go_sem, d91_2, k91_2, k91_3, e1, spec_longestRise_run e6, Nat.reduceEqDiff, Nat.reduceAdd, ↓reduceIte, reduceCtorEq, Nat.reduceEqDiff]
    exact q
theorem spec_kidEdits_b3_of (x1 : (List TTree)) (x2 : (List Int)) (x7 : (List TEdit)) (x8 : (List Int)) (x9 : (List Int)) (x12 : (List Bool)) (x13 : Int) (x14 : Int) {r : (List TEdit)} (h : (if decide (0 ≤ x14) then ((rdx x8 x14).bind fun v5 =>
   if decide (v5 < 0) then (if apOk 8 ([] : (List Int)) x2 then ((rdx x1 x14).bind fun v6 =>
     (spec_copyTree v6).bind fun r7 =>
     if apOk 160 x7 ([(⟨5, x2, x13, 0, (⟨0, 0, []⟩ : TValue), r7⟩ : TEdit)]) then ((spec_with x9 x13 (-1)).bind fun r8 =>
      spec_kidEdits_b3 x1 x2 (x7 ++ ([(⟨5, x2, x13, 0, (⟨0, 0, []⟩ : TValue), r7⟩ : TEdit)])) x8 r8 x12 x13 (w64 (x14 - 1)))
     else none)
    else none)
   else ((rdx x12 x14).bind fun v9 =>
    if v9 then ((spec_indexOf_v x9 v5).bind fun r10 =>
     spec_kidEdits_b3 x1 x2 x7 x8 x9 x12 r10 (w64 (x14 - 1)))
    else ((spec_indexOf_v x9 v5).bind fun r11 =>
     (spec_without x9 r11).bind fun r12 =>
     if decide (r11 < x13) then spec_kidEdits_b4 x1 x2 x7 x8 r12 x12 (w64 (x13 - 1)) x14 r11
     else spec_kidEdits_b4 x1 x2 x7 x8 r12 x12 x13 x14 r11)))
  else some x7) = some r) : spec_kidEdits_b3 x1 x2 x7 x8 x9 x12 x13 x14 = some r := by
  refine Blk.of E9_inj ?_
  refine D_start (c' := d91_3) rfl ?_
  rcases ifB h with ⟨e1, h⟩ | ⟨e1, h⟩
  · obtain ⟨v5, e2, h⟩ := bnd h
    rcases ifB h with ⟨e3, h⟩ | ⟨e3, h⟩
    · obtain ⟨e4, h⟩ := ifP h
      have me4 := apL e4
      try simp (implicitDefEqProofs := false) only [go_sem] at me4
      obtain ⟨v6, e5, h⟩ := bnd h
      obtain ⟨r7, e6, h⟩ := bnd h
      obtain ⟨e7, h⟩ := ifP h
      have me7 := apL e7
      try simp (implicitDefEqProofs := false) only [go_sem, Nat.reduceAdd, Nat.reduceLeDiff] at me7
      obtain ⟨r8, e8, h⟩ := bnd h
      have q := Blk.run h
      try simp (implicitDefEqProofs := false) only [go_sem] at q
      simp (implicitDefEqProofs := false) only [go_sem, d91_3, k91_3, k91_4, rdp e2, rdm eI e2, e3, me4, rdm (eTTree .sh) e5, spec_copyTree_run e6, me7, spec_with_run e8, Nat.reduceEqDiff, Nat.reduceAdd, Nat.reduceLeDiff, ↓reduceIte, reduceCtorEq, Nat.reduceEqDiff]
      exact q
    · obtain ⟨v9, e9, h⟩ := bnd h
      rcases ifB h with ⟨e10, h⟩ | ⟨e10, h⟩
      · obtain ⟨r10, e11, h⟩ := bnd h
        have q := Blk.run h
        try simp (implicitDefEqProofs := false) only [go_sem] at q
        simp (implicitDefEqProofs := false) only [go_sem, d91_3, k91_3, k91_4, rdp e2, rdm eI e2, e3, rdm eB e9, e10, spec_indexOf_v_run e11, Nat.reduceEqDiff, Nat.reduceAdd, Nat.reduceLeDiff, ↓reduceIte, reduceCtorEq, Nat.reduceEqDiff]
        exact q
      · obtain ⟨r11, e12, h⟩ := bnd h
        obtain ⟨r12, e13, h⟩ := bnd h
        rcases ifB h with ⟨e14, h⟩ | ⟨e14, h⟩
        · have q := Blk.run h
          try simp (implicitDefEqProofs := false) only [go_sem] at q
          simp (implicitDefEqProofs := false) only [go_sem, d91_3, k91_3, k91_4, rdp e2, rdm eI e2, e3, rdm eB e9, e10, spec_indexOf_v_run e12, spec_without_run e13, e14, Nat.reduceEqDiff, Nat.reduceAdd, Nat.reduceLeDiff, ↓reduceIte, reduceCtorEq, Nat.reduceEqDiff]
          exact q
        · have q := Blk.run h
          try simp (implicitDefEqProofs := false) only [go_sem] at q
          simp (implicitDefEqProofs := false) only [go_sem, d91_3, k91_3, k91_4, rdp e2, rdm eI e2, e3, rdm eB e9, e10, spec_indexOf_v_run e12, spec_without_run e13, e14, Nat.reduceEqDiff, Nat.reduceAdd, Nat.reduceLeDiff, ↓reduceIte, reduceCtorEq, Nat.reduceEqDiff]
          exact q
  · cases h
    simp (implicitDefEqProofs := false) only [go_sem, d91_3, k91_3, k91_4, R91, E9, e1, Nat.reduceEqDiff, Nat.reduceAdd, ↓reduceIte, Nat.reduceEqDiff]
theorem spec_kidEdits_b4_of (x1 : (List TTree)) (x2 : (List Int)) (x7 : (List TEdit)) (x8 : (List Int)) (x9 : (List Int)) (x12 : (List Bool)) (x13 : Int) (x14 : Int) (x15 : Int) {r : (List TEdit)} (h : (if apOk 8 ([] : (List Int)) x2 then (if apOk 160 x7 ([(⟨6, x2, x15, x13, (⟨0, 0, []⟩ : TValue), (⟨0, 0, [], [], []⟩ : TTree)⟩ : TEdit)]) then ((rdx x8 x14).bind fun v13 =>
    (spec_with x9 x13 v13).bind fun r14 =>
    spec_kidEdits_b3 x1 x2 (x7 ++ ([(⟨6, x2, x15, x13, (⟨0, 0, []⟩ : TValue), (⟨0, 0, [], [], []⟩ : TTree)⟩ : TEdit)])) x8 r14 x12 x13 (w64 (x14 - 1)))
   else none)
  else none) = some r) : spec_kidEdits_b4 x1 x2 x7 x8 x9 x12 x13 x14 x15 = some r := by
  refine Blk.of E9_inj ?_
  refine D_start (c' := d91_4) rfl ?_
  obtain ⟨e1, h⟩ := ifP h
  have me1 := apL e1
  try simp (implicitDefEqProofs := false) only [go_sem] at me1
  obtain ⟨e2, h⟩ := ifP h
  have me2 := apL e2
  try simp (implicitDefEqProofs := false) only [go_sem, Nat.reduceAdd, Nat.reduceLeDiff] at me2
  obtain ⟨v13, e3, h⟩ := bnd h
  obtain ⟨r14, e4, h⟩ := bnd h
  have q := Blk.run h
  try simp (implicitDefEqProofs := false) only [go_sem] at q
  simp (implicitDefEqProofs := false) only [go_sem, d91_4, k91_3, k91_4, me1, me2, rdp e3, rdm eI e3, spec_with_run e4, Nat.reduceEqDiff, Nat.reduceAdd, Nat.reduceLeDiff, ↓reduceIte, reduceCtorEq, Nat.reduceEqDiff]
  exact q
theorem spec_partEdits_of (x0 : TTree) (x1 : TTree) (x2 : (List Int)) {r : (List TEdit)} (h : (if decide (x1.Tag = (-1)) then (if decide (x0.Text = x1.Text) then some []
   else (if apOk 8 ([] : (List Int)) x2 then some ([(⟨1, x2, 0, 0, (⟨2, 0, x1.Text⟩ : TValue), (⟨0, 0, [], [], []⟩ : TTree)⟩ : TEdit)])
    else none))
  else ((spec_propEdits x0.Props x1.Props x2).bind fun r1 =>
   (spec_kidEdits x0.Kids x1.Kids x2).bind fun r2 =>
   if apOk 160 r1 r2 then ((spec_partners x0.Kids x1.Kids).bind fun r3 =>
    spec_partEdits_b1 x2 (r1 ++ r2) r3 0 x0 x1)
   else none)) = some r) : spec_partEdits x0 x1 x2 = some r := by
  refine Fn.of L_eq E9_inj (fi := fi55) rfl rfl ?_
  simp only [fi55]
  rcases ifB h with ⟨e1, h⟩ | ⟨e1, h⟩
  · rcases ifB h with ⟨e2, h⟩ | ⟨e2, h⟩
    · cases h
      simp (implicitDefEqProofs := false) only [go_sem, b55, k55_1, R55, E9, e1, e2, Nat.reduceEqDiff, Nat.reduceAdd, Nat.reduceLeDiff, ↓reduceIte, reduceCtorEq, Nat.reduceEqDiff]
    · obtain ⟨e3, h⟩ := ifP h
      have me3 := apL e3
      try simp (implicitDefEqProofs := false) only [go_sem] at me3
      cases h
      simp (implicitDefEqProofs := false) only [go_sem, b55, k55_1, R55, E9, e1, e2, me3, Nat.reduceEqDiff, Nat.reduceAdd, Nat.reduceLeDiff, ↓reduceIte, reduceCtorEq, Nat.reduceEqDiff]
  · obtain ⟨r1, e4, h⟩ := bnd h
    obtain ⟨r2, e5, h⟩ := bnd h
    obtain ⟨e6, h⟩ := ifP h
    have me6 := apL e6
    try simp (implicitDefEqProofs := false) only [go_sem, Nat.reduceEqDiff, Nat.reduceAdd, Nat.reduceMul, Nat.reduceSub, Nat.reduceLeDiff, Int.reduceLE, Int.reduceLT, Int.reduceEq, ↓reduceIte, reduceCtorEq, Nat.beq_eq_true_eq, Nat.reduceBEq, Nat.reduceEqDiff] at me6
    obtain ⟨r3, e7, h⟩ := bnd h
    have q := Blk.run h
    try simp (implicitDefEqProofs := false) only [go_sem] at q
    simp (implicitDefEqProofs := false) only [go_sem, b55, k55_1, e1, spec_propEdits_run e4, spec_kidEdits_run e5, me6, spec_partners_run e7, Nat.reduceEqDiff, Nat.reduceAdd, Nat.reduceLeDiff, ↓reduceIte, reduceCtorEq, Nat.reduceBEq, Nat.reduceEqDiff]
    exact q
theorem spec_partEdits_b1_of (x2 : (List Int)) (x7 : (List TEdit)) (x8 : (List Int)) (x9 : Int) (y3 : TTree) (y4 : TTree) {r : (List TEdit)} (h : (if decide (x9 < (y4.Kids.length : Int)) then ((rdx x8 x9).bind fun v4 =>
   if decide (0 ≤ v4) then ((rdx y3.Kids v4).bind fun v5 =>
    (rdx y4.Kids x9).bind fun v6 =>
    if apOk 8 ([] : (List Int)) x2 then (if apOk 8 x2 ([x9]) then ((spec_partEdits v5 v6 (x2 ++ ([x9]))).bind fun r7 =>
      if apOk 160 x7 r7 then spec_partEdits_b1 x2 (x7 ++ r7) x8 (w64 (x9 + 1)) y3 y4
      else none)
     else none)
    else none)
   else spec_partEdits_b1 x2 x7 x8 (w64 (x9 + 1)) y3 y4)
  else some x7) = some r) : spec_partEdits_b1 x2 x7 x8 x9 y3 y4 = some r := by
  refine Blk.of E9_inj ?_
  refine D_start (c' := d55_1) rfl ?_
  rcases ifB h with ⟨e1, h⟩ | ⟨e1, h⟩
  · obtain ⟨v4, e2, h⟩ := bnd h
    rcases ifB h with ⟨e3, h⟩ | ⟨e3, h⟩
    · obtain ⟨v5, e4, h⟩ := bnd h
      obtain ⟨v6, e5, h⟩ := bnd h
      obtain ⟨e6, h⟩ := ifP h
      have me6 := apL e6
      try simp (implicitDefEqProofs := false) only [go_sem] at me6
      obtain ⟨e7, h⟩ := ifP h
      have me7 := apL e7
      try simp (implicitDefEqProofs := false) only [go_sem, Nat.reduceAdd, Nat.reduceLeDiff] at me7
      obtain ⟨r7, e8, h⟩ := bnd h
      have me8 := spec_partEdits_run e8
      try simp (implicitDefEqProofs := false) only [go_sem] at me8
      obtain ⟨e9, h⟩ := ifP h
      have me9 := apL e9
      try simp (implicitDefEqProofs := false) only [go_sem, Nat.reduceEqDiff, Nat.reduceAdd, Nat.reduceMul, Nat.reduceSub, Nat.reduceLeDiff, Int.reduceLE, Int.reduceLT, Int.reduceEq, ↓reduceIte, reduceCtorEq, Nat.beq_eq_true_eq, Nat.reduceBEq, Nat.reduceEqDiff] at me9
      have q := Blk.run h
      try simp (implicitDefEqProofs := false) only [go_sem] at q
      simp (implicitDefEqProofs := false) only [go_sem, d55_1, k55_1, e1, rdp e2, rdm eI e2, rdp e4, rdm (eTTree .sh) e4, rdm (eTTree .sh) e5, me6, me7, me8, me9, Nat.reduceEqDiff, Nat.reduceAdd, Nat.reduceLeDiff, ↓reduceIte, reduceCtorEq, Nat.reduceBEq, Nat.reduceEqDiff]
      exact q
    · have q := Blk.run h
      try simp (implicitDefEqProofs := false) only [go_sem] at q
      simp (implicitDefEqProofs := false) only [go_sem, d55_1, k55_1, e1, rdp e2, rdm eI e2, e3, Nat.reduceEqDiff, Nat.reduceAdd, Nat.reduceLeDiff, ↓reduceIte, reduceCtorEq, Nat.reduceBEq, Nat.reduceEqDiff]
      exact q
  · cases h
    simp (implicitDefEqProofs := false) only [go_sem, d55_1, k55_1, R55, E9, e1, Nat.reduceEqDiff, Nat.reduceAdd, Nat.reduceLeDiff, ↓reduceIte, reduceCtorEq, Nat.reduceEqDiff]
theorem spec_treeEdits_of (x0 : TTree) (x1 : TTree) {r : (List TEdit)} (h : (if !(decide (x0.Tag = x1.Tag)) then ((spec_copyTree x1).bind fun r1 =>
   some ([(⟨0, [], 0, 0, (⟨0, 0, []⟩ : TValue), r1⟩ : TEdit)]))
  else (if !(decide (x0.Key = x1.Key)) then ((spec_copyTree x1).bind fun r2 =>
    some ([(⟨0, [], 0, 0, (⟨0, 0, []⟩ : TValue), r2⟩ : TEdit)]))
   else ((spec_partEdits x0 x1 []).bind fun r3 =>
    some r3))) = some r) : spec_treeEdits x0 x1 = some r := by
  refine Fn.of L_eq E9_inj (fi := fi24) rfl rfl ?_
  simp only [fi24]
  rcases ifB h with ⟨e1, h⟩ | ⟨e1, h⟩
  · obtain ⟨r1, e2, h⟩ := bnd h
    cases h
    simp (implicitDefEqProofs := false) only [go_sem, b24, R24, E9, e1, spec_copyTree_run e2, Nat.reduceEqDiff, Nat.reduceAdd, Nat.reduceLeDiff, ↓reduceIte, reduceCtorEq, Nat.reduceEqDiff]
  · rcases ifB h with ⟨e3, h⟩ | ⟨e3, h⟩
    · obtain ⟨r2, e4, h⟩ := bnd h
      cases h
      simp (implicitDefEqProofs := false) only [go_sem, b24, R24, E9, e1, e3, spec_copyTree_run e4, Nat.reduceEqDiff, Nat.reduceAdd, Nat.reduceLeDiff, ↓reduceIte, reduceCtorEq, Nat.reduceEqDiff]
    · obtain ⟨r3, e5, h⟩ := bnd h
      have me5 := spec_partEdits_run e5
      try simp (implicitDefEqProofs := false) only [go_sem] at me5
      cases h
      simp (implicitDefEqProofs := false) only [go_sem, b24, R24, E9, e1, e3, me5, Nat.reduceEqDiff, Nat.reduceAdd, Nat.reduceLeDiff, ↓reduceIte, reduceCtorEq, Nat.reduceEqDiff]
theorem spec_TreeEdits_of (x0 : TTree) (x1 : TTree) {r : (List TEdit)} (h : ((spec_validTree x0).bind fun r1 =>
  if !r1 then some []
  else ((spec_validTree x1).bind fun r2 =>
   if !r2 then some []
   else ((spec_treeEdits x0 x1).bind fun r3 =>
    some r3))) = some r) : spec_TreeEdits x0 x1 = some r := by
  refine Fn.of L_eq E9_inj (fi := fi13) rfl rfl ?_
  simp only [fi13]
  obtain ⟨r1, e1, h⟩ := bnd h
  rcases ifB h with ⟨e2, h⟩ | ⟨e2, h⟩
  · cases h
    simp (implicitDefEqProofs := false) only [go_sem, b13, R13, E9, spec_validTree_run e1, e2, Nat.reduceEqDiff, Nat.reduceAdd, Nat.reduceLeDiff, ↓reduceIte, reduceCtorEq, Nat.reduceEqDiff]
  · obtain ⟨r2, e3, h⟩ := bnd h
    rcases ifB h with ⟨e4, h⟩ | ⟨e4, h⟩
    · cases h
      simp (implicitDefEqProofs := false) only [go_sem, b13, R13, E9, spec_validTree_run e1, e2, spec_validTree_run e3, e4, Nat.reduceEqDiff, Nat.reduceAdd, Nat.reduceLeDiff, ↓reduceIte, reduceCtorEq, Nat.reduceEqDiff]
    · obtain ⟨r3, e5, h⟩ := bnd h
      cases h
      simp (implicitDefEqProofs := false) only [go_sem, b13, R13, E9, spec_validTree_run e1, e2, spec_validTree_run e3, e4, spec_treeEdits_run e5, Nat.reduceEqDiff, Nat.reduceAdd, Nat.reduceLeDiff, ↓reduceIte, reduceCtorEq, Nat.reduceEqDiff]
theorem impl_word_of (x0 : Str) {r : Bool} (h : (impl_word_b1 x0 0) = some r) : impl_word x0 = some r := by
  refine Fn.of L_eq E7_inj (fi := fi99) rfl rfl ?_
  simp only [fi99]
  have q := Blk.run h
  try simp (implicitDefEqProofs := false) only [go_sem] at q
  simp (implicitDefEqProofs := false) only [go_sem, b99, k99_1, Nat.reduceEqDiff, Nat.reduceAdd, ↓reduceIte, reduceCtorEq, Nat.reduceEqDiff]
  exact q
theorem impl_word_b1_of (x0 : Str) (x3 : Int) {r : Bool} (h : (if decide (x3 < (x0.length : Int)) then ((rdx x0 x3).bind fun v1 =>
   if decide (97 ≤ (v1.toNat : Int)) then (if decide ((v1.toNat : Int) ≤ 122) then impl_word_b2 x0 x3
    else (if decide (48 ≤ (v1.toNat : Int)) then (if decide ((v1.toNat : Int) ≤ 57) then impl_word_b2 x0 x3
      else (if !(decide ((v1.toNat : Int) = 32)) then some false
       else impl_word_b2 x0 x3))
     else (if !(decide ((v1.toNat : Int) = 32)) then some false
      else impl_word_b2 x0 x3)))
   else (if decide (48 ≤ (v1.toNat : Int)) then (if decide ((v1.toNat : Int) ≤ 57) then impl_word_b2 x0 x3
     else (if !(decide ((v1.toNat : Int) = 32)) then some false
      else impl_word_b2 x0 x3))
    else (if !(decide ((v1.toNat : Int) = 32)) then some false
     else impl_word_b2 x0 x3)))
  else some (decide ((x0.length : Int) ≤ 12))) = some r) : impl_word_b1 x0 x3 = some r := by
  refine Blk.of E7_inj ?_
  refine D_start (c' := d99_1) rfl ?_
  rcases ifB h with ⟨e1, h⟩ | ⟨e1, h⟩
  · obtain ⟨v1, e2, h⟩ := bnd h
    rcases ifB h with ⟨e3, h⟩ | ⟨e3, h⟩
    · rcases ifB h with ⟨e4, h⟩ | ⟨e4, h⟩
      · have q := Blk.run h
        try simp (implicitDefEqProofs := false) only [go_sem] at q
        simp (implicitDefEqProofs := false) only [go_sem, d99_1, k99_1, e1, rdp e2, rds e2, e3, e4, Nat.reduceEqDiff, Nat.reduceAdd, ↓reduceIte, reduceCtorEq, Nat.reduceEqDiff]
        exact q
      · rcases ifB h with ⟨e5, h⟩ | ⟨e5, h⟩
        · rcases ifB h with ⟨e6, h⟩ | ⟨e6, h⟩
          · have q := Blk.run h
            try simp (implicitDefEqProofs := false) only [go_sem] at q
            simp (implicitDefEqProofs := false) only [go_sem, d99_1, k99_1, e1, rdp e2, rds e2, e3, e4, e5, e6, Nat.reduceEqDiff, Nat.reduceAdd, ↓reduceIte, reduceCtorEq, Nat.reduceEqDiff]
            exact q
          · rcases ifB h with ⟨e7, h⟩ | ⟨e7, h⟩
            · cases h
              simp (implicitDefEqProofs := false) only [go_sem, d99_1, k99_1, R99, E7, e1, rdp e2, rds e2, e3, e4, e5, e6, e7, Nat.reduceEqDiff, Nat.reduceAdd, ↓reduceIte, reduceCtorEq, Nat.reduceEqDiff]
            · have q := Blk.run h
              try simp (implicitDefEqProofs := false) only [go_sem] at q
              simp (implicitDefEqProofs := false) only [go_sem, d99_1, k99_1, e1, rdp e2, rds e2, e3, e4, e5, e6, e7, Nat.reduceEqDiff, Nat.reduceAdd, ↓reduceIte, reduceCtorEq, Nat.reduceEqDiff]
              exact q
        · rcases ifB h with ⟨e8, h⟩ | ⟨e8, h⟩
          · cases h
            simp (implicitDefEqProofs := false) only [go_sem, d99_1, k99_1, R99, E7, e1, rdp e2, rds e2, e3, e4, e5, e8, Nat.reduceEqDiff, Nat.reduceAdd, ↓reduceIte, reduceCtorEq, Nat.reduceEqDiff]
          · have q := Blk.run h
            try simp (implicitDefEqProofs := false) only [go_sem] at q
            simp (implicitDefEqProofs := false) only [go_sem, d99_1, k99_1, e1, rdp e2, rds e2, e3, e4, e5, e8, Nat.reduceEqDiff, Nat.reduceAdd, ↓reduceIte, reduceCtorEq, Nat.reduceEqDiff]
            exact q
    · rcases ifB h with ⟨e9, h⟩ | ⟨e9, h⟩
      · rcases ifB h with ⟨e10, h⟩ | ⟨e10, h⟩
        · have q := Blk.run h
          try simp (implicitDefEqProofs := false) only [go_sem] at q
          simp (implicitDefEqProofs := false) only [go_sem, d99_1, k99_1, e1, rdp e2, rds e2, e3, e9, e10, Nat.reduceEqDiff, Nat.reduceAdd, ↓reduceIte, reduceCtorEq, Nat.reduceEqDiff]
          exact q
        · rcases ifB h with ⟨e11, h⟩ | ⟨e11, h⟩
          · cases h
            simp (implicitDefEqProofs := false) only [go_sem, d99_1, k99_1, R99, E7, e1, rdp e2, rds e2, e3, e9, e10, e11, Nat.reduceEqDiff, Nat.reduceAdd, ↓reduceIte, reduceCtorEq, Nat.reduceEqDiff]
          · have q := Blk.run h
            try simp (implicitDefEqProofs := false) only [go_sem] at q
            simp (implicitDefEqProofs := false) only [go_sem, d99_1, k99_1, e1, rdp e2, rds e2, e3, e9, e10, e11, Nat.reduceEqDiff, Nat.reduceAdd, ↓reduceIte, reduceCtorEq, Nat.reduceEqDiff]
            exact q
      · rcases ifB h with ⟨e12, h⟩ | ⟨e12, h⟩
        · cases h
          simp (implicitDefEqProofs := false) only [go_sem, d99_1, k99_1, R99, E7, e1, rdp e2, rds e2, e3, e9, e12, Nat.reduceEqDiff, Nat.reduceAdd, ↓reduceIte, reduceCtorEq, Nat.reduceEqDiff]
        · have q := Blk.run h
          try simp (implicitDefEqProofs := false) only [go_sem] at q
          simp (implicitDefEqProofs := false) only [go_sem, d99_1, k99_1, e1, rdp e2, rds e2, e3, e9, e12, Nat.reduceEqDiff, Nat.reduceAdd, ↓reduceIte, reduceCtorEq, Nat.reduceEqDiff]
          exact q
  · cases h
    simp (implicitDefEqProofs := false) only [go_sem, d99_1, k99_1, R99, E7, e1, Nat.reduceEqDiff, Nat.reduceAdd, ↓reduceIte, reduceCtorEq, Nat.reduceEqDiff]
theorem impl_word_b2_of (x0 : Str) (x3 : Int) {r : Bool} (h : (impl_word_b1 x0 (w64 (x3 + 1))) = some r) : impl_word_b2 x0 x3 = some r := by
  refine Blk.of E7_inj ?_
  refine D_start (c' := d99_2) rfl ?_
  have q := Blk.run h
  try simp (implicitDefEqProofs := false) only [go_sem] at q
  simp (implicitDefEqProofs := false) only [go_sem, d99_2, k99_1, Nat.reduceEqDiff, Nat.reduceAdd, ↓reduceIte, reduceCtorEq, Nat.reduceEqDiff]
  exact q
theorem strconv_Atoi_of (x0 : Str) {r : Int × Bool} (h : (if x0.length ≤ 281474976710656 then some (atoiP x0) else none) = some r) : strconv_Atoi x0 = some r := by
  refine Fn.ofExt L_eq E12_inj rfl ?_
  obtain ⟨e1, h⟩ := ifP h
  cases h
  simp only [TB, ext, extAtoi, e1, E12, Nat.reduceEqDiff, reduceIte, if_true, atoiP]
  cases Lib.atoiAll x0 <;> simp
theorem impl_within_of (x0 : Int) (x1 : Int) (x2 : Int) {r : Bool} (h : (if decide (x1 ≤ x0) then some (decide (x0 ≤ x2))
  else some false) = some r) : impl_within x0 x1 x2 = some r := by
  refine Fn.of L_eq E7_inj (fi := fi64) rfl rfl ?_
  simp only [fi64]
  rcases ifB h with ⟨e1, h⟩ | ⟨e1, h⟩
  · cases h
    simp (implicitDefEqProofs := false) only [go_sem, b64, R64, E7, e1, Nat.reduceEqDiff, Nat.reduceAdd, ↓reduceIte, reduceCtorEq, Nat.reduceEqDiff]
  · cases h
    simp (implicitDefEqProofs := false) only [go_sem, b64, R64, E7, e1, Nat.reduceEqDiff, Nat.reduceAdd, ↓reduceIte, reduceCtorEq, Nat.reduceEqDiff]
theorem strconv_Itoa_of (x0 : Int) {r : Str} (h : (if -9223372036854775808 ≤ x0 ∧ x0 ≤ 9223372036854775807 then some (Lib.itoa x0) else none) = some r) : strconv_Itoa x0 = some r := by
  refine Fn.ofExt L_eq E8_inj rfl ?_
  obtain ⟨e1, h⟩ := ifP h
  cases h
  simp only [TB, ext, extItoa, e1, E8, Nat.reduceEqDiff, reduceIte, if_true]
  simp
theorem impl_shown_of (x0 : Str) {r : Bool} (h : ((impl_word x0).bind fun r1 =>
  if r1 then some true
  else ((strconv_Atoi x0).bind fun r2 =>
   if r2.2 then ((impl_within r2.1 (-1000) 1000).bind fun r3 =>
    if r3 then ((strconv_Itoa r2.1).bind fun r4 =>
     some (decide (r4 = x0)))
    else some false)
   else some false)) = some r) : impl_shown x0 = some r := by
  refine Fn.of L_eq E7_inj (fi := fi70) rfl rfl ?_
  simp only [fi70]
  obtain ⟨r1, e1, h⟩ := bnd h
  rcases ifB h with ⟨e2, h⟩ | ⟨e2, h⟩
  · cases h
    simp (implicitDefEqProofs := false) only [go_sem, b70, R70, E7, impl_word_run e1, e2, Nat.reduceEqDiff, Nat.reduceAdd, ↓reduceIte, reduceCtorEq, Nat.reduceEqDiff]
  · obtain ⟨r2, e3, h⟩ := bnd h
    rcases ifB h with ⟨e4, h⟩ | ⟨e4, h⟩
    · obtain ⟨r3, e5, h⟩ := bnd h
      rcases ifB h with ⟨e6, h⟩ | ⟨e6, h⟩
      · obtain ⟨r4, e7, h⟩ := bnd h
        cases h
        simp (implicitDefEqProofs := false) only [go_sem, b70, R70, E7, impl_word_run e1, e2, strconv_Atoi_run e3, e4, impl_within_run e5, e6, strconv_Itoa_run e7, Nat.reduceEqDiff, Nat.reduceAdd, ↓reduceIte, reduceCtorEq, Nat.reduceEqDiff]
      · cases h
        simp (implicitDefEqProofs := false) only [go_sem, b70, R70, E7, impl_word_run e1, e2, strconv_Atoi_run e3, e4, impl_within_run e5, e6, Nat.reduceEqDiff, Nat.reduceAdd, ↓reduceIte, reduceCtorEq, Nat.reduceEqDiff]
    · cases h
      simp (implicitDefEqProofs := false) only [go_sem, b70, R70, E7, impl_word_run e1, e2, strconv_Atoi_run e3, e4, Nat.reduceEqDiff, Nat.reduceAdd, ↓reduceIte, reduceCtorEq, Nat.reduceEqDiff]
end Go.Fw.Law
