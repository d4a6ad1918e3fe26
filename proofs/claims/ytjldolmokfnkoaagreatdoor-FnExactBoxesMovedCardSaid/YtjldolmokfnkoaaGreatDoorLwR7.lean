/- What the functions come to. Conditions: none. -/
import Derived.Test.YtjldolmokfnkoaaGreatDoorLwD
namespace Go.Fw.Law
open Go Go.Fw
theorem impl_partWay_of (x0 : TTree) (x1 : Int) {r : (List Int) × Bool} (h : (if decide (x1 = 0) then some ([], true)
  else impl_partWay_b1 (w64 (x1 - 1)) x0.Kids (x0.Kids.length : Int) 0) = some r) : impl_partWay x0 x1 = some r := by
  refine Fn.of L_eq E18_inj (fi := fi63) rfl rfl ?_
  simp only [fi63]
  rcases ifB h with ⟨e1, h⟩ | ⟨e1, h⟩
  · cases h
    simp (implicitDefEqProofs := false) only [go_sem, b63, k63_1, g63_1, R63, E18, e1, Nat.reduceEqDiff, Nat.reduceAdd, ↓reduceIte, reduceCtorEq, Nat.reduceBEq]
  · have q := Blk.run h
    try simp only [go_sem] at q
    simp (implicitDefEqProofs := false) only [go_sem, b63, k63_1, g63_1, e1, Nat.reduceEqDiff, Nat.reduceAdd, Nat.reduceLeDiff, ↓reduceIte, reduceCtorEq]
    exact q
theorem impl_partWay_b1_of (x1 : Int) (x16 : List TTree) (x17 x18 : Int) {r : (List Int) × Bool} (h : (if decide (x18 < x17) then ((rdx x16 x18).bind fun v1 =>
   (impl_treeCount v1).bind fun r2 =>
   if decide (r2 ≤ x1) then impl_partWay_b1 (w64 (x1 - r2)) x16 x17 (w64 (x18 + 1))
   else ((impl_partWay v1 x1).bind fun r3 =>
    if apOk 8 ([x18]) r3.1 then some (([x18]) ++ r3.1, true)
    else none))
  else some ([], false)) = some r) : impl_partWay_b1 x1 x16 x17 x18 = some r := by
  refine Blk.of E18_inj ?_
  refine D_start (c' := d63_1) rfl ?_
  rcases ifB h with ⟨e1, h⟩ | ⟨e1, h⟩
  · obtain ⟨v1, e2, h⟩ := bnd h
    obtain ⟨r2, e3, h⟩ := bnd h
    rcases ifB h with ⟨e4, h⟩ | ⟨e4, h⟩
    · have q := Blk.run h
      try simp only [go_sem] at q
      simp (implicitDefEqProofs := false) only [go_sem, d63_1, k63_1, g63_1, e1, rdp e2, rdm (eTTree .bor) e2, impl_treeCount_run e3, e4, Nat.reduceEqDiff, Nat.reduceAdd, Nat.reduceLeDiff, ↓reduceIte, reduceCtorEq]
      exact q
    · obtain ⟨r3, e5, h⟩ := bnd h
      obtain ⟨e6, h⟩ := ifP h
      have me6 := apL e6
      try simp only [go_sem, Nat.reduceAdd] at me6
      cases h
      simp (implicitDefEqProofs := false) only [go_sem, d63_1, k63_1, g63_1, R63, E18, e1, rdp e2, rdm (eTTree .bor) e2, impl_treeCount_run e3, e4, impl_partWay_run e5, me6, Nat.reduceEqDiff, Nat.reduceAdd, Nat.reduceLeDiff, ↓reduceIte, reduceCtorEq, Nat.reduceBEq]
  · cases h
    simp (implicitDefEqProofs := false) only [go_sem, d63_1, k63_1, g63_1, R63, E18, e1, Nat.reduceEqDiff, Nat.reduceAdd, ↓reduceIte, Nat.reduceBEq]
theorem impl_partners_of (x0 x1 : TTree) {r : (List Int)} (h : (if (0 ≤ (x0.Kids.length : Int) ∧ (x0.Kids.length : Int) * 1 ≤ 281474976710656 ∧ (x0.Kids.length : Int) ≤ 9223372036854775807) then impl_partners_b1 [] (List.replicate (x0.Kids.length : Int).toNat false) x1.Kids (x1.Kids.length : Int) 0 x0
  else none) = some r) : impl_partners x0 x1 = some r := by
  refine Fn.of L_eq E11_inj (fi := fi89) rfl rfl ?_
  simp only [fi89]
  obtain ⟨e1, h⟩ := ifP h
  have me1 := e1
  try simp only [go_sem, Int.reduceMul, Nat.reduceEqDiff, Nat.reduceAdd, Nat.reduceMul, Nat.reduceSub, Nat.reduceLeDiff, Int.reduceLE, Int.reduceLT, Int.reduceEq, ↓reduceIte, reduceCtorEq, Nat.beq_eq_true_eq, Nat.reduceBEq] at me1
  have q := Blk.run h
  try simp only [go_sem] at q
  simp (implicitDefEqProofs := false) only [go_sem, b89, k89_1, g89_1, e1, Nat.reduceEqDiff, Nat.reduceAdd, Nat.reduceLeDiff, ↓reduceIte, reduceCtorEq]
  exact q
theorem impl_partners_b1_of (x5 : List Int) (x6 : List Bool) (x17 : List TTree) (x18 x19 : Int) (y2 : TTree) {r : (List Int)} (h : (if decide (x19 < x18) then ((rdx x17 x19).bind fun v1 =>
   impl_partners_b2 x5 x6 (-1) x17 x18 x19 y2.Kids (y2.Kids.length : Int) 0 y2 v1)
  else some x5) = some r) : impl_partners_b1 x5 x6 x17 x18 x19 y2 = some r := by
  refine Blk.of E11_inj ?_
  refine D_start (c' := d89_1) rfl ?_
  rcases ifB h with ⟨e1, h⟩ | ⟨e1, h⟩
  · obtain ⟨v1, e2, h⟩ := bnd h
    have q := Blk.run h
    try simp only [go_sem] at q
    simp (implicitDefEqProofs := false) only [go_sem, d89_1, k89_1, k89_2, k89_3, g89_1, g89_2, e1, rdp e2, rdm (eTTree .bor) e2, Nat.reduceEqDiff, Nat.reduceAdd, Nat.reduceLeDiff, ↓reduceIte, reduceCtorEq, Nat.reduceBEq]
    exact q
  · cases h
    simp (implicitDefEqProofs := false) only [go_sem, d89_1, k89_1, k89_2, k89_3, g89_1, g89_2, R89, E11, e1, Nat.reduceEqDiff, Nat.reduceAdd, ↓reduceIte]
theorem impl_partners_b2_of (x5 : List Int) (x6 : List Bool) (x9 : Int) (x17 : List TTree) (x18 x19 : Int) (x24 : List TTree) (x25 x26 : Int) (y2 y8 : TTree) {r : (List Int)} (h : (if decide (x26 < x25) then ((rdx x24 x26).bind fun v2 =>
   (rdx x6 x26).bind fun v3 =>
   if !v3 then (if decide (v2.Tag = y8.Tag) then (if decide (v2.Key = y8.Key) then (if apOk 8 x5 ([x26]) then impl_partners_b1 (x5 ++ ([x26])) (x6.set x26.toNat true) x17 x18 (w64 (x19 + 1)) y2
      else none)
     else impl_partners_b2 x5 x6 x9 x17 x18 x19 x24 x25 (w64 (x26 + 1)) y2 y8)
    else impl_partners_b2 x5 x6 x9 x17 x18 x19 x24 x25 (w64 (x26 + 1)) y2 y8)
   else impl_partners_b2 x5 x6 x9 x17 x18 x19 x24 x25 (w64 (x26 + 1)) y2 y8)
  else (if apOk 8 x5 ([x9]) then impl_partners_b1 (x5 ++ ([x9])) x6 x17 x18 (w64 (x19 + 1)) y2
   else none)) = some r) : impl_partners_b2 x5 x6 x9 x17 x18 x19 x24 x25 x26 y2 y8 = some r := by
  refine Blk.of E11_inj ?_
  refine D_start (c' := d89_2) rfl ?_
  rcases ifB h with ⟨e1, h⟩ | ⟨e1, h⟩
  · obtain ⟨v2, e2, h⟩ := bnd h
    obtain ⟨v3, e3, h⟩ := bnd h
    rcases ifB h with ⟨e4, h⟩ | ⟨e4, h⟩
    · rcases ifB h with ⟨e5, h⟩ | ⟨e5, h⟩
      · rcases ifB h with ⟨e6, h⟩ | ⟨e6, h⟩
        · obtain ⟨e7, h⟩ := ifP h
          have me7 := apL e7
          try simp only [go_sem, Nat.reduceAdd, Nat.reduceLeDiff] at me7
          have q := Blk.run h
          try simp only [go_sem] at q
          simp (implicitDefEqProofs := false) only [go_sem, d89_2, k89_1, k89_2, k89_3, g89_1, g89_2, e1, rdp e2, rdm (eTTree .bor) e2, rdm eB e3, e4, e5, e6, me7, Nat.reduceEqDiff, Nat.reduceAdd, Nat.reduceLeDiff, ↓reduceIte, reduceCtorEq, Nat.reduceBEq]
          exact q
        · have q := Blk.run h
          try simp only [go_sem] at q
          simp (implicitDefEqProofs := false) only [go_sem, d89_2, k89_1, k89_2, k89_3, g89_1, g89_2, e1, rdp e2, rdm (eTTree .bor) e2, rdm eB e3, e4, e5, e6, Nat.reduceEqDiff, Nat.reduceAdd, Nat.reduceLeDiff, ↓reduceIte, reduceCtorEq, Nat.reduceBEq]
          exact q
      · have q := Blk.run h
        try simp only [go_sem] at q
        simp (implicitDefEqProofs := false) only [go_sem, d89_2, k89_1, k89_2, k89_3, g89_1, g89_2, e1, rdp e2, rdm (eTTree .bor) e2, rdm eB e3, e4, e5, Nat.reduceEqDiff, Nat.reduceAdd, Nat.reduceLeDiff, ↓reduceIte, reduceCtorEq, Nat.reduceBEq]
        exact q
    · have q := Blk.run h
      try simp only [go_sem] at q
      simp (implicitDefEqProofs := false) only [go_sem, d89_2, k89_1, k89_2, k89_3, g89_1, g89_2, e1, rdp e2, rdm (eTTree .bor) e2, rdm eB e3, e4, Nat.reduceEqDiff, Nat.reduceAdd, Nat.reduceLeDiff, ↓reduceIte, reduceCtorEq, Nat.reduceBEq]
      exact q
  · obtain ⟨e8, h⟩ := ifP h
    have me8 := apL e8
    try simp only [go_sem, Nat.reduceAdd, Nat.reduceLeDiff] at me8
    have q := Blk.run h
    try simp only [go_sem] at q
    simp (implicitDefEqProofs := false) only [go_sem, d89_2, k89_1, k89_2, k89_3, g89_1, g89_2, e1, me8, Nat.reduceEqDiff, Nat.reduceAdd, Nat.reduceLeDiff, ↓reduceIte, Nat.reduceBEq]
    exact q
theorem slices_Index_int_int_of (x0 : List Int) (x1 : Int) {r : Int} (h : (slices_Index_int_int_b1 x0 x1 (x0.length : Int) 0) = some r) : slices_Index_int_int x0 x1 = some r := by
  refine Fn.of L_eq E1_inj (fi := fi88) rfl rfl ?_
  simp only [fi88]
  have q := Blk.run h
  try simp only [go_sem] at q
  simp (implicitDefEqProofs := false) only [go_sem, b88, k88_1, g88_1, Nat.reduceEqDiff, Nat.reduceAdd, ↓reduceIte, reduceCtorEq]
  exact q
theorem slices_Index_int_int_b1_of (x0 : List Int) (x1 x7 x8 : Int) {r : Int} (h : (if decide (x8 < x7) then ((rdx x0 x8).bind fun v1 =>
   if decide (x1 = v1) then some x8
   else slices_Index_int_int_b1 x0 x1 x7 (w64 (x8 + 1)))
  else some (-1)) = some r) : slices_Index_int_int_b1 x0 x1 x7 x8 = some r := by
  refine Blk.of E1_inj ?_
  refine D_start (c' := d88_1) rfl ?_
  rcases ifB h with ⟨e1, h⟩ | ⟨e1, h⟩
  · obtain ⟨v1, e2, h⟩ := bnd h
    rcases ifB h with ⟨e3, h⟩ | ⟨e3, h⟩
    · cases h
      simp (implicitDefEqProofs := false) only [go_sem, d88_1, k88_1, g88_1, R88, E1, e1, rdp e2, rdm eI e2, e3, Nat.reduceEqDiff, Nat.reduceAdd, Nat.reduceLeDiff, ↓reduceIte, reduceCtorEq]
    · have q := Blk.run h
      try simp only [go_sem] at q
      simp (implicitDefEqProofs := false) only [go_sem, d88_1, k88_1, g88_1, e1, rdp e2, rdm eI e2, e3, Nat.reduceEqDiff, Nat.reduceAdd, Nat.reduceLeDiff, ↓reduceIte, reduceCtorEq]
      exact q
  · cases h
    simp (implicitDefEqProofs := false) only [go_sem, d88_1, k88_1, g88_1, R88, E1, e1, Nat.reduceEqDiff, Nat.reduceAdd, ↓reduceIte, reduceCtorEq]
theorem impl_wayAfter_of (x0 x1 : TTree) (x2 : List Int) {r : (List Int) × Bool} (h : (if !(decide (x0.Tag = x1.Tag)) then some ([], false)
  else (if !(decide (x0.Key = x1.Key)) then some ([], false)
   else impl_wayAfter_b1 [] x2 (x2.length : Int) 0 x0 x1)) = some r) : impl_wayAfter x0 x1 x2 = some r := by
  refine Fn.of L_eq E18_inj (fi := fi64) rfl rfl ?_
  simp only [fi64]
  rcases ifB h with ⟨e1, h⟩ | ⟨e1, h⟩
  · cases h
    simp (implicitDefEqProofs := false) only [go_sem, b64, k64_1, g64_1, R64, E18, e1, Nat.reduceEqDiff, Nat.reduceAdd, Nat.reduceLeDiff, ↓reduceIte, reduceCtorEq, Nat.reduceBEq]
  · rcases ifB h with ⟨e2, h⟩ | ⟨e2, h⟩
    · cases h
      simp (implicitDefEqProofs := false) only [go_sem, b64, k64_1, g64_1, R64, E18, e1, e2, Nat.reduceEqDiff, Nat.reduceAdd, Nat.reduceLeDiff, ↓reduceIte, reduceCtorEq, Nat.reduceBEq]
    · have q := Blk.run h
      try simp only [go_sem] at q
      simp (implicitDefEqProofs := false) only [go_sem, b64, k64_1, g64_1, e1, e2, Nat.reduceEqDiff, Nat.reduceAdd, Nat.reduceLeDiff, ↓reduceIte, reduceCtorEq, Nat.reduceBEq]
      exact q
theorem impl_wayAfter_b1_of (x8 x24 : List Int) (x25 x26 : Int) (y3 y4 : TTree) {r : (List Int) × Bool} (h : (if decide (x26 < x25) then ((rdx x24 x26).bind fun v1 =>
   (impl_within v1 0 (w64 ((y3.Kids.length : Int) - 1))).bind fun r2 =>
   if !r2 then some ([], false)
   else ((impl_partners y3 y4).bind fun r3 =>
    (slices_Index_int_int r3 v1).bind fun r4 =>
    if decide (r4 < 0) then some ([], false)
    else (if apOk 8 x8 ([r4]) then ((rdx y3.Kids v1).bind fun v5 =>
      (rdx y4.Kids r4).bind fun v6 =>
      impl_wayAfter_b1 (x8 ++ ([r4])) x24 x25 (w64 (x26 + 1)) v5 v6)
     else none)))
  else some (x8, true)) = some r) : impl_wayAfter_b1 x8 x24 x25 x26 y3 y4 = some r := by
  refine Blk.of E18_inj ?_
  refine D_start (c' := d64_1) rfl ?_
  rcases ifB h with ⟨e1, h⟩ | ⟨e1, h⟩
  · obtain ⟨v1, e2, h⟩ := bnd h
    obtain ⟨r2, e3, h⟩ := bnd h
    rcases ifB h with ⟨e4, h⟩ | ⟨e4, h⟩
    · cases h
      simp (implicitDefEqProofs := false) only [go_sem, d64_1, k64_1, g64_1, R64, E18, e1, rdp e2, rdm eI e2, impl_within_run e3, e4, Nat.reduceEqDiff, Nat.reduceAdd, Nat.reduceLeDiff, ↓reduceIte, reduceCtorEq, Nat.reduceBEq]
    · obtain ⟨r3, e5, h⟩ := bnd h
      obtain ⟨r4, e6, h⟩ := bnd h
      rcases ifB h with ⟨e7, h⟩ | ⟨e7, h⟩
      · cases h
        simp (implicitDefEqProofs := false) only [go_sem, d64_1, k64_1, g64_1, R64, E18, e1, rdp e2, rdm eI e2, impl_within_run e3, e4, impl_partners_run e5, slices_Index_int_int_run e6, e7, Nat.reduceEqDiff, Nat.reduceAdd, Nat.reduceLeDiff, ↓reduceIte, reduceCtorEq, Nat.reduceBEq]
      · obtain ⟨e8, h⟩ := ifP h
        have me8 := apL e8
        try simp only [go_sem, Nat.reduceAdd, Nat.reduceLeDiff] at me8
        obtain ⟨v5, e9, h⟩ := bnd h
        obtain ⟨v6, e10, h⟩ := bnd h
        have q := Blk.run h
        try simp only [go_sem] at q
        simp (implicitDefEqProofs := false) only [go_sem, d64_1, k64_1, g64_1, e1, rdp e2, rdm eI e2, impl_within_run e3, e4, impl_partners_run e5, slices_Index_int_int_run e6, e7, me8, rdp e9, rdm (eTTree .bor) e9, rdp e10, rdm (eTTree .bor) e10, Nat.reduceEqDiff, Nat.reduceAdd, Nat.reduceLeDiff, ↓reduceIte, reduceCtorEq, Nat.reduceBEq]
        exact q
  · cases h
    simp (implicitDefEqProofs := false) only [go_sem, d64_1, k64_1, g64_1, R64, E18, e1, Nat.reduceEqDiff, Nat.reduceAdd, ↓reduceIte, Nat.reduceBEq]
theorem impl_partNumber_of (x0 : TTree) (x1 : List Int) {r : Int} (h : (impl_partNumber_b1 0 x1 (x1.length : Int) 0 x0) = some r) : impl_partNumber x0 x1 = some r := by
  refine Fn.of L_eq E1_inj (fi := fi65) rfl rfl ?_
  simp only [fi65]
  have q := Blk.run h
  try simp only [go_sem] at q
  simp (implicitDefEqProofs := false) only [go_sem, b65, k65_1, g65_1, Nat.reduceEqDiff, Nat.reduceAdd, ↓reduceIte, reduceCtorEq]
  exact q
theorem impl_partNumber_b1_of (x5 : Int) (x10 : List Int) (x11 x12 : Int) (y2 : TTree) {r : Int} (h : (if decide (x12 < x11) then ((rdx x10 x12).bind fun v1 =>
   (impl_within v1 0 (w64 ((y2.Kids.length : Int) - 1))).bind fun r2 =>
   if !r2 then some (-1)
   else (if (0 ≤ v1 ∧ v1 ≤ (y2.Kids.length : Int)) then impl_partNumber_b2 (w64 (x5 + 1)) v1 x10 x11 x12 (y2.Kids.take v1.toNat) ((y2.Kids.take v1.toNat).length : Int) 0 y2
    else none))
  else some x5) = some r) : impl_partNumber_b1 x5 x10 x11 x12 y2 = some r := by
  refine Blk.of E1_inj ?_
  refine D_start (c' := d65_1) rfl ?_
  rcases ifB h with ⟨e1, h⟩ | ⟨e1, h⟩
  · obtain ⟨v1, e2, h⟩ := bnd h
    obtain ⟨r2, e3, h⟩ := bnd h
    rcases ifB h with ⟨e4, h⟩ | ⟨e4, h⟩
    · cases h
      simp (implicitDefEqProofs := false) only [go_sem, d65_1, k65_1, k65_2, k65_3, g65_1, g65_2, R65, E1, e1, rdp e2, rdm eI e2, impl_within_run e3, e4, Nat.reduceEqDiff, Nat.reduceAdd, Nat.reduceLeDiff, ↓reduceIte, reduceCtorEq]
    · obtain ⟨e5, h⟩ := ifP h
      have me5 := e5
      try simp only [go_sem, Int.reduceMul, Nat.reduceEqDiff, Nat.reduceAdd, Nat.reduceMul, Nat.reduceSub, Nat.reduceLeDiff, Int.reduceLE, Int.reduceLT, Int.reduceEq, ↓reduceIte, reduceCtorEq, Nat.beq_eq_true_eq, Nat.reduceBEq] at me5
      have q := Blk.run h
      try simp only [go_sem] at q
      simp (implicitDefEqProofs := false) only [go_sem, d65_1, k65_1, k65_2, k65_3, g65_1, g65_2, e1, rdp e2, rdm eI e2, impl_within_run e3, e4, e5, Nat.reduceEqDiff, Nat.reduceAdd, Nat.reduceLeDiff, ↓reduceIte, reduceCtorEq]
      exact q
  · cases h
    simp (implicitDefEqProofs := false) only [go_sem, d65_1, k65_1, k65_2, k65_3, g65_1, g65_2, R65, E1, e1, Nat.reduceEqDiff, Nat.reduceAdd, ↓reduceIte]
theorem impl_partNumber_b2_of (x5 x7 : Int) (x10 : List Int) (x11 x12 : Int) (x28 : List TTree) (x29 x30 : Int) (y2 : TTree) {r : Int} (h : (if decide (x30 < x29) then ((rdx x28 x30).bind fun v3 =>
   (impl_treeCount v3).bind fun r4 =>
   impl_partNumber_b2 (w64 (x5 + r4)) x7 x10 x11 x12 x28 x29 (w64 (x30 + 1)) y2)
  else ((rdx y2.Kids x7).bind fun v5 =>
   impl_partNumber_b1 x5 x10 x11 (w64 (x12 + 1)) v5)) = some r) : impl_partNumber_b2 x5 x7 x10 x11 x12 x28 x29 x30 y2 = some r := by
  refine Blk.of E1_inj ?_
  refine D_start (c' := d65_2) rfl ?_
  rcases ifB h with ⟨e1, h⟩ | ⟨e1, h⟩
  · obtain ⟨v3, e2, h⟩ := bnd h
    obtain ⟨r4, e3, h⟩ := bnd h
    have q := Blk.run h
    try simp only [go_sem] at q
    simp (implicitDefEqProofs := false) only [go_sem, d65_2, k65_1, k65_2, k65_3, g65_1, g65_2, e1, rdp e2, rdm (eTTree .bor) e2, impl_treeCount_run e3, Nat.reduceEqDiff, Nat.reduceAdd, Nat.reduceLeDiff, ↓reduceIte, reduceCtorEq]
    exact q
  · obtain ⟨v5, e4, h⟩ := bnd h
    have q := Blk.run h
    try simp only [go_sem] at q
    simp (implicitDefEqProofs := false) only [go_sem, d65_2, k65_1, k65_2, k65_3, g65_1, g65_2, e1, rdp e4, rdm (eTTree .bor) e4, Nat.reduceEqDiff, Nat.reduceAdd, Nat.reduceLeDiff, ↓reduceIte, reduceCtorEq]
    exact q
theorem impl_between_of (x0 x1 x2 x3 : Int) {r : Int} (h : (if ¬ x3 = 0 then some (w64 (x0 + (w64 ((w64 ((w64 (x1 - x0)) * x2)).tdiv x3))))
  else none) = some r) : impl_between x0 x1 x2 x3 = some r := by
  refine Fn.of L_eq E1_inj (fi := fi90) rfl rfl ?_
  simp only [fi90]
  obtain ⟨e1, h⟩ := ifP h
  cases h
  simp (implicitDefEqProofs := false) only [go_sem, b90, R90, E1, e1, Nat.reduceEqDiff, Nat.reduceAdd, ↓reduceIte, reduceCtorEq]
theorem impl_boxBetween_of (x0 x1 : TBox) (x2 x3 : Int) {r : TBox} (h : ((impl_between x0.Left x1.Left x2 x3).bind fun r1 =>
  (impl_between x0.Top x1.Top x2 x3).bind fun r2 =>
  (impl_between x0.Wide x1.Wide x2 x3).bind fun r3 =>
  (impl_between x0.High x1.High x2 x3).bind fun r4 =>
  some (⟨r1, r2, r3, r4⟩ : TBox)) = some r) : impl_boxBetween x0 x1 x2 x3 = some r := by
  refine Fn.of L_eq E19_inj (fi := fi66) rfl rfl ?_
  simp only [fi66]
  obtain ⟨r1, e1, h⟩ := bnd h
  obtain ⟨r2, e2, h⟩ := bnd h
  obtain ⟨r3, e3, h⟩ := bnd h
  obtain ⟨r4, e4, h⟩ := bnd h
  cases h
  simp (implicitDefEqProofs := false) only [go_sem, b66, R66, E19, impl_between_run e1, impl_between_run e2, impl_between_run e3, impl_between_run e4, Nat.reduceEqDiff, Nat.reduceAdd, Nat.reduceLeDiff, ↓reduceIte, reduceCtorEq]
theorem impl_BoxesMoved_of (x0 x1 : TTree) (x2 : List TRule) (x3 x4 x5 : Int) {r : (List TBox)} (h : ((impl_TreeOk x0).bind fun r1 =>
  if !r1 then some []
  else ((impl_TreeOk x1).bind fun r2 =>
   if !r2 then some []
   else ((impl_RulesOk x2).bind fun r3 =>
    if !r3 then some []
    else ((impl_within x3 0 60).bind fun r4 =>
     if !r4 then some []
     else ((impl_stepOk x4 x5).bind fun r5 =>
      if !r5 then some []
      else ((impl_boxes x0 x2 x3).bind fun r6 =>
       (impl_boxes x1 x2 x3).bind fun r7 =>
       if apOk 32 ([] : (List TBox)) r7 then impl_BoxesMoved_b1 x4 x5 r6 r7 r7 (r6.length : Int) 0 x0 x1
       else none)))))) = some r) : impl_BoxesMoved x0 x1 x2 x3 x4 x5 = some r := by
  refine Fn.of L_eq E16_inj (fi := fi32) rfl rfl ?_
  simp only [fi32]
  obtain ⟨r1, e1, h⟩ := bnd h
  rcases ifB h with ⟨e2, h⟩ | ⟨e2, h⟩
  · cases h
    simp (implicitDefEqProofs := false) only [go_sem, b32, k32_1, g32_1, R32, E16, impl_TreeOk_run e1, e2, Nat.reduceEqDiff, Nat.reduceAdd, Nat.reduceLeDiff, ↓reduceIte, reduceCtorEq]
  · obtain ⟨r2, e3, h⟩ := bnd h
    rcases ifB h with ⟨e4, h⟩ | ⟨e4, h⟩
    · cases h
      simp (implicitDefEqProofs := false) only [go_sem, b32, k32_1, g32_1, R32, E16, impl_TreeOk_run e1, e2, impl_TreeOk_run e3, e4, Nat.reduceEqDiff, Nat.reduceAdd, Nat.reduceLeDiff, ↓reduceIte, reduceCtorEq]
    · obtain ⟨r3, e5, h⟩ := bnd h
      rcases ifB h with ⟨e6, h⟩ | ⟨e6, h⟩
      · cases h
        simp (implicitDefEqProofs := false) only [go_sem, b32, k32_1, g32_1, R32, E16, impl_TreeOk_run e1, e2, impl_TreeOk_run e3, e4, impl_RulesOk_run e5, e6, Nat.reduceEqDiff, Nat.reduceAdd, Nat.reduceLeDiff, ↓reduceIte, reduceCtorEq]
      · obtain ⟨r4, e7, h⟩ := bnd h
        rcases ifB h with ⟨e8, h⟩ | ⟨e8, h⟩
        · cases h
          simp (implicitDefEqProofs := false) only [go_sem, b32, k32_1, g32_1, R32, E16, impl_TreeOk_run e1, e2, impl_TreeOk_run e3, e4, impl_RulesOk_run e5, e6, impl_within_run e7, e8, Nat.reduceEqDiff, Nat.reduceAdd, Nat.reduceLeDiff, ↓reduceIte, reduceCtorEq]
        · obtain ⟨r5, e9, h⟩ := bnd h
          rcases ifB h with ⟨e10, h⟩ | ⟨e10, h⟩
          · cases h
            simp (implicitDefEqProofs := false) only [go_sem, b32, k32_1, g32_1, R32, E16, impl_TreeOk_run e1, e2, impl_TreeOk_run e3, e4, impl_RulesOk_run e5, e6, impl_within_run e7, e8, impl_stepOk_run e9, e10, Nat.reduceEqDiff, Nat.reduceAdd, Nat.reduceLeDiff, ↓reduceIte, reduceCtorEq]
          · obtain ⟨r6, e11, h⟩ := bnd h
            obtain ⟨r7, e12, h⟩ := bnd h
            obtain ⟨e13, h⟩ := ifP h
            have me13 := apL e13
            try simp only [go_sem] at me13
            have q := Blk.run h
            try simp only [go_sem] at q
            simp (implicitDefEqProofs := false) only [go_sem, b32, k32_1, g32_1, impl_TreeOk_run e1, e2, impl_TreeOk_run e3, e4, impl_RulesOk_run e5, e6, impl_within_run e7, e8, impl_stepOk_run e9, e10, impl_boxes_run e11, impl_boxes_run e12, me13, Nat.reduceEqDiff, Nat.reduceAdd, Nat.reduceLeDiff, ↓reduceIte, reduceCtorEq, Nat.reduceBEq]
            exact q
theorem impl_BoxesMoved_b1_of (x4 x5 : Int) (x13 x14 x15 : List TBox) (x58 x59 : Int) (y6 y7 : TTree) {r : (List TBox)} (h : (if decide (x59 < x58) then ((impl_partWay y6 x59).bind fun r8 =>
   (impl_wayAfter y6 y7 r8.1).bind fun r9 =>
   if r9.2 then ((impl_partNumber y7 r9.1).bind fun r10 =>
    (rdx x13 x59).bind fun v11 =>
    (rdx x15 r10).bind fun v12 =>
    (impl_boxBetween v11 v12 x4 x5).bind fun r13 =>
    (rdx x14 r10).bind fun _v14 =>
    impl_BoxesMoved_b1 x4 x5 x13 (x14.set r10.toNat r13) x15 x58 (w64 (x59 + 1)) y6 y7)
   else impl_BoxesMoved_b1 x4 x5 x13 x14 x15 x58 (w64 (x59 + 1)) y6 y7)
  else some x14) = some r) : impl_BoxesMoved_b1 x4 x5 x13 x14 x15 x58 x59 y6 y7 = some r := by
  refine Blk.of E16_inj ?_
  refine D_start (c' := d32_1) rfl ?_
  rcases ifB h with ⟨e1, h⟩ | ⟨e1, h⟩
  · obtain ⟨r8, e2, h⟩ := bnd h
    obtain ⟨r9, e3, h⟩ := bnd h
    rcases ifB h with ⟨e4, h⟩ | ⟨e4, h⟩
    · obtain ⟨r10, e5, h⟩ := bnd h
      obtain ⟨v11, e6, h⟩ := bnd h
      obtain ⟨v12, e7, h⟩ := bnd h
      obtain ⟨r13, e8, h⟩ := bnd h
      obtain ⟨v14, e9, h⟩ := bnd h
      have q := Blk.run h
      try simp only [go_sem] at q
      simp (implicitDefEqProofs := false) only [go_sem, d32_1, k32_1, g32_1, e1, impl_partWay_run e2, impl_wayAfter_run e3, e4, impl_partNumber_run e5, rdp e6, rdm eTBox e6, rdp e7, rdm eTBox e7, impl_boxBetween_run e8, rdm eTBox e9, Nat.reduceEqDiff, Nat.reduceAdd, Nat.reduceLeDiff, ↓reduceIte, reduceCtorEq, Nat.reduceBEq]
      exact q
    · have q := Blk.run h
      try simp only [go_sem] at q
      simp (implicitDefEqProofs := false) only [go_sem, d32_1, k32_1, g32_1, e1, impl_partWay_run e2, impl_wayAfter_run e3, e4, Nat.reduceEqDiff, Nat.reduceAdd, Nat.reduceLeDiff, ↓reduceIte, reduceCtorEq, Nat.reduceBEq]
      exact q
  · cases h
    simp (implicitDefEqProofs := false) only [go_sem, d32_1, k32_1, g32_1, R32, E16, e1, Nat.reduceEqDiff, Nat.reduceAdd, ↓reduceIte]
theorem laws_eqBox_of (x0 x1 : TBox) {r : Bool} (h : (if !(decide (x0.Left = x1.Left)) then some false
  else (if !(decide (x0.Top = x1.Top)) then some false
   else (if !(decide (x0.Wide = x1.Wide)) then some false
    else (if !(decide (x0.High = x1.High)) then some false
     else some true)))) = some r) : laws_eqBox x0 x1 = some r := by
  refine Fn.of L_eq E9_inj (fi := fi25) rfl rfl ?_
  simp only [fi25]
  rcases ifB h with ⟨e1, h⟩ | ⟨e1, h⟩
  · cases h
    simp (implicitDefEqProofs := false) only [go_sem, b25, R25, E9, e1, Nat.reduceEqDiff, Nat.reduceAdd, Nat.reduceLeDiff, ↓reduceIte, reduceCtorEq]
  · rcases ifB h with ⟨e2, h⟩ | ⟨e2, h⟩
    · cases h
      simp (implicitDefEqProofs := false) only [go_sem, b25, R25, E9, e1, e2, Nat.reduceEqDiff, Nat.reduceAdd, Nat.reduceLeDiff, ↓reduceIte, reduceCtorEq]
    · rcases ifB h with ⟨e3, h⟩ | ⟨e3, h⟩
      · cases h
        simp (implicitDefEqProofs := false) only [go_sem, b25, R25, E9, e1, e2, e3, Nat.reduceEqDiff, Nat.reduceAdd, Nat.reduceLeDiff, ↓reduceIte, reduceCtorEq]
      · rcases ifB h with ⟨e4, h⟩ | ⟨e4, h⟩
        · cases h
          simp (implicitDefEqProofs := false) only [go_sem, b25, R25, E9, e1, e2, e3, e4, Nat.reduceEqDiff, Nat.reduceAdd, Nat.reduceLeDiff, ↓reduceIte, reduceCtorEq]
        · cases h
          simp (implicitDefEqProofs := false) only [go_sem, b25, R25, E9, e1, e2, e3, e4, Nat.reduceEqDiff, Nat.reduceAdd, Nat.reduceLeDiff, ↓reduceIte, reduceCtorEq]
theorem laws_eqBoxS_of (x0 x1 : List TBox) {r : Bool} (h : (if !(decide ((x0.length : Int) = (x1.length : Int))) then some false
  else laws_eqBoxS_b1 x0 x1 0) = some r) : laws_eqBoxS x0 x1 = some r := by
  refine Fn.of L_eq E9_inj (fi := fi18) rfl rfl ?_
  simp only [fi18]
  rcases ifB h with ⟨e1, h⟩ | ⟨e1, h⟩
  · cases h
    simp (implicitDefEqProofs := false) only [go_sem, b18, k18_1, g18_1, R18, E9, e1, Nat.reduceEqDiff, Nat.reduceAdd, ↓reduceIte, reduceCtorEq]
  · have q := Blk.run h
    try simp only [go_sem] at q
    simp (implicitDefEqProofs := false) only [go_sem, b18, k18_1, g18_1, e1, Nat.reduceEqDiff, Nat.reduceAdd, ↓reduceIte, reduceCtorEq]
    exact q
theorem laws_eqBoxS_b1_of (x0 x1 : List TBox) (x5 : Int) {r : Bool} (h : (if decide (x5 < (x0.length : Int)) then ((rdx x0 x5).bind fun v1 =>
   (rdx x1 x5).bind fun v2 =>
   (laws_eqBox v1 v2).bind fun r3 =>
   if !r3 then some false
   else laws_eqBoxS_b1 x0 x1 (w64 (x5 + 1)))
  else some true) = some r) : laws_eqBoxS_b1 x0 x1 x5 = some r := by
  refine Blk.of E9_inj ?_
  refine D_start (c' := d18_1) rfl ?_
  rcases ifB h with ⟨e1, h⟩ | ⟨e1, h⟩
  · obtain ⟨v1, e2, h⟩ := bnd h
    obtain ⟨v2, e3, h⟩ := bnd h
    obtain ⟨r3, e4, h⟩ := bnd h
    rcases ifB h with ⟨e5, h⟩ | ⟨e5, h⟩
    · cases h
      simp (implicitDefEqProofs := false) only [go_sem, d18_1, k18_1, g18_1, R18, E9, e1, rdp e2, rdm eTBox e2, rdm eTBox e3, laws_eqBox_run e4, e5, Nat.reduceEqDiff, Nat.reduceAdd, Nat.reduceLeDiff, ↓reduceIte, reduceCtorEq]
    · have q := Blk.run h
      try simp only [go_sem] at q
      simp (implicitDefEqProofs := false) only [go_sem, d18_1, k18_1, g18_1, e1, rdp e2, rdm eTBox e2, rdm eTBox e3, laws_eqBox_run e4, e5, Nat.reduceEqDiff, Nat.reduceAdd, Nat.reduceLeDiff, ↓reduceIte, reduceCtorEq]
      exact q
  · cases h
    simp (implicitDefEqProofs := false) only [go_sem, d18_1, k18_1, g18_1, R18, E9, e1, Nat.reduceEqDiff, Nat.reduceAdd, ↓reduceIte, reduceCtorEq]
theorem laws_eqValue_of (x0 x1 : TValue) {r : Bool} (h : (if !(decide (x0.Kind = x1.Kind)) then some false
  else (if !(decide (x0.Num = x1.Num)) then some false
   else (if !(decide (x0.Text = x1.Text)) then some false
    else some true))) = some r) : laws_eqValue x0 x1 = some r := by
  refine Fn.of L_eq E9_inj (fi := fi75) rfl rfl ?_
  simp only [fi75]
  rcases ifB h with ⟨e1, h⟩ | ⟨e1, h⟩
  · cases h
    simp (implicitDefEqProofs := false) only [go_sem, b75, R75, E9, e1, Nat.reduceEqDiff, Nat.reduceAdd, Nat.reduceLeDiff, ↓reduceIte, reduceCtorEq]
  · rcases ifB h with ⟨e2, h⟩ | ⟨e2, h⟩
    · cases h
      simp (implicitDefEqProofs := false) only [go_sem, b75, R75, E9, e1, e2, Nat.reduceEqDiff, Nat.reduceAdd, Nat.reduceLeDiff, ↓reduceIte, reduceCtorEq]
    · rcases ifB h with ⟨e3, h⟩ | ⟨e3, h⟩
      · cases h
        simp (implicitDefEqProofs := false) only [go_sem, b75, R75, E9, e1, e2, e3, Nat.reduceEqDiff, Nat.reduceAdd, Nat.reduceLeDiff, ↓reduceIte, reduceCtorEq]
      · cases h
        simp (implicitDefEqProofs := false) only [go_sem, b75, R75, E9, e1, e2, e3, Nat.reduceEqDiff, Nat.reduceAdd, Nat.reduceLeDiff, ↓reduceIte, reduceCtorEq]
end Go.Fw.Law
