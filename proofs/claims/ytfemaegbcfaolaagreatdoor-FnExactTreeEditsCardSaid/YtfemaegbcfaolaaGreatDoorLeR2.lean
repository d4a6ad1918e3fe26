/- What the functions come to. Conditions: none. -/
import Derived.Test.YtfemaegbcfaolaaGreatDoorLeD
namespace Go.Fw.Law
open Go Go.Fw
theorem spec_partners_of (x0 : (List TTree)) (x1 : (List TTree)) {r : (List Int)} (h : (if (0 ≤ (x0.length : Int) ∧ (x0.length : Int) * 1 ≤ 281474976710656 ∧ (x0.length : Int) ≤ 9223372036854775807) then spec_partners_b1 x0 x1 [] (List.replicate (x0.length : Int).toNat false) 0
  else none) = some r) : spec_partners x0 x1 = some r := by
  refine Fn.of L_eq E10_inj (fi := fi92) rfl rfl ?_
  simp only [fi92]
  obtain ⟨e1, h⟩ := ifP h
  have me1 := e1
  try simp (implicitDefEqProofs := false) only [go_sem, Nat.reduceEqDiff, Nat.reduceAdd, Nat.reduceMul, Nat.reduceSub, Nat.reduceLeDiff, Int.reduceLE, Int.reduceLT, Int.reduceEq, ↓reduceIte, reduceCtorEq, Nat.beq_eq_true_eq, Nat.reduceBEq, Nat.reduceEqDiff] at me1
  have q := Blk.run h
  try simp (implicitDefEqProofs := false) only [go_sem] at q
  simp (implicitDefEqProofs := false) only [go_sem, b92, k92_1, e1, Nat.reduceEqDiff, Nat.reduceAdd, ↓reduceIte, reduceCtorEq, Nat.reduceEqDiff]
  exact q
theorem spec_partners_b1_of (x0 : (List TTree)) (x1 : (List TTree)) (x5 : (List Int)) (x6 : (List Bool)) (x7 : Int) {r : (List Int)} (h : (if decide (x7 < (x1.length : Int)) then spec_partners_b2 x0 x1 x5 x6 x7 (-1) 0
  else some x5) = some r) : spec_partners_b1 x0 x1 x5 x6 x7 = some r := by
  refine Blk.of E10_inj ?_
  refine D_start (c' := d92_1) rfl ?_
  rcases ifB h with ⟨e1, h⟩ | ⟨e1, h⟩
  · have q := Blk.run h
    try simp (implicitDefEqProofs := false) only [go_sem] at q
    simp (implicitDefEqProofs := false) only [go_sem, d92_1, k92_1, k92_2, e1, Nat.reduceEqDiff, Nat.reduceAdd, ↓reduceIte, reduceCtorEq, Nat.reduceEqDiff]
    exact q
  · cases h
    simp (implicitDefEqProofs := false) only [go_sem, d92_1, k92_1, k92_2, R92, E10, e1, Nat.reduceEqDiff, Nat.reduceAdd, ↓reduceIte, reduceCtorEq, Nat.reduceEqDiff]
theorem spec_partners_b2_of (x0 : (List TTree)) (x1 : (List TTree)) (x5 : (List Int)) (x6 : (List Bool)) (x7 : Int) (x8 : Int) (x9 : Int) {r : (List Int)} (h : (if decide (x9 < (x0.length : Int)) then (if decide (x8 < 0) then ((rdx x6 x9).bind fun v1 =>
    if !v1 then ((rdx x0 x9).bind fun v2 =>
     (rdx x1 x7).bind fun v3 =>
     if decide (v2.Tag = v3.Tag) then (if decide (v2.Key = v3.Key) then spec_partners_b2 x0 x1 x5 x6 x7 x9 (w64 (x9 + 1))
      else spec_partners_b2 x0 x1 x5 x6 x7 x8 (w64 (x9 + 1)))
     else spec_partners_b2 x0 x1 x5 x6 x7 x8 (w64 (x9 + 1)))
    else spec_partners_b2 x0 x1 x5 x6 x7 x8 (w64 (x9 + 1)))
   else spec_partners_b3 x0 x1 x5 x6 x7 x8)
  else spec_partners_b3 x0 x1 x5 x6 x7 x8) = some r) : spec_partners_b2 x0 x1 x5 x6 x7 x8 x9 = some r := by
  refine Blk.of E10_inj ?_
  refine D_start (c' := d92_2) rfl ?_
  rcases ifB h with ⟨e1, h⟩ | ⟨e1, h⟩
  · rcases ifB h with ⟨e2, h⟩ | ⟨e2, h⟩
    · obtain ⟨v1, e3, h⟩ := bnd h
      rcases ifB h with ⟨e4, h⟩ | ⟨e4, h⟩
      · obtain ⟨v2, e5, h⟩ := bnd h
        obtain ⟨v3, e6, h⟩ := bnd h
        rcases ifB h with ⟨e7, h⟩ | ⟨e7, h⟩
        · rcases ifB h with ⟨e8, h⟩ | ⟨e8, h⟩
          · have q := Blk.run h
            try simp (implicitDefEqProofs := false) only [go_sem] at q
            simp (implicitDefEqProofs := false) only [go_sem, d92_2, k92_1, k92_2, e1, e2, rdp e3, rdm eB e3, e4, rdm (eTTree .sh) e5, rdp e6, rdm (eTTree .sh) e6, e7, e8, Nat.reduceEqDiff, Nat.reduceAdd, Nat.reduceLeDiff, ↓reduceIte, reduceCtorEq, Nat.reduceEqDiff]
            exact q
          · have q := Blk.run h
            try simp (implicitDefEqProofs := false) only [go_sem] at q
            simp (implicitDefEqProofs := false) only [go_sem, d92_2, k92_1, k92_2, e1, e2, rdp e3, rdm eB e3, e4, rdm (eTTree .sh) e5, rdp e6, rdm (eTTree .sh) e6, e7, e8, Nat.reduceEqDiff, Nat.reduceAdd, Nat.reduceLeDiff, ↓reduceIte, reduceCtorEq, Nat.reduceEqDiff]
            exact q
        · have q := Blk.run h
          try simp (implicitDefEqProofs := false) only [go_sem] at q
          simp (implicitDefEqProofs := false) only [go_sem, d92_2, k92_1, k92_2, e1, e2, rdp e3, rdm eB e3, e4, rdm (eTTree .sh) e5, rdp e6, rdm (eTTree .sh) e6, e7, Nat.reduceEqDiff, Nat.reduceAdd, Nat.reduceLeDiff, ↓reduceIte, reduceCtorEq, Nat.reduceEqDiff]
          exact q
      · have q := Blk.run h
        try simp (implicitDefEqProofs := false) only [go_sem] at q
        simp (implicitDefEqProofs := false) only [go_sem, d92_2, k92_1, k92_2, e1, e2, rdp e3, rdm eB e3, e4, Nat.reduceEqDiff, Nat.reduceAdd, Nat.reduceLeDiff, ↓reduceIte, reduceCtorEq, Nat.reduceEqDiff]
        exact q
    · have q := Blk.run h
      try simp (implicitDefEqProofs := false) only [go_sem] at q
      simp (implicitDefEqProofs := false) only [go_sem, d92_2, k92_1, k92_2, e1, e2, Nat.reduceEqDiff, Nat.reduceAdd, ↓reduceIte, reduceCtorEq, Nat.reduceEqDiff]
      exact q
  · have q := Blk.run h
    try simp (implicitDefEqProofs := false) only [go_sem] at q
    simp (implicitDefEqProofs := false) only [go_sem, d92_2, k92_1, k92_2, e1, Nat.reduceEqDiff, Nat.reduceAdd, ↓reduceIte, reduceCtorEq, Nat.reduceEqDiff]
    exact q
theorem spec_partners_b3_of (x0 : (List TTree)) (x1 : (List TTree)) (x5 : (List Int)) (x6 : (List Bool)) (x7 : Int) (x8 : Int) {r : (List Int)} (h : (if decide (0 ≤ x8) then ((rdx x6 x8).bind fun _v4 =>
   if apOk 8 x5 ([x8]) then spec_partners_b1 x0 x1 (x5 ++ ([x8])) (x6.set x8.toNat true) (w64 (x7 + 1))
   else none)
  else (if apOk 8 x5 ([x8]) then spec_partners_b1 x0 x1 (x5 ++ ([x8])) x6 (w64 (x7 + 1))
   else none)) = some r) : spec_partners_b3 x0 x1 x5 x6 x7 x8 = some r := by
  refine Blk.of E10_inj ?_
  refine D_start (c' := d92_3) rfl ?_
  rcases ifB h with ⟨e1, h⟩ | ⟨e1, h⟩
  · obtain ⟨v4, e2, h⟩ := bnd h
    obtain ⟨e3, h⟩ := ifP h
    have me3 := apL e3
    try simp (implicitDefEqProofs := false) only [go_sem, Nat.reduceAdd, Nat.reduceLeDiff] at me3
    have q := Blk.run h
    try simp (implicitDefEqProofs := false) only [go_sem] at q
    simp (implicitDefEqProofs := false) only [go_sem, d92_3, k92_1, k92_2, rdp e2, rdm eB e2, me3, Nat.reduceEqDiff, Nat.reduceAdd, Nat.reduceLeDiff, ↓reduceIte, reduceCtorEq, Nat.reduceEqDiff]
    exact q
  · obtain ⟨e4, h⟩ := ifP h
    have me4 := apL e4
    try simp (implicitDefEqProofs := false) only [go_sem, Nat.reduceAdd, Nat.reduceLeDiff] at me4
    have q := Blk.run h
    try simp (implicitDefEqProofs := false) only [go_sem] at q
    simp (implicitDefEqProofs := false) only [go_sem, d92_3, k92_1, k92_2, e1, me4, Nat.reduceEqDiff, Nat.reduceAdd, Nat.reduceLeDiff, ↓reduceIte, reduceCtorEq, Nat.reduceEqDiff]
    exact q
theorem spec_indexOf_of (x0 : (List Int)) (x1 : Int) {r : Int} (h : (spec_indexOf_b1 x0 x1 0) = some r) : spec_indexOf x0 x1 = some r := by
  refine Fn.of L_eq E1_inj (fi := fi113) rfl rfl ?_
  simp only [fi113]
  have q := Blk.run h
  try simp (implicitDefEqProofs := false) only [go_sem] at q
  simp (implicitDefEqProofs := false) only [go_sem, b113, k113_1, Nat.reduceEqDiff, Nat.reduceAdd, ↓reduceIte, reduceCtorEq, Nat.reduceEqDiff]
  exact q
theorem spec_indexOf_b1_of (x0 : (List Int)) (x1 : Int) (x5 : Int) {r : Int} (h : (if decide (x5 < (x0.length : Int)) then ((rdx x0 x5).bind fun v1 =>
   if decide (v1 = x1) then some x5
   else spec_indexOf_b1 x0 x1 (w64 (x5 + 1)))
  else some (-1)) = some r) : spec_indexOf_b1 x0 x1 x5 = some r := by
  refine Blk.of E1_inj ?_
  refine D_start (c' := d113_1) rfl ?_
  rcases ifB h with ⟨e1, h⟩ | ⟨e1, h⟩
  · obtain ⟨v1, e2, h⟩ := bnd h
    rcases ifB h with ⟨e3, h⟩ | ⟨e3, h⟩
    · cases h
      simp (implicitDefEqProofs := false) only [go_sem, d113_1, k113_1, R113, E1, e1, rdp e2, rdm eI e2, e3, Nat.reduceEqDiff, Nat.reduceAdd, Nat.reduceLeDiff, ↓reduceIte, reduceCtorEq, Nat.reduceEqDiff]
    · have q := Blk.run h
      try simp (implicitDefEqProofs := false) only [go_sem] at q
      simp (implicitDefEqProofs := false) only [go_sem, d113_1, k113_1, e1, rdp e2, rdm eI e2, e3, Nat.reduceEqDiff, Nat.reduceAdd, Nat.reduceLeDiff, ↓reduceIte, reduceCtorEq, Nat.reduceEqDiff]
      exact q
  · cases h
    simp (implicitDefEqProofs := false) only [go_sem, d113_1, k113_1, R113, E1, e1, Nat.reduceEqDiff, Nat.reduceAdd, ↓reduceIte, reduceCtorEq, Nat.reduceEqDiff]
theorem spec_longestRise_of (x0 : (List Int)) {r : (List Bool)} (h : (if (0 ≤ (x0.length : Int) ∧ (x0.length : Int) * 8 ≤ 281474976710656 ∧ (x0.length : Int) ≤ 9223372036854775807) then spec_longestRise_b1 x0 (List.replicate (x0.length : Int).toNat 0) (w64 ((x0.length : Int) - 1))
  else none) = some r) : spec_longestRise x0 = some r := by
  refine Fn.of L_eq E11_inj (fi := fi114) rfl rfl ?_
  simp only [fi114]
  obtain ⟨e1, h⟩ := ifP h
  have me1 := e1
  try simp (implicitDefEqProofs := false) only [go_sem, Nat.reduceEqDiff, Nat.reduceAdd, Nat.reduceMul, Nat.reduceSub, Nat.reduceLeDiff, Int.reduceLE, Int.reduceLT, Int.reduceEq, ↓reduceIte, reduceCtorEq, Nat.beq_eq_true_eq, Nat.reduceBEq, Nat.reduceEqDiff] at me1
  have q := Blk.run h
  try simp (implicitDefEqProofs := false) only [go_sem] at q
  simp (implicitDefEqProofs := false) only [go_sem, b114, k114_1, k114_3, k114_4, e1, Nat.reduceEqDiff, Nat.reduceAdd, ↓reduceIte, reduceCtorEq, Nat.reduceEqDiff]
  exact q
theorem spec_longestRise_b1_of (x0 : (List Int)) (x3 : (List Int)) (x4 : Int) {r : (List Bool)} (h : (if decide (0 ≤ x4) then ((rdx x0 x4).bind fun v1 =>
   if decide (v1 < 0) then spec_longestRise_b1 x0 x3 (w64 (x4 - 1))
   else ((rdx x3 x4).bind fun _v2 =>
    spec_longestRise_b2 x0 (x3.set x4.toNat 1) x4 (w64 (x4 + 1))))
  else (if (0 ≤ (x0.length : Int) ∧ (x0.length : Int) * 1 ≤ 281474976710656 ∧ (x0.length : Int) ≤ 9223372036854775807) then spec_longestRise_b3 x0 x3 (List.replicate (x0.length : Int).toNat false) (-1) 0 0
   else none)) = some r) : spec_longestRise_b1 x0 x3 x4 = some r := by
  refine Blk.of E11_inj ?_
  refine D_start (c' := d114_1) rfl ?_
  rcases ifB h with ⟨e1, h⟩ | ⟨e1, h⟩
  · obtain ⟨v1, e2, h⟩ := bnd h
    rcases ifB h with ⟨e3, h⟩ | ⟨e3, h⟩
    · have q := Blk.run h
      try simp (implicitDefEqProofs := false) only [go_sem] at q
      simp (implicitDefEqProofs := false) only [go_sem, d114_1, k114_1, k114_2, k114_3, k114_4, rdp e2, rdm eI e2, e3, Nat.reduceEqDiff, Nat.reduceAdd, Nat.reduceLeDiff, ↓reduceIte, reduceCtorEq, Nat.reduceEqDiff]
      exact q
    · obtain ⟨v2, e4, h⟩ := bnd h
      have q := Blk.run h
      try simp (implicitDefEqProofs := false) only [go_sem] at q
      simp (implicitDefEqProofs := false) only [go_sem, d114_1, k114_1, k114_2, k114_3, k114_4, rdp e2, rdm eI e2, e3, rdm eI e4, Nat.reduceEqDiff, Nat.reduceAdd, Nat.reduceLeDiff, ↓reduceIte, reduceCtorEq, Nat.reduceEqDiff]
      exact q
  · obtain ⟨e5, h⟩ := ifP h
    have me5 := e5
    try simp (implicitDefEqProofs := false) only [go_sem, Nat.reduceEqDiff, Nat.reduceAdd, Nat.reduceMul, Nat.reduceSub, Nat.reduceLeDiff, Int.reduceLE, Int.reduceLT, Int.reduceEq, ↓reduceIte, reduceCtorEq, Nat.beq_eq_true_eq, Nat.reduceBEq, Nat.reduceEqDiff] at me5
    have q := Blk.run h
    try simp (implicitDefEqProofs := false) only [go_sem] at q
    simp (implicitDefEqProofs := false) only [go_sem, d114_1, k114_1, k114_2, k114_3, k114_4, e1, e5, Nat.reduceEqDiff, Nat.reduceAdd, ↓reduceIte, reduceCtorEq, Nat.reduceEqDiff]
    exact q
theorem spec_longestRise_b2_of (x0 : (List Int)) (x3 : (List Int)) (x4 : Int) (x5 : Int) {r : (List Bool)} (h : (if decide (x5 < (x0.length : Int)) then ((rdx x0 x5).bind fun v3 =>
   (rdx x0 x4).bind fun v4 =>
   if decide (v4 < v3) then ((rdx x3 x5).bind fun v5 =>
    (rdx x3 x4).bind fun v6 =>
    if decide (v6 < (w64 (v5 + 1))) then spec_longestRise_b2 x0 (x3.set x4.toNat (w64 (v5 + 1))) x4 (w64 (x5 + 1))
    else spec_longestRise_b2 x0 x3 x4 (w64 (x5 + 1)))
   else spec_longestRise_b2 x0 x3 x4 (w64 (x5 + 1)))
  else spec_longestRise_b1 x0 x3 (w64 (x4 - 1))) = some r) : spec_longestRise_b2 x0 x3 x4 x5 = some r := by
  refine Blk.of E11_inj ?_
  refine D_start (c' := d114_4) rfl ?_
  rcases ifB h with ⟨e1, h⟩ | ⟨e1, h⟩
  · obtain ⟨v3, e2, h⟩ := bnd h
    obtain ⟨v4, e3, h⟩ := bnd h
    rcases ifB h with ⟨e4, h⟩ | ⟨e4, h⟩
    · obtain ⟨v5, e5, h⟩ := bnd h
      obtain ⟨v6, e6, h⟩ := bnd h
      rcases ifB h with ⟨e7, h⟩ | ⟨e7, h⟩
      · have q := Blk.run h
        try simp (implicitDefEqProofs := false) only [go_sem] at q
        simp (implicitDefEqProofs := false) only [go_sem, d114_4, k114_1, k114_2, k114_3, k114_4, e1, rdp e2, rdm eI e2, rdp e3, rdm eI e3, e4, rdm eI e5, rdm eI e6, e7, Nat.reduceEqDiff, Nat.reduceAdd, Nat.reduceLeDiff, ↓reduceIte, reduceCtorEq, Nat.reduceEqDiff]
        exact q
      · have q := Blk.run h
        try simp (implicitDefEqProofs := false) only [go_sem] at q
        simp (implicitDefEqProofs := false) only [go_sem, d114_4, k114_1, k114_2, k114_3, k114_4, e1, rdp e2, rdm eI e2, rdp e3, rdm eI e3, e4, rdm eI e5, rdm eI e6, e7, Nat.reduceEqDiff, Nat.reduceAdd, Nat.reduceLeDiff, ↓reduceIte, reduceCtorEq, Nat.reduceEqDiff]
        exact q
    · have q := Blk.run h
      try simp (implicitDefEqProofs := false) only [go_sem] at q
      simp (implicitDefEqProofs := false) only [go_sem, d114_4, k114_1, k114_2, k114_3, k114_4, e1, rdp e2, rdm eI e2, rdp e3, rdm eI e3, e4, Nat.reduceEqDiff, Nat.reduceAdd, Nat.reduceLeDiff, ↓reduceIte, reduceCtorEq, Nat.reduceEqDiff]
      exact q
  · have q := Blk.run h
    try simp (implicitDefEqProofs := false) only [go_sem] at q
    simp (implicitDefEqProofs := false) only [go_sem, d114_4, k114_1, k114_2, k114_3, k114_4, e1, Nat.reduceEqDiff, Nat.reduceAdd, ↓reduceIte, reduceCtorEq, Nat.reduceEqDiff]
    exact q
theorem spec_longestRise_b3_of (x0 : (List Int)) (x3 : (List Int)) (x6 : (List Bool)) (x7 : Int) (x8 : Int) (x9 : Int) {r : (List Bool)} (h : (if decide (x9 < (x0.length : Int)) then ((rdx x3 x9).bind fun v7 =>
   spec_longestRise_b3 x0 x3 x6 x7 (max x8 v7) (w64 (x9 + 1)))
  else spec_longestRise_b4 x0 x3 x6 x7 x8 0) = some r) : spec_longestRise_b3 x0 x3 x6 x7 x8 x9 = some r := by
  refine Blk.of E11_inj ?_
  refine D_start (c' := d114_2) rfl ?_
  rcases ifB h with ⟨e1, h⟩ | ⟨e1, h⟩
  · obtain ⟨v7, e2, h⟩ := bnd h
    have q := Blk.run h
    try simp (implicitDefEqProofs := false) only [go_sem] at q
    simp (implicitDefEqProofs := false) only [go_sem, d114_2, k114_3, k114_4, e1, rdp e2, rdm eI e2, Nat.reduceEqDiff, Nat.reduceAdd, Nat.reduceLeDiff, ↓reduceIte, reduceCtorEq, Nat.reduceEqDiff]
    exact q
  · have q := Blk.run h
    try simp (implicitDefEqProofs := false) only [go_sem] at q
    simp (implicitDefEqProofs := false) only [go_sem, d114_2, k114_3, k114_4, e1, Nat.reduceEqDiff, Nat.reduceAdd, ↓reduceIte, reduceCtorEq, Nat.reduceEqDiff]
    exact q
theorem spec_longestRise_b4_of (x0 : (List Int)) (x3 : (List Int)) (x6 : (List Bool)) (x7 : Int) (x8 : Int) (x10 : Int) {r : (List Bool)} (h : (if decide (x10 < (x0.length : Int)) then (if decide (0 < x8) then ((rdx x3 x10).bind fun v8 =>
    if decide (v8 = x8) then ((rdx x0 x10).bind fun v9 =>
     if decide (x7 < v9) then ((rdx x6 x10).bind fun _v10 =>
      spec_longestRise_b4 x0 x3 (x6.set x10.toNat true) v9 (w64 (x8 - 1)) (w64 (x10 + 1)))
     else spec_longestRise_b4 x0 x3 x6 x7 x8 (w64 (x10 + 1)))
    else spec_longestRise_b4 x0 x3 x6 x7 x8 (w64 (x10 + 1)))
   else some x6)
  else some x6) = some r) : spec_longestRise_b4 x0 x3 x6 x7 x8 x10 = some r := by
  refine Blk.of E11_inj ?_
  refine D_start (c' := d114_3) rfl ?_
  rcases ifB h with ⟨e1, h⟩ | ⟨e1, h⟩
  · rcases ifB h with ⟨e2, h⟩ | ⟨e2, h⟩
    · obtain ⟨v8, e3, h⟩ := bnd h
      rcases ifB h with ⟨e4, h⟩ | ⟨e4, h⟩
      · obtain ⟨v9, e5, h⟩ := bnd h
        rcases ifB h with ⟨e6, h⟩ | ⟨e6, h⟩
        · obtain ⟨v10, e7, h⟩ := bnd h
          have q := Blk.run h
          try simp (implicitDefEqProofs := false) only [go_sem] at q
          simp (implicitDefEqProofs := false) only [go_sem, d114_3, k114_4, e1, e2, rdp e3, rdm eI e3, e4, rdm eI e5, e6, rdm eB e7, Nat.reduceEqDiff, Nat.reduceAdd, Nat.reduceLeDiff, ↓reduceIte, reduceCtorEq, Nat.reduceEqDiff]
          exact q
        · have q := Blk.run h
          try simp (implicitDefEqProofs := false) only [go_sem] at q
          simp (implicitDefEqProofs := false) only [go_sem, d114_3, k114_4, e1, e2, rdp e3, rdm eI e3, e4, rdm eI e5, e6, Nat.reduceEqDiff, Nat.reduceAdd, Nat.reduceLeDiff, ↓reduceIte, reduceCtorEq, Nat.reduceEqDiff]
          exact q
      · have q := Blk.run h
        try simp (implicitDefEqProofs := false) only [go_sem] at q
        simp (implicitDefEqProofs := false) only [go_sem, d114_3, k114_4, e1, e2, rdp e3, rdm eI e3, e4, Nat.reduceEqDiff, Nat.reduceAdd, Nat.reduceLeDiff, ↓reduceIte, reduceCtorEq, Nat.reduceEqDiff]
        exact q
    · cases h
      simp (implicitDefEqProofs := false) only [go_sem, d114_3, k114_4, R114, E11, e1, e2, Nat.reduceEqDiff, Nat.reduceAdd, ↓reduceIte, reduceCtorEq, Nat.reduceEqDiff]
  · cases h
    simp (implicitDefEqProofs := false) only [go_sem, d114_3, k114_4, R114, E11, e1, Nat.reduceEqDiff, Nat.reduceAdd, ↓reduceIte, reduceCtorEq, Nat.reduceEqDiff]
theorem spec_with_of (x0 : (List Int)) (x1 : Int) (x2 : Int) {r : (List Int)} (h : (if (0 ≤ x1 ∧ x1 ≤ (x0.length : Int)) then (if apOk 8 ([] : (List Int)) (x0.take x1.toNat) then (if apOk 8 (x0.take x1.toNat) ([x2]) then (if apOk 8 ((x0.take x1.toNat) ++ ([x2])) (sub x0 x1 (x0.length : Int)) then some (((x0.take x1.toNat) ++ ([x2])) ++ (sub x0 x1 (x0.length : Int)))
     else none)
    else none)
   else none)
  else none) = some r) : spec_with x0 x1 x2 = some r := by
  refine Fn.of L_eq E10_inj (fi := fi115) rfl rfl ?_
  simp only [fi115]
  obtain ⟨e1, h⟩ := ifP h
  have me1 := e1
  try simp (implicitDefEqProofs := false) only [go_sem, Nat.reduceEqDiff, Nat.reduceAdd, Nat.reduceMul, Nat.reduceSub, Nat.reduceLeDiff, Int.reduceLE, Int.reduceLT, Int.reduceEq, ↓reduceIte, reduceCtorEq, Nat.beq_eq_true_eq, Nat.reduceBEq, Nat.reduceEqDiff] at me1
  obtain ⟨e2, h⟩ := ifP h
  have me2 := apL e2
  try simp (implicitDefEqProofs := false) only [go_sem] at me2
  obtain ⟨e3, h⟩ := ifP h
  have me3 := apL e3
  try simp (implicitDefEqProofs := false) only [go_sem, Nat.reduceAdd, Nat.reduceLeDiff] at me3
  obtain ⟨e4, h⟩ := ifP h
  have me4 := apL e4
  try simp (implicitDefEqProofs := false) only [go_sem, Nat.reduceAdd] at me4
  cases h
  simp (implicitDefEqProofs := false) only [go_sem, b115, R115, E10, e1, me2, me3, me4, Nat.reduceEqDiff, Nat.reduceAdd, Nat.reduceLeDiff, ↓reduceIte, reduceCtorEq, Nat.reduceEqDiff]
theorem spec_indexOf_v_of (x0 : (List Int)) (x1 : Int) {r : Int} (h : (spec_indexOf_v_b1 x0 x1 0) = some r) : spec_indexOf_v x0 x1 = some r := by
  refine Fn.of L_eq E1_inj (fi := fi113) rfl rfl ?_
  simp only [fi113]
  have q := Blk.run h
  try simp (implicitDefEqProofs := false) only [go_sem] at q
  simp (implicitDefEqProofs := false) only [go_sem, b113, k113_1, Nat.reduceEqDiff, Nat.reduceAdd, ↓reduceIte, reduceCtorEq, Nat.reduceEqDiff]
  exact q
theorem spec_indexOf_v_b1_of (x0 : (List Int)) (x1 : Int) (x5 : Int) {r : Int} (h : (if decide (x5 < (x0.length : Int)) then ((rdx x0 x5).bind fun v1 =>
   if decide (v1 = x1) then some x5
   else spec_indexOf_v_b1 x0 x1 (w64 (x5 + 1)))
  else some (-1)) = some r) : spec_indexOf_v_b1 x0 x1 x5 = some r := by
  refine Blk.of E1_inj ?_
  refine D_start (c' := d113_1) rfl ?_
  rcases ifB h with ⟨e1, h⟩ | ⟨e1, h⟩
  · obtain ⟨v1, e2, h⟩ := bnd h
    rcases ifB h with ⟨e3, h⟩ | ⟨e3, h⟩
    · cases h
      simp (implicitDefEqProofs := false) only [go_sem, d113_1, k113_1, R113, E1, e1, rdp e2, rdm eI e2, e3, Nat.reduceEqDiff, Nat.reduceAdd, Nat.reduceLeDiff, ↓reduceIte, reduceCtorEq, Nat.reduceEqDiff]
    · have q := Blk.run h
      try simp (implicitDefEqProofs := false) only [go_sem] at q
      simp (implicitDefEqProofs := false) only [go_sem, d113_1, k113_1, e1, rdp e2, rdm eI e2, e3, Nat.reduceEqDiff, Nat.reduceAdd, Nat.reduceLeDiff, ↓reduceIte, reduceCtorEq, Nat.reduceEqDiff]
      exact q
  · cases h
    simp (implicitDefEqProofs := false) only [go_sem, d113_1, k113_1, R113, E1, e1, Nat.reduceEqDiff, Nat.reduceAdd, ↓reduceIte, reduceCtorEq, Nat.reduceEqDiff]
theorem spec_without_of (x0 : (List Int)) (x1 : Int) {r : (List Int)} (h : (if (0 ≤ x1 ∧ x1 ≤ (x0.length : Int)) then (if apOk 8 ([] : (List Int)) (x0.take x1.toNat) then (if (0 ≤ (w64 (x1 + 1)) ∧ (w64 (x1 + 1)) ≤ (x0.length : Int)) then (if apOk 8 (x0.take x1.toNat) (sub x0 (w64 (x1 + 1)) (x0.length : Int)) then some ((x0.take x1.toNat) ++ (sub x0 (w64 (x1 + 1)) (x0.length : Int)))
     else none)
    else none)
   else none)
  else none) = some r) : spec_without x0 x1 = some r := by
  refine Fn.of L_eq E10_inj (fi := fi116) rfl rfl ?_
  simp only [fi116]
  obtain ⟨e1, h⟩ := ifP h
  have me1 := e1
  try simp (implicitDefEqProofs := false) only [go_sem, Nat.reduceEqDiff, Nat.reduceAdd, Nat.reduceMul, Nat.reduceSub, Nat.reduceLeDiff, Int.reduceLE, Int.reduceLT, Int.reduceEq, ↓reduceIte, reduceCtorEq, Nat.beq_eq_true_eq, Nat.reduceBEq, Nat.reduceEqDiff] at me1
  obtain ⟨e2, h⟩ := ifP h
  have me2 := apL e2
  try simp (implicitDefEqProofs := false) only [go_sem] at me2
  obtain ⟨e3, h⟩ := ifP h
  have me3 := e3
  try simp (implicitDefEqProofs := false) only [go_sem, Nat.reduceEqDiff, Nat.reduceAdd, Nat.reduceMul, Nat.reduceSub, Nat.reduceLeDiff, Int.reduceLE, Int.reduceLT, Int.reduceEq, ↓reduceIte, reduceCtorEq, Nat.beq_eq_true_eq, Nat.reduceBEq, Nat.reduceEqDiff] at me3
  obtain ⟨e4, h⟩ := ifP h
  have me4 := apL e4
  try simp (implicitDefEqProofs := false) only [go_sem] at me4
  cases h
  simp (implicitDefEqProofs := false) only [go_sem, b116, R116, E10, e1, me2, e3, me4, Nat.reduceEqDiff, Nat.reduceAdd, ↓reduceIte, reduceCtorEq, Nat.reduceEqDiff]
end Go.Fw.Law
