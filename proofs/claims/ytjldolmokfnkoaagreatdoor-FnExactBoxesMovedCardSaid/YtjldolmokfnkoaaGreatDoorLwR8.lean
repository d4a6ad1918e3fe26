/- What the functions come to. Conditions: none. -/
import Derived.Test.YtjldolmokfnkoaaGreatDoorLwD
namespace Go.Fw.Law
open Go Go.Fw
theorem laws_eqProp_of (x0 x1 : TProp) {r : Bool} (h : (if !(decide (x0.Name = x1.Name)) then some false
  else ((laws_eqValue x0.Val x1.Val).bind fun r1 =>
   if !r1 then some false
   else some true)) = some r) : laws_eqProp x0 x1 = some r := by
  refine Fn.of L_eq E9_inj (fi := fi74) rfl rfl ?_
  simp only [fi74]
  rcases ifB h with ⟨e1, h⟩ | ⟨e1, h⟩
  · cases h
    simp (implicitDefEqProofs := false) only [go_sem, b74, R74, E9, e1, Nat.reduceEqDiff, Nat.reduceAdd, Nat.reduceLeDiff, ↓reduceIte, reduceCtorEq]
  · obtain ⟨r1, e2, h⟩ := bnd h
    rcases ifB h with ⟨e3, h⟩ | ⟨e3, h⟩
    · cases h
      simp (implicitDefEqProofs := false) only [go_sem, b74, R74, E9, e1, laws_eqValue_run e2, e3, Nat.reduceEqDiff, Nat.reduceAdd, Nat.reduceLeDiff, ↓reduceIte, reduceCtorEq]
    · cases h
      simp (implicitDefEqProofs := false) only [go_sem, b74, R74, E9, e1, laws_eqValue_run e2, e3, Nat.reduceEqDiff, Nat.reduceAdd, Nat.reduceLeDiff, ↓reduceIte, reduceCtorEq]
theorem laws_eqPropS_of (x0 x1 : List TProp) {r : Bool} (h : (if !(decide ((x0.length : Int) = (x1.length : Int))) then some false
  else laws_eqPropS_b1 x0 x1 0) = some r) : laws_eqPropS x0 x1 = some r := by
  refine Fn.of L_eq E9_inj (fi := fi45) rfl rfl ?_
  simp only [fi45]
  rcases ifB h with ⟨e1, h⟩ | ⟨e1, h⟩
  · cases h
    simp (implicitDefEqProofs := false) only [go_sem, b45, k45_1, g45_1, R45, E9, e1, Nat.reduceEqDiff, Nat.reduceAdd, ↓reduceIte, reduceCtorEq]
  · have q := Blk.run h
    try simp only [go_sem] at q
    simp (implicitDefEqProofs := false) only [go_sem, b45, k45_1, g45_1, e1, Nat.reduceEqDiff, Nat.reduceAdd, ↓reduceIte, reduceCtorEq]
    exact q
theorem laws_eqPropS_b1_of (x0 x1 : List TProp) (x5 : Int) {r : Bool} (h : (if decide (x5 < (x0.length : Int)) then ((rdx x0 x5).bind fun v1 =>
   (rdx x1 x5).bind fun v2 =>
   (laws_eqProp v1 v2).bind fun r3 =>
   if !r3 then some false
   else laws_eqPropS_b1 x0 x1 (w64 (x5 + 1)))
  else some true) = some r) : laws_eqPropS_b1 x0 x1 x5 = some r := by
  refine Blk.of E9_inj ?_
  refine D_start (c' := d45_1) rfl ?_
  rcases ifB h with ⟨e1, h⟩ | ⟨e1, h⟩
  · obtain ⟨v1, e2, h⟩ := bnd h
    obtain ⟨v2, e3, h⟩ := bnd h
    obtain ⟨r3, e4, h⟩ := bnd h
    rcases ifB h with ⟨e5, h⟩ | ⟨e5, h⟩
    · cases h
      simp (implicitDefEqProofs := false) only [go_sem, d45_1, k45_1, g45_1, R45, E9, e1, rdp e2, rdm eTProp e2, rdm eTProp e3, laws_eqProp_run e4, e5, Nat.reduceEqDiff, Nat.reduceAdd, Nat.reduceLeDiff, ↓reduceIte, reduceCtorEq]
    · have q := Blk.run h
      try simp only [go_sem] at q
      simp (implicitDefEqProofs := false) only [go_sem, d45_1, k45_1, g45_1, e1, rdp e2, rdm eTProp e2, rdm eTProp e3, laws_eqProp_run e4, e5, Nat.reduceEqDiff, Nat.reduceAdd, Nat.reduceLeDiff, ↓reduceIte, reduceCtorEq]
      exact q
  · cases h
    simp (implicitDefEqProofs := false) only [go_sem, d45_1, k45_1, g45_1, R45, E9, e1, Nat.reduceEqDiff, Nat.reduceAdd, ↓reduceIte, reduceCtorEq]
theorem laws_eqTree_v_of (x0 x1 : TTree) {r : Bool} (h : (if !(decide (x0.Tag = x1.Tag)) then some false
  else (if !(decide (x0.Key = x1.Key)) then some false
   else (if !(decide (x0.Text = x1.Text)) then some false
    else ((laws_eqPropS x0.Props x1.Props).bind fun r1 =>
     if !r1 then some false
     else ((laws_eqTreeS x0.Kids x1.Kids).bind fun r2 =>
      if !r2 then some false
      else some true))))) = some r) : laws_eqTree_v x0 x1 = some r := by
  refine Fn.of L_eq E9_inj (fi := fi14) rfl rfl ?_
  simp only [fi14]
  rcases ifB h with ⟨e1, h⟩ | ⟨e1, h⟩
  · cases h
    simp (implicitDefEqProofs := false) only [go_sem, b14, R14, E9, e1, Nat.reduceEqDiff, Nat.reduceAdd, Nat.reduceLeDiff, ↓reduceIte, reduceCtorEq]
  · rcases ifB h with ⟨e2, h⟩ | ⟨e2, h⟩
    · cases h
      simp (implicitDefEqProofs := false) only [go_sem, b14, R14, E9, e1, e2, Nat.reduceEqDiff, Nat.reduceAdd, Nat.reduceLeDiff, ↓reduceIte, reduceCtorEq]
    · rcases ifB h with ⟨e3, h⟩ | ⟨e3, h⟩
      · cases h
        simp (implicitDefEqProofs := false) only [go_sem, b14, R14, E9, e1, e2, e3, Nat.reduceEqDiff, Nat.reduceAdd, Nat.reduceLeDiff, ↓reduceIte, reduceCtorEq]
      · obtain ⟨r1, e4, h⟩ := bnd h
        rcases ifB h with ⟨e5, h⟩ | ⟨e5, h⟩
        · cases h
          simp (implicitDefEqProofs := false) only [go_sem, b14, R14, E9, e1, e2, e3, laws_eqPropS_run e4, e5, Nat.reduceEqDiff, Nat.reduceAdd, Nat.reduceLeDiff, ↓reduceIte, reduceCtorEq]
        · obtain ⟨r2, e6, h⟩ := bnd h
          rcases ifB h with ⟨e7, h⟩ | ⟨e7, h⟩
          · cases h
            simp (implicitDefEqProofs := false) only [go_sem, b14, R14, E9, e1, e2, e3, laws_eqPropS_run e4, e5, laws_eqTreeS_run e6, e7, Nat.reduceEqDiff, Nat.reduceAdd, Nat.reduceLeDiff, ↓reduceIte, reduceCtorEq]
          · cases h
            simp (implicitDefEqProofs := false) only [go_sem, b14, R14, E9, e1, e2, e3, laws_eqPropS_run e4, e5, laws_eqTreeS_run e6, e7, Nat.reduceEqDiff, Nat.reduceAdd, Nat.reduceLeDiff, ↓reduceIte, reduceCtorEq]
theorem laws_eqTreeS_of (x0 x1 : List TTree) {r : Bool} (h : (if !(decide ((x0.length : Int) = (x1.length : Int))) then some false
  else laws_eqTreeS_b1 x0 x1 0) = some r) : laws_eqTreeS x0 x1 = some r := by
  refine Fn.of L_eq E9_inj (fi := fi46) rfl rfl ?_
  simp only [fi46]
  rcases ifB h with ⟨e1, h⟩ | ⟨e1, h⟩
  · cases h
    simp (implicitDefEqProofs := false) only [go_sem, b46, k46_1, g46_1, R46, E9, e1, Nat.reduceEqDiff, Nat.reduceAdd, ↓reduceIte, reduceCtorEq]
  · have q := Blk.run h
    try simp only [go_sem] at q
    simp (implicitDefEqProofs := false) only [go_sem, b46, k46_1, g46_1, e1, Nat.reduceEqDiff, Nat.reduceAdd, ↓reduceIte, reduceCtorEq]
    exact q
theorem laws_eqTreeS_b1_of (x0 x1 : List TTree) (x5 : Int) {r : Bool} (h : (if decide (x5 < (x0.length : Int)) then ((rdx x0 x5).bind fun v1 =>
   (rdx x1 x5).bind fun v2 =>
   (laws_eqTree_v v1 v2).bind fun r3 =>
   if !r3 then some false
   else laws_eqTreeS_b1 x0 x1 (w64 (x5 + 1)))
  else some true) = some r) : laws_eqTreeS_b1 x0 x1 x5 = some r := by
  refine Blk.of E9_inj ?_
  refine D_start (c' := d46_1) rfl ?_
  rcases ifB h with ⟨e1, h⟩ | ⟨e1, h⟩
  · obtain ⟨v1, e2, h⟩ := bnd h
    obtain ⟨v2, e3, h⟩ := bnd h
    obtain ⟨r3, e4, h⟩ := bnd h
    rcases ifB h with ⟨e5, h⟩ | ⟨e5, h⟩
    · cases h
      simp (implicitDefEqProofs := false) only [go_sem, d46_1, k46_1, g46_1, R46, E9, e1, rdp e2, rdm (eTTree .bor) e2, rdm (eTTree .sh) e3, laws_eqTree_v_run e4, e5, Nat.reduceEqDiff, Nat.reduceAdd, Nat.reduceLeDiff, ↓reduceIte, reduceCtorEq]
    · have q := Blk.run h
      try simp only [go_sem] at q
      simp (implicitDefEqProofs := false) only [go_sem, d46_1, k46_1, g46_1, e1, rdp e2, rdm (eTTree .bor) e2, rdm (eTTree .sh) e3, laws_eqTree_v_run e4, e5, Nat.reduceEqDiff, Nat.reduceAdd, Nat.reduceLeDiff, ↓reduceIte, reduceCtorEq]
      exact q
  · cases h
    simp (implicitDefEqProofs := false) only [go_sem, d46_1, k46_1, g46_1, R46, E9, e1, Nat.reduceEqDiff, Nat.reduceAdd, ↓reduceIte, reduceCtorEq]
theorem laws_eqTree_of (x0 x1 : TTree) {r : Bool} (h : (if !(decide (x0.Tag = x1.Tag)) then some false
  else (if !(decide (x0.Key = x1.Key)) then some false
   else (if !(decide (x0.Text = x1.Text)) then some false
    else ((laws_eqPropS x0.Props x1.Props).bind fun r1 =>
     if !r1 then some false
     else ((laws_eqTreeS x0.Kids x1.Kids).bind fun r2 =>
      if !r2 then some false
      else some true))))) = some r) : laws_eqTree x0 x1 = some r := by
  refine Fn.of L_eq E9_inj (fi := fi14) rfl rfl ?_
  simp only [fi14]
  rcases ifB h with ⟨e1, h⟩ | ⟨e1, h⟩
  · cases h
    simp (implicitDefEqProofs := false) only [go_sem, b14, R14, E9, e1, Nat.reduceEqDiff, Nat.reduceAdd, Nat.reduceLeDiff, ↓reduceIte, reduceCtorEq]
  · rcases ifB h with ⟨e2, h⟩ | ⟨e2, h⟩
    · cases h
      simp (implicitDefEqProofs := false) only [go_sem, b14, R14, E9, e1, e2, Nat.reduceEqDiff, Nat.reduceAdd, Nat.reduceLeDiff, ↓reduceIte, reduceCtorEq]
    · rcases ifB h with ⟨e3, h⟩ | ⟨e3, h⟩
      · cases h
        simp (implicitDefEqProofs := false) only [go_sem, b14, R14, E9, e1, e2, e3, Nat.reduceEqDiff, Nat.reduceAdd, Nat.reduceLeDiff, ↓reduceIte, reduceCtorEq]
      · obtain ⟨r1, e4, h⟩ := bnd h
        rcases ifB h with ⟨e5, h⟩ | ⟨e5, h⟩
        · cases h
          simp (implicitDefEqProofs := false) only [go_sem, b14, R14, E9, e1, e2, e3, laws_eqPropS_run e4, e5, Nat.reduceEqDiff, Nat.reduceAdd, Nat.reduceLeDiff, ↓reduceIte, reduceCtorEq]
        · obtain ⟨r2, e6, h⟩ := bnd h
          rcases ifB h with ⟨e7, h⟩ | ⟨e7, h⟩
          · cases h
            simp (implicitDefEqProofs := false) only [go_sem, b14, R14, E9, e1, e2, e3, laws_eqPropS_run e4, e5, laws_eqTreeS_run e6, e7, Nat.reduceEqDiff, Nat.reduceAdd, Nat.reduceLeDiff, ↓reduceIte, reduceCtorEq]
          · cases h
            simp (implicitDefEqProofs := false) only [go_sem, b14, R14, E9, e1, e2, e3, laws_eqPropS_run e4, e5, laws_eqTreeS_run e6, e7, Nat.reduceEqDiff, Nat.reduceAdd, Nat.reduceLeDiff, ↓reduceIte, reduceCtorEq]
theorem laws_eqRule_of (x0 x1 : TRule) {r : Bool} (h : (if !(decide (x0.Tag = x1.Tag)) then some false
  else (if !(decide (x0.Above = x1.Above)) then some false
   else (if !(decide (x0.Name = x1.Name)) then some false
    else ((laws_eqValue x0.Val x1.Val).bind fun r1 =>
     if !r1 then some false
     else (if !(decide (x0.Look = x1.Look)) then some false
      else (if !(decide (x0.Give = x1.Give)) then some false
       else some true)))))) = some r) : laws_eqRule x0 x1 = some r := by
  refine Fn.of L_eq E9_inj (fi := fi47) rfl rfl ?_
  simp only [fi47]
  rcases ifB h with ⟨e1, h⟩ | ⟨e1, h⟩
  · cases h
    simp (implicitDefEqProofs := false) only [go_sem, b47, R47, E9, e1, Nat.reduceEqDiff, Nat.reduceAdd, Nat.reduceLeDiff, ↓reduceIte, reduceCtorEq]
  · rcases ifB h with ⟨e2, h⟩ | ⟨e2, h⟩
    · cases h
      simp (implicitDefEqProofs := false) only [go_sem, b47, R47, E9, e1, e2, Nat.reduceEqDiff, Nat.reduceAdd, Nat.reduceLeDiff, ↓reduceIte, reduceCtorEq]
    · rcases ifB h with ⟨e3, h⟩ | ⟨e3, h⟩
      · cases h
        simp (implicitDefEqProofs := false) only [go_sem, b47, R47, E9, e1, e2, e3, Nat.reduceEqDiff, Nat.reduceAdd, Nat.reduceLeDiff, ↓reduceIte, reduceCtorEq]
      · obtain ⟨r1, e4, h⟩ := bnd h
        rcases ifB h with ⟨e5, h⟩ | ⟨e5, h⟩
        · cases h
          simp (implicitDefEqProofs := false) only [go_sem, b47, R47, E9, e1, e2, e3, laws_eqValue_run e4, e5, Nat.reduceEqDiff, Nat.reduceAdd, Nat.reduceLeDiff, ↓reduceIte, reduceCtorEq]
        · rcases ifB h with ⟨e6, h⟩ | ⟨e6, h⟩
          · cases h
            simp (implicitDefEqProofs := false) only [go_sem, b47, R47, E9, e1, e2, e3, laws_eqValue_run e4, e5, e6, Nat.reduceEqDiff, Nat.reduceAdd, Nat.reduceLeDiff, ↓reduceIte, reduceCtorEq]
          · rcases ifB h with ⟨e7, h⟩ | ⟨e7, h⟩
            · cases h
              simp (implicitDefEqProofs := false) only [go_sem, b47, R47, E9, e1, e2, e3, laws_eqValue_run e4, e5, e6, e7, Nat.reduceEqDiff, Nat.reduceAdd, Nat.reduceLeDiff, ↓reduceIte, reduceCtorEq]
            · cases h
              simp (implicitDefEqProofs := false) only [go_sem, b47, R47, E9, e1, e2, e3, laws_eqValue_run e4, e5, e6, e7, Nat.reduceEqDiff, Nat.reduceAdd, Nat.reduceLeDiff, ↓reduceIte, reduceCtorEq]
theorem laws_eqRuleS_of (x0 x1 : List TRule) {r : Bool} (h : (if !(decide ((x0.length : Int) = (x1.length : Int))) then some false
  else laws_eqRuleS_b1 x0 x1 0) = some r) : laws_eqRuleS x0 x1 = some r := by
  refine Fn.of L_eq E9_inj (fi := fi15) rfl rfl ?_
  simp only [fi15]
  rcases ifB h with ⟨e1, h⟩ | ⟨e1, h⟩
  · cases h
    simp (implicitDefEqProofs := false) only [go_sem, b15, k15_1, g15_1, R15, E9, e1, Nat.reduceEqDiff, Nat.reduceAdd, ↓reduceIte, reduceCtorEq]
  · have q := Blk.run h
    try simp only [go_sem] at q
    simp (implicitDefEqProofs := false) only [go_sem, b15, k15_1, g15_1, e1, Nat.reduceEqDiff, Nat.reduceAdd, ↓reduceIte, reduceCtorEq]
    exact q
theorem laws_eqRuleS_b1_of (x0 x1 : List TRule) (x5 : Int) {r : Bool} (h : (if decide (x5 < (x0.length : Int)) then ((rdx x0 x5).bind fun v1 =>
   (rdx x1 x5).bind fun v2 =>
   (laws_eqRule v1 v2).bind fun r3 =>
   if !r3 then some false
   else laws_eqRuleS_b1 x0 x1 (w64 (x5 + 1)))
  else some true) = some r) : laws_eqRuleS_b1 x0 x1 x5 = some r := by
  refine Blk.of E9_inj ?_
  refine D_start (c' := d15_1) rfl ?_
  rcases ifB h with ⟨e1, h⟩ | ⟨e1, h⟩
  · obtain ⟨v1, e2, h⟩ := bnd h
    obtain ⟨v2, e3, h⟩ := bnd h
    obtain ⟨r3, e4, h⟩ := bnd h
    rcases ifB h with ⟨e5, h⟩ | ⟨e5, h⟩
    · cases h
      simp (implicitDefEqProofs := false) only [go_sem, d15_1, k15_1, g15_1, R15, E9, e1, rdp e2, rdm eTRule e2, rdm eTRule e3, laws_eqRule_run e4, e5, Nat.reduceEqDiff, Nat.reduceAdd, Nat.reduceLeDiff, ↓reduceIte, reduceCtorEq]
    · have q := Blk.run h
      try simp only [go_sem] at q
      simp (implicitDefEqProofs := false) only [go_sem, d15_1, k15_1, g15_1, e1, rdp e2, rdm eTRule e2, rdm eTRule e3, laws_eqRule_run e4, e5, Nat.reduceEqDiff, Nat.reduceAdd, Nat.reduceLeDiff, ↓reduceIte, reduceCtorEq]
      exact q
  · cases h
    simp (implicitDefEqProofs := false) only [go_sem, d15_1, k15_1, g15_1, R15, E9, e1, Nat.reduceEqDiff, Nat.reduceAdd, ↓reduceIte, reduceCtorEq]
theorem laws_markText_of (x0 : Int) {r : Str} (h : (if decide (x0 ≤ 0) then some ([109, 48])
  else laws_markText_b1 x0 []) = some r) : laws_markText x0 = some r := by
  refine Fn.of L_eq E10_inj (fi := fi56) rfl rfl ?_
  simp only [fi56]
  rcases ifB h with ⟨e1, h⟩ | ⟨e1, h⟩
  · cases h
    simp (implicitDefEqProofs := false) only [go_sem, b56, k56_1, g56_1, R56, E10, e1, Nat.reduceEqDiff, Nat.reduceAdd, ↓reduceIte, reduceCtorEq]
  · have q := Blk.run h
    try simp only [go_sem] at q
    simp (implicitDefEqProofs := false) only [go_sem, b56, k56_1, g56_1, e1, Nat.reduceEqDiff, Nat.reduceAdd, ↓reduceIte, reduceCtorEq]
    exact q
theorem laws_markText_b1_of (x0 : Int) (x3 : Str) {r : Str} (h : (if decide (0 < x0) then ((tos ([IntKind.wrap .u8 (w64 (48 + (x0.tmod 10)))])).bind fun v1 =>
   if v1.length + x3.length ≤ 9223372036854775807 then laws_markText_b1 (w64 (x0.tdiv 10)) (v1 ++ x3)
   else none)
  else (if ([109]).length + x3.length ≤ 9223372036854775807 then some (([109]) ++ x3)
   else none)) = some r) : laws_markText_b1 x0 x3 = some r := by
  refine Blk.of E10_inj ?_
  refine D_start (c' := d56_1) rfl ?_
  rcases ifB h with ⟨e1, h⟩ | ⟨e1, h⟩
  · obtain ⟨v1, e2, h⟩ := bnd h
    have me2 := tosm e2
    try simp only [go_sem] at me2
    obtain ⟨e3, h⟩ := ifP h
    have me3 := e3
    try simp only [go_sem, Int.reduceMul, Nat.reduceEqDiff, Nat.reduceAdd, Nat.reduceMul, Nat.reduceSub, Nat.reduceLeDiff, Int.reduceLE, Int.reduceLT, Int.reduceEq, ↓reduceIte, reduceCtorEq, Nat.beq_eq_true_eq, Nat.reduceBEq] at me3
    have q := Blk.run h
    try simp only [go_sem] at q
    simp (implicitDefEqProofs := false) only [go_sem, d56_1, k56_1, g56_1, e1, me2, e3, Nat.reduceEqDiff, Nat.reduceAdd, Nat.reduceLeDiff, Int.reduceEq, ↓reduceIte, reduceCtorEq]
    exact q
  · obtain ⟨e4, h⟩ := ifP h
    have me4 := e4
    try simp only [go_sem, Nat.reduceAdd] at me4
    cases h
    simp (implicitDefEqProofs := false) only [go_sem, d56_1, k56_1, g56_1, R56, E10, e1, me4, Nat.reduceEqDiff, Nat.reduceAdd, ↓reduceIte, reduceCtorEq]
theorem laws_markPropS_of (x0 : List TProp) (x1 : Int) {r : Int × (List TProp)} (h : (laws_markPropS_b1 x0 x1 0) = some r) : laws_markPropS x0 x1 = some r := by
  refine Fn.of L_eq E24_inj (fi := fi54) rfl rfl ?_
  simp only [fi54]
  have q := Blk.run h
  try simp only [go_sem] at q
  simp (implicitDefEqProofs := false) only [go_sem, b54, k54_1, g54_1, Nat.reduceEqDiff, Nat.reduceAdd, ↓reduceIte, reduceCtorEq]
  exact q
theorem laws_markPropS_b1_of (x0 : List TProp) (x1 x5 : Int) {r : Int × (List TProp)} (h : (if decide (x5 < (x0.length : Int)) then ((rdx x0 x5).bind fun v1 =>
   (rdx (x0.set x5.toNat (⟨x1, v1.Val⟩ : TProp)) x5).bind fun v2 =>
   (rdx ((x0.set x5.toNat (⟨x1, v1.Val⟩ : TProp)).set x5.toNat (⟨v2.Name, (⟨w64 (x1 + 1), v2.Val.Num, v2.Val.Text⟩ : TValue)⟩ : TProp)) x5).bind fun v3 =>
   (laws_markText (w64 ((w64 ((w64 (x1 + 1)) + 1)) + 1))).bind fun r4 =>
   (rdx (((x0.set x5.toNat (⟨x1, v1.Val⟩ : TProp)).set x5.toNat (⟨v2.Name, (⟨w64 (x1 + 1), v2.Val.Num, v2.Val.Text⟩ : TValue)⟩ : TProp)).set x5.toNat (⟨v3.Name, (⟨v3.Val.Kind, w64 ((w64 (x1 + 1)) + 1), v3.Val.Text⟩ : TValue)⟩ : TProp)) x5).bind fun v5 =>
   laws_markPropS_b1 ((((x0.set x5.toNat (⟨x1, v1.Val⟩ : TProp)).set x5.toNat (⟨v2.Name, (⟨w64 (x1 + 1), v2.Val.Num, v2.Val.Text⟩ : TValue)⟩ : TProp)).set x5.toNat (⟨v3.Name, (⟨v3.Val.Kind, w64 ((w64 (x1 + 1)) + 1), v3.Val.Text⟩ : TValue)⟩ : TProp)).set x5.toNat (⟨v5.Name, (⟨v5.Val.Kind, v5.Val.Num, r4⟩ : TValue)⟩ : TProp)) (w64 ((w64 ((w64 ((w64 (x1 + 1)) + 1)) + 1)) + 1)) (w64 (x5 + 1)))
  else some (x1, x0)) = some r) : laws_markPropS_b1 x0 x1 x5 = some r := by
  refine Blk.of E24_inj ?_
  refine D_start (c' := d54_1) rfl ?_
  rcases ifB h with ⟨e1, h⟩ | ⟨e1, h⟩
  · obtain ⟨v1, e2, h⟩ := bnd h
    obtain ⟨v2, e3, h⟩ := bnd h
    have me3 := rdm eTProp e3
    try simp only [go_sem] at me3
    obtain ⟨v3, e4, h⟩ := bnd h
    have me4 := rdm eTProp e4
    try simp only [go_sem] at me4
    obtain ⟨r4, e5, h⟩ := bnd h
    obtain ⟨v5, e6, h⟩ := bnd h
    have me6 := rdm eTProp e6
    try simp only [go_sem] at me6
    have q := Blk.run h
    try simp only [go_sem] at q
    simp (implicitDefEqProofs := false) only [go_sem, d54_1, k54_1, g54_1, e1, rdp e2, rdm eTProp e2, me3, me4, laws_markText_run e5, me6, Nat.reduceEqDiff, Nat.reduceAdd, Nat.reduceLeDiff, ↓reduceIte, reduceCtorEq]
    exact q
  · cases h
    simp (implicitDefEqProofs := false) only [go_sem, d54_1, k54_1, g54_1, R54, E24, e1, Nat.reduceEqDiff, Nat.reduceAdd, ↓reduceIte, reduceCtorEq, Nat.reduceBEq]
theorem laws_markTreeS_of (x0 : List TTree) (x1 : Int) {r : Int × (List TTree)} (h : (laws_markTreeS_b1 x0 x1 0) = some r) : laws_markTreeS x0 x1 = some r := by
  refine Fn.of L_eq E25_inj (fi := fi55) rfl rfl ?_
  simp only [fi55]
  have q := Blk.run h
  try simp only [go_sem] at q
  simp (implicitDefEqProofs := false) only [go_sem, b55, k55_1, g55_1, Nat.reduceEqDiff, Nat.reduceAdd, ↓reduceIte, reduceCtorEq]
  exact q
theorem laws_markTreeS_b1_of (x0 : List TTree) (x1 x5 : Int) {r : Int × (List TTree)} (h : (if decide (x5 < (x0.length : Int)) then ((rdx x0 x5).bind fun v1 =>
   (rdx (x0.set x5.toNat (⟨x1, v1.Key, v1.Text, v1.Props, v1.Kids⟩ : TTree)) x5).bind fun v2 =>
   (laws_markText (w64 ((w64 (x1 + 1)) + 1))).bind fun r3 =>
   (rdx ((x0.set x5.toNat (⟨x1, v1.Key, v1.Text, v1.Props, v1.Kids⟩ : TTree)).set x5.toNat (⟨v2.Tag, w64 (x1 + 1), v2.Text, v2.Props, v2.Kids⟩ : TTree)) x5).bind fun v4 =>
   (rdx (((x0.set x5.toNat (⟨x1, v1.Key, v1.Text, v1.Props, v1.Kids⟩ : TTree)).set x5.toNat (⟨v2.Tag, w64 (x1 + 1), v2.Text, v2.Props, v2.Kids⟩ : TTree)).set x5.toNat (⟨v4.Tag, v4.Key, r3, v4.Props, v4.Kids⟩ : TTree)) x5).bind fun v5 =>
   (laws_markPropS v5.Props (w64 ((w64 ((w64 (x1 + 1)) + 1)) + 1))).bind fun r6 =>
   (rdx ((((x0.set x5.toNat (⟨x1, v1.Key, v1.Text, v1.Props, v1.Kids⟩ : TTree)).set x5.toNat (⟨v2.Tag, w64 (x1 + 1), v2.Text, v2.Props, v2.Kids⟩ : TTree)).set x5.toNat (⟨v4.Tag, v4.Key, r3, v4.Props, v4.Kids⟩ : TTree)).set x5.toNat (⟨v5.Tag, v5.Key, v5.Text, r6.2, v5.Kids⟩ : TTree)) x5).bind fun v7 =>
   (laws_markTreeS v7.Kids r6.1).bind fun r8 =>
   laws_markTreeS_b1 (((((x0.set x5.toNat (⟨x1, v1.Key, v1.Text, v1.Props, v1.Kids⟩ : TTree)).set x5.toNat (⟨v2.Tag, w64 (x1 + 1), v2.Text, v2.Props, v2.Kids⟩ : TTree)).set x5.toNat (⟨v4.Tag, v4.Key, r3, v4.Props, v4.Kids⟩ : TTree)).set x5.toNat (⟨v5.Tag, v5.Key, v5.Text, r6.2, v5.Kids⟩ : TTree)).set x5.toNat (⟨v7.Tag, v7.Key, v7.Text, v7.Props, r8.2⟩ : TTree)) r8.1 (w64 (x5 + 1)))
  else some (x1, x0)) = some r) : laws_markTreeS_b1 x0 x1 x5 = some r := by
  refine Blk.of E25_inj ?_
  refine D_start (c' := d55_1) rfl ?_
  rcases ifB h with ⟨e1, h⟩ | ⟨e1, h⟩
  · obtain ⟨v1, e2, h⟩ := bnd h
    obtain ⟨v2, e3, h⟩ := bnd h
    have me3 := rdm (eTTree .own) e3
    try simp only [go_sem] at me3
    obtain ⟨r3, e4, h⟩ := bnd h
    obtain ⟨v4, e5, h⟩ := bnd h
    have me5 := rdm (eTTree .own) e5
    try simp only [go_sem] at me5
    obtain ⟨v5, e6, h⟩ := bnd h
    have me6 := rdm (eTTree .own) e6
    try simp only [go_sem] at me6
    obtain ⟨r6, e7, h⟩ := bnd h
    obtain ⟨v7, e8, h⟩ := bnd h
    have me8 := rdm (eTTree .own) e8
    try simp only [go_sem] at me8
    obtain ⟨r8, e9, h⟩ := bnd h
    have q := Blk.run h
    try simp only [go_sem] at q
    simp (implicitDefEqProofs := false) only [go_sem, d55_1, k55_1, g55_1, e1, rdp e2, rdm (eTTree .own) e2, me3, laws_markText_run e4, me5, me6, laws_markPropS_run e7, me8, laws_markTreeS_run e9, Nat.reduceEqDiff, Nat.reduceAdd, Nat.reduceLeDiff, ↓reduceIte, reduceCtorEq]
    exact q
  · cases h
    simp (implicitDefEqProofs := false) only [go_sem, d55_1, k55_1, g55_1, R55, E25, e1, Nat.reduceEqDiff, Nat.reduceAdd, ↓reduceIte, reduceCtorEq, Nat.reduceBEq]
theorem laws_markTree_of (x0 : TTree) (x1 : Int) {r : Int} (h : ((laws_markPropS x0.Props x1).bind fun r1 =>
  (laws_markTreeS x0.Kids r1.1).bind fun r2 =>
  some r2.1) = some r) : laws_markTree x0 x1 = some r := by
  refine Fn.of L_eq E1_inj (fi := fi19) rfl rfl ?_
  simp only [fi19]
  obtain ⟨r1, e1, h⟩ := bnd h
  obtain ⟨r2, e2, h⟩ := bnd h
  cases h
  simp (implicitDefEqProofs := false) only [go_sem, b19, R19, E1, laws_markPropS_run e1, laws_markTreeS_run e2, Nat.reduceEqDiff, Nat.reduceAdd, Nat.reduceLeDiff, ↓reduceIte, reduceCtorEq]
end Go.Fw.Law
