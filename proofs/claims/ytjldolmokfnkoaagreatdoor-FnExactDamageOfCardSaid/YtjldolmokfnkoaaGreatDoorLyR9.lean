/- What the functions come to. Conditions: none. -/
import Derived.Test.YtjldolmokfnkoaaGreatDoorLyD
namespace Go.Fw.Law
open Go Go.Fw
theorem laws_eqPropS_of (x0 x1 : List TProp) {r : Bool} (h : (if !(decide ((x0.length : Int) = (x1.length : Int))) then some false
  else laws_eqPropS_b1 x0 x1 0) = some r) : laws_eqPropS x0 x1 = some r := by
  refine Fn.of L_eq E9_inj (fi := fi45) rfl rfl ?_
  simp only [fi45]
  rcases ifB h with ⟨e1, h⟩ | ⟨e1, h⟩
  · cases h
    simp (implicitDefEqProofs := false) only [go_sem, b45, k45_1, g45_1, R45, E9, e1, Nat.reduceEqDiff, Nat.reduceAdd, ↓reduceIte, reduceCtorEq]
  · have q := Blk.run h
    try simp only [go_sem] at q
    simp (implicitDefEqProofs := false) only [go_sem, b45, k45_1, g45_1, e1, Nat.reduceEqDiff, Nat.reduceAdd, ↓reduceIte, reduceCtorEq]
    exact q
theorem laws_eqPropS_b1_of (x0 x1 : List TProp) (x5 : Int) {r : Bool} (h : (if decide (x5 < (x0.length : Int)) then ((rdx x0 x5).bind fun v1 =>
   (rdx x1 x5).bind fun v2 =>
   (laws_eqProp v1 v2).bind fun r3 =>
   if !r3 then some false
   else laws_eqPropS_b1 x0 x1 (w64 (x5 + 1)))
  else some true) = some r) : laws_eqPropS_b1 x0 x1 x5 = some r := by
  refine Blk.of E9_inj ?_
  refine D_start (c' := d45_1) rfl ?_
  rcases ifB h with ⟨e1, h⟩ | ⟨e1, h⟩
  · obtain ⟨v1, e2, h⟩ := bnd h
    obtain ⟨v2, e3, h⟩ := bnd h
    obtain ⟨r3, e4, h⟩ := bnd h
    rcases ifB h with ⟨e5, h⟩ | ⟨e5, h⟩
    · cases h
      simp (implicitDefEqProofs := false) only [go_sem, d45_1, k45_1, g45_1, R45, E9, e1, rdp e2, rdm eTProp e2, rdm eTProp e3, laws_eqProp_run e4, e5, Nat.reduceEqDiff, Nat.reduceAdd, Nat.reduceLeDiff, ↓reduceIte, reduceCtorEq]
    · have q := Blk.run h
      try simp only [go_sem] at q
      simp (implicitDefEqProofs := false) only [go_sem, d45_1, k45_1, g45_1, e1, rdp e2, rdm eTProp e2, rdm eTProp e3, laws_eqProp_run e4, e5, Nat.reduceEqDiff, Nat.reduceAdd, Nat.reduceLeDiff, ↓reduceIte, reduceCtorEq]
      exact q
  · cases h
    simp (implicitDefEqProofs := false) only [go_sem, d45_1, k45_1, g45_1, R45, E9, e1, Nat.reduceEqDiff, Nat.reduceAdd, ↓reduceIte, reduceCtorEq]
theorem laws_eqTree_v_of (x0 x1 : TTree) {r : Bool} (h : (if !(decide (x0.Tag = x1.Tag)) then some false
  else (if !(decide (x0.Key = x1.Key)) then some false
   else (if !(decide (x0.Text = x1.Text)) then some false
    else ((laws_eqPropS x0.Props x1.Props).bind fun r1 =>
     if !r1 then some false
     else ((laws_eqTreeS x0.Kids x1.Kids).bind fun r2 =>
      if !r2 then some false
      else some true))))) = some r) : laws_eqTree_v x0 x1 = some r := by
  refine Fn.of L_eq E9_inj (fi := fi14) rfl rfl ?_
  simp only [fi14]
  rcases ifB h with ⟨e1, h⟩ | ⟨e1, h⟩
  · cases h
    simp (implicitDefEqProofs := false) only [go_sem, b14, R14, E9, e1, Nat.reduceEqDiff, Nat.reduceAdd, Nat.reduceLeDiff, ↓reduceIte, reduceCtorEq]
  · rcases ifB h with ⟨e2, h⟩ | ⟨e2, h⟩
    · cases h
      simp (implicitDefEqProofs := false) only [go_sem, b14, R14, E9, e1, e2, Nat.reduceEqDiff, Nat.reduceAdd, Nat.reduceLeDiff, ↓reduceIte, reduceCtorEq]
    · rcases ifB h with ⟨e3, h⟩ | ⟨e3, h⟩
      · cases h
        simp (implicitDefEqProofs := false) only [go_sem, b14, R14, E9, e1, e2, e3, Nat.reduceEqDiff, Nat.reduceAdd, Nat.reduceLeDiff, ↓reduceIte, reduceCtorEq]
      · obtain ⟨r1, e4, h⟩ := bnd h
        rcases ifB h with ⟨e5, h⟩ | ⟨e5, h⟩
        · cases h
          simp (implicitDefEqProofs := false) only [go_sem, b14, R14, E9, e1, e2, e3, laws_eqPropS_run e4, e5, Nat.reduceEqDiff, Nat.reduceAdd, Nat.reduceLeDiff, ↓reduceIte, reduceCtorEq]
        · obtain ⟨r2, e6, h⟩ := bnd h
          rcases ifB h with ⟨e7, h⟩ | ⟨e7, h⟩
          · cases h
            simp (implicitDefEqProofs := false) only [go_sem, b14, R14, E9, e1, e2, e3, laws_eqPropS_run e4, e5, laws_eqTreeS_run e6, e7, Nat.reduceEqDiff, Nat.reduceAdd, Nat.reduceLeDiff, ↓reduceIte, reduceCtorEq]
          · cases h
            simp (implicitDefEqProofs := false) only [go_sem, b14, R14, E9, e1, e2, e3, laws_eqPropS_run e4, e5, laws_eqTreeS_run e6, e7, Nat.reduceEqDiff, Nat.reduceAdd, Nat.reduceLeDiff, ↓reduceIte, reduceCtorEq]
theorem laws_eqTreeS_of (x0 x1 : List TTree) {r : Bool} (h : (if !(decide ((x0.length : Int) = (x1.length : Int))) then some false
  else laws_eqTreeS_b1 x0 x1 0) = some r) : laws_eqTreeS x0 x1 = some r := by
  refine Fn.of L_eq E9_inj (fi := fi46) rfl rfl ?_
  simp only [fi46]
  rcases ifB h with ⟨e1, h⟩ | ⟨e1, h⟩
  · cases h
    simp (implicitDefEqProofs := false) only [go_sem, b46, k46_1, g46_1, R46, E9, e1, Nat.reduceEqDiff, Nat.reduceAdd, ↓reduceIte, reduceCtorEq]
  · have q := Blk.run h
    try simp only [go_sem] at q
    simp (implicitDefEqProofs := false) only [go_sem, b46, k46_1, g46_1, e1, Nat.reduceEqDiff, Nat.reduceAdd, ↓reduceIte, reduceCtorEq]
    exact q
theorem laws_eqTreeS_b1_of (x0 x1 : List TTree) (x5 : Int) {r : Bool} (h : (if decide (x5 < (x0.length : Int)) then ((rdx x0 x5).bind fun v1 =>
   (rdx x1 x5).bind fun v2 =>
   (laws_eqTree_v v1 v2).bind fun r3 =>
   if !r3 then some false
   else laws_eqTreeS_b1 x0 x1 (w64 (x5 + 1)))
  else some true) = some r) : laws_eqTreeS_b1 x0 x1 x5 = some r := by
  refine Blk.of E9_inj ?_
  refine D_start (c' := d46_1) rfl ?_
  rcases ifB h with ⟨e1, h⟩ | ⟨e1, h⟩
  · obtain ⟨v1, e2, h⟩ := bnd h
    obtain ⟨v2, e3, h⟩ := bnd h
    obtain ⟨r3, e4, h⟩ := bnd h
    rcases ifB h with ⟨e5, h⟩ | ⟨e5, h⟩
    · cases h
      simp (implicitDefEqProofs := false) only [go_sem, d46_1, k46_1, g46_1, R46, E9, e1, rdp e2, rdm (eTTree .sh) e2, rdm (eTTree .sh) e3, laws_eqTree_v_run e4, e5, Nat.reduceEqDiff, Nat.reduceAdd, Nat.reduceLeDiff, ↓reduceIte, reduceCtorEq]
    · have q := Blk.run h
      try simp only [go_sem] at q
      simp (implicitDefEqProofs := false) only [go_sem, d46_1, k46_1, g46_1, e1, rdp e2, rdm (eTTree .sh) e2, rdm (eTTree .sh) e3, laws_eqTree_v_run e4, e5, Nat.reduceEqDiff, Nat.reduceAdd, Nat.reduceLeDiff, ↓reduceIte, reduceCtorEq]
      exact q
  · cases h
    simp (implicitDefEqProofs := false) only [go_sem, d46_1, k46_1, g46_1, R46, E9, e1, Nat.reduceEqDiff, Nat.reduceAdd, ↓reduceIte, reduceCtorEq]
theorem laws_eqTree_of (x0 x1 : TTree) {r : Bool} (h : (if !(decide (x0.Tag = x1.Tag)) then some false
  else (if !(decide (x0.Key = x1.Key)) then some false
   else (if !(decide (x0.Text = x1.Text)) then some false
    else ((laws_eqPropS x0.Props x1.Props).bind fun r1 =>
     if !r1 then some false
     else ((laws_eqTreeS x0.Kids x1.Kids).bind fun r2 =>
      if !r2 then some false
      else some true))))) = some r) : laws_eqTree x0 x1 = some r := by
  refine Fn.of L_eq E9_inj (fi := fi14) rfl rfl ?_
  simp only [fi14]
  rcases ifB h with ⟨e1, h⟩ | ⟨e1, h⟩
  · cases h
    simp (implicitDefEqProofs := false) only [go_sem, b14, R14, E9, e1, Nat.reduceEqDiff, Nat.reduceAdd, Nat.reduceLeDiff, ↓reduceIte, reduceCtorEq]
  · rcases ifB h with ⟨e2, h⟩ | ⟨e2, h⟩
    · cases h
      simp (implicitDefEqProofs := false) only [go_sem, b14, R14, E9, e1, e2, Nat.reduceEqDiff, Nat.reduceAdd, Nat.reduceLeDiff, ↓reduceIte, reduceCtorEq]
    · rcases ifB h with ⟨e3, h⟩ | ⟨e3, h⟩
      · cases h
        simp (implicitDefEqProofs := false) only [go_sem, b14, R14, E9, e1, e2, e3, Nat.reduceEqDiff, Nat.reduceAdd, Nat.reduceLeDiff, ↓reduceIte, reduceCtorEq]
      · obtain ⟨r1, e4, h⟩ := bnd h
        rcases ifB h with ⟨e5, h⟩ | ⟨e5, h⟩
        · cases h
          simp (implicitDefEqProofs := false) only [go_sem, b14, R14, E9, e1, e2, e3, laws_eqPropS_run e4, e5, Nat.reduceEqDiff, Nat.reduceAdd, Nat.reduceLeDiff, ↓reduceIte, reduceCtorEq]
        · obtain ⟨r2, e6, h⟩ := bnd h
          rcases ifB h with ⟨e7, h⟩ | ⟨e7, h⟩
          · cases h
            simp (implicitDefEqProofs := false) only [go_sem, b14, R14, E9, e1, e2, e3, laws_eqPropS_run e4, e5, laws_eqTreeS_run e6, e7, Nat.reduceEqDiff, Nat.reduceAdd, Nat.reduceLeDiff, ↓reduceIte, reduceCtorEq]
          · cases h
            simp (implicitDefEqProofs := false) only [go_sem, b14, R14, E9, e1, e2, e3, laws_eqPropS_run e4, e5, laws_eqTreeS_run e6, e7, Nat.reduceEqDiff, Nat.reduceAdd, Nat.reduceLeDiff, ↓reduceIte, reduceCtorEq]
theorem laws_eqRule_of (x0 x1 : TRule) {r : Bool} (h : (if !(decide (x0.Tag = x1.Tag)) then some false
  else (if !(decide (x0.Above = x1.Above)) then some false
   else (if !(decide (x0.Name = x1.Name)) then some false
    else ((laws_eqValue x0.Val x1.Val).bind fun r1 =>
     if !r1 then some false
     else (if !(decide (x0.Look = x1.Look)) then some false
      else (if !(decide (x0.Give = x1.Give)) then some false
       else some true)))))) = some r) : laws_eqRule x0 x1 = some r := by
  refine Fn.of L_eq E9_inj (fi := fi47) rfl rfl ?_
  simp only [fi47]
  rcases ifB h with ⟨e1, h⟩ | ⟨e1, h⟩
  · cases h
    simp (implicitDefEqProofs := false) only [go_sem, b47, R47, E9, e1, Nat.reduceEqDiff, Nat.reduceAdd, Nat.reduceLeDiff, ↓reduceIte, reduceCtorEq]
  · rcases ifB h with ⟨e2, h⟩ | ⟨e2, h⟩
    · cases h
      simp (implicitDefEqProofs := false) only [go_sem, b47, R47, E9, e1, e2, Nat.reduceEqDiff, Nat.reduceAdd, Nat.reduceLeDiff, ↓reduceIte, reduceCtorEq]
    · rcases ifB h with ⟨e3, h⟩ | ⟨e3, h⟩
      · cases h
        simp (implicitDefEqProofs := false) only [go_sem, b47, R47, E9, e1, e2, e3, Nat.reduceEqDiff, Nat.reduceAdd, Nat.reduceLeDiff, ↓reduceIte, reduceCtorEq]
      · obtain ⟨r1, e4, h⟩ := bnd h
        rcases ifB h with ⟨e5, h⟩ | ⟨e5, h⟩
        · cases h
          simp (implicitDefEqProofs := false) only [go_sem, b47, R47, E9, e1, e2, e3, laws_eqValue_run e4, e5, Nat.reduceEqDiff, Nat.reduceAdd, Nat.reduceLeDiff, ↓reduceIte, reduceCtorEq]
        · rcases ifB h with ⟨e6, h⟩ | ⟨e6, h⟩
          · cases h
            simp (implicitDefEqProofs := false) only [go_sem, b47, R47, E9, e1, e2, e3, laws_eqValue_run e4, e5, e6, Nat.reduceEqDiff, Nat.reduceAdd, Nat.reduceLeDiff, ↓reduceIte, reduceCtorEq]
          · rcases ifB h with ⟨e7, h⟩ | ⟨e7, h⟩
            · cases h
              simp (implicitDefEqProofs := false) only [go_sem, b47, R47, E9, e1, e2, e3, laws_eqValue_run e4, e5, e6, e7, Nat.reduceEqDiff, Nat.reduceAdd, Nat.reduceLeDiff, ↓reduceIte, reduceCtorEq]
            · cases h
              simp (implicitDefEqProofs := false) only [go_sem, b47, R47, E9, e1, e2, e3, laws_eqValue_run e4, e5, e6, e7, Nat.reduceEqDiff, Nat.reduceAdd, Nat.reduceLeDiff, ↓reduceIte, reduceCtorEq]
theorem laws_eqRuleS_of (x0 x1 : List TRule) {r : Bool} (h : (if !(decide ((x0.length : Int) = (x1.length : Int))) then some false
  else laws_eqRuleS_b1 x0 x1 0) = some r) : laws_eqRuleS x0 x1 = some r := by
  refine Fn.of L_eq E9_inj (fi := fi15) rfl rfl ?_
  simp only [fi15]
  rcases ifB h with ⟨e1, h⟩ | ⟨e1, h⟩
  · cases h
    simp (implicitDefEqProofs := false) only [go_sem, b15, k15_1, g15_1, R15, E9, e1, Nat.reduceEqDiff, Nat.reduceAdd, ↓reduceIte, reduceCtorEq]
  · have q := Blk.run h
    try simp only [go_sem] at q
    simp (implicitDefEqProofs := false) only [go_sem, b15, k15_1, g15_1, e1, Nat.reduceEqDiff, Nat.reduceAdd, ↓reduceIte, reduceCtorEq]
    exact q
theorem laws_eqRuleS_b1_of (x0 x1 : List TRule) (x5 : Int) {r : Bool} (h : (if decide (x5 < (x0.length : Int)) then ((rdx x0 x5).bind fun v1 =>
   (rdx x1 x5).bind fun v2 =>
   (laws_eqRule v1 v2).bind fun r3 =>
   if !r3 then some false
   else laws_eqRuleS_b1 x0 x1 (w64 (x5 + 1)))
  else some true) = some r) : laws_eqRuleS_b1 x0 x1 x5 = some r := by
  refine Blk.of E9_inj ?_
  refine D_start (c' := d15_1) rfl ?_
  rcases ifB h with ⟨e1, h⟩ | ⟨e1, h⟩
  · obtain ⟨v1, e2, h⟩ := bnd h
    obtain ⟨v2, e3, h⟩ := bnd h
    obtain ⟨r3, e4, h⟩ := bnd h
    rcases ifB h with ⟨e5, h⟩ | ⟨e5, h⟩
    · cases h
      simp (implicitDefEqProofs := false) only [go_sem, d15_1, k15_1, g15_1, R15, E9, e1, rdp e2, rdm eTRule e2, rdm eTRule e3, laws_eqRule_run e4, e5, Nat.reduceEqDiff, Nat.reduceAdd, Nat.reduceLeDiff, ↓reduceIte, reduceCtorEq]
    · have q := Blk.run h
      try simp only [go_sem] at q
      simp (implicitDefEqProofs := false) only [go_sem, d15_1, k15_1, g15_1, e1, rdp e2, rdm eTRule e2, rdm eTRule e3, laws_eqRule_run e4, e5, Nat.reduceEqDiff, Nat.reduceAdd, Nat.reduceLeDiff, ↓reduceIte, reduceCtorEq]
      exact q
  · cases h
    simp (implicitDefEqProofs := false) only [go_sem, d15_1, k15_1, g15_1, R15, E9, e1, Nat.reduceEqDiff, Nat.reduceAdd, ↓reduceIte, reduceCtorEq]
set_option maxHeartbeats 4000000 in
theorem laws_FnExactDamageOf_of (x0 x1 : TTree) (x2 : List TRule) (x3 x4 : Int) {r : Bool} (h : ((laws_szTree x0 1048576).bind fun r1 =>
  if decide (r1 < 0) then some true
  else ((laws_szTree x1 r1).bind fun r2 =>
   if decide (r2 < 0) then some true
   else ((laws_szRuleS x2 r2).bind fun r3 =>
    if decide (r3 < 0) then some true
    else ((laws_toTree x0).bind fun r4 =>
     (laws_toTree x1).bind fun r5 =>
     (laws_toRuleS x2).bind fun r6 =>
     (spec_DamageOf r4 r5 r6 x3 x4).bind fun r7 =>
     (impl_DamageOf r4 r5 r6 x3 x4).bind fun r8 =>
     (laws_eqBox r8 r7).bind fun r9 =>
     if !r9 then some false
     else ((laws_eqTree r4 r4).bind fun r10 =>
      if !r10 then some false
      else ((laws_eqTree r5 r5).bind fun r11 =>
       if !r11 then some false
       else ((laws_eqRuleS r6 r6).bind fun r12 =>
        if !r12 then some false
        else some true))))))) = some r) : laws_FnExactDamageOf x0 x1 x2 x3 x4 = some r := by
  refine Fn.of L_eq E9_inj (fi := fi5) rfl rfl ?_
  simp only [fi5]
  obtain ⟨r1, e1, h⟩ := bnd h
  rcases ifB h with ⟨e2, h⟩ | ⟨e2, h⟩
  · cases h
    simp (implicitDefEqProofs := false) only [go_sem, b5, R5, E9, laws_szTree_run e1, e2, Nat.reduceEqDiff, Nat.reduceAdd, Nat.reduceLeDiff, ↓reduceIte, reduceCtorEq]
  · obtain ⟨r2, e3, h⟩ := bnd h
    rcases ifB h with ⟨e4, h⟩ | ⟨e4, h⟩
    · cases h
      simp (implicitDefEqProofs := false) only [go_sem, b5, R5, E9, laws_szTree_run e1, e2, laws_szTree_run e3, e4, Nat.reduceEqDiff, Nat.reduceAdd, Nat.reduceLeDiff, ↓reduceIte, reduceCtorEq]
    · obtain ⟨r3, e5, h⟩ := bnd h
      rcases ifB h with ⟨e6, h⟩ | ⟨e6, h⟩
      · cases h
        simp (implicitDefEqProofs := false) only [go_sem, b5, R5, E9, laws_szTree_run e1, e2, laws_szTree_run e3, e4, laws_szRuleS_run e5, e6, Nat.reduceEqDiff, Nat.reduceAdd, Nat.reduceLeDiff, ↓reduceIte, reduceCtorEq]
      · obtain ⟨r4, e7, h⟩ := bnd h
        obtain ⟨r5, e8, h⟩ := bnd h
        obtain ⟨r6, e9, h⟩ := bnd h
        obtain ⟨r7, e10, h⟩ := bnd h
        obtain ⟨r8, e11, h⟩ := bnd h
        obtain ⟨r9, e12, h⟩ := bnd h
        rcases ifB h with ⟨e13, h⟩ | ⟨e13, h⟩
        · cases h
          simp (implicitDefEqProofs := false) only [go_sem, b5, R5, E9, laws_szTree_run e1, e2, laws_szTree_run e3, e4, laws_szRuleS_run e5, e6, laws_toTree_run e7, laws_toTree_run e8, laws_toRuleS_run e9, spec_DamageOf_run e10, impl_DamageOf_run e11, laws_eqBox_run e12, e13, Nat.reduceEqDiff, Nat.reduceAdd, Nat.reduceLeDiff, ↓reduceIte, reduceCtorEq]
        · obtain ⟨r10, e14, h⟩ := bnd h
          rcases ifB h with ⟨e15, h⟩ | ⟨e15, h⟩
          · cases h
            simp (implicitDefEqProofs := false) only [go_sem, b5, R5, E9, laws_szTree_run e1, e2, laws_szTree_run e3, e4, laws_szRuleS_run e5, e6, laws_toTree_run e7, laws_toTree_run e8, laws_toRuleS_run e9, spec_DamageOf_run e10, impl_DamageOf_run e11, laws_eqBox_run e12, e13, laws_eqTree_run e14, e15, Nat.reduceEqDiff, Nat.reduceAdd, Nat.reduceLeDiff, ↓reduceIte, reduceCtorEq]
          · obtain ⟨r11, e16, h⟩ := bnd h
            rcases ifB h with ⟨e17, h⟩ | ⟨e17, h⟩
            · cases h
              simp (implicitDefEqProofs := false) only [go_sem, b5, R5, E9, laws_szTree_run e1, e2, laws_szTree_run e3, e4, laws_szRuleS_run e5, e6, laws_toTree_run e7, laws_toTree_run e8, laws_toRuleS_run e9, spec_DamageOf_run e10, impl_DamageOf_run e11, laws_eqBox_run e12, e13, laws_eqTree_run e14, e15, laws_eqTree_run e16, e17, Nat.reduceEqDiff, Nat.reduceAdd, Nat.reduceLeDiff, ↓reduceIte, reduceCtorEq]
            · obtain ⟨r12, e18, h⟩ := bnd h
              rcases ifB h with ⟨e19, h⟩ | ⟨e19, h⟩
              · cases h
                simp (implicitDefEqProofs := false) only [go_sem, b5, R5, E9, laws_szTree_run e1, e2, laws_szTree_run e3, e4, laws_szRuleS_run e5, e6, laws_toTree_run e7, laws_toTree_run e8, laws_toRuleS_run e9, spec_DamageOf_run e10, impl_DamageOf_run e11, laws_eqBox_run e12, e13, laws_eqTree_run e14, e15, laws_eqTree_run e16, e17, laws_eqRuleS_run e18, e19, Nat.reduceEqDiff, Nat.reduceAdd, Nat.reduceLeDiff, ↓reduceIte, reduceCtorEq]
              · cases h
                simp (implicitDefEqProofs := false) only [go_sem, b5, R5, E9, laws_szTree_run e1, e2, laws_szTree_run e3, e4, laws_szRuleS_run e5, e6, laws_toTree_run e7, laws_toTree_run e8, laws_toRuleS_run e9, spec_DamageOf_run e10, impl_DamageOf_run e11, laws_eqBox_run e12, e13, laws_eqTree_run e14, e15, laws_eqTree_run e16, e17, laws_eqRuleS_run e18, e19, Nat.reduceEqDiff, Nat.reduceAdd, Nat.reduceLeDiff, ↓reduceIte, reduceCtorEq]
end Go.Fw.Law
