/- What the functions come to. Conditions: none. -/
import Derived.Test.YtjldolmokfnkoaaGreatDoorLgD
namespace Go.Fw.Law
open Go Go.Fw
theorem laws_eqRule_of (x0 x1 : TRule) {r : Bool} (h : (if !(decide (x0.Tag = x1.Tag)) then some false
  else (if !(decide (x0.Above = x1.Above)) then some false
   else (if !(decide (x0.Name = x1.Name)) then some false
    else ((laws_eqValue x0.Val x1.Val).bind fun r1 =>
     if !r1 then some false
     else (if !(decide (x0.Look = x1.Look)) then some false
      else (if !(decide (x0.Give = x1.Give)) then some false
       else some true)))))) = some r) : laws_eqRule x0 x1 = some r := by
  refine Fn.of L_eq E9_inj (fi := fi47) rfl rfl ?_
  simp only [fi47]
  rcases ifB h with ⟨e1, h⟩ | ⟨e1, h⟩
  · cases h
    simp (implicitDefEqProofs := false) only [go_sem, b47, R47, E9, e1, Nat.reduceEqDiff, Nat.reduceAdd, Nat.reduceLeDiff, ↓reduceIte, reduceCtorEq]
  · rcases ifB h with ⟨e2, h⟩ | ⟨e2, h⟩
    · cases h
      simp (implicitDefEqProofs := false) only [go_sem, b47, R47, E9, e1, e2, Nat.reduceEqDiff, Nat.reduceAdd, Nat.reduceLeDiff, ↓reduceIte, reduceCtorEq]
    · rcases ifB h with ⟨e3, h⟩ | ⟨e3, h⟩
      · cases h
        simp (implicitDefEqProofs := false) only [go_sem, b47, R47, E9, e1, e2, e3, Nat.reduceEqDiff, Nat.reduceAdd, Nat.reduceLeDiff, ↓reduceIte, reduceCtorEq]
      · obtain ⟨r1, e4, h⟩ := bnd h
        rcases ifB h with ⟨e5, h⟩ | ⟨e5, h⟩
        · cases h
          simp (implicitDefEqProofs := false) only [go_sem, b47, R47, E9, e1, e2, e3, laws_eqValue_run e4, e5, Nat.reduceEqDiff, Nat.reduceAdd, Nat.reduceLeDiff, ↓reduceIte, reduceCtorEq]
        · rcases ifB h with ⟨e6, h⟩ | ⟨e6, h⟩
          · cases h
            simp (implicitDefEqProofs := false) only [go_sem, b47, R47, E9, e1, e2, e3, laws_eqValue_run e4, e5, e6, Nat.reduceEqDiff, Nat.reduceAdd, Nat.reduceLeDiff, ↓reduceIte, reduceCtorEq]
          · rcases ifB h with ⟨e7, h⟩ | ⟨e7, h⟩
            · cases h
              simp (implicitDefEqProofs := false) only [go_sem, b47, R47, E9, e1, e2, e3, laws_eqValue_run e4, e5, e6, e7, Nat.reduceEqDiff, Nat.reduceAdd, Nat.reduceLeDiff, ↓reduceIte, reduceCtorEq]
            · cases h
              simp (implicitDefEqProofs := false) only [go_sem, b47, R47, E9, e1, e2, e3, laws_eqValue_run e4, e5, e6, e7, Nat.reduceEqDiff, Nat.reduceAdd, Nat.reduceLeDiff, ↓reduceIte, reduceCtorEq]
theorem laws_eqRuleS_of (x0 x1 : List TRule) {r : Bool} (h : (if !(decide ((x0.length : Int) = (x1.length : Int))) then some false
  else laws_eqRuleS_b1 x0 x1 0) = some r) : laws_eqRuleS x0 x1 = some r := by
  refine Fn.of L_eq E9_inj (fi := fi15) rfl rfl ?_
  simp only [fi15]
  rcases ifB h with ⟨e1, h⟩ | ⟨e1, h⟩
  · cases h
    simp (implicitDefEqProofs := false) only [go_sem, b15, k15_1, g15_1, R15, E9, e1, Nat.reduceEqDiff, Nat.reduceAdd, ↓reduceIte, reduceCtorEq]
  · have q := Blk.run h
    try simp only [go_sem] at q
    simp (implicitDefEqProofs := false) only [go_sem, b15, k15_1, g15_1, e1, Nat.reduceEqDiff, Nat.reduceAdd, ↓reduceIte, reduceCtorEq]
    exact q
theorem laws_eqRuleS_b1_of (x0 x1 : List TRule) (x5 : Int) {r : Bool} (h : (if decide (x5 < (x0.length : Int)) then ((rdx x0 x5).bind fun v1 =>
   (rdx x1 x5).bind fun v2 =>
   (laws_eqRule v1 v2).bind fun r3 =>
   if !r3 then some false
   else laws_eqRuleS_b1 x0 x1 (w64 (x5 + 1)))
  else some true) = some r) : laws_eqRuleS_b1 x0 x1 x5 = some r := by
  refine Blk.of E9_inj ?_
  refine D_start (c' := d15_1) rfl ?_
  rcases ifB h with ⟨e1, h⟩ | ⟨e1, h⟩
  · obtain ⟨v1, e2, h⟩ := bnd h
    obtain ⟨v2, e3, h⟩ := bnd h
    obtain ⟨r3, e4, h⟩ := bnd h
    rcases ifB h with ⟨e5, h⟩ | ⟨e5, h⟩
    · cases h
      simp (implicitDefEqProofs := false) only [go_sem, d15_1, k15_1, g15_1, R15, E9, e1, rdp e2, rdm eTRule e2, rdm eTRule e3, laws_eqRule_run e4, e5, Nat.reduceEqDiff, Nat.reduceAdd, Nat.reduceLeDiff, ↓reduceIte, reduceCtorEq]
    · have q := Blk.run h
      try simp only [go_sem] at q
      simp (implicitDefEqProofs := false) only [go_sem, d15_1, k15_1, g15_1, e1, rdp e2, rdm eTRule e2, rdm eTRule e3, laws_eqRule_run e4, e5, Nat.reduceEqDiff, Nat.reduceAdd, Nat.reduceLeDiff, ↓reduceIte, reduceCtorEq]
      exact q
  · cases h
    simp (implicitDefEqProofs := false) only [go_sem, d15_1, k15_1, g15_1, R15, E9, e1, Nat.reduceEqDiff, Nat.reduceAdd, ↓reduceIte, reduceCtorEq]
set_option maxHeartbeats 4000000 in
theorem laws_FnExactHitAt_of (x0 : TTree) (x1 : List TRule) (x2 x3 x4 x5 : Int) {r : Bool} (h : ((laws_szTree x0 1048576).bind fun r1 =>
  if decide (r1 < 0) then some true
  else ((laws_szRuleS x1 r1).bind fun r2 =>
   if decide (r2 < 0) then some true
   else ((laws_toTree x0).bind fun r3 =>
    (laws_toRuleS x1).bind fun r4 =>
    (spec_HitAt r3 r4 x2 x3 x4 x5).bind fun r5 =>
    (impl_HitAt r3 r4 x2 x3 x4 x5).bind fun r6 =>
    if !(decide (r6 = r5)) then some false
    else ((laws_eqTree r3 r3).bind fun r7 =>
     if !r7 then some false
     else ((laws_eqRuleS r4 r4).bind fun r8 =>
      if !r8 then some false
      else some true))))) = some r) : laws_FnExactHitAt x0 x1 x2 x3 x4 x5 = some r := by
  refine Fn.of L_eq E9_inj (fi := fi3) rfl rfl ?_
  simp only [fi3]
  obtain ⟨r1, e1, h⟩ := bnd h
  rcases ifB h with ⟨e2, h⟩ | ⟨e2, h⟩
  · cases h
    simp (implicitDefEqProofs := false) only [go_sem, b3, R3, E9, laws_szTree_run e1, e2, Nat.reduceEqDiff, Nat.reduceAdd, Nat.reduceLeDiff, ↓reduceIte, reduceCtorEq]
  · obtain ⟨r2, e3, h⟩ := bnd h
    rcases ifB h with ⟨e4, h⟩ | ⟨e4, h⟩
    · cases h
      simp (implicitDefEqProofs := false) only [go_sem, b3, R3, E9, laws_szTree_run e1, e2, laws_szRuleS_run e3, e4, Nat.reduceEqDiff, Nat.reduceAdd, Nat.reduceLeDiff, ↓reduceIte, reduceCtorEq]
    · obtain ⟨r3, e5, h⟩ := bnd h
      obtain ⟨r4, e6, h⟩ := bnd h
      obtain ⟨r5, e7, h⟩ := bnd h
      obtain ⟨r6, e8, h⟩ := bnd h
      rcases ifB h with ⟨e9, h⟩ | ⟨e9, h⟩
      · cases h
        simp (implicitDefEqProofs := false) only [go_sem, b3, R3, E9, laws_szTree_run e1, e2, laws_szRuleS_run e3, e4, laws_toTree_run e5, laws_toRuleS_run e6, spec_HitAt_run e7, impl_HitAt_run e8, e9, Nat.reduceEqDiff, Nat.reduceAdd, Nat.reduceLeDiff, ↓reduceIte, reduceCtorEq]
      · obtain ⟨r7, e10, h⟩ := bnd h
        rcases ifB h with ⟨e11, h⟩ | ⟨e11, h⟩
        · cases h
          simp (implicitDefEqProofs := false) only [go_sem, b3, R3, E9, laws_szTree_run e1, e2, laws_szRuleS_run e3, e4, laws_toTree_run e5, laws_toRuleS_run e6, spec_HitAt_run e7, impl_HitAt_run e8, e9, laws_eqTree_run e10, e11, Nat.reduceEqDiff, Nat.reduceAdd, Nat.reduceLeDiff, ↓reduceIte, reduceCtorEq]
        · obtain ⟨r8, e12, h⟩ := bnd h
          rcases ifB h with ⟨e13, h⟩ | ⟨e13, h⟩
          · cases h
            simp (implicitDefEqProofs := false) only [go_sem, b3, R3, E9, laws_szTree_run e1, e2, laws_szRuleS_run e3, e4, laws_toTree_run e5, laws_toRuleS_run e6, spec_HitAt_run e7, impl_HitAt_run e8, e9, laws_eqTree_run e10, e11, laws_eqRuleS_run e12, e13, Nat.reduceEqDiff, Nat.reduceAdd, Nat.reduceLeDiff, ↓reduceIte, reduceCtorEq]
          · cases h
            simp (implicitDefEqProofs := false) only [go_sem, b3, R3, E9, laws_szTree_run e1, e2, laws_szRuleS_run e3, e4, laws_toTree_run e5, laws_toRuleS_run e6, spec_HitAt_run e7, impl_HitAt_run e8, e9, laws_eqTree_run e10, e11, laws_eqRuleS_run e12, e13, Nat.reduceEqDiff, Nat.reduceAdd, Nat.reduceLeDiff, ↓reduceIte, reduceCtorEq]
end Go.Fw.Law
