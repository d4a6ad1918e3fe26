/- What the functions come to. Conditions: none. -/
import Derived.Test.YtdafhkchonfkjaaDoorLdD
namespace Go.Fw.Law
open Go Go.Fw
theorem laws_eqPropS_of (x0 : (List TProp)) (x1 : (List TProp)) {r : Bool} (h : (if !(decide ((x0.length : Int) = (x1.length : Int))) then some false
  else laws_eqPropS_b1 x0 x1 0) = some r) : laws_eqPropS x0 x1 = some r := by
  refine Fn.of L_eq E7_inj (fi := fi19) rfl rfl ?_
  simp only [fi19]
  rcases ifB h with ⟨e1, h⟩ | ⟨e1, h⟩
  · cases h
    simp (implicitDefEqProofs := false) only [go_sem, b19, k19_1, R19, E7, e1, Nat.reduceEqDiff, Nat.reduceAdd, ↓reduceIte, reduceCtorEq, Nat.reduceEqDiff]
  · have q := Blk.run h
    try simp (implicitDefEqProofs := false) only [go_sem] at q
    simp (implicitDefEqProofs := false) only [go_sem, b19, k19_1, e1, Nat.reduceEqDiff, Nat.reduceAdd, ↓reduceIte, reduceCtorEq, Nat.reduceEqDiff]
    exact q
theorem laws_eqPropS_b1_of (x0 : (List TProp)) (x1 : (List TProp)) (x5 : Int) {r : Bool} (h : (if decide (x5 < (x0.length : Int)) then ((rdx x0 x5).bind fun v1 =>
   (rdx x1 x5).bind fun v2 =>
   (laws_eqProp v1 v2).bind fun r3 =>
   if !r3 then some false
   else laws_eqPropS_b1 x0 x1 (w64 (x5 + 1)))
  else some true) = some r) : laws_eqPropS_b1 x0 x1 x5 = some r := by
  refine Blk.of E7_inj ?_
  refine D_start (c' := d19_1) rfl ?_
  rcases ifB h with ⟨e1, h⟩ | ⟨e1, h⟩
  · obtain ⟨v1, e2, h⟩ := bnd h
    obtain ⟨v2, e3, h⟩ := bnd h
    obtain ⟨r3, e4, h⟩ := bnd h
    rcases ifB h with ⟨e5, h⟩ | ⟨e5, h⟩
    · cases h
      simp (implicitDefEqProofs := false) only [go_sem, d19_1, k19_1, R19, E7, e1, rdp e2, rdm eTProp e2, rdm eTProp e3, laws_eqProp_run e4, e5, Nat.reduceEqDiff, Nat.reduceAdd, Nat.reduceLeDiff, ↓reduceIte, reduceCtorEq, Nat.reduceEqDiff]
    · have q := Blk.run h
      try simp (implicitDefEqProofs := false) only [go_sem] at q
      simp (implicitDefEqProofs := false) only [go_sem, d19_1, k19_1, e1, rdp e2, rdm eTProp e2, rdm eTProp e3, laws_eqProp_run e4, e5, Nat.reduceEqDiff, Nat.reduceAdd, Nat.reduceLeDiff, ↓reduceIte, reduceCtorEq, Nat.reduceEqDiff]
      exact q
  · cases h
    simp (implicitDefEqProofs := false) only [go_sem, d19_1, k19_1, R19, E7, e1, Nat.reduceEqDiff, Nat.reduceAdd, ↓reduceIte, reduceCtorEq, Nat.reduceEqDiff]
theorem laws_eqTree_v_of (x0 : TTree) (x1 : TTree) {r : Bool} (h : (if !(decide (x0.Tag = x1.Tag)) then some false
  else (if !(decide (x0.Key = x1.Key)) then some false
   else (if !(decide (x0.Text = x1.Text)) then some false
    else ((laws_eqPropS x0.Props x1.Props).bind fun r1 =>
     if !r1 then some false
     else ((laws_eqTreeS x0.Kids x1.Kids).bind fun r2 =>
      if !r2 then some false
      else some true))))) = some r) : laws_eqTree_v x0 x1 = some r := by
  refine Fn.of L_eq E7_inj (fi := fi8) rfl rfl ?_
  simp only [fi8]
  rcases ifB h with ⟨e1, h⟩ | ⟨e1, h⟩
  · cases h
    simp (implicitDefEqProofs := false) only [go_sem, b8, R8, E7, e1, Nat.reduceEqDiff, Nat.reduceAdd, Nat.reduceLeDiff, ↓reduceIte, reduceCtorEq, Nat.reduceEqDiff]
  · rcases ifB h with ⟨e2, h⟩ | ⟨e2, h⟩
    · cases h
      simp (implicitDefEqProofs := false) only [go_sem, b8, R8, E7, e1, e2, Nat.reduceEqDiff, Nat.reduceAdd, Nat.reduceLeDiff, ↓reduceIte, reduceCtorEq, Nat.reduceEqDiff]
    · rcases ifB h with ⟨e3, h⟩ | ⟨e3, h⟩
      · cases h
        simp (implicitDefEqProofs := false) only [go_sem, b8, R8, E7, e1, e2, e3, Nat.reduceEqDiff, Nat.reduceAdd, Nat.reduceLeDiff, ↓reduceIte, reduceCtorEq, Nat.reduceEqDiff]
      · obtain ⟨r1, e4, h⟩ := bnd h
        rcases ifB h with ⟨e5, h⟩ | ⟨e5, h⟩
        · cases h
          simp (implicitDefEqProofs := false) only [go_sem, b8, R8, E7, e1, e2, e3, laws_eqPropS_run e4, e5, Nat.reduceEqDiff, Nat.reduceAdd, Nat.reduceLeDiff, ↓reduceIte, reduceCtorEq, Nat.reduceEqDiff]
        · obtain ⟨r2, e6, h⟩ := bnd h
          rcases ifB h with ⟨e7, h⟩ | ⟨e7, h⟩
          · cases h
            simp (implicitDefEqProofs := false) only [go_sem, b8, R8, E7, e1, e2, e3, laws_eqPropS_run e4, e5, laws_eqTreeS_run e6, e7, Nat.reduceEqDiff, Nat.reduceAdd, Nat.reduceLeDiff, ↓reduceIte, reduceCtorEq, Nat.reduceEqDiff]
          · cases h
            simp (implicitDefEqProofs := false) only [go_sem, b8, R8, E7, e1, e2, e3, laws_eqPropS_run e4, e5, laws_eqTreeS_run e6, e7, Nat.reduceEqDiff, Nat.reduceAdd, Nat.reduceLeDiff, ↓reduceIte, reduceCtorEq, Nat.reduceEqDiff]
theorem laws_eqTreeS_of (x0 : (List TTree)) (x1 : (List TTree)) {r : Bool} (h : (if !(decide ((x0.length : Int) = (x1.length : Int))) then some false
  else laws_eqTreeS_b1 x0 x1 0) = some r) : laws_eqTreeS x0 x1 = some r := by
  refine Fn.of L_eq E7_inj (fi := fi20) rfl rfl ?_
  simp only [fi20]
  rcases ifB h with ⟨e1, h⟩ | ⟨e1, h⟩
  · cases h
    simp (implicitDefEqProofs := false) only [go_sem, b20, k20_1, R20, E7, e1, Nat.reduceEqDiff, Nat.reduceAdd, ↓reduceIte, reduceCtorEq, Nat.reduceEqDiff]
  · have q := Blk.run h
    try simp (implicitDefEqProofs := false) only [go_sem] at q
    simp (implicitDefEqProofs := false) only [go_sem, b20, k20_1, e1, Nat.reduceEqDiff, Nat.reduceAdd, ↓reduceIte, reduceCtorEq, Nat.reduceEqDiff]
    exact q
theorem laws_eqTreeS_b1_of (x0 : (List TTree)) (x1 : (List TTree)) (x5 : Int) {r : Bool} (h : (if decide (x5 < (x0.length : Int)) then ((rdx x0 x5).bind fun v1 =>
   (rdx x1 x5).bind fun v2 =>
   (laws_eqTree_v v1 v2).bind fun r3 =>
   if !r3 then some false
   else laws_eqTreeS_b1 x0 x1 (w64 (x5 + 1)))
  else some true) = some r) : laws_eqTreeS_b1 x0 x1 x5 = some r := by
  refine Blk.of E7_inj ?_
  refine D_start (c' := d20_1) rfl ?_
  rcases ifB h with ⟨e1, h⟩ | ⟨e1, h⟩
  · obtain ⟨v1, e2, h⟩ := bnd h
    obtain ⟨v2, e3, h⟩ := bnd h
    obtain ⟨r3, e4, h⟩ := bnd h
    rcases ifB h with ⟨e5, h⟩ | ⟨e5, h⟩
    · cases h
      simp (implicitDefEqProofs := false) only [go_sem, d20_1, k20_1, R20, E7, e1, rdp e2, rdm (eTTree .sh) e2, rdm (eTTree .sh) e3, laws_eqTree_v_run e4, e5, Nat.reduceEqDiff, Nat.reduceAdd, Nat.reduceLeDiff, ↓reduceIte, reduceCtorEq, Nat.reduceEqDiff]
    · have q := Blk.run h
      try simp (implicitDefEqProofs := false) only [go_sem] at q
      simp (implicitDefEqProofs := false) only [go_sem, d20_1, k20_1, e1, rdp e2, rdm (eTTree .sh) e2, rdm (eTTree .sh) e3, laws_eqTree_v_run e4, e5, Nat.reduceEqDiff, Nat.reduceAdd, Nat.reduceLeDiff, ↓reduceIte, reduceCtorEq, Nat.reduceEqDiff]
      exact q
  · cases h
    simp (implicitDefEqProofs := false) only [go_sem, d20_1, k20_1, R20, E7, e1, Nat.reduceEqDiff, Nat.reduceAdd, ↓reduceIte, reduceCtorEq, Nat.reduceEqDiff]
theorem laws_eqTree_of (x0 : TTree) (x1 : TTree) {r : Bool} (h : (if !(decide (x0.Tag = x1.Tag)) then some false
  else (if !(decide (x0.Key = x1.Key)) then some false
   else (if !(decide (x0.Text = x1.Text)) then some false
    else ((laws_eqPropS x0.Props x1.Props).bind fun r1 =>
     if !r1 then some false
     else ((laws_eqTreeS x0.Kids x1.Kids).bind fun r2 =>
      if !r2 then some false
      else some true))))) = some r) : laws_eqTree x0 x1 = some r := by
  refine Fn.of L_eq E7_inj (fi := fi8) rfl rfl ?_
  simp only [fi8]
  rcases ifB h with ⟨e1, h⟩ | ⟨e1, h⟩
  · cases h
    simp (implicitDefEqProofs := false) only [go_sem, b8, R8, E7, e1, Nat.reduceEqDiff, Nat.reduceAdd, Nat.reduceLeDiff, ↓reduceIte, reduceCtorEq, Nat.reduceEqDiff]
  · rcases ifB h with ⟨e2, h⟩ | ⟨e2, h⟩
    · cases h
      simp (implicitDefEqProofs := false) only [go_sem, b8, R8, E7, e1, e2, Nat.reduceEqDiff, Nat.reduceAdd, Nat.reduceLeDiff, ↓reduceIte, reduceCtorEq, Nat.reduceEqDiff]
    · rcases ifB h with ⟨e3, h⟩ | ⟨e3, h⟩
      · cases h
        simp (implicitDefEqProofs := false) only [go_sem, b8, R8, E7, e1, e2, e3, Nat.reduceEqDiff, Nat.reduceAdd, Nat.reduceLeDiff, ↓reduceIte, reduceCtorEq, Nat.reduceEqDiff]
      · obtain ⟨r1, e4, h⟩ := bnd h
        rcases ifB h with ⟨e5, h⟩ | ⟨e5, h⟩
        · cases h
          simp (implicitDefEqProofs := false) only [go_sem, b8, R8, E7, e1, e2, e3, laws_eqPropS_run e4, e5, Nat.reduceEqDiff, Nat.reduceAdd, Nat.reduceLeDiff, ↓reduceIte, reduceCtorEq, Nat.reduceEqDiff]
        · obtain ⟨r2, e6, h⟩ := bnd h
          rcases ifB h with ⟨e7, h⟩ | ⟨e7, h⟩
          · cases h
            simp (implicitDefEqProofs := false) only [go_sem, b8, R8, E7, e1, e2, e3, laws_eqPropS_run e4, e5, laws_eqTreeS_run e6, e7, Nat.reduceEqDiff, Nat.reduceAdd, Nat.reduceLeDiff, ↓reduceIte, reduceCtorEq, Nat.reduceEqDiff]
          · cases h
            simp (implicitDefEqProofs := false) only [go_sem, b8, R8, E7, e1, e2, e3, laws_eqPropS_run e4, e5, laws_eqTreeS_run e6, e7, Nat.reduceEqDiff, Nat.reduceAdd, Nat.reduceLeDiff, ↓reduceIte, reduceCtorEq, Nat.reduceEqDiff]
theorem laws_FnExactTreeMoves_of (x0 : TTree) (x1 : TTree) (x2 : Int) {r : Bool} (h : ((laws_szTree x0 1048576).bind fun r1 =>
  if decide (r1 < 0) then some true
  else ((laws_szTree x1 r1).bind fun r2 =>
   if decide (r2 < 0) then some true
   else ((laws_toTree x0).bind fun r3 =>
    (laws_toTree x1).bind fun r4 =>
    (spec_TreeMoves r3 r4 x2).bind fun r5 =>
    (impl_TreeMoves r3 r4 x2).bind fun r6 =>
    if !(decide (r6 = r5)) then some false
    else ((laws_eqTree r3 r3).bind fun r7 =>
     if !r7 then some false
     else ((laws_eqTree r4 r4).bind fun r8 =>
      if !r8 then some false
      else some true))))) = some r) : laws_FnExactTreeMoves x0 x1 x2 = some r := by
  refine Fn.of L_eq E7_inj (fi := fi3) rfl rfl ?_
  simp only [fi3]
  obtain ⟨r1, e1, h⟩ := bnd h
  rcases ifB h with ⟨e2, h⟩ | ⟨e2, h⟩
  · cases h
    simp (implicitDefEqProofs := false) only [go_sem, b3, R3, E7, laws_szTree_run e1, e2, Nat.reduceEqDiff, Nat.reduceAdd, Nat.reduceLeDiff, ↓reduceIte, reduceCtorEq, Nat.reduceEqDiff]
  · obtain ⟨r2, e3, h⟩ := bnd h
    rcases ifB h with ⟨e4, h⟩ | ⟨e4, h⟩
    · cases h
      simp (implicitDefEqProofs := false) only [go_sem, b3, R3, E7, laws_szTree_run e1, e2, laws_szTree_run e3, e4, Nat.reduceEqDiff, Nat.reduceAdd, Nat.reduceLeDiff, ↓reduceIte, reduceCtorEq, Nat.reduceEqDiff]
    · obtain ⟨r3, e5, h⟩ := bnd h
      obtain ⟨r4, e6, h⟩ := bnd h
      obtain ⟨r5, e7, h⟩ := bnd h
      obtain ⟨r6, e8, h⟩ := bnd h
      rcases ifB h with ⟨e9, h⟩ | ⟨e9, h⟩
      · cases h
        simp (implicitDefEqProofs := false) only [go_sem, b3, R3, E7, laws_szTree_run e1, e2, laws_szTree_run e3, e4, laws_toTree_run e5, laws_toTree_run e6, spec_TreeMoves_run e7, impl_TreeMoves_run e8, e9, Nat.reduceEqDiff, Nat.reduceAdd, Nat.reduceLeDiff, ↓reduceIte, reduceCtorEq, Nat.reduceEqDiff]
      · obtain ⟨r7, e10, h⟩ := bnd h
        rcases ifB h with ⟨e11, h⟩ | ⟨e11, h⟩
        · cases h
          simp (implicitDefEqProofs := false) only [go_sem, b3, R3, E7, laws_szTree_run e1, e2, laws_szTree_run e3, e4, laws_toTree_run e5, laws_toTree_run e6, spec_TreeMoves_run e7, impl_TreeMoves_run e8, e9, laws_eqTree_run e10, e11, Nat.reduceEqDiff, Nat.reduceAdd, Nat.reduceLeDiff, ↓reduceIte, reduceCtorEq, Nat.reduceEqDiff]
        · obtain ⟨r8, e12, h⟩ := bnd h
          rcases ifB h with ⟨e13, h⟩ | ⟨e13, h⟩
          · cases h
            simp (implicitDefEqProofs := false) only [go_sem, b3, R3, E7, laws_szTree_run e1, e2, laws_szTree_run e3, e4, laws_toTree_run e5, laws_toTree_run e6, spec_TreeMoves_run e7, impl_TreeMoves_run e8, e9, laws_eqTree_run e10, e11, laws_eqTree_run e12, e13, Nat.reduceEqDiff, Nat.reduceAdd, Nat.reduceLeDiff, ↓reduceIte, reduceCtorEq, Nat.reduceEqDiff]
          · cases h
            simp (implicitDefEqProofs := false) only [go_sem, b3, R3, E7, laws_szTree_run e1, e2, laws_szTree_run e3, e4, laws_toTree_run e5, laws_toTree_run e6, spec_TreeMoves_run e7, impl_TreeMoves_run e8, e9, laws_eqTree_run e10, e11, laws_eqTree_run e12, e13, Nat.reduceEqDiff, Nat.reduceAdd, Nat.reduceLeDiff, ↓reduceIte, reduceCtorEq, Nat.reduceEqDiff]
end Go.Fw.Law
