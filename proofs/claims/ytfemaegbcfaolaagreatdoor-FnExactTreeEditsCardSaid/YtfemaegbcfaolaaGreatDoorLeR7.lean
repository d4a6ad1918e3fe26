/- What the functions come to. Conditions: none. -/
import Derived.Test.YtfemaegbcfaolaaGreatDoorLeD
namespace Go.Fw.Law
open Go Go.Fw
theorem laws_eqPropS_of (x0 : (List TProp)) (x1 : (List TProp)) {r : Bool} (h : (if !(decide ((x0.length : Int) = (x1.length : Int))) then some false
  else laws_eqPropS_b1 x0 x1 0) = some r) : laws_eqPropS x0 x1 = some r := by
  refine Fn.of L_eq E7_inj (fi := fi44) rfl rfl ?_
  simp only [fi44]
  rcases ifB h with ⟨e1, h⟩ | ⟨e1, h⟩
  · cases h
    simp (implicitDefEqProofs := false) only [go_sem, b44, k44_1, R44, E7, e1, Nat.reduceEqDiff, Nat.reduceAdd, ↓reduceIte, reduceCtorEq, Nat.reduceEqDiff]
  · have q := Blk.run h
    try simp (implicitDefEqProofs := false) only [go_sem] at q
    simp (implicitDefEqProofs := false) only [go_sem, b44, k44_1, e1, Nat.reduceEqDiff, Nat.reduceAdd, ↓reduceIte, reduceCtorEq, Nat.reduceEqDiff]
    exact q
theorem laws_eqPropS_b1_of (x0 : (List TProp)) (x1 : (List TProp)) (x5 : Int) {r : Bool} (h : (if decide (x5 < (x0.length : Int)) then ((rdx x0 x5).bind fun v1 =>
   (rdx x1 x5).bind fun v2 =>
   (laws_eqProp v1 v2).bind fun r3 =>
   if !r3 then some false
   else laws_eqPropS_b1 x0 x1 (w64 (x5 + 1)))
  else some true) = some r) : laws_eqPropS_b1 x0 x1 x5 = some r := by
  refine Blk.of E7_inj ?_
  refine D_start (c' := d44_1) rfl ?_
  rcases ifB h with ⟨e1, h⟩ | ⟨e1, h⟩
  · obtain ⟨v1, e2, h⟩ := bnd h
    obtain ⟨v2, e3, h⟩ := bnd h
    obtain ⟨r3, e4, h⟩ := bnd h
    rcases ifB h with ⟨e5, h⟩ | ⟨e5, h⟩
    · cases h
      simp (implicitDefEqProofs := false) only [go_sem, d44_1, k44_1, R44, E7, e1, rdp e2, rdm eTProp e2, rdm eTProp e3, laws_eqProp_run e4, e5, Nat.reduceEqDiff, Nat.reduceAdd, Nat.reduceLeDiff, ↓reduceIte, reduceCtorEq, Nat.reduceEqDiff]
    · have q := Blk.run h
      try simp (implicitDefEqProofs := false) only [go_sem] at q
      simp (implicitDefEqProofs := false) only [go_sem, d44_1, k44_1, e1, rdp e2, rdm eTProp e2, rdm eTProp e3, laws_eqProp_run e4, e5, Nat.reduceEqDiff, Nat.reduceAdd, Nat.reduceLeDiff, ↓reduceIte, reduceCtorEq, Nat.reduceEqDiff]
      exact q
  · cases h
    simp (implicitDefEqProofs := false) only [go_sem, d44_1, k44_1, R44, E7, e1, Nat.reduceEqDiff, Nat.reduceAdd, ↓reduceIte, reduceCtorEq, Nat.reduceEqDiff]
theorem laws_eqTreeS_of (x0 : (List TTree)) (x1 : (List TTree)) {r : Bool} (h : (if !(decide ((x0.length : Int) = (x1.length : Int))) then some false
  else laws_eqTreeS_b1 x0 x1 0) = some r) : laws_eqTreeS x0 x1 = some r := by
  refine Fn.of L_eq E7_inj (fi := fi45) rfl rfl ?_
  simp only [fi45]
  rcases ifB h with ⟨e1, h⟩ | ⟨e1, h⟩
  · cases h
    simp (implicitDefEqProofs := false) only [go_sem, b45, k45_1, R45, E7, e1, Nat.reduceEqDiff, Nat.reduceAdd, ↓reduceIte, reduceCtorEq, Nat.reduceEqDiff]
  · have q := Blk.run h
    try simp (implicitDefEqProofs := false) only [go_sem] at q
    simp (implicitDefEqProofs := false) only [go_sem, b45, k45_1, e1, Nat.reduceEqDiff, Nat.reduceAdd, ↓reduceIte, reduceCtorEq, Nat.reduceEqDiff]
    exact q
theorem laws_eqTreeS_b1_of (x0 : (List TTree)) (x1 : (List TTree)) (x5 : Int) {r : Bool} (h : (if decide (x5 < (x0.length : Int)) then ((rdx x0 x5).bind fun v1 =>
   (rdx x1 x5).bind fun v2 =>
   (laws_eqTree v1 v2).bind fun r3 =>
   if !r3 then some false
   else laws_eqTreeS_b1 x0 x1 (w64 (x5 + 1)))
  else some true) = some r) : laws_eqTreeS_b1 x0 x1 x5 = some r := by
  refine Blk.of E7_inj ?_
  refine D_start (c' := d45_1) rfl ?_
  rcases ifB h with ⟨e1, h⟩ | ⟨e1, h⟩
  · obtain ⟨v1, e2, h⟩ := bnd h
    obtain ⟨v2, e3, h⟩ := bnd h
    obtain ⟨r3, e4, h⟩ := bnd h
    rcases ifB h with ⟨e5, h⟩ | ⟨e5, h⟩
    · cases h
      simp (implicitDefEqProofs := false) only [go_sem, d45_1, k45_1, R45, E7, e1, rdp e2, rdm (eTTree .bor) e2, rdm (eTTree .sh) e3, laws_eqTree_run e4, e5, Nat.reduceEqDiff, Nat.reduceAdd, Nat.reduceLeDiff, ↓reduceIte, reduceCtorEq, Nat.reduceEqDiff]
    · have q := Blk.run h
      try simp (implicitDefEqProofs := false) only [go_sem] at q
      simp (implicitDefEqProofs := false) only [go_sem, d45_1, k45_1, e1, rdp e2, rdm (eTTree .bor) e2, rdm (eTTree .sh) e3, laws_eqTree_run e4, e5, Nat.reduceEqDiff, Nat.reduceAdd, Nat.reduceLeDiff, ↓reduceIte, reduceCtorEq, Nat.reduceEqDiff]
      exact q
  · cases h
    simp (implicitDefEqProofs := false) only [go_sem, d45_1, k45_1, R45, E7, e1, Nat.reduceEqDiff, Nat.reduceAdd, ↓reduceIte, reduceCtorEq, Nat.reduceEqDiff]
theorem laws_eqTree_of (x0 : TTree) (x1 : TTree) {r : Bool} (h : (if !(decide (x0.Tag = x1.Tag)) then some false
  else (if !(decide (x0.Key = x1.Key)) then some false
   else (if !(decide (x0.Text = x1.Text)) then some false
    else ((laws_eqPropS x0.Props x1.Props).bind fun r1 =>
     if !r1 then some false
     else ((laws_eqTreeS x0.Kids x1.Kids).bind fun r2 =>
      if !r2 then some false
      else some true))))) = some r) : laws_eqTree x0 x1 = some r := by
  refine Fn.of L_eq E7_inj (fi := fi18) rfl rfl ?_
  simp only [fi18]
  rcases ifB h with ⟨e1, h⟩ | ⟨e1, h⟩
  · cases h
    simp (implicitDefEqProofs := false) only [go_sem, b18, R18, E7, e1, Nat.reduceEqDiff, Nat.reduceAdd, Nat.reduceLeDiff, ↓reduceIte, reduceCtorEq, Nat.reduceEqDiff]
  · rcases ifB h with ⟨e2, h⟩ | ⟨e2, h⟩
    · cases h
      simp (implicitDefEqProofs := false) only [go_sem, b18, R18, E7, e1, e2, Nat.reduceEqDiff, Nat.reduceAdd, Nat.reduceLeDiff, ↓reduceIte, reduceCtorEq, Nat.reduceEqDiff]
    · rcases ifB h with ⟨e3, h⟩ | ⟨e3, h⟩
      · cases h
        simp (implicitDefEqProofs := false) only [go_sem, b18, R18, E7, e1, e2, e3, Nat.reduceEqDiff, Nat.reduceAdd, Nat.reduceLeDiff, ↓reduceIte, reduceCtorEq, Nat.reduceEqDiff]
      · obtain ⟨r1, e4, h⟩ := bnd h
        rcases ifB h with ⟨e5, h⟩ | ⟨e5, h⟩
        · cases h
          simp (implicitDefEqProofs := false) only [go_sem, b18, R18, E7, e1, e2, e3, laws_eqPropS_run e4, e5, Nat.reduceEqDiff, Nat.reduceAdd, Nat.reduceLeDiff, ↓reduceIte, reduceCtorEq, Nat.reduceEqDiff]
        · obtain ⟨r2, e6, h⟩ := bnd h
          rcases ifB h with ⟨e7, h⟩ | ⟨e7, h⟩
          · cases h
            simp (implicitDefEqProofs := false) only [go_sem, b18, R18, E7, e1, e2, e3, laws_eqPropS_run e4, e5, laws_eqTreeS_run e6, e7, Nat.reduceEqDiff, Nat.reduceAdd, Nat.reduceLeDiff, ↓reduceIte, reduceCtorEq, Nat.reduceEqDiff]
          · cases h
            simp (implicitDefEqProofs := false) only [go_sem, b18, R18, E7, e1, e2, e3, laws_eqPropS_run e4, e5, laws_eqTreeS_run e6, e7, Nat.reduceEqDiff, Nat.reduceAdd, Nat.reduceLeDiff, ↓reduceIte, reduceCtorEq, Nat.reduceEqDiff]
theorem laws_eqEdit_of (x0 : TEdit) (x1 : TEdit) {r : Bool} (h : (if !(decide (x0.Kind = x1.Kind)) then some false
  else ((laws_eqIntS x0.Way x1.Way).bind fun r1 =>
   if !r1 then some false
   else (if !(decide (x0.At = x1.At)) then some false
    else (if !(decide (x0.To = x1.To)) then some false
     else ((laws_eqValue x0.Val x1.Val).bind fun r2 =>
      if !r2 then some false
      else ((laws_eqTree x0.Tree x1.Tree).bind fun r3 =>
       if !r3 then some false
       else some true)))))) = some r) : laws_eqEdit x0 x1 = some r := by
  refine Fn.of L_eq E7_inj (fi := fi43) rfl rfl ?_
  simp only [fi43]
  rcases ifB h with ⟨e1, h⟩ | ⟨e1, h⟩
  · cases h
    simp (implicitDefEqProofs := false) only [go_sem, b43, R43, E7, e1, Nat.reduceEqDiff, Nat.reduceAdd, Nat.reduceLeDiff, ↓reduceIte, reduceCtorEq, Nat.reduceEqDiff]
  · obtain ⟨r1, e2, h⟩ := bnd h
    rcases ifB h with ⟨e3, h⟩ | ⟨e3, h⟩
    · cases h
      simp (implicitDefEqProofs := false) only [go_sem, b43, R43, E7, e1, laws_eqIntS_run e2, e3, Nat.reduceEqDiff, Nat.reduceAdd, Nat.reduceLeDiff, ↓reduceIte, reduceCtorEq, Nat.reduceEqDiff]
    · rcases ifB h with ⟨e4, h⟩ | ⟨e4, h⟩
      · cases h
        simp (implicitDefEqProofs := false) only [go_sem, b43, R43, E7, e1, laws_eqIntS_run e2, e3, e4, Nat.reduceEqDiff, Nat.reduceAdd, Nat.reduceLeDiff, ↓reduceIte, reduceCtorEq, Nat.reduceEqDiff]
      · rcases ifB h with ⟨e5, h⟩ | ⟨e5, h⟩
        · cases h
          simp (implicitDefEqProofs := false) only [go_sem, b43, R43, E7, e1, laws_eqIntS_run e2, e3, e4, e5, Nat.reduceEqDiff, Nat.reduceAdd, Nat.reduceLeDiff, ↓reduceIte, reduceCtorEq, Nat.reduceEqDiff]
        · obtain ⟨r2, e6, h⟩ := bnd h
          rcases ifB h with ⟨e7, h⟩ | ⟨e7, h⟩
          · cases h
            simp (implicitDefEqProofs := false) only [go_sem, b43, R43, E7, e1, laws_eqIntS_run e2, e3, e4, e5, laws_eqValue_run e6, e7, Nat.reduceEqDiff, Nat.reduceAdd, Nat.reduceLeDiff, ↓reduceIte, reduceCtorEq, Nat.reduceEqDiff]
          · obtain ⟨r3, e8, h⟩ := bnd h
            rcases ifB h with ⟨e9, h⟩ | ⟨e9, h⟩
            · cases h
              simp (implicitDefEqProofs := false) only [go_sem, b43, R43, E7, e1, laws_eqIntS_run e2, e3, e4, e5, laws_eqValue_run e6, e7, laws_eqTree_run e8, e9, Nat.reduceEqDiff, Nat.reduceAdd, Nat.reduceLeDiff, ↓reduceIte, reduceCtorEq, Nat.reduceEqDiff]
            · cases h
              simp (implicitDefEqProofs := false) only [go_sem, b43, R43, E7, e1, laws_eqIntS_run e2, e3, e4, e5, laws_eqValue_run e6, e7, laws_eqTree_run e8, e9, Nat.reduceEqDiff, Nat.reduceAdd, Nat.reduceLeDiff, ↓reduceIte, reduceCtorEq, Nat.reduceEqDiff]
theorem laws_eqEditS_of (x0 : (List TEdit)) (x1 : (List TEdit)) {r : Bool} (h : (if !(decide ((x0.length : Int) = (x1.length : Int))) then some false
  else laws_eqEditS_b1 x0 x1 0) = some r) : laws_eqEditS x0 x1 = some r := by
  refine Fn.of L_eq E7_inj (fi := fi17) rfl rfl ?_
  simp only [fi17]
  rcases ifB h with ⟨e1, h⟩ | ⟨e1, h⟩
  · cases h
    simp (implicitDefEqProofs := false) only [go_sem, b17, k17_1, R17, E7, e1, Nat.reduceEqDiff, Nat.reduceAdd, ↓reduceIte, reduceCtorEq, Nat.reduceEqDiff]
  · have q := Blk.run h
    try simp (implicitDefEqProofs := false) only [go_sem] at q
    simp (implicitDefEqProofs := false) only [go_sem, b17, k17_1, e1, Nat.reduceEqDiff, Nat.reduceAdd, ↓reduceIte, reduceCtorEq, Nat.reduceEqDiff]
    exact q
theorem laws_eqEditS_b1_of (x0 : (List TEdit)) (x1 : (List TEdit)) (x5 : Int) {r : Bool} (h : (if decide (x5 < (x0.length : Int)) then ((rdx x0 x5).bind fun v1 =>
   (rdx x1 x5).bind fun v2 =>
   (laws_eqEdit v1 v2).bind fun r3 =>
   if !r3 then some false
   else laws_eqEditS_b1 x0 x1 (w64 (x5 + 1)))
  else some true) = some r) : laws_eqEditS_b1 x0 x1 x5 = some r := by
  refine Blk.of E7_inj ?_
  refine D_start (c' := d17_1) rfl ?_
  rcases ifB h with ⟨e1, h⟩ | ⟨e1, h⟩
  · obtain ⟨v1, e2, h⟩ := bnd h
    obtain ⟨v2, e3, h⟩ := bnd h
    obtain ⟨r3, e4, h⟩ := bnd h
    rcases ifB h with ⟨e5, h⟩ | ⟨e5, h⟩
    · cases h
      simp (implicitDefEqProofs := false) only [go_sem, d17_1, k17_1, R17, E7, e1, rdp e2, rdm (eTEdit .bor) e2, rdm (eTEdit .sh) e3, laws_eqEdit_run e4, e5, Nat.reduceEqDiff, Nat.reduceAdd, Nat.reduceLeDiff, ↓reduceIte, reduceCtorEq, Nat.reduceEqDiff]
    · have q := Blk.run h
      try simp (implicitDefEqProofs := false) only [go_sem] at q
      simp (implicitDefEqProofs := false) only [go_sem, d17_1, k17_1, e1, rdp e2, rdm (eTEdit .bor) e2, rdm (eTEdit .sh) e3, laws_eqEdit_run e4, e5, Nat.reduceEqDiff, Nat.reduceAdd, Nat.reduceLeDiff, ↓reduceIte, reduceCtorEq, Nat.reduceEqDiff]
      exact q
  · cases h
    simp (implicitDefEqProofs := false) only [go_sem, d17_1, k17_1, R17, E7, e1, Nat.reduceEqDiff, Nat.reduceAdd, ↓reduceIte, reduceCtorEq, Nat.reduceEqDiff]
theorem laws_eqTree_v_of (x0 : TTree) (x1 : TTree) {r : Bool} (h : (if !(decide (x0.Tag = x1.Tag)) then some false
  else (if !(decide (x0.Key = x1.Key)) then some false
   else (if !(decide (x0.Text = x1.Text)) then some false
    else ((laws_eqPropS x0.Props x1.Props).bind fun r1 =>
     if !r1 then some false
     else ((laws_eqTreeS x0.Kids x1.Kids).bind fun r2 =>
      if !r2 then some false
      else some true))))) = some r) : laws_eqTree_v x0 x1 = some r := by
  refine Fn.of L_eq E7_inj (fi := fi18) rfl rfl ?_
  simp only [fi18]
  rcases ifB h with ⟨e1, h⟩ | ⟨e1, h⟩
  · cases h
    simp (implicitDefEqProofs := false) only [go_sem, b18, R18, E7, e1, Nat.reduceEqDiff, Nat.reduceAdd, Nat.reduceLeDiff, ↓reduceIte, reduceCtorEq, Nat.reduceEqDiff]
  · rcases ifB h with ⟨e2, h⟩ | ⟨e2, h⟩
    · cases h
      simp (implicitDefEqProofs := false) only [go_sem, b18, R18, E7, e1, e2, Nat.reduceEqDiff, Nat.reduceAdd, Nat.reduceLeDiff, ↓reduceIte, reduceCtorEq, Nat.reduceEqDiff]
    · rcases ifB h with ⟨e3, h⟩ | ⟨e3, h⟩
      · cases h
        simp (implicitDefEqProofs := false) only [go_sem, b18, R18, E7, e1, e2, e3, Nat.reduceEqDiff, Nat.reduceAdd, Nat.reduceLeDiff, ↓reduceIte, reduceCtorEq, Nat.reduceEqDiff]
      · obtain ⟨r1, e4, h⟩ := bnd h
        rcases ifB h with ⟨e5, h⟩ | ⟨e5, h⟩
        · cases h
          simp (implicitDefEqProofs := false) only [go_sem, b18, R18, E7, e1, e2, e3, laws_eqPropS_run e4, e5, Nat.reduceEqDiff, Nat.reduceAdd, Nat.reduceLeDiff, ↓reduceIte, reduceCtorEq, Nat.reduceEqDiff]
        · obtain ⟨r2, e6, h⟩ := bnd h
          rcases ifB h with ⟨e7, h⟩ | ⟨e7, h⟩
          · cases h
            simp (implicitDefEqProofs := false) only [go_sem, b18, R18, E7, e1, e2, e3, laws_eqPropS_run e4, e5, laws_eqTreeS_run e6, e7, Nat.reduceEqDiff, Nat.reduceAdd, Nat.reduceLeDiff, ↓reduceIte, reduceCtorEq, Nat.reduceEqDiff]
          · cases h
            simp (implicitDefEqProofs := false) only [go_sem, b18, R18, E7, e1, e2, e3, laws_eqPropS_run e4, e5, laws_eqTreeS_run e6, e7, Nat.reduceEqDiff, Nat.reduceAdd, Nat.reduceLeDiff, ↓reduceIte, reduceCtorEq, Nat.reduceEqDiff]
theorem laws_markText_of (x0 : Int) {r : Str} (h : (if decide (x0 ≤ 0) then some ([109, 48])
  else laws_markText_b1 x0 []) = some r) : laws_markText x0 = some r := by
  refine Fn.of L_eq E8_inj (fi := fi49) rfl rfl ?_
  simp only [fi49]
  rcases ifB h with ⟨e1, h⟩ | ⟨e1, h⟩
  · cases h
    simp (implicitDefEqProofs := false) only [go_sem, b49, k49_1, R49, E8, e1, Nat.reduceEqDiff, Nat.reduceAdd, ↓reduceIte, reduceCtorEq, Nat.reduceEqDiff]
  · have q := Blk.run h
    try simp (implicitDefEqProofs := false) only [go_sem] at q
    simp (implicitDefEqProofs := false) only [go_sem, b49, k49_1, e1, Nat.reduceEqDiff, Nat.reduceAdd, ↓reduceIte, reduceCtorEq, Nat.reduceEqDiff]
    exact q
theorem laws_markText_b1_of (x0 : Int) (x3 : Str) {r : Str} (h : (if decide (0 < x0) then ((tos ([IntKind.wrap .u8 (w64 (48 + (x0.tmod 10)))])).bind fun v1 =>
   if v1.length + x3.length ≤ 9223372036854775807 then laws_markText_b1 (w64 (x0.tdiv 10)) (v1 ++ x3)
   else none)
  else (if ([109]).length + x3.length ≤ 9223372036854775807 then some (([109]) ++ x3)
   else none)) = some r) : laws_markText_b1 x0 x3 = some r := by
  refine Blk.of E8_inj ?_
  refine D_start (c' := d49_1) rfl ?_
  rcases ifB h with ⟨e1, h⟩ | ⟨e1, h⟩
  · obtain ⟨v1, e2, h⟩ := bnd h
    have me2 := tosm e2
    try simp (implicitDefEqProofs := false) only [go_sem] at me2
    obtain ⟨e3, h⟩ := ifP h
    have me3 := e3
    try simp (implicitDefEqProofs := false) only [go_sem, Nat.reduceEqDiff, Nat.reduceAdd, Nat.reduceMul, Nat.reduceSub, Nat.reduceLeDiff, Int.reduceLE, Int.reduceLT, Int.reduceEq, ↓reduceIte, reduceCtorEq, Nat.beq_eq_true_eq, Nat.reduceBEq, Nat.reduceEqDiff] at me3
    have q := Blk.run h
    try simp (implicitDefEqProofs := false) only [go_sem] at q
    simp (implicitDefEqProofs := false) only [go_sem, d49_1, k49_1, e1, me2, e3, Nat.reduceEqDiff, Nat.reduceAdd, Nat.reduceLeDiff, Int.reduceEq, ↓reduceIte, reduceCtorEq, Nat.reduceEqDiff]
    exact q
  · obtain ⟨e4, h⟩ := ifP h
    have me4 := e4
    try simp (implicitDefEqProofs := false) only [go_sem, Nat.reduceAdd] at me4
    cases h
    simp (implicitDefEqProofs := false) only [go_sem, d49_1, k49_1, R49, E8, e1, me4, Nat.reduceEqDiff, Nat.reduceAdd, ↓reduceIte, reduceCtorEq, Nat.reduceEqDiff]
theorem laws_markPropS_of (x0 : (List TProp)) (x1 : Int) {r : Int × (List TProp)} (h : (laws_markPropS_b1 x0 x1 0) = some r) : laws_markPropS x0 x1 = some r := by
  refine Fn.of L_eq E14_inj (fi := fi46) rfl rfl ?_
  simp only [fi46]
  have q := Blk.run h
  try simp (implicitDefEqProofs := false) only [go_sem] at q
  simp (implicitDefEqProofs := false) only [go_sem, b46, k46_1, Nat.reduceEqDiff, Nat.reduceAdd, ↓reduceIte, reduceCtorEq, Nat.reduceEqDiff]
  exact q
theorem laws_markPropS_b1_of (x0 : (List TProp)) (x1 : Int) (x5 : Int) {r : Int × (List TProp)} (h : (if decide (x5 < (x0.length : Int)) then ((rdx x0 x5).bind fun v1 =>
   (rdx (x0.set x5.toNat (⟨x1, v1.Val⟩ : TProp)) x5).bind fun v2 =>
   (rdx ((x0.set x5.toNat (⟨x1, v1.Val⟩ : TProp)).set x5.toNat (⟨v2.Name, (⟨w64 (x1 + 1), v2.Val.Num, v2.Val.Text⟩ : TValue)⟩ : TProp)) x5).bind fun v3 =>
   (laws_markText (w64 ((w64 ((w64 (x1 + 1)) + 1)) + 1))).bind fun r4 =>
   (rdx (((x0.set x5.toNat (⟨x1, v1.Val⟩ : TProp)).set x5.toNat (⟨v2.Name, (⟨w64 (x1 + 1), v2.Val.Num, v2.Val.Text⟩ : TValue)⟩ : TProp)).set x5.toNat (⟨v3.Name, (⟨v3.Val.Kind, w64 ((w64 (x1 + 1)) + 1), v3.Val.Text⟩ : TValue)⟩ : TProp)) x5).bind fun v5 =>
   laws_markPropS_b1 ((((x0.set x5.toNat (⟨x1, v1.Val⟩ : TProp)).set x5.toNat (⟨v2.Name, (⟨w64 (x1 + 1), v2.Val.Num, v2.Val.Text⟩ : TValue)⟩ : TProp)).set x5.toNat (⟨v3.Name, (⟨v3.Val.Kind, w64 ((w64 (x1 + 1)) + 1), v3.Val.Text⟩ : TValue)⟩ : TProp)).set x5.toNat (⟨v5.Name, (⟨v5.Val.Kind, v5.Val.Num, r4⟩ : TValue)⟩ : TProp)) (w64 ((w64 ((w64 ((w64 (x1 + 1)) + 1)) + 1)) + 1)) (w64 (x5 + 1)))
  else some (x1, x0)) = some r) : laws_markPropS_b1 x0 x1 x5 = some r := by
  refine Blk.of E14_inj ?_
  refine D_start (c' := d46_1) rfl ?_
  rcases ifB h with ⟨e1, h⟩ | ⟨e1, h⟩
  · obtain ⟨v1, e2, h⟩ := bnd h
    obtain ⟨v2, e3, h⟩ := bnd h
    have me3 := rdm eTProp e3
    try simp (implicitDefEqProofs := false) only [go_sem] at me3
    obtain ⟨v3, e4, h⟩ := bnd h
    have me4 := rdm eTProp e4
    try simp (implicitDefEqProofs := false) only [go_sem] at me4
    obtain ⟨r4, e5, h⟩ := bnd h
    obtain ⟨v5, e6, h⟩ := bnd h
    have me6 := rdm eTProp e6
    try simp (implicitDefEqProofs := false) only [go_sem] at me6
    have q := Blk.run h
    try simp (implicitDefEqProofs := false) only [go_sem] at q
    simp (implicitDefEqProofs := false) only [go_sem, d46_1, k46_1, e1, rdp e2, rdm eTProp e2, me3, me4, laws_markText_run e5, me6, Nat.reduceEqDiff, Nat.reduceAdd, Nat.reduceLeDiff, ↓reduceIte, reduceCtorEq, Nat.reduceEqDiff]
    exact q
  · cases h
    simp (implicitDefEqProofs := false) only [go_sem, d46_1, k46_1, R46, E14, e1, Nat.reduceEqDiff, Nat.reduceAdd, ↓reduceIte, reduceCtorEq, Nat.reduceBEq, Nat.reduceEqDiff]
theorem laws_markTreeS_of (x0 : (List TTree)) (x1 : Int) {r : Int × (List TTree)} (h : (laws_markTreeS_b1 x0 x1 0) = some r) : laws_markTreeS x0 x1 = some r := by
  refine Fn.of L_eq E15_inj (fi := fi47) rfl rfl ?_
  simp only [fi47]
  have q := Blk.run h
  try simp (implicitDefEqProofs := false) only [go_sem] at q
  simp (implicitDefEqProofs := false) only [go_sem, b47, k47_1, Nat.reduceEqDiff, Nat.reduceAdd, ↓reduceIte, reduceCtorEq, Nat.reduceEqDiff]
  exact q
set_option maxHeartbeats 4000000 in
theorem laws_markTreeS_b1_of (x0 : (List TTree)) (x1 : Int) (x5 : Int) {r : Int × (List TTree)} (h : (if decide (x5 < (x0.length : Int)) then ((rdx x0 x5).bind fun v1 =>
   (rdx (x0.set x5.toNat (⟨x1, v1.Key, v1.Text, v1.Props, v1.Kids⟩ : TTree)) x5).bind fun v2 =>
   (laws_markText (w64 ((w64 (x1 + 1)) + 1))).bind fun r3 =>
   (rdx ((x0.set x5.toNat (⟨x1, v1.Key, v1.Text, v1.Props, v1.Kids⟩ : TTree)).set x5.toNat (⟨v2.Tag, w64 (x1 + 1), v2.Text, v2.Props, v2.Kids⟩ : TTree)) x5).bind fun v4 =>
   (rdx (((x0.set x5.toNat (⟨x1, v1.Key, v1.Text, v1.Props, v1.Kids⟩ : TTree)).set x5.toNat (⟨v2.Tag, w64 (x1 + 1), v2.Text, v2.Props, v2.Kids⟩ : TTree)).set x5.toNat (⟨v4.Tag, v4.Key, r3, v4.Props, v4.Kids⟩ : TTree)) x5).bind fun v5 =>
   (laws_markPropS v5.Props (w64 ((w64 ((w64 (x1 + 1)) + 1)) + 1))).bind fun r6 =>
   (rdx ((((x0.set x5.toNat (⟨x1, v1.Key, v1.Text, v1.Props, v1.Kids⟩ : TTree)).set x5.toNat (⟨v2.Tag, w64 (x1 + 1), v2.Text, v2.Props, v2.Kids⟩ : TTree)).set x5.toNat (⟨v4.Tag, v4.Key, r3, v4.Props, v4.Kids⟩ : TTree)).set x5.toNat (⟨v5.Tag, v5.Key, v5.Text, r6.2, v5.Kids⟩ : TTree)) x5).bind fun v7 =>
   (laws_markTreeS v7.Kids r6.1).bind fun r8 =>
   laws_markTreeS_b1 (((((x0.set x5.toNat (⟨x1, v1.Key, v1.Text, v1.Props, v1.Kids⟩ : TTree)).set x5.toNat (⟨v2.Tag, w64 (x1 + 1), v2.Text, v2.Props, v2.Kids⟩ : TTree)).set x5.toNat (⟨v4.Tag, v4.Key, r3, v4.Props, v4.Kids⟩ : TTree)).set x5.toNat (⟨v5.Tag, v5.Key, v5.Text, r6.2, v5.Kids⟩ : TTree)).set x5.toNat (⟨v7.Tag, v7.Key, v7.Text, v7.Props, r8.2⟩ : TTree)) r8.1 (w64 (x5 + 1)))
  else some (x1, x0)) = some r) : laws_markTreeS_b1 x0 x1 x5 = some r := by
  refine Blk.of E15_inj ?_
  refine D_start (c' := d47_1) rfl ?_
  rcases ifB h with ⟨e1, h⟩ | ⟨e1, h⟩
  · obtain ⟨v1, e2, h⟩ := bnd h
    obtain ⟨v2, e3, h⟩ := bnd h
    have me3 := rdm (eTTree .own) e3
    try simp (implicitDefEqProofs := false) only [go_sem] at me3
    obtain ⟨r3, e4, h⟩ := bnd h
    obtain ⟨v4, e5, h⟩ := bnd h
    have me5 := rdm (eTTree .own) e5
    try simp (implicitDefEqProofs := false) only [go_sem] at me5
    obtain ⟨v5, e6, h⟩ := bnd h
    have me6 := rdm (eTTree .own) e6
    try simp (implicitDefEqProofs := false) only [go_sem] at me6
    obtain ⟨r6, e7, h⟩ := bnd h
    obtain ⟨v7, e8, h⟩ := bnd h
    have me8 := rdm (eTTree .own) e8
    try simp (implicitDefEqProofs := false) only [go_sem] at me8
    obtain ⟨r8, e9, h⟩ := bnd h
    have q := Blk.run h
    try simp (implicitDefEqProofs := false) only [go_sem] at q
    simp (implicitDefEqProofs := false) only [go_sem, d47_1, k47_1, e1, rdp e2, rdm (eTTree .own) e2, me3, laws_markText_run e4, me5, me6, laws_markPropS_run e7, me8, laws_markTreeS_run e9, Nat.reduceEqDiff, Nat.reduceAdd, Nat.reduceLeDiff, ↓reduceIte, reduceCtorEq, Nat.reduceEqDiff]
    exact q
  · cases h
    simp (implicitDefEqProofs := false) only [go_sem, d47_1, k47_1, R47, E15, e1, Nat.reduceEqDiff, Nat.reduceAdd, ↓reduceIte, reduceCtorEq, Nat.reduceBEq, Nat.reduceEqDiff]
theorem laws_markTree_of (x0 : TTree) (x1 : Int) {r : Int} (h : ((laws_markPropS x0.Props x1).bind fun r1 =>
  (laws_markTreeS x0.Kids r1.1).bind fun r2 =>
  some r2.1) = some r) : laws_markTree x0 x1 = some r := by
  refine Fn.of L_eq E1_inj (fi := fi19) rfl rfl ?_
  simp only [fi19]
  obtain ⟨r1, e1, h⟩ := bnd h
  obtain ⟨r2, e2, h⟩ := bnd h
  cases h
  simp (implicitDefEqProofs := false) only [go_sem, b19, R19, E1, laws_markPropS_run e1, laws_markTreeS_run e2, Nat.reduceEqDiff, Nat.reduceAdd, Nat.reduceLeDiff, ↓reduceIte, reduceCtorEq, Nat.reduceEqDiff]
theorem laws_markIntS_of (x0 : (List Int)) (x1 : Int) {r : Int × (List Int)} (h : (laws_markIntS_b1 x0 x1 0) = some r) : laws_markIntS x0 x1 = some r := by
  refine Fn.of L_eq E16_inj (fi := fi48) rfl rfl ?_
  simp only [fi48]
  have q := Blk.run h
  try simp (implicitDefEqProofs := false) only [go_sem] at q
  simp (implicitDefEqProofs := false) only [go_sem, b48, k48_1, Nat.reduceEqDiff, Nat.reduceAdd, ↓reduceIte, reduceCtorEq, Nat.reduceEqDiff]
  exact q
theorem laws_markIntS_b1_of (x0 : (List Int)) (x1 : Int) (x5 : Int) {r : Int × (List Int)} (h : (if decide (x5 < (x0.length : Int)) then ((rdx x0 x5).bind fun _v1 =>
   laws_markIntS_b1 (x0.set x5.toNat x1) (w64 (x1 + 1)) (w64 (x5 + 1)))
  else some (x1, x0)) = some r) : laws_markIntS_b1 x0 x1 x5 = some r := by
  refine Blk.of E16_inj ?_
  refine D_start (c' := d48_1) rfl ?_
  rcases ifB h with ⟨e1, h⟩ | ⟨e1, h⟩
  · obtain ⟨v1, e2, h⟩ := bnd h
    have q := Blk.run h
    try simp (implicitDefEqProofs := false) only [go_sem] at q
    simp (implicitDefEqProofs := false) only [go_sem, d48_1, k48_1, e1, rdp e2, rdm eI e2, Nat.reduceEqDiff, Nat.reduceAdd, Nat.reduceLeDiff, ↓reduceIte, reduceCtorEq, Nat.reduceEqDiff]
    exact q
  · cases h
    simp (implicitDefEqProofs := false) only [go_sem, d48_1, k48_1, R48, E16, e1, Nat.reduceEqDiff, Nat.reduceAdd, ↓reduceIte, reduceCtorEq, Nat.reduceBEq, Nat.reduceEqDiff]
end Go.Fw.Law
