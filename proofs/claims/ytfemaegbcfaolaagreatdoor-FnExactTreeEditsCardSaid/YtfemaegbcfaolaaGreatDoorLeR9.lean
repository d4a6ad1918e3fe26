/- What the functions come to. All rules. Conditions: none. -/
import Derived.Test.YtfemaegbcfaolaaGreatDoorLeD
import Derived.Test.YtfemaegbcfaolaaGreatDoorLeR0
import Derived.Test.YtfemaegbcfaolaaGreatDoorLeR1
import Derived.Test.YtfemaegbcfaolaaGreatDoorLeR2
import Derived.Test.YtfemaegbcfaolaaGreatDoorLeR3
import Derived.Test.YtfemaegbcfaolaaGreatDoorLeR4
import Derived.Test.YtfemaegbcfaolaaGreatDoorLeR5
import Derived.Test.YtfemaegbcfaolaaGreatDoorLeR6
import Derived.Test.YtfemaegbcfaolaaGreatDoorLeR7
import Derived.Test.YtfemaegbcfaolaaGreatDoorLeR8
namespace Go.Fw.Law
open Go Go.Fw
set_option maxHeartbeats 4000000 in
theorem laws_FnExactTreeEdits_of (x0 : TTree) (x1 : TTree) {r : Bool} (h : ((laws_szTree x0 1048576).bind fun r1 =>
  if decide (r1 < 0) then some true
  else ((laws_szTree x1 r1).bind fun r2 =>
   if decide (r2 < 0) then some true
   else ((laws_toTree x0).bind fun r3 =>
    (laws_toTree x1).bind fun r4 =>
    (spec_TreeEdits r3 r4).bind fun r5 =>
    (impl_TreeEdits r3 r4).bind fun r6 =>
    (laws_eqEditS r6 r5).bind fun r7 =>
    if !r7 then some false
    else ((laws_eqTree_v r3 r3).bind fun r8 =>
     if !r8 then some false
     else ((laws_eqTree_v r4 r4).bind fun r9 =>
      if !r9 then some false
      else ((laws_markTree r3 1).bind fun r10 =>
       (laws_markTree r4 r10).bind fun r11 =>
       if decide (r11 < 0) then some false
       else ((laws_markEditS r6 1).bind fun r12 =>
        (laws_heldEditS r12.2 1).bind fun r13 =>
        if decide (r13 < 0) then some false
        else (if !(decide (r13 = r12.1)) then some false
         else some true)))))))) = some r) : laws_FnExactTreeEdits x0 x1 = some r := by
  refine Fn.of L_eq E7_inj (fi := fi5) rfl rfl ?_
  simp only [fi5]
  obtain ⟨r1, e1, h⟩ := bnd h
  rcases ifB h with ⟨e2, h⟩ | ⟨e2, h⟩
  · cases h
    simp (implicitDefEqProofs := false) only [go_sem, b5, R5, E7, laws_szTree_run e1, e2, Nat.reduceEqDiff, Nat.reduceAdd, Nat.reduceLeDiff, ↓reduceIte, reduceCtorEq, Nat.reduceEqDiff]
  · obtain ⟨r2, e3, h⟩ := bnd h
    rcases ifB h with ⟨e4, h⟩ | ⟨e4, h⟩
    · cases h
      simp (implicitDefEqProofs := false) only [go_sem, b5, R5, E7, laws_szTree_run e1, e2, laws_szTree_run e3, e4, Nat.reduceEqDiff, Nat.reduceAdd, Nat.reduceLeDiff, ↓reduceIte, reduceCtorEq, Nat.reduceEqDiff]
    · obtain ⟨r3, e5, h⟩ := bnd h
      obtain ⟨r4, e6, h⟩ := bnd h
      obtain ⟨r5, e7, h⟩ := bnd h
      obtain ⟨r6, e8, h⟩ := bnd h
      obtain ⟨r7, e9, h⟩ := bnd h
      rcases ifB h with ⟨e10, h⟩ | ⟨e10, h⟩
      · cases h
        simp (implicitDefEqProofs := false) only [go_sem, b5, R5, E7, laws_szTree_run e1, e2, laws_szTree_run e3, e4, laws_toTree_run e5, laws_toTree_run e6, spec_TreeEdits_run e7, impl_TreeEdits_run e8, laws_eqEditS_run e9, e10, Nat.reduceEqDiff, Nat.reduceAdd, Nat.reduceLeDiff, ↓reduceIte, reduceCtorEq, Nat.reduceEqDiff]
      · obtain ⟨r8, e11, h⟩ := bnd h
        rcases ifB h with ⟨e12, h⟩ | ⟨e12, h⟩
        · cases h
          simp (implicitDefEqProofs := false) only [go_sem, b5, R5, E7, laws_szTree_run e1, e2, laws_szTree_run e3, e4, laws_toTree_run e5, laws_toTree_run e6, spec_TreeEdits_run e7, impl_TreeEdits_run e8, laws_eqEditS_run e9, e10, laws_eqTree_v_run e11, e12, Nat.reduceEqDiff, Nat.reduceAdd, Nat.reduceLeDiff, ↓reduceIte, reduceCtorEq, Nat.reduceEqDiff]
        · obtain ⟨r9, e13, h⟩ := bnd h
          rcases ifB h with ⟨e14, h⟩ | ⟨e14, h⟩
          · cases h
            simp (implicitDefEqProofs := false) only [go_sem, b5, R5, E7, laws_szTree_run e1, e2, laws_szTree_run e3, e4, laws_toTree_run e5, laws_toTree_run e6, spec_TreeEdits_run e7, impl_TreeEdits_run e8, laws_eqEditS_run e9, e10, laws_eqTree_v_run e11, e12, laws_eqTree_v_run e13, e14, Nat.reduceEqDiff, Nat.reduceAdd, Nat.reduceLeDiff, ↓reduceIte, reduceCtorEq, Nat.reduceEqDiff]
          · obtain ⟨r10, e15, h⟩ := bnd h
            obtain ⟨r11, e16, h⟩ := bnd h
            rcases ifB h with ⟨e17, h⟩ | ⟨e17, h⟩
            · cases h
              simp (implicitDefEqProofs := false) only [go_sem, b5, R5, E7, laws_szTree_run e1, e2, laws_szTree_run e3, e4, laws_toTree_run e5, laws_toTree_run e6, spec_TreeEdits_run e7, impl_TreeEdits_run e8, laws_eqEditS_run e9, e10, laws_eqTree_v_run e11, e12, laws_eqTree_v_run e13, e14, laws_markTree_run e15, laws_markTree_run e16, e17, Nat.reduceEqDiff, Nat.reduceAdd, Nat.reduceLeDiff, ↓reduceIte, reduceCtorEq, Nat.reduceEqDiff]
            · obtain ⟨r12, e18, h⟩ := bnd h
              obtain ⟨r13, e19, h⟩ := bnd h
              rcases ifB h with ⟨e20, h⟩ | ⟨e20, h⟩
              · cases h
                simp (implicitDefEqProofs := false) only [go_sem, b5, R5, E7, laws_szTree_run e1, e2, laws_szTree_run e3, e4, laws_toTree_run e5, laws_toTree_run e6, spec_TreeEdits_run e7, impl_TreeEdits_run e8, laws_eqEditS_run e9, e10, laws_eqTree_v_run e11, e12, laws_eqTree_v_run e13, e14, laws_markTree_run e15, laws_markTree_run e16, e17, laws_markEditS_run e18, laws_heldEditS_run e19, e20, Nat.reduceEqDiff, Nat.reduceAdd, Nat.reduceLeDiff, ↓reduceIte, reduceCtorEq, Nat.reduceEqDiff]
              · rcases ifB h with ⟨e21, h⟩ | ⟨e21, h⟩
                · cases h
                  simp (implicitDefEqProofs := false) only [go_sem, b5, R5, E7, laws_szTree_run e1, e2, laws_szTree_run e3, e4, laws_toTree_run e5, laws_toTree_run e6, spec_TreeEdits_run e7, impl_TreeEdits_run e8, laws_eqEditS_run e9, e10, laws_eqTree_v_run e11, e12, laws_eqTree_v_run e13, e14, laws_markTree_run e15, laws_markTree_run e16, e17, laws_markEditS_run e18, laws_heldEditS_run e19, e20, e21, Nat.reduceEqDiff, Nat.reduceAdd, Nat.reduceLeDiff, ↓reduceIte, reduceCtorEq, Nat.reduceEqDiff]
                · cases h
                  simp (implicitDefEqProofs := false) only [go_sem, b5, R5, E7, laws_szTree_run e1, e2, laws_szTree_run e3, e4, laws_toTree_run e5, laws_toTree_run e6, spec_TreeEdits_run e7, impl_TreeEdits_run e8, laws_eqEditS_run e9, e10, laws_eqTree_v_run e11, e12, laws_eqTree_v_run e13, e14, laws_markTree_run e15, laws_markTree_run e16, e17, laws_markEditS_run e18, laws_heldEditS_run e19, e20, e21, Nat.reduceEqDiff, Nat.reduceAdd, Nat.reduceLeDiff, ↓reduceIte, reduceCtorEq, Nat.reduceEqDiff]
end Go.Fw.Law
namespace Go.Fw.Law
open Go Go.Fw
end Go.Fw.Law
