/- Plain data of the program, and how they lie in cells. Conditions: none. -/
import Derived.Test.YtfemaegbcfaolaaGreatDoorFwYa
namespace Go.Fw.Law
open Go Go.Fw
structure TValue where
  Kind : Int
  Num : Int
  Text : Str
  deriving DecidableEq, Inhabited
theorem TValue.ext' {a b : TValue} (h0 : a.Kind = b.Kind) (h1 : a.Num = b.Num) (h2 : a.Text = b.Text) : a = b := by cases a; cases b; simp_all
structure TProp where
  Name : Int
  Val : TValue
  deriving DecidableEq, Inhabited
theorem TProp.ext' {a b : TProp} (h0 : a.Name = b.Name) (h1 : a.Val = b.Val) : a = b := by cases a; cases b; simp_all
structure TTree where
  Tag : Int
  Key : Int
  Text : Str
  Props : (List TProp)
  Kids : (List TTree)
  deriving Inhabited
theorem TTree.ext' {a b : TTree} (h0 : a.Tag = b.Tag) (h1 : a.Key = b.Key) (h2 : a.Text = b.Text) (h3 : a.Props = b.Props) (h4 : a.Kids = b.Kids) : a = b := by cases a; cases b; simp_all
structure TEdit where
  Kind : Int
  Way : (List Int)
  At : Int
  To : Int
  Val : TValue
  Tree : TTree
  deriving Inhabited
theorem TEdit.ext' {a b : TEdit} (h0 : a.Kind = b.Kind) (h1 : a.Way = b.Way) (h2 : a.At = b.At) (h3 : a.To = b.To) (h4 : a.Val = b.Val) (h5 : a.Tree = b.Tree) : a = b := by cases a; cases b; simp_all
def eTValue (x : TValue) : List AC := [.int .i64 x.Kind, .int .i64 x.Num, .str x.Text]
attribute [go_sem] eTValue
theorem eTValue_inj : ∀ a b, eTValue a = eTValue b → a = b := by
  intro a b h
  simp only [eTValue, List.cons.injEq, AC.int.injEq, AC.str.injEq, true_and, and_true] at h
  obtain ⟨h0, h1, h2⟩ := h
  exact (TValue.ext' h0 h1 h2)
theorem eTValue_flat (x : TValue) : (eTValue x).all AC.flat = true := rfl
theorem eTValue_frz (x : TValue) : frzL (eTValue x) = eTValue x := rfl
theorem eTValue_brw (x : TValue) : brwL (eTValue x) = eTValue x := rfl
theorem eTValue_cln (x : TValue) : clnL (eTValue x) = true := rfl
theorem eTValue_noOwn (x : TValue) : noOwnL (eTValue x) = true := rfl
theorem meTValue_frz (xs : List TValue) : frzLL (xs.map eTValue) = xs.map eTValue := by rw [frzLL_map, List.map_map]; rfl
theorem meTValue_brw (xs : List TValue) : brwLL (xs.map eTValue) = xs.map eTValue := by rw [brwLL_map, List.map_map]; rfl
theorem meTValue_cln (xs : List TValue) : clnLL (xs.map eTValue) = true := by rw [clnLL_all, List.all_map]; exact List.all_eq_true.2 fun x _ => rfl
theorem meTValue_flat (xs : List TValue) : flatLL (xs.map eTValue) = true := by rw [flatLL, List.all_map]; exact List.all_eq_true.2 fun x _ => rfl
attribute [go_sem] meTValue_frz meTValue_brw meTValue_cln meTValue_flat
def eTProp (x : TProp) : List AC := [.int .i64 x.Name, .int .i64 x.Val.Kind, .int .i64 x.Val.Num, .str x.Val.Text]
attribute [go_sem] eTProp
theorem eTProp_inj : ∀ a b, eTProp a = eTProp b → a = b := by
  intro a b h
  simp only [eTProp, List.cons.injEq, AC.int.injEq, AC.str.injEq, true_and, and_true] at h
  obtain ⟨h0, h1, h2, h3⟩ := h
  exact (TProp.ext' h0 (TValue.ext' h1 h2 h3))
theorem eTProp_flat (x : TProp) : (eTProp x).all AC.flat = true := rfl
theorem eTProp_frz (x : TProp) : frzL (eTProp x) = eTProp x := rfl
theorem eTProp_brw (x : TProp) : brwL (eTProp x) = eTProp x := rfl
theorem eTProp_cln (x : TProp) : clnL (eTProp x) = true := rfl
theorem eTProp_noOwn (x : TProp) : noOwnL (eTProp x) = true := rfl
theorem meTProp_frz (xs : List TProp) : frzLL (xs.map eTProp) = xs.map eTProp := by rw [frzLL_map, List.map_map]; rfl
theorem meTProp_brw (xs : List TProp) : brwLL (xs.map eTProp) = xs.map eTProp := by rw [brwLL_map, List.map_map]; rfl
theorem meTProp_cln (xs : List TProp) : clnLL (xs.map eTProp) = true := by rw [clnLL_all, List.all_map]; exact List.all_eq_true.2 fun x _ => rfl
theorem meTProp_flat (xs : List TProp) : flatLL (xs.map eTProp) = true := by rw [flatLL, List.all_map]; exact List.all_eq_true.2 fun x _ => rfl
attribute [go_sem] meTProp_frz meTProp_brw meTProp_cln meTProp_flat
mutual
def eTTree (m : Md) : TTree → List AC
  | ⟨x0, x1, x2, x3, x4⟩ => [.int .i64 x0, .int .i64 x1, .str x2, .sl m 4 (x3.map eTProp), .sl m 5 (eTTreeL m x4)]
def eTTreeL (m : Md) : List TTree → List (List AC)
  | [] => []
  | x :: xs => eTTree m x :: eTTreeL m xs
end
theorem eTTreeL_map (m : Md) : ∀ xs, eTTreeL m xs = xs.map (eTTree m)
  | [] => by simp [eTTreeL]
  | x :: xs => by simp [eTTreeL, eTTreeL_map m xs]
theorem eTTree_eq (m : Md) (x : TTree) : eTTree m x = [.int .i64 x.Tag, .int .i64 x.Key, .str x.Text, .sl m 4 (x.Props.map eTProp), .sl m 5 (x.Kids.map (eTTree m))] := by cases x; simp [eTTree, eTTreeL_map]
attribute [go_sem] eTTree_eq
mutual
theorem eTTree_inj (m : Md) : ∀ a b, eTTree m a = eTTree m b → a = b
  | ⟨x0, x1, x2, x3, x4⟩, b, h => by
    rw [eTTree_eq, eTTree_eq] at h
    simp only [List.cons.injEq, AC.sl.injEq, AC.int.injEq, AC.str.injEq, true_and, and_true] at h
    obtain ⟨h0, h1, h2, h3, h4⟩ := h
    exact (TTree.ext' h0 h1 h2 (mapInj eTProp_inj h3) (eTTreeL_inj m _ _ h4))
theorem eTTreeL_inj (m : Md) : ∀ a b : List TTree, a.map (eTTree m) = b.map (eTTree m) → a = b
  | [], b, h => by cases b with | nil => rfl | cons y ys => simp at h
  | x :: xs, b, h => by
    cases b with
    | nil => simp at h
    | cons y ys =>
      simp only [List.map_cons, List.cons.injEq] at h
      rw [eTTree_inj m x y h.1, eTTreeL_inj m xs ys h.2]
end
mutual
theorem eTTree_frz : ∀ x : TTree, frzL (eTTree .own x) = eTTree .sh x
  | ⟨x0, x1, x2, x3, x4⟩ => by
    rw [eTTree_eq, eTTree_eq]
    simp only [frzL, AC.frz, meTProp_frz, eTTreeL_frz]
theorem eTTreeL_frz : ∀ xs : List TTree, frzLL (xs.map (eTTree .own)) = xs.map (eTTree .sh)
  | [] => rfl
  | x :: xs => by simp only [List.map_cons, frzLL, eTTree_frz x, eTTreeL_frz xs]
end
theorem eTTree_frz2 (x : TTree) : frzL (eTTree .sh x) = eTTree .sh x := by simp only [eTTree_eq, frzL, AC.frz]
mutual
theorem eTTree_brw (m : Md) : ∀ x : TTree, brwL (eTTree m x) = eTTree .bor x
  | ⟨x0, x1, x2, x3, x4⟩ => by
    rw [eTTree_eq, eTTree_eq]
    simp only [brwL, AC.brw, meTProp_brw, eTTreeL_brw m]
theorem eTTreeL_brw (m : Md) : ∀ xs : List TTree, brwLL (xs.map (eTTree m)) = xs.map (eTTree .bor)
  | [] => rfl
  | x :: xs => by simp only [List.map_cons, brwLL, eTTree_brw m x, eTTreeL_brw m xs]
end
mutual
theorem eTTree_cln : ∀ x : TTree, clnL (eTTree .own x) = true
  | ⟨x0, x1, x2, x3, x4⟩ => by
    rw [eTTree_eq]
    simp only [clnL, AC.cln, Bool.and_self, meTProp_cln, eTTreeL_cln]
theorem eTTreeL_cln : ∀ xs : List TTree, clnLL (xs.map (eTTree .own)) = true
  | [] => rfl
  | x :: xs => by simp only [List.map_cons, clnLL, eTTree_cln x, eTTreeL_cln xs, Bool.and_self]
end
theorem meTTree_frz (xs : List TTree) : frzLL (xs.map (eTTree .own)) = xs.map (eTTree .sh) := by rw [frzLL_map, List.map_map]; exact List.map_congr_left fun x _ => eTTree_frz x
theorem meTTree_brw (m : Md) (xs : List TTree) : brwLL (xs.map (eTTree m)) = xs.map (eTTree .bor) := by rw [brwLL_map, List.map_map]; exact List.map_congr_left fun x _ => eTTree_brw m x
theorem meTTree_cln (xs : List TTree) : clnLL (xs.map (eTTree .own)) = true := by rw [clnLL_all, List.all_map]; exact List.all_eq_true.2 fun x _ => eTTree_cln x
theorem meTTree_copyb (xs : List TTree) : copyRows .bor [] (xs.map (eTTree .bor)) = some (xs.map (eTTree .bor)) := copyRows_bor (meTTree_brw .bor xs)
attribute [go_sem] meTTree_frz meTTree_brw meTTree_cln meTTree_copyb
def eTEdit (m : Md) (x : TEdit) : List AC := [.int .i64 x.Kind, .sl m 1 (x.Way.map eI), .int .i64 x.At, .int .i64 x.To, .int .i64 x.Val.Kind, .int .i64 x.Val.Num, .str x.Val.Text, .int .i64 x.Tree.Tag, .int .i64 x.Tree.Key, .str x.Tree.Text, .sl m 4 (x.Tree.Props.map eTProp), .sl m 5 (x.Tree.Kids.map (eTTree m))]
attribute [go_sem] eTEdit
theorem eTEdit_inj (m : Md) : ∀ a b, eTEdit m a = eTEdit m b → a = b := by
  intro a b h
  simp only [eTEdit, List.cons.injEq, AC.sl.injEq, AC.int.injEq, AC.str.injEq, true_and, and_true] at h
  obtain ⟨h0, h1, h2, h3, h4, h5, h6, h7, h8, h9, h10, h11⟩ := h
  exact (TEdit.ext' h0 (mapInj eI_inj h1) h2 h3 (TValue.ext' h4 h5 h6) (TTree.ext' h7 h8 h9 (mapInj eTProp_inj h10) (mapInj (eTTree_inj m) h11)))
theorem eTEdit_frz (x : TEdit) : frzL (eTEdit .own x) = eTEdit .sh x := by simp only [eTEdit, frzL, AC.frz, meI_frz, meTProp_frz, meTTree_frz]
theorem eTEdit_frz2 (x : TEdit) : frzL (eTEdit .sh x) = eTEdit .sh x := by simp only [eTEdit, frzL, AC.frz]
theorem eTEdit_brw (m : Md) (x : TEdit) : brwL (eTEdit m x) = eTEdit .bor x := by simp only [eTEdit, brwL, AC.brw, meI_brw, meTProp_brw, meTTree_brw]
theorem eTEdit_cln (x : TEdit) : clnL (eTEdit .own x) = true := by simp only [eTEdit, clnL, AC.cln, meI_cln, meTProp_cln, meTTree_cln, Bool.and_true]
theorem meTEdit_frz (xs : List TEdit) : frzLL (xs.map (eTEdit .own)) = xs.map (eTEdit .sh) := by rw [frzLL_map, List.map_map]; exact List.map_congr_left fun x _ => eTEdit_frz x
theorem meTEdit_brw (m : Md) (xs : List TEdit) : brwLL (xs.map (eTEdit m)) = xs.map (eTEdit .bor) := by rw [brwLL_map, List.map_map]; exact List.map_congr_left fun x _ => eTEdit_brw m x
theorem meTEdit_cln (xs : List TEdit) : clnLL (xs.map (eTEdit .own)) = true := by rw [clnLL_all, List.all_map]; exact List.all_eq_true.2 fun x _ => eTEdit_cln x
theorem meTEdit_copyb (xs : List TEdit) : copyRows .bor [] (xs.map (eTEdit .bor)) = some (xs.map (eTEdit .bor)) := copyRows_bor (meTEdit_brw .bor xs)
attribute [go_sem] meTEdit_frz meTEdit_brw meTEdit_cln meTEdit_copyb
def E1 (r : Int) : AOut := ⟨.pl false [.int .i64 r], []⟩
attribute [go_sem] E1
theorem E1_inj : ∀ a b, E1 a = E1 b → a = b := by
  intro a b h
  simp only [E1, AOut.mk.injEq, TV.pl.injEq, List.cons.injEq, AC.int.injEq, true_and, and_true] at h
  have h0 := h
  exact h0
def E2 (r : TValue) : AOut := ⟨.pl true [.int .i64 r.Kind, .int .i64 r.Num, .str r.Text], []⟩
attribute [go_sem] E2
theorem E2_inj : ∀ a b, E2 a = E2 b → a = b := by
  intro a b h
  simp only [E2, AOut.mk.injEq, TV.pl.injEq, List.cons.injEq, AC.int.injEq, AC.str.injEq, true_and, and_true] at h
  obtain ⟨h0, h1, h2⟩ := h
  exact (TValue.ext' h0 h1 h2)
def E3 (r : TProp) : AOut := ⟨.pl true [.int .i64 r.Name, .int .i64 r.Val.Kind, .int .i64 r.Val.Num, .str r.Val.Text], []⟩
attribute [go_sem] E3
theorem E3_inj : ∀ a b, E3 a = E3 b → a = b := by
  intro a b h
  simp only [E3, AOut.mk.injEq, TV.pl.injEq, List.cons.injEq, AC.int.injEq, AC.str.injEq, true_and, and_true] at h
  obtain ⟨h0, h1, h2, h3⟩ := h
  exact (TProp.ext' h0 (TValue.ext' h1 h2 h3))
def E4 (r : (List TProp)) : AOut := ⟨.pl false [.sl .own 4 (r.map eTProp)], []⟩
attribute [go_sem] E4
theorem E4_inj : ∀ a b, E4 a = E4 b → a = b := by
  intro a b h
  simp only [E4, AOut.mk.injEq, TV.pl.injEq, List.cons.injEq, AC.sl.injEq, true_and, and_true] at h
  have h0 := h
  exact (mapInj eTProp_inj h0)
def E5 (r : (List TTree)) : AOut := ⟨.pl false [.sl .own 5 (r.map (eTTree .own))], []⟩
attribute [go_sem] E5
theorem E5_inj : ∀ a b, E5 a = E5 b → a = b := by
  intro a b h
  simp only [E5, AOut.mk.injEq, TV.pl.injEq, List.cons.injEq, AC.sl.injEq, true_and, and_true] at h
  have h0 := h
  exact (mapInj (eTTree_inj .own) h0)
def E6 (r : TTree) : AOut := ⟨.pl true [.int .i64 r.Tag, .int .i64 r.Key, .str r.Text, .sl .own 4 (r.Props.map eTProp), .sl .own 5 (r.Kids.map (eTTree .own))], []⟩
attribute [go_sem] E6
theorem E6_inj : ∀ a b, E6 a = E6 b → a = b := by
  intro a b h
  simp only [E6, AOut.mk.injEq, TV.pl.injEq, List.cons.injEq, AC.sl.injEq, AC.int.injEq, AC.str.injEq, true_and, and_true] at h
  obtain ⟨h0, h1, h2, h3, h4⟩ := h
  exact (TTree.ext' h0 h1 h2 (mapInj eTProp_inj h3) (mapInj (eTTree_inj .own) h4))
def E7 (r : Bool) : AOut := ⟨.pl false [.bool r], []⟩
attribute [go_sem] E7
theorem E7_inj : ∀ a b, E7 a = E7 b → a = b := by
  intro a b h
  simp only [E7, AOut.mk.injEq, TV.pl.injEq, List.cons.injEq, AC.bool.injEq, true_and, and_true] at h
  have h0 := h
  exact h0
def E8 (r : Str) : AOut := ⟨.pl false [.str r], []⟩
attribute [go_sem] E8
theorem E8_inj : ∀ a b, E8 a = E8 b → a = b := by
  intro a b h
  simp only [E8, AOut.mk.injEq, TV.pl.injEq, List.cons.injEq, AC.str.injEq, true_and, and_true] at h
  have h0 := h
  exact h0
def E9 (r : (List TEdit)) : AOut := ⟨.pl false [.sl .own 12 (r.map (eTEdit .own))], []⟩
attribute [go_sem] E9
theorem E9_inj : ∀ a b, E9 a = E9 b → a = b := by
  intro a b h
  simp only [E9, AOut.mk.injEq, TV.pl.injEq, List.cons.injEq, AC.sl.injEq, true_and, and_true] at h
  have h0 := h
  exact (mapInj (eTEdit_inj .own) h0)
def E10 (r : (List Int)) : AOut := ⟨.pl false [.sl .own 1 (r.map eI)], []⟩
attribute [go_sem] E10
theorem E10_inj : ∀ a b, E10 a = E10 b → a = b := by
  intro a b h
  simp only [E10, AOut.mk.injEq, TV.pl.injEq, List.cons.injEq, AC.sl.injEq, true_and, and_true] at h
  have h0 := h
  exact (mapInj eI_inj h0)
def E11 (r : (List Bool)) : AOut := ⟨.pl false [.sl .own 1 (r.map eB)], []⟩
attribute [go_sem] E11
theorem E11_inj : ∀ a b, E11 a = E11 b → a = b := by
  intro a b h
  simp only [E11, AOut.mk.injEq, TV.pl.injEq, List.cons.injEq, AC.sl.injEq, true_and, and_true] at h
  have h0 := h
  exact (mapInj eB_inj h0)
def E12 (r : Int × Bool) : AOut := ⟨.tup [(false, [.int .i64 r.1]), (false, [.err r.2])], []⟩
attribute [go_sem] E12
theorem E12_inj : ∀ a b, E12 a = E12 b → a = b := by
  intro a b h
  simp only [E12, AOut.mk.injEq, TV.tup.injEq, List.cons.injEq, Prod.mk.injEq, AC.int.injEq, AC.err.injEq, true_and, and_true] at h
  obtain ⟨h0, h1⟩ := h
  exact (Prod.ext h0 h1)
def E13 (r : Bool × Int) : AOut := ⟨.pl false [.bool r.1], [[.int .i64 r.2]]⟩
attribute [go_sem] E13
theorem E13_inj : ∀ a b, E13 a = E13 b → a = b := by
  intro a b h
  simp only [E13, AOut.mk.injEq, TV.pl.injEq, List.cons.injEq, AC.int.injEq, AC.bool.injEq, true_and, and_true] at h
  obtain ⟨h0, h1⟩ := h
  exact (Prod.ext h0 h1)
def E14 (r : Int × (List TProp)) : AOut := ⟨.pl false [.int .i64 r.1], [[.sl .own 4 (r.2.map eTProp)]]⟩
attribute [go_sem] E14
theorem E14_inj : ∀ a b, E14 a = E14 b → a = b := by
  intro a b h
  simp only [E14, AOut.mk.injEq, TV.pl.injEq, List.cons.injEq, AC.sl.injEq, AC.int.injEq, true_and, and_true] at h
  obtain ⟨h0, h1⟩ := h
  exact (Prod.ext h0 (mapInj eTProp_inj h1))
def E15 (r : Int × (List TTree)) : AOut := ⟨.pl false [.int .i64 r.1], [[.sl .own 5 (r.2.map (eTTree .own))]]⟩
attribute [go_sem] E15
theorem E15_inj : ∀ a b, E15 a = E15 b → a = b := by
  intro a b h
  simp only [E15, AOut.mk.injEq, TV.pl.injEq, List.cons.injEq, AC.sl.injEq, AC.int.injEq, true_and, and_true] at h
  obtain ⟨h0, h1⟩ := h
  exact (Prod.ext h0 (mapInj (eTTree_inj .own) h1))
def E16 (r : Int × (List Int)) : AOut := ⟨.pl false [.int .i64 r.1], [[.sl .own 1 (r.2.map eI)]]⟩
attribute [go_sem] E16
theorem E16_inj : ∀ a b, E16 a = E16 b → a = b := by
  intro a b h
  simp only [E16, AOut.mk.injEq, TV.pl.injEq, List.cons.injEq, AC.sl.injEq, AC.int.injEq, true_and, and_true] at h
  obtain ⟨h0, h1⟩ := h
  exact (Prod.ext h0 (mapInj eI_inj h1))
def E17 (r : Int × (List TEdit)) : AOut := ⟨.pl false [.int .i64 r.1], [[.sl .own 12 (r.2.map (eTEdit .own))]]⟩
attribute [go_sem] E17
theorem E17_inj : ∀ a b, E17 a = E17 b → a = b := by
  intro a b h
  simp only [E17, AOut.mk.injEq, TV.pl.injEq, List.cons.injEq, AC.sl.injEq, AC.int.injEq, true_and, and_true] at h
  obtain ⟨h0, h1⟩ := h
  exact (Prod.ext h0 (mapInj (eTEdit_inj .own) h1))
end Go.Fw.Law
