/- Plain data of the program, and how they lie in cells. Conditions: none. -/
import Derived.Test.YtjldolmokfnkoaaGreatDoorFwYa
namespace Go.Fw.Law
open Go Go.Fw
structure TValue where
  Kind : Int
  Num : Int
  Text : Str
  deriving DecidableEq, Inhabited
theorem TValue.ext' {a b : TValue} (h0 : a.Kind = b.Kind) (h1 : a.Num = b.Num) (h2 : a.Text = b.Text) : a = b := by cases a; cases b; simp_all
structure TProp where
  Name : Int
  Val : TValue
  deriving DecidableEq, Inhabited
theorem TProp.ext' {a b : TProp} (h0 : a.Name = b.Name) (h1 : a.Val = b.Val) : a = b := by cases a; cases b; simp_all
structure TTree where
  Tag : Int
  Key : Int
  Text : Str
  Props : (List TProp)
  Kids : (List TTree)
  deriving Inhabited
theorem TTree.ext' {a b : TTree} (h0 : a.Tag = b.Tag) (h1 : a.Key = b.Key) (h2 : a.Text = b.Text) (h3 : a.Props = b.Props) (h4 : a.Kids = b.Kids) : a = b := by cases a; cases b; simp_all
structure TRule where
  Tag : Int
  Above : Int
  Name : Int
  Val : TValue
  Look : Int
  Give : Int
  deriving DecidableEq, Inhabited
theorem TRule.ext' {a b : TRule} (h0 : a.Tag = b.Tag) (h1 : a.Above = b.Above) (h2 : a.Name = b.Name) (h3 : a.Val = b.Val) (h4 : a.Look = b.Look) (h5 : a.Give = b.Give) : a = b := by cases a; cases b; simp_all
structure TBox where
  Left : Int
  Top : Int
  Wide : Int
  High : Int
  deriving DecidableEq, Inhabited
theorem TBox.ext' {a b : TBox} (h0 : a.Left = b.Left) (h1 : a.Top = b.Top) (h2 : a.Wide = b.Wide) (h3 : a.High = b.High) : a = b := by cases a; cases b; simp_all
structure TPlacer where
  rules : (List TRule)
  out : (List TBox)
  deriving Inhabited
theorem TPlacer.ext' {a b : TPlacer} (h0 : a.rules = b.rules) (h1 : a.out = b.out) : a = b := by cases a; cases b; simp_all
structure TPainter where
  rules : (List TRule)
  boxes : (List TBox)
  at_ : Int
  wide : Int
  high : Int
  cells : (List Int)
  owner : (List Int)
  deriving Inhabited
theorem TPainter.ext' {a b : TPainter} (h0 : a.rules = b.rules) (h1 : a.boxes = b.boxes) (h2 : a.at_ = b.at_) (h3 : a.wide = b.wide) (h4 : a.high = b.high) (h5 : a.cells = b.cells) (h6 : a.owner = b.owner) : a = b := by cases a; cases b; simp_all
structure TBoxer where
  looks : (List (List Int))
  at_ : Int
  out : (List TBox)
  deriving Inhabited
theorem TBoxer.ext' {a b : TBoxer} (h0 : a.looks = b.looks) (h1 : a.at_ = b.at_) (h2 : a.out = b.out) : a = b := by cases a; cases b; simp_all
structure TCanvas where
  looks : (List (List Int))
  boxes : (List TBox)
  at_ : Int
  rows : (List (List Int))
  hits : (List (List Int))
  deriving Inhabited
theorem TCanvas.ext' {a b : TCanvas} (h0 : a.looks = b.looks) (h1 : a.boxes = b.boxes) (h2 : a.at_ = b.at_) (h3 : a.rows = b.rows) (h4 : a.hits = b.hits) : a = b := by cases a; cases b; simp_all
def eTValue (x : TValue) : List AC := [.int .i64 x.Kind, .int .i64 x.Num, .str x.Text]
attribute [go_sem] eTValue
theorem eTValue_inj : ∀ a b, eTValue a = eTValue b → a = b := by
  intro a b h
  simp only [eTValue, List.cons.injEq, AC.int.injEq, AC.str.injEq, true_and, and_true] at h
  obtain ⟨h0, h1, h2⟩ := h
  exact (TValue.ext' h0 h1 h2)
theorem eTValue_flat (x : TValue) : (eTValue x).all AC.flat = true := rfl
theorem eTValue_frz (x : TValue) : frzL (eTValue x) = eTValue x := rfl
theorem eTValue_brw (x : TValue) : brwL (eTValue x) = eTValue x := rfl
theorem eTValue_cln (x : TValue) : clnL (eTValue x) = true := rfl
theorem eTValue_noOwn (x : TValue) : noOwnL (eTValue x) = true := rfl
theorem meTValue_frz (xs : List TValue) : frzLL (xs.map eTValue) = xs.map eTValue := by rw [frzLL_map, List.map_map]; rfl
theorem meTValue_brw (xs : List TValue) : brwLL (xs.map eTValue) = xs.map eTValue := by rw [brwLL_map, List.map_map]; rfl
theorem meTValue_cln (xs : List TValue) : clnLL (xs.map eTValue) = true := by rw [clnLL_all, List.all_map]; exact List.all_eq_true.2 fun x _ => rfl
theorem meTValue_flat (xs : List TValue) : flatLL (xs.map eTValue) = true := by rw [flatLL, List.all_map]; exact List.all_eq_true.2 fun x _ => rfl
attribute [go_sem] meTValue_frz meTValue_brw meTValue_cln meTValue_flat
def eTProp (x : TProp) : List AC := [.int .i64 x.Name, .int .i64 x.Val.Kind, .int .i64 x.Val.Num, .str x.Val.Text]
attribute [go_sem] eTProp
theorem eTProp_inj : ∀ a b, eTProp a = eTProp b → a = b := by
  intro a b h
  simp only [eTProp, List.cons.injEq, AC.int.injEq, AC.str.injEq, true_and, and_true] at h
  obtain ⟨h0, h1, h2, h3⟩ := h
  exact (TProp.ext' h0 (TValue.ext' h1 h2 h3))
theorem eTProp_flat (x : TProp) : (eTProp x).all AC.flat = true := rfl
theorem eTProp_frz (x : TProp) : frzL (eTProp x) = eTProp x := rfl
theorem eTProp_brw (x : TProp) : brwL (eTProp x) = eTProp x := rfl
theorem eTProp_cln (x : TProp) : clnL (eTProp x) = true := rfl
theorem eTProp_noOwn (x : TProp) : noOwnL (eTProp x) = true := rfl
theorem meTProp_frz (xs : List TProp) : frzLL (xs.map eTProp) = xs.map eTProp := by rw [frzLL_map, List.map_map]; rfl
theorem meTProp_brw (xs : List TProp) : brwLL (xs.map eTProp) = xs.map eTProp := by rw [brwLL_map, List.map_map]; rfl
theorem meTProp_cln (xs : List TProp) : clnLL (xs.map eTProp) = true := by rw [clnLL_all, List.all_map]; exact List.all_eq_true.2 fun x _ => rfl
theorem meTProp_flat (xs : List TProp) : flatLL (xs.map eTProp) = true := by rw [flatLL, List.all_map]; exact List.all_eq_true.2 fun x _ => rfl
attribute [go_sem] meTProp_frz meTProp_brw meTProp_cln meTProp_flat
mutual
def eTTree (m : Md) : TTree → List AC
  | ⟨x0, x1, x2, x3, x4⟩ => [.int .i64 x0, .int .i64 x1, .str x2, .sl m 4 (x3.map eTProp), .sl m 5 (eTTreeL m x4)]
def eTTreeL (m : Md) : List TTree → List (List AC)
  | [] => []
  | x :: xs => eTTree m x :: eTTreeL m xs
end
theorem eTTreeL_map (m : Md) : ∀ xs, eTTreeL m xs = xs.map (eTTree m)
  | [] => by simp [eTTreeL]
  | x :: xs => by simp [eTTreeL, eTTreeL_map m xs]
theorem eTTree_eq (m : Md) (x : TTree) : eTTree m x = [.int .i64 x.Tag, .int .i64 x.Key, .str x.Text, .sl m 4 (x.Props.map eTProp), .sl m 5 (x.Kids.map (eTTree m))] := by cases x; simp [eTTree, eTTreeL_map]
attribute [go_sem] eTTree_eq
mutual
theorem eTTree_inj (m : Md) : ∀ a b, eTTree m a = eTTree m b → a = b
  | ⟨x0, x1, x2, x3, x4⟩, b, h => by
    rw [eTTree_eq, eTTree_eq] at h
    simp only [List.cons.injEq, AC.sl.injEq, AC.int.injEq, AC.str.injEq, true_and, and_true] at h
    obtain ⟨h0, h1, h2, h3, h4⟩ := h
    exact (TTree.ext' h0 h1 h2 (mapInj eTProp_inj h3) (eTTreeL_inj m _ _ h4))
theorem eTTreeL_inj (m : Md) : ∀ a b : List TTree, a.map (eTTree m) = b.map (eTTree m) → a = b
  | [], b, h => by cases b with | nil => rfl | cons y ys => simp at h
  | x :: xs, b, h => by
    cases b with
    | nil => simp at h
    | cons y ys =>
      simp only [List.map_cons, List.cons.injEq] at h
      rw [eTTree_inj m x y h.1, eTTreeL_inj m xs ys h.2]
end
mutual
theorem eTTree_frz : ∀ x : TTree, frzL (eTTree .own x) = eTTree .sh x
  | ⟨x0, x1, x2, x3, x4⟩ => by
    rw [eTTree_eq, eTTree_eq]
    simp only [frzL, AC.frz, meTProp_frz, eTTreeL_frz]
theorem eTTreeL_frz : ∀ xs : List TTree, frzLL (xs.map (eTTree .own)) = xs.map (eTTree .sh)
  | [] => rfl
  | x :: xs => by simp only [List.map_cons, frzLL, eTTree_frz x, eTTreeL_frz xs]
end
theorem eTTree_frz2 (x : TTree) : frzL (eTTree .sh x) = eTTree .sh x := by simp only [eTTree_eq, frzL, AC.frz]
mutual
theorem eTTree_brw (m : Md) : ∀ x : TTree, brwL (eTTree m x) = eTTree .bor x
  | ⟨x0, x1, x2, x3, x4⟩ => by
    rw [eTTree_eq, eTTree_eq]
    simp only [brwL, AC.brw, meTProp_brw, eTTreeL_brw m]
theorem eTTreeL_brw (m : Md) : ∀ xs : List TTree, brwLL (xs.map (eTTree m)) = xs.map (eTTree .bor)
  | [] => rfl
  | x :: xs => by simp only [List.map_cons, brwLL, eTTree_brw m x, eTTreeL_brw m xs]
end
mutual
theorem eTTree_cln : ∀ x : TTree, clnL (eTTree .own x) = true
  | ⟨x0, x1, x2, x3, x4⟩ => by
    rw [eTTree_eq]
    simp only [clnL, AC.cln, Bool.and_self, meTProp_cln, eTTreeL_cln]
theorem eTTreeL_cln : ∀ xs : List TTree, clnLL (xs.map (eTTree .own)) = true
  | [] => rfl
  | x :: xs => by simp only [List.map_cons, clnLL, eTTree_cln x, eTTreeL_cln xs, Bool.and_self]
end
theorem meTTree_frz (xs : List TTree) : frzLL (xs.map (eTTree .own)) = xs.map (eTTree .sh) := by rw [frzLL_map, List.map_map]; exact List.map_congr_left fun x _ => eTTree_frz x
theorem meTTree_frz2 (xs : List TTree) : frzLL (xs.map (eTTree .sh)) = xs.map (eTTree .sh) := by rw [frzLL_map, List.map_map]; exact List.map_congr_left fun x _ => eTTree_frz2 x
theorem meTTree_brw (m : Md) (xs : List TTree) : brwLL (xs.map (eTTree m)) = xs.map (eTTree .bor) := by rw [brwLL_map, List.map_map]; exact List.map_congr_left fun x _ => eTTree_brw m x
theorem meTTree_cln (xs : List TTree) : clnLL (xs.map (eTTree .own)) = true := by rw [clnLL_all, List.all_map]; exact List.all_eq_true.2 fun x _ => eTTree_cln x
theorem meTTree_copyb (xs : List TTree) : copyRows .bor [] (xs.map (eTTree .bor)) = some (xs.map (eTTree .bor)) := copyRows_bor (meTTree_brw .bor xs)
attribute [go_sem] meTTree_frz meTTree_frz2 meTTree_brw meTTree_cln meTTree_copyb
def eTRule (x : TRule) : List AC := [.int .i64 x.Tag, .int .i64 x.Above, .int .i64 x.Name, .int .i64 x.Val.Kind, .int .i64 x.Val.Num, .str x.Val.Text, .int .i64 x.Look, .int .i64 x.Give]
attribute [go_sem] eTRule
theorem eTRule_inj : ∀ a b, eTRule a = eTRule b → a = b := by
  intro a b h
  simp only [eTRule, List.cons.injEq, AC.int.injEq, AC.str.injEq, true_and, and_true] at h
  obtain ⟨h0, h1, h2, h3, h4, h5, h6, h7⟩ := h
  exact (TRule.ext' h0 h1 h2 (TValue.ext' h3 h4 h5) h6 h7)
theorem eTRule_flat (x : TRule) : (eTRule x).all AC.flat = true := rfl
theorem eTRule_frz (x : TRule) : frzL (eTRule x) = eTRule x := rfl
theorem eTRule_brw (x : TRule) : brwL (eTRule x) = eTRule x := rfl
theorem eTRule_cln (x : TRule) : clnL (eTRule x) = true := rfl
theorem eTRule_noOwn (x : TRule) : noOwnL (eTRule x) = true := rfl
theorem meTRule_frz (xs : List TRule) : frzLL (xs.map eTRule) = xs.map eTRule := by rw [frzLL_map, List.map_map]; rfl
theorem meTRule_brw (xs : List TRule) : brwLL (xs.map eTRule) = xs.map eTRule := by rw [brwLL_map, List.map_map]; rfl
theorem meTRule_cln (xs : List TRule) : clnLL (xs.map eTRule) = true := by rw [clnLL_all, List.all_map]; exact List.all_eq_true.2 fun x _ => rfl
theorem meTRule_flat (xs : List TRule) : flatLL (xs.map eTRule) = true := by rw [flatLL, List.all_map]; exact List.all_eq_true.2 fun x _ => rfl
attribute [go_sem] meTRule_frz meTRule_brw meTRule_cln meTRule_flat
def eTBox (x : TBox) : List AC := [.int .i64 x.Left, .int .i64 x.Top, .int .i64 x.Wide, .int .i64 x.High]
attribute [go_sem] eTBox
theorem eTBox_inj : ∀ a b, eTBox a = eTBox b → a = b := by
  intro a b h
  simp only [eTBox, List.cons.injEq, AC.int.injEq, true_and, and_true] at h
  obtain ⟨h0, h1, h2, h3⟩ := h
  exact (TBox.ext' h0 h1 h2 h3)
theorem eTBox_flat (x : TBox) : (eTBox x).all AC.flat = true := rfl
theorem eTBox_frz (x : TBox) : frzL (eTBox x) = eTBox x := rfl
theorem eTBox_brw (x : TBox) : brwL (eTBox x) = eTBox x := rfl
theorem eTBox_cln (x : TBox) : clnL (eTBox x) = true := rfl
theorem eTBox_noOwn (x : TBox) : noOwnL (eTBox x) = true := rfl
theorem meTBox_frz (xs : List TBox) : frzLL (xs.map eTBox) = xs.map eTBox := by rw [frzLL_map, List.map_map]; rfl
theorem meTBox_brw (xs : List TBox) : brwLL (xs.map eTBox) = xs.map eTBox := by rw [brwLL_map, List.map_map]; rfl
theorem meTBox_cln (xs : List TBox) : clnLL (xs.map eTBox) = true := by rw [clnLL_all, List.all_map]; exact List.all_eq_true.2 fun x _ => rfl
theorem meTBox_flat (xs : List TBox) : flatLL (xs.map eTBox) = true := by rw [flatLL, List.all_map]; exact List.all_eq_true.2 fun x _ => rfl
attribute [go_sem] meTBox_frz meTBox_brw meTBox_cln meTBox_flat
def eTPlacer (m : Md) (x : TPlacer) : List AC := [.sl m 8 (x.rules.map eTRule), .sl m 4 (x.out.map eTBox)]
attribute [go_sem] eTPlacer
theorem eTPlacer_inj (m : Md) : ∀ a b, eTPlacer m a = eTPlacer m b → a = b := by
  intro a b h
  simp only [eTPlacer, List.cons.injEq, AC.sl.injEq, true_and, and_true] at h
  obtain ⟨h0, h1⟩ := h
  exact (TPlacer.ext' (mapInj eTRule_inj h0) (mapInj eTBox_inj h1))
theorem eTPlacer_frz (x : TPlacer) : frzL (eTPlacer .own x) = eTPlacer .sh x := by simp only [eTPlacer, frzL, AC.frz, meTRule_frz, meTBox_frz]
theorem eTPlacer_frz2 (x : TPlacer) : frzL (eTPlacer .sh x) = eTPlacer .sh x := by simp only [eTPlacer, frzL, AC.frz]
theorem eTPlacer_brw (m : Md) (x : TPlacer) : brwL (eTPlacer m x) = eTPlacer .bor x := by simp only [eTPlacer, brwL, AC.brw, meTRule_brw, meTBox_brw]
theorem eTPlacer_cln (x : TPlacer) : clnL (eTPlacer .own x) = true := by simp only [eTPlacer, clnL, AC.cln, meTRule_cln, meTBox_cln, Bool.and_true]
theorem meTPlacer_frz (xs : List TPlacer) : frzLL (xs.map (eTPlacer .own)) = xs.map (eTPlacer .sh) := by rw [frzLL_map, List.map_map]; exact List.map_congr_left fun x _ => eTPlacer_frz x
theorem meTPlacer_frz2 (xs : List TPlacer) : frzLL (xs.map (eTPlacer .sh)) = xs.map (eTPlacer .sh) := by rw [frzLL_map, List.map_map]; exact List.map_congr_left fun x _ => eTPlacer_frz2 x
theorem meTPlacer_brw (m : Md) (xs : List TPlacer) : brwLL (xs.map (eTPlacer m)) = xs.map (eTPlacer .bor) := by rw [brwLL_map, List.map_map]; exact List.map_congr_left fun x _ => eTPlacer_brw m x
theorem meTPlacer_cln (xs : List TPlacer) : clnLL (xs.map (eTPlacer .own)) = true := by rw [clnLL_all, List.all_map]; exact List.all_eq_true.2 fun x _ => eTPlacer_cln x
theorem meTPlacer_copyb (xs : List TPlacer) : copyRows .bor [] (xs.map (eTPlacer .bor)) = some (xs.map (eTPlacer .bor)) := copyRows_bor (meTPlacer_brw .bor xs)
attribute [go_sem] meTPlacer_frz meTPlacer_frz2 meTPlacer_brw meTPlacer_cln meTPlacer_copyb
def eTPainter (m : Md) (x : TPainter) : List AC := [.sl m 8 (x.rules.map eTRule), .sl m 4 (x.boxes.map eTBox), .int .i64 x.at_, .int .i64 x.wide, .int .i64 x.high, .sl m 1 (x.cells.map eU8), .sl m 1 (x.owner.map eI)]
attribute [go_sem] eTPainter
theorem eTPainter_inj (m : Md) : ∀ a b, eTPainter m a = eTPainter m b → a = b := by
  intro a b h
  simp only [eTPainter, List.cons.injEq, AC.sl.injEq, AC.int.injEq, true_and, and_true] at h
  obtain ⟨h0, h1, h2, h3, h4, h5, h6⟩ := h
  exact (TPainter.ext' (mapInj eTRule_inj h0) (mapInj eTBox_inj h1) h2 h3 h4 (mapInj eU8_inj h5) (mapInj eI_inj h6))
theorem eTPainter_frz (x : TPainter) : frzL (eTPainter .own x) = eTPainter .sh x := by simp only [eTPainter, frzL, AC.frz, meTRule_frz, meTBox_frz, meU8_frz, meI_frz]
theorem eTPainter_frz2 (x : TPainter) : frzL (eTPainter .sh x) = eTPainter .sh x := by simp only [eTPainter, frzL, AC.frz]
theorem eTPainter_brw (m : Md) (x : TPainter) : brwL (eTPainter m x) = eTPainter .bor x := by simp only [eTPainter, brwL, AC.brw, meTRule_brw, meTBox_brw, meU8_brw, meI_brw]
theorem eTPainter_cln (x : TPainter) : clnL (eTPainter .own x) = true := by simp only [eTPainter, clnL, AC.cln, meTRule_cln, meTBox_cln, meU8_cln, meI_cln, Bool.and_true]
theorem meTPainter_frz (xs : List TPainter) : frzLL (xs.map (eTPainter .own)) = xs.map (eTPainter .sh) := by rw [frzLL_map, List.map_map]; exact List.map_congr_left fun x _ => eTPainter_frz x
theorem meTPainter_frz2 (xs : List TPainter) : frzLL (xs.map (eTPainter .sh)) = xs.map (eTPainter .sh) := by rw [frzLL_map, List.map_map]; exact List.map_congr_left fun x _ => eTPainter_frz2 x
theorem meTPainter_brw (m : Md) (xs : List TPainter) : brwLL (xs.map (eTPainter m)) = xs.map (eTPainter .bor) := by rw [brwLL_map, List.map_map]; exact List.map_congr_left fun x _ => eTPainter_brw m x
theorem meTPainter_cln (xs : List TPainter) : clnLL (xs.map (eTPainter .own)) = true := by rw [clnLL_all, List.all_map]; exact List.all_eq_true.2 fun x _ => eTPainter_cln x
theorem meTPainter_copyb (xs : List TPainter) : copyRows .bor [] (xs.map (eTPainter .bor)) = some (xs.map (eTPainter .bor)) := copyRows_bor (meTPainter_brw .bor xs)
attribute [go_sem] meTPainter_frz meTPainter_frz2 meTPainter_brw meTPainter_cln meTPainter_copyb
def eL_I (m : Md) (x : (List Int)) : List AC := [.sl m 1 (x.map eI)]
attribute [go_sem] eL_I
theorem eL_I_inj (m : Md) : ∀ a b, eL_I m a = eL_I m b → a = b := by
  intro a b h
  simp only [eL_I, List.cons.injEq, AC.sl.injEq, true_and, and_true] at h
  exact mapInj eI_inj h
theorem eL_I_frz (x : (List Int)) : frzL (eL_I .own x) = eL_I .sh x := by simp only [eL_I, frzL, AC.frz, meI_frz]
theorem eL_I_frz2 (x : (List Int)) : frzL (eL_I .sh x) = eL_I .sh x := by simp only [eL_I, frzL, AC.frz]
theorem eL_I_brw (m : Md) (x : (List Int)) : brwL (eL_I m x) = eL_I .bor x := by simp only [eL_I, brwL, AC.brw, meI_brw]
theorem eL_I_cln (x : (List Int)) : clnL (eL_I .own x) = true := by simp only [eL_I, clnL, AC.cln, meI_cln, Bool.and_true]
theorem meL_I_frz (xs : List (List Int)) : frzLL (xs.map (eL_I .own)) = xs.map (eL_I .sh) := by rw [frzLL_map, List.map_map]; exact List.map_congr_left fun x _ => eL_I_frz x
theorem meL_I_frz2 (xs : List (List Int)) : frzLL (xs.map (eL_I .sh)) = xs.map (eL_I .sh) := by rw [frzLL_map, List.map_map]; exact List.map_congr_left fun x _ => eL_I_frz2 x
theorem meL_I_brw (m : Md) (xs : List (List Int)) : brwLL (xs.map (eL_I m)) = xs.map (eL_I .bor) := by rw [brwLL_map, List.map_map]; exact List.map_congr_left fun x _ => eL_I_brw m x
theorem meL_I_cln (xs : List (List Int)) : clnLL (xs.map (eL_I .own)) = true := by rw [clnLL_all, List.all_map]; exact List.all_eq_true.2 fun x _ => eL_I_cln x
theorem meL_I_copyb (xs : List (List Int)) : copyRows .bor [] (xs.map (eL_I .bor)) = some (xs.map (eL_I .bor)) := copyRows_bor (meL_I_brw .bor xs)
attribute [go_sem] meL_I_frz meL_I_frz2 meL_I_brw meL_I_cln meL_I_copyb
def eTBoxer (m : Md) (x : TBoxer) : List AC := [.sl m 1 (x.looks.map (eL_I m)), .int .i64 x.at_, .sl m 4 (x.out.map eTBox)]
attribute [go_sem] eTBoxer
theorem eTBoxer_inj (m : Md) : ∀ a b, eTBoxer m a = eTBoxer m b → a = b := by
  intro a b h
  simp only [eTBoxer, List.cons.injEq, AC.sl.injEq, AC.int.injEq, true_and, and_true] at h
  obtain ⟨h0, h1, h2⟩ := h
  exact (TBoxer.ext' (mapInj (eL_I_inj m) h0) h1 (mapInj eTBox_inj h2))
theorem eTBoxer_frz (x : TBoxer) : frzL (eTBoxer .own x) = eTBoxer .sh x := by simp only [eTBoxer, frzL, AC.frz, meL_I_frz, meTBox_frz]
theorem eTBoxer_frz2 (x : TBoxer) : frzL (eTBoxer .sh x) = eTBoxer .sh x := by simp only [eTBoxer, frzL, AC.frz]
theorem eTBoxer_brw (m : Md) (x : TBoxer) : brwL (eTBoxer m x) = eTBoxer .bor x := by simp only [eTBoxer, brwL, AC.brw, meL_I_brw, meTBox_brw]
theorem eTBoxer_cln (x : TBoxer) : clnL (eTBoxer .own x) = true := by simp only [eTBoxer, clnL, AC.cln, meL_I_cln, meTBox_cln, Bool.and_true]
theorem meTBoxer_frz (xs : List TBoxer) : frzLL (xs.map (eTBoxer .own)) = xs.map (eTBoxer .sh) := by rw [frzLL_map, List.map_map]; exact List.map_congr_left fun x _ => eTBoxer_frz x
theorem meTBoxer_frz2 (xs : List TBoxer) : frzLL (xs.map (eTBoxer .sh)) = xs.map (eTBoxer .sh) := by rw [frzLL_map, List.map_map]; exact List.map_congr_left fun x _ => eTBoxer_frz2 x
theorem meTBoxer_brw (m : Md) (xs : List TBoxer) : brwLL (xs.map (eTBoxer m)) = xs.map (eTBoxer .bor) := by rw [brwLL_map, List.map_map]; exact List.map_congr_left fun x _ => eTBoxer_brw m x
theorem meTBoxer_cln (xs : List TBoxer) : clnLL (xs.map (eTBoxer .own)) = true := by rw [clnLL_all, List.all_map]; exact List.all_eq_true.2 fun x _ => eTBoxer_cln x
theorem meTBoxer_copyb (xs : List TBoxer) : copyRows .bor [] (xs.map (eTBoxer .bor)) = some (xs.map (eTBoxer .bor)) := copyRows_bor (meTBoxer_brw .bor xs)
attribute [go_sem] meTBoxer_frz meTBoxer_frz2 meTBoxer_brw meTBoxer_cln meTBoxer_copyb
def eL_U8 (m : Md) (x : (List Int)) : List AC := [.sl m 1 (x.map eU8)]
attribute [go_sem] eL_U8
theorem eL_U8_inj (m : Md) : ∀ a b, eL_U8 m a = eL_U8 m b → a = b := by
  intro a b h
  simp only [eL_U8, List.cons.injEq, AC.sl.injEq, true_and, and_true] at h
  exact mapInj eU8_inj h
theorem eL_U8_frz (x : (List Int)) : frzL (eL_U8 .own x) = eL_U8 .sh x := by simp only [eL_U8, frzL, AC.frz, meU8_frz]
theorem eL_U8_frz2 (x : (List Int)) : frzL (eL_U8 .sh x) = eL_U8 .sh x := by simp only [eL_U8, frzL, AC.frz]
theorem eL_U8_brw (m : Md) (x : (List Int)) : brwL (eL_U8 m x) = eL_U8 .bor x := by simp only [eL_U8, brwL, AC.brw, meU8_brw]
theorem eL_U8_cln (x : (List Int)) : clnL (eL_U8 .own x) = true := by simp only [eL_U8, clnL, AC.cln, meU8_cln, Bool.and_true]
theorem meL_U8_frz (xs : List (List Int)) : frzLL (xs.map (eL_U8 .own)) = xs.map (eL_U8 .sh) := by rw [frzLL_map, List.map_map]; exact List.map_congr_left fun x _ => eL_U8_frz x
theorem meL_U8_frz2 (xs : List (List Int)) : frzLL (xs.map (eL_U8 .sh)) = xs.map (eL_U8 .sh) := by rw [frzLL_map, List.map_map]; exact List.map_congr_left fun x _ => eL_U8_frz2 x
theorem meL_U8_brw (m : Md) (xs : List (List Int)) : brwLL (xs.map (eL_U8 m)) = xs.map (eL_U8 .bor) := by rw [brwLL_map, List.map_map]; exact List.map_congr_left fun x _ => eL_U8_brw m x
theorem meL_U8_cln (xs : List (List Int)) : clnLL (xs.map (eL_U8 .own)) = true := by rw [clnLL_all, List.all_map]; exact List.all_eq_true.2 fun x _ => eL_U8_cln x
theorem meL_U8_copyb (xs : List (List Int)) : copyRows .bor [] (xs.map (eL_U8 .bor)) = some (xs.map (eL_U8 .bor)) := copyRows_bor (meL_U8_brw .bor xs)
attribute [go_sem] meL_U8_frz meL_U8_frz2 meL_U8_brw meL_U8_cln meL_U8_copyb
def eTCanvas (m : Md) (x : TCanvas) : List AC := [.sl m 1 (x.looks.map (eL_I m)), .sl m 4 (x.boxes.map eTBox), .int .i64 x.at_, .sl m 1 (x.rows.map (eL_U8 m)), .sl m 1 (x.hits.map (eL_I m))]
attribute [go_sem] eTCanvas
theorem eTCanvas_inj (m : Md) : ∀ a b, eTCanvas m a = eTCanvas m b → a = b := by
  intro a b h
  simp only [eTCanvas, List.cons.injEq, AC.sl.injEq, AC.int.injEq, true_and, and_true] at h
  obtain ⟨h0, h1, h2, h3, h4⟩ := h
  exact (TCanvas.ext' (mapInj (eL_I_inj m) h0) (mapInj eTBox_inj h1) h2 (mapInj (eL_U8_inj m) h3) (mapInj (eL_I_inj m) h4))
theorem eTCanvas_frz (x : TCanvas) : frzL (eTCanvas .own x) = eTCanvas .sh x := by simp only [eTCanvas, frzL, AC.frz, meL_I_frz, meTBox_frz, meL_U8_frz]
theorem eTCanvas_frz2 (x : TCanvas) : frzL (eTCanvas .sh x) = eTCanvas .sh x := by simp only [eTCanvas, frzL, AC.frz]
theorem eTCanvas_brw (m : Md) (x : TCanvas) : brwL (eTCanvas m x) = eTCanvas .bor x := by simp only [eTCanvas, brwL, AC.brw, meL_I_brw, meTBox_brw, meL_U8_brw]
theorem eTCanvas_cln (x : TCanvas) : clnL (eTCanvas .own x) = true := by simp only [eTCanvas, clnL, AC.cln, meL_I_cln, meTBox_cln, meL_U8_cln, Bool.and_true]
theorem meTCanvas_frz (xs : List TCanvas) : frzLL (xs.map (eTCanvas .own)) = xs.map (eTCanvas .sh) := by rw [frzLL_map, List.map_map]; exact List.map_congr_left fun x _ => eTCanvas_frz x
theorem meTCanvas_frz2 (xs : List TCanvas) : frzLL (xs.map (eTCanvas .sh)) = xs.map (eTCanvas .sh) := by rw [frzLL_map, List.map_map]; exact List.map_congr_left fun x _ => eTCanvas_frz2 x
theorem meTCanvas_brw (m : Md) (xs : List TCanvas) : brwLL (xs.map (eTCanvas m)) = xs.map (eTCanvas .bor) := by rw [brwLL_map, List.map_map]; exact List.map_congr_left fun x _ => eTCanvas_brw m x
theorem meTCanvas_cln (xs : List TCanvas) : clnLL (xs.map (eTCanvas .own)) = true := by rw [clnLL_all, List.all_map]; exact List.all_eq_true.2 fun x _ => eTCanvas_cln x
theorem meTCanvas_copyb (xs : List TCanvas) : copyRows .bor [] (xs.map (eTCanvas .bor)) = some (xs.map (eTCanvas .bor)) := copyRows_bor (meTCanvas_brw .bor xs)
attribute [go_sem] meTCanvas_frz meTCanvas_frz2 meTCanvas_brw meTCanvas_cln meTCanvas_copyb
def E1 (r : Int) : AOut := ⟨.pl false [.int .i64 r], []⟩
attribute [go_sem] E1
theorem E1_inj : ∀ a b, E1 a = E1 b → a = b := by
  intro a b h
  simp only [E1, AOut.mk.injEq, TV.pl.injEq, List.cons.injEq, AC.int.injEq, true_and, and_true] at h
  have h0 := h
  exact h0
def E2 (r : TValue) : AOut := ⟨.pl true [.int .i64 r.Kind, .int .i64 r.Num, .str r.Text], []⟩
attribute [go_sem] E2
theorem E2_inj : ∀ a b, E2 a = E2 b → a = b := by
  intro a b h
  simp only [E2, AOut.mk.injEq, TV.pl.injEq, List.cons.injEq, AC.int.injEq, AC.str.injEq, true_and, and_true] at h
  obtain ⟨h0, h1, h2⟩ := h
  exact (TValue.ext' h0 h1 h2)
def E3 (r : TProp) : AOut := ⟨.pl true [.int .i64 r.Name, .int .i64 r.Val.Kind, .int .i64 r.Val.Num, .str r.Val.Text], []⟩
attribute [go_sem] E3
theorem E3_inj : ∀ a b, E3 a = E3 b → a = b := by
  intro a b h
  simp only [E3, AOut.mk.injEq, TV.pl.injEq, List.cons.injEq, AC.int.injEq, AC.str.injEq, true_and, and_true] at h
  obtain ⟨h0, h1, h2, h3⟩ := h
  exact (TProp.ext' h0 (TValue.ext' h1 h2 h3))
def E4 (r : (List TProp)) : AOut := ⟨.pl false [.sl .own 4 (r.map eTProp)], []⟩
attribute [go_sem] E4
theorem E4_inj : ∀ a b, E4 a = E4 b → a = b := by
  intro a b h
  simp only [E4, AOut.mk.injEq, TV.pl.injEq, List.cons.injEq, AC.sl.injEq, true_and, and_true] at h
  have h0 := h
  exact (mapInj eTProp_inj h0)
def E5 (r : (List TTree)) : AOut := ⟨.pl false [.sl .own 5 (r.map (eTTree .own))], []⟩
attribute [go_sem] E5
theorem E5_inj : ∀ a b, E5 a = E5 b → a = b := by
  intro a b h
  simp only [E5, AOut.mk.injEq, TV.pl.injEq, List.cons.injEq, AC.sl.injEq, true_and, and_true] at h
  have h0 := h
  exact (mapInj (eTTree_inj .own) h0)
def E6 (r : TTree) : AOut := ⟨.pl true [.int .i64 r.Tag, .int .i64 r.Key, .str r.Text, .sl .own 4 (r.Props.map eTProp), .sl .own 5 (r.Kids.map (eTTree .own))], []⟩
attribute [go_sem] E6
theorem E6_inj : ∀ a b, E6 a = E6 b → a = b := by
  intro a b h
  simp only [E6, AOut.mk.injEq, TV.pl.injEq, List.cons.injEq, AC.sl.injEq, AC.int.injEq, AC.str.injEq, true_and, and_true] at h
  obtain ⟨h0, h1, h2, h3, h4⟩ := h
  exact (TTree.ext' h0 h1 h2 (mapInj eTProp_inj h3) (mapInj (eTTree_inj .own) h4))
def E7 (r : TRule) : AOut := ⟨.pl true [.int .i64 r.Tag, .int .i64 r.Above, .int .i64 r.Name, .int .i64 r.Val.Kind, .int .i64 r.Val.Num, .str r.Val.Text, .int .i64 r.Look, .int .i64 r.Give], []⟩
attribute [go_sem] E7
theorem E7_inj : ∀ a b, E7 a = E7 b → a = b := by
  intro a b h
  simp only [E7, AOut.mk.injEq, TV.pl.injEq, List.cons.injEq, AC.int.injEq, AC.str.injEq, true_and, and_true] at h
  obtain ⟨h0, h1, h2, h3, h4, h5, h6, h7⟩ := h
  exact (TRule.ext' h0 h1 h2 (TValue.ext' h3 h4 h5) h6 h7)
def E8 (r : (List TRule)) : AOut := ⟨.pl false [.sl .own 8 (r.map eTRule)], []⟩
attribute [go_sem] E8
theorem E8_inj : ∀ a b, E8 a = E8 b → a = b := by
  intro a b h
  simp only [E8, AOut.mk.injEq, TV.pl.injEq, List.cons.injEq, AC.sl.injEq, true_and, and_true] at h
  have h0 := h
  exact (mapInj eTRule_inj h0)
def E9 (r : Bool) : AOut := ⟨.pl false [.bool r], []⟩
attribute [go_sem] E9
theorem E9_inj : ∀ a b, E9 a = E9 b → a = b := by
  intro a b h
  simp only [E9, AOut.mk.injEq, TV.pl.injEq, List.cons.injEq, AC.bool.injEq, true_and, and_true] at h
  have h0 := h
  exact h0
def E10 (r : Str) : AOut := ⟨.pl false [.str r], []⟩
attribute [go_sem] E10
theorem E10_inj : ∀ a b, E10 a = E10 b → a = b := by
  intro a b h
  simp only [E10, AOut.mk.injEq, TV.pl.injEq, List.cons.injEq, AC.str.injEq, true_and, and_true] at h
  have h0 := h
  exact h0
def E11 (r : (List Int)) : AOut := ⟨.pl false [.sl .own 1 (r.map eI)], []⟩
attribute [go_sem] E11
theorem E11_inj : ∀ a b, E11 a = E11 b → a = b := by
  intro a b h
  simp only [E11, AOut.mk.injEq, TV.pl.injEq, List.cons.injEq, AC.sl.injEq, true_and, and_true] at h
  have h0 := h
  exact (mapInj eI_inj h0)
def E12 (r : Int × Int) : AOut := ⟨.tup [(false, [.int .i64 r.1]), (false, [.int .i64 r.2])], []⟩
attribute [go_sem] E12
theorem E12_inj : ∀ a b, E12 a = E12 b → a = b := by
  intro a b h
  simp only [E12, AOut.mk.injEq, TV.tup.injEq, List.cons.injEq, Prod.mk.injEq, AC.int.injEq, true_and, and_true] at h
  obtain ⟨h0, h1⟩ := h
  exact (Prod.ext h0 h1)
def E13 (r : (List Int) × TPlacer) : AOut := ⟨.pl false [.sl .own 1 (r.1.map eI)], [[.sl .sh 8 (r.2.rules.map eTRule), .sl .own 4 (r.2.out.map eTBox)]]⟩
attribute [go_sem] E13
theorem E13_inj : ∀ a b, E13 a = E13 b → a = b := by
  intro a b h
  simp only [E13, AOut.mk.injEq, TV.pl.injEq, List.cons.injEq, AC.sl.injEq, true_and, and_true] at h
  obtain ⟨h0, h1, h2⟩ := h
  exact (Prod.ext (mapInj eI_inj h0) (TPlacer.ext' (mapInj eTRule_inj h1) (mapInj eTBox_inj h2)))
def E14 (r : Int × TPlacer) : AOut := ⟨.pl false [.int .i64 r.1], [[.sl .sh 8 (r.2.rules.map eTRule), .sl .own 4 (r.2.out.map eTBox)]]⟩
attribute [go_sem] E14
theorem E14_inj : ∀ a b, E14 a = E14 b → a = b := by
  intro a b h
  simp only [E14, AOut.mk.injEq, TV.pl.injEq, List.cons.injEq, AC.sl.injEq, AC.int.injEq, true_and, and_true] at h
  obtain ⟨h0, h1, h2⟩ := h
  exact (Prod.ext h0 (TPlacer.ext' (mapInj eTRule_inj h1) (mapInj eTBox_inj h2)))
def E15 (r : TBox × TPlacer) : AOut := ⟨.pl true [.int .i64 r.1.Left, .int .i64 r.1.Top, .int .i64 r.1.Wide, .int .i64 r.1.High], [[.sl .sh 8 (r.2.rules.map eTRule), .sl .own 4 (r.2.out.map eTBox)]]⟩
attribute [go_sem] E15
theorem E15_inj : ∀ a b, E15 a = E15 b → a = b := by
  intro a b h
  simp only [E15, AOut.mk.injEq, TV.pl.injEq, List.cons.injEq, AC.sl.injEq, AC.int.injEq, true_and, and_true, and_assoc] at h
  obtain ⟨h0, h1, h2, h3, h4, h5⟩ := h
  exact (Prod.ext (TBox.ext' h0 h1 h2 h3) (TPlacer.ext' (mapInj eTRule_inj h4) (mapInj eTBox_inj h5)))
def E16 (r : (List TBox)) : AOut := ⟨.pl false [.sl .own 4 (r.map eTBox)], []⟩
attribute [go_sem] E16
theorem E16_inj : ∀ a b, E16 a = E16 b → a = b := by
  intro a b h
  simp only [E16, AOut.mk.injEq, TV.pl.injEq, List.cons.injEq, AC.sl.injEq, true_and, and_true] at h
  have h0 := h
  exact (mapInj eTBox_inj h0)
def E17 (r : TBox) : AOut := ⟨.pl true [.int .i64 r.Left, .int .i64 r.Top, .int .i64 r.Wide, .int .i64 r.High], []⟩
attribute [go_sem] E17
theorem E17_inj : ∀ a b, E17 a = E17 b → a = b := by
  intro a b h
  simp only [E17, AOut.mk.injEq, TV.pl.injEq, List.cons.injEq, AC.int.injEq, true_and, and_true] at h
  obtain ⟨h0, h1, h2, h3⟩ := h
  exact (TBox.ext' h0 h1 h2 h3)
def E18 (r : TPainter) : AOut := ⟨.tup [], [[.sl .sh 8 (r.rules.map eTRule), .sl .own 4 (r.boxes.map eTBox), .int .i64 r.at_, .int .i64 r.wide, .int .i64 r.high, .sl .own 1 (r.cells.map eU8), .sl .own 1 (r.owner.map eI)]]⟩
attribute [go_sem] E18
theorem E18_inj : ∀ a b, E18 a = E18 b → a = b := by
  intro a b h
  simp only [E18, AOut.mk.injEq, List.cons.injEq, AC.sl.injEq, AC.int.injEq, true_and, and_true] at h
  obtain ⟨h0, h1, h2, h3, h4, h5, h6⟩ := h
  exact (TPainter.ext' (mapInj eTRule_inj h0) (mapInj eTBox_inj h1) h2 h3 h4 (mapInj eU8_inj h5) (mapInj eI_inj h6))
def E19 (r : Int) : AOut := ⟨.pl false [.int .u8 r], []⟩
attribute [go_sem] E19
theorem E19_inj : ∀ a b, E19 a = E19 b → a = b := by
  intro a b h
  simp only [E19, AOut.mk.injEq, TV.pl.injEq, List.cons.injEq, AC.int.injEq, true_and, and_true] at h
  have h0 := h
  exact h0
def E20 (r : TPainter) : AOut := ⟨.pl false [.ref .own [.sl .sh 8 (r.rules.map eTRule), .sl .own 4 (r.boxes.map eTBox), .int .i64 r.at_, .int .i64 r.wide, .int .i64 r.high, .sl .own 1 (r.cells.map eU8), .sl .own 1 (r.owner.map eI)]], []⟩
attribute [go_sem] E20
theorem E20_inj : ∀ a b, E20 a = E20 b → a = b := by
  intro a b h
  simp only [E20, AOut.mk.injEq, TV.pl.injEq, List.cons.injEq, AC.ref.injEq, AC.sl.injEq, AC.int.injEq, true_and, and_true] at h
  obtain ⟨h0, h1, h2, h3, h4, h5, h6⟩ := h
  exact (TPainter.ext' (mapInj eTRule_inj h0) (mapInj eTBox_inj h1) h2 h3 h4 (mapInj eU8_inj h5) (mapInj eI_inj h6))
def E21 (r : (List Str) × TPainter) : AOut := ⟨.pl false [.sl .own 1 (r.1.map eS)], [[.sl .sh 8 (r.2.rules.map eTRule), .sl .own 4 (r.2.boxes.map eTBox), .int .i64 r.2.at_, .int .i64 r.2.wide, .int .i64 r.2.high, .sl .own 1 (r.2.cells.map eU8), .sl .own 1 (r.2.owner.map eI)]]⟩
attribute [go_sem] E21
theorem E21_inj : ∀ a b, E21 a = E21 b → a = b := by
  intro a b h
  simp only [E21, AOut.mk.injEq, TV.pl.injEq, List.cons.injEq, AC.sl.injEq, AC.int.injEq, true_and, and_true] at h
  obtain ⟨h0, h1, h2, h3, h4, h5, h6, h7⟩ := h
  exact (Prod.ext (mapInj eS_inj h0) (TPainter.ext' (mapInj eTRule_inj h1) (mapInj eTBox_inj h2) h3 h4 h5 (mapInj eU8_inj h6) (mapInj eI_inj h7)))
def E22 (r : Int × Bool) : AOut := ⟨.tup [(false, [.int .i64 r.1]), (false, [.err r.2])], []⟩
attribute [go_sem] E22
theorem E22_inj : ∀ a b, E22 a = E22 b → a = b := by
  intro a b h
  simp only [E22, AOut.mk.injEq, TV.tup.injEq, List.cons.injEq, Prod.mk.injEq, AC.int.injEq, AC.err.injEq, true_and, and_true] at h
  obtain ⟨h0, h1⟩ := h
  exact (Prod.ext h0 h1)
def E23 (r : Bool × Int) : AOut := ⟨.pl false [.bool r.1], [[.int .i64 r.2]]⟩
attribute [go_sem] E23
theorem E23_inj : ∀ a b, E23 a = E23 b → a = b := by
  intro a b h
  simp only [E23, AOut.mk.injEq, TV.pl.injEq, List.cons.injEq, AC.int.injEq, AC.bool.injEq, true_and, and_true] at h
  obtain ⟨h0, h1⟩ := h
  exact (Prod.ext h0 h1)
def E24 (r : (List (List Int))) : AOut := ⟨.pl false [.sl .sh 1 (r.map (eL_I .sh))], []⟩
attribute [go_sem] E24
theorem E24_inj : ∀ a b, E24 a = E24 b → a = b := by
  intro a b h
  simp only [E24, AOut.mk.injEq, TV.pl.injEq, List.cons.injEq, AC.sl.injEq, true_and, and_true] at h
  have h0 := h
  exact (mapInj (eL_I_inj .sh) h0)
def E25 (r : TBox × TBoxer) : AOut := ⟨.pl true [.int .i64 r.1.Left, .int .i64 r.1.Top, .int .i64 r.1.Wide, .int .i64 r.1.High], [[.sl .sh 1 (r.2.looks.map (eL_I .sh)), .int .i64 r.2.at_, .sl .own 4 (r.2.out.map eTBox)]]⟩
attribute [go_sem] E25
theorem E25_inj : ∀ a b, E25 a = E25 b → a = b := by
  intro a b h
  simp only [E25, AOut.mk.injEq, TV.pl.injEq, List.cons.injEq, AC.sl.injEq, AC.int.injEq, true_and, and_true, and_assoc] at h
  obtain ⟨h0, h1, h2, h3, h4, h5, h6⟩ := h
  exact (Prod.ext (TBox.ext' h0 h1 h2 h3) (TBoxer.ext' (mapInj (eL_I_inj .sh) h4) h5 (mapInj eTBox_inj h6)))
def E26 (r : TCanvas) : AOut := ⟨.tup [], [[.sl .sh 1 (r.looks.map (eL_I .sh)), .sl .own 4 (r.boxes.map eTBox), .int .i64 r.at_, .sl .own 1 (r.rows.map (eL_U8 .own)), .sl .own 1 (r.hits.map (eL_I .own))]]⟩
attribute [go_sem] E26
theorem E26_inj : ∀ a b, E26 a = E26 b → a = b := by
  intro a b h
  simp only [E26, AOut.mk.injEq, List.cons.injEq, AC.sl.injEq, AC.int.injEq, true_and, and_true] at h
  obtain ⟨h0, h1, h2, h3, h4⟩ := h
  exact (TCanvas.ext' (mapInj (eL_I_inj .sh) h0) (mapInj eTBox_inj h1) h2 (mapInj (eL_U8_inj .own) h3) (mapInj (eL_I_inj .own) h4))
def E27 (r : TCanvas) : AOut := ⟨.pl false [.ref .own [.sl .sh 1 (r.looks.map (eL_I .sh)), .sl .own 4 (r.boxes.map eTBox), .int .i64 r.at_, .sl .own 1 (r.rows.map (eL_U8 .own)), .sl .own 1 (r.hits.map (eL_I .own))]], []⟩
attribute [go_sem] E27
theorem E27_inj : ∀ a b, E27 a = E27 b → a = b := by
  intro a b h
  simp only [E27, AOut.mk.injEq, TV.pl.injEq, List.cons.injEq, AC.ref.injEq, AC.sl.injEq, AC.int.injEq, true_and, and_true] at h
  obtain ⟨h0, h1, h2, h3, h4⟩ := h
  exact (TCanvas.ext' (mapInj (eL_I_inj .sh) h0) (mapInj eTBox_inj h1) h2 (mapInj (eL_U8_inj .own) h3) (mapInj (eL_I_inj .own) h4))
def E28 (r : (List Str)) : AOut := ⟨.pl false [.sl .own 1 (r.map eS)], []⟩
attribute [go_sem] E28
theorem E28_inj : ∀ a b, E28 a = E28 b → a = b := by
  intro a b h
  simp only [E28, AOut.mk.injEq, TV.pl.injEq, List.cons.injEq, AC.sl.injEq, true_and, and_true] at h
  have h0 := h
  exact (mapInj eS_inj h0)
end Go.Fw.Law
