/- Plain laws of boxes, part E: the program lays parts out so. Plain laws of boxes, part F: the reference lays parts out so. Plain laws of boxes, part G: the reference's boxes. Plain laws of looks, part S: valid screens. Plain laws of painting, part A: how far boxes lie. Plain laws of painting, part B: pictures, and the program's canvas. Plain laws of painting, part C: the program paints a tree. Conditions: none. -/
import Derived.Test.YtjldolmokfnkoaaGreatDoorPmA
namespace Go.Fw.Law
open Go Go.Fw

theorem lay_len (rs : List TRule) : ∀ t, ∀ above mark left top room, Va t → (lay rs t above mark left top room).2.length = nodes t := by
  refine TTree.ind ?_
  intro t ih above mark left top room hv
  have hn := nodes_eq t
  by_cases h : t.Tag = -1
  · rw [lay_text rs t h, hn, hv.nk h]; simp [nodesL]
  · have hd : ∀ (ts : List TTree) (a : List Int) (m l t' r hh : Int), (∀ k ∈ ts, ∀ a m l t r, (lay rs k a m l t r).2.length = nodes k) → (down rs ts a m l t' r hh).2.length = nodesL ts := by
      intro ts
      induction ts with
      | nil => intros; simp [down, nodesL]
      | cons k ts ihl => intro a m l t' r hh hk; simp [down, nodesL, hk k (by simp), ihl _ _ _ _ _ _ (fun k hk' => hk k (by simp [hk']))]
    have ha : ∀ (ts : List TTree) (a : List Int) (m : Int) (sh : List Int) (l t' hh : Int), (∀ k ∈ ts, ∀ a m l t r, (lay rs k a m l t r).2.length = nodes k) → (across rs ts a m sh l t' hh).2.length = nodesL ts := by
      intro ts
      induction ts with
      | nil => intros; simp [across, nodesL]
      | cons k ts ihl => intro a m sh l t' hh hk; simp [across, nodesL, hk k (by simp), ihl _ _ _ _ _ _ (fun k hk' => hk k (by simp [hk']))]
    have hk : ∀ k ∈ t.Kids, ∀ a m l t r, (lay rs k a m l t r).2.length = nodes k := fun k hk a m l t r => ih k hk a m l t r (hv.ks k hk)
    rw [lay_elem rs t h, hn, List.length_cons, insideOf]
    split
    · rw [hd _ _ _ _ _ _ _ hk]; omega
    · rw [ha _ _ _ _ _ _ _ hk]; omega

/-- What a list holds from a place on. -/
def Has {α : Type} (K : List α) (i : Nat) (L : List α) : Prop := ∃ suf, K.drop i = L ++ suf
theorem Has.app {α : Type} {K A B : List α} {i : Nat} (h : Has K i (A ++ B)) : Has K i A ∧ Has K (i + A.length) B := by
  obtain ⟨suf, h⟩ := h
  refine ⟨⟨B ++ suf, by rw [h, List.append_assoc]⟩, suf, ?_⟩
  rw [← List.drop_drop, h, List.append_assoc, List.drop_left]
theorem Has.head {α : Type} {K L : List α} {x : α} {i : Nat} (h : Has K i (x :: L)) : rdx K (i : Int) = some x ∧ Has K (i + 1) L := by
  obtain ⟨suf, h⟩ := h
  have hl : i < K.length := Nat.lt_of_not_le fun hh => by rw [List.drop_eq_nil_of_le hh] at h; simp at h
  rw [drop_at hl] at h
  simp only [List.cons_append, List.cons.injEq] at h
  exact ⟨by rw [rdx_nat hl, h.1], suf, h.2⟩

theorem b5_ok (LK : List (List Int)) (a : Int) (out bs : List TBox) (o : List Int) (ho : o.length = 5) (h : Int) (Z y : TBox) :
    impl_boxer_lay_b5 o (out.length : Int) (o.gd 2) h (⟨LK, a, out ++ Z :: bs⟩ : TBoxer) Z y = some (⟨y.Left, y.Top, y.Wide, highOf o h⟩, ⟨LK, a, out ++ ⟨y.Left, y.Top, y.Wide, highOf o h⟩ :: bs⟩) := by
  refine impl_boxer_lay_b5_of _ _ _ _ _ _ _ ?_
  have h1 := getD4 ho 1 (by omega)
  rw [show ((1 : Nat) : Int) = 1 from rfl] at h1
  by_cases h0 : o.gd 1 = 0
  · simp [h1, h0, rdx_mid, highOf]
  · simp [h1, h0, rdx_mid, highOf]

/-- The program lays a part out. -/
def LayOk (rs : List TRule) (t : TTree) : Prop := ∀ (above : List Int) (mark left top room : Int) (LK : List (List Int)) (a : Nat) (out : List TBox), above.length + depth t ≤ 1000 → 0 ≤ mark → mark ≤ 60 → 0 ≤ room → room ≤ 60 →
  a + nodes t ≤ 2000 → out.length + nodes t ≤ 2000 → Has LK a (looksA rs t above mark) →
  impl_boxer_lay ⟨LK, a, out⟩ t left top room = some ((lay rs t above mark left top room).1, ⟨LK, ((a + nodes t : Nat) : Int), out ++ (lay rs t above mark left top room).2⟩)

theorem lay_down (rs : List TRule) (ks : List TTree) (hkl : ks.length ≤ 1048576) (hv : ∀ k ∈ ks, Va k) (ih : ∀ k ∈ ks, LayOk rs k) (ab : List Int) (o : List Int) (hd : ab.length + depthL ks ≤ 1000) (ho : ∀ i, 0 ≤ o.gd i ∧ o.gd i ≤ 60)
    (left top inner : Int) (hi0 : 0 ≤ inner) (hi : inner ≤ 60) (LK : List (List Int)) (n0 : Int) (Z y : TBox) (R : TBox × TBoxer) : ∀ k, k ≤ ks.length → ∀ (h : Int) (a : Nat) (out : List TBox), a + nodesL (ks.drop k) ≤ 2000 → out.length + nodesL (ks.drop k) ≤ 2000 → Has LK a (looksL rs (ks.drop k) ab (o.gd 4)) →
    impl_boxer_lay_b5 o n0 (o.gd 2) (down rs (ks.drop k) ab (o.gd 4) (w64 (left + o.gd 2)) (w64 (top + o.gd 2)) inner h).1 ⟨LK, ((a + nodesL (ks.drop k) : Nat) : Int), out ++ (down rs (ks.drop k) ab (o.gd 4) (w64 (left + o.gd 2)) (w64 (top + o.gd 2)) inner h).2⟩ Z y = some R →
    impl_boxer_lay_b3 left top o n0 (o.gd 2) inner h ks ks.length k ⟨LK, a, out⟩ Z y = some R := by
  refine upto _ ?_ ?_
  · intro h a out _ _ _ hR
    refine impl_boxer_lay_b3_of _ _ _ _ _ _ _ _ _ _ _ _ _ ?_
    simpa [down, nodesL] using hR
  · intro k hk ihk h a out ha hout hh hR
    refine impl_boxer_lay_b3_of _ _ _ _ _ _ _ _ _ _ _ _ _ ?_
    have hm := List.getElem_mem hk
    rw [drop_at hk, nodesL] at ha hout
    rw [drop_at hk, looksL] at hh
    rw [drop_at hk, down, nodesL] at hR
    obtain ⟨hh1, hh2⟩ := hh.app
    rw [looksA_len] at hh2
    have hdk := depth_kid ks _ hm
    have h1 := ih _ hm ab (o.gd 4) (w64 (left + o.gd 2)) (w64 (w64 (top + o.gd 2) + h)) inner LK a out (by omega) (ho 4).1 (ho 4).2 hi0 hi (by omega) (by omega) hh1
    have hl := lay_len rs ks[k] ab (o.gd 4) (w64 (left + o.gd 2)) (w64 (w64 (top + o.gd 2) + h)) inner (hv _ hm)
    simp only [dlt hk, if_true, rdx_nat hk, Option.bind_some, h1, w64s (show (k : Int) + 1 < 9223372036854775808 by omega)]
    refine ihk _ _ _ (by omega) (by rw [List.length_append]; omega) hh2 ?_
    rw [List.append_assoc, Nat.add_assoc]
    exact hR

theorem take_set {sh : List Int} {k : Nat} (hk : k < sh.length) (v : Int) : (sh.set k v).take (k + 1) = sh.take k ++ [v] := by
  rw [List.take_add_one, List.take_set, List.set_eq_of_length_le (by rw [List.length_take]; omega)]
  simp [hk]

/-- What is told of widths first. -/
theorem lay_fix (rs : List TRule) (ks : List TTree) (hkl : ks.length ≤ 1000) (hv : ∀ k ∈ ks, Va k) (hg : Gv rs) (ab : List Int) (o : List Int) (ho : ∀ i, 0 ≤ o.gd i ∧ o.gd i ≤ 60)
    (left top h : Int) (LK : List (List Int)) (n0 : Int) (Z y : TBox) (t : TTree) (ht : t.Kids = ks) (hn : nodesL ks ≤ 1000) (y0 : TBoxer) (hy : y0.looks = LK) (R : TBox × TBoxer) : ∀ k, k ≤ ks.length → ∀ (rest : Int) (sh : List Int) (m a : Nat), 0 ≤ rest → rest ≤ 60 → sh.length = ks.length → m + (ks.length - k) ≤ 1000 →
    a + nodesL (ks.drop k) ≤ 2000 → Has LK a (looksL rs (ks.drop k) ab (o.gd 4)) →
    impl_boxer_lay_b6 top o n0 (o.gd 2) h (restL (wishOf rs (ks.drop k) ab (o.gd 4)) rest) (sh.take k ++ fixL (wishOf rs (ks.drop k) ab (o.gd 4)) rest) (openL (wishOf rs (ks.drop k) ab (o.gd 4)) m) (w64 (left + o.gd 2)) ks ks.length 0 y0 Z y = some R →
    impl_boxer_lay_b4 left top o n0 (o.gd 2) h rest sh m a ks ks.length k y0 t Z y = some R := by
  refine upto _ ?_ ?_
  · intro rest sh m a h0 h1 hl _ _ _ hR
    refine impl_boxer_lay_b4_of _ _ _ _ _ _ _ _ _ _ _ _ _ _ _ _ _ ?_
    simp only [List.drop_length, wishOf, List.map_nil, restL, fixL, openL, List.append_nil] at hR
    rw [← hl, List.take_length] at hR
    rw [hl] at hR
    simpa [ht] using hR
  · intro k hk ihk rest sh m a h0 h1 hl hm ha hh hR
    refine impl_boxer_lay_b4_of _ _ _ _ _ _ _ _ _ _ _ _ _ _ _ _ _ ?_
    have hmem := List.getElem_mem hk
    rw [drop_at hk, nodesL] at ha
    rw [drop_at hk, looksL] at hh
    rw [drop_at hk] at hR
    simp only [wishOf, List.map_cons, restL, fixL, openL] at hR
    obtain ⟨hh1, hh2⟩ := hh.app
    rw [looksA_len] at hh2
    rw [looksA_eq] at hh1
    obtain ⟨g1, _⟩ := hh1.head
    have hks : k < sh.length := by omega
    have hw := own_range hg ks[k] ab (o.gd 4) (ho 4).1 (ho 4).2 0
    have h5 := getD4 (own_len rs ks[k] ab (o.gd 4)) 0 (by omega)
    rw [show ((0 : Nat) : Int) = 0 from rfl] at h5
    have htx : ks[k].Tag = -1 → (own rs ks[k] ab (o.gd 4)).gd 0 = 0 := fun e => by rw [own, if_pos e]; rfl
    have hc := treeCount_ok ks[k] (hv _ hmem) (by have := nodes_kid ks _ hmem; omega)
    have wa : w64 ((a : Int) + (nodes ks[k] : Int)) = ((a + nodes ks[k] : Nat) : Int) := by rw [w64_id (by omega) (by omega)]; omega
    generalize (own rs ks[k] ab (o.gd 4)).gd 0 = w at hw h5 htx hR
    simp only [dlt hk, if_true, rdx_nat hk, Option.bind_some, hy, g1, h5, hc, wa, w64s (show (k : Int) + 1 < 9223372036854775808 by omega), w64s (show (m : Int) + 1 < 9223372036854775808 by omega), rdx_nat hks, Int.toNat_natCast]
    have none0 : w = 0 → impl_boxer_lay_b4 left top o n0 (o.gd 2) h rest (sh.set k (-1)) ((m + 1 : Nat) : Int) ((a + nodes ks[k] : Nat) : Int) ks ks.length ((k + 1 : Nat) : Int) y0 t Z y = some R := by
      intro e
      rw [if_pos e, if_pos e, if_pos e, w64s (by omega)] at hR
      refine ihk rest _ (m + 1) _ h0 h1 (by simpa using hl) (by omega) (by omega) hh2 ?_
      rw [take_set hks, List.append_assoc]
      exact hR
    by_cases e1 : ks[k].Tag = -1
    · simpa [e1] using none0 (htx e1)
    · by_cases e2 : w = 0
      · simpa [e1, e2] using none0 e2
      · rw [if_neg e2, if_neg e2, if_neg e2] at hR
        have hmin : 0 ≤ min w rest ∧ min w rest ≤ rest := by omega
        have w1 : w64 (rest - min w rest) = rest - min w rest := w64_id (by omega) (by omega)
        have hset : rdx (sh.set k (min w rest)) (k : Int) = some (min w rest) := by rw [rdx_nat (by simpa using hks)]; simp
        simp only [e1, e2, decide_false, Bool.not_false, if_true, hset, Option.bind_some, w1]
        rw [w1] at hR
        refine ihk (rest - min w rest) _ m _ (by omega) (by omega) (by simpa using hl) (by omega) (by omega) hh2 ?_
        rw [take_set hks, List.append_assoc]
        exact hR

theorem lay_across (rs : List TRule) (ks : List TTree) (hkl : ks.length ≤ 1000) (hv : ∀ k ∈ ks, Va k) (ih : ∀ k ∈ ks, LayOk rs k) (ab : List Int) (o : List Int) (hd : ab.length + depthL ks ≤ 1000) (ho : ∀ i, 0 ≤ o.gd i ∧ o.gd i ≤ 60)
    (top : Int) (LK : List (List Int)) (n0 : Int) (Z y : TBox) (R : TBox × TBoxer) : ∀ k, k ≤ ks.length → ∀ (h rest left : Int) (sh : List Int) (a : Nat) (out : List TBox), 0 ≤ rest → rest ≤ 60 → sh.length = ks.length → (∀ s ∈ sh.drop k, s ≤ 60) →
    a + nodesL (ks.drop k) ≤ 2000 → out.length + nodesL (ks.drop k) ≤ 2000 → Has LK a (looksL rs (ks.drop k) ab (o.gd 4)) →
    impl_boxer_lay_b5 o n0 (o.gd 2) (across rs (ks.drop k) ab (o.gd 4) (fillL (sh.drop k) rest (negs (sh.drop k))) left (w64 (top + o.gd 2)) h).1
      ⟨LK, ((a + nodesL (ks.drop k) : Nat) : Int), out ++ (across rs (ks.drop k) ab (o.gd 4) (fillL (sh.drop k) rest (negs (sh.drop k))) left (w64 (top + o.gd 2)) h).2⟩ Z y = some R →
    impl_boxer_lay_b6 top o n0 (o.gd 2) h rest sh (negs (sh.drop k)) left ks ks.length k ⟨LK, a, out⟩ Z y = some R := by
  refine upto _ ?_ ?_
  · intro h rest left sh a out _ _ _ _ _ _ _ hR
    refine impl_boxer_lay_b6_of _ _ _ _ _ _ _ _ _ _ _ _ _ _ _ ?_
    simpa [across, nodesL] using hR
  · intro k hk ihk h rest left sh a out h0 h1 hl hs ha hout hh hR
    refine impl_boxer_lay_b6_of _ _ _ _ _ _ _ _ _ _ _ _ _ _ _ ?_
    have hmem := List.getElem_mem hk
    have hks : k < sh.length := by omega
    rw [drop_at hk, nodesL] at ha hout
    rw [drop_at hk, looksL] at hh
    rw [drop_at hk, across, nodesL] at hR
    rw [drop_at hks] at hs
    rw [drop_at hks] at hR ⊢
    obtain ⟨hh1, hh2⟩ := hh.app
    rw [looksA_len] at hh2
    have hdk := depth_kid ks _ hmem
    have nl : ∀ ss : List Int, negs ss ≤ ss.length := fun ss => by
      induction ss with
      | nil => simp [negs]
      | cons s ss ih => simp only [negs, List.length_cons]; split <;> omega
    have hnl := nl (sh.drop (k + 1))
    have hdl : (sh.drop (k + 1)).length = sh.length - (k + 1) := by simp
    -- one part in its share
    have one : ∀ (w rest2 : Int) (sh2 : List Int), 0 ≤ w → w ≤ 60 → 0 ≤ rest2 → rest2 ≤ 60 → sh2.length = sh.length → sh2.drop (k + 1) = sh.drop (k + 1) → rdx sh2 (k : Int) = some w → fillL (sh[k] :: sh.drop (k + 1)) rest (negs (sh[k] :: sh.drop (k + 1))) = w :: fillL (sh.drop (k + 1)) rest2 (negs (sh.drop (k + 1))) →
        impl_boxer_lay_b7 top o n0 (o.gd 2) h rest2 sh2 (negs (sh.drop (k + 1))) left k ks ks.length k ⟨LK, a, out⟩ Z y ks[k] = some R := by
      intro w rest2 sh2 w0 w1 r0 r1 hl2 hd2 hrd hfl
      refine impl_boxer_lay_b7_of _ _ _ _ _ _ _ _ _ _ _ _ _ _ _ _ _ ?_
      rw [hfl] at hR
      simp only [List.headD_cons, List.tail_cons] at hR
      have e1 := ih _ hmem ab (o.gd 4) left (w64 (top + o.gd 2)) w LK a out (by omega) (ho 4).1 (ho 4).2 w0 w1 (by omega) (by omega) hh1
      have hlen := lay_len rs ks[k] ab (o.gd 4) left (w64 (top + o.gd 2)) w (hv _ hmem)
      simp only [hrd, Option.bind_some, e1, w64s (show (k : Int) + 1 < 9223372036854775808 by omega)]
      rw [← hd2]
      refine ihk _ rest2 _ sh2 _ _ r0 r1 (by omega) (by rw [hd2]; exact fun s hs' => hs s (List.mem_cons_of_mem _ hs')) (by omega) (by rw [List.length_append]; omega) hh2 ?_
      rw [hd2, List.append_assoc, Nat.add_assoc]
      exact hR
    simp only [dlt hk, if_true, rdx_nat hk, Option.bind_some, rdx_nat hks, Int.toNat_natCast]
    by_cases e : sh[k] < 0
    · have hng : negs (sh[k] :: sh.drop (k + 1)) = negs (sh.drop (k + 1)) + 1 := by simp only [negs, if_pos e]; omega
      have hp := part_range (r := rest) (n := ((negs (sh.drop (k + 1)) + 1 : Nat) : Int)) h0 h1 (by omega) (by omega)
      have e2 : part rest ((negs (sh.drop (k + 1)) + 1 : Nat) : Int) = w64 ((w64 ((w64 (rest + ((negs (sh.drop (k + 1)) + 1 : Nat) : Int))) - 1)).tdiv ((negs (sh.drop (k + 1)) + 1 : Nat) : Int)) := rfl
      have wr : w64 (rest - part rest ((negs (sh.drop (k + 1)) + 1 : Nat) : Int)) = rest - part rest ((negs (sh.drop (k + 1)) + 1 : Nat) : Int) := w64_id (by omega) (by omega)
      have wn : w64 (((negs (sh.drop (k + 1)) + 1 : Nat) : Int) - 1) = (negs (sh.drop (k + 1)) : Int) := by rw [w64_id (by omega) (by omega)]; omega
      rw [hng, decide_eq_true e, if_pos rfl, if_pos (show ¬ ((negs (sh.drop (k + 1)) + 1 : Nat) : Int) = 0 by omega), ← e2]
      have hset : rdx (sh.set k (part rest ((negs (sh.drop (k + 1)) + 1 : Nat) : Int))) (k : Int) = some (part rest ((negs (sh.drop (k + 1)) + 1 : Nat) : Int)) := by rw [rdx_nat (by simpa using hks)]; simp
      simp only [hset, Option.bind_some, wr, wn]
      refine one _ _ _ hp.1 (by omega) (by omega) (by omega) (by simp) (by simp [List.drop_set]) hset ?_
      rw [hng]
      simp only [fillL, if_pos e, wr, wn]
    · have hng : negs (sh[k] :: sh.drop (k + 1)) = negs (sh.drop (k + 1)) := by simp only [negs, if_neg e]; omega
      rw [hng, decide_eq_false e]
      simp only [Bool.false_eq_true, if_false]
      refine one sh[k] rest sh (by omega) (hs _ List.mem_cons_self) h0 h1 rfl rfl (rdx_nat hks) ?_
      rw [hng]
      simp only [fillL, if_neg e]

theorem lay_impl (rs : List TRule) (hg : Gv rs) : ∀ t, Va t → nodes t ≤ 1000 → LayOk rs t := by
  refine TTree.ind ?_
  intro t ih hv hn1 above mark left top room LK a out hd hm0 hm1 hr0 hr1 ha hout hh
  have hn := nodes_eq t
  have hdp := depth_eq t
  have hkl := nodesL_len t.Kids
  rw [looksA_eq] at hh
  obtain ⟨g1, hh2⟩ := hh.head
  refine impl_boxer_lay_of _ _ _ _ _ ?_
  simp only [g1, Option.bind_some]
  rw [if_pos (apN 32 out [(⟨0, 0, 0, 0⟩ : TBox)] (by omega) (by omega) (by simp)), w64s (show (a : Int) + 1 < 9223372036854775808 by omega)]
  by_cases h : t.Tag = -1
  · rw [lay_text rs t h, decide_eq_true h]
    have hk0 : nodes t = 1 := by rw [hn, hv.nk h]; rfl
    have fin : ∀ b : TBox, impl_boxer_lay_b1 (out.length : Int) (⟨LK, ((a + 1 : Nat) : Int), out ++ [⟨0, 0, 0, 0⟩]⟩ : TBoxer) ⟨0, 0, 0, 0⟩ b = some (b, ⟨LK, ((a + nodes t : Nat) : Int), out ++ [b]⟩) := fun b =>
      impl_boxer_lay_b1_of _ _ _ _ (by rw [rdx_mid]; simp [hk0])
    simp only [if_true, fin]
    by_cases h1 : t.Text.length = 0
    · simp [h1, textB]
    · by_cases h2 : 0 < room
      · simp [h2, textB, h1, show ¬ room ≤ 0 by omega, show ¬ room = 0 by omega]
      · simp [h2, textB, show room ≤ 0 by omega]
  · rw [lay_elem rs t h, decide_eq_false h]
    simp only [Bool.false_eq_true, if_false]
    have ho5 := own_len rs t above mark
    have hor := own_range hg t above mark hm0 hm1
    generalize own rs t above mark = o at ho5 hor hh2 ⊢
    have d0 := getD4 ho5 0 (by omega)
    have d2 := getD4 ho5 2 (by omega)
    have d3 := getD4 ho5 3 (by omega)
    rw [show ((0 : Nat) : Int) = 0 from rfl] at d0
    rw [show ((2 : Nat) : Int) = 2 from rfl] at d2
    rw [show ((3 : Nat) : Int) = 3 from rfl] at d3
    obtain ⟨q1, q2, q3, q4⟩ := inner_range o hor room hr0 hr1
    have hvk : ∀ k ∈ t.Kids, Va k := fun k hk => hv.ks k hk
    have ihk : ∀ k ∈ t.Kids, LayOk rs k := fun k hk => ih k hk (hv.ks k hk) (by have := nodes_kid t.Kids k hk; omega)
    have key : impl_boxer_lay_b2 left top o (out.length : Int) (⟨LK, ((a + 1 : Nat) : Int), out ++ [⟨0, 0, 0, 0⟩]⟩ : TBoxer) t ⟨0, 0, 0, 0⟩ ⟨left, top, wideOf o room, 0⟩ = some
        (⟨left, top, wideOf o room, highOf o (insideOf rs t.Kids (above ++ [t.Tag]) o left top room).1⟩, ⟨LK, ((a + nodes t : Nat) : Int), out ++ ⟨left, top, wideOf o room, highOf o (insideOf rs t.Kids (above ++ [t.Tag]) o left top room).1⟩ :: (insideOf rs t.Kids (above ++ [t.Tag]) o left top room).2⟩) := by
      refine impl_boxer_lay_b2_of _ _ _ _ _ _ _ _ ?_
      have hat : a + nodes t = a + 1 + nodesL t.Kids := by omega
      simp only [d2, d3, Option.bind_some, insideOf]
      rw [show max (w64 (wideOf o room - w64 (2 * o.gd 2))) 0 = innerOf o room from rfl, hat]
      by_cases h3 : o.gd 3 = 0
      · rw [if_pos h3, decide_eq_true h3, if_pos rfl]
        have := lay_down rs t.Kids hv.lk.lm.kl hvk ihk (above ++ [t.Tag]) o (by simp; omega) hor left top (innerOf o room) q1 q2 LK out.length ⟨0, 0, 0, 0⟩ ⟨left, top, wideOf o room, 0⟩ _ 0 (by omega) 0 (a + 1) (out ++ [⟨0, 0, 0, 0⟩]) (by simpa using (by omega : a + 1 + nodesL t.Kids ≤ 2000)) (by simp; omega) (by simpa using hh2)
          (by rw [List.append_assoc, List.singleton_append]; exact b5_ok LK _ out _ o ho5 _ ⟨0, 0, 0, 0⟩ ⟨left, top, wideOf o room, 0⟩)
        simpa using this
      · rw [if_neg h3, decide_eq_false h3]
        simp only [Bool.false_eq_true, if_false]
        rw [if_pos (by omega)]
        have hwr := wish_range hg t.Kids (above ++ [t.Tag]) (o.gd 4) (hor 4).1 (hor 4).2
        have hwl : (wishOf rs t.Kids (above ++ [t.Tag]) (o.gd 4)).length = t.Kids.length := by simp [wishOf]
        obtain ⟨f1, f2, f3, f4⟩ := fix_ok _ (innerOf o room) hwr q1 q2
        have hop := open_ok _ (innerOf o room) 0 hwr q1 q2 (by omega)
        rw [Nat.zero_add, show ((0 : Nat) : Int) = 0 from rfl] at hop
        have hs60 : ∀ s ∈ fixL (wishOf rs t.Kids (above ++ [t.Tag]) (o.gd 4)) (innerOf o room), s ≤ 60 := by
          intro s hs
          obtain ⟨i, hi, rfl⟩ := List.getElem_of_mem hs
          obtain ⟨s, e1, e2, e3⟩ := f4 i (by omega)
          rw [List.getElem?_eq_getElem hi] at e1
          simp only [Option.some.injEq] at e1
          rw [e1]
          by_cases hw : (wishOf rs t.Kids (above ++ [t.Tag]) (o.gd 4))[i]'(by omega) = 0
          · rw [e2 hw]; omega
          · exact (e3 hw).2
        have h6 := lay_across rs t.Kids (by omega) hvk ihk (above ++ [t.Tag]) o (by simp; omega) hor top LK out.length ⟨0, 0, 0, 0⟩ ⟨left, top, wideOf o room, 0⟩ _ 0 (by omega) 0 (restL (wishOf rs t.Kids (above ++ [t.Tag]) (o.gd 4)) (innerOf o room)) (w64 (left + o.gd 2))
          (fixL (wishOf rs t.Kids (above ++ [t.Tag]) (o.gd 4)) (innerOf o room)) (a + 1) (out ++ [⟨0, 0, 0, 0⟩]) f2 f3 (by omega) (by simpa using hs60) (by simpa using (by omega : a + 1 + nodesL t.Kids ≤ 2000)) (by simp; omega) (by simpa using hh2)
          (by rw [List.append_assoc, List.singleton_append]; exact b5_ok LK _ out _ o ho5 _ ⟨0, 0, 0, 0⟩ ⟨left, top, wideOf o room, 0⟩)
        simp only [List.drop_zero] at h6
        rw [← hop, show ((0 : Nat) : Int) = 0 from rfl] at h6
        have h4 := lay_fix rs t.Kids (by omega) hvk hg (above ++ [t.Tag]) o hor left top 0 LK out.length ⟨0, 0, 0, 0⟩ ⟨left, top, wideOf o room, 0⟩ t rfl (by omega) (⟨LK, ((a + 1 : Nat) : Int), out ++ [⟨0, 0, 0, 0⟩]⟩ : TBoxer) rfl _ 0 (by omega) (innerOf o room)
          (List.replicate t.Kids.length 0) 0 (a + 1) q1 q2 (by simp) (by omega) (by simpa using (by omega : a + 1 + nodesL t.Kids ≤ 2000)) (by simpa using hh2) (by simpa using h6)
        simpa [shares] using h4
    by_cases h0 : o.gd 0 = 0
    · have hw : wideOf o room = room := if_pos h0
      simp only [d0, Option.bind_some, h0, decide_true, Bool.not_true, Bool.false_eq_true, if_false]
      rw [hw] at key ⊢
      exact key
    · have hw : wideOf o room = min (o.gd 0) room := if_neg h0
      simp only [d0, Option.bind_some, h0, decide_false, Bool.not_false, if_true]
      rw [hw] at key ⊢
      exact key

theorem boxes_ok' (rs : List TRule) (hm : Rm rs) (hg : Gv rs) (t : TTree) (hv : Va t) (hd : depth t ≤ 1000) (hn : nodes t ≤ 1000) (wide : Int) (h0 : 0 ≤ wide) (h1 : wide ≤ 60) :
    impl_boxes t rs wide = some (lay rs t [] 0 0 0 wide).2 := by
  refine impl_boxes_of _ _ _ ?_
  have e1 := looks_ok' rs hm t hv [] 0 (by simpa using hd) hn
  have e2 := lay_impl rs hg t hv hn [] 0 0 0 wide (looksA rs t [] 0) 0 [] (by simpa using hd) (by omega) (by omega) h0 h1 (by omega) (by simp; omega) ⟨[], by simp⟩
  rw [show ((0 : Nat) : Int) = 0 from rfl] at e2
  simp [e1, e2]
end Go.Fw.Law
namespace Go.Fw.Law
open Go Go.Fw

theorem five {o : List Int} (h : o.length = 5) : o = [o.gd 0, o.gd 1, o.gd 2, o.gd 3, o.gd 4] := by
  match o, h with
  | [a, b, c, d, e], _ => rfl
theorem looksOf_ok5 (rs : List TRule) (hm : Rm rs) (hg : Gv rs) (t : TTree) (ht : Lk t) (above : List Int) (ha : above.length ≤ 1048576) (inn : List Int) (hi : inn.length = 5) : spec_looksOf rs t above inn = some (own rs t above (inn.gd 4)) := by
  rw [five hi]
  exact looksOf_ok rs hm (fun x hx => (hg x hx).1) t ht above ha _ _ _ _ _

theorem textBox_ok (n : Nat) (room : Int) (_h : n ≤ 1000) (h0 : 0 ≤ room) (h1 : room ≤ 60) : spec_textBox (n : Int) room = some (textB n room) := by
  refine spec_textBox_of _ _ ?_
  by_cases h2 : room ≤ 0
  · simp [h2, textB]
  · by_cases h3 : n = 0
    · simp [h2, h3, textB]
    · simp [h2, h3, textB, show ¬ room = 0 by omega]

/-- The reference lays a part out. -/
def PartOk (f : TPlacer → TTree → List Int → List Int → Int → Int → Int → Option (TBox × TPlacer)) (rs : List TRule) (t : TTree) : Prop := ∀ (above inn : List Int) (left top room : Int) (out : List TBox), inn.length = 5 → above.length + depth t ≤ 1000 → 0 ≤ inn.gd 4 → inn.gd 4 ≤ 60 → 0 ≤ room → room ≤ 60 →
  out.length + nodes t ≤ 2000 → f ⟨rs, out⟩ t above inn left top room = some ((lay rs t above (inn.gd 4) left top room).1, ⟨rs, out ++ (lay rs t above (inn.gd 4) left top room).2⟩)

theorem down_ok (rs : List TRule) (ks : List TTree) (hkl : ks.length ≤ 1000) (hv : ∀ k ∈ ks, Va k) (ih : ∀ k ∈ ks, PartOk spec_placer_part_v rs k) (ab inn : List Int) (hi5 : inn.length = 5) (hd : ab.length + depthL ks ≤ 1000) (ho : 0 ≤ inn.gd 4 ∧ inn.gd 4 ≤ 60)
    (left top inner : Int) (hi0 : 0 ≤ inner) (hi : inner ≤ 60) : ∀ k, k ≤ ks.length → ∀ (h : Int) (out : List TBox), out.length + nodesL (ks.drop k) ≤ 2000 →
    spec_placer_down_b1 ks ab inn left top inner h k ⟨rs, out⟩ = some ((down rs (ks.drop k) ab (inn.gd 4) left top inner h).1, ⟨rs, out ++ (down rs (ks.drop k) ab (inn.gd 4) left top inner h).2⟩) := by
  refine upto _ ?_ ?_
  · intro h out _
    exact spec_placer_down_b1_of _ _ _ _ _ _ _ _ _ (by simp [down])
  · intro k hk ihk h out hout
    refine spec_placer_down_b1_of _ _ _ _ _ _ _ _ _ ?_
    have hm := List.getElem_mem hk
    rw [drop_at hk, nodesL] at hout
    have hdk := depth_kid ks _ hm
    have h1 := ih _ hm ab inn left (w64 (top + h)) inner out hi5 (by omega) ho.1 ho.2 hi0 hi (by omega)
    have hl := lay_len rs ks[k] ab (inn.gd 4) left (w64 (top + h)) inner (hv _ hm)
    simp only [dlt hk, if_true, rdx_nat hk, Option.bind_some, h1, w64s (show (k : Int) + 1 < 9223372036854775808 by omega)]
    rw [ihk _ _ (by rw [List.length_append]; omega), drop_at hk, down, List.append_assoc]

theorem wish2_ok (rs : List TRule) (hm : Rm rs) (hg : Gv rs) (ks : List TTree) (hkl : ks.length ≤ 1000) (hv : ∀ k ∈ ks, Va k) (ab inn : List Int) (hi5 : inn.length = 5) (hab : ab.length ≤ 1000) (out : List TBox) (F : List Int) (hF : F.length = ks.length)
    (hneg : ∀ i (h : i < ks.length), (F[i]'(by omega) < 0 ↔ (own rs ks[i] ab (inn.gd 4)).gd 0 = 0)) (_h60 : ∀ s ∈ F, s ≤ 60) : ∀ k, k ≤ ks.length → ∀ (X : List Int) (rest : Int), X.length = ks.length →
    (∀ i (h : i < ks.length), k ≤ i → (own rs ks[i] ab (inn.gd 4)).gd 0 ≠ 0 → X[i]? = F[i]?) → 0 ≤ rest → rest ≤ 60 →
    spec_placer_wishes_b2 ks ab inn X rest (negs (F.drop k)) k ⟨rs, out⟩ = some (X.take k ++ fillL (F.drop k) rest (negs (F.drop k)), ⟨rs, out⟩) := by
  refine upto _ ?_ ?_
  · intro X rest hX _ _ _
    refine spec_placer_wishes_b2_of _ _ _ _ _ _ _ _ ?_
    have hd : F.drop ks.length = [] := List.drop_eq_nil_of_le (by omega)
    rw [hd, ← hX, List.take_length, hX]
    simp [fillL]
  · intro k hk ihk X rest hX hag h0 h1
    refine spec_placer_wishes_b2_of _ _ _ _ _ _ _ _ ?_
    have hmem := List.getElem_mem hk
    have hkF : k < F.length := by omega
    have hkX : k < X.length := by omega
    have hl := looksOf_ok5 rs hm hg ks[k] (hv _ hmem).lk ab (by omega) inn hi5
    have h5 := getD4 (own_len rs ks[k] ab (inn.gd 4)) 0 (by omega)
    rw [show ((0 : Nat) : Int) = 0 from rfl] at h5
    have hng := hneg k hk
    have hagk := hag k hk (Nat.le_refl _)
    have nl : ∀ ss : List Int, negs ss ≤ ss.length := fun ss => by
      induction ss with
      | nil => simp [negs]
      | cons s ss ih => simp only [negs, List.length_cons]; split <;> omega
    have hnl := nl (F.drop (k + 1))
    have hdl : (F.drop (k + 1)).length = F.length - (k + 1) := by simp
    rw [drop_at hkF]
    simp only [dlt hk, if_true, rdx_nat hk, Option.bind_some, hl, h5, w64s (show (k : Int) + 1 < 9223372036854775808 by omega), rdx_nat hkX, Int.toNat_natCast]
    by_cases e : (own rs ks[k] ab (inn.gd 4)).gd 0 = 0
    · have hlt := hng.2 e
      have hn1 : negs (F[k] :: F.drop (k + 1)) = negs (F.drop (k + 1)) + 1 := by simp only [negs, if_pos hlt]; omega
      have hp := part_range (r := rest) (n := ((negs (F.drop (k + 1)) + 1 : Nat) : Int)) h0 h1 (by omega) (by omega)
      have e2 : part rest ((negs (F.drop (k + 1)) + 1 : Nat) : Int) = w64 ((w64 ((w64 (rest + ((negs (F.drop (k + 1)) + 1 : Nat) : Int))) - 1)).tdiv ((negs (F.drop (k + 1)) + 1 : Nat) : Int)) := rfl
      have wr : w64 (rest - part rest ((negs (F.drop (k + 1)) + 1 : Nat) : Int)) = rest - part rest ((negs (F.drop (k + 1)) + 1 : Nat) : Int) := w64_id (by omega) (by omega)
      have wn : w64 (((negs (F.drop (k + 1)) + 1 : Nat) : Int) - 1) = (negs (F.drop (k + 1)) : Int) := by rw [w64_id (by omega) (by omega)]; omega
      rw [hn1, decide_eq_true e, if_pos rfl, if_pos (show ¬ ((negs (F.drop (k + 1)) + 1 : Nat) : Int) = 0 by omega), ← e2]
      have hset : rdx (X.set k (part rest ((negs (F.drop (k + 1)) + 1 : Nat) : Int))) (k : Int) = some (part rest ((negs (F.drop (k + 1)) + 1 : Nat) : Int)) := by rw [rdx_nat (by simpa using hkX)]; simp
      simp only [hset, Option.bind_some, wr, wn]
      rw [ihk _ _ (by simpa using hX) (fun i hi hki hw => by rw [List.getElem?_set_ne (by omega)]; exact hag i hi (by omega) hw) (by omega) (by omega), take_set hkX, List.append_assoc]
      simp only [fillL, if_pos hlt, wr, wn, List.singleton_append]
    · have hlt : ¬ F[k] < 0 := fun h => e (hng.1 h)
      have hn1 : negs (F[k] :: F.drop (k + 1)) = negs (F.drop (k + 1)) := by simp only [negs, if_neg hlt]; omega
      have hxk : X[k] = F[k] := by
        have := hagk e
        rw [List.getElem?_eq_getElem hkX, List.getElem?_eq_getElem hkF] at this
        simpa using this
      rw [hn1, decide_eq_false e]
      simp only [Bool.false_eq_true, if_false]
      rw [ihk X rest hX (fun i hi hki hw => hag i hi (by omega) hw) h0 h1]
      simp only [fillL, if_neg hlt]
      rw [List.take_add_one, List.append_assoc]
      simp [hkX, hxk]

theorem wish1_ok (rs : List TRule) (hm : Rm rs) (hg : Gv rs) (ks : List TTree) (hkl : ks.length ≤ 1000) (hv : ∀ k ∈ ks, Va k) (ab inn : List Int) (hi5 : inn.length = 5) (hin : 0 ≤ inn.gd 4 ∧ inn.gd 4 ≤ 60) (hab : ab.length ≤ 1000) (out : List TBox) (F : List Int) (REST OPEN : Int) (R : List Int × TPlacer)
    (K : ∀ X : List Int, X.length = ks.length → (∀ i (h : i < ks.length), (own rs ks[i] ab (inn.gd 4)).gd 0 ≠ 0 → X[i]? = F[i]?) → spec_placer_wishes_b2 ks ab inn X REST OPEN 0 ⟨rs, out⟩ = some R) : ∀ k, k ≤ ks.length → ∀ (X : List Int) (rest : Int) (m : Nat), X.length = ks.length →
    (∀ i (h : i < ks.length), i < k → (own rs ks[i] ab (inn.gd 4)).gd 0 ≠ 0 → X[i]? = F[i]?) → F.drop k = fixL (wishOf rs (ks.drop k) ab (inn.gd 4)) rest → restL (wishOf rs (ks.drop k) ab (inn.gd 4)) rest = REST → openL (wishOf rs (ks.drop k) ab (inn.gd 4)) m = OPEN →
    0 ≤ rest → rest ≤ 60 → m + (ks.length - k) ≤ 1000 → spec_placer_wishes_b1 ks ab inn X rest m k ⟨rs, out⟩ = some R := by
  refine upto _ ?_ ?_
  · intro X rest m hX hag hf hr hop _ _ _
    refine spec_placer_wishes_b1_of _ _ _ _ _ _ _ _ ?_
    simp only [List.drop_length, wishOf, List.map_nil, restL, openL] at hr hop
    rw [dge]
    simp only [Bool.false_eq_true, if_false]
    rw [hr, hop]
    exact K X hX fun i h hw => hag i h h hw
  · intro k hk ihk X rest m hX hag hf hr hop h0 h1 hm1
    refine spec_placer_wishes_b1_of _ _ _ _ _ _ _ _ ?_
    have hmem := List.getElem_mem hk
    have hkX : k < X.length := by omega
    have hl := looksOf_ok5 rs hm hg ks[k] (hv _ hmem).lk ab (by omega) inn hi5
    have h5 := getD4 (own_len rs ks[k] ab (inn.gd 4)) 0 (by omega)
    rw [show ((0 : Nat) : Int) = 0 from rfl] at h5
    have hw := own_range hg ks[k] ab (inn.gd 4) hin.1 hin.2 0
    rw [drop_at hk] at hf hr hop
    simp only [wishOf, List.map_cons, fixL, restL, openL] at hf hr hop
    simp only [dlt hk, if_true, rdx_nat hk, Option.bind_some, hl, h5, w64s (show (k : Int) + 1 < 9223372036854775808 by omega), w64s (show (m : Int) + 1 < 9223372036854775808 by omega), rdx_nat hkX, Int.toNat_natCast]
    by_cases e : (own rs ks[k] ab (inn.gd 4)).gd 0 = 0
    · rw [if_pos e] at hf hr hop
      rw [w64s (by omega)] at hop
      rw [decide_eq_true e, if_pos rfl]
      have hf2 : F.drop (k + 1) = fixL (wishOf rs (ks.drop (k + 1)) ab (inn.gd 4)) rest := by rw [← List.drop_drop, hf]; rfl
      exact ihk X rest (m + 1) hX (fun i hi hik hne => hag i hi (by
        rcases Nat.lt_or_ge i k with h | h
        · exact h
        · have : i = k := by omega
          subst this
          exact absurd e hne) hne) hf2 hr hop h0 h1 (by omega)
    · rw [if_neg e] at hf hr hop
      have hmin : 0 ≤ min ((own rs ks[k] ab (inn.gd 4)).gd 0) rest ∧ min ((own rs ks[k] ab (inn.gd 4)).gd 0) rest ≤ rest := by omega
      have w1 : w64 (rest - min ((own rs ks[k] ab (inn.gd 4)).gd 0) rest) = rest - min ((own rs ks[k] ab (inn.gd 4)).gd 0) rest := w64_id (by omega) (by omega)
      have hset : rdx (X.set k (min ((own rs ks[k] ab (inn.gd 4)).gd 0) rest)) (k : Int) = some (min ((own rs ks[k] ab (inn.gd 4)).gd 0) rest) := by rw [rdx_nat (by simpa using hkX)]; simp
      have hf2 : F.drop (k + 1) = fixL (wishOf rs (ks.drop (k + 1)) ab (inn.gd 4)) (rest - min ((own rs ks[k] ab (inn.gd 4)).gd 0) rest) := by rw [← List.drop_drop, hf, w1]; rfl
      have hfk : F[k]? = some (min ((own rs ks[k] ab (inn.gd 4)).gd 0) rest) := by
        have := congrArg (·[0]?) hf
        simpa using this
      rw [w1] at hr
      rw [decide_eq_false e]
      simp only [Bool.false_eq_true, if_false, hset, Option.bind_some, w1]
      refine ihk _ _ m (by simpa using hX) (fun i hi hik hne => ?_) hf2 hr hop (by omega) (by omega) (by omega)
      by_cases hki : i = k
      · subst hki
        rw [hfk]
        simp [hkX]
      · rw [List.getElem?_set_ne (by omega)]
        exact hag i hi (by omega) hne

theorem wishes_ok (rs : List TRule) (hm : Rm rs) (hg : Gv rs) (ks : List TTree) (hkl : ks.length ≤ 1000) (hv : ∀ k ∈ ks, Va k) (ab inn : List Int) (hi5 : inn.length = 5) (hin : 0 ≤ inn.gd 4 ∧ inn.gd 4 ≤ 60) (hab : ab.length ≤ 1000) (out : List TBox) (inner : Int) (h0 : 0 ≤ inner) (h1 : inner ≤ 60) :
    spec_placer_wishes ⟨rs, out⟩ ks ab inn inner = some (shares (wishOf rs ks ab (inn.gd 4)) inner, ⟨rs, out⟩) := by
  have hwr := wish_range hg ks ab (inn.gd 4) hin.1 hin.2
  have hwl : (wishOf rs ks ab (inn.gd 4)).length = ks.length := by simp [wishOf]
  obtain ⟨f1, f2, f3, f4⟩ := fix_ok _ inner hwr h0 h1
  have hop := open_ok _ inner 0 hwr h0 h1 (by omega)
  rw [Nat.zero_add, show ((0 : Nat) : Int) = 0 from rfl] at hop
  have hwi : ∀ i (h : i < ks.length), (wishOf rs ks ab (inn.gd 4))[i]'(by omega) = (own rs ks[i] ab (inn.gd 4)).gd 0 := fun i h => by simp [wishOf]
  have hFi : ∀ i (h : i < ks.length), ((fixL (wishOf rs ks ab (inn.gd 4)) inner)[i]'(by omega) < 0 ↔ (own rs ks[i] ab (inn.gd 4)).gd 0 = 0) ∧ (fixL (wishOf rs ks ab (inn.gd 4)) inner)[i]'(by omega) ≤ 60 := fun i h => by
    obtain ⟨s, e1, e2, e3⟩ := f4 i (by omega)
    rw [List.getElem?_eq_getElem (by omega)] at e1
    simp only [Option.some.injEq] at e1
    rw [e1]
    rw [hwi i h] at e2 e3
    by_cases hw : (own rs ks[i] ab (inn.gd 4)).gd 0 = 0
    · have := e2 hw; exact ⟨⟨fun _ => hw, fun _ => by omega⟩, by omega⟩
    · have := e3 hw; exact ⟨⟨fun h => by omega, fun h => absurd h hw⟩, this.2⟩
  refine spec_placer_wishes_of _ _ _ _ _ ?_
  rw [if_pos (by omega)]
  refine wish1_ok rs hm hg ks hkl hv ab inn hi5 hin hab out (fixL (wishOf rs ks ab (inn.gd 4)) inner) _ _ _ (fun X hX hag => ?_) 0 (by omega) _ inner 0 (by simp) (fun i h hi => absurd hi (by omega)) rfl rfl rfl h0 h1 (by omega)
  have := wish2_ok rs hm hg ks hkl hv ab inn hi5 hab out (fixL (wishOf rs ks ab (inn.gd 4)) inner) (by omega) (fun i h => (hFi i h).1) (fun s hs => by
    obtain ⟨i, hi, rfl⟩ := List.getElem_of_mem hs
    exact (hFi i (by omega)).2) 0 (by omega) X (restL (wishOf rs ks ab (inn.gd 4)) inner) hX (fun i h _ hw => hag i h hw) f2 f3
  simp only [List.drop_zero, List.take_zero, List.nil_append] at this
  simp only [List.drop_zero]
  rw [show ((0 : Nat) : Int) = 0 from rfl] at this ⊢
  rw [hop]
  rw [this, shares, hop]

theorem across_ok (rs : List TRule) (ks : List TTree) (hkl : ks.length ≤ 1000) (hv : ∀ k ∈ ks, Va k) (ih : ∀ k ∈ ks, PartOk spec_placer_part_v rs k) (ab inn : List Int) (hi5 : inn.length = 5) (hd : ab.length + depthL ks ≤ 1000) (ho : 0 ≤ inn.gd 4 ∧ inn.gd 4 ≤ 60)
    (top : Int) (sh : List Int) (hl : sh.length = ks.length) (hs : ∀ s ∈ sh, 0 ≤ s ∧ s ≤ 60) : ∀ k, k ≤ ks.length → ∀ (h left : Int) (out : List TBox), out.length + nodesL (ks.drop k) ≤ 2000 →
    spec_placer_across_b1 ks ab inn left top sh h k ⟨rs, out⟩ = some ((across rs (ks.drop k) ab (inn.gd 4) (sh.drop k) left top h).1, ⟨rs, out ++ (across rs (ks.drop k) ab (inn.gd 4) (sh.drop k) left top h).2⟩) := by
  refine upto _ ?_ ?_
  · intro h left out _
    exact spec_placer_across_b1_of _ _ _ _ _ _ _ _ _ (by simp [across])
  · intro k hk ihk h left out hout
    refine spec_placer_across_b1_of _ _ _ _ _ _ _ _ _ ?_
    have hm := List.getElem_mem hk
    have hks : k < sh.length := by omega
    have hsk := hs _ (List.getElem_mem hks)
    rw [drop_at hk, nodesL] at hout
    have hdk := depth_kid ks _ hm
    have h1 := ih _ hm ab inn left top sh[k] out hi5 (by omega) ho.1 ho.2 hsk.1 hsk.2 (by omega)
    have hlen := lay_len rs ks[k] ab (inn.gd 4) left top sh[k] (hv _ hm)
    simp only [dlt hk, if_true, rdx_nat hk, rdx_nat hks, Option.bind_some, h1, w64s (show (k : Int) + 1 < 9223372036854775808 by omega)]
    rw [ihk _ _ _ (by rw [List.length_append]; omega), drop_at hk, drop_at hks, across, List.append_assoc]
    rfl
end Go.Fw.Law
namespace Go.Fw.Law
open Go Go.Fw

theorem word_len (s : Str) (h : wordB s = true) : s.length ≤ 12 := by
  simp only [wordB, Bool.and_eq_true, decide_eq_true_eq] at h
  exact h.1
theorem shown_len (s : Str) (h : shownB s = true) : s.length ≤ 12 := by
  unfold shownB at h
  split at h
  · obtain ⟨n, h1, h2, rfl⟩ := (negB_iff s).1 h
    have := decDigits_len 3 n (by omega)
    simp; omega
  · exact word_len s h
theorem b4_v_ok (rs : List TRule) (out bs : List TBox) (Z z y : TBox) : spec_placer_part_v_b4 (out.length : Int) (⟨rs, out ++ Z :: bs⟩ : TPlacer) z y = some (y, ⟨rs, out ++ y :: bs⟩) :=
  spec_placer_part_v_b4_of _ _ _ _ (by rw [rdx_mid]; simp)
theorem b2_v_ok (rs : List TRule) (out bs : List TBox) (o : List Int) (ho : o.length = 5) (hor : ∀ i, 0 ≤ o.gd i ∧ o.gd i ≤ 60) (h : Int) (Z z y : TBox) :
    spec_placer_part_v_b2 o (out.length : Int) (o.gd 2) h (⟨rs, out ++ Z :: bs⟩ : TPlacer) z y = some (⟨y.Left, y.Top, y.Wide, highOf o h⟩, ⟨rs, out ++ ⟨y.Left, y.Top, y.Wide, highOf o h⟩ :: bs⟩) := by
  refine spec_placer_part_v_b2_of _ _ _ _ _ _ _ ?_
  have h1 := getD4 ho 1 (by omega)
  rw [show ((1 : Nat) : Int) = 1 from rfl] at h1
  have hr := hor 1
  by_cases h0 : o.gd 1 = 0
  · simp [h1, h0, b4_v_ok, highOf]
  · simp [h1, h0, b4_v_ok, highOf, show 0 < o.gd 1 by omega]
theorem part_v_step (rs : List TRule) (hm : Rm rs) (hg : Gv rs) (t : TTree) (hv : Va t) (hn1 : nodes t ≤ 1000) (ihk : ∀ k ∈ t.Kids, PartOk spec_placer_part_v rs k) : PartOk spec_placer_part_v rs t := by
  intro above inn left top room out hi5 hd hm0 hm1 hr0 hr1 hout
  have hn := nodes_eq t
  have hdp := depth_eq t
  have hkl := nodesL_len t.Kids
  refine spec_placer_part_v_of _ _ _ _ _ _ _ ?_
  simp only [looksOf_ok5 rs hm hg t hv.lk above (by omega) inn hi5, Option.bind_some]
  rw [if_pos (apN 32 out [(⟨left, top, 0, 0⟩ : TBox)] (by omega) (by omega) (by simp))]
  by_cases h : t.Tag = -1
  · rw [lay_text rs t h, h]
    simp only [textBox_ok _ _ (show t.Text.length ≤ 1000 by have := hv.tx; omega) hr0 hr1, Option.bind_some, rdx_mid]
    simp
  · have h2 : 0 ≤ t.Tag := hv.lk.tag.resolve_left h
    rw [lay_elem rs t h, decide_eq_false (show ¬ t.Tag < 0 by omega)]
    simp only [Bool.false_eq_true, if_false]
    have ho5 := own_len rs t above (inn.gd 4)
    have hor := own_range hg t above (inn.gd 4) hm0 hm1
    generalize own rs t above (inn.gd 4) = o at ho5 hor ⊢
    have d0 := getD4 ho5 0 (by omega)
    have d2 := getD4 ho5 2 (by omega)
    have d3 := getD4 ho5 3 (by omega)
    rw [show ((0 : Nat) : Int) = 0 from rfl] at d0
    rw [show ((2 : Nat) : Int) = 2 from rfl] at d2
    rw [show ((3 : Nat) : Int) = 3 from rfl] at d3
    obtain ⟨q1, q2, q3, q4⟩ := inner_range o hor room hr0 hr1
    have hvk : ∀ k ∈ t.Kids, Va k := fun k hk => hv.ks k hk
    have o0 := hor 0
    have o3 := hor 3
    have key : spec_placer_part_v_b1 above left top o (out.length : Int) (⟨rs, out ++ [⟨left, top, 0, 0⟩]⟩ : TPlacer) t ⟨0, 0, 0, 0⟩ ⟨left, top, wideOf o room, 0⟩ = some
        (⟨left, top, wideOf o room, highOf o (insideOf rs t.Kids (above ++ [t.Tag]) o left top room).1⟩, ⟨rs, out ++ ⟨left, top, wideOf o room, highOf o (insideOf rs t.Kids (above ++ [t.Tag]) o left top room).1⟩ :: (insideOf rs t.Kids (above ++ [t.Tag]) o left top room).2⟩) := by
      refine spec_placer_part_v_b1_of _ _ _ _ _ _ _ _ _ ?_
      simp only [d2, d3, Option.bind_some]
      rw [if_pos (apN 8 ([] : List Int) above (by omega) (by simp) (by omega)), if_pos (apN 8 above [t.Tag] (by omega) (by omega) (by simp))]
      rw [show max 0 (w64 (wideOf o room - w64 (2 * o.gd 2))) = innerOf o room by rw [innerOf]; omega]
      by_cases h3 : o.gd 3 = 0
      · rw [decide_eq_false (show ¬ 0 < o.gd 3 by omega)]
        simp only [Bool.false_eq_true, if_false]
        refine spec_placer_part_v_b3_of _ _ _ _ _ _ _ _ _ _ _ ?_
        have e1 := down_ok rs t.Kids (by omega) hvk ihk (above ++ [t.Tag]) o ho5 (by simp; omega) (hor 4) (w64 (left + o.gd 2)) (w64 (top + o.gd 2)) (innerOf o room) q1 q2 0 (by omega) 0 (out ++ [⟨left, top, 0, 0⟩]) (by simp; omega)
        have e2 : spec_placer_down (⟨rs, out ++ [⟨left, top, 0, 0⟩]⟩ : TPlacer) t.Kids (above ++ [t.Tag]) o (w64 (left + o.gd 2)) (w64 (top + o.gd 2)) (innerOf o room) = some _ := spec_placer_down_of _ _ _ _ _ _ _ e1
        simp only [e2, Option.bind_some, List.drop_zero, List.append_assoc, List.singleton_append]
        rw [b2_v_ok rs out _ o ho5 hor, insideOf, if_pos h3]
      · rw [decide_eq_true (show 0 < o.gd 3 by omega)]
        simp only [if_true]
        have hwl : (wishOf rs t.Kids (above ++ [t.Tag]) (o.gd 4)).length = t.Kids.length := by simp [wishOf]
        obtain ⟨s1, s2⟩ := shares_ok _ (innerOf o room) (wish_range hg t.Kids (above ++ [t.Tag]) (o.gd 4) (hor 4).1 (hor 4).2) q1 q2 (by omega)
        have e0 := wishes_ok rs hm hg t.Kids (by omega) hvk (above ++ [t.Tag]) o ho5 (hor 4) (by simp; omega) (out ++ [⟨left, top, 0, 0⟩]) (innerOf o room) q1 q2
        have e1 := across_ok rs t.Kids (by omega) hvk ihk (above ++ [t.Tag]) o ho5 (by simp; omega) (hor 4) (w64 (top + o.gd 2)) _ (by rw [s1, hwl]) s2 0 (by omega) 0 (w64 (left + o.gd 2)) (out ++ [⟨left, top, 0, 0⟩]) (by simp; omega)
        have e2 : spec_placer_across (⟨rs, out ++ [⟨left, top, 0, 0⟩]⟩ : TPlacer) t.Kids (above ++ [t.Tag]) o (w64 (left + o.gd 2)) (w64 (top + o.gd 2)) (innerOf o room) = some _ := spec_placer_across_of _ _ _ _ _ _ _ (by rw [e0]; exact e1)
        simp only [e2, Option.bind_some, List.drop_zero, List.append_assoc, List.singleton_append]
        rw [b2_v_ok rs out _ o ho5 hor, insideOf, if_neg h3]
    by_cases h0 : o.gd 0 = 0
    · have hw : wideOf o room = room := if_pos h0
      simp only [d0, Option.bind_some, decide_eq_false (show ¬ 0 < o.gd 0 by omega), Bool.false_eq_true, if_false]
      rw [hw] at key ⊢
      exact key
    · have hw : wideOf o room = min room (o.gd 0) := by rw [wideOf, if_neg h0]; omega
      simp only [d0, Option.bind_some, decide_eq_true (show 0 < o.gd 0 by omega), if_true]
      rw [hw] at key ⊢
      exact key
theorem b4_ok (rs : List TRule) (out bs : List TBox) (Z z y : TBox) : spec_placer_part_b4 (out.length : Int) (⟨rs, out ++ Z :: bs⟩ : TPlacer) z y = some (y, ⟨rs, out ++ y :: bs⟩) :=
  spec_placer_part_b4_of _ _ _ _ (by rw [rdx_mid]; simp)
theorem b2_ok (rs : List TRule) (out bs : List TBox) (o : List Int) (ho : o.length = 5) (hor : ∀ i, 0 ≤ o.gd i ∧ o.gd i ≤ 60) (h : Int) (Z z y : TBox) :
    spec_placer_part_b2 o (out.length : Int) (o.gd 2) h (⟨rs, out ++ Z :: bs⟩ : TPlacer) z y = some (⟨y.Left, y.Top, y.Wide, highOf o h⟩, ⟨rs, out ++ ⟨y.Left, y.Top, y.Wide, highOf o h⟩ :: bs⟩) := by
  refine spec_placer_part_b2_of _ _ _ _ _ _ _ ?_
  have h1 := getD4 ho 1 (by omega)
  rw [show ((1 : Nat) : Int) = 1 from rfl] at h1
  have hr := hor 1
  by_cases h0 : o.gd 1 = 0
  · simp [h1, h0, b4_ok, highOf]
  · simp [h1, h0, b4_ok, highOf, show 0 < o.gd 1 by omega]
theorem part_step (rs : List TRule) (hm : Rm rs) (hg : Gv rs) (t : TTree) (hv : Va t) (hn1 : nodes t ≤ 1000) (ihk : ∀ k ∈ t.Kids, PartOk spec_placer_part_v rs k) : PartOk spec_placer_part rs t := by
  intro above inn left top room out hi5 hd hm0 hm1 hr0 hr1 hout
  have hn := nodes_eq t
  have hdp := depth_eq t
  have hkl := nodesL_len t.Kids
  refine spec_placer_part_of _ _ _ _ _ _ _ ?_
  simp only [looksOf_ok5 rs hm hg t hv.lk above (by omega) inn hi5, Option.bind_some]
  rw [if_pos (apN 32 out [(⟨left, top, 0, 0⟩ : TBox)] (by omega) (by omega) (by simp))]
  by_cases h : t.Tag = -1
  · rw [lay_text rs t h, h]
    simp only [textBox_ok _ _ (show t.Text.length ≤ 1000 by have := hv.tx; omega) hr0 hr1, Option.bind_some, rdx_mid]
    simp
  · have h2 : 0 ≤ t.Tag := hv.lk.tag.resolve_left h
    rw [lay_elem rs t h, decide_eq_false (show ¬ t.Tag < 0 by omega)]
    simp only [Bool.false_eq_true, if_false]
    have ho5 := own_len rs t above (inn.gd 4)
    have hor := own_range hg t above (inn.gd 4) hm0 hm1
    generalize own rs t above (inn.gd 4) = o at ho5 hor ⊢
    have d0 := getD4 ho5 0 (by omega)
    have d2 := getD4 ho5 2 (by omega)
    have d3 := getD4 ho5 3 (by omega)
    rw [show ((0 : Nat) : Int) = 0 from rfl] at d0
    rw [show ((2 : Nat) : Int) = 2 from rfl] at d2
    rw [show ((3 : Nat) : Int) = 3 from rfl] at d3
    obtain ⟨q1, q2, q3, q4⟩ := inner_range o hor room hr0 hr1
    have hvk : ∀ k ∈ t.Kids, Va k := fun k hk => hv.ks k hk
    have o0 := hor 0
    have o3 := hor 3
    have key : spec_placer_part_b1 above left top o (out.length : Int) (⟨rs, out ++ [⟨left, top, 0, 0⟩]⟩ : TPlacer) t ⟨0, 0, 0, 0⟩ ⟨left, top, wideOf o room, 0⟩ = some
        (⟨left, top, wideOf o room, highOf o (insideOf rs t.Kids (above ++ [t.Tag]) o left top room).1⟩, ⟨rs, out ++ ⟨left, top, wideOf o room, highOf o (insideOf rs t.Kids (above ++ [t.Tag]) o left top room).1⟩ :: (insideOf rs t.Kids (above ++ [t.Tag]) o left top room).2⟩) := by
      refine spec_placer_part_b1_of _ _ _ _ _ _ _ _ _ ?_
      simp only [d2, d3, Option.bind_some]
      rw [if_pos (apN 8 ([] : List Int) above (by omega) (by simp) (by omega)), if_pos (apN 8 above [t.Tag] (by omega) (by omega) (by simp))]
      rw [show max 0 (w64 (wideOf o room - w64 (2 * o.gd 2))) = innerOf o room by rw [innerOf]; omega]
      by_cases h3 : o.gd 3 = 0
      · rw [decide_eq_false (show ¬ 0 < o.gd 3 by omega)]
        simp only [Bool.false_eq_true, if_false]
        refine spec_placer_part_b3_of _ _ _ _ _ _ _ _ _ _ _ ?_
        have e1 := down_ok rs t.Kids (by omega) hvk ihk (above ++ [t.Tag]) o ho5 (by simp; omega) (hor 4) (w64 (left + o.gd 2)) (w64 (top + o.gd 2)) (innerOf o room) q1 q2 0 (by omega) 0 (out ++ [⟨left, top, 0, 0⟩]) (by simp; omega)
        have e2 : spec_placer_down (⟨rs, out ++ [⟨left, top, 0, 0⟩]⟩ : TPlacer) t.Kids (above ++ [t.Tag]) o (w64 (left + o.gd 2)) (w64 (top + o.gd 2)) (innerOf o room) = some _ := spec_placer_down_of _ _ _ _ _ _ _ e1
        simp only [e2, Option.bind_some, List.drop_zero, List.append_assoc, List.singleton_append]
        rw [b2_ok rs out _ o ho5 hor, insideOf, if_pos h3]
      · rw [decide_eq_true (show 0 < o.gd 3 by omega)]
        simp only [if_true]
        have hwl : (wishOf rs t.Kids (above ++ [t.Tag]) (o.gd 4)).length = t.Kids.length := by simp [wishOf]
        obtain ⟨s1, s2⟩ := shares_ok _ (innerOf o room) (wish_range hg t.Kids (above ++ [t.Tag]) (o.gd 4) (hor 4).1 (hor 4).2) q1 q2 (by omega)
        have e0 := wishes_ok rs hm hg t.Kids (by omega) hvk (above ++ [t.Tag]) o ho5 (hor 4) (by simp; omega) (out ++ [⟨left, top, 0, 0⟩]) (innerOf o room) q1 q2
        have e1 := across_ok rs t.Kids (by omega) hvk ihk (above ++ [t.Tag]) o ho5 (by simp; omega) (hor 4) (w64 (top + o.gd 2)) _ (by rw [s1, hwl]) s2 0 (by omega) 0 (w64 (left + o.gd 2)) (out ++ [⟨left, top, 0, 0⟩]) (by simp; omega)
        have e2 : spec_placer_across (⟨rs, out ++ [⟨left, top, 0, 0⟩]⟩ : TPlacer) t.Kids (above ++ [t.Tag]) o (w64 (left + o.gd 2)) (w64 (top + o.gd 2)) (innerOf o room) = some _ := spec_placer_across_of _ _ _ _ _ _ _ (by rw [e0]; exact e1)
        simp only [e2, Option.bind_some, List.drop_zero, List.append_assoc, List.singleton_append]
        rw [b2_ok rs out _ o ho5 hor, insideOf, if_neg h3]
    by_cases h0 : o.gd 0 = 0
    · have hw : wideOf o room = room := if_pos h0
      simp only [d0, Option.bind_some, decide_eq_false (show ¬ 0 < o.gd 0 by omega), Bool.false_eq_true, if_false]
      rw [hw] at key ⊢
      exact key
    · have hw : wideOf o room = min room (o.gd 0) := by rw [wideOf, if_neg h0]; omega
      simp only [d0, Option.bind_some, decide_eq_true (show 0 < o.gd 0 by omega), if_true]
      rw [hw] at key ⊢
      exact key
theorem part_v_ok (rs : List TRule) (hm : Rm rs) (hg : Gv rs) : ∀ t, Va t → nodes t ≤ 1000 → PartOk spec_placer_part_v rs t := by
  refine TTree.ind ?_
  intro t ih hv hn1
  have hn := nodes_eq t
  exact part_v_step rs hm hg t hv hn1 fun k hk => ih k hk (hv.ks k hk) (by have := nodes_kid t.Kids k hk; omega)
theorem boxes_ok (rs : List TRule) (hm : Rm rs) (hg : Gv rs) (t : TTree) (hv : Va t) (hd : depth t ≤ 1000) (hn : nodes t ≤ 1000) (wide : Int) (h0 : 0 ≤ wide) (h1 : wide ≤ 60) :
    spec_boxes t rs wide = some (lay rs t [] 0 0 0 wide).2 := by
  refine spec_boxes_of _ _ _ ?_
  have hk := nodes_eq t
  have e := part_step rs hm hg t hv hn (fun k hk' => part_v_ok rs hm hg k (hv.ks k hk') (by have := nodes_kid t.Kids k hk'; omega)) [] [0, 0, 0, 0, 0] 0 0 wide [] rfl (by simpa using hd) (by decide) (by decide) h0 h1 (by simp; omega)
  simp [e, List.gd]

/-- Valid trees and rules are such. -/
theorem partB_va : ∀ t, Lm 1048576 t → partB t = true → Va t := by
  refine TTree.ind ?_
  intro t ih hl hp
  rw [partB_eq] at hp
  by_cases h : t.Tag = -1
  · rw [if_pos h] at hp
    simp only [Bool.and_eq_true, decide_eq_true_eq] at hp
    obtain ⟨⟨⟨h1, h2⟩, h3⟩, h4⟩ := hp
    have hk : t.Kids = [] := List.eq_nil_of_length_eq_zero h3
    exact .mk ⟨hl, by rw [h2]; trivial, .inl h⟩ (shown_len _ h4) (fun _ => hk) (by rw [hk]; simp)
  · rw [if_neg h] at hp
    simp only [Bool.and_eq_true, decide_eq_true_eq, inB] at hp
    obtain ⟨⟨⟨⟨⟨h1, h2⟩, h3⟩, h4⟩, h5⟩, h6⟩ := hp
    have hks : ∀ (ts : List TTree), partsB ts = true → ∀ k ∈ ts, partB k = true := by
      intro ts
      induction ts with
      | nil => simp
      | cons a ts iht =>
        intro hh k hk
        simp only [partsB, Bool.and_eq_true] at hh
        rcases List.mem_cons.1 hk with rfl | hk
        · exact hh.1
        · exact iht hh.2 k hk
    exact .mk ⟨hl, (propsB_asc _ _ h4).2, .inr (by omega)⟩ (by rw [h3]; simp) (fun e => absurd e h) fun k hk => ih k hk (hl.ks k hk) (hks _ h5 k hk)
theorem treeB_va (t : TTree) (hl : Lm 1048576 t) (h : treeB t = true) : Va t ∧ depth t ≤ 24 ∧ nodes t ≤ 200 := by
  simp only [treeB, Bool.and_eq_true, decide_eq_true_eq] at h
  exact ⟨partB_va t hl h.2, h.1.1, h.1.2⟩
theorem rulesB_gv (rs : List TRule) (h : rulesB rs = true) : Gv rs := by
  simp only [rulesB, Bool.and_eq_true, decide_eq_true_eq, List.all_eq_true] at h
  intro x hx
  have := h.2 x hx
  simp only [ruleB, inB, Bool.and_eq_true, decide_eq_true_eq] at this
  exact ⟨by omega, by omega⟩
end Go.Fw.Law
namespace Go.Fw.Law
open Go Go.Fw

def screenB (t : TTree) (rs : List TRule) (w h : Int) : Bool := treeB t && rulesB rs && inB w 0 60 && inB h 0 30
theorem validScreen_ok (t : TTree) (ht : Lm 1048576 t) (rs : List TRule) (w h : Int) : spec_validScreen t rs w h = some (screenB t rs w h) := by
  refine spec_validScreen_of _ _ _ _ ?_
  simp only [validTree_ok t ht, validRules_ok, inRange_ok, Option.bind_some, screenB]
  cases treeB t <;> cases rulesB rs <;> cases inB w 0 60 <;> cases inB h 0 30 <;> simp
theorem paintOk_ok (t : TTree) (ht : Lm 1048576 t) (rs : List TRule) (hr : Rm rs) (w h : Int) : impl_paintOk t rs w h = some (screenB t rs w h) := by
  refine impl_paintOk_of _ _ _ _ ?_
  simp only [TreeOk_ok t ht, RulesOk_ok rs hr, within_ok, Option.bind_some, screenB]
  cases treeB t <;> cases rulesB rs <;> cases inB w 0 60 <;> cases inB h 0 30 <;> simp
end Go.Fw.Law
namespace Go.Fw.Law
open Go Go.Fw

/-- A box that lies not far. -/
def Bd (b : TBox) : Prop := (0 ≤ b.Left ∧ b.Left ≤ 1000000) ∧ (0 ≤ b.Top ∧ b.Top ≤ 1000000) ∧ (0 ≤ b.Wide ∧ b.Wide ≤ 1000000) ∧ 0 ≤ b.High ∧ b.High ≤ 1000000
def LayBd (rs : List TRule) (t : TTree) : Prop := ∀ (above : List Int) (mark left top room : Int), 0 ≤ mark → mark ≤ 60 → 0 ≤ room → room ≤ 60 → 0 ≤ left → left + 120 * nodes t ≤ 1000000 → 0 ≤ top → top + 120 * nodes t ≤ 1000000 →
  0 ≤ (lay rs t above mark left top room).1.High ∧ (lay rs t above mark left top room).1.High ≤ 120 * nodes t ∧ ∀ b ∈ (lay rs t above mark left top room).2, Bd b

theorem textB_range (n : Nat) (room : Int) (h : n ≤ 12) (h0 : 0 ≤ room) (h1 : room ≤ 60) : 0 ≤ (textB n room).1 ∧ (textB n room).1 ≤ 60 ∧ 0 ≤ (textB n room).2 ∧ (textB n room).2 ≤ 120 := by
  unfold textB
  split
  · simp
  · rename_i hc
    have hr : 1 ≤ room := by omega
    have hn : 1 ≤ n := by omega
    rw [w64_id (x := (n : Int) + room) (by omega) (by omega), w64_id (x := (n : Int) + room - 1) (by omega) (by omega)]
    have e1 : 0 ≤ ((n : Int) + room - 1).tdiv room := Int.tdiv_nonneg (by omega) (by omega)
    have e2 : ((n : Int) + room - 1).tdiv room ≤ (n : Int) + room - 1 := by
      rw [Int.tdiv_eq_ediv_of_nonneg (by omega)]
      exact Int.ediv_le_self _ (by omega)
    rw [w64_id (by omega) (by omega)]
    refine ⟨by simp only; omega, by simp only; omega, e1, ?_⟩
    simp only
    omega

theorem down_bd (rs : List TRule) : ∀ (ts : List TTree), (∀ k ∈ ts, LayBd rs k) → ∀ (above : List Int) (mark left top room high : Int), 0 ≤ mark → mark ≤ 60 → 0 ≤ room → room ≤ 60 → 0 ≤ left → left + 120 * nodesL ts ≤ 1000000 → 0 ≤ top → 0 ≤ high → top + high + 120 * nodesL ts ≤ 1000000 →
    0 ≤ (down rs ts above mark left top room high).1 ∧ (down rs ts above mark left top room high).1 ≤ high + 120 * nodesL ts ∧ ∀ b ∈ (down rs ts above mark left top room high).2, Bd b := by
  intro ts
  induction ts with
  | nil => intro _ above mark left top room high _ _ _ _ _ _ _ hh _; simp [down, nodesL]; exact hh
  | cons k ts ih =>
    intro hk above mark left top room high m0 m1 r0 r1 l0 l1 t0 h0 h1
    rw [nodesL] at l1 h1 ⊢
    have e1 : w64 (top + high) = top + high := w64_id (by omega) (by omega)
    obtain ⟨a1, a2, a3⟩ := hk k (by simp) above mark left (top + high) room m0 m1 r0 r1 l0 (by omega) (by omega) (by omega)
    simp only [down, e1]
    generalize lay rs k above mark left (top + high) room = B at a1 a2 a3 ⊢
    have e2 : w64 (high + B.1.High) = high + B.1.High := w64_id (by omega) (by omega)
    rw [e2]
    obtain ⟨b1, b2, b3⟩ := ih (fun k hk' => hk k (by simp [hk'])) above mark left top room (high + B.1.High) m0 m1 r0 r1 l0 (by omega) t0 (by omega) (by omega)
    refine ⟨b1, by omega, fun b hb => ?_⟩
    rcases List.mem_append.1 hb with hb | hb
    · exact a3 b hb
    · exact b3 b hb

theorem across_bd (rs : List TRule) : ∀ (ts : List TTree), (∀ k ∈ ts, LayBd rs k) → ∀ (above : List Int) (mark : Int) (sh : List Int) (left top high : Int), 0 ≤ mark → mark ≤ 60 → (∀ s ∈ sh, 0 ≤ s ∧ s ≤ 60) → 0 ≤ left → left + 120 * nodesL ts ≤ 1000000 → 0 ≤ top → top + 120 * nodesL ts ≤ 1000000 → 0 ≤ high →
    0 ≤ (across rs ts above mark sh left top high).1 ∧ (across rs ts above mark sh left top high).1 ≤ high + 120 * nodesL ts ∧ ∀ b ∈ (across rs ts above mark sh left top high).2, Bd b := by
  intro ts
  induction ts with
  | nil => intro _ above mark sh left top high _ _ _ _ _ _ _ hh; simp [across, nodesL]; exact hh
  | cons k ts ih =>
    intro hk above mark sh left top high m0 m1 hs l0 l1 t0 t1 h0
    have hn := nodes_eq k
    rw [nodesL] at l1 t1 ⊢
    have hs0 : 0 ≤ sh.headD 0 ∧ sh.headD 0 ≤ 60 := by
      cases sh with
      | nil => simp
      | cons s sh => exact hs s (by simp)
    obtain ⟨a1, a2, a3⟩ := hk k (by simp) above mark left top (sh.headD 0) m0 m1 hs0.1 hs0.2 l0 (by omega) t0 (by omega)
    simp only [across]
    generalize lay rs k above mark left top (sh.headD 0) = B at a1 a2 a3 ⊢
    have e2 : w64 (left + sh.headD 0) = left + sh.headD 0 := w64_id (by omega) (by omega)
    rw [e2]
    obtain ⟨b1, b2, b3⟩ := ih (fun k hk' => hk k (by simp [hk'])) above mark sh.tail (left + sh.headD 0) top (max high B.1.High) m0 m1 (fun s h => hs s (List.mem_of_mem_tail h)) (by omega) (by omega) t0 (by omega) (by omega)
    refine ⟨b1, by omega, fun b hb => ?_⟩
    rcases List.mem_append.1 hb with hb | hb
    · exact a3 b hb
    · exact b3 b hb

theorem lay_bd (rs : List TRule) (hg : Gv rs) : ∀ t, Va t → nodes t ≤ 1000 → LayBd rs t := by
  refine TTree.ind ?_
  intro t ih hv hn1 above mark left top room m0 m1 r0 r1 l0 l1 t0 t1
  have hn := nodes_eq t
  have ihk : ∀ k ∈ t.Kids, LayBd rs k := fun k hk => ih k hk (hv.ks k hk) (by have := nodes_kid t.Kids k hk; omega)
  by_cases h : t.Tag = -1
  · rw [lay_text rs t h]
    obtain ⟨a1, a2, a3, a4⟩ := textB_range t.Text.length room hv.tx r0 r1
    refine ⟨a3, by simp only; omega, fun b hb => ?_⟩
    simp only [List.mem_cons, List.not_mem_nil, or_false] at hb
    subst hb
    exact ⟨⟨l0, by simp only; omega⟩, ⟨t0, by simp only; omega⟩, ⟨a1, by simp only; omega⟩, a3, by simp only; omega⟩
  · rw [lay_elem rs t h]
    generalize ho : own rs t above mark = o
    have hor : ∀ i, 0 ≤ o.gd i ∧ o.gd i ≤ 60 := fun i => by rw [← ho]; exact own_range hg t above mark m0 m1 i
    obtain ⟨i1, i2, i3, i4⟩ := inner_range o hor room r0 r1
    have o2 := hor 2
    have o4 := hor 4
    have o1 := hor 1
    have eL : w64 (left + o.gd 2) = left + o.gd 2 := w64_id (by omega) (by omega)
    have eT : w64 (top + o.gd 2) = top + o.gd 2 := w64_id (by omega) (by omega)
    have hin : 0 ≤ (insideOf rs t.Kids (above ++ [t.Tag]) o left top room).1 ∧ (insideOf rs t.Kids (above ++ [t.Tag]) o left top room).1 ≤ 120 * nodesL t.Kids ∧ ∀ b ∈ (insideOf rs t.Kids (above ++ [t.Tag]) o left top room).2, Bd b := by
      unfold insideOf
      rw [eL, eT]
      split
      · obtain ⟨c1, c2, c3⟩ := down_bd rs t.Kids ihk (above ++ [t.Tag]) (o.gd 4) (left + o.gd 2) (top + o.gd 2) (innerOf o room) 0 o4.1 o4.2 i1 i2 (by omega) (by omega) (by omega) (by omega) (by omega)
        exact ⟨c1, by omega, c3⟩
      · have hkl : t.Kids.length ≤ 1000 := by
          have : ∀ ts : List TTree, ts.length ≤ nodesL ts := by
            intro ts
            induction ts with
            | nil => simp
            | cons a ts ih => have := nodes_eq a; rw [nodesL, List.length_cons]; omega
          have := this t.Kids
          omega
        have hsh := (shares_ok (wishOf rs t.Kids (above ++ [t.Tag]) (o.gd 4)) (innerOf o room) (wish_range hg t.Kids _ _ o4.1 o4.2) i1 i2 (by simp [wishOf]; omega)).2
        obtain ⟨c1, c2, c3⟩ := across_bd rs t.Kids ihk (above ++ [t.Tag]) (o.gd 4) _ (left + o.gd 2) (top + o.gd 2) 0 o4.1 o4.2 hsh (by omega) (by omega) (by omega) (by omega) (by omega)
        exact ⟨c1, by omega, c3⟩
    obtain ⟨c1, c2, c3⟩ := hin
    have hh : 0 ≤ highOf o (insideOf rs t.Kids (above ++ [t.Tag]) o left top room).1 ∧ highOf o (insideOf rs t.Kids (above ++ [t.Tag]) o left top room).1 ≤ 120 * nodes t := by
      unfold highOf
      split
      · rw [w64_id (x := 2 * o.gd 2) (by omega) (by omega), w64_id (by omega) (by omega)]; omega
      · omega
    refine ⟨hh.1, hh.2, fun b hb => ?_⟩
    rcases List.mem_cons.1 hb with rfl | hb
    · exact ⟨⟨l0, by simp only; omega⟩, ⟨t0, by simp only; omega⟩, ⟨i3, by simp only; omega⟩, hh.1, by simp only; omega⟩
    · exact c3 b hb
end Go.Fw.Law
namespace Go.Fw.Law
open Go Go.Fw

/-- What stands in a cell: a byte, and whose it is. -/
abbrev Pic := Int → Int → Int × Int
def inR (b : TBox) (x y : Int) : Prop := (b.Top ≤ y ∧ y < b.Top + b.High) ∧ b.Left ≤ x ∧ x < b.Left + b.Wide
instance (b : TBox) (x y : Int) : Decidable (inR b x y) := by unfold inR; infer_instance
def ov (p : Int × Int) (g : Option Int) (a : Int) : Int × Int := match g with | some b => (b, a) | none => p
def meetB (c b : TBox) : TBox := ⟨max c.Left b.Left, max c.Top b.Top, max 0 (min (c.Left + c.Wide) (b.Left + b.Wide) - max c.Left b.Left), max 0 (min (c.Top + c.High) (b.Top + b.High) - max c.Top b.Top)⟩
def byteAt (m : Int) : Int := ((([46, 58, 45, 61, 43, 42, 35, 37, 64] : Str).getD (m.tmod 9).toNat 0).toNat : Int)
def idx (box : TBox) (x y : Int) : Int := (y - box.Top) * box.Wide + x - box.Left
def val (t : TTree) (m : Int) (box : TBox) (x y : Int) : Option Int :=
  if t.Tag = -1 then (if idx box x y < t.Text.length then some ((t.Text.getD (idx box x y).toNat 0).toNat : Int) else none) else if m = 0 then none else some (byteAt m)
def oneF (t : TTree) (m : Int) (box see : TBox) (a : Int) (F : Pic) : Pic := fun x y => if inR see x y then ov (F x y) (val t m box x y) a else F x y
def upd (F : Pic) (x y : Int) (p : Int × Int) : Pic := fun x' y' => if x' = x ∧ y' = y then p else F x' y'

mutual
def pnt (rs : List TRule) (B : List TBox) : TTree → List Int → Int → TBox → Nat → Pic → Pic
  | ⟨tag, key, tx, ps, ks⟩, above, mark, clip, a, F =>
    pntL rs B ks (above ++ [tag]) ((own rs ⟨tag, key, tx, ps, ks⟩ above mark).gd 4) (meetB clip (B.getD a default)) (a + 1)
      (oneF ⟨tag, key, tx, ps, ks⟩ ((own rs ⟨tag, key, tx, ps, ks⟩ above mark).gd 4) (B.getD a default) (meetB clip (B.getD a default)) a F)
def pntL (rs : List TRule) (B : List TBox) : List TTree → List Int → Int → TBox → Nat → Pic → Pic
  | [], _, _, _, _, F => F
  | k :: ks, above, mark, clip, a, F => pntL rs B ks above mark clip (a + nodes k) (pnt rs B k above mark clip a F)
end
theorem pnt_eq (rs : List TRule) (B : List TBox) (t : TTree) (above : List Int) (mark : Int) (clip : TBox) (a : Nat) (F : Pic) : pnt rs B t above mark clip a F =
    pntL rs B t.Kids (above ++ [t.Tag]) ((own rs t above mark).gd 4) (meetB clip (B.getD a default)) (a + 1) (oneF t ((own rs t above mark).gd 4) (B.getD a default) (meetB clip (B.getD a default)) a F) := by cases t; rw [pnt]

/-- A box to which painting is held, on a screen. -/
def Ck (W H : Nat) (c : TBox) : Prop := Bd c ∧ (0 < c.Wide → c.Left + c.Wide ≤ W) ∧ (0 < c.High → c.Top + c.High ≤ H)
theorem meet_ck {W H : Nat} {c b : TBox} (hc : Ck W H c) (hb : Bd b) : Ck W H (meetB c b) := by
  obtain ⟨⟨c1, c2, c3, c4⟩, c5, c6⟩ := hc
  obtain ⟨b1, b2, b3, b4⟩ := hb
  refine ⟨⟨?_, ?_, ?_, ?_⟩, ?_, ?_⟩ <;> simp only [meetB] <;> omega
theorem meet_in {c b : TBox} {x y : Int} (h : inR (meetB c b) x y) : inR b x y := by
  simp only [inR, meetB] at h ⊢; omega

section
variable {S T : Type} {C : S → Pic → Prop}
theorem loopX {y L a : Int} {w : Nat} {G : Int → Option Int} {loop : Int → S → Option T} {next : S → Option T} (hend : ∀ s r, next s = some r → loop (L + w) s = some r)
    (hstep : ∀ k : Nat, k < w → ∀ s F, C s F → ∃ s', C s' (fun x' y' => if x' = L + k ∧ y' = y then ov (F x' y') (G x') a else F x' y') ∧ ∀ r, loop (L + k + 1) s' = some r → loop (L + k) s = some r) :
    ∀ k, k ≤ w → ∀ s F, C s F → ∃ s', C s' (fun x' y' => if y' = y ∧ L + k ≤ x' ∧ x' < L + w then ov (F x' y') (G x') a else F x' y') ∧ ∀ r, next s' = some r → loop (L + k) s = some r := by
  refine upto _ ?_ ?_
  · intro s F hF
    refine ⟨s, ?_, hend s⟩
    have : (fun x' y' => if y' = y ∧ L + w ≤ x' ∧ x' < L + w then ov (F x' y') (G x') a else F x' y') = F := by
      funext x' y'
      rw [if_neg (by omega)]
    rw [this]; exact hF
  · intro k hk ih s F hF
    obtain ⟨s1, h1, h2⟩ := hstep k hk s F hF
    obtain ⟨s2, h3, h4⟩ := ih s1 _ h1
    refine ⟨s2, ?_, fun r hr => h2 r ?_⟩
    · refine (congrArg (C s2) ?_).mp h3
      funext x' y'
      by_cases e : x' = L + k ∧ y' = y
      · rw [if_neg (by omega), if_pos e, if_pos (by omega)]
      · rw [if_neg e]
        by_cases e2 : y' = y ∧ L + ((k + 1 : Nat) : Int) ≤ x' ∧ x' < L + w
        · rw [if_pos e2, if_pos (by omega)]
        · rw [if_neg e2, if_neg (by omega)]
    · have := h4 r hr
      rwa [show L + ((k + 1 : Nat) : Int) = L + k + 1 by omega] at this

theorem loopY {Tp L a : Int} {h w : Nat} {G : Int → Int → Option Int} {loop : Int → S → Option T} {next : S → Option T} (hend : ∀ s r, next s = some r → loop (Tp + h) s = some r)
    (hstep : ∀ j : Nat, j < h → ∀ s F, C s F → ∃ s', C s' (fun x' y' => if y' = Tp + j ∧ L ≤ x' ∧ x' < L + w then ov (F x' y') (G x' y') a else F x' y') ∧ ∀ r, loop (Tp + j + 1) s' = some r → loop (Tp + j) s = some r) :
    ∀ j, j ≤ h → ∀ s F, C s F → ∃ s', C s' (fun x' y' => if (Tp + j ≤ y' ∧ y' < Tp + h) ∧ L ≤ x' ∧ x' < L + w then ov (F x' y') (G x' y') a else F x' y') ∧ ∀ r, next s' = some r → loop (Tp + j) s = some r := by
  refine upto _ ?_ ?_
  · intro s F hF
    refine ⟨s, ?_, hend s⟩
    have : (fun x' y' => if (Tp + h ≤ y' ∧ y' < Tp + h) ∧ L ≤ x' ∧ x' < L + w then ov (F x' y') (G x' y') a else F x' y') = F := by
      funext x' y'
      rw [if_neg (by omega)]
    rw [this]; exact hF
  · intro k hk ih s F hF
    obtain ⟨s1, h1, h2⟩ := hstep k hk s F hF
    obtain ⟨s2, h3, h4⟩ := ih s1 _ h1
    refine ⟨s2, ?_, fun r hr => h2 r ?_⟩
    · refine (congrArg (C s2) ?_).mp h3
      funext x' y'
      by_cases e : y' = Tp + k ∧ L ≤ x' ∧ x' < L + w
      · rw [if_neg (by omega), if_pos e, if_pos (by omega)]
      · rw [if_neg e]
        by_cases e2 : (Tp + ((k + 1 : Nat) : Int) ≤ y' ∧ y' < Tp + h) ∧ L ≤ x' ∧ x' < L + w
        · rw [if_pos e2, if_pos (by omega)]
        · rw [if_neg e2, if_neg (by omega)]
    · have := h4 r hr
      rwa [show Tp + ((k + 1 : Nat) : Int) = Tp + k + 1 by omega] at this
end

/-! ### The program's rows -/
def Cv (W H : Nat) (s : List (List Int) × List (List Int)) (F : Pic) : Prop := s.1.length = H ∧ s.2.length = H ∧
  ∀ y : Nat, y < H → ∃ r h, s.1[y]? = some r ∧ s.2[y]? = some h ∧ r.length = W ∧ h.length = W ∧ ∀ x : Nat, x < W → r[x]? = some (F x y).1 ∧ h[x]? = some (F x y).2

theorem rdx_q {α : Type} {xs : List α} {j : Nat} {a : α} (h : xs[j]? = some a) : rdx xs (j : Int) = some a := by simp [rdx, h]
theorem put_ok {W H : Nat} {s : List (List Int) × List (List Int)} {F : Pic} (hs : Cv W H s F) {x y : Int} (hx : 0 ≤ x ∧ x < W) (hy : 0 ≤ y ∧ y < H) (K : List (List Int)) (B : List TBox) (a b : Int) :
    ∃ s', Cv W H s' (upd F x y (b, a)) ∧ impl_canvas_put ⟨K, B, a, s.1, s.2⟩ x y b = some ⟨K, B, a, s'.1, s'.2⟩ := by
  obtain ⟨l1, l2, hc⟩ := hs
  obtain ⟨xn, rfl⟩ := Int.eq_ofNat_of_zero_le hx.1
  obtain ⟨yn, rfl⟩ := Int.eq_ofNat_of_zero_le hy.1
  have hxn : xn < W := by omega
  have hyn : yn < H := by omega
  obtain ⟨r, h, e1, e2, e3, e4, e5⟩ := hc yn hyn
  obtain ⟨e6, e7⟩ := e5 xn hxn
  refine ⟨(s.1.set yn (r.set xn b), s.2.set yn (h.set xn a)), ⟨by simp [l1], by simp [l2], fun y hy' => ?_⟩, ?_⟩
  · by_cases e : y = yn
    · subst e
      refine ⟨r.set xn b, h.set xn a, by simp [l1, hy'], by simp [l2, hy'], by simp [e3], by simp [e4], fun x hx' => ?_⟩
      by_cases e8 : x = xn
      · subst e8
        simp [upd, e3, e4, hx']
      · obtain ⟨f1, f2⟩ := e5 x hx'
        rw [List.getElem?_set_ne (Ne.symm e8), List.getElem?_set_ne (Ne.symm e8), f1, f2]
        simp only [upd]
        rw [if_neg (by omega)]
        exact ⟨rfl, rfl⟩
    · obtain ⟨r', h', f1, f2, f3, f4, f5⟩ := hc y hy'
      refine ⟨r', h', by rw [List.getElem?_set_ne (Ne.symm e), f1], by rw [List.getElem?_set_ne (Ne.symm e), f2], f3, f4, fun x hx' => ?_⟩
      simp only [upd]
      rw [if_neg (by omega)]
      exact f5 x hx'
  · refine impl_canvas_put_of _ _ _ _ ?_
    simp only [rdx_q e1, rdx_q e2, Option.bind_some]
    rw [rdx_q e6, rdx_q e7]
    simp

theorem idx_range {box see : TBox} (hb : Bd box) (hin : ∀ x y, inR see x y → inR box x y) {x y : Int} (h : inR see x y) : 0 ≤ (y - box.Top) * box.Wide ∧ (y - box.Top) * box.Wide ≤ 1000000000000 ∧ 0 ≤ idx box x y := by
  obtain ⟨⟨b1, b2⟩, ⟨b3, b4⟩, ⟨b5, b6⟩, b7, b8⟩ := hb
  have h2 := hin x y h
  simp only [inR] at h2
  have p1 : 0 ≤ (y - box.Top) * box.Wide := Int.mul_nonneg (by omega) (by omega)
  have p2 : (y - box.Top) * box.Wide ≤ 1000000 * 1000000 := Int.mul_le_mul (by omega) (by omega) (by omega) (by omega)
  refine ⟨p1, by omega, ?_⟩
  unfold idx
  omega

section
variable {W H : Nat} (hW : W ≤ 60) {box see : TBox} (hb : Bd box) (hc : Ck W H see) (hin : ∀ x y, inR see x y → inR box x y) (t : TTree) (K : List (List Int)) (B : List TBox) (a : Int)
include hW hb hc hin

theorem text_rows (ht : t.Tag = -1) (_hl : t.Text.length ≤ 12) (m : Int) {s : List (List Int) × List (List Int)} {F : Pic} (hs : Cv W H s F) :
    ∃ s', Cv W H s' (oneF t m box see a F) ∧ ∀ r, impl_canvas_paint_b3 ⟨K, B, a, s'.1, s'.2⟩ t see = some r → impl_canvas_paint_b1 see.Top ⟨K, B, a, s.1, s.2⟩ t box see = some r := by
  have hc' := hc
  obtain ⟨⟨⟨c1, c2⟩, ⟨c3, c4⟩, ⟨c5, c6⟩, c7, c8⟩, c9, c10⟩ := hc'
  have hb' := hb
  obtain ⟨⟨b1, b2⟩, ⟨b3, b4⟩, ⟨b5, b6⟩, b7, b8⟩ := hb'
  obtain ⟨w, hw⟩ := Int.eq_ofNat_of_zero_le c5
  obtain ⟨h, hh⟩ := Int.eq_ofNat_of_zero_le c7
  have eW : w64 (see.Left + see.Wide) = see.Left + w := by rw [w64_id (by omega) (by omega), hw]
  have eH : w64 (see.Top + see.High) = see.Top + h := by rw [w64_id (by omega) (by omega), hh]
  have key := loopY (C := Cv W H) (Tp := see.Top) (L := see.Left) (a := a) (h := h) (w := w) (G := val t m box) (loop := fun y s => impl_canvas_paint_b1 y ⟨K, B, a, s.1, s.2⟩ t box see)
    (next := fun s => impl_canvas_paint_b3 ⟨K, B, a, s.1, s.2⟩ t see) ?_ ?_ 0 (by omega) s F hs
  · obtain ⟨s', k1, k2⟩ := key
    refine ⟨s', ?_, fun r hr => by simpa using k2 r hr⟩
    refine (congrArg (Cv W H s') ?_).mp k1
    funext x y
    unfold oneF
    by_cases e : inR see x y
    · rw [if_pos e]; unfold inR at e; rw [if_pos (by omega)]
    · rw [if_neg e]; unfold inR at e; rw [if_neg (by omega)]
  · intro s r hr
    refine impl_canvas_paint_b1_of _ _ _ _ _ ?_
    rw [eH, decide_eq_false (by omega)]
    simpa using hr
  · intro j hj s F hF
    have key := loopX (C := Cv W H) (y := see.Top + j) (L := see.Left) (a := a) (w := w) (G := fun x => val t m box x (see.Top + j)) (loop := fun x s => impl_canvas_paint_b4 (see.Top + j) x ⟨K, B, a, s.1, s.2⟩ t box see)
      (next := fun s => impl_canvas_paint_b1 (see.Top + j + 1) ⟨K, B, a, s.1, s.2⟩ t box see) ?_ ?_ 0 (by omega) s F hF
    · obtain ⟨s', k1, k2⟩ := key
      refine ⟨s', ?_, fun r hr => ?_⟩
      · refine (congrArg (Cv W H s') ?_).mp k1
        funext x y
        by_cases e : y = see.Top + j ∧ see.Left ≤ x ∧ x < see.Left + w
        · rw [if_pos e, if_pos (by omega), e.1]
        · rw [if_neg e, if_neg (by omega)]
      · refine impl_canvas_paint_b1_of _ _ _ _ _ ?_
        rw [eH, decide_eq_true (by omega)]
        simpa using k2 r hr
    · intro s r hr
      refine impl_canvas_paint_b4_of _ _ _ _ _ _ ?_
      rw [eW, decide_eq_false (by omega), w64_id (x := see.Top + j + 1) (by omega) (by omega)]
      simpa using hr
    · intro k hk s F hF
      have hin' : inR see (see.Left + k) (see.Top + j) := by unfold inR; omega
      obtain ⟨i1, i2, i3⟩ := idx_range hb hin hin'
      have eI : w64 (w64 (w64 (w64 (see.Top + j - box.Top) * box.Wide) + (see.Left + k)) - box.Left) = idx box (see.Left + k) (see.Top + j) := by
        rw [w64_id (x := see.Top + j - box.Top) (by omega) (by omega), w64_id (x := (see.Top + j - box.Top) * box.Wide) (by omega) (by omega), w64_id (x := (see.Top + j - box.Top) * box.Wide + (see.Left + k)) (by omega) (by omega), w64_id (by omega) (by omega)]
        unfold idx; omega
      have eW' : decide (see.Left + k < w64 (see.Left + see.Wide)) = true := by rw [eW]; exact decide_eq_true (by omega)
      have e1 : w64 (see.Left + k + 1) = see.Left + k + 1 := w64_id (by omega) (by omega)
      by_cases hi : idx box (see.Left + k) (see.Top + j) < t.Text.length
      · obtain ⟨s', p1, p2⟩ := put_ok hF (x := see.Left + k) (y := see.Top + j) (by omega) (by omega) K B a ((t.Text.getD (idx box (see.Left + k) (see.Top + j)).toNat 0).toNat : Int)
        refine ⟨s', ?_, fun r hr => ?_⟩
        · refine (congrArg (Cv W H s') ?_).mp p1
          funext x y
          unfold upd
          by_cases e : x = see.Left + k ∧ y = see.Top + j
          · rw [if_pos e, if_pos e, e.1]
            simp only [val, ht, if_true, hi, ov]
          · rw [if_neg e, if_neg e]
        · refine impl_canvas_paint_b4_of _ _ _ _ _ _ ?_
          have hlt : (idx box (see.Left + k) (see.Top + j)).toNat < t.Text.length := by omega
          have hg : t.Text.getD (idx box (see.Left + k) (see.Top + j)).toNat 0 = t.Text[(idx box (see.Left + k) (see.Top + j)).toNat] := by
            rw [List.getD_eq_getElem?_getD, List.getElem?_eq_getElem hlt]; rfl
          rw [hg] at p2
          simp only [eW', if_true, eI, decide_eq_true hi, rdx_int i3 hlt, Option.bind_some, p2, e1]
          exact hr
      · refine ⟨s, ?_, fun r hr => ?_⟩
        · refine (congrArg (Cv W H s) ?_).mp hF
          funext x y
          by_cases e : x = see.Left + k ∧ y = see.Top + j
          · rw [if_pos e, e.1]
            simp only [val, ht, if_true, hi, if_false, ov]
          · rw [if_neg e]
        · refine impl_canvas_paint_b4_of _ _ _ _ _ _ ?_
          simp only [eW', if_true, eI, decide_eq_false hi, e1, Bool.false_eq_true, if_false]
          exact hr

omit hb hin in
theorem mark_rows (ht : ¬ t.Tag = -1) (m : Int) (hm : 0 < m) {s : List (List Int) × List (List Int)} {F : Pic} (hs : Cv W H s F) :
    ∃ s', Cv W H s' (oneF t m box see a F) ∧ ∀ r, impl_canvas_paint_b3 ⟨K, B, a, s'.1, s'.2⟩ t see = some r → impl_canvas_paint_b2 m see.Top ⟨K, B, a, s.1, s.2⟩ t see = some r := by
  have hc' := hc
  obtain ⟨⟨⟨c1, c2⟩, ⟨c3, c4⟩, ⟨c5, c6⟩, c7, c8⟩, c9, c10⟩ := hc'
  obtain ⟨w, hw⟩ := Int.eq_ofNat_of_zero_le c5
  obtain ⟨h, hh⟩ := Int.eq_ofNat_of_zero_le c7
  have eW : w64 (see.Left + see.Wide) = see.Left + w := by rw [w64_id (by omega) (by omega), hw]
  have eH : w64 (see.Top + see.High) = see.Top + h := by rw [w64_id (by omega) (by omega), hh]
  have key := loopY (C := Cv W H) (Tp := see.Top) (L := see.Left) (a := a) (h := h) (w := w) (G := val t m box) (loop := fun y s => impl_canvas_paint_b2 m y ⟨K, B, a, s.1, s.2⟩ t see)
    (next := fun s => impl_canvas_paint_b3 ⟨K, B, a, s.1, s.2⟩ t see) ?_ ?_ 0 (by omega) s F hs
  · obtain ⟨s', k1, k2⟩ := key
    refine ⟨s', ?_, fun r hr => by simpa using k2 r hr⟩
    refine (congrArg (Cv W H s') ?_).mp k1
    funext x y
    unfold oneF
    by_cases e : inR see x y
    · rw [if_pos e]; unfold inR at e; rw [if_pos (by omega)]
    · rw [if_neg e]; unfold inR at e; rw [if_neg (by omega)]
  · intro s r hr
    refine impl_canvas_paint_b2_of _ _ _ _ _ ?_
    rw [eH, decide_eq_false (by omega)]
    simpa using hr
  · intro j hj s F hF
    have key := loopX (C := Cv W H) (y := see.Top + j) (L := see.Left) (a := a) (w := w) (G := fun x => val t m box x (see.Top + j)) (loop := fun x s => impl_canvas_paint_b5 m (see.Top + j) x ⟨K, B, a, s.1, s.2⟩ t see)
      (next := fun s => impl_canvas_paint_b2 m (see.Top + j + 1) ⟨K, B, a, s.1, s.2⟩ t see) ?_ ?_ 0 (by omega) s F hF
    · obtain ⟨s', k1, k2⟩ := key
      refine ⟨s', ?_, fun r hr => ?_⟩
      · refine (congrArg (Cv W H s') ?_).mp k1
        funext x y
        by_cases e : y = see.Top + j ∧ see.Left ≤ x ∧ x < see.Left + w
        · rw [if_pos e, if_pos (by omega), e.1]
        · rw [if_neg e, if_neg (by omega)]
      · refine impl_canvas_paint_b2_of _ _ _ _ _ ?_
        rw [eH, decide_eq_true (by omega)]
        simpa using k2 r hr
    · intro s r hr
      refine impl_canvas_paint_b5_of _ _ _ _ _ _ ?_
      rw [eW, decide_eq_false (by omega), w64_id (x := see.Top + j + 1) (by omega) (by omega)]
      simpa using hr
    · intro k hk s F hF
      have eW' : decide (see.Left + k < w64 (see.Left + see.Wide)) = true := by rw [eW]; exact decide_eq_true (by omega)
      have e1 : w64 (see.Left + k + 1) = see.Left + k + 1 := w64_id (by omega) (by omega)
      obtain ⟨s', p1, p2⟩ := put_ok hF (x := see.Left + k) (y := see.Top + j) (by omega) (by omega) K B a (byteAt m)
      refine ⟨s', ?_, fun r hr => ?_⟩
      · refine (congrArg (Cv W H s') ?_).mp p1
        funext x y
        unfold upd
        by_cases e : x = see.Left + k ∧ y = see.Top + j
        · rw [if_pos e, if_pos e]
          simp only [val, ht, if_false, show ¬ m = 0 by omega, ov]
        · rw [if_neg e, if_neg e]
      · refine impl_canvas_paint_b5_of _ _ _ _ _ _ ?_
        have hm9 := Int.tmod_lt_of_pos m (show (0 : Int) < 9 by decide)
        have hm0 := Int.tmod_nonneg (9 : Int) (show 0 ≤ m by omega)
        have hlt : (m.tmod 9).toNat < ([46, 58, 45, 61, 43, 42, 35, 37, 64] : Str).length := by show _ < 9; omega
        have hg : byteAt m = ((([46, 58, 45, 61, 43, 42, 35, 37, 64] : Str)[(m.tmod 9).toNat]).toNat : Int) := by
          unfold byteAt
          rw [List.getD_eq_getElem?_getD, List.getElem?_eq_getElem hlt]; rfl
        rw [hg] at p2
        simp only [eW', if_true, rdx_int hm0 hlt, Option.bind_some, p2, e1]
        exact hr
end
end Go.Fw.Law
namespace Go.Fw.Law
open Go Go.Fw

theorem boxMeet_ok {b c : TBox} (hb : Bd b) (hc : Bd c) : impl_boxMeet b c = some (meetB c b) := by
  refine impl_boxMeet_of _ _ ?_
  obtain ⟨⟨b1, b2⟩, ⟨b3, b4⟩, ⟨b5, b6⟩, b7, b8⟩ := hb
  obtain ⟨⟨c1, c2⟩, ⟨c3, c4⟩, ⟨c5, c6⟩, c7, c8⟩ := hc
  rw [w64_id (x := b.Left + b.Wide) (by omega) (by omega), w64_id (x := c.Left + c.Wide) (by omega) (by omega), w64_id (x := b.Top + b.High) (by omega) (by omega), w64_id (x := c.Top + c.High) (by omega) (by omega),
    w64_id (x := min (b.Left + b.Wide) (c.Left + c.Wide) - max b.Left c.Left) (by omega) (by omega), w64_id (x := min (b.Top + b.High) (c.Top + c.High) - max b.Top c.Top) (by omega) (by omega)]
  simp only [meetB, Option.some.injEq, TBox.mk.injEq]
  omega

def PaintOk (W H : Nat) (rs : List TRule) (t : TTree) : Prop := ∀ (above : List Int) (mark : Int) (clip : TBox) (K : List (List Int)) (B : List TBox) (a : Nat) (s : List (List Int) × List (List Int)) (F : Pic), 0 ≤ mark → mark ≤ 60 → Ck W H clip → (∀ b ∈ B, Bd b) →
  a + nodes t ≤ B.length → B.length ≤ 1000 → Has K a (looksA rs t above mark) → Cv W H s F →
  ∃ s', Cv W H s' (pnt rs B t above mark clip a F) ∧ impl_canvas_paint ⟨K, B, a, s.1, s.2⟩ t clip = some ⟨K, B, ((a + nodes t : Nat) : Int), s'.1, s'.2⟩

theorem kids_ok {W H : Nat} (rs : List TRule) (ks : List TTree) (ih : ∀ k ∈ ks, PaintOk W H rs k) (ab : List Int) (m : Int) (h0 : 0 ≤ m) (h1 : m ≤ 60) (see : TBox) (hc : Ck W H see) (K : List (List Int)) (B : List TBox) (hB : ∀ b ∈ B, Bd b) (hl : B.length ≤ 1000) (hkl : ks.length ≤ 1000) :
    ∀ k, k ≤ ks.length → ∀ (a : Nat) (s : List (List Int) × List (List Int)) (F : Pic), a + nodesL (ks.drop k) ≤ B.length → Has K a (looksL rs (ks.drop k) ab m) → Cv W H s F →
      ∃ s', Cv W H s' (pntL rs B (ks.drop k) ab m see a F) ∧ impl_canvas_paint_b6 ks ks.length k ⟨K, B, a, s.1, s.2⟩ see = some ⟨K, B, ((a + nodesL (ks.drop k) : Nat) : Int), s'.1, s'.2⟩ := by
  refine upto _ ?_ ?_
  · intro a s F _ _ hF
    refine ⟨s, by simpa [pntL] using hF, impl_canvas_paint_b6_of _ _ _ _ _ (by simp [nodesL])⟩
  · intro k hk ihk a s F ha hK hF
    rw [drop_at hk, nodesL] at ha
    rw [drop_at hk, looksL] at hK
    obtain ⟨hK1, hK2⟩ := hK.app
    rw [looksA_len] at hK2
    obtain ⟨s1, p1, p2⟩ := ih ks[k] (List.getElem_mem hk) ab m see K B a s F h0 h1 hc hB (by omega) hl hK1 hF
    obtain ⟨s2, q1, q2⟩ := ihk (a + nodes ks[k]) s1 _ (by omega) hK2 p1
    refine ⟨s2, by rw [drop_at hk, pntL]; exact q1, impl_canvas_paint_b6_of _ _ _ _ _ ?_⟩
    simp only [dlt hk, if_true, rdx_nat hk, Option.bind_some, p2, w64s (show (k : Int) + 1 < 9223372036854775808 by omega), q2]
    rw [drop_at hk, nodesL, Nat.add_assoc]

theorem oneF_zero {t : TTree} (ht : ¬ t.Tag = -1) (box see : TBox) (a : Int) (F : Pic) : oneF t 0 box see a F = F := by
  funext x y
  simp only [oneF, val, ht, if_false, if_true, ov, ite_self]

theorem paint_ok {W H : Nat} (hW : W ≤ 60) (_hH : H ≤ 30) (rs : List TRule) (hg : Gv rs) : ∀ t, Va t → nodes t ≤ 1000 → PaintOk W H rs t := by
  refine TTree.ind ?_
  intro t ih hv hn1 above mark clip K B a s F m0 m1 hc hB ha hl hK hF
  have hn := nodes_eq t
  have ihk : ∀ k ∈ t.Kids, PaintOk W H rs k := fun k hk => ih k hk (hv.ks k hk) (by have := nodes_kid t.Kids k hk; omega)
  have hkl : t.Kids.length ≤ 1000 := by
    have : ∀ ts : List TTree, ts.length ≤ nodesL ts := by
      intro ts
      induction ts with
      | nil => simp
      | cons a ts ih => have := nodes_eq a; rw [nodesL, List.length_cons]; omega
    have := this t.Kids
    omega
  have ha' : a < B.length := by omega
  have hbx : B.getD a default = B[a] := by rw [List.getD_eq_getElem?_getD, List.getElem?_eq_getElem ha']; rfl
  have hb : Bd B[a] := hB _ (List.getElem_mem ha')
  have hsee := meet_ck hc hb
  have hin : ∀ x y, inR (meetB clip B[a]) x y → inR B[a] x y := fun x y h => meet_in h
  rw [looksA_eq] at hK
  obtain ⟨k1, k2⟩ := hK.head
  generalize ho : own rs t above mark = o at k1 k2
  have ho5 : o.length = 5 := by rw [← ho]; exact own_len _ _ _ _
  have o4 : 0 ≤ o.gd 4 ∧ o.gd 4 ≤ 60 := by rw [← ho]; exact own_range hg t above mark m0 m1 4
  have d4 := getD4 ho5 4 (by omega)
  rw [show ((4 : Nat) : Int) = 4 from rfl] at d4
  have fin : ∀ s1, Cv W H s1 (oneF t (o.gd 4) B[a] (meetB clip B[a]) a F) → ∃ s', Cv W H s' (pnt rs B t above mark clip a F) ∧ impl_canvas_paint_b3 ⟨K, B, a, s1.1, s1.2⟩ t (meetB clip B[a]) = some ⟨K, B, ((a + nodes t : Nat) : Int), s'.1, s'.2⟩ := by
    intro s1 hs1
    obtain ⟨s', q1, q2⟩ := kids_ok rs t.Kids ihk (above ++ [t.Tag]) (o.gd 4) o4.1 o4.2 (meetB clip B[a]) hsee K B hB hl hkl 0 (by omega) (a + 1) s1 _ (by rw [List.drop_zero]; omega) (by rw [List.drop_zero]; exact k2) hs1
    rw [List.drop_zero] at q1 q2
    refine ⟨s', by rw [pnt_eq, hbx, ho]; exact q1, impl_canvas_paint_b3_of _ _ _ ?_⟩
    simp only [w64s (show (a : Int) + 1 < 9223372036854775808 by omega)]
    rw [show ((0 : Nat) : Int) = 0 from rfl] at q2
    rw [q2, hn, Nat.add_assoc]
  by_cases h : t.Tag = -1
  · obtain ⟨s1, p1, p2⟩ := text_rows hW hb hsee hin t K B a h hv.tx (o.gd 4) hF
    obtain ⟨s', q1, q2⟩ := fin s1 p1
    refine ⟨s', q1, impl_canvas_paint_of _ _ _ ?_⟩
    simp only [rdx_nat ha', k1, boxMeet_ok hb hc.1, Option.bind_some, decide_eq_true h, if_true]
    exact p2 _ q2
  · by_cases h4 : o.gd 4 = 0
    · obtain ⟨s', q1, q2⟩ := fin s (by rw [h4, oneF_zero h]; exact hF)
      refine ⟨s', q1, impl_canvas_paint_of _ _ _ ?_⟩
      simp only [rdx_nat ha', k1, boxMeet_ok hb hc.1, Option.bind_some, decide_eq_false h, d4, h4, decide_true, Bool.not_true, Bool.false_eq_true, if_false]
      exact q2
    · obtain ⟨s1, p1, p2⟩ := mark_rows (box := B[a]) hW hsee t K B a h (o.gd 4) (by omega) hF
      obtain ⟨s', q1, q2⟩ := fin s1 p1
      refine ⟨s', q1, impl_canvas_paint_of _ _ _ ?_⟩
      simp only [rdx_nat ha', k1, boxMeet_ok hb hc.1, Option.bind_some, decide_eq_false h, d4, decide_eq_false h4, Bool.not_false, Bool.false_eq_true, if_false, if_true]
      exact p2 _ q2

/-! ### A new canvas -/
theorem row_ok {W : Nat} (hW : W ≤ 60) (x2 x3 x22 x23 : Int) (t : TTree) (y : TCanvas) (R : TCanvas) (hy : y.rows.length ≤ 1000 ∧ y.hits.length ≤ 1000) (hx : 0 ≤ x23 ∧ x23 ≤ 1000)
    (h : impl_newCanvas_b1 x2 x3 x22 (x23 + 1) t ⟨y.looks, y.boxes, y.at_, y.rows ++ [List.replicate W 32], y.hits ++ [List.replicate W (-1)]⟩ = some R) :
    ∀ k, k ≤ W → ∀ r q : List Int, r.length = W → q.length = W → r.take k = List.replicate k 32 → q.take k = List.replicate k (-1) → impl_newCanvas_b2 x2 x3 r q x22 x23 W k t y = some R := by
  refine upto _ ?_ ?_
  · intro r q hr hq e1 e2
    rw [List.take_of_length_le (by omega)] at e1 e2
    subst e1 e2
    refine impl_newCanvas_b2_of _ _ _ _ _ _ _ _ _ _ ?_
    rw [dge]
    simp only [Bool.false_eq_true, if_false]
    rw [if_pos (apN 24 _ _ (by omega) (by omega) (by simp)), if_pos (apN 24 _ _ (by omega) (by omega) (by simp)), w64_id (x := x23 + 1) (by omega) (by omega)]
    exact h
  · intro k hk ih r q hr hq e1 e2
    refine impl_newCanvas_b2_of _ _ _ _ _ _ _ _ _ _ ?_
    simp only [dlt hk, if_true, rdx_nat (show k < r.length by omega), rdx_nat (show k < q.length by omega), Option.bind_some, w64s (show (k : Int) + 1 < 9223372036854775808 by omega), Int.toNat_natCast]
    have tk : ∀ (l : List Int) (v : Int), k < l.length → l.take k = List.replicate k v → (l.set k v).take (k + 1) = List.replicate (k + 1) v := by
      intro l v hl e
      rw [take_set hl, e, List.replicate_succ']
    exact ih _ _ (by simp [hr]) (by simp [hq]) (tk r 32 (by omega) e1) (tk q (-1) (by omega) e2)

theorem rows_ok {W H : Nat} (hW : W ≤ 60) (hH : H ≤ 30) (x2 : Int) (hx : x2 = W) (x3 : Int) (t : TTree) (K : List (List Int)) (B : List TBox) (a : Int) (R : TCanvas)
    (h : (impl_canvas_paint ⟨K, B, a, List.replicate H (List.replicate W 32), List.replicate H (List.replicate W (-1))⟩ t ⟨0, 0, x2, x3⟩) = some R) :
    ∀ k, k ≤ H → impl_newCanvas_b1 x2 x3 H k t ⟨K, B, a, List.replicate k (List.replicate W 32), List.replicate k (List.replicate W (-1))⟩ = some R := by
  refine upto _ ?_ ?_
  · refine impl_newCanvas_b1_of _ _ _ _ _ _ ?_
    rw [dge]
    simp only [Bool.false_eq_true, if_false, h, Option.bind_some]
  · intro k hk ih
    refine impl_newCanvas_b1_of _ _ _ _ _ _ ?_
    subst hx
    rw [dlt hk, if_pos rfl, if_pos (by omega), if_pos (by omega)]
    simp only [Int.toNat_natCast, List.length_replicate]
    have := row_ok hW W x3 H k t ⟨K, B, a, List.replicate k (List.replicate W 32), List.replicate k (List.replicate W (-1))⟩ R (by simp; omega) (by omega)
      (by rw [show (k : Int) + 1 = ((k + 1 : Nat) : Int) by omega]; simpa only [List.replicate_succ'] using ih) 0 (by omega) (List.replicate W 0) (List.replicate W 0) (by simp) (by simp) (by simp) (by simp)
    simpa using this

def blank : Pic := fun _ _ => (32, -1)
/-- What stands on a screen. -/
def screen (rs : List TRule) (t : TTree) (W H : Nat) : Pic := pnt rs (lay rs t [] 0 0 0 W).2 t [] 0 ⟨0, 0, W, H⟩ 0 blank

theorem lay_all_bd (rs : List TRule) (hg : Gv rs) (t : TTree) (hv : Va t) (hn : nodes t ≤ 200) {W : Nat} (hW : W ≤ 60) : ∀ b ∈ (lay rs t [] 0 0 0 W).2, Bd b :=
  (lay_bd rs hg t hv (by omega) [] 0 0 0 W (by omega) (by omega) (by omega) (by omega) (by omega) (by omega) (by omega) (by omega)).2.2
theorem screen_ck (W H : Nat) (hW : W ≤ 60) (hH : H ≤ 30) : Ck W H ⟨0, 0, W, H⟩ := ⟨⟨by simp, by simp, by simp only; omega, by simp only; omega⟩, by simp, by simp⟩

theorem newCanvas_ok (rs : List TRule) (hm : Rm rs) (hg : Gv rs) (t : TTree) (hv : Va t) (hd : depth t ≤ 1000) (hn : nodes t ≤ 200) {W H : Nat} (hW : W ≤ 60) (hH : H ≤ 30) :
    ∃ s', Cv W H s' (screen rs t W H) ∧ impl_newCanvas t rs W H = some ⟨looksA rs t [] 0, (lay rs t [] 0 0 0 W).2, (nodes t : Int), s'.1, s'.2⟩ := by
  have e1 := looks_ok' rs hm t hv [] 0 (by simpa using hd) (by omega)
  have e2 := boxes_ok' rs hm hg t hv hd (by omega) W (by omega) (by omega)
  have hll := lay_len rs t [] 0 0 0 W hv
  have hblank : Cv W H (List.replicate H (List.replicate W 32), List.replicate H (List.replicate W (-1))) blank := by
    refine ⟨by simp, by simp, fun y hy => ⟨List.replicate W 32, List.replicate W (-1), by simp [hy], by simp [hy], by simp, by simp, fun x hx => ?_⟩⟩
    simp [hx, blank]
  obtain ⟨s', p1, p2⟩ := paint_ok hW hH rs hg t hv (by omega) [] 0 ⟨0, 0, W, H⟩ (looksA rs t [] 0) (lay rs t [] 0 0 0 W).2 0 _ blank (by omega) (by omega) (screen_ck W H hW hH) (lay_all_bd rs hg t hv hn hW)
    (by omega) (by omega) ⟨[], by simp⟩ hblank
  refine ⟨s', p1, impl_newCanvas_of _ _ _ _ ?_⟩
  have := rows_ok hW hH W rfl H t _ _ _ _ p2 0 (by omega)
  simp only [e1, e2, Option.bind_some]
  simpa using this
end Go.Fw.Law
