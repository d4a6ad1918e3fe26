/- Plain laws of boxes, part E: the program lays parts out so. Plain laws of boxes, part F: the reference lays parts out so. Plain laws of boxes, part G: the reference's boxes. Plain laws of marks, part H: what is marked: trees, rules and boxes. Plain laws, part N: a small tree has few marks. Plain laws of ways, part A: partners, by the program and by the reference. Plain laws of ways, part B: ways and numbers of parts, in plain words. Conditions: none. -/
import Derived.Test.YtjldolmokfnkoaaGreatDoorPmA
namespace Go.Fw.Law
open Go Go.Fw

theorem lay_len (rs : List TRule) : ∀ t, ∀ above mark left top room, Va t → (lay rs t above mark left top room).2.length = nodes t := by
  refine TTree.ind ?_
  intro t ih above mark left top room hv
  have hn := nodes_eq t
  by_cases h : t.Tag = -1
  · rw [lay_text rs t h, hn, hv.nk h]; simp [nodesL]
  · have hd : ∀ (ts : List TTree) (a : List Int) (m l t' r hh : Int), (∀ k ∈ ts, ∀ a m l t r, (lay rs k a m l t r).2.length = nodes k) → (down rs ts a m l t' r hh).2.length = nodesL ts := by
      intro ts
      induction ts with
      | nil => intros; simp [down, nodesL]
      | cons k ts ihl => intro a m l t' r hh hk; simp [down, nodesL, hk k (by simp), ihl _ _ _ _ _ _ (fun k hk' => hk k (by simp [hk']))]
    have ha : ∀ (ts : List TTree) (a : List Int) (m : Int) (sh : List Int) (l t' hh : Int), (∀ k ∈ ts, ∀ a m l t r, (lay rs k a m l t r).2.length = nodes k) → (across rs ts a m sh l t' hh).2.length = nodesL ts := by
      intro ts
      induction ts with
      | nil => intros; simp [across, nodesL]
      | cons k ts ihl => intro a m sh l t' hh hk; simp [across, nodesL, hk k (by simp), ihl _ _ _ _ _ _ (fun k hk' => hk k (by simp [hk']))]
    have hk : ∀ k ∈ t.Kids, ∀ a m l t r, (lay rs k a m l t r).2.length = nodes k := fun k hk a m l t r => ih k hk a m l t r (hv.ks k hk)
    rw [lay_elem rs t h, hn, List.length_cons, insideOf]
    split
    · rw [hd _ _ _ _ _ _ _ hk]; omega
    · rw [ha _ _ _ _ _ _ _ hk]; omega

/-- What a list holds from a place on. -/
def Has {α : Type} (K : List α) (i : Nat) (L : List α) : Prop := ∃ suf, K.drop i = L ++ suf
theorem Has.app {α : Type} {K A B : List α} {i : Nat} (h : Has K i (A ++ B)) : Has K i A ∧ Has K (i + A.length) B := by
  obtain ⟨suf, h⟩ := h
  refine ⟨⟨B ++ suf, by rw [h, List.append_assoc]⟩, suf, ?_⟩
  rw [← List.drop_drop, h, List.append_assoc, List.drop_left]
theorem Has.head {α : Type} {K L : List α} {x : α} {i : Nat} (h : Has K i (x :: L)) : rdx K (i : Int) = some x ∧ Has K (i + 1) L := by
  obtain ⟨suf, h⟩ := h
  have hl : i < K.length := Nat.lt_of_not_le fun hh => by rw [List.drop_eq_nil_of_le hh] at h; simp at h
  rw [drop_at hl] at h
  simp only [List.cons_append, List.cons.injEq] at h
  exact ⟨by rw [rdx_nat hl, h.1], suf, h.2⟩

theorem b5_ok (LK : List (List Int)) (a : Int) (out bs : List TBox) (o : List Int) (ho : o.length = 5) (h : Int) (Z y : TBox) :
    impl_boxer_lay_b5 o (out.length : Int) (o.gd 2) h (⟨LK, a, out ++ Z :: bs⟩ : TBoxer) Z y = some (⟨y.Left, y.Top, y.Wide, highOf o h⟩, ⟨LK, a, out ++ ⟨y.Left, y.Top, y.Wide, highOf o h⟩ :: bs⟩) := by
  refine impl_boxer_lay_b5_of _ _ _ _ _ _ _ ?_
  have h1 := getD4 ho 1 (by omega)
  rw [show ((1 : Nat) : Int) = 1 from rfl] at h1
  by_cases h0 : o.gd 1 = 0
  · simp [h1, h0, rdx_mid, highOf]
  · simp [h1, h0, rdx_mid, highOf]

/-- The program lays a part out. -/
def LayOk (rs : List TRule) (t : TTree) : Prop := ∀ (above : List Int) (mark left top room : Int) (LK : List (List Int)) (a : Nat) (out : List TBox), above.length + depth t ≤ 1000 → 0 ≤ mark → mark ≤ 60 → 0 ≤ room → room ≤ 60 →
  a + nodes t ≤ 2000 → out.length + nodes t ≤ 2000 → Has LK a (looksA rs t above mark) →
  impl_boxer_lay ⟨LK, a, out⟩ t left top room = some ((lay rs t above mark left top room).1, ⟨LK, ((a + nodes t : Nat) : Int), out ++ (lay rs t above mark left top room).2⟩)

theorem lay_down (rs : List TRule) (ks : List TTree) (hkl : ks.length ≤ 1048576) (hv : ∀ k ∈ ks, Va k) (ih : ∀ k ∈ ks, LayOk rs k) (ab : List Int) (o : List Int) (hd : ab.length + depthL ks ≤ 1000) (ho : ∀ i, 0 ≤ o.gd i ∧ o.gd i ≤ 60)
    (left top inner : Int) (hi0 : 0 ≤ inner) (hi : inner ≤ 60) (LK : List (List Int)) (n0 : Int) (Z y : TBox) (R : TBox × TBoxer) : ∀ k, k ≤ ks.length → ∀ (h : Int) (a : Nat) (out : List TBox), a + nodesL (ks.drop k) ≤ 2000 → out.length + nodesL (ks.drop k) ≤ 2000 → Has LK a (looksL rs (ks.drop k) ab (o.gd 4)) →
    impl_boxer_lay_b5 o n0 (o.gd 2) (down rs (ks.drop k) ab (o.gd 4) (w64 (left + o.gd 2)) (w64 (top + o.gd 2)) inner h).1 ⟨LK, ((a + nodesL (ks.drop k) : Nat) : Int), out ++ (down rs (ks.drop k) ab (o.gd 4) (w64 (left + o.gd 2)) (w64 (top + o.gd 2)) inner h).2⟩ Z y = some R →
    impl_boxer_lay_b3 left top o n0 (o.gd 2) inner h ks ks.length k ⟨LK, a, out⟩ Z y = some R := by
  refine upto _ ?_ ?_
  · intro h a out _ _ _ hR
    refine impl_boxer_lay_b3_of _ _ _ _ _ _ _ _ _ _ _ _ _ ?_
    simpa [down, nodesL] using hR
  · intro k hk ihk h a out ha hout hh hR
    refine impl_boxer_lay_b3_of _ _ _ _ _ _ _ _ _ _ _ _ _ ?_
    have hm := List.getElem_mem hk
    rw [drop_at hk, nodesL] at ha hout
    rw [drop_at hk, looksL] at hh
    rw [drop_at hk, down, nodesL] at hR
    obtain ⟨hh1, hh2⟩ := hh.app
    rw [looksA_len] at hh2
    have hdk := depth_kid ks _ hm
    have h1 := ih _ hm ab (o.gd 4) (w64 (left + o.gd 2)) (w64 (w64 (top + o.gd 2) + h)) inner LK a out (by omega) (ho 4).1 (ho 4).2 hi0 hi (by omega) (by omega) hh1
    have hl := lay_len rs ks[k] ab (o.gd 4) (w64 (left + o.gd 2)) (w64 (w64 (top + o.gd 2) + h)) inner (hv _ hm)
    simp only [dlt hk, if_true, rdx_nat hk, Option.bind_some, h1, w64s (show (k : Int) + 1 < 9223372036854775808 by omega)]
    refine ihk _ _ _ (by omega) (by rw [List.length_append]; omega) hh2 ?_
    rw [List.append_assoc, Nat.add_assoc]
    exact hR

theorem take_set {sh : List Int} {k : Nat} (hk : k < sh.length) (v : Int) : (sh.set k v).take (k + 1) = sh.take k ++ [v] := by
  rw [List.take_add_one, List.take_set, List.set_eq_of_length_le (by rw [List.length_take]; omega)]
  simp [hk]

/-- What is told of widths first. -/
theorem lay_fix (rs : List TRule) (ks : List TTree) (hkl : ks.length ≤ 1000) (hv : ∀ k ∈ ks, Va k) (hg : Gv rs) (ab : List Int) (o : List Int) (ho : ∀ i, 0 ≤ o.gd i ∧ o.gd i ≤ 60)
    (left top h : Int) (LK : List (List Int)) (n0 : Int) (Z y : TBox) (t : TTree) (ht : t.Kids = ks) (hn : nodesL ks ≤ 1000) (y0 : TBoxer) (hy : y0.looks = LK) (R : TBox × TBoxer) : ∀ k, k ≤ ks.length → ∀ (rest : Int) (sh : List Int) (m a : Nat), 0 ≤ rest → rest ≤ 60 → sh.length = ks.length → m + (ks.length - k) ≤ 1000 →
    a + nodesL (ks.drop k) ≤ 2000 → Has LK a (looksL rs (ks.drop k) ab (o.gd 4)) →
    impl_boxer_lay_b6 top o n0 (o.gd 2) h (restL (wishOf rs (ks.drop k) ab (o.gd 4)) rest) (sh.take k ++ fixL (wishOf rs (ks.drop k) ab (o.gd 4)) rest) (openL (wishOf rs (ks.drop k) ab (o.gd 4)) m) (w64 (left + o.gd 2)) ks ks.length 0 y0 Z y = some R →
    impl_boxer_lay_b4 left top o n0 (o.gd 2) h rest sh m a ks ks.length k y0 t Z y = some R := by
  refine upto _ ?_ ?_
  · intro rest sh m a h0 h1 hl _ _ _ hR
    refine impl_boxer_lay_b4_of _ _ _ _ _ _ _ _ _ _ _ _ _ _ _ _ _ ?_
    simp only [List.drop_length, wishOf, List.map_nil, restL, fixL, openL, List.append_nil] at hR
    rw [← hl, List.take_length] at hR
    rw [hl] at hR
    simpa [ht] using hR
  · intro k hk ihk rest sh m a h0 h1 hl hm ha hh hR
    refine impl_boxer_lay_b4_of _ _ _ _ _ _ _ _ _ _ _ _ _ _ _ _ _ ?_
    have hmem := List.getElem_mem hk
    rw [drop_at hk, nodesL] at ha
    rw [drop_at hk, looksL] at hh
    rw [drop_at hk] at hR
    simp only [wishOf, List.map_cons, restL, fixL, openL] at hR
    obtain ⟨hh1, hh2⟩ := hh.app
    rw [looksA_len] at hh2
    rw [looksA_eq] at hh1
    obtain ⟨g1, _⟩ := hh1.head
    have hks : k < sh.length := by omega
    have hw := own_range hg ks[k] ab (o.gd 4) (ho 4).1 (ho 4).2 0
    have h5 := getD4 (own_len rs ks[k] ab (o.gd 4)) 0 (by omega)
    rw [show ((0 : Nat) : Int) = 0 from rfl] at h5
    have htx : ks[k].Tag = -1 → (own rs ks[k] ab (o.gd 4)).gd 0 = 0 := fun e => by rw [own, if_pos e]; rfl
    have hc := treeCount_ok ks[k] (hv _ hmem) (by have := nodes_kid ks _ hmem; omega)
    have wa : w64 ((a : Int) + (nodes ks[k] : Int)) = ((a + nodes ks[k] : Nat) : Int) := by rw [w64_id (by omega) (by omega)]; omega
    generalize (own rs ks[k] ab (o.gd 4)).gd 0 = w at hw h5 htx hR
    simp only [dlt hk, if_true, rdx_nat hk, Option.bind_some, hy, g1, h5, hc, wa, w64s (show (k : Int) + 1 < 9223372036854775808 by omega), w64s (show (m : Int) + 1 < 9223372036854775808 by omega), rdx_nat hks, Int.toNat_natCast]
    have none0 : w = 0 → impl_boxer_lay_b4 left top o n0 (o.gd 2) h rest (sh.set k (-1)) ((m + 1 : Nat) : Int) ((a + nodes ks[k] : Nat) : Int) ks ks.length ((k + 1 : Nat) : Int) y0 t Z y = some R := by
      intro e
      rw [if_pos e, if_pos e, if_pos e, w64s (by omega)] at hR
      refine ihk rest _ (m + 1) _ h0 h1 (by simpa using hl) (by omega) (by omega) hh2 ?_
      rw [take_set hks, List.append_assoc]
      exact hR
    by_cases e1 : ks[k].Tag = -1
    · simpa [e1] using none0 (htx e1)
    · by_cases e2 : w = 0
      · simpa [e1, e2] using none0 e2
      · rw [if_neg e2, if_neg e2, if_neg e2] at hR
        have hmin : 0 ≤ min w rest ∧ min w rest ≤ rest := by omega
        have w1 : w64 (rest - min w rest) = rest - min w rest := w64_id (by omega) (by omega)
        have hset : rdx (sh.set k (min w rest)) (k : Int) = some (min w rest) := by rw [rdx_nat (by simpa using hks)]; simp
        simp only [e1, e2, decide_false, Bool.not_false, if_true, hset, Option.bind_some, w1]
        rw [w1] at hR
        refine ihk (rest - min w rest) _ m _ (by omega) (by omega) (by simpa using hl) (by omega) (by omega) hh2 ?_
        rw [take_set hks, List.append_assoc]
        exact hR

theorem lay_across (rs : List TRule) (ks : List TTree) (hkl : ks.length ≤ 1000) (hv : ∀ k ∈ ks, Va k) (ih : ∀ k ∈ ks, LayOk rs k) (ab : List Int) (o : List Int) (hd : ab.length + depthL ks ≤ 1000) (ho : ∀ i, 0 ≤ o.gd i ∧ o.gd i ≤ 60)
    (top : Int) (LK : List (List Int)) (n0 : Int) (Z y : TBox) (R : TBox × TBoxer) : ∀ k, k ≤ ks.length → ∀ (h rest left : Int) (sh : List Int) (a : Nat) (out : List TBox), 0 ≤ rest → rest ≤ 60 → sh.length = ks.length → (∀ s ∈ sh.drop k, s ≤ 60) →
    a + nodesL (ks.drop k) ≤ 2000 → out.length + nodesL (ks.drop k) ≤ 2000 → Has LK a (looksL rs (ks.drop k) ab (o.gd 4)) →
    impl_boxer_lay_b5 o n0 (o.gd 2) (across rs (ks.drop k) ab (o.gd 4) (fillL (sh.drop k) rest (negs (sh.drop k))) left (w64 (top + o.gd 2)) h).1
      ⟨LK, ((a + nodesL (ks.drop k) : Nat) : Int), out ++ (across rs (ks.drop k) ab (o.gd 4) (fillL (sh.drop k) rest (negs (sh.drop k))) left (w64 (top + o.gd 2)) h).2⟩ Z y = some R →
    impl_boxer_lay_b6 top o n0 (o.gd 2) h rest sh (negs (sh.drop k)) left ks ks.length k ⟨LK, a, out⟩ Z y = some R := by
  refine upto _ ?_ ?_
  · intro h rest left sh a out _ _ _ _ _ _ _ hR
    refine impl_boxer_lay_b6_of _ _ _ _ _ _ _ _ _ _ _ _ _ _ _ ?_
    simpa [across, nodesL] using hR
  · intro k hk ihk h rest left sh a out h0 h1 hl hs ha hout hh hR
    refine impl_boxer_lay_b6_of _ _ _ _ _ _ _ _ _ _ _ _ _ _ _ ?_
    have hmem := List.getElem_mem hk
    have hks : k < sh.length := by omega
    rw [drop_at hk, nodesL] at ha hout
    rw [drop_at hk, looksL] at hh
    rw [drop_at hk, across, nodesL] at hR
    rw [drop_at hks] at hs
    rw [drop_at hks] at hR ⊢
    obtain ⟨hh1, hh2⟩ := hh.app
    rw [looksA_len] at hh2
    have hdk := depth_kid ks _ hmem
    have nl : ∀ ss : List Int, negs ss ≤ ss.length := fun ss => by
      induction ss with
      | nil => simp [negs]
      | cons s ss ih => simp only [negs, List.length_cons]; split <;> omega
    have hnl := nl (sh.drop (k + 1))
    have hdl : (sh.drop (k + 1)).length = sh.length - (k + 1) := by simp
    -- one part in its share
    have one : ∀ (w rest2 : Int) (sh2 : List Int), 0 ≤ w → w ≤ 60 → 0 ≤ rest2 → rest2 ≤ 60 → sh2.length = sh.length → sh2.drop (k + 1) = sh.drop (k + 1) → rdx sh2 (k : Int) = some w → fillL (sh[k] :: sh.drop (k + 1)) rest (negs (sh[k] :: sh.drop (k + 1))) = w :: fillL (sh.drop (k + 1)) rest2 (negs (sh.drop (k + 1))) →
        impl_boxer_lay_b7 top o n0 (o.gd 2) h rest2 sh2 (negs (sh.drop (k + 1))) left k ks ks.length k ⟨LK, a, out⟩ Z y ks[k] = some R := by
      intro w rest2 sh2 w0 w1 r0 r1 hl2 hd2 hrd hfl
      refine impl_boxer_lay_b7_of _ _ _ _ _ _ _ _ _ _ _ _ _ _ _ _ _ ?_
      rw [hfl] at hR
      simp only [List.headD_cons, List.tail_cons] at hR
      have e1 := ih _ hmem ab (o.gd 4) left (w64 (top + o.gd 2)) w LK a out (by omega) (ho 4).1 (ho 4).2 w0 w1 (by omega) (by omega) hh1
      have hlen := lay_len rs ks[k] ab (o.gd 4) left (w64 (top + o.gd 2)) w (hv _ hmem)
      simp only [hrd, Option.bind_some, e1, w64s (show (k : Int) + 1 < 9223372036854775808 by omega)]
      rw [← hd2]
      refine ihk _ rest2 _ sh2 _ _ r0 r1 (by omega) (by rw [hd2]; exact fun s hs' => hs s (List.mem_cons_of_mem _ hs')) (by omega) (by rw [List.length_append]; omega) hh2 ?_
      rw [hd2, List.append_assoc, Nat.add_assoc]
      exact hR
    simp only [dlt hk, if_true, rdx_nat hk, Option.bind_some, rdx_nat hks, Int.toNat_natCast]
    by_cases e : sh[k] < 0
    · have hng : negs (sh[k] :: sh.drop (k + 1)) = negs (sh.drop (k + 1)) + 1 := by simp only [negs, if_pos e]; omega
      have hp := part_range (r := rest) (n := ((negs (sh.drop (k + 1)) + 1 : Nat) : Int)) h0 h1 (by omega) (by omega)
      have e2 : part rest ((negs (sh.drop (k + 1)) + 1 : Nat) : Int) = w64 ((w64 ((w64 (rest + ((negs (sh.drop (k + 1)) + 1 : Nat) : Int))) - 1)).tdiv ((negs (sh.drop (k + 1)) + 1 : Nat) : Int)) := rfl
      have wr : w64 (rest - part rest ((negs (sh.drop (k + 1)) + 1 : Nat) : Int)) = rest - part rest ((negs (sh.drop (k + 1)) + 1 : Nat) : Int) := w64_id (by omega) (by omega)
      have wn : w64 (((negs (sh.drop (k + 1)) + 1 : Nat) : Int) - 1) = (negs (sh.drop (k + 1)) : Int) := by rw [w64_id (by omega) (by omega)]; omega
      rw [hng, decide_eq_true e, if_pos rfl, if_pos (show ¬ ((negs (sh.drop (k + 1)) + 1 : Nat) : Int) = 0 by omega), ← e2]
      have hset : rdx (sh.set k (part rest ((negs (sh.drop (k + 1)) + 1 : Nat) : Int))) (k : Int) = some (part rest ((negs (sh.drop (k + 1)) + 1 : Nat) : Int)) := by rw [rdx_nat (by simpa using hks)]; simp
      simp only [hset, Option.bind_some, wr, wn]
      refine one _ _ _ hp.1 (by omega) (by omega) (by omega) (by simp) (by simp [List.drop_set]) hset ?_
      rw [hng]
      simp only [fillL, if_pos e, wr, wn]
    · have hng : negs (sh[k] :: sh.drop (k + 1)) = negs (sh.drop (k + 1)) := by simp only [negs, if_neg e]; omega
      rw [hng, decide_eq_false e]
      simp only [Bool.false_eq_true, if_false]
      refine one sh[k] rest sh (by omega) (hs _ List.mem_cons_self) h0 h1 rfl rfl (rdx_nat hks) ?_
      rw [hng]
      simp only [fillL, if_neg e]

theorem lay_impl (rs : List TRule) (hg : Gv rs) : ∀ t, Va t → nodes t ≤ 1000 → LayOk rs t := by
  refine TTree.ind ?_
  intro t ih hv hn1 above mark left top room LK a out hd hm0 hm1 hr0 hr1 ha hout hh
  have hn := nodes_eq t
  have hdp := depth_eq t
  have hkl := nodesL_len t.Kids
  rw [looksA_eq] at hh
  obtain ⟨g1, hh2⟩ := hh.head
  refine impl_boxer_lay_of _ _ _ _ _ ?_
  simp only [g1, Option.bind_some]
  rw [if_pos (apN 32 out [(⟨0, 0, 0, 0⟩ : TBox)] (by omega) (by omega) (by simp)), w64s (show (a : Int) + 1 < 9223372036854775808 by omega)]
  by_cases h : t.Tag = -1
  · rw [lay_text rs t h, decide_eq_true h]
    have hk0 : nodes t = 1 := by rw [hn, hv.nk h]; rfl
    have fin : ∀ b : TBox, impl_boxer_lay_b1 (out.length : Int) (⟨LK, ((a + 1 : Nat) : Int), out ++ [⟨0, 0, 0, 0⟩]⟩ : TBoxer) ⟨0, 0, 0, 0⟩ b = some (b, ⟨LK, ((a + nodes t : Nat) : Int), out ++ [b]⟩) := fun b =>
      impl_boxer_lay_b1_of _ _ _ _ (by rw [rdx_mid]; simp [hk0])
    simp only [if_true, fin]
    by_cases h1 : t.Text.length = 0
    · simp [h1, textB]
    · by_cases h2 : 0 < room
      · simp [h2, textB, h1, show ¬ room ≤ 0 by omega, show ¬ room = 0 by omega]
      · simp [h2, textB, show room ≤ 0 by omega]
  · rw [lay_elem rs t h, decide_eq_false h]
    simp only [Bool.false_eq_true, if_false]
    have ho5 := own_len rs t above mark
    have hor := own_range hg t above mark hm0 hm1
    generalize own rs t above mark = o at ho5 hor hh2 ⊢
    have d0 := getD4 ho5 0 (by omega)
    have d2 := getD4 ho5 2 (by omega)
    have d3 := getD4 ho5 3 (by omega)
    rw [show ((0 : Nat) : Int) = 0 from rfl] at d0
    rw [show ((2 : Nat) : Int) = 2 from rfl] at d2
    rw [show ((3 : Nat) : Int) = 3 from rfl] at d3
    obtain ⟨q1, q2, q3, q4⟩ := inner_range o hor room hr0 hr1
    have hvk : ∀ k ∈ t.Kids, Va k := fun k hk => hv.ks k hk
    have ihk : ∀ k ∈ t.Kids, LayOk rs k := fun k hk => ih k hk (hv.ks k hk) (by have := nodes_kid t.Kids k hk; omega)
    have key : impl_boxer_lay_b2 left top o (out.length : Int) (⟨LK, ((a + 1 : Nat) : Int), out ++ [⟨0, 0, 0, 0⟩]⟩ : TBoxer) t ⟨0, 0, 0, 0⟩ ⟨left, top, wideOf o room, 0⟩ = some
        (⟨left, top, wideOf o room, highOf o (insideOf rs t.Kids (above ++ [t.Tag]) o left top room).1⟩, ⟨LK, ((a + nodes t : Nat) : Int), out ++ ⟨left, top, wideOf o room, highOf o (insideOf rs t.Kids (above ++ [t.Tag]) o left top room).1⟩ :: (insideOf rs t.Kids (above ++ [t.Tag]) o left top room).2⟩) := by
      refine impl_boxer_lay_b2_of _ _ _ _ _ _ _ _ ?_
      have hat : a + nodes t = a + 1 + nodesL t.Kids := by omega
      simp only [d2, d3, Option.bind_some, insideOf]
      rw [show max (w64 (wideOf o room - w64 (2 * o.gd 2))) 0 = innerOf o room from rfl, hat]
      by_cases h3 : o.gd 3 = 0
      · rw [if_pos h3, decide_eq_true h3, if_pos rfl]
        have := lay_down rs t.Kids hv.lk.lm.kl hvk ihk (above ++ [t.Tag]) o (by simp; omega) hor left top (innerOf o room) q1 q2 LK out.length ⟨0, 0, 0, 0⟩ ⟨left, top, wideOf o room, 0⟩ _ 0 (by omega) 0 (a + 1) (out ++ [⟨0, 0, 0, 0⟩]) (by simpa using (by omega : a + 1 + nodesL t.Kids ≤ 2000)) (by simp; omega) (by simpa using hh2)
          (by rw [List.append_assoc, List.singleton_append]; exact b5_ok LK _ out _ o ho5 _ ⟨0, 0, 0, 0⟩ ⟨left, top, wideOf o room, 0⟩)
        simpa using this
      · rw [if_neg h3, decide_eq_false h3]
        simp only [Bool.false_eq_true, if_false]
        rw [if_pos (by omega)]
        have hwr := wish_range hg t.Kids (above ++ [t.Tag]) (o.gd 4) (hor 4).1 (hor 4).2
        have hwl : (wishOf rs t.Kids (above ++ [t.Tag]) (o.gd 4)).length = t.Kids.length := by simp [wishOf]
        obtain ⟨f1, f2, f3, f4⟩ := fix_ok _ (innerOf o room) hwr q1 q2
        have hop := open_ok _ (innerOf o room) 0 hwr q1 q2 (by omega)
        rw [Nat.zero_add, show ((0 : Nat) : Int) = 0 from rfl] at hop
        have hs60 : ∀ s ∈ fixL (wishOf rs t.Kids (above ++ [t.Tag]) (o.gd 4)) (innerOf o room), s ≤ 60 := by
          intro s hs
          obtain ⟨i, hi, rfl⟩ := List.getElem_of_mem hs
          obtain ⟨s, e1, e2, e3⟩ := f4 i (by omega)
          rw [List.getElem?_eq_getElem hi] at e1
          simp only [Option.some.injEq] at e1
          rw [e1]
          by_cases hw : (wishOf rs t.Kids (above ++ [t.Tag]) (o.gd 4))[i]'(by omega) = 0
          · rw [e2 hw]; omega
          · exact (e3 hw).2
        have h6 := lay_across rs t.Kids (by omega) hvk ihk (above ++ [t.Tag]) o (by simp; omega) hor top LK out.length ⟨0, 0, 0, 0⟩ ⟨left, top, wideOf o room, 0⟩ _ 0 (by omega) 0 (restL (wishOf rs t.Kids (above ++ [t.Tag]) (o.gd 4)) (innerOf o room)) (w64 (left + o.gd 2))
          (fixL (wishOf rs t.Kids (above ++ [t.Tag]) (o.gd 4)) (innerOf o room)) (a + 1) (out ++ [⟨0, 0, 0, 0⟩]) f2 f3 (by omega) (by simpa using hs60) (by simpa using (by omega : a + 1 + nodesL t.Kids ≤ 2000)) (by simp; omega) (by simpa using hh2)
          (by rw [List.append_assoc, List.singleton_append]; exact b5_ok LK _ out _ o ho5 _ ⟨0, 0, 0, 0⟩ ⟨left, top, wideOf o room, 0⟩)
        simp only [List.drop_zero] at h6
        rw [← hop, show ((0 : Nat) : Int) = 0 from rfl] at h6
        have h4 := lay_fix rs t.Kids (by omega) hvk hg (above ++ [t.Tag]) o hor left top 0 LK out.length ⟨0, 0, 0, 0⟩ ⟨left, top, wideOf o room, 0⟩ t rfl (by omega) (⟨LK, ((a + 1 : Nat) : Int), out ++ [⟨0, 0, 0, 0⟩]⟩ : TBoxer) rfl _ 0 (by omega) (innerOf o room)
          (List.replicate t.Kids.length 0) 0 (a + 1) q1 q2 (by simp) (by omega) (by simpa using (by omega : a + 1 + nodesL t.Kids ≤ 2000)) (by simpa using hh2) (by simpa using h6)
        simpa [shares] using h4
    by_cases h0 : o.gd 0 = 0
    · have hw : wideOf o room = room := if_pos h0
      simp only [d0, Option.bind_some, h0, decide_true, Bool.not_true, Bool.false_eq_true, if_false]
      rw [hw] at key ⊢
      exact key
    · have hw : wideOf o room = min (o.gd 0) room := if_neg h0
      simp only [d0, Option.bind_some, h0, decide_false, Bool.not_false, if_true]
      rw [hw] at key ⊢
      exact key

theorem boxes_ok' (rs : List TRule) (hm : Rm rs) (hg : Gv rs) (t : TTree) (hv : Va t) (hd : depth t ≤ 1000) (hn : nodes t ≤ 1000) (wide : Int) (h0 : 0 ≤ wide) (h1 : wide ≤ 60) :
    impl_boxes t rs wide = some (lay rs t [] 0 0 0 wide).2 := by
  refine impl_boxes_of _ _ _ ?_
  have e1 := looks_ok' rs hm t hv [] 0 (by simpa using hd) hn
  have e2 := lay_impl rs hg t hv hn [] 0 0 0 wide (looksA rs t [] 0) 0 [] (by simpa using hd) (by omega) (by omega) h0 h1 (by omega) (by simp; omega) ⟨[], by simp⟩
  rw [show ((0 : Nat) : Int) = 0 from rfl] at e2
  simp [e1, e2]
end Go.Fw.Law
namespace Go.Fw.Law
open Go Go.Fw

theorem five {o : List Int} (h : o.length = 5) : o = [o.gd 0, o.gd 1, o.gd 2, o.gd 3, o.gd 4] := by
  match o, h with
  | [a, b, c, d, e], _ => rfl
theorem looksOf_ok5 (rs : List TRule) (hm : Rm rs) (hg : Gv rs) (t : TTree) (ht : Lk t) (above : List Int) (ha : above.length ≤ 1048576) (inn : List Int) (hi : inn.length = 5) : spec_looksOf rs t above inn = some (own rs t above (inn.gd 4)) := by
  rw [five hi]
  exact looksOf_ok rs hm (fun x hx => (hg x hx).1) t ht above ha _ _ _ _ _

theorem textBox_ok (n : Nat) (room : Int) (_h : n ≤ 1000) (h0 : 0 ≤ room) (h1 : room ≤ 60) : spec_textBox (n : Int) room = some (textB n room) := by
  refine spec_textBox_of _ _ ?_
  by_cases h2 : room ≤ 0
  · simp [h2, textB]
  · by_cases h3 : n = 0
    · simp [h2, h3, textB]
    · simp [h2, h3, textB, show ¬ room = 0 by omega]

/-- The reference lays a part out. -/
def PartOk (f : TPlacer → TTree → List Int → List Int → Int → Int → Int → Option (TBox × TPlacer)) (rs : List TRule) (t : TTree) : Prop := ∀ (above inn : List Int) (left top room : Int) (out : List TBox), inn.length = 5 → above.length + depth t ≤ 1000 → 0 ≤ inn.gd 4 → inn.gd 4 ≤ 60 → 0 ≤ room → room ≤ 60 →
  out.length + nodes t ≤ 2000 → f ⟨rs, out⟩ t above inn left top room = some ((lay rs t above (inn.gd 4) left top room).1, ⟨rs, out ++ (lay rs t above (inn.gd 4) left top room).2⟩)

theorem down_ok (rs : List TRule) (ks : List TTree) (hkl : ks.length ≤ 1000) (hv : ∀ k ∈ ks, Va k) (ih : ∀ k ∈ ks, PartOk spec_placer_part_v rs k) (ab inn : List Int) (hi5 : inn.length = 5) (hd : ab.length + depthL ks ≤ 1000) (ho : 0 ≤ inn.gd 4 ∧ inn.gd 4 ≤ 60)
    (left top inner : Int) (hi0 : 0 ≤ inner) (hi : inner ≤ 60) : ∀ k, k ≤ ks.length → ∀ (h : Int) (out : List TBox), out.length + nodesL (ks.drop k) ≤ 2000 →
    spec_placer_down_b1 ks ab inn left top inner h k ⟨rs, out⟩ = some ((down rs (ks.drop k) ab (inn.gd 4) left top inner h).1, ⟨rs, out ++ (down rs (ks.drop k) ab (inn.gd 4) left top inner h).2⟩) := by
  refine upto _ ?_ ?_
  · intro h out _
    exact spec_placer_down_b1_of _ _ _ _ _ _ _ _ _ (by simp [down])
  · intro k hk ihk h out hout
    refine spec_placer_down_b1_of _ _ _ _ _ _ _ _ _ ?_
    have hm := List.getElem_mem hk
    rw [drop_at hk, nodesL] at hout
    have hdk := depth_kid ks _ hm
    have h1 := ih _ hm ab inn left (w64 (top + h)) inner out hi5 (by omega) ho.1 ho.2 hi0 hi (by omega)
    have hl := lay_len rs ks[k] ab (inn.gd 4) left (w64 (top + h)) inner (hv _ hm)
    simp only [dlt hk, if_true, rdx_nat hk, Option.bind_some, h1, w64s (show (k : Int) + 1 < 9223372036854775808 by omega)]
    rw [ihk _ _ (by rw [List.length_append]; omega), drop_at hk, down, List.append_assoc]

theorem wish2_ok (rs : List TRule) (hm : Rm rs) (hg : Gv rs) (ks : List TTree) (hkl : ks.length ≤ 1000) (hv : ∀ k ∈ ks, Va k) (ab inn : List Int) (hi5 : inn.length = 5) (hab : ab.length ≤ 1000) (out : List TBox) (F : List Int) (hF : F.length = ks.length)
    (hneg : ∀ i (h : i < ks.length), (F[i]'(by omega) < 0 ↔ (own rs ks[i] ab (inn.gd 4)).gd 0 = 0)) (_h60 : ∀ s ∈ F, s ≤ 60) : ∀ k, k ≤ ks.length → ∀ (X : List Int) (rest : Int), X.length = ks.length →
    (∀ i (h : i < ks.length), k ≤ i → (own rs ks[i] ab (inn.gd 4)).gd 0 ≠ 0 → X[i]? = F[i]?) → 0 ≤ rest → rest ≤ 60 →
    spec_placer_wishes_b2 ks ab inn X rest (negs (F.drop k)) k ⟨rs, out⟩ = some (X.take k ++ fillL (F.drop k) rest (negs (F.drop k)), ⟨rs, out⟩) := by
  refine upto _ ?_ ?_
  · intro X rest hX _ _ _
    refine spec_placer_wishes_b2_of _ _ _ _ _ _ _ _ ?_
    have hd : F.drop ks.length = [] := List.drop_eq_nil_of_le (by omega)
    rw [hd, ← hX, List.take_length, hX]
    simp [fillL]
  · intro k hk ihk X rest hX hag h0 h1
    refine spec_placer_wishes_b2_of _ _ _ _ _ _ _ _ ?_
    have hmem := List.getElem_mem hk
    have hkF : k < F.length := by omega
    have hkX : k < X.length := by omega
    have hl := looksOf_ok5 rs hm hg ks[k] (hv _ hmem).lk ab (by omega) inn hi5
    have h5 := getD4 (own_len rs ks[k] ab (inn.gd 4)) 0 (by omega)
    rw [show ((0 : Nat) : Int) = 0 from rfl] at h5
    have hng := hneg k hk
    have hagk := hag k hk (Nat.le_refl _)
    have nl : ∀ ss : List Int, negs ss ≤ ss.length := fun ss => by
      induction ss with
      | nil => simp [negs]
      | cons s ss ih => simp only [negs, List.length_cons]; split <;> omega
    have hnl := nl (F.drop (k + 1))
    have hdl : (F.drop (k + 1)).length = F.length - (k + 1) := by simp
    rw [drop_at hkF]
    simp only [dlt hk, if_true, rdx_nat hk, Option.bind_some, hl, h5, w64s (show (k : Int) + 1 < 9223372036854775808 by omega), rdx_nat hkX, Int.toNat_natCast]
    by_cases e : (own rs ks[k] ab (inn.gd 4)).gd 0 = 0
    · have hlt := hng.2 e
      have hn1 : negs (F[k] :: F.drop (k + 1)) = negs (F.drop (k + 1)) + 1 := by simp only [negs, if_pos hlt]; omega
      have hp := part_range (r := rest) (n := ((negs (F.drop (k + 1)) + 1 : Nat) : Int)) h0 h1 (by omega) (by omega)
      have e2 : part rest ((negs (F.drop (k + 1)) + 1 : Nat) : Int) = w64 ((w64 ((w64 (rest + ((negs (F.drop (k + 1)) + 1 : Nat) : Int))) - 1)).tdiv ((negs (F.drop (k + 1)) + 1 : Nat) : Int)) := rfl
      have wr : w64 (rest - part rest ((negs (F.drop (k + 1)) + 1 : Nat) : Int)) = rest - part rest ((negs (F.drop (k + 1)) + 1 : Nat) : Int) := w64_id (by omega) (by omega)
      have wn : w64 (((negs (F.drop (k + 1)) + 1 : Nat) : Int) - 1) = (negs (F.drop (k + 1)) : Int) := by rw [w64_id (by omega) (by omega)]; omega
      rw [hn1, decide_eq_true e, if_pos rfl, if_pos (show ¬ ((negs (F.drop (k + 1)) + 1 : Nat) : Int) = 0 by omega), ← e2]
      have hset : rdx (X.set k (part rest ((negs (F.drop (k + 1)) + 1 : Nat) : Int))) (k : Int) = some (part rest ((negs (F.drop (k + 1)) + 1 : Nat) : Int)) := by rw [rdx_nat (by simpa using hkX)]; simp
      simp only [hset, Option.bind_some, wr, wn]
      rw [ihk _ _ (by simpa using hX) (fun i hi hki hw => by rw [List.getElem?_set_ne (by omega)]; exact hag i hi (by omega) hw) (by omega) (by omega), take_set hkX, List.append_assoc]
      simp only [fillL, if_pos hlt, wr, wn, List.singleton_append]
    · have hlt : ¬ F[k] < 0 := fun h => e (hng.1 h)
      have hn1 : negs (F[k] :: F.drop (k + 1)) = negs (F.drop (k + 1)) := by simp only [negs, if_neg hlt]; omega
      have hxk : X[k] = F[k] := by
        have := hagk e
        rw [List.getElem?_eq_getElem hkX, List.getElem?_eq_getElem hkF] at this
        simpa using this
      rw [hn1, decide_eq_false e]
      simp only [Bool.false_eq_true, if_false]
      rw [ihk X rest hX (fun i hi hki hw => hag i hi (by omega) hw) h0 h1]
      simp only [fillL, if_neg hlt]
      rw [List.take_add_one, List.append_assoc]
      simp [hkX, hxk]

theorem wish1_ok (rs : List TRule) (hm : Rm rs) (hg : Gv rs) (ks : List TTree) (hkl : ks.length ≤ 1000) (hv : ∀ k ∈ ks, Va k) (ab inn : List Int) (hi5 : inn.length = 5) (hin : 0 ≤ inn.gd 4 ∧ inn.gd 4 ≤ 60) (hab : ab.length ≤ 1000) (out : List TBox) (F : List Int) (REST OPEN : Int) (R : List Int × TPlacer)
    (K : ∀ X : List Int, X.length = ks.length → (∀ i (h : i < ks.length), (own rs ks[i] ab (inn.gd 4)).gd 0 ≠ 0 → X[i]? = F[i]?) → spec_placer_wishes_b2 ks ab inn X REST OPEN 0 ⟨rs, out⟩ = some R) : ∀ k, k ≤ ks.length → ∀ (X : List Int) (rest : Int) (m : Nat), X.length = ks.length →
    (∀ i (h : i < ks.length), i < k → (own rs ks[i] ab (inn.gd 4)).gd 0 ≠ 0 → X[i]? = F[i]?) → F.drop k = fixL (wishOf rs (ks.drop k) ab (inn.gd 4)) rest → restL (wishOf rs (ks.drop k) ab (inn.gd 4)) rest = REST → openL (wishOf rs (ks.drop k) ab (inn.gd 4)) m = OPEN →
    0 ≤ rest → rest ≤ 60 → m + (ks.length - k) ≤ 1000 → spec_placer_wishes_b1 ks ab inn X rest m k ⟨rs, out⟩ = some R := by
  refine upto _ ?_ ?_
  · intro X rest m hX hag hf hr hop _ _ _
    refine spec_placer_wishes_b1_of _ _ _ _ _ _ _ _ ?_
    simp only [List.drop_length, wishOf, List.map_nil, restL, openL] at hr hop
    rw [dge]
    simp only [Bool.false_eq_true, if_false]
    rw [hr, hop]
    exact K X hX fun i h hw => hag i h h hw
  · intro k hk ihk X rest m hX hag hf hr hop h0 h1 hm1
    refine spec_placer_wishes_b1_of _ _ _ _ _ _ _ _ ?_
    have hmem := List.getElem_mem hk
    have hkX : k < X.length := by omega
    have hl := looksOf_ok5 rs hm hg ks[k] (hv _ hmem).lk ab (by omega) inn hi5
    have h5 := getD4 (own_len rs ks[k] ab (inn.gd 4)) 0 (by omega)
    rw [show ((0 : Nat) : Int) = 0 from rfl] at h5
    have hw := own_range hg ks[k] ab (inn.gd 4) hin.1 hin.2 0
    rw [drop_at hk] at hf hr hop
    simp only [wishOf, List.map_cons, fixL, restL, openL] at hf hr hop
    simp only [dlt hk, if_true, rdx_nat hk, Option.bind_some, hl, h5, w64s (show (k : Int) + 1 < 9223372036854775808 by omega), w64s (show (m : Int) + 1 < 9223372036854775808 by omega), rdx_nat hkX, Int.toNat_natCast]
    by_cases e : (own rs ks[k] ab (inn.gd 4)).gd 0 = 0
    · rw [if_pos e] at hf hr hop
      rw [w64s (by omega)] at hop
      rw [decide_eq_true e, if_pos rfl]
      have hf2 : F.drop (k + 1) = fixL (wishOf rs (ks.drop (k + 1)) ab (inn.gd 4)) rest := by rw [← List.drop_drop, hf]; rfl
      exact ihk X rest (m + 1) hX (fun i hi hik hne => hag i hi (by
        rcases Nat.lt_or_ge i k with h | h
        · exact h
        · have : i = k := by omega
          subst this
          exact absurd e hne) hne) hf2 hr hop h0 h1 (by omega)
    · rw [if_neg e] at hf hr hop
      have hmin : 0 ≤ min ((own rs ks[k] ab (inn.gd 4)).gd 0) rest ∧ min ((own rs ks[k] ab (inn.gd 4)).gd 0) rest ≤ rest := by omega
      have w1 : w64 (rest - min ((own rs ks[k] ab (inn.gd 4)).gd 0) rest) = rest - min ((own rs ks[k] ab (inn.gd 4)).gd 0) rest := w64_id (by omega) (by omega)
      have hset : rdx (X.set k (min ((own rs ks[k] ab (inn.gd 4)).gd 0) rest)) (k : Int) = some (min ((own rs ks[k] ab (inn.gd 4)).gd 0) rest) := by rw [rdx_nat (by simpa using hkX)]; simp
      have hf2 : F.drop (k + 1) = fixL (wishOf rs (ks.drop (k + 1)) ab (inn.gd 4)) (rest - min ((own rs ks[k] ab (inn.gd 4)).gd 0) rest) := by rw [← List.drop_drop, hf, w1]; rfl
      have hfk : F[k]? = some (min ((own rs ks[k] ab (inn.gd 4)).gd 0) rest) := by
        have := congrArg (·[0]?) hf
        simpa using this
      rw [w1] at hr
      rw [decide_eq_false e]
      simp only [Bool.false_eq_true, if_false, hset, Option.bind_some, w1]
      refine ihk _ _ m (by simpa using hX) (fun i hi hik hne => ?_) hf2 hr hop (by omega) (by omega) (by omega)
      by_cases hki : i = k
      · subst hki
        rw [hfk]
        simp [hkX]
      · rw [List.getElem?_set_ne (by omega)]
        exact hag i hi (by omega) hne

theorem wishes_ok (rs : List TRule) (hm : Rm rs) (hg : Gv rs) (ks : List TTree) (hkl : ks.length ≤ 1000) (hv : ∀ k ∈ ks, Va k) (ab inn : List Int) (hi5 : inn.length = 5) (hin : 0 ≤ inn.gd 4 ∧ inn.gd 4 ≤ 60) (hab : ab.length ≤ 1000) (out : List TBox) (inner : Int) (h0 : 0 ≤ inner) (h1 : inner ≤ 60) :
    spec_placer_wishes ⟨rs, out⟩ ks ab inn inner = some (shares (wishOf rs ks ab (inn.gd 4)) inner, ⟨rs, out⟩) := by
  have hwr := wish_range hg ks ab (inn.gd 4) hin.1 hin.2
  have hwl : (wishOf rs ks ab (inn.gd 4)).length = ks.length := by simp [wishOf]
  obtain ⟨f1, f2, f3, f4⟩ := fix_ok _ inner hwr h0 h1
  have hop := open_ok _ inner 0 hwr h0 h1 (by omega)
  rw [Nat.zero_add, show ((0 : Nat) : Int) = 0 from rfl] at hop
  have hwi : ∀ i (h : i < ks.length), (wishOf rs ks ab (inn.gd 4))[i]'(by omega) = (own rs ks[i] ab (inn.gd 4)).gd 0 := fun i h => by simp [wishOf]
  have hFi : ∀ i (h : i < ks.length), ((fixL (wishOf rs ks ab (inn.gd 4)) inner)[i]'(by omega) < 0 ↔ (own rs ks[i] ab (inn.gd 4)).gd 0 = 0) ∧ (fixL (wishOf rs ks ab (inn.gd 4)) inner)[i]'(by omega) ≤ 60 := fun i h => by
    obtain ⟨s, e1, e2, e3⟩ := f4 i (by omega)
    rw [List.getElem?_eq_getElem (by omega)] at e1
    simp only [Option.some.injEq] at e1
    rw [e1]
    rw [hwi i h] at e2 e3
    by_cases hw : (own rs ks[i] ab (inn.gd 4)).gd 0 = 0
    · have := e2 hw; exact ⟨⟨fun _ => hw, fun _ => by omega⟩, by omega⟩
    · have := e3 hw; exact ⟨⟨fun h => by omega, fun h => absurd h hw⟩, this.2⟩
  refine spec_placer_wishes_of _ _ _ _ _ ?_
  rw [if_pos (by omega)]
  refine wish1_ok rs hm hg ks hkl hv ab inn hi5 hin hab out (fixL (wishOf rs ks ab (inn.gd 4)) inner) _ _ _ (fun X hX hag => ?_) 0 (by omega) _ inner 0 (by simp) (fun i h hi => absurd hi (by omega)) rfl rfl rfl h0 h1 (by omega)
  have := wish2_ok rs hm hg ks hkl hv ab inn hi5 hab out (fixL (wishOf rs ks ab (inn.gd 4)) inner) (by omega) (fun i h => (hFi i h).1) (fun s hs => by
    obtain ⟨i, hi, rfl⟩ := List.getElem_of_mem hs
    exact (hFi i (by omega)).2) 0 (by omega) X (restL (wishOf rs ks ab (inn.gd 4)) inner) hX (fun i h _ hw => hag i h hw) f2 f3
  simp only [List.drop_zero, List.take_zero, List.nil_append] at this
  simp only [List.drop_zero]
  rw [show ((0 : Nat) : Int) = 0 from rfl] at this ⊢
  rw [hop]
  rw [this, shares, hop]

theorem across_ok (rs : List TRule) (ks : List TTree) (hkl : ks.length ≤ 1000) (hv : ∀ k ∈ ks, Va k) (ih : ∀ k ∈ ks, PartOk spec_placer_part_v rs k) (ab inn : List Int) (hi5 : inn.length = 5) (hd : ab.length + depthL ks ≤ 1000) (ho : 0 ≤ inn.gd 4 ∧ inn.gd 4 ≤ 60)
    (top : Int) (sh : List Int) (hl : sh.length = ks.length) (hs : ∀ s ∈ sh, 0 ≤ s ∧ s ≤ 60) : ∀ k, k ≤ ks.length → ∀ (h left : Int) (out : List TBox), out.length + nodesL (ks.drop k) ≤ 2000 →
    spec_placer_across_b1 ks ab inn left top sh h k ⟨rs, out⟩ = some ((across rs (ks.drop k) ab (inn.gd 4) (sh.drop k) left top h).1, ⟨rs, out ++ (across rs (ks.drop k) ab (inn.gd 4) (sh.drop k) left top h).2⟩) := by
  refine upto _ ?_ ?_
  · intro h left out _
    exact spec_placer_across_b1_of _ _ _ _ _ _ _ _ _ (by simp [across])
  · intro k hk ihk h left out hout
    refine spec_placer_across_b1_of _ _ _ _ _ _ _ _ _ ?_
    have hm := List.getElem_mem hk
    have hks : k < sh.length := by omega
    have hsk := hs _ (List.getElem_mem hks)
    rw [drop_at hk, nodesL] at hout
    have hdk := depth_kid ks _ hm
    have h1 := ih _ hm ab inn left top sh[k] out hi5 (by omega) ho.1 ho.2 hsk.1 hsk.2 (by omega)
    have hlen := lay_len rs ks[k] ab (inn.gd 4) left top sh[k] (hv _ hm)
    simp only [dlt hk, if_true, rdx_nat hk, rdx_nat hks, Option.bind_some, h1, w64s (show (k : Int) + 1 < 9223372036854775808 by omega)]
    rw [ihk _ _ _ (by rw [List.length_append]; omega), drop_at hk, drop_at hks, across, List.append_assoc]
    rfl
end Go.Fw.Law
namespace Go.Fw.Law
open Go Go.Fw

theorem word_len (s : Str) (h : wordB s = true) : s.length ≤ 12 := by
  simp only [wordB, Bool.and_eq_true, decide_eq_true_eq] at h
  exact h.1
theorem shown_len (s : Str) (h : shownB s = true) : s.length ≤ 12 := by
  unfold shownB at h
  split at h
  · obtain ⟨n, h1, h2, rfl⟩ := (negB_iff s).1 h
    have := decDigits_len 3 n (by omega)
    simp; omega
  · exact word_len s h
theorem b4_v_ok (rs : List TRule) (out bs : List TBox) (Z z y : TBox) : spec_placer_part_v_b4 (out.length : Int) (⟨rs, out ++ Z :: bs⟩ : TPlacer) z y = some (y, ⟨rs, out ++ y :: bs⟩) :=
  spec_placer_part_v_b4_of _ _ _ _ (by rw [rdx_mid]; simp)
theorem b2_v_ok (rs : List TRule) (out bs : List TBox) (o : List Int) (ho : o.length = 5) (hor : ∀ i, 0 ≤ o.gd i ∧ o.gd i ≤ 60) (h : Int) (Z z y : TBox) :
    spec_placer_part_v_b2 o (out.length : Int) (o.gd 2) h (⟨rs, out ++ Z :: bs⟩ : TPlacer) z y = some (⟨y.Left, y.Top, y.Wide, highOf o h⟩, ⟨rs, out ++ ⟨y.Left, y.Top, y.Wide, highOf o h⟩ :: bs⟩) := by
  refine spec_placer_part_v_b2_of _ _ _ _ _ _ _ ?_
  have h1 := getD4 ho 1 (by omega)
  rw [show ((1 : Nat) : Int) = 1 from rfl] at h1
  have hr := hor 1
  by_cases h0 : o.gd 1 = 0
  · simp [h1, h0, b4_v_ok, highOf]
  · simp [h1, h0, b4_v_ok, highOf, show 0 < o.gd 1 by omega]
theorem part_v_step (rs : List TRule) (hm : Rm rs) (hg : Gv rs) (t : TTree) (hv : Va t) (hn1 : nodes t ≤ 1000) (ihk : ∀ k ∈ t.Kids, PartOk spec_placer_part_v rs k) : PartOk spec_placer_part_v rs t := by
  intro above inn left top room out hi5 hd hm0 hm1 hr0 hr1 hout
  have hn := nodes_eq t
  have hdp := depth_eq t
  have hkl := nodesL_len t.Kids
  refine spec_placer_part_v_of _ _ _ _ _ _ _ ?_
  simp only [looksOf_ok5 rs hm hg t hv.lk above (by omega) inn hi5, Option.bind_some]
  rw [if_pos (apN 32 out [(⟨left, top, 0, 0⟩ : TBox)] (by omega) (by omega) (by simp))]
  by_cases h : t.Tag = -1
  · rw [lay_text rs t h, h]
    simp only [textBox_ok _ _ (show t.Text.length ≤ 1000 by have := hv.tx; omega) hr0 hr1, Option.bind_some, rdx_mid]
    simp
  · have h2 : 0 ≤ t.Tag := hv.lk.tag.resolve_left h
    rw [lay_elem rs t h, decide_eq_false (show ¬ t.Tag < 0 by omega)]
    simp only [Bool.false_eq_true, if_false]
    have ho5 := own_len rs t above (inn.gd 4)
    have hor := own_range hg t above (inn.gd 4) hm0 hm1
    generalize own rs t above (inn.gd 4) = o at ho5 hor ⊢
    have d0 := getD4 ho5 0 (by omega)
    have d2 := getD4 ho5 2 (by omega)
    have d3 := getD4 ho5 3 (by omega)
    rw [show ((0 : Nat) : Int) = 0 from rfl] at d0
    rw [show ((2 : Nat) : Int) = 2 from rfl] at d2
    rw [show ((3 : Nat) : Int) = 3 from rfl] at d3
    obtain ⟨q1, q2, q3, q4⟩ := inner_range o hor room hr0 hr1
    have hvk : ∀ k ∈ t.Kids, Va k := fun k hk => hv.ks k hk
    have o0 := hor 0
    have o3 := hor 3
    have key : spec_placer_part_v_b1 above left top o (out.length : Int) (⟨rs, out ++ [⟨left, top, 0, 0⟩]⟩ : TPlacer) t ⟨0, 0, 0, 0⟩ ⟨left, top, wideOf o room, 0⟩ = some
        (⟨left, top, wideOf o room, highOf o (insideOf rs t.Kids (above ++ [t.Tag]) o left top room).1⟩, ⟨rs, out ++ ⟨left, top, wideOf o room, highOf o (insideOf rs t.Kids (above ++ [t.Tag]) o left top room).1⟩ :: (insideOf rs t.Kids (above ++ [t.Tag]) o left top room).2⟩) := by
      refine spec_placer_part_v_b1_of _ _ _ _ _ _ _ _ _ ?_
      simp only [d2, d3, Option.bind_some]
      rw [if_pos (apN 8 ([] : List Int) above (by omega) (by simp) (by omega)), if_pos (apN 8 above [t.Tag] (by omega) (by omega) (by simp))]
      rw [show max 0 (w64 (wideOf o room - w64 (2 * o.gd 2))) = innerOf o room by rw [innerOf]; omega]
      by_cases h3 : o.gd 3 = 0
      · rw [decide_eq_false (show ¬ 0 < o.gd 3 by omega)]
        simp only [Bool.false_eq_true, if_false]
        refine spec_placer_part_v_b3_of _ _ _ _ _ _ _ _ _ _ _ ?_
        have e1 := down_ok rs t.Kids (by omega) hvk ihk (above ++ [t.Tag]) o ho5 (by simp; omega) (hor 4) (w64 (left + o.gd 2)) (w64 (top + o.gd 2)) (innerOf o room) q1 q2 0 (by omega) 0 (out ++ [⟨left, top, 0, 0⟩]) (by simp; omega)
        have e2 : spec_placer_down (⟨rs, out ++ [⟨left, top, 0, 0⟩]⟩ : TPlacer) t.Kids (above ++ [t.Tag]) o (w64 (left + o.gd 2)) (w64 (top + o.gd 2)) (innerOf o room) = some _ := spec_placer_down_of _ _ _ _ _ _ _ e1
        simp only [e2, Option.bind_some, List.drop_zero, List.append_assoc, List.singleton_append]
        rw [b2_v_ok rs out _ o ho5 hor, insideOf, if_pos h3]
      · rw [decide_eq_true (show 0 < o.gd 3 by omega)]
        simp only [if_true]
        have hwl : (wishOf rs t.Kids (above ++ [t.Tag]) (o.gd 4)).length = t.Kids.length := by simp [wishOf]
        obtain ⟨s1, s2⟩ := shares_ok _ (innerOf o room) (wish_range hg t.Kids (above ++ [t.Tag]) (o.gd 4) (hor 4).1 (hor 4).2) q1 q2 (by omega)
        have e0 := wishes_ok rs hm hg t.Kids (by omega) hvk (above ++ [t.Tag]) o ho5 (hor 4) (by simp; omega) (out ++ [⟨left, top, 0, 0⟩]) (innerOf o room) q1 q2
        have e1 := across_ok rs t.Kids (by omega) hvk ihk (above ++ [t.Tag]) o ho5 (by simp; omega) (hor 4) (w64 (top + o.gd 2)) _ (by rw [s1, hwl]) s2 0 (by omega) 0 (w64 (left + o.gd 2)) (out ++ [⟨left, top, 0, 0⟩]) (by simp; omega)
        have e2 : spec_placer_across (⟨rs, out ++ [⟨left, top, 0, 0⟩]⟩ : TPlacer) t.Kids (above ++ [t.Tag]) o (w64 (left + o.gd 2)) (w64 (top + o.gd 2)) (innerOf o room) = some _ := spec_placer_across_of _ _ _ _ _ _ _ (by rw [e0]; exact e1)
        simp only [e2, Option.bind_some, List.drop_zero, List.append_assoc, List.singleton_append]
        rw [b2_v_ok rs out _ o ho5 hor, insideOf, if_neg h3]
    by_cases h0 : o.gd 0 = 0
    · have hw : wideOf o room = room := if_pos h0
      simp only [d0, Option.bind_some, decide_eq_false (show ¬ 0 < o.gd 0 by omega), Bool.false_eq_true, if_false]
      rw [hw] at key ⊢
      exact key
    · have hw : wideOf o room = min room (o.gd 0) := by rw [wideOf, if_neg h0]; omega
      simp only [d0, Option.bind_some, decide_eq_true (show 0 < o.gd 0 by omega), if_true]
      rw [hw] at key ⊢
      exact key
theorem b4_ok (rs : List TRule) (out bs : List TBox) (Z z y : TBox) : spec_placer_part_b4 (out.length : Int) (⟨rs, out ++ Z :: bs⟩ : TPlacer) z y = some (y, ⟨rs, out ++ y :: bs⟩) :=
  spec_placer_part_b4_of _ _ _ _ (by rw [rdx_mid]; simp)
theorem b2_ok (rs : List TRule) (out bs : List TBox) (o : List Int) (ho : o.length = 5) (hor : ∀ i, 0 ≤ o.gd i ∧ o.gd i ≤ 60) (h : Int) (Z z y : TBox) :
    spec_placer_part_b2 o (out.length : Int) (o.gd 2) h (⟨rs, out ++ Z :: bs⟩ : TPlacer) z y = some (⟨y.Left, y.Top, y.Wide, highOf o h⟩, ⟨rs, out ++ ⟨y.Left, y.Top, y.Wide, highOf o h⟩ :: bs⟩) := by
  refine spec_placer_part_b2_of _ _ _ _ _ _ _ ?_
  have h1 := getD4 ho 1 (by omega)
  rw [show ((1 : Nat) : Int) = 1 from rfl] at h1
  have hr := hor 1
  by_cases h0 : o.gd 1 = 0
  · simp [h1, h0, b4_ok, highOf]
  · simp [h1, h0, b4_ok, highOf, show 0 < o.gd 1 by omega]
theorem part_step (rs : List TRule) (hm : Rm rs) (hg : Gv rs) (t : TTree) (hv : Va t) (hn1 : nodes t ≤ 1000) (ihk : ∀ k ∈ t.Kids, PartOk spec_placer_part_v rs k) : PartOk spec_placer_part rs t := by
  intro above inn left top room out hi5 hd hm0 hm1 hr0 hr1 hout
  have hn := nodes_eq t
  have hdp := depth_eq t
  have hkl := nodesL_len t.Kids
  refine spec_placer_part_of _ _ _ _ _ _ _ ?_
  simp only [looksOf_ok5 rs hm hg t hv.lk above (by omega) inn hi5, Option.bind_some]
  rw [if_pos (apN 32 out [(⟨left, top, 0, 0⟩ : TBox)] (by omega) (by omega) (by simp))]
  by_cases h : t.Tag = -1
  · rw [lay_text rs t h, h]
    simp only [textBox_ok _ _ (show t.Text.length ≤ 1000 by have := hv.tx; omega) hr0 hr1, Option.bind_some, rdx_mid]
    simp
  · have h2 : 0 ≤ t.Tag := hv.lk.tag.resolve_left h
    rw [lay_elem rs t h, decide_eq_false (show ¬ t.Tag < 0 by omega)]
    simp only [Bool.false_eq_true, if_false]
    have ho5 := own_len rs t above (inn.gd 4)
    have hor := own_range hg t above (inn.gd 4) hm0 hm1
    generalize own rs t above (inn.gd 4) = o at ho5 hor ⊢
    have d0 := getD4 ho5 0 (by omega)
    have d2 := getD4 ho5 2 (by omega)
    have d3 := getD4 ho5 3 (by omega)
    rw [show ((0 : Nat) : Int) = 0 from rfl] at d0
    rw [show ((2 : Nat) : Int) = 2 from rfl] at d2
    rw [show ((3 : Nat) : Int) = 3 from rfl] at d3
    obtain ⟨q1, q2, q3, q4⟩ := inner_range o hor room hr0 hr1
    have hvk : ∀ k ∈ t.Kids, Va k := fun k hk => hv.ks k hk
    have o0 := hor 0
    have o3 := hor 3
    have key : spec_placer_part_b1 above left top o (out.length : Int) (⟨rs, out ++ [⟨left, top, 0, 0⟩]⟩ : TPlacer) t ⟨0, 0, 0, 0⟩ ⟨left, top, wideOf o room, 0⟩ = some
        (⟨left, top, wideOf o room, highOf o (insideOf rs t.Kids (above ++ [t.Tag]) o left top room).1⟩, ⟨rs, out ++ ⟨left, top, wideOf o room, highOf o (insideOf rs t.Kids (above ++ [t.Tag]) o left top room).1⟩ :: (insideOf rs t.Kids (above ++ [t.Tag]) o left top room).2⟩) := by
      refine spec_placer_part_b1_of _ _ _ _ _ _ _ _ _ ?_
      simp only [d2, d3, Option.bind_some]
      rw [if_pos (apN 8 ([] : List Int) above (by omega) (by simp) (by omega)), if_pos (apN 8 above [t.Tag] (by omega) (by omega) (by simp))]
      rw [show max 0 (w64 (wideOf o room - w64 (2 * o.gd 2))) = innerOf o room by rw [innerOf]; omega]
      by_cases h3 : o.gd 3 = 0
      · rw [decide_eq_false (show ¬ 0 < o.gd 3 by omega)]
        simp only [Bool.false_eq_true, if_false]
        refine spec_placer_part_b3_of _ _ _ _ _ _ _ _ _ _ _ ?_
        have e1 := down_ok rs t.Kids (by omega) hvk ihk (above ++ [t.Tag]) o ho5 (by simp; omega) (hor 4) (w64 (left + o.gd 2)) (w64 (top + o.gd 2)) (innerOf o room) q1 q2 0 (by omega) 0 (out ++ [⟨left, top, 0, 0⟩]) (by simp; omega)
        have e2 : spec_placer_down (⟨rs, out ++ [⟨left, top, 0, 0⟩]⟩ : TPlacer) t.Kids (above ++ [t.Tag]) o (w64 (left + o.gd 2)) (w64 (top + o.gd 2)) (innerOf o room) = some _ := spec_placer_down_of _ _ _ _ _ _ _ e1
        simp only [e2, Option.bind_some, List.drop_zero, List.append_assoc, List.singleton_append]
        rw [b2_ok rs out _ o ho5 hor, insideOf, if_pos h3]
      · rw [decide_eq_true (show 0 < o.gd 3 by omega)]
        simp only [if_true]
        have hwl : (wishOf rs t.Kids (above ++ [t.Tag]) (o.gd 4)).length = t.Kids.length := by simp [wishOf]
        obtain ⟨s1, s2⟩ := shares_ok _ (innerOf o room) (wish_range hg t.Kids (above ++ [t.Tag]) (o.gd 4) (hor 4).1 (hor 4).2) q1 q2 (by omega)
        have e0 := wishes_ok rs hm hg t.Kids (by omega) hvk (above ++ [t.Tag]) o ho5 (hor 4) (by simp; omega) (out ++ [⟨left, top, 0, 0⟩]) (innerOf o room) q1 q2
        have e1 := across_ok rs t.Kids (by omega) hvk ihk (above ++ [t.Tag]) o ho5 (by simp; omega) (hor 4) (w64 (top + o.gd 2)) _ (by rw [s1, hwl]) s2 0 (by omega) 0 (w64 (left + o.gd 2)) (out ++ [⟨left, top, 0, 0⟩]) (by simp; omega)
        have e2 : spec_placer_across (⟨rs, out ++ [⟨left, top, 0, 0⟩]⟩ : TPlacer) t.Kids (above ++ [t.Tag]) o (w64 (left + o.gd 2)) (w64 (top + o.gd 2)) (innerOf o room) = some _ := spec_placer_across_of _ _ _ _ _ _ _ (by rw [e0]; exact e1)
        simp only [e2, Option.bind_some, List.drop_zero, List.append_assoc, List.singleton_append]
        rw [b2_ok rs out _ o ho5 hor, insideOf, if_neg h3]
    by_cases h0 : o.gd 0 = 0
    · have hw : wideOf o room = room := if_pos h0
      simp only [d0, Option.bind_some, decide_eq_false (show ¬ 0 < o.gd 0 by omega), Bool.false_eq_true, if_false]
      rw [hw] at key ⊢
      exact key
    · have hw : wideOf o room = min room (o.gd 0) := by rw [wideOf, if_neg h0]; omega
      simp only [d0, Option.bind_some, decide_eq_true (show 0 < o.gd 0 by omega), if_true]
      rw [hw] at key ⊢
      exact key
theorem part_v_ok (rs : List TRule) (hm : Rm rs) (hg : Gv rs) : ∀ t, Va t → nodes t ≤ 1000 → PartOk spec_placer_part_v rs t := by
  refine TTree.ind ?_
  intro t ih hv hn1
  have hn := nodes_eq t
  exact part_v_step rs hm hg t hv hn1 fun k hk => ih k hk (hv.ks k hk) (by have := nodes_kid t.Kids k hk; omega)
theorem boxes_ok (rs : List TRule) (hm : Rm rs) (hg : Gv rs) (t : TTree) (hv : Va t) (hd : depth t ≤ 1000) (hn : nodes t ≤ 1000) (wide : Int) (h0 : 0 ≤ wide) (h1 : wide ≤ 60) :
    spec_boxes t rs wide = some (lay rs t [] 0 0 0 wide).2 := by
  refine spec_boxes_of _ _ _ ?_
  have hk := nodes_eq t
  have e := part_step rs hm hg t hv hn (fun k hk' => part_v_ok rs hm hg k (hv.ks k hk') (by have := nodes_kid t.Kids k hk'; omega)) [] [0, 0, 0, 0, 0] 0 0 wide [] rfl (by simpa using hd) (by decide) (by decide) h0 h1 (by simp; omega)
  simp [e, List.gd]

/-- Valid trees and rules are such. -/
theorem partB_va : ∀ t, Lm 1048576 t → partB t = true → Va t := by
  refine TTree.ind ?_
  intro t ih hl hp
  rw [partB_eq] at hp
  by_cases h : t.Tag = -1
  · rw [if_pos h] at hp
    simp only [Bool.and_eq_true, decide_eq_true_eq] at hp
    obtain ⟨⟨⟨h1, h2⟩, h3⟩, h4⟩ := hp
    have hk : t.Kids = [] := List.eq_nil_of_length_eq_zero h3
    exact .mk ⟨hl, by rw [h2]; trivial, .inl h⟩ (shown_len _ h4) (fun _ => hk) (by rw [hk]; simp)
  · rw [if_neg h] at hp
    simp only [Bool.and_eq_true, decide_eq_true_eq, inB] at hp
    obtain ⟨⟨⟨⟨⟨h1, h2⟩, h3⟩, h4⟩, h5⟩, h6⟩ := hp
    have hks : ∀ (ts : List TTree), partsB ts = true → ∀ k ∈ ts, partB k = true := by
      intro ts
      induction ts with
      | nil => simp
      | cons a ts iht =>
        intro hh k hk
        simp only [partsB, Bool.and_eq_true] at hh
        rcases List.mem_cons.1 hk with rfl | hk
        · exact hh.1
        · exact iht hh.2 k hk
    exact .mk ⟨hl, (propsB_asc _ _ h4).2, .inr (by omega)⟩ (by rw [h3]; simp) (fun e => absurd e h) fun k hk => ih k hk (hl.ks k hk) (hks _ h5 k hk)
theorem treeB_va (t : TTree) (hl : Lm 1048576 t) (h : treeB t = true) : Va t ∧ depth t ≤ 24 ∧ nodes t ≤ 200 := by
  simp only [treeB, Bool.and_eq_true, decide_eq_true_eq] at h
  exact ⟨partB_va t hl h.2, h.1.1, h.1.2⟩
theorem rulesB_gv (rs : List TRule) (h : rulesB rs = true) : Gv rs := by
  simp only [rulesB, Bool.and_eq_true, decide_eq_true_eq, List.all_eq_true] at h
  intro x hx
  have := h.2 x hx
  simp only [ruleB, inB, Bool.and_eq_true, decide_eq_true_eq] at this
  exact ⟨by omega, by omega⟩
end Go.Fw.Law
namespace Go.Fw.Law
open Go Go.Fw

theorem wk1 {x : Int} (h0 : 0 ≤ x) (h1 : x < 4611686018427387904) : w64 (x + 1) = x + 1 := w64_id (by omega) (by omega)
theorem tos1 (n : Int) (h0 : 0 ≤ n) (h1 : n < 256) : ∃ c, tos [n] = some [c] := by
  have e : n = ((UInt8.ofNat n.toNat).toNat : Int) := by
    rw [UInt8.toNat_ofNat']
    omega
  exact ⟨UInt8.ofNat n.toNat, by simp only [tos, List.map_cons, List.map_nil, eU8, bytesOf, ob]; rw [if_pos e]⟩
theorem digit (x : Int) (h : 0 ≤ x) : ∃ c, tos [IntKind.wrap .u8 (w64 (48 + (x.tmod 10)))] = some [c] := by
  have h1 : 0 ≤ x.tmod 10 ∧ x.tmod 10 < 10 := ⟨Int.tmod_nonneg _ h, Int.tmod_lt_of_pos _ (by omega)⟩
  generalize x.tmod 10 = d at h1
  have : d = 0 ∨ d = 1 ∨ d = 2 ∨ d = 3 ∨ d = 4 ∨ d = 5 ∨ d = 6 ∨ d = 7 ∨ d = 8 ∨ d = 9 := by omega
  rcases this with rfl | rfl | rfl | rfl | rfl | rfl | rfl | rfl | rfl | rfl <;> exact ⟨_, by rfl⟩
theorem markText_end (s : Str) (h : s.length ≤ 4611686018427387904) : laws_markText_b1 0 s = some ([109] ++ s) := laws_markText_b1_of _ _ (by
  rw [decide_eq_false (show ¬ (0 : Int) < 0 by omega)]
  simp only [Bool.false_eq_true, if_false]
  exact if_pos (by rw [List.length_singleton]; omega))
theorem markText_loop : ∀ (n : Nat) (x : Int), x.toNat ≤ n → 0 ≤ x → x < 4611686018427387904 → ∀ s : Str, s.length + x.toNat ≤ 4611686018427387904 → ∃ t, laws_markText_b1 x s = some t := by
  intro n
  induction n with
  | zero =>
    intro x hn h0 h1 s hs
    have : x = 0 := by omega
    subst this
    exact ⟨_, markText_end s (by omega)⟩
  | succ n ih =>
    intro x hn h0 h1 s hs
    by_cases hx : 0 < x
    · obtain ⟨c, hc⟩ := digit x h0
      have hd : x.tdiv 10 = x / 10 := Int.tdiv_eq_ediv_of_nonneg h0
      have h2 : x / 10 < x := by omega
      have h3 : 0 ≤ x / 10 := by omega
      obtain ⟨t, ht⟩ := ih (x / 10) (by omega) h3 (by omega) ([c] ++ s) (by simp; omega)
      refine ⟨t, laws_markText_b1_of _ _ ?_⟩
      rw [decide_eq_true hx, hd, w64_id (show -9223372036854775808 ≤ x / 10 by omega) (by omega)]
      simp only [if_true, hc, Option.bind_some]
      rw [if_pos (by simp; omega)]
      exact ht
    · have : x = 0 := by omega
      subst this
      exact ⟨_, markText_end s (by omega)⟩
theorem markText_ok (k : Int) (h0 : 0 ≤ k) (h1 : k < 4611686018427387904) : ∃ t, laws_markText k = some t := by
  by_cases h : k ≤ 0
  · exact ⟨[109, 48], laws_markText_of _ (by simp [h])⟩
  · obtain ⟨t, ht⟩ := markText_loop k.toNat k (Nat.le_refl _) h0 h1 [] (by simp; omega)
    exact ⟨t, laws_markText_of _ (by simp [h, ht])⟩

theorem rdx_set {α : Type} {xs : List α} {j : Nat} (h : j < xs.length) (a : α) : rdx (xs.set j a) (j : Int) = some a := by
  rw [rdx_nat (by simpa using h)]
  simp
theorem rdx_at {α : Type} {xs : List α} {j : Nat} {a : α} (h : xs[j]? = some a) : rdx xs (j : Int) = some a := by
  obtain ⟨hl, e⟩ := List.getElem?_eq_some_iff.1 h
  rw [rdx_nat hl, e]


theorem markPropS_loop (n : Nat) (hn : n ≤ 1048576) : ∀ j, j ≤ n → ∀ (zs : List TProp) (k : Int), zs.length = n → 0 ≤ k → k + 4 * ((n - j : Nat) : Int) < 4611686018427387904 →
    ∃ zs', laws_markPropS_b1 zs k j = some (k + 4 * ((n - j : Nat) : Int), zs') := by
  refine upto _ ?_ ?_
  · intro zs k hl _ _
    exact ⟨zs, laws_markPropS_b1_of _ _ _ (by simp [hl])⟩
  · intro j hj ih zs k hl h0 h1
    have hj' : j < zs.length := by omega
    obtain ⟨t, ht⟩ := markText_ok (k + 1 + 1 + 1) (by omega) (by omega)
    obtain ⟨zs', a1⟩ := ih (zs.set j ⟨k, ⟨k + 1, k + 1 + 1, t⟩⟩) (k + 1 + 1 + 1 + 1) (by simpa using hl) (by omega) (by omega)
    have e : k + 1 + 1 + 1 + 1 + 4 * ((n - (j + 1) : Nat) : Int) = k + 4 * ((n - j : Nat) : Int) := by omega
    rw [e] at a1
    refine ⟨zs', laws_markPropS_b1_of _ _ _ ?_⟩
    rw [dlt hj', rdx_nat hj', w64s (by omega), wk1 h0 (by omega), wk1 (x := k + 1) (by omega) (by omega), wk1 (x := k + 1 + 1) (by omega) (by omega), wk1 (x := k + 1 + 1 + 1) (by omega) (by omega)]
    simp only [if_true, Option.bind_some, Int.toNat_natCast, List.set_set, rdx_set hj', ht]
    exact a1
theorem markPropS_ok (zs : List TProp) (hn : zs.length ≤ 1048576) (k : Int) (h0 : 0 ≤ k) (h1 : k + 4 * (zs.length : Int) < 4611686018427387904) : ∃ zs', laws_markPropS zs k = some (k + 4 * (zs.length : Int), zs') := by
  obtain ⟨zs', a1⟩ := markPropS_loop zs.length hn 0 (by omega) zs k rfl h0 (by simpa using h1)
  exact ⟨zs', laws_markPropS_of _ _ (by simpa using a1)⟩

mutual
def cnt : TTree → Nat
  | ⟨_, _, _, ps, ks⟩ => 3 + 4 * ps.length + cntL ks
def cntL : List TTree → Nat
  | [] => 0
  | t :: ts => cnt t + cntL ts
end
theorem cnt_eq (t : TTree) : cnt t = 3 + 4 * t.Props.length + cntL t.Kids := by cases t; rw [cnt]

theorem markTreeS_loop (ts : List TTree) (hn : ts.length ≤ 1048576) (hp : ∀ t ∈ ts, t.Props.length ≤ 1048576)
    (ih0 : ∀ t ∈ ts, ∀ k : Int, 0 ≤ k → k + (cntL t.Kids : Int) < 4611686018427387904 → ∃ ks', laws_markTreeS t.Kids k = some (k + (cntL t.Kids : Int), ks')) :
    ∀ j, j ≤ ts.length → ∀ (zs : List TTree) (k : Int), zs.length = ts.length → (∀ i, j ≤ i → zs[i]? = ts[i]?) → 0 ≤ k → k + (cntL (ts.drop j) : Int) < 4611686018427387904 →
      ∃ zs', laws_markTreeS_b1 zs k j = some (k + (cntL (ts.drop j) : Int), zs') := by
  refine upto _ ?_ ?_
  · intro zs k hl _ _ _
    rw [List.drop_length]
    exact ⟨zs, laws_markTreeS_b1_of _ _ _ (by simp [hl, cntL])⟩
  · intro j hj ih zs k hl hz h0 h1
    rw [drop_at hj, cntL, cnt_eq] at h1 ⊢
    have hj' : j < zs.length := by omega
    have hzt : zs[j] = ts[j] := by
      have := hz j (Nat.le_refl _)
      rw [List.getElem?_eq_getElem hj', List.getElem?_eq_getElem hj] at this
      exact Option.some.inj this
    have hm : ts[j] ∈ ts := List.getElem_mem hj
    have hpl := hp _ hm
    generalize ts[j] = t at *
    obtain ⟨x, hx⟩ := markText_ok (k + 1 + 1) (by omega) (by omega)
    obtain ⟨ps', p1⟩ := markPropS_ok t.Props hpl (k + 1 + 1 + 1) (by omega) (by omega)
    obtain ⟨ks', q1⟩ := ih0 t hm (k + 1 + 1 + 1 + 4 * (t.Props.length : Int)) (by omega) (by omega)
    obtain ⟨zs', a1⟩ := ih (zs.set j ⟨k, k + 1, x, ps', ks'⟩) (k + 1 + 1 + 1 + 4 * (t.Props.length : Int) + (cntL t.Kids : Int)) (by simpa using hl) (fun i hi => by rw [List.getElem?_set_ne (by omega)]; exact hz i (by omega)) (by omega) (by omega)
    have e : k + 1 + 1 + 1 + 4 * (t.Props.length : Int) + (cntL t.Kids : Int) + (cntL (ts.drop (j + 1)) : Int) = k + ((3 + 4 * t.Props.length + cntL t.Kids + cntL (ts.drop (j + 1)) : Nat) : Int) := by omega
    rw [e] at a1
    refine ⟨zs', laws_markTreeS_b1_of _ _ _ ?_⟩
    rw [dlt hj', rdx_nat hj', w64s (by omega), wk1 h0 (by omega), wk1 (x := k + 1) (by omega) (by omega), wk1 (x := k + 1 + 1) (by omega) (by omega), hzt]
    simp only [if_true, Option.bind_some, Int.toNat_natCast, List.set_set, rdx_set hj', hx, p1, q1]
    exact a1
theorem markTreeS_ok : ∀ t, Lm 1048576 t → ∀ k : Int, 0 ≤ k → k + (cntL t.Kids : Int) < 4611686018427387904 → ∃ ks', laws_markTreeS t.Kids k = some (k + (cntL t.Kids : Int), ks') := by
  refine TTree.ind ?_
  intro t ih hl k h0 h1
  obtain ⟨zs', a1⟩ := markTreeS_loop t.Kids hl.kl (fun u hu => (hl.ks u hu).ps) (fun u hu => ih u hu (hl.ks u hu)) 0 (by omega) t.Kids k rfl (fun _ _ => rfl) h0 (by simpa using h1)
  exact ⟨zs', laws_markTreeS_of _ _ (by simpa using a1)⟩
theorem markTree_ok (t : TTree) (hl : Lm 1048576 t) (k : Int) (h0 : 0 ≤ k) (h1 : k + 4 * (t.Props.length : Int) + (cntL t.Kids : Int) < 4611686018427387904) : laws_markTree t k = some (k + 4 * (t.Props.length : Int) + (cntL t.Kids : Int)) := by
  obtain ⟨ps', p1⟩ := markPropS_ok t.Props hl.ps k h0 (by omega)
  obtain ⟨ks', q1⟩ := markTreeS_ok t hl (k + 4 * (t.Props.length : Int)) (by omega) (by omega)
  exact laws_markTree_of _ _ (by simp [p1, q1])

theorem markRuleS_loop (n : Nat) (hn : n ≤ 1048576) : ∀ j, j ≤ n → ∀ (zs : List TRule) (k : Int), zs.length = n → 0 ≤ k → k + 8 * ((n - j : Nat) : Int) < 4611686018427387904 →
    ∃ zs', laws_markRuleS_b1 zs k j = some (k + 8 * ((n - j : Nat) : Int), zs') := by
  refine upto _ ?_ ?_
  · intro zs k hl _ _
    exact ⟨zs, laws_markRuleS_b1_of _ _ _ (by simp [hl])⟩
  · intro j hj ih zs k hl h0 h1
    have hj' : j < zs.length := by omega
    obtain ⟨t, ht⟩ := markText_ok (k + 1 + 1 + 1 + 1 + 1) (by omega) (by omega)
    obtain ⟨zs', a1⟩ := ih (zs.set j ⟨k, k + 1, k + 1 + 1, ⟨k + 1 + 1 + 1, k + 1 + 1 + 1 + 1, t⟩, k + 1 + 1 + 1 + 1 + 1 + 1, k + 1 + 1 + 1 + 1 + 1 + 1 + 1⟩) (k + 1 + 1 + 1 + 1 + 1 + 1 + 1 + 1) (by simpa using hl) (by omega) (by omega)
    have e : k + 1 + 1 + 1 + 1 + 1 + 1 + 1 + 1 + 8 * ((n - (j + 1) : Nat) : Int) = k + 8 * ((n - j : Nat) : Int) := by omega
    rw [e] at a1
    refine ⟨zs', laws_markRuleS_b1_of _ _ _ ?_⟩
    rw [dlt hj', rdx_nat hj', w64s (by omega), wk1 h0 (by omega), wk1 (x := k + 1) (by omega) (by omega), wk1 (x := k + 1 + 1) (by omega) (by omega), wk1 (x := k + 1 + 1 + 1) (by omega) (by omega), wk1 (x := k + 1 + 1 + 1 + 1) (by omega) (by omega),
      wk1 (x := k + 1 + 1 + 1 + 1 + 1) (by omega) (by omega), wk1 (x := k + 1 + 1 + 1 + 1 + 1 + 1) (by omega) (by omega), wk1 (x := k + 1 + 1 + 1 + 1 + 1 + 1 + 1) (by omega) (by omega)]
    simp only [if_true, Option.bind_some, Int.toNat_natCast, List.set_set, rdx_set hj', ht]
    exact a1
theorem markRuleS_ok (zs : List TRule) (hn : zs.length ≤ 1048576) (k : Int) (h0 : 0 ≤ k) (h1 : k + 8 * (zs.length : Int) < 4611686018427387904) : ∃ zs', laws_markRuleS zs k = some (k + 8 * (zs.length : Int), zs') := by
  obtain ⟨zs', a1⟩ := markRuleS_loop zs.length hn 0 (by omega) zs k rfl h0 (by simpa using h1)
  exact ⟨zs', laws_markRuleS_of _ _ (by simpa using a1)⟩

theorem markBoxS_loop (n : Nat) (hn : n ≤ 1048576) : ∀ j, j ≤ n → ∀ (zs : List TBox) (k : Int), zs.length = n → 0 ≤ k → k + 4 * ((n - j : Nat) : Int) < 4611686018427387904 →
    ∃ zs', laws_markBoxS_b1 zs k j = some (k + 4 * ((n - j : Nat) : Int), zs') ∧ zs'.length = n ∧ (∀ i, i < j → zs'[i]? = zs[i]?) ∧ laws_heldBoxS_b1 zs' k j = some (k + 4 * ((n - j : Nat) : Int)) := by
  refine upto _ ?_ ?_
  · intro zs k hl _ _
    exact ⟨zs, laws_markBoxS_b1_of _ _ _ (by simp [hl]), hl, fun _ _ => rfl, laws_heldBoxS_b1_of _ _ _ (by simp [hl])⟩
  · intro j hj ih zs k hl h0 h1
    have hj' : j < zs.length := by omega
    obtain ⟨zs', a1, a2, a3, a4⟩ := ih (zs.set j ⟨k, k + 1, k + 1 + 1, k + 1 + 1 + 1⟩) (k + 1 + 1 + 1 + 1) (by simpa using hl) (by omega) (by omega)
    have e : k + 1 + 1 + 1 + 1 + 4 * ((n - (j + 1) : Nat) : Int) = k + 4 * ((n - j : Nat) : Int) := by omega
    rw [e] at a1 a4
    have hz : zs'[j]? = some ⟨k, k + 1, k + 1 + 1, k + 1 + 1 + 1⟩ := by rw [a3 j (by omega)]; simp [hj']
    refine ⟨zs', laws_markBoxS_b1_of _ _ _ ?_, a2, fun i hi => ?_, laws_heldBoxS_b1_of _ _ _ ?_⟩
    · rw [dlt hj', rdx_nat hj', w64s (by omega), wk1 h0 (by omega), wk1 (x := k + 1) (by omega) (by omega), wk1 (x := k + 1 + 1) (by omega) (by omega), wk1 (x := k + 1 + 1 + 1) (by omega) (by omega)]
      simp only [if_true, Option.bind_some, Int.toNat_natCast, List.set_set, rdx_set hj']
      exact a1
    · rw [a3 i (by omega), List.getElem?_set_ne (by omega)]
    · rw [dlt (by omega), rdx_at hz, w64s (by omega), wk1 h0 (by omega), wk1 (x := k + 1) (by omega) (by omega), wk1 (x := k + 1 + 1) (by omega) (by omega), wk1 (x := k + 1 + 1 + 1) (by omega) (by omega)]
      simp only [if_true, Option.bind_some, decide_true, Bool.not_true, Bool.false_eq_true, if_false]
      exact a4
theorem markBoxS_ok (zs : List TBox) (hn : zs.length ≤ 1048576) (k : Int) (h0 : 0 ≤ k) (h1 : k + 4 * (zs.length : Int) < 4611686018427387904) :
    ∃ zs', laws_markBoxS zs k = some (k + 4 * (zs.length : Int), zs') ∧ laws_heldBoxS zs' k = some (k + 4 * (zs.length : Int)) := by
  obtain ⟨zs', a1, a2, _, a4⟩ := markBoxS_loop zs.length hn 0 (by omega) zs k rfl h0 (by simpa using h1)
  exact ⟨zs', laws_markBoxS_of _ _ (by simpa using a1), laws_heldBoxS_of _ _ (by simpa using a4)⟩
theorem eqBox_ok (x : TBox) : laws_eqBox x x = some true := laws_eqBox_of _ _ (by simp)
theorem eqBoxS_ok (xs : List TBox) (hl : xs.length ≤ 1048576) : laws_eqBoxS xs xs = some true := by
  have h : ∀ k, k ≤ xs.length → laws_eqBoxS_b1 xs xs k = some true := by
    refine upto _ (laws_eqBoxS_b1_of _ _ _ (by simp)) ?_
    intro k hk ih
    exact laws_eqBoxS_b1_of _ _ _ (by simpa [hk, rdx_nat hk, eqBox_ok, w64s (show (k : Int) + 1 < 9223372036854775808 by omega)] using ih)
  exact laws_eqBoxS_of _ _ (by simp; exact h 0 (by omega))
end Go.Fw.Law
namespace Go.Fw.Law
open Go Go.Fw

mutual
def wt : TTree → Nat
  | ⟨_, _, _, ps, ks⟩ => ps.length + ks.length + wtL ks
def wtL : List TTree → Nat
  | [] => 0
  | t :: ts => wt t + wtL ts
end
theorem wt_eq (t : TTree) : wt t = t.Props.length + t.Kids.length + wtL t.Kids := by cases t; rw [wt]
theorem cntL_wt (ts : List TTree) (h : ∀ t ∈ ts, 4 * t.Props.length + cntL t.Kids ≤ 4 * wt t) : cntL ts ≤ 4 * (ts.length + wtL ts) := by
  induction ts with
  | nil => simp [cntL]
  | cons t ts ih =>
    have h1 := h t (by simp)
    have h2 := ih fun u hu => h u (by simp [hu])
    rw [cntL, cnt_eq, wtL, List.length_cons]
    omega
theorem cnt_wt : ∀ t : TTree, 4 * t.Props.length + cntL t.Kids ≤ 4 * wt t := by
  refine TTree.ind ?_
  intro t ih
  have := cntL_wt t.Kids ih
  rw [wt_eq]
  omega

theorem szPropS_wt (xs : List TProp) (n : Int) (hl : xs.length ≤ 9223372036854775807) (hx : ∀ p ∈ xs, p.Val.Text.length ≤ 9223372036854775807) (h0 : 0 ≤ n) (h1 : n ≤ 1048576) :
    ∃ r, laws_szPropS xs n = some r ∧ r ≤ n ∧ (0 ≤ r → ((xs.length : Int) + r ≤ n) ∧ ∀ p ∈ xs, (p.Val.Text.length : Int) ≤ 1048576) := by
  have hw : w64 (n - (xs.length : Int)) = n - xs.length := w64_id (by omega) (by omega)
  by_cases h : n - (xs.length : Int) < 0
  · exact ⟨-1, laws_szPropS_of _ _ (by simp [hw, h]), by omega, by omega⟩
  · obtain ⟨r, e1, e2, e3⟩ := szPropS_loop xs hl hx 0 (by omega) (n - xs.length) (by omega) (by omega)
    exact ⟨r, laws_szPropS_of _ _ (by simpa [hw, h] using e1), by omega, fun hr => ⟨by omega, by simpa using e3 hr⟩⟩
theorem szTreeS_wt (xs : List TTree) (hl : xs.length ≤ 9223372036854775807)
    (hx : ∀ t ∈ xs, ∀ n : Int, 0 ≤ n → n ≤ 1048576 → ∃ r, laws_szTree t n = some r ∧ r ≤ n ∧ (0 ≤ r → Lm 1048576 t ∧ (wt t : Int) + r ≤ n)) : ∀ k, k ≤ xs.length → ∀ n : Int, 0 ≤ n → n ≤ 1048576 →
    ∃ r, laws_szTreeS_b1 xs n k = some r ∧ r ≤ n ∧ (0 ≤ r → (∀ t ∈ xs.drop k, Lm 1048576 t) ∧ (wtL (xs.drop k) : Int) + r ≤ n) := by
  refine upto _ ?_ ?_
  · intro n h0 h1
    exact ⟨n, laws_szTreeS_b1_of _ _ _ (by simp), by omega, by simp [wtL]⟩
  · intro k hk ih n h0 h1
    obtain ⟨r, e1, e2, e3⟩ := hx xs[k] (List.getElem_mem hk) n h0 h1
    by_cases h : r < 0
    · exact ⟨-1, laws_szTreeS_b1_of _ _ _ (by simp [hk, rdx_nat hk, e1, h]), by omega, by omega⟩
    · obtain ⟨s, f1, f2, f3⟩ := ih r (by omega) (by omega)
      refine ⟨s, laws_szTreeS_b1_of _ _ _ (by simpa [hk, rdx_nat hk, e1, h, w64s (show (k : Int) + 1 < 9223372036854775808 by omega)] using f1), by omega, fun hs => ?_⟩
      obtain ⟨g1, g2⟩ := e3 (by omega)
      obtain ⟨g3, g4⟩ := f3 hs
      rw [drop_at hk, wtL]
      refine ⟨fun p hp => ?_, by omega⟩
      rcases List.mem_cons.1 hp with rfl | hp
      · exact g1
      · exact g3 p hp
theorem szTree_wt : ∀ t, Lm 9223372036854775807 t → ∀ n : Int, 0 ≤ n → n ≤ 1048576 → ∃ r, laws_szTree t n = some r ∧ r ≤ n ∧ (0 ≤ r → Lm 1048576 t ∧ (wt t : Int) + r ≤ n) := by
  refine TTree.ind ?_
  intro t ih hl n h0 h1
  have hw : w64 (n - (t.Text.length : Int)) = n - t.Text.length := w64_id (by have := hl.tx; omega) (by omega)
  by_cases h : n - (t.Text.length : Int) < 0
  · exact ⟨-1, laws_szTree_of _ _ (by simp [hw, h]), by omega, by omega⟩
  · obtain ⟨r, e1, e2, e3⟩ := szPropS_wt t.Props (n - t.Text.length) hl.ps hl.pt (by omega) (by omega)
    by_cases hr : r < 0
    · exact ⟨-1, laws_szTree_of _ _ (by simp [hw, h, e1, hr]), by omega, by omega⟩
    · have hs : ∃ s, laws_szTreeS t.Kids r = some s ∧ s ≤ r ∧ (0 ≤ s → (∀ k ∈ t.Kids, Lm 1048576 k) ∧ (t.Kids.length : Int) + wtL t.Kids + s ≤ r) := by
        have hkl := hl.kl
        have hw2 : w64 (r - (t.Kids.length : Int)) = r - t.Kids.length := w64_id (by omega) (by omega)
        by_cases h2 : r - (t.Kids.length : Int) < 0
        · exact ⟨-1, laws_szTreeS_of _ _ (by simp [hw2, h2]), by omega, by omega⟩
        · obtain ⟨s, f1, f2, f3⟩ := szTreeS_wt t.Kids hkl (fun k hk => ih k hk (hl.ks k hk)) 0 (by omega) (r - t.Kids.length) (by omega) (by omega)
          rw [List.drop_zero] at f3
          exact ⟨s, laws_szTreeS_of _ _ (by simpa [hw2, h2] using f1), by omega, fun hs => ⟨(f3 hs).1, by have := (f3 hs).2; omega⟩⟩
      obtain ⟨s, f1, f2, f3⟩ := hs
      obtain ⟨g1, g2⟩ := e3 (by omega)
      by_cases hs : s < 0
      · exact ⟨-1, laws_szTree_of _ _ (by simp [hw, h, e1, hr, f1, hs]), by omega, by omega⟩
      · obtain ⟨g3, g4⟩ := f3 (by omega)
        refine ⟨s, laws_szTree_of _ _ (by simp [hw, h, e1, hr, f1, hs]), by omega, fun _ => ⟨.mk (by omega) (by omega) (fun p hp => by have := g2 p hp; omega) (by omega) g3, ?_⟩⟩
        rw [wt_eq]
        omega
end Go.Fw.Law
namespace Go.Fw.Law
open Go Go.Fw

def idx (xs : List Int) (v : Int) : Int := if v ∈ xs then (xs.idxOf v : Int) else -1
/-- Where a number stands from a place on, or -1. -/
def idxFrom (xs : List Int) (v : Int) (k : Nat) : Int := if v ∈ xs.drop k then ((k + (xs.drop k).idxOf v : Nat) : Int) else -1
theorem idxFrom_step (xs : List Int) (v : Int) (k : Nat) (hk : k < xs.length) : idxFrom xs v k = if xs[k] = v then (k : Int) else idxFrom xs v (k + 1) := by
  unfold idxFrom
  rw [drop_at hk, List.idxOf_cons]
  by_cases h : xs[k] = v
  · simp [h]
  · have h2 : (xs[k] == v) = false := by simp [h]
    have h4 : v ≠ xs[k] := fun e => h e.symm
    simp only [List.mem_cons, h2, cond_false, h, if_false, h4, false_or]
    by_cases h3 : v ∈ xs.drop (k + 1)
    · simp only [h3, if_true]; omega
    · simp only [h3, if_false]
theorem idxFrom_end (xs : List Int) (v : Int) : idxFrom xs v xs.length = -1 := by simp [idxFrom]
theorem idxFrom_0 (xs : List Int) (v : Int) : idxFrom xs v 0 = idx xs v := by simp [idxFrom, idx]
theorem indexOf_ok (xs : List Int) (v : Int) (hl : xs.length ≤ 1048576) : spec_indexOf xs v = some (idx xs v) := by
  have loop : ∀ k : Nat, k ≤ xs.length → spec_indexOf_b1 xs v k = some (idxFrom xs v k) := by
    refine upto _ (spec_indexOf_b1_of _ _ _ (by rw [dge, idxFrom_end]; simp)) ?_
    intro k hk ih
    refine spec_indexOf_b1_of _ _ _ ?_
    rw [dlt hk, rdx_nat hk, w64s (by omega), idxFrom_step xs v k hk]
    by_cases h : xs[k] = v
    · simp [h]
    · simpa [h] using ih
  refine spec_indexOf_of _ _ ?_
  have := loop 0 (by omega)
  rwa [idxFrom_0] at this
theorem Index_ok (xs : List Int) (v : Int) (hl : xs.length ≤ 1048576) : slices_Index_int_int xs v = some (idx xs v) := by
  have loop : ∀ k : Nat, k ≤ xs.length → slices_Index_int_int_b1 xs v xs.length k = some (idxFrom xs v k) := by
    refine upto _ (slices_Index_int_int_b1_of _ _ _ _ (by rw [dge, idxFrom_end]; simp)) ?_
    intro k hk ih
    refine slices_Index_int_int_b1_of _ _ _ _ ?_
    rw [dlt hk, rdx_nat hk, w64s (by omega), idxFrom_step xs v k hk]
    by_cases h : xs[k] = v
    · simp [h]
    · have h4 : ¬ v = xs[k] := fun e => h e.symm
      simpa [h, h4] using ih
  refine slices_Index_int_int_of _ _ ?_
  have := loop 0 (by omega)
  rwa [idxFrom_0] at this
theorem idx_range (xs : List Int) (v : Int) : idx xs v = -1 ∨ (0 ≤ idx xs v ∧ (idx xs v).toNat < xs.length) := by
  unfold idx
  split
  · rename_i h
    have := List.idxOf_lt_length_iff.2 h
    right; omega
  · exact .inl rfl
theorem len_ok {n : Nat} (h : n ≤ 1048576) (b : Int) (hb : b = 1 ∨ b = 8) : (0 ≤ (n : Int) ∧ (n : Int) * b ≤ 281474976710656 ∧ (n : Int) ≤ 9223372036854775807) := by
  rcases hb with rfl | rfl <;> omega
def fp (old : List TTree) (tk : List Bool) (t : TTree) : Nat → Nat → Int
  | _, 0 => -1
  | k, j + 1 => if tk[k]? = some false ∧ (old[k]?.map fun o => (o.Tag, o.Key)) = some (t.Tag, t.Key) then (k : Int) else fp old tk t (k + 1) j
def mrk (tk : List Bool) (p : Int) : List Bool := if 0 ≤ p then tk.set p.toNat true else tk
def prts (old : List TTree) : List TTree → List Bool → List Int × List Bool
  | [], tk => ([], tk)
  | t :: ts, tk => let p := fp old tk t 0 old.length; let r := prts old ts (mrk tk p); (p :: r.1, r.2)
theorem fp_range (old : List TTree) (tk : List Bool) (t : TTree) : ∀ j k, k + j ≤ old.length → fp old tk t k j = -1 ∨ ∃ m : Nat, fp old tk t k j = m ∧ k ≤ m ∧ ∃ h : m < old.length, tk[m]? = some false ∧ old[m].Tag = t.Tag ∧ old[m].Key = t.Key
  | 0, k, h => .inl rfl
  | j + 1, k, h => by
    unfold fp
    split
    · rename_i hc
      refine .inr ⟨k, rfl, Nat.le_refl _, by omega, hc.1, ?_⟩
      have := hc.2
      rw [List.getElem?_eq_getElem (by omega)] at this
      simpa using this
    · rcases fp_range old tk t j (k + 1) (by omega) with h1 | ⟨m, h1, h2, h3⟩
      · exact .inl h1
      · exact .inr ⟨m, h1, by omega, h3⟩
theorem mrk_len (tk : List Bool) (p : Int) : (mrk tk p).length = tk.length := by unfold mrk; split <;> simp
theorem prts_len (old : List TTree) : ∀ ts tk, (prts old ts tk).1.length = ts.length ∧ (prts old ts tk).2.length = tk.length
  | [], tk => ⟨rfl, rfl⟩
  | t :: ts, tk => by have := prts_len old ts (mrk tk (fp old tk t 0 old.length)); simp [prts, this, mrk_len]

/-- The reference's walk: found already, or yet to be found. -/
theorem partnersS_ok (old list : List TTree) (ho : old.length ≤ 1048576) (hl : list.length ≤ 1048576) : spec_partners old list = some (prts old list (List.replicate old.length false)).1 := by
  have loop : ∀ i : Nat, i ≤ list.length → ∀ (out : List Int) (tk : List Bool), out.length = i → tk.length = old.length → spec_partners_b1 old list out tk i = some (out ++ (prts old (list.drop i) tk).1) := by
    refine upto _ ?_ ?_
    · intro out tk _ _
      exact spec_partners_b1_of _ _ _ _ _ (by rw [dge]; simp [prts])
    · intro i hi ih out tk hout htk
      have hws : w64 ((i : Int) + 1) = ((i + 1 : Nat) : Int) := w64s (by omega)
      have last : ∀ p : Int, p = fp old tk list[i] 0 old.length → spec_partners_b3 old list out tk i p = some (out ++ (prts old (list.drop i) tk).1) := by
        intro p hp
        rw [drop_at hi, prts]
        simp only [← hp]
        have hap : apOk 8 out [p] := apN _ _ _ (by omega) (by omega) (by simp)
        rcases fp_range old tk list[i] old.length 0 (by omega) with h1 | ⟨m, h1, _, h3, h4⟩
        · have hn : p = -1 := hp.trans h1
          have := ih (out ++ [p]) tk (by simp [hout]) htk
          refine spec_partners_b3_of _ _ _ _ _ _ ?_
          rw [hws, decide_eq_false (show ¬ (0 : Int) ≤ p by omega)]
          simpa [hap, mrk, show ¬ (0 : Int) ≤ p by omega] using this
        · have hn : p = (m : Int) := hp.trans h1
          have := ih (out ++ [p]) (tk.set m true) (by simp [hout]) (by simpa using htk)
          refine spec_partners_b3_of _ _ _ _ _ _ ?_
          rw [hws, decide_eq_true (show (0 : Int) ≤ p by omega)]
          rw [hn] at hap this ⊢
          rw [rdx_nat (show m < tk.length by omega)]
          simpa [hap, mrk] using this
      have inner : ∀ k : Nat, k ≤ old.length → (spec_partners_b2 old list out tk i (-1) k = some (out ++ (prts old (list.drop i) tk).1) ∨ fp old tk list[i] 0 old.length ≠ fp old tk list[i] k (old.length - k)) := by
        refine upto _ ?_ ?_
        · by_cases h : fp old tk list[i] 0 old.length = fp old tk list[i] old.length (old.length - old.length)
          · refine .inl (spec_partners_b2_of _ _ _ _ _ _ _ ?_)
            rw [dge]
            have := last (-1) (by rw [h, Nat.sub_self]; rfl)
            simpa using this
          · exact .inr h
        · intro k hk ihk
          by_cases h : fp old tk list[i] 0 old.length = fp old tk list[i] k (old.length - k)
          · refine .inl (spec_partners_b2_of _ _ _ _ _ _ _ ?_)
            have hk2 : k < tk.length := by omega
            have hwk : w64 ((k : Int) + 1) = ((k + 1 : Nat) : Int) := w64s (by omega)
            have hstep : fp old tk list[i] k (old.length - k) = if tk[k]? = some false ∧ (old[k]?.map fun o => (o.Tag, o.Key)) = some (list[i].Tag, list[i].Key) then (k : Int) else fp old tk list[i] (k + 1) (old.length - (k + 1)) := by
              rw [show old.length - k = (old.length - (k + 1)) + 1 by omega]; rfl
            rw [dlt hk, rdx_nat hk2, rdx_nat hk, rdx_nat hi, hwk]
            rw [List.getElem?_eq_getElem hk2, List.getElem?_eq_getElem hk] at hstep
            have more : ¬ (tk[k] = false ∧ old[k].Tag = list[i].Tag ∧ old[k].Key = list[i].Key) → spec_partners_b2 old list out tk i (-1) ((k + 1 : Nat) : Int) = some (out ++ (prts old (list.drop i) tk).1) := by
              intro hc
              have h2 : fp old tk list[i] k (old.length - k) = fp old tk list[i] (k + 1) (old.length - (k + 1)) := by
                rw [hstep, if_neg (by simpa using hc)]
              exact ihk.resolve_right (fun hne => hne (h.trans h2))
            cases htkk : tk[k] with
            | true => simpa [htkk] using more (by simp [htkk])
            | false =>
              by_cases h1 : old[k].Tag = list[i].Tag
              · by_cases h2 : old[k].Key = list[i].Key
                · -- found
                  have hf : fp old tk list[i] 0 old.length = (k : Int) := by rw [h, hstep, if_pos (by simp [htkk, h1, h2])]
                  have hl3 := last (k : Int) hf.symm
                  have rest : spec_partners_b2 old list out tk i (k : Int) ((k + 1 : Nat) : Int) = some (out ++ (prts old (list.drop i) tk).1) := by
                    refine spec_partners_b2_of _ _ _ _ _ _ _ ?_
                    have : decide ((k : Int) < 0) = false := decide_eq_false (by omega)
                    by_cases hke : k + 1 < old.length
                    · rw [dlt hke, this]; simpa using hl3
                    · rw [decide_eq_false (show ¬ ((k + 1 : Nat) : Int) < (old.length : Int) by omega)]; simpa using hl3
                  simpa [htkk, h1, h2] using rest
                · simpa [htkk, h1, h2] using more (by simp [h2])
              · simpa [htkk, h1] using more (by simp [h1])
          · exact .inr h
      refine spec_partners_b1_of _ _ _ _ _ ?_
      rw [dlt hi]
      have := (inner 0 (by omega)).resolve_right (fun h => h rfl)
      simpa using this
  refine spec_partners_of _ _ ?_
  rw [if_pos (len_ok ho 1 (.inl rfl))]
  simpa using loop 0 (by omega) [] (List.replicate old.length false) rfl (by simp)

theorem partnersI_ok (a b : TTree) (ho : a.Kids.length ≤ 1048576) (hl : b.Kids.length ≤ 1048576) : impl_partners a b = some (prts a.Kids b.Kids (List.replicate a.Kids.length false)).1 := by
  have loop : ∀ i : Nat, i ≤ b.Kids.length → ∀ (out : List Int) (tk : List Bool), out.length = i → tk.length = a.Kids.length → impl_partners_b1 out tk b.Kids b.Kids.length i a = some (out ++ (prts a.Kids (b.Kids.drop i) tk).1) := by
    refine upto _ ?_ ?_
    · intro out tk _ _
      exact impl_partners_b1_of _ _ _ _ _ _ (by rw [dge]; simp [prts])
    · intro i hi ih out tk hout htk
      have hws : w64 ((i : Int) + 1) = ((i + 1 : Nat) : Int) := w64s (by omega)
      rw [drop_at hi, prts]
      simp only
      have next : ∀ p : Int, p = fp a.Kids tk b.Kids[i] 0 a.Kids.length → impl_partners_b1 (out ++ [p]) (mrk tk p) b.Kids b.Kids.length ((i + 1 : Nat) : Int) a = some (out ++ fp a.Kids tk b.Kids[i] 0 a.Kids.length :: (prts a.Kids (b.Kids.drop (i + 1)) (mrk tk (fp a.Kids tk b.Kids[i] 0 a.Kids.length))).1) := fun p hp => by
        rw [← hp]
        rw [ih (out ++ [p]) (mrk tk p) (by simp [hout]) (by rw [mrk_len]; exact htk)]
        simp
      have hap : ∀ p : Int, apOk 8 out [p] := fun p => apN _ _ _ (by omega) (by omega) (by simp)
      have inner : ∀ k : Nat, k ≤ a.Kids.length → fp a.Kids tk b.Kids[i] 0 a.Kids.length = fp a.Kids tk b.Kids[i] k (a.Kids.length - k) → impl_partners_b2 out tk (-1) b.Kids b.Kids.length i a.Kids a.Kids.length k a b.Kids[i] = some (out ++ fp a.Kids tk b.Kids[i] 0 a.Kids.length :: (prts a.Kids (b.Kids.drop (i + 1)) (mrk tk (fp a.Kids tk b.Kids[i] 0 a.Kids.length))).1) := by
        refine upto _ ?_ ?_
        · intro h
          refine impl_partners_b2_of _ _ _ _ _ _ _ _ _ _ _ ?_
          have := next (-1) (by rw [h, Nat.sub_self]; rfl)
          rw [dge, hws]
          simpa [hap, mrk] using this
        · intro k hk ihk h
          have hk2 : k < tk.length := by omega
          have hwk : w64 ((k : Int) + 1) = ((k + 1 : Nat) : Int) := w64s (by omega)
          have hstep : fp a.Kids tk b.Kids[i] k (a.Kids.length - k) = if tk[k]? = some false ∧ (a.Kids[k]?.map fun o => (o.Tag, o.Key)) = some (b.Kids[i].Tag, b.Kids[i].Key) then (k : Int) else fp a.Kids tk b.Kids[i] (k + 1) (a.Kids.length - (k + 1)) := by
            rw [show a.Kids.length - k = (a.Kids.length - (k + 1)) + 1 by omega]; rfl
          refine impl_partners_b2_of _ _ _ _ _ _ _ _ _ _ _ ?_
          rw [dlt hk, rdx_nat hk2, rdx_nat hk, hwk, hws]
          rw [List.getElem?_eq_getElem hk2, List.getElem?_eq_getElem hk] at hstep
          have more : ¬ (tk[k] = false ∧ a.Kids[k].Tag = b.Kids[i].Tag ∧ a.Kids[k].Key = b.Kids[i].Key) → impl_partners_b2 out tk (-1) b.Kids b.Kids.length i a.Kids a.Kids.length ((k + 1 : Nat) : Int) a b.Kids[i] = some (out ++ fp a.Kids tk b.Kids[i] 0 a.Kids.length :: (prts a.Kids (b.Kids.drop (i + 1)) (mrk tk (fp a.Kids tk b.Kids[i] 0 a.Kids.length))).1) := by
            intro hc
            have h2 : fp a.Kids tk b.Kids[i] k (a.Kids.length - k) = fp a.Kids tk b.Kids[i] (k + 1) (a.Kids.length - (k + 1)) := by
              rw [hstep, if_neg (by simpa using hc)]
            exact ihk (h.trans h2)
          cases htkk : tk[k] with
          | true => simpa [htkk] using more (by simp [htkk])
          | false =>
            by_cases h1 : a.Kids[k].Tag = b.Kids[i].Tag
            · by_cases h2 : a.Kids[k].Key = b.Kids[i].Key
              · have hf : fp a.Kids tk b.Kids[i] 0 a.Kids.length = (k : Int) := by rw [h, hstep, if_pos (by simp [htkk, h1, h2])]
                have := next (k : Int) hf.symm
                simpa [htkk, h1, h2, hap, mrk] using this
              · simpa [htkk, h1, h2] using more (by simp [h2])
            · simpa [htkk, h1] using more (by simp [h1])
      refine impl_partners_b1_of _ _ _ _ _ _ ?_
      rw [dlt hi, rdx_nat hi]
      have := inner 0 (by omega) (by simp)
      simpa using this
  refine impl_partners_of _ _ ?_
  rw [if_pos (len_ok ho 1 (.inl rfl))]
  simpa using loop 0 (by omega) [] (List.replicate a.Kids.length false) rfl (by simp)
end Go.Fw.Law
namespace Go.Fw.Law
open Go Go.Fw

mutual
/-- The way to the part with a number. -/
def wayN : TTree → Nat → List Nat
  | ⟨_, _, _, _, ks⟩, n => if n = 0 then [] else wayL ks (n - 1) 0
def wayL : List TTree → Nat → Nat → List Nat
  | [], _, _ => []
  | k :: ks, n, i => if n < nodes k then i :: wayN k n else wayL ks (n - nodes k) (i + 1)
end
theorem wayN_eq (t : TTree) (n : Nat) : wayN t n = if n = 0 then [] else wayL t.Kids (n - 1) 0 := by cases t; rw [wayN]
/-- A way that leads to a part. -/
def Vw : TTree → List Nat → Prop
  | _, [] => True
  | t, v :: w => ∃ h : v < t.Kids.length, Vw t.Kids[v] w
/-- The number of the part that a way leads to. -/
def numW : TTree → List Nat → Nat
  | _, [] => 0
  | t, v :: w => 1 + nodesL (t.Kids.take v) + (match t.Kids[v]? with | some k => numW k w | none => 0)
theorem numW_cons (t : TTree) (v : Nat) (w : List Nat) (h : v < t.Kids.length) : numW t (v :: w) = 1 + nodesL (t.Kids.take v) + numW t.Kids[v] w := by
  rw [numW, List.getElem?_eq_getElem h]
theorem nodesL_take (ks : List TTree) : ∀ v (h : v < ks.length), nodesL (ks.take v) + nodes ks[v] + nodesL (ks.drop (v + 1)) = nodesL ks := by
  induction ks with
  | nil => intro v h; simp at h
  | cons k ks ih =>
    intro v h
    cases v with
    | zero => simp [nodesL]
    | succ v =>
      have := ih v (by simpa using h)
      simp only [List.take_succ_cons, nodesL, List.getElem_cons_succ, List.drop_succ_cons]
      omega

theorem nodesL_append (xs ys : List TTree) : nodesL (xs ++ ys) = nodesL xs + nodesL ys := by
  induction xs with
  | nil => simp [nodesL]
  | cons x xs ih => simp only [List.cons_append, nodesL, ih]; omega
theorem wayN_ok : ∀ t, ∀ n, n < nodes t → Vw t (wayN t n) ∧ numW t (wayN t n) = n := by
  refine TTree.ind ?_
  intro t ih n hn
  rw [wayN_eq]
  by_cases h0 : n = 0
  · subst h0; exact ⟨trivial, rfl⟩
  rw [if_neg h0]
  have hnn := nodes_eq t
  have loop : ∀ (j : Nat) (m : Nat), j ≤ t.Kids.length → m < nodesL (t.Kids.drop j) → Vw t (wayL (t.Kids.drop j) m j) ∧ numW t (wayL (t.Kids.drop j) m j) = 1 + nodesL (t.Kids.take j) + m := by
    intro j
    induction hk : t.Kids.length - j generalizing j with
    | zero =>
      intro m hj hm
      rw [List.drop_eq_nil_of_le (by omega)] at hm
      simp [nodesL] at hm
    | succ d ihd =>
      intro m hj hm
      have hjl : j < t.Kids.length := by omega
      rw [drop_at hjl, nodesL] at hm
      rw [drop_at hjl, wayL]
      by_cases hlt : m < nodes t.Kids[j]
      · rw [if_pos hlt]
        obtain ⟨i1, i2⟩ := ih _ (List.getElem_mem hjl) m hlt
        exact ⟨⟨hjl, i1⟩, by rw [numW_cons t j _ hjl, i2]⟩
      · rw [if_neg hlt]
        obtain ⟨i1, i2⟩ := ihd (j + 1) (by omega) (m - nodes t.Kids[j]) (by omega) (by omega)
        refine ⟨i1, ?_⟩
        rw [i2]
        have hs : nodesL (t.Kids.take (j + 1)) = nodesL (t.Kids.take j) + nodes t.Kids[j] := by
          rw [List.take_add_one, List.getElem?_eq_getElem hjl, nodesL_append]
          simp [nodesL]
        omega
  obtain ⟨i1, i2⟩ := loop 0 (n - 1) (by omega) (by simp; omega)
  simp only [List.drop_zero, List.take_zero, nodesL] at i1 i2
  exact ⟨i1, by omega⟩

theorem wayL_at (ks : List TTree) : ∀ (v i m : Nat) (h : v < ks.length), m < nodes ks[v] → wayL ks (nodesL (ks.take v) + m) i = (i + v) :: wayN ks[v] m := by
  induction ks with
  | nil => intro v i m h; simp at h
  | cons k ks ih =>
    intro v i m h hm
    cases v with
    | zero =>
      simp only [List.take_zero, nodesL, Nat.zero_add, List.getElem_cons_zero] at hm ⊢
      rw [wayL, if_pos hm]
      rfl
    | succ v =>
      simp only [List.take_succ_cons, nodesL, List.getElem_cons_succ] at hm ⊢
      rw [wayL, if_neg (by omega), show nodes k + nodesL (ks.take v) + m - nodes k = nodesL (ks.take v) + m by omega, ih v (i + 1) m (by simpa using h) hm]
      congr 1
      omega
theorem numW_lt : ∀ (w : List Nat) (t : TTree), Vw t w → numW t w < nodes t
  | [], t, _ => by rw [nodes_eq, numW]; omega
  | v :: w, t, ⟨h, hw⟩ => by
    have := numW_lt w _ hw
    have h2 := nodesL_take t.Kids v h
    rw [numW_cons t v w h, nodes_eq t]
    omega
theorem way_back : ∀ (w : List Nat) (t : TTree), Vw t w → wayN t (numW t w) = w
  | [], t, _ => by rw [wayN_eq]; simp [numW]
  | v :: w, t, ⟨h, hw⟩ => by
    have hlt := numW_lt w _ hw
    rw [numW_cons t v w h, wayN_eq, if_neg (by omega), show 1 + nodesL (t.Kids.take v) + numW t.Kids[v] w - 1 = nodesL (t.Kids.take v) + numW t.Kids[v] w by omega, wayL_at t.Kids v 0 _ h hlt, way_back w _ hw]
    simp
theorem Vw.len : ∀ (w : List Nat) (t : TTree), Vw t w → w.length ≤ depth t
  | [], _, _ => Nat.zero_le _
  | v :: w, t, ⟨h, hw⟩ => by
    have h1 := Vw.len w _ hw
    have h2 := depth_kid t.Kids _ (List.getElem_mem h)
    rw [depth_eq t, List.length_cons]
    omega

/-- Partners of the kids of two trees. -/
def pr (a b : TTree) : List Int := (prts a.Kids b.Kids (List.replicate a.Kids.length false)).1
theorem pr_len (a b : TTree) : (pr a b).length = b.Kids.length := (prts_len a.Kids b.Kids _).1
/-- The way to what a part becomes. -/
def after : List Nat → TTree → TTree → Option (List Nat)
  | [], _, _ => some []
  | v :: w, a, b => if idx (pr a b) v < 0 then none else match a.Kids[v]?, b.Kids[(idx (pr a b) v).toNat]? with
    | some ka, some kb => (after w ka kb).map fun w' => (idx (pr a b) v).toNat :: w'
    | _, _ => none
theorem idx_get (xs : List Int) (v : Int) (h : 0 ≤ idx xs v) : ∃ hl : (idx xs v).toNat < xs.length, xs[(idx xs v).toNat] = v := by
  unfold idx at h ⊢
  split at h
  · rename_i hm
    refine ⟨by simpa [hm] using List.idxOf_lt_length_of_mem hm, ?_⟩
    simp [hm]
  · omega
theorem after_valid : ∀ (w : List Nat) (a b : TTree) (w' : List Nat), after w a b = some w' → Vw b w'
  | [], a, b, w', h => by simp [after] at h; subst h; trivial
  | v :: w, a, b, w', h => by
    unfold after at h
    split at h
    · simp at h
    · split at h
      · rename_i ka kb h1 h2
        obtain ⟨w2, e1, rfl⟩ := Option.map_eq_some_iff.1 h
        obtain ⟨hl, rfl⟩ := List.getElem?_eq_some_iff.1 h2
        exact ⟨hl, after_valid w _ _ w2 e1⟩
      · simp at h
theorem after_inj : ∀ (w1 w2 : List Nat) (a b : TTree) (w' : List Nat), after w1 a b = some w' → after w2 a b = some w' → w1 = w2
  | [], [], _, _, _, _, _ => rfl
  | [], v :: w, a, b, w', h1, h2 => by
    simp [after] at h1
    subst h1
    unfold after at h2
    split at h2
    · simp at h2
    · split at h2 <;> simp at h2
  | v :: w, [], a, b, w', h1, h2 => by
    simp [after] at h2
    subst h2
    unfold after at h1
    split at h1
    · simp at h1
    · split at h1 <;> simp at h1
  | v1 :: w1, v2 :: w2, a, b, w', h1, h2 => by
    unfold after at h1 h2
    split at h1 <;> try (simp at h1; done)
    split at h1 <;> try (simp at h1; done)
    split at h2 <;> try (simp at h2; done)
    split at h2 <;> try (simp at h2; done)
    rename_i n1 _ _ ka kb g1 g2 n2 _ _ kc kd g3 g4
    obtain ⟨u1, e1, e2⟩ := Option.map_eq_some_iff.1 h1
    obtain ⟨u2, e3, e4⟩ := Option.map_eq_some_iff.1 h2
    rw [← e4] at e2
    simp only [List.cons.injEq] at e2
    obtain ⟨hl1, x1⟩ := idx_get (pr a b) v1 (by omega)
    obtain ⟨hl2, x2⟩ := idx_get (pr a b) v2 (by omega)
    have hv : v1 = v2 := by
      have : (pr a b)[(idx (pr a b) v1).toNat]'hl1 = (pr a b)[(idx (pr a b) v2).toNat]'hl2 := by congr 1; exact e2.1
      rw [x1, x2] at this
      omega
    subst hv
    rw [g1] at g3
    rw [g2] at g4
    simp only [Option.some.injEq] at g3 g4
    subst g3 g4
    rw [e2.2] at e1
    rw [after_inj w1 w2 ka kb u2 e1 e3]

/-- The number of what a part becomes. -/
def tgt (a b : TTree) (n : Nat) : Option Nat := if a.Tag = b.Tag ∧ a.Key = b.Key then (after (wayN a n) a b).map (numW b) else none
theorem tgt_lt (a b : TTree) (n k : Nat) (h : tgt a b n = some k) : k < nodes b := by
  unfold tgt at h
  split at h
  · obtain ⟨w, e1, rfl⟩ := Option.map_eq_some_iff.1 h
    exact numW_lt w b (after_valid _ _ _ _ e1)
  · simp at h
theorem tgt_inj (a b : TTree) (n m k : Nat) (hn : n < nodes a) (hm : m < nodes a) (h1 : tgt a b n = some k) (h2 : tgt a b m = some k) : n = m := by
  unfold tgt at h1 h2
  split at h1
  · obtain ⟨w1, e1, f1⟩ := Option.map_eq_some_iff.1 h1
    rename_i hc
    rw [if_pos hc] at h2
    obtain ⟨w2, e2, f2⟩ := Option.map_eq_some_iff.1 h2
    have hw : w1 = w2 := by rw [← way_back w1 b (after_valid _ _ _ _ e1), ← way_back w2 b (after_valid _ _ _ _ e2), f1, f2]
    subst hw
    have := after_inj _ _ a b _ e1 e2
    rw [← (wayN_ok a n hn).2, ← (wayN_ok a m hm).2, this]
  · simp at h1
end Go.Fw.Law
