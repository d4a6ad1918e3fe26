/- Plain laws, part J: the edits of the program are the edits of the reference. Plain laws, part K: TreeMoves is the reference's, and the law FnExactTreeMoves. Conditions: none. -/
import Derived.Test.YtdafhkchonfkjaaDoorPlA
namespace Go.Fw.Law
open Go Go.Fw

theorem nodes_mem : ∀ (ts : List TTree) (t : TTree), t ∈ ts → nodes t ≤ nodesL ts
  | [], t, h => by simp at h
  | x :: xs, t, h => by
    rcases List.mem_cons.1 h with rfl | h
    · simp [nodesL]
    · have := nodes_mem xs t h; simp [nodesL]; omega
theorem depth_mem : ∀ (ts : List TTree) (t : TTree), t ∈ ts → depth t ≤ depthL ts
  | [], t, h => by simp at h
  | x :: xs, t, h => by
    rcases List.mem_cons.1 h with rfl | h
    · simp [depthL]; omega
    · have := depth_mem xs t h; simp [depthL]; omega

theorem kept_filter (U : List Bool) (n : Nat) : kept U 0 n = ((List.range n).filter fun k => decide (U[k]? = some true)).map (fun k : Nat => (k : Int)) := by
  rw [kept, Nat.sub_zero, List.range_eq_range']
theorem idx_used {P : List Int} {U : List Bool} {k : Nat} (h : U[k]? = some true ↔ (k : Int) ∈ P) : (0 ≤ idx P k ↔ U[k]? = some true) ∧ (idx P k < 0 ↔ ¬ U[k]? = some true) := by
  rw [h]
  unfold idx
  by_cases hm : (k : Int) ∈ P
  · simp [hm]
  · simp [hm]
/-- The reference's edits of kids, up to the walk. -/
theorem kidEdits_walk (Ka Kb : List TTree) (w : List Int) (hw : w.length ≤ 1048576) (ha : Ka.length ≤ 10000) (hb : Kb.length ≤ 10000) (P : List Int) (U : List Bool) (M : List Bool) (hP : P.length ≤ 10000) (hU : ∀ k : Nat, U[k]? = some true ↔ (k : Int) ∈ P)
    (hM : spec_longestRise P = some M) (r : List TEdit) (hr : spec_kidEdits_b3 Kb w (gones w U Ka.length) P (kept U 0 Ka.length) M ((kept U 0 Ka.length).length : Int) ((Kb.length : Int) - 1) = some r) :
    spec_kidEdits_b1 Ka Kb w [] P [] 0 = some r := by
  have gone : ∀ j : Nat, j ≤ Ka.length → ∀ acc : List TEdit, acc.length + j ≤ 100000 → acc ++ gones w U j = gones w U Ka.length → spec_kidEdits_b2 Kb w acc P (kept U 0 Ka.length) ((j : Int) - 1) = some r := by
    intro j
    induction j with
    | zero =>
      intro _ acc _ he
      refine spec_kidEdits_b2_of _ _ _ _ _ _ ?_
      rw [hM, w64_id (show -9223372036854775808 ≤ (Kb.length : Int) - 1 by omega) (by omega)]
      simp only [gones, List.append_nil] at he
      rw [he]
      simpa using hr
    | succ j ih =>
      intro hj acc hacc he
      have e : (((j + 1 : Nat) : Int) - 1) = (j : Int) := by omega
      have hwd : w64 ((j : Int) - 1) = (j : Int) - 1 := w64_id (by omega) (by omega)
      obtain ⟨u1, u2⟩ := idx_used (hU j)
      rw [e]
      refine spec_kidEdits_b2_of _ _ _ _ _ _ ?_
      rw [decide_eq_true (show (0 : Int) ≤ (j : Int) by omega), indexOf_ok P j (by omega), hwd]
      simp only [gones] at he
      by_cases hu : U[j]? = some true
      · have := ih (by omega) acc (by omega) (by simpa [hu] using he)
        simpa [show ¬ idx P j < 0 from fun h => u2.1 h hu] using this
      · have := ih (by omega) (acc ++ [⟨4, w, j, 0, noVal, noTree⟩]) (by simp; omega) (by simpa [hu] using he)
        have hap : apOk 160 acc [(⟨4, w, j, 0, noVal, noTree⟩ : TEdit)] := apN _ _ _ (by omega) (by omega) (by simp)
        have hwap : apOk 8 ([] : List Int) w := apN _ _ _ (by omega) (by simp) hw
        simp only [noVal, noTree] at hap this
        simpa [u2.2 hu, hap, hwap] using this
  have now : ∀ k : Nat, k ≤ Ka.length → spec_kidEdits_b1 Ka Kb w [] P (kept U 0 k) k = some r := by
    refine upto _ ?_ ?_
    · refine spec_kidEdits_b1_of _ _ _ _ _ _ _ ?_
      rw [dge, w64_id (show -9223372036854775808 ≤ (Ka.length : Int) - 1 by omega) (by omega)]
      simpa using gone Ka.length (Nat.le_refl _) [] (by simp; omega) (by simp)
    · intro k hk ih
      obtain ⟨u1, u2⟩ := idx_used (hU k)
      refine spec_kidEdits_b1_of _ _ _ _ _ _ _ ?_
      rw [dlt hk, indexOf_ok P k (by omega), w64s (by omega)]
      have hkl : (kept U 0 k).length ≤ k := by
        rw [kept_filter, List.length_map]
        exact Nat.le_trans (List.length_filter_le _ _) (by simp)
      have hap : apOk 8 (kept U 0 k) [(k : Int)] := apN _ _ _ (by omega) (by omega) (by simp)
      have hs : kept U 0 (k + 1) = kept U 0 k ++ (if U[k]? = some true then [(k : Int)] else []) := by
        rw [kept_filter, kept_filter, List.range_succ, List.filter_append, List.map_append]
        by_cases hu : U[k]? = some true <;> simp [hu]
      by_cases hu : U[k]? = some true
      · rw [hs, if_pos hu] at ih
        simpa [u1.2 hu, hap] using ih
      · rw [hs, if_neg hu, List.append_nil] at ih
        simpa [show ¬ 0 ≤ idx P k from fun h => hu (u1.1 h)] using ih
  have := now 0 (by omega)
  rw [show kept U 0 0 = [] from rfl] at this
  exact this

/-- The edits of kids: the program does what the reference does. -/
theorem kids_ok (a b : TTree) (w : List Int) (hw : w.length ≤ 1048576) (ha : a.Kids.length ≤ 1000) (hb : b.Kids.length ≤ 1000) (hc : ∀ k ∈ b.Kids, spec_copyTree k = some k ∧ impl_treeCopy k = some k) (pre : List TEdit) (hpre : pre.length ≤ 1000) :
    ∃ E, spec_kidEdits a.Kids b.Kids w = some E ∧ E.length ≤ a.Kids.length + b.Kids.length ∧
      ∀ r, impl_edits_b7 w (pre ++ E) (parts a.Kids b.Kids (List.replicate a.Kids.length false)).1 b.Kids b.Kids.length 0 a = some r → impl_edits_b1 w pre [] (List.replicate a.Kids.length false) b.Kids b.Kids.length 0 a b = some r := by
  have htk : (List.replicate a.Kids.length false).length = a.Kids.length := by simp
  obtain ⟨hPl, hUl⟩ := parts_len a.Kids b.Kids (List.replicate a.Kids.length false)
  have hused := parts_used a.Kids b.Kids (List.replicate a.Kids.length false) htk
  have hspec := parts_spec a.Kids b.Kids (List.replicate a.Kids.length false) htk
  have hpart := partners_ok a.Kids b.Kids (by omega) (by omega)
  have himpl := edits_parts a b w pre (by omega) (by omega) 0 (by omega) [] (List.replicate a.Kids.length false) rfl htk
  rw [List.drop_zero, List.nil_append] at himpl
  generalize hPe : (parts a.Kids b.Kids (List.replicate a.Kids.length false)).1 = P at *
  generalize hUe : (parts a.Kids b.Kids (List.replicate a.Kids.length false)).2 = U at *
  rw [htk] at hUl
  have hU : ∀ k : Nat, U[k]? = some true ↔ (k : Int) ∈ P := fun k => by
    rw [hused k]
    constructor
    · rintro (h | h)
      · rw [List.getElem?_replicate] at h; split at h <;> simp at h
      · exact h
    · exact .inr
  obtain ⟨M, m1, m2, m3⟩ := rise_ok P (by omega)
  have hkm : ∀ x, x ∈ kept U 0 a.Kids.length ↔ ∃ k : Nat, k < a.Kids.length ∧ U[k]? = some true ∧ (k : Int) = x := fun x => by
    rw [kept_filter]; simp [and_assoc]
  have hkl : (kept U 0 a.Kids.length).length ≤ a.Kids.length := by
    rw [kept_filter, List.length_map]
    exact Nat.le_trans (List.length_filter_le _ _) (by simp)
  have hm1 : (-1 : Int) ∉ kept U 0 a.Kids.length := fun h => by obtain ⟨k, _, _, e⟩ := (hkm _).1 h; omega
  have st : Stay P (kept U 0 a.Kids.length) (-2) (-1) b.Kids.length := by
    refine ⟨?_, hm1, by omega, fun x hx h0 => ?_, fun q hq h0 => ?_, .inl rfl, fun q hq _ h0 e => by omega⟩
    · rw [kept_filter]
      exact List.Pairwise.map _ (fun a b (h : a ≠ b) e => h (by omega)) (List.Pairwise.filter _ List.nodup_range)
    · obtain ⟨k, _, _, e⟩ := (hkm _).1 hx; omega
    · rcases hspec q hq with h1 | ⟨m, h1, _, ⟨h3, _⟩, _⟩
      · omega
      · rw [hkm]
        exact ⟨m, h3, (hU m).2 (h1 ▸ List.getElem_mem hq), h1.symm⟩
  have dist : ∀ (q q' : Nat) (hq : q < P.length) (hq' : q' < P.length), q < q' → 0 ≤ P[q] → P[q] ≠ P[q'] := by
    intro q q' hq hq' hlt h0
    rcases hspec q hq with h1 | ⟨m, h1, _, _, h5⟩
    · omega
    · rw [h1]; exact fun e => h5 q' hq' hlt e.symm
  have hgl := gones_len w U a.Kids.length
  obtain ⟨E, s1, s2, s3⟩ := kid_walk a b pre hpre w hw (by omega) hc P M hPl (by omega) dist b.Kids.length (Nat.le_refl _) (gones w U a.Kids.length) (kept U 0 a.Kids.length) (-2) (-1) st (by omega) (by omega) (by omega)
  have hmap : (kept U 0 a.Kids.length).map neg1 = kept U 0 a.Kids.length := by
    conv => rhs; rw [← List.map_id (kept U 0 a.Kids.length)]
    refine List.map_congr_left fun x hx => ?_
    obtain ⟨k, _, _, e⟩ := (hkm _).1 hx
    exact neg1_pos (by omega)
  rw [hmap, idxOf_notmem hm1] at s1
  refine ⟨E, spec_kidEdits_of _ _ _ ?_, by omega, fun r hr => himpl r ?_⟩
  · rw [hpart]
    simp only [Option.bind_some]
    exact kidEdits_walk a.Kids b.Kids w hw (by omega) (by omega) P U M (by omega) hU m1 E s1
  · have h4 := edits_gones a b w hw P U M a.Kids.length (by omega) hUl (by omega) m2 r a.Kids.length (Nat.le_refl _) pre (by omega) (s3 r hr)
    rw [kept_end, List.append_nil] at h4
    exact edits_rng a b w pre P U (by omega) r h4 0 (by omega)

/-- The edits of parts. -/
theorem edits_ok : ∀ b : TTree, ∀ (a : TTree) (w : List Int), Lm 1048576 a → Lm 1048576 b → nodes a ≤ 200 → nodes b ≤ 200 → w.length + depth b ≤ 2000 → a.Tag = b.Tag → a.Key = b.Key →
    ∃ E, spec_partEdits a b w = some E ∧ impl_edits a b w = some E ∧ E.length ≤ 410 * nodes b := by
  refine TTree.ind ?_
  intro b ih a w hla hlb hna hnb hwd htag hkey
  have na := nodes_eq a
  have nb := nodes_eq b
  have db := depth_eq b
  have la := nodesL_len a.Kids
  have lb := nodesL_len b.Kids
  have hw : w.length ≤ 1048576 := by omega
  have hwap : apOk 8 ([] : List Int) w := apN _ _ _ (by omega) (by simp) hw
  by_cases h1 : b.Tag = -1
  · by_cases h2 : a.Text = b.Text
    · exact ⟨[], spec_partEdits_of _ _ _ (by simp [h1, h2]), impl_edits_of _ _ _ (by simp [htag, hkey, h1, h2]), by simp⟩
    · exact ⟨[⟨1, w, 0, 0, ⟨2, 0, b.Text⟩, noTree⟩], spec_partEdits_of _ _ _ (by simp [h1, h2, hwap]), impl_edits_of _ _ _ (by simp [htag, hkey, h1, h2, wayCopy_ok w hw]), by simp; omega⟩
  · obtain ⟨E1, p1, p2, p3⟩ := propEdits_ok a b w hw hla.ps hlb.ps
    obtain ⟨E2, k1, k2, k3⟩ := kids_ok a b w hw (by omega) (by omega) (fun k hk => ⟨copyTree_ok k (hlb.ks k hk), treeCopy_ok k (hlb.ks k hk)⟩) E1 (by omega)
    have htk : (List.replicate a.Kids.length false).length = a.Kids.length := by simp
    have hpart := partners_ok a.Kids b.Kids (by omega) (by omega)
    obtain ⟨hPl, _⟩ := parts_len a.Kids b.Kids (List.replicate a.Kids.length false)
    have hspec := parts_spec a.Kids b.Kids (List.replicate a.Kids.length false) htk
    generalize (parts a.Kids b.Kids (List.replicate a.Kids.length false)).1 = P at *
    have loop : ∀ k : Nat, k ≤ b.Kids.length → ∀ acc : List TEdit, acc.length + 410 * nodesL (b.Kids.drop k) ≤ 410 * 200 → ∃ E, spec_partEdits_b1 w acc P k a b = some E ∧ impl_edits_b7 w acc P b.Kids b.Kids.length k a = some E ∧ E.length ≤ acc.length + 410 * nodesL (b.Kids.drop k) := by
      refine upto _ ?_ ?_
      · intro acc _
        exact ⟨acc, spec_partEdits_b1_of _ _ _ _ _ _ (by simp), impl_edits_b7_of _ _ _ _ _ _ _ (by simp), by omega⟩
      · intro k hk ihk acc hacc
        rw [drop_at hk, nodesL] at hacc ⊢
        have hkP : k < P.length := by omega
        have hws : w64 ((k : Int) + 1) = ((k + 1 : Nat) : Int) := w64s (by omega)
        rcases hspec k hkP with q1 | ⟨m, q1, _, ⟨q3, _, q4, q5⟩, _⟩
        · obtain ⟨E, e1, e2, e3⟩ := ihk acc (by omega)
          refine ⟨E, spec_partEdits_b1_of _ _ _ _ _ _ ?_, impl_edits_b7_of _ _ _ _ _ _ _ ?_, by omega⟩
          · rw [dlt hk, rdx_nat hkP, hws]; simpa [q1] using e1
          · rw [dlt hk, rdx_nat hkP, rdx_nat hk, hws]; simpa [q1] using e2
        · have n1 := nodes_mem a.Kids a.Kids[m] (List.getElem_mem q3)
          have n2 := nodes_mem b.Kids b.Kids[k] (List.getElem_mem hk)
          have d2 := depth_mem b.Kids b.Kids[k] (List.getElem_mem hk)
          obtain ⟨E3, f1, f2, f3⟩ := ih b.Kids[k] (List.getElem_mem hk) a.Kids[m] (w ++ [(k : Int)]) (hla.ks _ (List.getElem_mem q3)) (hlb.ks _ (List.getElem_mem hk)) (by omega) (by omega) (by simp; omega) q4 q5
          obtain ⟨E, e1, e2, e3⟩ := ihk (acc ++ E3) (by simp; omega)
          have hap : apOk 160 acc E3 := apN _ _ _ (by omega) (by omega) (by omega)
          have hap2 : apOk 8 w [(k : Int)] := apN _ _ _ (by omega) hw (by simp)
          have hmore : impl_wayMore w k = some (w ++ [(k : Int)]) := impl_wayMore_of _ _ (by simp [hwap, hap2])
          refine ⟨E, spec_partEdits_b1_of _ _ _ _ _ _ ?_, impl_edits_b7_of _ _ _ _ _ _ _ ?_, by simp at e3; omega⟩
          · rw [dlt hk, rdx_nat hkP, rdx_nat hk, hws]
            simp only [q1, if_true, Option.bind_some]
            rw [decide_eq_true (show (0 : Int) ≤ (m : Int) by omega), rdx_nat q3]
            simp only [if_true, Option.bind_some, hwap, hap2, f1, hap]
            exact e1
          · rw [dlt hk, rdx_nat hkP, rdx_nat hk, hws]
            simp only [q1, if_true, Option.bind_some]
            rw [decide_eq_true (show (0 : Int) ≤ (m : Int) by omega), rdx_nat q3]
            simp only [if_true, Option.bind_some, hmore, f2, hap]
            exact e2
    obtain ⟨E, e1, e2, e3⟩ := loop 0 (by omega) (E1 ++ E2) (by rw [List.drop_zero, List.length_append]; omega)
    rw [List.drop_zero, List.length_append] at e3
    have hap : apOk 160 E1 E2 := apN _ _ _ (by omega) (by omega) (by omega)
    refine ⟨E, spec_partEdits_of _ _ _ ?_, impl_edits_of _ _ _ ?_, by omega⟩
    · rw [decide_eq_false h1, p1, k1, hpart]
      simp only [Bool.false_eq_true, if_false, Option.bind_some, if_pos hap]
      exact e1
    · rw [decide_eq_true htag, decide_eq_true hkey, decide_eq_false (show ¬ a.Tag = -1 from fun h => h1 (htag ▸ h)), p2]
      simp only [Bool.not_true, Bool.false_eq_true, if_false, Option.bind_some]
      rw [if_pos (len_ok (show a.Kids.length ≤ 1048576 by omega) 1 (.inl rfl))]
      exact k3 E e2

/-- The edits of trees. -/
theorem trees_ok (a b : TTree) (hla : Lm 1048576 a) (hlb : Lm 1048576 b) (ha : treeB a = true) (hb : treeB b = true) : ∃ E, spec_treeEdits a b = some E ∧ impl_edits a b [] = some E ∧ E.length ≤ 410 * 200 := by
  simp only [treeB, Bool.and_eq_true, decide_eq_true_eq] at ha hb
  have hw := wayCopy_ok [] (by simp)
  have c1 := copyTree_ok b hlb
  have c2 := treeCopy_ok b hlb
  by_cases h1 : a.Tag = b.Tag
  · by_cases h2 : a.Key = b.Key
    · obtain ⟨E, e1, e2, e3⟩ := edits_ok b a [] hla hlb ha.1.2 hb.1.2 (by have := hb.1.1; simp; omega) h1 h2
      exact ⟨E, spec_treeEdits_of _ _ (by simp [h1, h2, e1]), e2, by have := hb.1.2; omega⟩
    · exact ⟨[⟨0, [], 0, 0, noVal, b⟩], spec_treeEdits_of _ _ (by simp [h1, h2, c1]), impl_edits_of _ _ _ (by simp [h1, h2, hw, c2]), by simp⟩
  · exact ⟨[⟨0, [], 0, 0, noVal, b⟩], spec_treeEdits_of _ _ (by simp [h1, c1]), impl_edits_of _ _ _ (by simp [h1, hw, c2]), by simp⟩
end Go.Fw.Law
namespace Go.Fw.Law
open Go Go.Fw

/-- The count of edits of one kind. -/
def cntK (k : Int) (es : List TEdit) : Nat := (es.filter fun e => decide (e.Kind = k)).length
theorem cntK_take (k : Int) (es : List TEdit) (j : Nat) (hj : j < es.length) : cntK k (es.take (j + 1)) = cntK k (es.take j) + (if es[j].Kind = k then 1 else 0) := by
  unfold cntK
  rw [List.take_succ_eq_append_getElem hj, List.filter_append, List.length_append]
  by_cases h : es[j].Kind = k <;> simp [h]
theorem cntK_le (k : Int) (es : List TEdit) (j : Nat) : cntK k (es.take j) ≤ j := by
  unfold cntK
  exact Nat.le_trans (List.length_filter_le _ _) (by simp; omega)

theorem specCount (k : Int) (es : List TEdit) (hl : es.length ≤ 1000000) : ∀ j, j ≤ es.length → spec_TreeMoves_b1 k (cntK k (es.take j) : Nat) es j = some (cntK k es : Int) := by
  refine upto _ ?_ ?_
  · exact spec_TreeMoves_b1_of _ _ _ _ (by simp)
  · intro j hj ih
    refine spec_TreeMoves_b1_of _ _ _ _ ?_
    have hc := cntK_le k es j
    rw [dlt hj, rdx_nat hj, w64s (by omega), w64s (by omega)]
    rw [cntK_take k es j hj] at ih
    by_cases h : es[j].Kind = k
    · simpa [h] using ih
    · simpa [h] using ih
theorem implCount (k : Int) (es : List TEdit) (hl : es.length ≤ 1000000) : ∀ j, j ≤ es.length → impl_TreeMoves_b1 k (cntK k (es.take j) : Nat) es es.length j = some (cntK k es : Int) := by
  refine upto _ ?_ ?_
  · exact impl_TreeMoves_b1_of _ _ _ _ _ (by simp)
  · intro j hj ih
    refine impl_TreeMoves_b1_of _ _ _ _ _ ?_
    have hc := cntK_le k es j
    rw [dlt hj, rdx_nat hj, w64s (by omega), w64s (by omega)]
    rw [cntK_take k es j hj] at ih
    by_cases h : es[j].Kind = k
    · simpa [h] using ih
    · simpa [h] using ih

theorem TreeMoves_ok (a b : TTree) (k : Int) (hla : Lm 1048576 a) (hlb : Lm 1048576 b) : ∃ r, spec_TreeMoves a b k = some r ∧ impl_TreeMoves a b k = some r := by
  have va := validTree_ok a hla
  have vb := validTree_ok b hlb
  have ta := TreeOk_ok a hla
  have tb := TreeOk_ok b hlb
  by_cases ha : treeB a = true
  · by_cases hb : treeB b = true
    · by_cases hk : inB k 0 6 = true
      · obtain ⟨E, e1, e2, e3⟩ := trees_ok a b hla hlb ha hb
        refine ⟨(cntK k E : Int), spec_TreeMoves_of _ _ _ ?_, impl_TreeMoves_of _ _ _ ?_⟩
        · have := specCount k E (by omega) 0 (by omega)
          simp only [List.take_zero, show cntK k [] = 0 from rfl] at this
          simpa [va, vb, ha, hb, inRange_ok, hk, e1] using this
        · have := implCount k E (by omega) 0 (by omega)
          simp only [List.take_zero, show cntK k [] = 0 from rfl] at this
          have hlen := e3
          simpa [ta, tb, ha, hb, within_ok, hk, e2] using this
      · exact ⟨-1, spec_TreeMoves_of _ _ _ (by simp [va, vb, ha, hb, inRange_ok, hk]), impl_TreeMoves_of _ _ _ (by simp [ta, tb, ha, hb, within_ok, hk])⟩
    · exact ⟨-1, spec_TreeMoves_of _ _ _ (by simp [va, vb, ha, hb]), impl_TreeMoves_of _ _ _ (by simp [ta, tb, ha, hb])⟩
  · exact ⟨-1, spec_TreeMoves_of _ _ _ (by simp [va, ha]), impl_TreeMoves_of _ _ _ (by simp [ta, ha])⟩

/-- The law: the program's count is the reference's, at all trees. -/
theorem law_TreeMoves (a b : TTree) (k : Int) (ha : Lm 9223372036854775807 a) (hb : Lm 9223372036854775807 b) : laws_FnExactTreeMoves a b k = some true := by
  obtain ⟨r1, s1, s2, s3⟩ := szTree_ok a ha 1048576 (by omega) (by omega)
  refine laws_FnExactTreeMoves_of _ _ _ ?_
  rw [s1]
  by_cases h1 : r1 < 0
  · simp [h1]
  · obtain ⟨r2, q1, q2, q3⟩ := szTree_ok b hb r1 (by omega) (by omega)
    by_cases h2 : r2 < 0
    · simp [h1, q1, h2]
    · have la := s3 (by omega)
      have lb := q3 (by omega)
      obtain ⟨r, t1, t2⟩ := TreeMoves_ok a b k la lb
      simp [h1, q1, toTree_ok a la, toTree_ok b lb, t1, t2, eqTree_ok a la, eqTree_ok b lb]
end Go.Fw.Law
