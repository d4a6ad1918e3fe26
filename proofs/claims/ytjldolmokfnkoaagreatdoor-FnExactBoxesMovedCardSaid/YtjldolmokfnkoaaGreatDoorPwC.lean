/- Plain laws of ways, part C: ways, numbers and what becomes of parts, by the program and by the reference. Plain laws of ways, part D: BoxesMoved is the reference's, and the law FnExactBoxesMoved. Conditions: none. -/
import Derived.Test.YtjldolmokfnkoaaGreatDoorPnE
namespace Go.Fw.Law
open Go Go.Fw

def ci (w : List Nat) : List Int := w.map fun n : Nat => (n : Int)
theorem ci_len (w : List Nat) : (ci w).length = w.length := by simp [ci]
theorem ci_at (W : List Nat) (i v : Nat) (rest : List Nat) (h : W.drop i = v :: rest) : rdx (ci W) (i : Int) = some (v : Int) ∧ i < W.length ∧ W.drop (i + 1) = rest := by
  have hl : i < W.length := Nat.lt_of_not_le fun hh => by rw [List.drop_eq_nil_of_le hh] at h; simp at h
  rw [drop_at hl] at h
  simp only [List.cons.injEq] at h
  refine ⟨?_, hl, h.2⟩
  rw [rdx_nat (by simpa [ci] using hl)]
  simp [ci, h.1]

/-- A tree of which the size is told. -/
structure Sz (t : TTree) : Prop where
  va : Va t
  dp : depth t ≤ 24
  nd : nodes t ≤ 200
theorem Sz.kid {t : TTree} (h : Sz t) {k : TTree} (hk : k ∈ t.Kids) : Sz k := by
  have h1 := depth_kid t.Kids k hk
  have h2 := nodes_kid t.Kids k hk
  have h3 := depth_eq t
  have h4 := nodes_eq t
  have h5 := h.dp
  have h6 := h.nd
  exact ⟨h.va.ks k hk, by omega, by omega⟩
theorem Sz.count {t : TTree} (h : Sz t) : impl_treeCount t = some (nodes t : Int) := treeCount_ok t h.va (by have := h.nd; omega)
theorem Sz.size {t : TTree} (h : Sz t) : spec_treeSize t 1 = some (nodes t : Int) := by
  obtain ⟨n, e1, e2, e3, e4⟩ := treeSize_ok t h.va.lk.lm 1 (by omega) (by omega)
  have := h.dp
  have := h.nd
  rw [show ((1 : Nat) : Int) = 1 from rfl] at e1
  rw [e1, e4 (e3.2 ⟨by omega, by omega⟩)]

theorem partWay_ok : ∀ t, Sz t → ∀ n : Nat, n < nodes t → impl_partWay t n = some (ci (wayN t n), true) := by
  refine TTree.ind ?_
  intro t ih hs n hn
  have hnn := nodes_eq t
  have hnd := hs.nd
  have hkl := nodesL_len t.Kids
  refine impl_partWay_of _ _ ?_
  rw [wayN_eq]
  by_cases h0 : n = 0
  · subst h0; simp [ci]
  rw [if_neg h0, decide_eq_false (show ¬ (n : Int) = 0 by omega)]
  simp only [Bool.false_eq_true, if_false]
  have loop : ∀ j, j ≤ t.Kids.length → ∀ m : Nat, m < nodesL (t.Kids.drop j) → impl_partWay_b1 m t.Kids t.Kids.length j = some (ci (wayL (t.Kids.drop j) m j), true) := by
    refine upto _ ?_ ?_
    · intro m hm; simp [nodesL] at hm
    · intro j hj ihj m hm
      refine impl_partWay_b1_of _ _ _ _ ?_
      have hmem := List.getElem_mem hj
      have hnk := nodes_kid t.Kids _ hmem
      have hnt := nodesL_take t.Kids j hj
      rw [drop_at hj, nodesL] at hm
      rw [drop_at hj, wayL]
      simp only [dlt hj, if_true, rdx_nat hj, Option.bind_some, (hs.kid hmem).count, w64s (show (j : Int) + 1 < 9223372036854775808 by omega)]
      by_cases hlt : m < nodes t.Kids[j]
      · rw [decide_eq_false (show ¬ (nodes t.Kids[j] : Int) ≤ (m : Int) by omega), if_pos hlt]
        have hl : (ci (wayN t.Kids[j] m)).length ≤ 1000 := by
          have := Vw.len _ _ (wayN_ok t.Kids[j] m hlt).1
          have := (hs.kid hmem).dp
          rw [ci_len]; omega
        simp only [Bool.false_eq_true, if_false, ih _ hmem (hs.kid hmem) m hlt, Option.bind_some]
        rw [if_pos (apN 8 [(j : Int)] _ (by omega) (by simp) (by omega))]
        simp [ci]
      · have w : w64 ((m : Int) - (nodes t.Kids[j] : Int)) = ((m - nodes t.Kids[j] : Nat) : Int) := by rw [w64_id (by omega) (by omega)]; omega
        rw [decide_eq_true (show (nodes t.Kids[j] : Int) ≤ (m : Int) by omega), if_neg hlt, w]
        exact ihj _ (by omega)
  have w : w64 ((n : Int) - 1) = ((n - 1 : Nat) : Int) := by rw [w64_id (by omega) (by omega)]; omega
  rw [w]
  simpa using loop 0 (by omega) (n - 1) (by simp; omega)

theorem wayTo_ok : ∀ t, Sz t → ∀ n : Nat, n < nodes t → ∃ q, spec_wayTo t 0 n = some (ci (wayN t n), q) := by
  refine TTree.ind ?_
  intro t ih hs n hn
  have hnn := nodes_eq t
  have hnd := hs.nd
  have hkl := nodesL_len t.Kids
  rw [wayN_eq]
  by_cases h0 : n = 0
  · subst h0; exact ⟨0, spec_wayTo_of _ _ _ (by simp [ci])⟩
  rw [if_neg h0]
  have loop : ∀ j, j ≤ t.Kids.length → ∀ at_ m : Nat, m < nodesL (t.Kids.drop j) → at_ + m = n → ∃ q, spec_wayTo_b1 at_ n j t = some (ci (wayL (t.Kids.drop j) m j), q) := by
    refine upto _ ?_ ?_
    · intro at_ m hm; simp [nodesL] at hm
    · intro j hj ihj at_ m hm hat
      have hmem := List.getElem_mem hj
      have hnk := nodes_kid t.Kids _ hmem
      have hnt := nodesL_take t.Kids j hj
      rw [drop_at hj, nodesL] at hm
      rw [drop_at hj, wayL]
      have w1 : w64 ((at_ : Int) + (nodes t.Kids[j] : Int)) = ((at_ + nodes t.Kids[j] : Nat) : Int) := by rw [w64_id (by omega) (by omega)]; omega
      have w2 : w64 ((n : Int) - (at_ : Int)) = (m : Int) := by rw [w64_id (by omega) (by omega)]; omega
      by_cases hlt : m < nodes t.Kids[j]
      · rw [if_pos hlt]
        obtain ⟨q, hq⟩ := ih _ hmem (hs.kid hmem) m hlt
        have hl : (ci (wayN t.Kids[j] m)).length ≤ 1000 := by
          have := Vw.len _ _ (wayN_ok t.Kids[j] m hlt).1
          have := (hs.kid hmem).dp
          rw [ci_len]; omega
        refine ⟨at_, spec_wayTo_b1_of _ _ _ _ ?_⟩
        simp only [dlt hj, if_true, rdx_nat hj, Option.bind_some, (hs.kid hmem).size, w1, w2, decide_eq_true (show (at_ : Int) ≤ (n : Int) by omega), decide_eq_true (show (n : Int) < ((at_ + nodes t.Kids[j] : Nat) : Int) by omega), hq]
        rw [if_pos (apN 8 [(j : Int)] _ (by omega) (by simp) (by omega))]
        simp [ci]
      · rw [if_neg hlt]
        obtain ⟨q, hq⟩ := ihj (at_ + nodes t.Kids[j]) (m - nodes t.Kids[j]) (by omega) (by omega)
        refine ⟨q, spec_wayTo_b1_of _ _ _ _ ?_⟩
        simp only [dlt hj, if_true, rdx_nat hj, Option.bind_some, (hs.kid hmem).size, w1, decide_eq_true (show (at_ : Int) ≤ (n : Int) by omega), decide_eq_false (show ¬ (n : Int) < ((at_ + nodes t.Kids[j] : Nat) : Int) by omega), Bool.false_eq_true, if_false, w64s (show (j : Int) + 1 < 9223372036854775808 by omega)]
        exact hq
  obtain ⟨q, hq⟩ := loop 0 (by omega) 1 (n - 1) (by simp; omega) (by omega)
  refine ⟨q, spec_wayTo_of _ _ _ ?_⟩
  rw [decide_eq_false (show ¬ (n : Int) = 0 by omega)]
  simp only [Bool.false_eq_true, if_false]
  rw [show w64 ((0 : Int) + 1) = ((1 : Nat) : Int) from rfl]
  simpa using hq

theorem numberOf_ok (W : List Nat) (hW : W.length ≤ 1000) : ∀ (rest : List Nat) (t : TTree) (i n : Nat), Sz t → W.drop i = rest → i ≤ W.length → Vw t rest → n ≤ 1000000 - 1000 * rest.length → spec_numberOf_b1 (ci W) n i t = some ((n + numW t rest : Nat) : Int)
  | [], t, i, n, _, hd, hi, _, _ => by
    have : i = W.length := by
      have := congrArg List.length hd
      simp at this
      omega
    subst this
    exact spec_numberOf_b1_of _ _ _ _ (by simp [ci_len, numW])
  | v :: rest, t, i, n, hs, hd, hi, ⟨hv, hw⟩, hn => by
    obtain ⟨e1, e2, e3⟩ := ci_at W i v rest hd
    have hnd := hs.nd
    have hnn := nodes_eq t
    have hkl := nodesL_len t.Kids
    have hnt := nodesL_take t.Kids v hv
    have hrl : rest.length + 1 ≤ 1000 := by
      have := congrArg List.length hd
      simp at this
      omega
    simp only [List.length_cons] at hn
    have ih := numberOf_ok W hW rest t.Kids[v] (i + 1) (n + 1 + nodesL (t.Kids.take v)) (hs.kid (List.getElem_mem hv)) e3 (by omega) hw (by omega)
    have inner : ∀ k, k ≤ v → ∀ m : Nat, m + nodesL ((t.Kids.take v).drop k) = n + 1 + nodesL (t.Kids.take v) → spec_numberOf_b2 (ci W) m i k t = some ((n + numW t (v :: rest) : Nat) : Int) := by
      refine upto _ ?_ ?_
      · intro m hm
        rw [List.drop_eq_nil_of_le (by simp; omega)] at hm
        simp only [nodesL, Nat.add_zero] at hm
        subst hm
        refine spec_numberOf_b2_of _ _ _ _ _ ?_
        simp only [e1, Option.bind_some, dge, Bool.false_eq_true, if_false, rdx_nat hv, w64s (show (i : Int) + 1 < 9223372036854775808 by omega), ih]
        rw [numW_cons t v rest hv]
        congr 2
        omega
      · intro k hk ihk m hm
        have hkl2 : k < t.Kids.length := by omega
        have hkt : k < (t.Kids.take v).length := by simp; omega
        rw [drop_at hkt, nodesL, List.getElem_take] at hm
        refine spec_numberOf_b2_of _ _ _ _ _ ?_
        have w1 : w64 ((m : Int) + (nodes t.Kids[k] : Int)) = ((m + nodes t.Kids[k] : Nat) : Int) := by rw [w64_id (by omega) (by omega)]; omega
        simp only [e1, Option.bind_some, dlt hk, if_true, rdx_nat hkl2, (hs.kid (List.getElem_mem hkl2)).size, w1, w64s (show (k : Int) + 1 < 9223372036854775808 by omega)]
        exact ihk _ (by omega)
    refine spec_numberOf_b1_of _ _ _ _ ?_
    rw [ci_len, dlt e2]
    simp only [if_true, w64s (show (n : Int) + 1 < 9223372036854775808 by omega)]
    simpa using inner 0 (by omega) (n + 1) (by simp)

theorem partNumber_ok (W : List Nat) (hW : W.length ≤ 1000) : ∀ (rest : List Nat) (t : TTree) (i n : Nat), Sz t → W.drop i = rest → i ≤ W.length → Vw t rest → n ≤ 1000000 - 1000 * rest.length → impl_partNumber_b1 n (ci W) W.length i t = some ((n + numW t rest : Nat) : Int)
  | [], t, i, n, _, hd, hi, _, _ => by
    have : i = W.length := by
      have := congrArg List.length hd
      simp at this
      omega
    subst this
    exact impl_partNumber_b1_of _ _ _ _ _ (by simp [numW])
  | v :: rest, t, i, n, hs, hd, hi, ⟨hv, hw⟩, hn => by
    obtain ⟨e1, e2, e3⟩ := ci_at W i v rest hd
    have hnd := hs.nd
    have hnn := nodes_eq t
    have hkl := nodesL_len t.Kids
    have hnt := nodesL_take t.Kids v hv
    have hrl : rest.length + 1 ≤ 1000 := by
      have := congrArg List.length hd
      simp at this
      omega
    simp only [List.length_cons] at hn
    have ih := partNumber_ok W hW rest t.Kids[v] (i + 1) (n + 1 + nodesL (t.Kids.take v)) (hs.kid (List.getElem_mem hv)) e3 (by omega) hw (by omega)
    have inner : ∀ k, k ≤ (t.Kids.take v).length → ∀ m : Nat, m + nodesL ((t.Kids.take v).drop k) = n + 1 + nodesL (t.Kids.take v) → impl_partNumber_b2 m v (ci W) W.length i (t.Kids.take v) (t.Kids.take v).length k t = some ((n + numW t (v :: rest) : Nat) : Int) := by
      refine upto _ ?_ ?_
      · intro m hm
        rw [List.drop_length] at hm
        simp only [nodesL, Nat.add_zero] at hm
        subst hm
        refine impl_partNumber_b2_of _ _ _ _ _ _ _ _ _ ?_
        simp only [dge, Bool.false_eq_true, if_false, rdx_nat hv, Option.bind_some, w64s (show (i : Int) + 1 < 9223372036854775808 by omega), ih]
        rw [numW_cons t v rest hv]
        congr 2
        omega
      · intro k hk ihk m hm
        have hkl2 : k < t.Kids.length := by simp at hk; omega
        rw [drop_at hk, nodesL, List.getElem_take] at hm
        refine impl_partNumber_b2_of _ _ _ _ _ _ _ _ _ ?_
        have w1 : w64 ((m : Int) + (nodes t.Kids[k] : Int)) = ((m + nodes t.Kids[k] : Nat) : Int) := by rw [w64_id (by omega) (by omega)]; omega
        have hlen : (t.Kids.take v).length ≤ 1000 := by simp; omega
        simp only [dlt hk, if_true, rdx_nat hk, List.getElem_take, Option.bind_some, (hs.kid (List.getElem_mem hkl2)).count, w1, w64s (show (k : Int) + 1 < 9223372036854775808 by omega)]
        exact ihk _ (by omega)
    refine impl_partNumber_b1_of _ _ _ _ _ ?_
    have w2 : w64 ((t.Kids.length : Int) - 1) = (t.Kids.length : Int) - 1 := w64_id (by omega) (by omega)
    have hin : inB (v : Int) 0 ((t.Kids.length : Int) - 1) = true := by simp [inB]; omega
    rw [dlt e2]
    simp only [if_true, e1, Option.bind_some, w2, within_ok, hin, Bool.not_true, Bool.false_eq_true, if_false, w64s (show (n : Int) + 1 < 9223372036854775808 by omega)]
    rw [if_pos (by omega)]
    simpa using inner 0 (by omega) (n + 1) (by simp)

/-- What becomes of a part, as both say it. -/
def afterR (w : Option (List Nat)) (pre : List Int) : List Int × Bool := match w with
  | some w' => (pre ++ ci w', true)
  | none => ([], false)
theorem afterS_ok (W : List Nat) (hW : W.length ≤ 1000) : ∀ (rest : List Nat) (a b : TTree) (i : Nat) (pre : List Int), Sz a → Sz b → W.drop i = rest → i ≤ W.length → Vw a rest → pre.length = i → spec_wayAfter_b1 (ci W) pre i a b = some (afterR (after rest a b) pre)
  | [], a, b, i, pre, _, _, hd, hi, _, _ => by
    have : i = W.length := by
      have := congrArg List.length hd
      simp at this
      omega
    subst this
    exact spec_wayAfter_b1_of _ _ _ _ _ (by simp [after, afterR, ci])
  | v :: rest, a, b, i, pre, ha, hb, hd, hi, ⟨hv, hw⟩, hp => by
    obtain ⟨e1, e2, e3⟩ := ci_at W i v rest hd
    have hka := ha.va.lk.lm.kl
    have hkb := hb.va.lk.lm.kl
    refine spec_wayAfter_b1_of _ _ _ _ _ ?_
    rw [ci_len, dlt e2]
    have e4 : spec_partners a.Kids b.Kids = some (pr a b) := partnersS_ok a.Kids b.Kids hka hkb
    have hpl := pr_len a b
    have e5 := indexOf_ok (pr a b) v (by omega)
    simp only [if_true, e4, Option.bind_some, e1, e5, w64s (show (i : Int) + 1 < 9223372036854775808 by omega)]
    by_cases h : idx (pr a b) v < 0
    · simp [h, after, afterR]
    · obtain ⟨hl, _⟩ := idx_get (pr a b) v (by omega)
      have hlb : (idx (pr a b) v).toNat < b.Kids.length := by omega
      rw [decide_eq_false h]
      simp only [Bool.false_eq_true, if_false]
      rw [if_pos (apN 8 pre [idx (pr a b) v] (by omega) (by omega) (by simp))]
      rw [rdx_nat hv, rdx_int (by omega) hlb]
      simp only [Option.bind_some]
      rw [afterS_ok W hW rest a.Kids[v] b.Kids[(idx (pr a b) v).toNat] (i + 1) (pre ++ [idx (pr a b) v]) (ha.kid (List.getElem_mem hv)) (hb.kid (List.getElem_mem hlb)) e3 (by omega) hw (by simp [hp])]
      simp only [after, if_neg h, List.getElem?_eq_getElem hv, List.getElem?_eq_getElem hlb]
      cases after rest a.Kids[v] b.Kids[(idx (pr a b) v).toNat] with
      | none => rfl
      | some w' => simp [afterR, ci]; omega
theorem afterI_ok (W : List Nat) (hW : W.length ≤ 1000) : ∀ (rest : List Nat) (a b : TTree) (i : Nat) (pre : List Int), Sz a → Sz b → W.drop i = rest → i ≤ W.length → Vw a rest → pre.length = i → impl_wayAfter_b1 pre (ci W) W.length i a b = some (afterR (after rest a b) pre)
  | [], a, b, i, pre, _, _, hd, hi, _, _ => by
    have : i = W.length := by
      have := congrArg List.length hd
      simp at this
      omega
    subst this
    exact impl_wayAfter_b1_of _ _ _ _ _ _ (by simp [after, afterR, ci])
  | v :: rest, a, b, i, pre, ha, hb, hd, hi, ⟨hv, hw⟩, hp => by
    obtain ⟨e1, e2, e3⟩ := ci_at W i v rest hd
    have hka := ha.va.lk.lm.kl
    have hkb := hb.va.lk.lm.kl
    refine impl_wayAfter_b1_of _ _ _ _ _ _ ?_
    rw [dlt e2]
    have e4 : impl_partners a b = some (pr a b) := partnersI_ok a b hka hkb
    have hpl := pr_len a b
    have e5 := Index_ok (pr a b) v (by omega)
    have w2 : w64 ((a.Kids.length : Int) - 1) = (a.Kids.length : Int) - 1 := w64_id (by omega) (by omega)
    have hin : inB (v : Int) 0 ((a.Kids.length : Int) - 1) = true := by simp [inB]; omega
    simp only [if_true, e4, Option.bind_some, e1, e5, w2, within_ok, hin, Bool.not_true, Bool.false_eq_true, if_false, w64s (show (i : Int) + 1 < 9223372036854775808 by omega)]
    by_cases h : idx (pr a b) v < 0
    · simp [h, after, afterR]
    · obtain ⟨hl, _⟩ := idx_get (pr a b) v (by omega)
      have hlb : (idx (pr a b) v).toNat < b.Kids.length := by omega
      rw [decide_eq_false h]
      simp only [Bool.false_eq_true, if_false]
      rw [if_pos (apN 8 pre [idx (pr a b) v] (by omega) (by omega) (by simp))]
      rw [rdx_nat hv, rdx_int (by omega) hlb]
      simp only [Option.bind_some]
      rw [afterI_ok W hW rest a.Kids[v] b.Kids[(idx (pr a b) v).toNat] (i + 1) (pre ++ [idx (pr a b) v]) (ha.kid (List.getElem_mem hv)) (hb.kid (List.getElem_mem hlb)) e3 (by omega) hw (by simp [hp])]
      simp only [after, if_neg h, List.getElem?_eq_getElem hv, List.getElem?_eq_getElem hlb]
      cases after rest a.Kids[v] b.Kids[(idx (pr a b) v).toNat] with
      | none => rfl
      | some w' => simp [afterR, ci]; omega

/-- What becomes of the part with a number. -/
def became (a b : TTree) (n : Nat) : Option (List Nat) := if a.Tag = b.Tag ∧ a.Key = b.Key then after (wayN a n) a b else none
theorem becameS (a b : TTree) (ha : Sz a) (hb : Sz b) (n : Nat) (hn : n < nodes a) : spec_wayAfter a b (ci (wayN a n)) = some (afterR (became a b n) []) := by
  have hv := (wayN_ok a n hn).1
  have hl := Vw.len _ _ hv
  have hd := ha.dp
  refine spec_wayAfter_of _ _ _ ?_
  by_cases h1 : a.Tag = b.Tag
  · by_cases h2 : a.Key = b.Key
    · have := afterS_ok (wayN a n) (by omega) (wayN a n) a b 0 [] ha hb rfl (by omega) hv rfl
      simpa [h1, h2, became] using this
    · simp [h1, h2, became, afterR]
  · simp [h1, became, afterR]
theorem becameI (a b : TTree) (ha : Sz a) (hb : Sz b) (n : Nat) (hn : n < nodes a) : impl_wayAfter a b (ci (wayN a n)) = some (afterR (became a b n) []) := by
  have hv := (wayN_ok a n hn).1
  have hl := Vw.len _ _ hv
  have hd := ha.dp
  refine impl_wayAfter_of _ _ _ ?_
  by_cases h1 : a.Tag = b.Tag
  · by_cases h2 : a.Key = b.Key
    · have := afterI_ok (wayN a n) (by omega) (wayN a n) a b 0 [] ha hb rfl (by omega) hv rfl
      simpa [h1, h2, became, ci_len] using this
    · simp [h1, h2, became, afterR]
  · simp [h1, became, afterR]
theorem became_tgt (a b : TTree) (n : Nat) : tgt a b n = (became a b n).map (numW b) := by unfold tgt became; split <;> rfl
end Go.Fw.Law
namespace Go.Fw.Law
open Go Go.Fw

def btw (x y step n : Int) : Int := w64 (x + w64 ((w64 (w64 (y - x) * step)).tdiv n))
def bbt (a b : TBox) (step n : Int) : TBox := ⟨btw a.Left b.Left step n, btw a.Top b.Top step n, btw a.Wide b.Wide step n, btw a.High b.High step n⟩
theorem betweenS_ok (x y step n : Int) (h : n ≠ 0) : spec_between x y step n = some (btw x y step n) := spec_between_of _ _ _ _ (by rw [if_pos h]; rfl)
theorem betweenI_ok (x y step n : Int) (h : n ≠ 0) : impl_between x y step n = some (btw x y step n) := impl_between_of _ _ _ _ (by rw [if_pos h]; rfl)
theorem boxBetweenS_ok (a b : TBox) (step n : Int) (h : n ≠ 0) : spec_boxBetween a b step n = some (bbt a b step n) := spec_boxBetween_of _ _ _ _ (by simp only [betweenS_ok _ _ _ _ h, Option.bind_some]; rfl)
theorem boxBetweenI_ok (a b : TBox) (step n : Int) (h : n ≠ 0) : impl_boxBetween a b step n = some (bbt a b step n) := impl_boxBetween_of _ _ _ _ (by simp only [betweenI_ok _ _ _ _ h, Option.bind_some]; rfl)

theorem moved_loop (a b : TTree) (ha : Sz a) (hb : Sz b) (old B : List TBox) (ho : old.length = nodes a) (hB : B.length = nodes b) (step n : Int) (hn : n ≠ 0) : ∀ i, i ≤ old.length → ∀ out : List TBox, out.length = B.length → (∀ m, i ≤ m → m < nodes a → ∀ k, tgt a b m = some k → out[k]? = B[k]?) →
    ∃ R, spec_moved_b1 step n old out i a b = some R ∧ impl_BoxesMoved_b1 step n old out B old.length i a b = some R ∧ R.length = B.length := by
  have hna := ha.nd
  refine upto _ ?_ ?_
  · intro out hl _
    exact ⟨out, spec_moved_b1_of _ _ _ _ _ _ _ (by simp), impl_BoxesMoved_b1_of _ _ _ _ _ _ _ _ _ (by simp), hl⟩
  · intro i hi ih out hl hag
    have hia : i < nodes a := by omega
    obtain ⟨q, e1⟩ := wayTo_ok a ha i hia
    have e2 := partWay_ok a ha i hia
    have e3 := becameS a b ha hb i hia
    have e4 := becameI a b ha hb i hia
    have htg := became_tgt a b i
    have hws : w64 ((i : Int) + 1) = ((i + 1 : Nat) : Int) := w64s (by omega)
    cases hbc : became a b i with
    | none =>
      rw [hbc] at e3 e4
      obtain ⟨R, f1, f2, f3⟩ := ih out hl fun m hm hma k hk => hag m (by omega) hma k hk
      refine ⟨R, spec_moved_b1_of _ _ _ _ _ _ _ ?_, impl_BoxesMoved_b1_of _ _ _ _ _ _ _ _ _ ?_, f3⟩
      · simp only [dlt hi, if_true, e1, Option.bind_some, e3, afterR, Bool.false_eq_true, if_false, hws]
        exact f1
      · simp only [dlt hi, if_true, e2, Option.bind_some, e4, afterR, Bool.false_eq_true, if_false, hws]
        exact f2
    | some w =>
      rw [hbc] at e3 e4 htg
      simp only [Option.map_some] at htg
      have hvw : Vw b w := by
        unfold became at hbc
        split at hbc
        · exact after_valid _ _ _ _ hbc
        · simp at hbc
      have hlw := Vw.len _ _ hvw
      have hdb := hb.dp
      have hkb := numW_lt w b hvw
      have g1 : spec_numberOf b (ci w) = some (numW b w : Int) := by
        refine spec_numberOf_of _ _ ?_
        have := numberOf_ok w (by omega) w b 0 0 hb rfl (by omega) hvw (by omega)
        simpa using this
      have g2 : impl_partNumber b (ci w) = some (numW b w : Int) := by
        refine impl_partNumber_of _ _ ?_
        have := partNumber_ok w (by omega) w b 0 0 hb rfl (by omega) hvw (by omega)
        simpa [ci_len] using this
      have hko : numW b w < out.length := by omega
      have hkB : numW b w < B.length := by omega
      have hsame : out[numW b w] = B[numW b w] := by
        have := hag i (Nat.le_refl _) hia _ htg
        rw [List.getElem?_eq_getElem hko, List.getElem?_eq_getElem hkB] at this
        exact Option.some.inj this
      obtain ⟨R, f1, f2, f3⟩ := ih (out.set (numW b w) (bbt old[i] B[numW b w] step n)) (by simpa using hl) fun m hm hma k hk => by
        have hne : numW b w ≠ k := fun e => by
          subst e
          have := tgt_inj a b i m _ hia hma htg hk
          omega
        rw [List.getElem?_set_ne hne]
        exact hag m (by omega) hma k hk
      refine ⟨R, spec_moved_b1_of _ _ _ _ _ _ _ ?_, impl_BoxesMoved_b1_of _ _ _ _ _ _ _ _ _ ?_, f3⟩
      · simp only [dlt hi, if_true, e1, Option.bind_some, e3, afterR, List.nil_append, g1, rdx_nat hi, rdx_nat hko, hsame, boxBetweenS_ok _ _ _ _ hn, hws, Int.toNat_natCast]
        exact f1
      · simp only [dlt hi, if_true, e2, Option.bind_some, e4, afterR, List.nil_append, g2, rdx_nat hi, rdx_nat hkB, rdx_nat hko, boxBetweenI_ok _ _ _ _ hn, hws, Int.toNat_natCast]
        exact f2

def stepB (step n : Int) : Bool := inB n 1 100 && inB step 0 n
theorem stepS_ok (step n : Int) : spec_validStepOf step n = some (stepB step n) := spec_validStepOf_of _ _ (by simp only [inRange_ok, Option.bind_some, stepB]; cases inB n 1 100 <;> simp)
theorem stepI_ok (step n : Int) : impl_stepOk step n = some (stepB step n) := impl_stepOk_of _ _ (by simp only [within_ok, Option.bind_some, stepB]; cases inB n 1 100 <;> simp)

theorem BoxesMoved_ok (a b : TTree) (la : Lm 1048576 a) (lb : Lm 1048576 b) (rs : List TRule) (hm : Rm rs) (wide step n : Int) : ∃ B, spec_BoxesMoved a b rs wide step n = some B ∧ impl_BoxesMoved a b rs wide step n = some B ∧ B.length ≤ 200 := by
  have va := validTree_ok a la
  have vb := validTree_ok b lb
  have ta := TreeOk_ok a la
  have tb := TreeOk_ok b lb
  have vr := validRules_ok rs
  have tr := RulesOk_ok rs hm
  by_cases h1 : treeB a = true
  · by_cases h2 : treeB b = true
    · by_cases h3 : rulesB rs = true
      · by_cases h4 : inB wide 0 60 = true
        · by_cases h5 : stepB step n = true
          · obtain ⟨hva, hda, hna⟩ := treeB_va a la h1
            obtain ⟨hvb, hdb, hnb⟩ := treeB_va b lb h2
            have hg := rulesB_gv rs h3
            have hw : 0 ≤ wide ∧ wide ≤ 60 := by simpa [inB] using h4
            have hn : n ≠ 0 := by simp [stepB, inB] at h5; omega
            have e1 := boxes_ok rs hm hg a hva (by omega) (by omega) wide hw.1 hw.2
            have e2 := boxes_ok' rs hm hg a hva (by omega) (by omega) wide hw.1 hw.2
            have e3 := boxes_ok rs hm hg b hvb (by omega) (by omega) wide hw.1 hw.2
            have e4 := boxes_ok' rs hm hg b hvb (by omega) (by omega) wide hw.1 hw.2
            have l1 := lay_len rs a [] 0 0 0 wide hva
            have l2 := lay_len rs b [] 0 0 0 wide hvb
            obtain ⟨R, f1, f2, f3⟩ := moved_loop a b ⟨hva, hda, hna⟩ ⟨hvb, hdb, hnb⟩ _ _ l1 l2 step n hn 0 (by omega) (lay rs b [] 0 0 0 wide).2 rfl (fun _ _ _ _ _ => rfl)
            have g1 : spec_moved a b rs wide step n = some R := spec_moved_of _ _ _ _ _ _ (by simp only [e1, e3, Option.bind_some]; exact f1)
            refine ⟨R, spec_BoxesMoved_of _ _ _ _ _ _ (by simp [va, h1, vb, h2, vr, h3, inRange_ok, h4, stepS_ok, h5, g1]), impl_BoxesMoved_of _ _ _ _ _ _ ?_, by omega⟩
            simp only [ta, h1, tb, h2, tr, h3, within_ok, h4, stepI_ok, h5, Option.bind_some, Bool.not_true, Bool.false_eq_true, if_false, e2, e4]
            rw [if_pos (apN 32 ([] : List TBox) _ (by omega) (by simp) (by omega))]
            exact f2
          · exact ⟨[], spec_BoxesMoved_of _ _ _ _ _ _ (by simp [va, h1, vb, h2, vr, h3, inRange_ok, h4, stepS_ok, h5]), impl_BoxesMoved_of _ _ _ _ _ _ (by simp [ta, h1, tb, h2, tr, h3, within_ok, h4, stepI_ok, h5]), by simp⟩
        · exact ⟨[], spec_BoxesMoved_of _ _ _ _ _ _ (by simp [va, h1, vb, h2, vr, h3, inRange_ok, h4]), impl_BoxesMoved_of _ _ _ _ _ _ (by simp [ta, h1, tb, h2, tr, h3, within_ok, h4]), by simp⟩
      · exact ⟨[], spec_BoxesMoved_of _ _ _ _ _ _ (by simp [va, h1, vb, h2, vr, h3]), impl_BoxesMoved_of _ _ _ _ _ _ (by simp [ta, h1, tb, h2, tr, h3]), by simp⟩
    · exact ⟨[], spec_BoxesMoved_of _ _ _ _ _ _ (by simp [va, h1, vb, h2]), impl_BoxesMoved_of _ _ _ _ _ _ (by simp [ta, h1, tb, h2]), by simp⟩
  · exact ⟨[], spec_BoxesMoved_of _ _ _ _ _ _ (by simp [va, h1]), impl_BoxesMoved_of _ _ _ _ _ _ (by simp [ta, h1]), by simp⟩

/-- The law: the program's boxes between two trees are the reference's at all arguments, and they share nothing with what was given. -/
theorem law_BoxesMoved (a : TTree) (ha : Lm 9223372036854775807 a) (b : TTree) (hb : Lm 9223372036854775807 b) (rs : List TRule) (hr : rs.length ≤ 9223372036854775807) (hx : ∀ x ∈ rs, x.Val.Text.length ≤ 9223372036854775807) (wide step n : Int) : laws_FnExactBoxesMoved a b rs wide step n = some true := by
  obtain ⟨r1, s1, s2, s3⟩ := szTree_wt a ha 1048576 (by omega) (by omega)
  refine laws_FnExactBoxesMoved_of _ _ _ _ _ _ ?_
  rw [s1]
  by_cases h1 : r1 < 0
  · simp [h1]
  · obtain ⟨r2, p1, p2, p3⟩ := szTree_wt b hb r1 (by omega) (by omega)
    by_cases h2 : r2 < 0
    · simp [h1, p1, h2]
    · obtain ⟨r3, q1, q2, q3⟩ := szRuleS_ok rs r2 hr hx (by omega) (by omega)
      by_cases h3 : r3 < 0
      · simp [h1, p1, h2, q1, h3]
      · obtain ⟨la, wa⟩ := s3 (by omega)
        obtain ⟨lb, wb⟩ := p3 (by omega)
        obtain ⟨l1, l2⟩ := q3 (by omega)
        have hm : Rm rs := ⟨by omega, fun x hx' => by have := l2 x hx'; omega⟩
        obtain ⟨B, t1, t2, t3⟩ := BoxesMoved_ok a b la lb rs hm wide step n
        have ca := cnt_wt a
        have cb := cnt_wt b
        have ma := markTree_ok a la 1 (by omega) (by omega)
        have mb := markTree_ok b lb (1 + 4 * (a.Props.length : Int) + (cntL a.Kids : Int)) (by omega) (by omega)
        obtain ⟨rs', mc⟩ := markRuleS_ok rs hm.1 (1 + 4 * (a.Props.length : Int) + (cntL a.Kids : Int) + 4 * (b.Props.length : Int) + (cntL b.Kids : Int)) (by omega) (by omega)
        obtain ⟨B', m1, m2⟩ := markBoxS_ok B (by omega) 1 (by omega) (by omega)
        have n1 : decide (1 + 4 * (a.Props.length : Int) + (cntL a.Kids : Int) + 4 * (b.Props.length : Int) + (cntL b.Kids : Int) + 8 * (rs.length : Int) < 0) = false := decide_eq_false (by omega)
        have n2 : decide (1 + 4 * (B.length : Int) < 0) = false := decide_eq_false (by omega)
        simp only [Option.bind_some, decide_eq_false h1, Bool.false_eq_true, if_false, p1, decide_eq_false h2, q1, decide_eq_false h3, toTree_ok a la, toTree_ok b lb, toRuleS_ok rs hm.1, t1, t2, eqBoxS_ok B (by omega), Bool.not_true, eqTree_ok a la, eqTree_ok b lb, eqRuleS_ok rs hm.1, ma, mb, mc, n1, m1, m2, n2, decide_true]
end Go.Fw.Law
