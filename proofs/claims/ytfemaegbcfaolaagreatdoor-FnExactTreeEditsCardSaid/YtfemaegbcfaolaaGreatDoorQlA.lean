/- Plain laws, part A: words for loops and reads. Plain laws, part B: the sizes, copies and comparisons by which the exact laws read trees. Plain laws, part C: words and shown texts: the program and the reference say the same of them. Plain laws, part D: valid values, props and trees: the program and the reference say the same. Plain laws, part E: what the program calls a valid tree is what the reference calls one. Plain laws, part F: copies, places in lists, the edits of props, the longest rise. Plain laws, part G: the longest rise, and partners: the program and the reference say the same. Plain laws, part H: the program's walk over the partners, and what is gone. Conditions: none. -/
import Derived.Test.YtfemaegbcfaolaaGreatDoorLeR9
namespace Go.Fw.Law
open Go Go.Fw

theorem upto {P : Nat → Prop} (n : Nat) (base : P n) (step : ∀ k, k < n → P (k + 1) → P k) : ∀ k, k ≤ n → P k := by
  intro k hk
  obtain ⟨j, rfl⟩ := Nat.exists_eq_add_of_le hk
  clear hk
  induction j generalizing k with
  | zero => exact base
  | succ j ih =>
    refine step k (by omega) (ih (k + 1) ?_ ?_)
    · rwa [show k + 1 + j = k + (j + 1) by omega]
    · intro m hm; exact step m (by omega)

theorem rdx_nat {α : Type} {xs : List α} {k : Nat} (h : k < xs.length) : rdx xs (k : Int) = some xs[k] := by
  simp [rdx, h]
theorem rdx_int {α : Type} {xs : List α} {i : Int} (h0 : 0 ≤ i) (h : i.toNat < xs.length) : rdx xs i = some xs[i.toNat] := by
  simp [rdx, h0, h]
theorem w64n {k : Nat} (h : (k : Int) < 9223372036854775808) : w64 (k : Int) = k := w64_id (by omega) h
theorem w64s {k : Nat} (h : (k : Int) + 1 < 9223372036854775808) : w64 ((k : Int) + 1) = ((k + 1 : Nat) : Int) := by
  rw [w64_id (by omega) (by omega)]; omega
theorem drop_at {α : Type} {xs : List α} {k : Nat} (h : k < xs.length) : xs.drop k = xs[k] :: xs.drop (k + 1) := List.drop_eq_getElem_cons h
theorem dlt {k n : Nat} (h : k < n) : decide ((k : Int) < (n : Int)) = true := decide_eq_true (by omega)
theorem dge {n : Nat} : decide ((n : Int) < (n : Int)) = false := decide_eq_false (by omega)

theorem TTree.ind {P : TTree → Prop} (h : ∀ t : TTree, (∀ k ∈ t.Kids, P k) → P t) : ∀ t, P t
  | ⟨a, b, c, d, e⟩ => h _ fun k _hk => TTree.ind h k
termination_by t => SizeOf.sizeOf t
decreasing_by
  have := List.sizeOf_lt_of_mem _hk
  simp at *
  omega

/-- A tree whose rows and texts are no longer than N. -/
inductive Lm (N : Nat) : TTree → Prop where
  | mk {t : TTree} (tx : t.Text.length ≤ N) (ps : t.Props.length ≤ N) (pt : ∀ p ∈ t.Props, p.Val.Text.length ≤ N) (kl : t.Kids.length ≤ N) (ks : ∀ k ∈ t.Kids, Lm N k) : Lm N t
theorem Lm.tx {N : Nat} {t : TTree} (h : Lm N t) : t.Text.length ≤ N := by cases h; assumption
theorem Lm.ps {N : Nat} {t : TTree} (h : Lm N t) : t.Props.length ≤ N := by cases h; assumption
theorem Lm.pt {N : Nat} {t : TTree} (h : Lm N t) : ∀ p ∈ t.Props, p.Val.Text.length ≤ N := by cases h; assumption
theorem Lm.kl {N : Nat} {t : TTree} (h : Lm N t) : t.Kids.length ≤ N := by cases h; assumption
theorem Lm.ks {N : Nat} {t : TTree} (h : Lm N t) : ∀ k ∈ t.Kids, Lm N k := by cases h; assumption
end Go.Fw.Law
namespace Go.Fw.Law
open Go Go.Fw

theorem szValue_ok (x : TValue) (n : Int) (hx : x.Text.length ≤ 9223372036854775807) (h0 : 0 ≤ n) (h1 : n ≤ 1048576) :
    ∃ r, laws_szValue x n = some r ∧ r ≤ n ∧ (0 ≤ r → (x.Text.length : Int) ≤ n) := by
  have hw : w64 (n - (x.Text.length : Int)) = n - x.Text.length := w64_id (by omega) (by omega)
  by_cases h : n - (x.Text.length : Int) < 0
  · exact ⟨-1, laws_szValue_of _ _ (by simp [hw, h]), by omega, by omega⟩
  · exact ⟨n - x.Text.length, laws_szValue_of _ _ (by simp [hw, h]), by omega, by omega⟩
theorem szProp_ok (x : TProp) (n : Int) (hx : x.Val.Text.length ≤ 9223372036854775807) (h0 : 0 ≤ n) (h1 : n ≤ 1048576) :
    ∃ r, laws_szProp x n = some r ∧ r ≤ n ∧ (0 ≤ r → (x.Val.Text.length : Int) ≤ n) := by
  obtain ⟨r, e1, e2, e3⟩ := szValue_ok x.Val n hx h0 h1
  by_cases h : r < 0
  · exact ⟨-1, laws_szProp_of _ _ (by simp [e1, h]), by omega, by omega⟩
  · exact ⟨r, laws_szProp_of _ _ (by simp [e1, h]), e2, e3⟩
theorem szPropS_loop (xs : List TProp) (hl : xs.length ≤ 9223372036854775807) (hx : ∀ p ∈ xs, p.Val.Text.length ≤ 9223372036854775807) : ∀ k, k ≤ xs.length → ∀ n : Int, 0 ≤ n → n ≤ 1048576 →
    ∃ r, laws_szPropS_b1 xs n k = some r ∧ r ≤ n ∧ (0 ≤ r → ∀ p ∈ xs.drop k, (p.Val.Text.length : Int) ≤ 1048576) := by
  refine upto _ ?_ ?_
  · intro n h0 h1
    exact ⟨n, laws_szPropS_b1_of _ _ _ (by simp), by omega, by simp⟩
  · intro k hk ih n h0 h1
    obtain ⟨r, e1, e2, e3⟩ := szProp_ok xs[k] n (hx _ (List.getElem_mem hk)) h0 h1
    by_cases h : r < 0
    · exact ⟨-1, laws_szPropS_b1_of _ _ _ (by simp [hk, rdx_nat hk, e1, h]), by omega, by omega⟩
    · obtain ⟨s, f1, f2, f3⟩ := ih r (by omega) (by omega)
      refine ⟨s, laws_szPropS_b1_of _ _ _ (by simpa [hk, rdx_nat hk, e1, h, w64s (show (k : Int) + 1 < 9223372036854775808 by omega)] using f1), by omega, fun hs p hp => ?_⟩
      rw [drop_at hk] at hp
      rcases List.mem_cons.1 hp with rfl | hp
      · have := e3 (by omega); omega
      · exact f3 hs p hp
theorem szPropS_ok (xs : List TProp) (n : Int) (hl : xs.length ≤ 9223372036854775807) (hx : ∀ p ∈ xs, p.Val.Text.length ≤ 9223372036854775807) (h0 : 0 ≤ n) (h1 : n ≤ 1048576) :
    ∃ r, laws_szPropS xs n = some r ∧ r ≤ n ∧ (0 ≤ r → (xs.length : Int) ≤ 1048576 ∧ ∀ p ∈ xs, (p.Val.Text.length : Int) ≤ 1048576) := by
  have hw : w64 (n - (xs.length : Int)) = n - xs.length := w64_id (by omega) (by omega)
  by_cases h : n - (xs.length : Int) < 0
  · exact ⟨-1, laws_szPropS_of _ _ (by simp [hw, h]), by omega, by omega⟩
  · obtain ⟨r, e1, e2, e3⟩ := szPropS_loop xs hl hx 0 (by omega) (n - xs.length) (by omega) (by omega)
    exact ⟨r, laws_szPropS_of _ _ (by simpa [hw, h] using e1), by omega, fun hr => ⟨by omega, by simpa using e3 hr⟩⟩
theorem szTreeS_loop (xs : List TTree) (hl : xs.length ≤ 9223372036854775807)
    (hx : ∀ t ∈ xs, ∀ n : Int, 0 ≤ n → n ≤ 1048576 → ∃ r, laws_szTree t n = some r ∧ r ≤ n ∧ (0 ≤ r → Lm 1048576 t)) : ∀ k, k ≤ xs.length → ∀ n : Int, 0 ≤ n → n ≤ 1048576 →
    ∃ r, laws_szTreeS_b1 xs n k = some r ∧ r ≤ n ∧ (0 ≤ r → ∀ t ∈ xs.drop k, Lm 1048576 t) := by
  refine upto _ ?_ ?_
  · intro n h0 h1
    exact ⟨n, laws_szTreeS_b1_of _ _ _ (by simp), by omega, by simp⟩
  · intro k hk ih n h0 h1
    obtain ⟨r, e1, e2, e3⟩ := hx xs[k] (List.getElem_mem hk) n h0 h1
    by_cases h : r < 0
    · exact ⟨-1, laws_szTreeS_b1_of _ _ _ (by simp [hk, rdx_nat hk, e1, h]), by omega, by omega⟩
    · obtain ⟨s, f1, f2, f3⟩ := ih r (by omega) (by omega)
      refine ⟨s, laws_szTreeS_b1_of _ _ _ (by simpa [hk, rdx_nat hk, e1, h, w64s (show (k : Int) + 1 < 9223372036854775808 by omega)] using f1), by omega, fun hs p hp => ?_⟩
      rw [drop_at hk] at hp
      rcases List.mem_cons.1 hp with rfl | hp
      · exact e3 (by omega)
      · exact f3 hs p hp
/-- The size of a tree: what is left is no more, and is below zero unless the tree is small. -/
theorem szTree_ok : ∀ t, Lm 9223372036854775807 t → ∀ n : Int, 0 ≤ n → n ≤ 1048576 → ∃ r, laws_szTree t n = some r ∧ r ≤ n ∧ (0 ≤ r → Lm 1048576 t) := by
  refine TTree.ind ?_
  intro t ih hl n h0 h1
  have hw : w64 (n - (t.Text.length : Int)) = n - t.Text.length := w64_id (by have := hl.tx; omega) (by omega)
  by_cases h : n - (t.Text.length : Int) < 0
  · exact ⟨-1, laws_szTree_of _ _ (by simp [hw, h]), by omega, by omega⟩
  · obtain ⟨r, e1, e2, e3⟩ := szPropS_ok t.Props (n - t.Text.length) hl.ps hl.pt (by omega) (by omega)
    by_cases hr : r < 0
    · exact ⟨-1, laws_szTree_of _ _ (by simp [hw, h, e1, hr]), by omega, by omega⟩
    · have hs : ∃ s, laws_szTreeS t.Kids r = some s ∧ s ≤ r ∧ (0 ≤ s → t.Kids.length ≤ 1048576 ∧ ∀ k ∈ t.Kids, Lm 1048576 k) := by
        have hkl := hl.kl
        have hw2 : w64 (r - (t.Kids.length : Int)) = r - t.Kids.length := w64_id (by omega) (by omega)
        by_cases h2 : r - (t.Kids.length : Int) < 0
        · exact ⟨-1, laws_szTreeS_of _ _ (by simp [hw2, h2]), by omega, by omega⟩
        · obtain ⟨s, f1, f2, f3⟩ := szTreeS_loop t.Kids hkl (fun k hk => ih k hk (hl.ks k hk)) 0 (by omega) (r - t.Kids.length) (by omega) (by omega)
          exact ⟨s, laws_szTreeS_of _ _ (by simpa [hw2, h2] using f1), by omega, fun hs => ⟨by omega, by simpa using f3 hs⟩⟩
      obtain ⟨s, f1, f2, f3⟩ := hs
      obtain ⟨g1, g2⟩ := e3 (by omega)
      by_cases hs : s < 0
      · exact ⟨-1, laws_szTree_of _ _ (by simp [hw, h, e1, hr, f1, hs]), by omega, by omega⟩
      · exact ⟨s, laws_szTree_of _ _ (by simp [hw, h, e1, hr, f1, hs]), by omega, fun _ => .mk (by omega) (by omega) (fun p hp => by have := g2 p hp; omega) (f3 (by omega)).1 (f3 (by omega)).2⟩

theorem toValue_ok (x : TValue) : laws_toValue x = some x := laws_toValue_of _ rfl
theorem toProp_ok (x : TProp) : laws_toProp x = some x := laws_toProp_of _ (by simp [toValue_ok])
theorem set_grow {α : Type} {xs ys : List α} {k : Nat} (hk : k < xs.length) (hl : ys.length = xs.length) (h : ys.take k = xs.take k) : (ys.set k xs[k]).take (k + 1) = xs.take (k + 1) := by
  apply List.ext_getElem?
  intro i
  have hi := congrArg (·[i]?) h
  simp only [List.getElem?_take, List.getElem?_set] at hi ⊢
  by_cases h1 : i < k + 1
  · simp only [h1, if_true]
    by_cases h2 : k = i
    · subst h2; simp [hl, hk]
    · have : i < k := by omega
      simpa [this, h2] using hi
  · simp [h1]
theorem toPropS_loop (xs : List TProp) (hl : xs.length ≤ 1048576) : ∀ k, k ≤ xs.length → ∀ ys : List TProp, ys.length = xs.length → ys.take k = xs.take k → laws_toPropS_b1 xs ys k = some xs := by
  refine upto _ ?_ ?_
  · intro ys h1 h2
    refine laws_toPropS_b1_of _ _ _ ?_
    rw [List.take_length, ← h1, List.take_length] at h2
    simp [h2]
  · intro k hk ih ys h1 h2
    refine laws_toPropS_b1_of _ _ _ ?_
    simpa [hk, rdx_nat hk, toProp_ok, rdx_nat (show k < ys.length by omega), w64s (show (k : Int) + 1 < 9223372036854775808 by omega)] using ih _ (by simpa using h1) (set_grow hk h1 h2)
theorem toPropS_ok (xs : List TProp) (hl : xs.length ≤ 1048576) : laws_toPropS xs = some xs := by
  refine laws_toPropS_of _ ?_
  rw [if_pos (by omega)]
  exact toPropS_loop xs hl 0 (by omega) _ (by simp) (by simp)
theorem toTreeS_loop (xs : List TTree) (hl : xs.length ≤ 1048576) (hx : ∀ t ∈ xs, laws_toTree t = some t) : ∀ k, k ≤ xs.length → ∀ ys : List TTree, ys.length = xs.length → ys.take k = xs.take k → laws_toTreeS_b1 xs ys k = some xs := by
  refine upto _ ?_ ?_
  · intro ys h1 h2
    refine laws_toTreeS_b1_of _ _ _ ?_
    rw [List.take_length, ← h1, List.take_length] at h2
    simp [h2]
  · intro k hk ih ys h1 h2
    refine laws_toTreeS_b1_of _ _ _ ?_
    simpa [hk, rdx_nat hk, hx _ (List.getElem_mem hk), rdx_nat (show k < ys.length by omega), w64s (show (k : Int) + 1 < 9223372036854775808 by omega)] using ih _ (by simpa using h1) (set_grow hk h1 h2)
theorem toTree_ok : ∀ t, Lm 1048576 t → laws_toTree t = some t := by
  refine TTree.ind ?_
  intro t ih hl
  have h2 : laws_toTreeS t.Kids = some t.Kids := by
    refine laws_toTreeS_of _ ?_
    have := hl.kl
    rw [if_pos (by omega)]
    exact toTreeS_loop t.Kids hl.kl (fun k hk => ih k hk (hl.ks k hk)) 0 (by omega) _ (by simp) (by simp)
  exact laws_toTree_of _ (by simp [toPropS_ok _ hl.ps, h2]; cases t; rfl)

theorem eqValue_ok (x : TValue) : laws_eqValue x x = some true := laws_eqValue_of _ _ (by simp)
theorem eqProp_ok (x : TProp) : laws_eqProp x x = some true := laws_eqProp_of _ _ (by simp [eqValue_ok])
theorem eqPropS_loop (xs : List TProp) (hl : xs.length ≤ 1048576) : ∀ k, k ≤ xs.length → laws_eqPropS_b1 xs xs k = some true := by
  refine upto _ (laws_eqPropS_b1_of _ _ _ (by simp)) ?_
  intro k hk ih
  exact laws_eqPropS_b1_of _ _ _ (by simpa [hk, rdx_nat hk, eqProp_ok, w64s (show (k : Int) + 1 < 9223372036854775808 by omega)] using ih)
theorem eqPropS_ok (xs : List TProp) (hl : xs.length ≤ 1048576) : laws_eqPropS xs xs = some true := laws_eqPropS_of _ _ (by simp; exact eqPropS_loop xs hl 0 (by omega))
theorem eqTree_ok : ∀ t, Lm 1048576 t → laws_eqTree t t = some true := by
  refine TTree.ind ?_
  intro t ih hl
  have hkl := hl.kl
  have h2 : ∀ k, k ≤ t.Kids.length → laws_eqTreeS_b1 t.Kids t.Kids k = some true := by
    refine upto _ (laws_eqTreeS_b1_of _ _ _ (by simp)) ?_
    intro k hk ihk
    exact laws_eqTreeS_b1_of _ _ _ (by simpa [hk, rdx_nat hk, ih _ (List.getElem_mem hk) (hl.ks _ (List.getElem_mem hk)), w64s (show (k : Int) + 1 < 9223372036854775808 by omega)] using ihk)
  have h3 : laws_eqTreeS t.Kids t.Kids = some true := laws_eqTreeS_of _ _ (by simp; exact h2 0 (by omega))
  exact laws_eqTree_of _ _ (by simp [eqPropS_ok _ hl.ps, h3])
theorem eqTree_v_ok (t : TTree) (hl : Lm 1048576 t) : laws_eqTree_v t t = some true := by
  have hkl := hl.kl
  have h2 : ∀ k, k ≤ t.Kids.length → laws_eqTreeS_b1 t.Kids t.Kids k = some true := by
    refine upto _ (laws_eqTreeS_b1_of _ _ _ (by simp)) ?_
    intro k hk ihk
    exact laws_eqTreeS_b1_of _ _ _ (by simpa [hk, rdx_nat hk, eqTree_ok _ (hl.ks _ (List.getElem_mem hk)), w64s (show (k : Int) + 1 < 9223372036854775808 by omega)] using ihk)
  have h3 : laws_eqTreeS t.Kids t.Kids = some true := laws_eqTreeS_of _ _ (by simp; exact h2 0 (by omega))
  exact laws_eqTree_v_of _ _ (by simp [eqPropS_ok _ hl.ps, h3])
end Go.Fw.Law
namespace Go.Fw.Law
open Go Go.Fw

def plainB (c : UInt8) : Bool := (decide (97 ≤ c.toNat) && decide (c.toNat ≤ 122)) || (decide (48 ≤ c.toNat) && decide (c.toNat ≤ 57)) || decide (c.toNat = 32)
def wordB (s : Str) : Bool := decide (s.length ≤ 12) && s.all plainB

theorem plainByte_ok (c : UInt8) : spec_plainByte (c.toNat : Int) = some (plainB c) := by
  refine spec_plainByte_of _ ?_
  simp only [plainB, decide_eq_true_eq]
  by_cases h1 : 97 ≤ c.toNat <;> by_cases h2 : c.toNat ≤ 122 <;> by_cases h3 : 48 ≤ c.toNat <;> by_cases h4 : c.toNat ≤ 57 <;> by_cases h5 : c.toNat = 32 <;>
    simp [h1, h2, h3, h4, h5, show (97 : Int) ≤ (c.toNat : Int) ↔ 97 ≤ c.toNat by omega, show (c.toNat : Int) ≤ 122 ↔ c.toNat ≤ 122 by omega, show (48 : Int) ≤ (c.toNat : Int) ↔ 48 ≤ c.toNat by omega, show (c.toNat : Int) ≤ 57 ↔ c.toNat ≤ 57 by omega,
      show (c.toNat : Int) = 32 ↔ c.toNat = 32 by omega] <;> omega
theorem validWord_loop (s : Str) (hl : s.length ≤ 12) : ∀ k, k ≤ s.length → spec_validWord_b1 s k = some ((s.drop k).all plainB) := by
  refine upto _ (spec_validWord_b1_of _ _ (by simp)) ?_
  intro k hk ih
  refine spec_validWord_b1_of _ _ ?_
  rw [drop_at hk, List.all_cons]
  cases h : plainB s[k]
  · simp [hk, rdx_nat hk, plainByte_ok, h]
  · simpa [hk, rdx_nat hk, plainByte_ok, h, w64s (show (k : Int) + 1 < 9223372036854775808 by omega)] using ih
theorem validWord_ok (s : Str) : spec_validWord s = some (wordB s) := by
  refine spec_validWord_of _ ?_
  by_cases h : s.length ≤ 12
  · have := validWord_loop s h 0 (by omega)
    simpa [wordB, h, show ¬ (12 : Int) < (s.length : Int) by omega] using this
  · simp [wordB, h, show (12 : Int) < (s.length : Int) by omega]
theorem word_loop (s : Str) (hl : s.length ≤ 1048576) : ∀ k, k ≤ s.length → impl_word_b1 s k = some ((s.drop k).all plainB && decide (s.length ≤ 12)) := by
  refine upto _ (impl_word_b1_of _ _ (by simp; omega)) ?_
  intro k hk ih
  have h2 : impl_word_b2 s k = some ((s.drop (k + 1)).all plainB && decide (s.length ≤ 12)) := impl_word_b2_of _ _ (by rw [w64s (by omega)]; exact ih)
  refine impl_word_b1_of _ _ ?_
  simp only [dlt hk, if_true, rdx_nat hk, Option.bind_some, drop_at hk, List.all_cons]
  generalize s[k] = c
  by_cases h1 : 97 ≤ c.toNat <;> by_cases h3 : c.toNat ≤ 122 <;> by_cases h4 : 48 ≤ c.toNat <;> by_cases h5 : c.toNat ≤ 57 <;> by_cases h6 : c.toNat = 32 <;>
    simp [plainB, h1, h2, h3, h4, h5, h6, show (97 : Int) ≤ (c.toNat : Int) ↔ 97 ≤ c.toNat by omega, show (c.toNat : Int) ≤ 122 ↔ c.toNat ≤ 122 by omega, show (48 : Int) ≤ (c.toNat : Int) ↔ 48 ≤ c.toNat by omega, show (c.toNat : Int) ≤ 57 ↔ c.toNat ≤ 57 by omega,
      show (c.toNat : Int) = 32 ↔ c.toNat = 32 by omega] <;> omega
theorem word_ok (s : Str) (hl : s.length ≤ 1048576) : impl_word s = some (wordB s) := by
  refine impl_word_of _ ?_
  have := word_loop s hl 0 (by omega)
  simpa [wordB, Bool.and_comm] using this

theorem digit_ok (m : Nat) (h : m < 10) : sub [48, 49, 50, 51, 52, 53, 54, 55, 56, 57] (m : Int) ((m : Int) + 1) = [UInt8.ofNat (48 + m)] := by
  have : ∀ m : Nat, m < 10 → sub ([48, 49, 50, 51, 52, 53, 54, 55, 56, 57] : Str) (m : Int) ((m : Int) + 1) = [UInt8.ofNat (48 + m)] := by decide
  exact this m h
theorem decDigits_len : ∀ (k m : Nat), m < 10 ^ (k + 1) → (Lib.decDigits m).length ≤ k + 1
  | 0, m, h => by rw [Lib.decDigits, dif_pos (by simpa using h)]; simp
  | k + 1, m, h => by
    rw [Lib.decDigits]
    split
    · simp
    · have := decDigits_len k (m / 10) (by rw [Nat.pow_succ] at h; omega)
      simp; omega
theorem decimal_nat : ∀ m : Nat, m < 1000000000000000000 → spec_decimal (m : Int) = some (Lib.decDigits m) := by
  intro m
  induction m using Nat.strongRecOn with
  | ind m ih =>
    intro hm
    refine spec_decimal_of _ ?_
    by_cases h : m < 10
    · have hw : w64 ((m : Int) + 1) = (m : Int) + 1 := w64_id (by omega) (by omega)
      rw [Lib.decDigits, dif_pos h]
      simp [show ¬ ((m : Int) < 0) by omega, show (m : Int) < 10 by omega, hw, digit_ok m h, show (m : Int) + 1 ≤ 10 by omega, show (m : Int) ≤ (m : Int) + 1 by omega]
    · have hd : w64 ((m : Int).tdiv 10) = ((m / 10 : Nat) : Int) := by
        rw [show (m : Int).tdiv 10 = ((m / 10 : Nat) : Int) from rfl, w64_id] <;> omega
      have hr : (m : Int).tmod 10 = ((m % 10 : Nat) : Int) := rfl
      have h1 := ih (m / 10) (by omega) (by omega)
      have h2 := ih (m % 10) (by omega) (by omega)
      have e2 : Lib.decDigits (m % 10) = [UInt8.ofNat (48 + m % 10)] := by rw [Lib.decDigits, dif_pos (by omega)]
      have e1 : Lib.decDigits m = Lib.decDigits (m / 10) ++ [UInt8.ofNat (48 + m % 10)] := by rw [Lib.decDigits, dif_neg h]
      have hl := decDigits_len 17 (m / 10) (by omega)
      rw [e2] at h2
      simp only [hd, hr, h1, h2, e1, Option.bind_some]
      simp [show ¬ ((m : Int) < 0) by omega, show ¬ (m : Int) < 10 by omega]
      omega
theorem decimal_neg (m : Nat) (h0 : 0 < m) (hm : m < 1000000000000000000) : spec_decimal (-(m : Int)) = some (45 :: Lib.decDigits m) := by
  refine spec_decimal_of _ ?_
  have hw : w64 (- -(m : Int)) = (m : Int) := by rw [Int.neg_neg]; exact w64_id (by omega) (by omega)
  have hl := decDigits_len 17 m (by omega)
  rw [hw, decimal_nat m hm, decide_eq_true (show -(m : Int) < 0 by omega)]
  simp
  omega

/-- A text that is shown of a number below zero. -/
def negB (s : Str) (k : Nat) : Bool := (List.range' k (1001 - k)).any fun n => decide (s = 45 :: Lib.decDigits n)
theorem validShown_loop (s : Str) : ∀ k : Nat, k ≤ 1001 → 0 < k → spec_validShown_b1 s k = some (negB s k) := by
  refine upto _ ?_ ?_
  · intro _
    exact spec_validShown_b1_of _ _ (by simp [negB])
  · intro k hk ih h0
    refine spec_validShown_b1_of _ _ ?_
    have hw : w64 (-(k : Int)) = -(k : Int) := w64_id (by omega) (by omega)
    have hr : List.range' k (1001 - k) = k :: List.range' (k + 1) (1001 - (k + 1)) := by
      rw [show 1001 - k = (1001 - (k + 1)) + 1 by omega, List.range'_succ]
    simp only [hw, decimal_neg k h0 (by omega), Option.bind_some, negB, hr, List.any_cons]
    have := ih (by omega)
    rw [← w64s (by omega)] at this
    rw [decide_eq_true (show (k : Int) ≤ 1000 by omega)]
    by_cases h : s = 45 :: Lib.decDigits k
    · simp [h]
    · simp [h, this, negB]
def shownB (s : Str) : Bool := if s.head? = some 45 then negB s 1 else wordB s
theorem validShown_ok (s : Str) : spec_validShown s = some (shownB s) := by
  refine spec_validShown_of _ ?_
  cases s with
  | nil => simp [shownB, validWord_ok]
  | cons c r =>
    have hr : rdx (c :: r) 0 = some c := by simp [rdx]
    have := validShown_loop (c :: r) 1 (by omega) (by omega)
    have hc : ((c.toNat : Int) = 45) ↔ c = 45 := by
      constructor
      · intro h
        have : c.toNat = 45 := by omega
        exact UInt8.toNat.inj this
      · rintro rfl; rfl
    by_cases h : c = 45
    · subst h
      simpa [hr, shownB, show ¬ ((r.length : Int) + 1 = 0) by omega] using this
    · simp [hr, shownB, h, hc, validWord_ok, show ¬ ((r.length : Int) + 1 = 0) by omega]

theorem digits_plain : ∀ m : Nat, ∀ c ∈ Lib.decDigits m, 48 ≤ c.toNat ∧ c.toNat ≤ 57 := by
  intro m
  induction m using Nat.strongRecOn with
  | ind m ih =>
    intro c hc
    have one : ∀ d : Nat, d < 10 → (UInt8.ofNat (48 + d)).toNat = 48 + d := by decide
    rw [Lib.decDigits] at hc
    split at hc
    · rename_i h
      rw [List.mem_singleton] at hc
      subst hc
      rw [one m h]
      omega
    · rename_i h
      rcases List.mem_append.1 hc with hc | hc
      · exact ih (m / 10) (by omega) c hc
      · rw [List.mem_singleton] at hc
        subst hc
        rw [one (m % 10) (by omega)]
        omega
theorem digits_ne (m : Nat) : Lib.decDigits m ≠ [] := by
  rw [Lib.decDigits]
  split <;> simp

theorem small_digits (m : Nat) (h : m ≤ 1000) : Lib.decDigits m = if m < 10 then [UInt8.ofNat (48 + m)] else if m < 100 then [UInt8.ofNat (48 + m / 10), UInt8.ofNat (48 + m % 10)] else if m < 1000 then
    [UInt8.ofNat (48 + m / 100), UInt8.ofNat (48 + m / 10 % 10), UInt8.ofNat (48 + m % 10)] else [49, 48, 48, 48] := by
  have one : ∀ d, d < 10 → Lib.decDigits d = [UInt8.ofNat (48 + d)] := fun d hd => by rw [Lib.decDigits, dif_pos hd]
  have step : ∀ d, ¬ d < 10 → Lib.decDigits d = Lib.decDigits (d / 10) ++ [UInt8.ofNat (48 + d % 10)] := fun d hd => by rw [Lib.decDigits, dif_neg hd]
  split
  · exact one m (by assumption)
  · rw [step m (by assumption)]
    split
    · rw [one (m / 10) (by omega)]; rfl
    · rw [step (m / 10) (by omega)]
      split
      · rw [one (m / 10 / 10) (by omega), show m / 10 / 10 = m / 100 by omega]; rfl
      · have : m = 1000 := by omega
        subst this
        rw [step (1000 / 10 / 10) (by omega), one (1000 / 10 / 10 / 10) (by omega)]; rfl
def smallDigits (m : Nat) : Str := if m < 10 then [UInt8.ofNat (48 + m)] else if m < 100 then [UInt8.ofNat (48 + m / 10), UInt8.ofNat (48 + m % 10)] else if m < 1000 then
    [UInt8.ofNat (48 + m / 100), UInt8.ofNat (48 + m / 10 % 10), UInt8.ofNat (48 + m % 10)] else [49, 48, 48, 48]
def negOk (m : Nat) : Bool := match Lib.atoiAll (45 :: smallDigits m) with | .ok v => v == -(m : Int) | _ => false
theorem negOk_all : ((List.range 1001).all fun m => m == 0 || negOk m) = true := by decide +kernel
theorem atoi_neg (m : Nat) (h0 : 0 < m) (h : m ≤ 1000) : atoiP (45 :: Lib.decDigits m) = (-(m : Int), true) := by
  have hs : Lib.decDigits m = smallDigits m := small_digits m h
  have := List.all_eq_true.1 negOk_all m (List.mem_range.2 (by omega))
  simp only [Bool.or_eq_true, beq_iff_eq] at this
  have h1 := this.resolve_left (by omega)
  unfold negOk at h1
  rw [hs]
  unfold atoiP
  split at h1
  · rename_i v e
    rw [e]
    simp at h1
    simp [h1]
  · simp at h1

theorem negB_iff (s : Str) : negB s 1 = true ↔ ∃ n, 1 ≤ n ∧ n ≤ 1000 ∧ s = 45 :: Lib.decDigits n := by
  simp only [negB, List.any_eq_true, decide_eq_true_eq, List.mem_range']
  constructor
  · rintro ⟨n, ⟨i, h1, h2⟩, h3⟩; exact ⟨n, by omega, by omega, h3⟩
  · rintro ⟨n, h1, h2, h3⟩; exact ⟨n, ⟨n - 1, by omega, by omega⟩, h3⟩
theorem shown_ok (s : Str) (hl : s.length ≤ 1048576) : impl_shown s = some (shownB s) := by
  refine impl_shown_of _ ?_
  have ha : strconv_Atoi s = some (atoiP s) := strconv_Atoi_of _ (by rw [if_pos (by omega)])
  have hi : ∀ v : Int, -1000 ≤ v → v ≤ 1000 → strconv_Itoa v = some (Lib.itoa v) := fun v h1 h2 => strconv_Itoa_of _ (by rw [if_pos (by omega)])
  have hw : ∀ v : Int, impl_within v (-1000) 1000 = some (decide (-1000 ≤ v) && decide (v ≤ 1000)) := fun v => impl_within_of _ _ _ (by by_cases h : -1000 ≤ v <;> simp [h])
  rw [word_ok s hl]
  simp only [Option.bind_some, ha, hw]
  -- what the code says of a text that is no word
  have key : (wordB s = false) → (if (atoiP s).2 = true then (if (decide (-1000 ≤ (atoiP s).1) && decide ((atoiP s).1 ≤ 1000)) = true then (strconv_Itoa (atoiP s).1).bind fun r4 => some (decide (r4 = s)) else some false) else some false) = some (shownB s) := by
    intro hwd
    by_cases h2 : (atoiP s).2 = true
    · by_cases h3 : (decide (-1000 ≤ (atoiP s).1) && decide ((atoiP s).1 ≤ 1000)) = true
      · rw [if_pos h2, if_pos h3]
        simp only [Bool.and_eq_true, decide_eq_true_eq] at h3
        rw [hi _ h3.1 h3.2]
        simp only [Option.bind_some, Option.some.injEq]
        generalize hv : (atoiP s).1 = v at h3
        by_cases hneg : v < 0
        · have e : Lib.itoa v = 45 :: Lib.decDigits v.natAbs := by simp [Lib.itoa, hneg]
          rw [e]
          by_cases hs : 45 :: Lib.decDigits v.natAbs = s
          · subst hs
            simp only [decide_true, shownB, List.head?_cons, if_true]
            exact ((negB_iff _).2 ⟨v.natAbs, by omega, by omega, rfl⟩).symm
          · simp only [hs, decide_false, shownB]
            split
            · rename_i hh
              cases hb : negB s 1 with
              | false => rfl
              | true =>
                obtain ⟨n, n1, n2, rfl⟩ := (negB_iff s).1 hb
                rw [atoi_neg n (by omega) n2] at hv
                exact absurd (by rw [← hv]; simp) hs
            · exact hwd.symm
        · have e : Lib.itoa v = Lib.decDigits v.toNat := by simp [Lib.itoa, hneg]
          rw [e]
          by_cases hs : Lib.decDigits v.toNat = s
          · exfalso
            have h4 := decDigits_len 3 v.toNat (by omega)
            rw [hs] at h4
            have : wordB s = true := by
              simp only [wordB, Bool.and_eq_true, decide_eq_true_eq, List.all_eq_true]
              refine ⟨by omega, fun c hc => ?_⟩
              have := digits_plain v.toNat c (hs ▸ hc)
              simp [plainB, this.1, this.2]
            rw [this] at hwd
            simp at hwd
          · simp only [hs, decide_false, shownB]
            split
            · rename_i hh
              cases hb : negB s 1 with
              | false => rfl
              | true =>
                obtain ⟨n, n1, n2, rfl⟩ := (negB_iff s).1 hb
                rw [atoi_neg n (by omega) n2] at hv
                simp at hv
                omega
            · exact hwd.symm
      · rw [if_pos h2, if_neg h3]
        simp only [Option.some.injEq, shownB]
        split
        · cases hb : negB s 1 with
          | false => rfl
          | true =>
            obtain ⟨n, n1, n2, rfl⟩ := (negB_iff s).1 hb
            rw [atoi_neg n (by omega) n2] at h3
            simp at h3
            omega
        · exact hwd.symm
    · rw [if_neg h2]
      simp only [Option.some.injEq, shownB]
      split
      · cases hb : negB s 1 with
        | false => rfl
        | true =>
          obtain ⟨n, n1, n2, rfl⟩ := (negB_iff s).1 hb
          rw [atoi_neg n (by omega) n2] at h2
          simp at h2
      · exact hwd.symm
  cases hwd : wordB s with
  | true =>
    simp only [if_true, Option.some.injEq, shownB]
    split
    · rename_i hh
      cases s with
      | nil => simp at hh
      | cons c r =>
        simp at hh
        subst hh
        simp [wordB, plainB] at hwd
    · exact hwd.symm
  | false => simpa using key hwd
end Go.Fw.Law
namespace Go.Fw.Law
open Go Go.Fw

def inB (x a b : Int) : Bool := decide (a ≤ x) && decide (x ≤ b)
theorem inRange_ok (x a b : Int) : spec_inRange x a b = some (inB x a b) := spec_inRange_of _ _ _ (by by_cases h : a ≤ x <;> simp [h, inB])
theorem within_ok (x a b : Int) : impl_within x a b = some (inB x a b) := impl_within_of _ _ _ (by by_cases h : a ≤ x <;> simp [h, inB])
def valB (v : TValue) : Bool := if v.Kind = 0 then decide (v.Num = 0) && decide (v.Text = []) else if v.Kind = 1 then inB v.Num (-1000) 1000 && decide (v.Text = []) else if v.Kind = 2 then decide (v.Num = 0) && wordB v.Text else false
theorem validValue_ok (v : TValue) : spec_validValue v = some (valB v) := by
  refine spec_validValue_of _ ?_
  by_cases h0 : v.Kind = 0
  · by_cases h : v.Num = 0 <;> simp [h0, h, valB]
  · by_cases h1 : v.Kind = 1
    · cases h : inB v.Num (-1000) 1000 <;> simp [h1, h, valB, inRange_ok]
    · by_cases h2 : v.Kind = 2
      · by_cases h : v.Num = 0 <;> simp [h2, h, valB, validWord_ok]
      · simp [h0, h1, h2, valB]
theorem ValOk_ok (v : TValue) (hl : v.Text.length ≤ 1048576) : impl_ValOk v = some (valB v) := by
  refine impl_ValOk_of _ ?_
  by_cases h0 : v.Kind = 0
  · by_cases h : v.Num = 0 <;> simp [h0, h, valB]
  · by_cases h1 : v.Kind = 1
    · cases h : inB v.Num (-1000) 1000 <;> simp [h1, h, valB, within_ok]
    · by_cases h2 : v.Kind = 2
      · by_cases h : v.Num = 0 <;> simp [h2, h, valB, word_ok _ hl]
      · simp [h0, h1, h2, valB]

/-- Props from one on: names in range that ascend, valid values; before them a name. -/
def propsB : Option Int → List TProp → Bool
  | _, [] => true
  | q, p :: ps => inB p.Name 0 3 && valB p.Val && (match q with | none => true | some n => decide (n < p.Name)) && propsB (some p.Name) ps
theorem propsB_cons (q : Option Int) (p : TProp) (ps : List TProp) : propsB q (p :: ps) = (inB p.Name 0 3 && valB p.Val && (match q with | none => true | some n => decide (n < p.Name)) && propsB (some p.Name) ps) := by cases q <;> rfl
def before (ps : List TProp) (k : Nat) : Option Int := if k = 0 then none else ps[k - 1]?.map (·.Name)
theorem validPropList_loop (ps : List TProp) (hl : ps.length ≤ 1048576) : ∀ k, k ≤ ps.length → spec_validPropList_b1 ps k = some (propsB (before ps k) (ps.drop k)) := by
  refine upto _ (spec_validPropList_b1_of _ _ (by simp [propsB])) ?_
  intro k hk ih
  refine spec_validPropList_b1_of _ _ ?_
  rw [drop_at hk, propsB_cons]
  have hb : before ps (k + 1) = some ps[k].Name := by simp [before, hk]
  rw [hb, ← w64s (by omega)] at ih
  rw [dlt hk, rdx_nat hk]
  simp only [if_true, Option.bind_some, inRange_ok, validValue_ok, ih]
  cases h1 : inB ps[k].Name 0 3 <;> simp only [Bool.not_false, Bool.not_true, if_true, Bool.false_and, Bool.true_and, Bool.false_eq_true, if_false]
  cases h2 : valB ps[k].Val <;> simp only [Bool.not_false, Bool.not_true, if_true, Bool.false_and, Bool.true_and, Bool.false_eq_true, if_false]
  by_cases h0 : k = 0
  · subst h0; simp [before]
  · have hw : w64 ((k : Int) - 1) = ((k - 1 : Nat) : Int) := by rw [w64_id (by omega) (by omega)]; omega
    rw [hw, rdx_nat (show k - 1 < ps.length by omega), decide_eq_true (show (0 : Int) < k by omega)]
    have hb2 : before ps k = some ps[k - 1].Name := by simp [before, h0, show k - 1 < ps.length by omega]
    rw [hb2]
    by_cases h3 : ps[k].Name ≤ ps[k - 1].Name
    · simp [h3, show ¬ ps[k - 1].Name < ps[k].Name by omega]
    · simp [h3, show ps[k - 1].Name < ps[k].Name by omega]
theorem validPropList_ok (ps : List TProp) (hl : ps.length ≤ 1048576) : spec_validPropList ps = some (propsB none ps) :=
  spec_validPropList_of _ (by simpa [before] using validPropList_loop ps hl 0 (by omega))

/-- Keys from one on, some being taken. -/
def keysB : List Int → List TTree → Bool
  | _, [] => true
  | tk, t :: ts => (decide (t.Key = -1) || !tk.contains t.Key) && keysB (t.Key :: tk) ts
theorem keysApart_in (ts : List TTree) (hl : ts.length ≤ 1048576) (i : Nat) (hi : i < ts.length) (next : Bool) (hn : spec_keysApart_b1 ts (w64 ((i : Int) + 1)) = some next) :
    ∀ k, k ≤ i → spec_keysApart_b2 ts i k = some ((decide (ts[i].Key = -1) || !(((ts.take i).drop k).map (·.Key)).contains ts[i].Key) && next) := by
  refine upto _ (spec_keysApart_b2_of _ _ _ ?_) ?_
  · rw [dge]; simp [hn, List.drop_of_length_le (show (ts.take i).length ≤ i by simp; omega)]
  · intro k hk ih
    refine spec_keysApart_b2_of _ _ _ ?_
    have hk2 : k < ts.length := by omega
    have hd : (ts.take i).drop k = ts[k] :: (ts.take i).drop (k + 1) := by
      rw [drop_at (show k < (ts.take i).length by simp; omega)]; simp
    rw [dlt hk, rdx_nat hi, rdx_nat hk2, w64s (show (k : Int) + 1 < 9223372036854775808 by omega), ih, hd]
    simp only [if_true, Option.bind_some, List.map_cons, List.contains_cons]
    by_cases h1 : ts[i].Key = -1
    · simp [h1]
    · by_cases h2 : ts[i].Key = ts[k].Key
      · have h3 : ¬ ts[k].Key = -1 := h2 ▸ h1
        simp [h2, h3]
      · have h3 : (ts[i].Key == ts[k].Key) = false := by simp [h2]
        simp [h1, h2, h3]
theorem contains_congr {a b : List Int} (h : ∀ x, x ∈ a ↔ x ∈ b) (x : Int) : a.contains x = b.contains x := by
  rw [Bool.eq_iff_iff]; simp [h x]
theorem keysB_congr : ∀ (ts : List TTree) {a b : List Int}, (∀ x, x ∈ a ↔ x ∈ b) → keysB a ts = keysB b ts
  | [], _, _, _ => rfl
  | t :: ts, a, b, h => by
    simp only [keysB, contains_congr h]
    rw [keysB_congr ts (a := t.Key :: a) (b := t.Key :: b) (fun x => by simp [h x])]
theorem keysApart_loop (ts : List TTree) (hl : ts.length ≤ 1048576) : ∀ k, k ≤ ts.length → spec_keysApart_b1 ts k = some (keysB ((ts.take k).map (·.Key)) (ts.drop k)) := by
  refine upto _ (spec_keysApart_b1_of _ _ (by simp [keysB])) ?_
  intro k hk ih
  refine spec_keysApart_b1_of _ _ ?_
  rw [dlt hk]
  simp only [if_true]
  rw [← w64s (by omega)] at ih
  have := keysApart_in ts hl k hk _ ih 0 (by omega)
  rw [show ((0 : Nat) : Int) = 0 from rfl] at this
  rw [this, drop_at hk, keysB]
  simp only [List.drop_zero]
  rw [keysB_congr (ts.drop (k + 1)) (a := (ts.take (k + 1)).map (·.Key)) (b := ts[k].Key :: (ts.take k).map (·.Key)) (fun x => by
    rw [List.take_add_one, List.map_append]
    simp [hk, or_comm])]
theorem keysApart_ok (ts : List TTree) (hl : ts.length ≤ 1048576) : spec_keysApart ts = some (keysB [] ts) := spec_keysApart_of _ (by simpa using keysApart_loop ts hl 0 (by omega))

mutual
/-- A part that is valid but for how many parts there are. -/
def partB : TTree → Bool
  | ⟨tag, key, tx, ps, ks⟩ => if tag = -1 then decide (key = -1) && decide (ps = []) && decide (ks.length = 0) && shownB tx
    else inB tag 0 4 && inB key (-1) 99 && decide (tx = []) && propsB none ps && partsB ks && keysB [] ks
def partsB : List TTree → Bool
  | [] => true
  | t :: ts => partB t && partsB ts
end
theorem partB_eq (t : TTree) : partB t = if t.Tag = -1 then decide (t.Key = -1) && decide (t.Props = []) && decide (t.Kids.length = 0) && shownB t.Text
    else inB t.Tag 0 4 && inB t.Key (-1) 99 && decide (t.Text = []) && propsB none t.Props && partsB t.Kids && keysB [] t.Kids := by cases t; rw [partB]
theorem validPart_ok : ∀ t, Lm 1048576 t → spec_validPart t = some (partB t) := by
  refine TTree.ind ?_
  intro t ih hl
  have hkl := hl.kl
  have loop : ∀ k : Nat, k ≤ t.Kids.length → spec_validPart_b1 k t = some (partsB (t.Kids.drop k) && keysB [] t.Kids) := by
    refine upto _ (spec_validPart_b1_of _ _ (by simp [partsB, keysApart_ok _ hkl])) ?_
    intro k hk ihk
    refine spec_validPart_b1_of _ _ ?_
    rw [← w64s (by omega)] at ihk
    rw [dlt hk, rdx_nat hk, drop_at hk, partsB]
    simp only [if_true, Option.bind_some, ih _ (List.getElem_mem hk) (hl.ks _ (List.getElem_mem hk)), ihk]
    cases partB t.Kids[k] <;> simp
  refine spec_validPart_of _ ?_
  have h0 := loop 0 (by omega)
  rw [show ((0 : Nat) : Int) = 0 from rfl, List.drop_zero] at h0
  rw [partB_eq]
  by_cases h1 : t.Tag = -1
  · by_cases h2 : t.Key = -1
    · by_cases h3 : t.Props = []
      · by_cases h4 : t.Kids.length = 0
        · simp [h1, h2, h3, h4, validShown_ok]
        · simp [h1, h2, h3, h4]
      · simp [h1, h2, h3]
    · simp [h1, h2]
  · cases h2 : inB t.Tag 0 4
    · simp [h1, h2, inRange_ok]
    · cases h3 : inB t.Key (-1) 99
      · simp [h1, h2, h3, inRange_ok]
      · by_cases h4 : t.Text = []
        · cases h5 : propsB none t.Props
          · simp [h1, h2, h3, h4, h5, inRange_ok, validPropList_ok _ hl.ps]
          · simp [h1, h2, h3, h4, h5, inRange_ok, validPropList_ok _ hl.ps, h0]
        · simp [h1, h2, h3, h4, inRange_ok]

mutual
/-- How many parts there are. -/
def nodes : TTree → Nat
  | ⟨_, _, _, _, ks⟩ => 1 + nodesL ks
def nodesL : List TTree → Nat
  | [] => 0
  | t :: ts => nodes t + nodesL ts
end
mutual
/-- How deep a tree is. -/
def depth : TTree → Nat
  | ⟨_, _, _, _, ks⟩ => 1 + depthL ks
def depthL : List TTree → Nat
  | [] => 0
  | t :: ts => max (depth t) (depthL ts)
end
theorem nodes_eq (t : TTree) : nodes t = 1 + nodesL t.Kids := by cases t; rw [nodes]
theorem depth_eq (t : TTree) : depth t = 1 + depthL t.Kids := by cases t; rw [depth]
theorem nodesL_len : ∀ ts, ts.length ≤ nodesL ts
  | [] => by simp [nodesL]
  | t :: ts => by have := nodesL_len ts; have := nodes_eq t; simp [nodesL]; omega

/-- What treeSize says of a tree at a depth. -/
def sizeAt (t : TTree) (d : Nat) : Nat := if depth t + d ≤ 25 then min (nodes t) 201 else 201
theorem treeSize_ok : ∀ t, Lm 1048576 t → ∀ d : Nat, 1 ≤ d → d ≤ 25 → ∃ n : Nat, spec_treeSize t d = some (n : Int) ∧ n ≤ 201 ∧ (n ≤ 200 ↔ depth t + d ≤ 25 ∧ nodes t ≤ 200) ∧ (n ≤ 200 → n = nodes t) := by
  refine TTree.ind ?_
  intro t ih hl d hd hd2
  have hkl := hl.kl
  have hdp := depth_eq t
  have hnd := nodes_eq t
  by_cases h : d = 25
  · subst h
    exact ⟨201, spec_treeSize_of _ _ (by simp), by omega, by omega, by omega⟩
  have loop : ∀ k : Nat, k ≤ t.Kids.length → ∀ acc : Nat, acc ≤ 401 → ∃ n : Nat, spec_treeSize_b1 d acc k t = some (n : Int) ∧ n ≤ 201 ∧ (n ≤ 200 ↔ depthL (t.Kids.drop k) + d ≤ 24 ∧ acc + nodesL (t.Kids.drop k) ≤ 200) ∧ (n ≤ 200 → n = acc + nodesL (t.Kids.drop k)) := by
    refine upto _ ?_ ?_
    · intro acc ha
      refine ⟨min acc 201, spec_treeSize_b1_of _ _ _ _ ?_, by omega, ?_, ?_⟩
      · rw [dge]; simp; omega
      · simp [depthL, nodesL]; omega
      · simp [nodesL]; omega
    · intro k hk ihk acc ha
      rw [drop_at hk, depthL, nodesL]
      have hn1 := nodes_eq t.Kids[k]
      by_cases ha2 : acc ≤ 200
      · obtain ⟨n, e1, e2, e3, e4⟩ := ih _ (List.getElem_mem hk) (hl.ks _ (List.getElem_mem hk)) (d + 1) (by omega) (by omega)
        obtain ⟨m, f1, f2, f3, f4⟩ := ihk (acc + n) (by omega)
        refine ⟨m, spec_treeSize_b1_of _ _ _ _ ?_, f2, ?_, ?_⟩
        · have w1 : w64 ((d : Int) + 1) = ((d + 1 : Nat) : Int) := w64s (by omega)
          have w2 : w64 ((acc : Int) + (n : Int)) = ((acc + n : Nat) : Int) := by rw [w64_id (by omega) (by omega)]; omega
          rw [dlt hk, rdx_nat hk, decide_eq_true (show (acc : Int) ≤ 200 by omega)]
          simp only [if_true, Option.bind_some, w1, e1, w2, w64s (show (k : Int) + 1 < 9223372036854775808 by omega)]
          exact f1
        · omega
        · intro hm
          have := f4 hm
          have := e4 (by omega)
          omega
      · refine ⟨201, spec_treeSize_b1_of _ _ _ _ ?_, by omega, by omega, by omega⟩
        rw [dlt hk, decide_eq_false (show ¬ (acc : Int) ≤ 200 by omega)]
        simp; omega
  obtain ⟨n, e1, e2, e3, e4⟩ := loop 0 (by omega) 1 (by omega)
  rw [List.drop_zero] at e3 e4
  refine ⟨n, spec_treeSize_of _ _ ?_, e2, by omega, fun hn => by have := e4 hn; omega⟩
  rw [decide_eq_false (show ¬ (24 : Int) < (d : Int) by omega)]
  simp only [Bool.false_eq_true, if_false]
  exact e1

/-- Valid trees. -/
def treeB (t : TTree) : Bool := decide (depth t ≤ 24) && decide (nodes t ≤ 200) && partB t
theorem validTree_ok (t : TTree) (hl : Lm 1048576 t) : spec_validTree t = some (treeB t) := by
  obtain ⟨n, e1, e2, e3, e4⟩ := treeSize_ok t hl 1 (by omega) (by omega)
  refine spec_validTree_of _ ?_
  rw [show ((1 : Nat) : Int) = 1 from rfl] at e1
  rw [e1]
  simp only [Option.bind_some, validPart_ok t hl]
  by_cases h : n ≤ 200
  · have := e3.1 h
    rw [decide_eq_true (show (n : Int) ≤ 200 by omega)]
    simp [treeB, show depth t ≤ 24 by omega, show nodes t ≤ 200 by omega]
  · rw [decide_eq_false (show ¬ (n : Int) ≤ 200 by omega)]
    have : ¬ (depth t ≤ 24 ∧ nodes t ≤ 200) := fun hh => h (e3.2 ⟨by omega, hh.2⟩)
    simp only [Bool.false_eq_true, if_false, treeB, Option.some.injEq]
    by_cases h1 : depth t ≤ 24
    · simp [h1, show ¬ nodes t ≤ 200 from fun h2 => this ⟨h1, h2⟩]
    · simp [h1]
end Go.Fw.Law
namespace Go.Fw.Law
open Go Go.Fw

theorem mget_mput : ∀ (es : List (Int × Bool)) (n m : Int), mget (mput es n true) m = (decide (m = n) || mget es m)
  | [], n, m => by by_cases h : m = n <;> simp [mput, mget, h]
  | (k, c) :: es, n, m => by
    unfold mput
    by_cases h : n = k
    · subst h
      by_cases h2 : m = n <;> simp [mget, h2]
    · rw [if_neg h]
      have := mget_mput es n m
      by_cases h2 : m = k
      · subst h2
        simp [mget, show ¬ m = n from fun e => h e.symm]
      · simp [mget, h2, this]

theorem treeFits_ok : ∀ t, Lm 1048576 t → ∀ d l : Nat, 1 ≤ d → d ≤ 25 → l ≤ 200 → ∃ (ok : Bool) (l' : Int), impl_treeFits t d l = some (ok, l') ∧ (ok = true ↔ depth t + d ≤ 25 ∧ nodes t ≤ l ∧ partB t = true) ∧ (ok = true → l' = l - nodes t) := by
  refine TTree.ind ?_
  intro t ih hl d l hd hd2 hl2
  have hkl := hl.kl
  have hpl := hl.ps
  have hdp := depth_eq t
  have hnd := nodes_eq t
  have w1 : w64 ((l : Int) - 1) = (l : Int) - 1 := w64_id (by omega) (by omega)
  by_cases h : d = 25
  · subst h
    refine ⟨false, (l : Int) - 1, impl_treeFits_of _ _ _ (by simp [w1]), ?_, by simp⟩
    simp; omega
  by_cases hl0 : l = 0
  · subst hl0
    refine ⟨false, -1, impl_treeFits_of _ _ _ ?_, ?_, by simp⟩
    · rw [decide_eq_false (show ¬ (24 : Int) < (d : Int) by omega)]
      have : w64 (-1) = -1 := by decide
      simp [this]
    · simp; omega
  obtain ⟨m, rfl⟩ : ∃ m, l = m + 1 := ⟨l - 1, by omega⟩
  have w1' : w64 (((m + 1 : Nat) : Int) - 1) = (m : Int) := by rw [w1]; omega
  -- the kids
  have kids : ∀ k : Nat, k ≤ t.Kids.length → ∀ (es : List (Int × Bool)) (tk : List Int) (y : Nat), y ≤ 200 → (∀ x, x ≠ -1 → (mget es x = true ↔ x ∈ tk)) →
      ∃ (ok : Bool) (l' : Int), impl_treeFits_b2 d es t.Kids t.Kids.length k y = some (ok, l') ∧ (ok = true ↔ depthL (t.Kids.drop k) + d ≤ 24 ∧ nodesL (t.Kids.drop k) ≤ y ∧ partsB (t.Kids.drop k) = true ∧ keysB tk (t.Kids.drop k) = true) ∧
        (ok = true → l' = y - nodesL (t.Kids.drop k)) := by
    refine upto _ ?_ ?_
    · intro es tk y hy hes
      refine ⟨true, y, impl_treeFits_b2_of _ _ _ _ _ _ (by rw [dge]; simp), ?_, by simp [nodesL]⟩
      simp [depthL, nodesL, partsB, keysB]; omega
    · intro k hk ihk es tk y hy hes
      rw [drop_at hk, depthL, nodesL, partsB, keysB]
      obtain ⟨ok, l1, e1, e2, e3⟩ := ih _ (List.getElem_mem hk) (hl.ks _ (List.getElem_mem hk)) (d + 1) y (by omega) (by omega) hy
      have w2 : w64 ((d : Int) + 1) = ((d + 1 : Nat) : Int) := w64s (by omega)
      have wk : w64 ((k : Int) + 1) = ((k + 1 : Nat) : Int) := w64s (by omega)
      have go : (t.Kids[k].Key = -1 ∨ ¬ t.Kids[k].Key ∈ tk) → ∃ (ok : Bool) (l' : Int), ((impl_treeFits t.Kids[k] (w64 ((d : Int) + 1)) (y : Int)).bind fun r => if !r.1 then some (false, r.2) else impl_treeFits_b2 d (mput es t.Kids[k].Key true) t.Kids t.Kids.length (w64 ((k : Int) + 1)) r.2) = some (ok, l') ∧
          (ok = true ↔ max (depth t.Kids[k]) (depthL (t.Kids.drop (k + 1))) + d ≤ 24 ∧ nodes t.Kids[k] + nodesL (t.Kids.drop (k + 1)) ≤ y ∧ (partB t.Kids[k] && partsB (t.Kids.drop (k + 1))) = true ∧ keysB (t.Kids[k].Key :: tk) (t.Kids.drop (k + 1)) = true) ∧
          (ok = true → l' = y - ((nodes t.Kids[k] + nodesL (t.Kids.drop (k + 1)) : Nat) : Int)) := by
        intro _
        rw [w2, e1, wk]
        simp only [Option.bind_some, Bool.and_eq_true]
        cases ok with
        | false =>
          refine ⟨false, l1, by simp, ?_, by simp⟩
          simp only [Bool.false_eq_true, false_iff] at e2 ⊢
          rintro ⟨h1, h2, ⟨h3, h4⟩, h5⟩
          exact e2 ⟨by omega, by omega, h3⟩
        | true =>
          obtain ⟨a1, a2, a3⟩ := e2.1 rfl
          have hl1 := e3 rfl
          have hes' : ∀ x, x ≠ -1 → (mget (mput es t.Kids[k].Key true) x = true ↔ x ∈ t.Kids[k].Key :: tk) := fun x hx => by
            rw [mget_mput]; simp [hes x hx]
          obtain ⟨ok2, l2, f1, f2, f3⟩ := ihk (mput es t.Kids[k].Key true) (t.Kids[k].Key :: tk) (y - nodes t.Kids[k]) (by omega) hes'
          have : l1 = ((y - nodes t.Kids[k] : Nat) : Int) := by omega
          refine ⟨ok2, l2, by simp only [this, Bool.not_true, Bool.false_eq_true, if_false]; exact f1, ?_, fun h => by have := f3 h; have := f2.1 h; omega⟩
          rw [f2]
          constructor
          · rintro ⟨b1, b2, b3, b4⟩; exact ⟨by omega, by omega, ⟨a3, b3⟩, b4⟩
          · rintro ⟨b1, b2, ⟨_, b3⟩, b4⟩; exact ⟨by omega, by omega, b3, b4⟩
      by_cases hm : t.Kids[k].Key = -1
      · obtain ⟨ok2, l2, g1, g2, g3⟩ := go (.inl hm)
        refine ⟨ok2, l2, impl_treeFits_b2_of _ _ _ _ _ _ ?_, ?_, g3⟩
        · rw [dlt hk, rdx_nat hk]
          simp only [if_true, Option.bind_some]
          rw [decide_eq_true hm]
          simp only [Bool.not_true, Bool.false_eq_true, if_false]
          exact g1
        · rw [g2]; simp [hm]
      · by_cases htk : t.Kids[k].Key ∈ tk
        · have hmg : mget es t.Kids[k].Key = true := (hes _ hm).2 htk
          refine ⟨false, y, impl_treeFits_b2_of _ _ _ _ _ _ ?_, ?_, by simp⟩
          · rw [dlt hk, rdx_nat hk]
            simp [hm, hmg]
          · simp [hm, htk]
        · have hmg : mget es t.Kids[k].Key = false := by
            cases h : mget es t.Kids[k].Key with
            | false => rfl
            | true => exact absurd ((hes _ hm).1 h) htk
          obtain ⟨ok2, l2, g1, g2, g3⟩ := go (.inr htk)
          refine ⟨ok2, l2, impl_treeFits_b2_of _ _ _ _ _ _ ?_, ?_, g3⟩
          · rw [dlt hk, rdx_nat hk]
            simp only [if_true, Option.bind_some]
            rw [decide_eq_false hm, hmg]
            simp only [Bool.not_false, Bool.false_eq_true, if_true, if_false]
            exact g1
          · rw [g2]; simp [hm, htk]
  obtain ⟨ok, l1, k1, k2, k3⟩ := kids 0 (by omega) [] [] m (by omega) (by simp [mget])
  rw [List.drop_zero] at k2 k3
  -- the props
  have props : ∀ k : Nat, k ≤ t.Props.length → ∃ (ok2 : Bool) (l2 : Int), impl_treeFits_b1 d t.Props t.Props.length k m t = some (ok2, l2) ∧ (ok2 = true ↔ propsB (before t.Props k) (t.Props.drop k) = true ∧ ok = true) ∧ (ok2 = true → l2 = l1) := by
    refine upto _ ?_ ?_
    · refine ⟨ok, l1, impl_treeFits_b1_of _ _ _ _ _ _ ?_, by simp [propsB], fun _ => rfl⟩
      rw [dge]
      simpa using k1
    · rintro k hk ⟨ok2, l2, e1, e2, e3⟩
      have hb : before t.Props (k + 1) = some t.Props[k].Name := by simp [before, hk]
      have hv := ValOk_ok t.Props[k].Val (hl.pt _ (List.getElem_mem hk))
      rw [hb] at e2
      rw [← w64s (by omega)] at e1
      rw [drop_at hk, propsB_cons]
      have fin : ∀ q, (match before t.Props k with | none => true | some n => decide (n < t.Props[k].Name)) = q → impl_treeFits_b1 d t.Props t.Props.length k m t = some (if (inB t.Props[k].Name 0 3 && valB t.Props[k].Val && q) = true then (ok2, l2) else (false, (m : Int))) →
          ∃ (ok2 : Bool) (l2 : Int), impl_treeFits_b1 d t.Props t.Props.length k m t = some (ok2, l2) ∧ (ok2 = true ↔ (inB t.Props[k].Name 0 3 && valB t.Props[k].Val && (match before t.Props k with | none => true | some n => decide (n < t.Props[k].Name)) && propsB (some t.Props[k].Name) (t.Props.drop (k + 1))) = true ∧ ok = true) ∧ (ok2 = true → l2 = l1) := by
        intro q hq hf
        rw [hq]
        by_cases hc : (inB t.Props[k].Name 0 3 && valB t.Props[k].Val && q) = true
        · rw [if_pos hc] at hf
          exact ⟨ok2, l2, hf, by rw [e2, hc]; simp, e3⟩
        · rw [if_neg hc] at hf
          have hc' : (inB t.Props[k].Name 0 3 && valB t.Props[k].Val && q) = false := by simpa using hc
          exact ⟨false, m, hf, by rw [hc']; simp, by simp⟩
      by_cases h0 : k = 0
      · subst h0
        refine fin true (by simp [before]) (impl_treeFits_b1_of _ _ _ _ _ _ ?_)
        rw [dlt hk, rdx_nat hk]
        simp only [if_true, Option.bind_some, within_ok, hv, e1]
        cases inB t.Props[0].Name 0 3 <;> cases valB t.Props[0].Val <;> simp
      · have hw : w64 ((k : Int) - 1) = ((k - 1 : Nat) : Int) := by rw [w64_id (by omega) (by omega)]; omega
        have hb2 : before t.Props k = some t.Props[k - 1].Name := by simp [before, h0, show k - 1 < t.Props.length by omega]
        refine fin (decide (t.Props[k - 1].Name < t.Props[k].Name)) (by rw [hb2]) (impl_treeFits_b1_of _ _ _ _ _ _ ?_)
        rw [dlt hk, rdx_nat hk, hw, rdx_nat (show k - 1 < t.Props.length by omega), decide_eq_true (show (0 : Int) < k by omega)]
        simp only [if_true, Option.bind_some, within_ok, hv, e1]
        by_cases h3 : t.Props[k].Name ≤ t.Props[k - 1].Name
        · cases inB t.Props[k].Name 0 3 <;> cases valB t.Props[k].Val <;> simp [h3, show ¬ t.Props[k - 1].Name < t.Props[k].Name by omega]
        · cases inB t.Props[k].Name 0 3 <;> cases valB t.Props[k].Val <;> simp [h3, show t.Props[k - 1].Name < t.Props[k].Name by omega]
  obtain ⟨ok2, l2, p1, p2, p3⟩ := props 0 (by omega)
  rw [List.drop_zero, show before t.Props 0 = none from rfl] at p2
  rw [show ((0 : Nat) : Int) = 0 from rfl] at p1
  -- the tree
  have hc1 : decide ((24 : Int) < (d : Int)) = false := decide_eq_false (by omega)
  have hc2 : decide ((m : Int) < 0) = false := decide_eq_false (by omega)
  rw [partB_eq]
  by_cases g1 : t.Tag = -1
  · refine ⟨decide (t.Key = -1) && decide (t.Props = []) && decide (t.Kids.length = 0) && shownB t.Text, m, impl_treeFits_of _ _ _ ?_, ?_, ?_⟩
    · rw [hc1, w1', hc2]
      simp only [Bool.false_eq_true, if_false, shown_ok _ hl.tx]
      by_cases g2 : t.Key = -1
      · cases g3 : shownB t.Text
        · simp [g1, g2]
        · by_cases g4 : t.Props = []
          · by_cases g5 : t.Kids.length = 0
            · simp [g1, g2, g4, g5]
            · simp [g1, g2, g4, g5]
          · simp [g1, g2, g4]
      · simp [g1, g2]
    · rw [if_pos g1]
      constructor
      · intro hh
        refine ⟨?_, ?_, hh⟩
        · have : t.Kids = [] := by simp at hh; exact hh.1.2
          rw [this] at hdp; simp [depthL] at hdp; omega
        · have : t.Kids = [] := by simp at hh; exact hh.1.2
          rw [this] at hnd; simp [nodesL] at hnd; omega
      · exact fun hh => hh.2.2
    · intro hh
      have : t.Kids = [] := by simp at hh; exact hh.1.2
      rw [this] at hnd; simp [nodesL] at hnd; omega
  · rw [if_neg g1]
    have none_ : ∀ q : Bool, q = false → impl_treeFits t d ((m + 1 : Nat) : Int) = some (false, (m : Int)) → (∃ (ok : Bool) (l' : Int), impl_treeFits t d ((m + 1 : Nat) : Int) = some (ok, l') ∧ (ok = true ↔ depth t + d ≤ 25 ∧ nodes t ≤ m + 1 ∧ q = true) ∧ (ok = true → l' = ((m + 1 : Nat) : Int) - nodes t)) :=
      fun q hq hh => ⟨false, m, hh, by simp [hq], by simp⟩
    cases g2 : inB t.Tag 0 4
    · exact none_ _ (by simp) (impl_treeFits_of _ _ _ (by rw [hc1, w1', hc2]; simp [g1, within_ok, g2]))
    cases g3 : inB t.Key (-1) 99
    · exact none_ _ (by simp) (impl_treeFits_of _ _ _ (by rw [hc1, w1', hc2]; simp [g1, within_ok, g2, g3]))
    by_cases g4 : t.Text = []
    · refine ⟨ok2, l2, impl_treeFits_of _ _ _ (by rw [hc1, w1', hc2]; simpa [g1, within_ok, g2, g3, g4] using p1), ?_, fun hh => ?_⟩
      · rw [p2, k2]
        simp only [g4, decide_true, Bool.and_true, Bool.true_and, Bool.and_eq_true]
        constructor
        · rintro ⟨b1, b2, b3, b4, b5⟩; exact ⟨by omega, by omega, ⟨b1, b4⟩, b5⟩
        · rintro ⟨b1, b2, ⟨b3, b4⟩, b5⟩; exact ⟨b3, by omega, by omega, b4, b5⟩
      · have a1 := p3 hh
        have a2 := k3 (p2.1 hh).2
        omega
    · exact none_ _ (by simp [g4]) (impl_treeFits_of _ _ _ (by rw [hc1, w1', hc2]; simp [g1, within_ok, g2, g3, g4]))

theorem TreeOk_ok (t : TTree) (hl : Lm 1048576 t) : impl_TreeOk t = some (treeB t) := by
  obtain ⟨ok, l, e1, e2, _⟩ := treeFits_ok t hl 1 200 (by omega) (by omega) (by omega)
  refine impl_TreeOk_of _ ?_
  rw [show ((1 : Nat) : Int) = 1 from rfl, show ((200 : Nat) : Int) = 200 from rfl] at e1
  rw [e1]
  simp only [Option.bind_some, Option.some.injEq]
  rw [Bool.eq_iff_iff, e2]
  simp only [treeB, Bool.and_eq_true, decide_eq_true_eq]
  constructor
  · rintro ⟨a, b, c⟩; exact ⟨⟨by omega, b⟩, c⟩
  · rintro ⟨⟨a, b⟩, c⟩; exact ⟨by omega, b, c⟩
end Go.Fw.Law
namespace Go.Fw.Law
open Go Go.Fw

theorem wayCopy_ok (w : List Int) (h : w.length ≤ 1048576) : impl_wayCopy w = some w := impl_wayCopy_of _ (by rw [if_pos (by simp [apOk]; omega)])
theorem apN {α β : Type} (by_ : Nat) (xs : List α) (ys : List β) (hb : by_ ≤ 1000) (hx : xs.length ≤ 1048576) (hy : ys.length ≤ 1048576) : apOk by_ xs ys := by
  have : (xs.length + ys.length) * by_ ≤ 2097152 * 1000 := Nat.mul_le_mul (by omega) hb
  exact ⟨by omega, by omega⟩
theorem TTree.eta (t : TTree) : (⟨t.Tag, t.Key, t.Text, t.Props, t.Kids⟩ : TTree) = t := by cases t; rfl
theorem copyTree_ok : ∀ t, Lm 1048576 t → spec_copyTree t = some t := by
  refine TTree.ind ?_
  intro t ih hl
  have hkl := hl.kl
  have loop : ∀ k : Nat, k ≤ t.Kids.length → ∀ y2 : TTree, spec_copyTree_b1 k t y2 ⟨t.Tag, t.Key, t.Text, t.Props, t.Kids.take k⟩ = some t := by
    refine upto _ ?_ ?_
    · intro y2
      refine spec_copyTree_b1_of _ _ _ _ ?_
      rw [dge, List.take_length]
      simp only [Bool.false_eq_true, if_false, TTree.eta]
    · intro k hk ihk y2
      refine spec_copyTree_b1_of _ _ _ _ ?_
      have hap : apOk 80 (t.Kids.take k) [t.Kids[k]] := apN _ _ _ (by omega) (by simp; omega) (by simp)
      rw [dlt hk, rdx_nat hk]
      simp only [if_true, Option.bind_some, ih _ (List.getElem_mem hk) (hl.ks _ (List.getElem_mem hk)), if_pos hap, w64s (show (k : Int) + 1 < 9223372036854775808 by omega)]
      have := ihk y2
      rwa [List.take_succ_eq_append_getElem hk] at this
  refine spec_copyTree_of _ ?_
  rw [if_pos (apN _ _ _ (by omega) (by simp) hl.ps)]
  exact loop 0 (by omega) _
theorem treeCopy_ok : ∀ t, Lm 1048576 t → impl_treeCopy t = some t := by
  refine TTree.ind ?_
  intro t ih hl
  have hkl := hl.kl
  have loop : ∀ k : Nat, k ≤ t.Kids.length → impl_treesCopy_b1 (t.Kids.take k) t.Kids t.Kids.length k = some t.Kids := by
    refine upto _ (impl_treesCopy_b1_of _ _ _ _ (by rw [dge]; simp)) ?_
    intro k hk ihk
    refine impl_treesCopy_b1_of _ _ _ _ ?_
    have hap : apOk 80 (t.Kids.take k) [t.Kids[k]] := apN _ _ _ (by omega) (by simp; omega) (by simp)
    rw [dlt hk, rdx_nat hk]
    simp only [if_true, Option.bind_some, ih _ (List.getElem_mem hk) (hl.ks _ (List.getElem_mem hk)), if_pos hap, w64s (show (k : Int) + 1 < 9223372036854775808 by omega)]
    rwa [List.take_succ_eq_append_getElem hk] at ihk
  have h2 : impl_treesCopy t.Kids = some t.Kids := impl_treesCopy_of _ (loop 0 (by omega))
  exact impl_treeCopy_of _ (by rw [if_pos (apN _ _ _ (by omega) (by simp) hl.ps), h2]; simp only [Option.bind_some, TTree.eta])

/-- Where a number stands, or -1. -/
def idx (xs : List Int) (v : Int) : Int := if v ∈ xs then (xs.idxOf v : Int) else -1
/-- Where a number stands from a place on, or -1. -/
def idxFrom (xs : List Int) (v : Int) (k : Nat) : Int := if v ∈ xs.drop k then ((k + (xs.drop k).idxOf v : Nat) : Int) else -1
theorem idxFrom_step (xs : List Int) (v : Int) (k : Nat) (hk : k < xs.length) : idxFrom xs v k = if xs[k] = v then (k : Int) else idxFrom xs v (k + 1) := by
  unfold idxFrom
  rw [drop_at hk, List.idxOf_cons]
  by_cases h : xs[k] = v
  · simp [h]
  · have h2 : (xs[k] == v) = false := by simp [h]
    have h4 : v ≠ xs[k] := fun e => h e.symm
    simp only [List.mem_cons, h2, cond_false, h, if_false, h4, false_or]
    by_cases h3 : v ∈ xs.drop (k + 1)
    · simp only [h3, if_true]; omega
    · simp only [h3, if_false]
theorem idxFrom_end (xs : List Int) (v : Int) : idxFrom xs v xs.length = -1 := by simp [idxFrom]
theorem idxFrom_0 (xs : List Int) (v : Int) : idxFrom xs v 0 = idx xs v := by simp [idxFrom, idx]
theorem indexOf_ok (xs : List Int) (v : Int) (hl : xs.length ≤ 1048576) : spec_indexOf xs v = some (idx xs v) := by
  have loop : ∀ k : Nat, k ≤ xs.length → spec_indexOf_b1 xs v k = some (idxFrom xs v k) := by
    refine upto _ (spec_indexOf_b1_of _ _ _ (by rw [dge, idxFrom_end]; simp)) ?_
    intro k hk ih
    refine spec_indexOf_b1_of _ _ _ ?_
    rw [dlt hk, rdx_nat hk, w64s (by omega), idxFrom_step xs v k hk]
    by_cases h : xs[k] = v
    · simp [h]
    · simpa [h] using ih
  refine spec_indexOf_of _ _ ?_
  have := loop 0 (by omega)
  rwa [idxFrom_0] at this
theorem indexOf_v_ok (xs : List Int) (v : Int) (hl : xs.length ≤ 1048576) : spec_indexOf_v xs v = some (idx xs v) := by
  have loop : ∀ k : Nat, k ≤ xs.length → spec_indexOf_v_b1 xs v k = some (idxFrom xs v k) := by
    refine upto _ (spec_indexOf_v_b1_of _ _ _ (by rw [dge, idxFrom_end]; simp)) ?_
    intro k hk ih
    refine spec_indexOf_v_b1_of _ _ _ ?_
    rw [dlt hk, rdx_nat hk, w64s (by omega), idxFrom_step xs v k hk]
    by_cases h : xs[k] = v
    · simp [h]
    · simpa [h] using ih
  refine spec_indexOf_v_of _ _ ?_
  have := loop 0 (by omega)
  rwa [idxFrom_0] at this
theorem Index_ok (xs : List Int) (v : Int) (hl : xs.length ≤ 1048576) : slices_Index_int_int xs v = some (idx xs v) := by
  have loop : ∀ k : Nat, k ≤ xs.length → slices_Index_int_int_b1 xs v xs.length k = some (idxFrom xs v k) := by
    refine upto _ (slices_Index_int_int_b1_of _ _ _ _ (by rw [dge, idxFrom_end]; simp)) ?_
    intro k hk ih
    refine slices_Index_int_int_b1_of _ _ _ _ ?_
    rw [dlt hk, rdx_nat hk, w64s (by omega), idxFrom_step xs v k hk]
    by_cases h : xs[k] = v
    · simp [h]
    · have h4 : ¬ v = xs[k] := fun e => h e.symm
      simpa [h, h4] using ih
  refine slices_Index_int_int_of _ _ ?_
  have := loop 0 (by omega)
  rwa [idxFrom_0] at this

theorem mapName (ps : List TProp) (k : Nat) (hk : k < ps.length) : (ps.map (·.Name))[k]'(by simpa using hk) = ps[k].Name := by simp
/-- Where a prop of a name stands, or -1. -/
def pIdx (ps : List TProp) (n : Int) : Int := idx (ps.map (·.Name)) n
theorem propAt_ok (ps : List TProp) (n : Int) (hl : ps.length ≤ 1048576) : spec_propAt ps n = some (pIdx ps n) := by
  have loop : ∀ k : Nat, k ≤ ps.length → spec_propAt_b1 ps n k = some (idxFrom (ps.map (·.Name)) n k) := by
    refine upto _ (spec_propAt_b1_of _ _ _ (by rw [dge, show ps.length = (ps.map (·.Name)).length by simp, idxFrom_end]; simp)) ?_
    intro k hk ih
    refine spec_propAt_b1_of _ _ _ ?_
    rw [dlt hk, rdx_nat hk, w64s (by omega), idxFrom_step _ n k (by simpa using hk), mapName ps k hk]
    by_cases h : ps[k].Name = n
    · simp [h]
    · simpa [h] using ih
  refine spec_propAt_of _ _ ?_
  have := loop 0 (by omega)
  rwa [idxFrom_0] at this
theorem cl1_ok (p : TProp) (n : Int) : impl_propEdits_1 p n = some (decide (p.Name = n)) := impl_propEdits_1_of _ _ rfl
theorem cl2_ok (p : TProp) (n : Int) : impl_propEdits_2 p n = some (decide (p.Name = n)) := impl_propEdits_2_of _ _ rfl
theorem IndexFunc_ok (ps : List TProp) (n : Int) (hl : ps.length ≤ 1048576) : slices_IndexFunc_impl_Prop_impl_Prop ps n = some (pIdx ps n) := by
  have loop : ∀ k : Nat, k ≤ ps.length → slices_IndexFunc_impl_Prop_impl_Prop_b1 ps n ps.length k = some (idxFrom (ps.map (·.Name)) n k) := by
    refine upto _ (slices_IndexFunc_impl_Prop_impl_Prop_b1_of _ _ _ _ (by rw [dge, show ps.length = (ps.map (·.Name)).length by simp, idxFrom_end]; simp)) ?_
    intro k hk ih
    refine slices_IndexFunc_impl_Prop_impl_Prop_b1_of _ _ _ _ ?_
    rw [dlt hk, rdx_nat hk, w64s (by omega), idxFrom_step _ n k (by simpa using hk), mapName ps k hk]
    by_cases h : ps[k].Name = n
    · simp [h, cl1_ok]
    · simpa [h, cl1_ok] using ih
  refine slices_IndexFunc_impl_Prop_impl_Prop_of _ _ ?_
  have := loop 0 (by omega)
  rwa [idxFrom_0] at this
theorem IndexFunc_v_ok (ps : List TProp) (n : Int) (hl : ps.length ≤ 1048576) : slices_IndexFunc_impl_Prop_impl_Prop_v ps n = some (pIdx ps n) := by
  have loop : ∀ k : Nat, k ≤ ps.length → slices_IndexFunc_impl_Prop_impl_Prop_v_b1 ps n ps.length k = some (idxFrom (ps.map (·.Name)) n k) := by
    refine upto _ (slices_IndexFunc_impl_Prop_impl_Prop_v_b1_of _ _ _ _ (by rw [dge, show ps.length = (ps.map (·.Name)).length by simp, idxFrom_end]; simp)) ?_
    intro k hk ih
    refine slices_IndexFunc_impl_Prop_impl_Prop_v_b1_of _ _ _ _ ?_
    rw [dlt hk, rdx_nat hk, w64s (by omega), idxFrom_step _ n k (by simpa using hk), mapName ps k hk]
    by_cases h : ps[k].Name = n
    · simp [h, cl2_ok]
    · simpa [h, cl2_ok] using ih
  refine slices_IndexFunc_impl_Prop_impl_Prop_v_of _ _ ?_
  have := loop 0 (by omega)
  rwa [idxFrom_0] at this
theorem idx_range (xs : List Int) (v : Int) : idx xs v = -1 ∨ (0 ≤ idx xs v ∧ (idx xs v).toNat < xs.length) := by
  unfold idx
  split
  · rename_i h
    have := List.idxOf_lt_length_iff.2 h
    right; omega
  · exact .inl rfl
theorem pIdx_range (ps : List TProp) (v : Int) : pIdx ps v = -1 ∨ (0 ≤ pIdx ps v ∧ (pIdx ps v).toNat < ps.length) := by
  have := idx_range (ps.map (·.Name)) v
  simpa [pIdx] using this

@[simp] def noVal : TValue := ⟨0, 0, []⟩
@[simp] def noTree : TTree := ⟨0, 0, [], [], []⟩
/-- An edit whose way is not long and whose tree is as told. -/
def EOk (Q : TTree → Prop) (e : TEdit) : Prop := e.Way.length ≤ 1048576 ∧ Q e.Tree
theorem EOk.app {Q : TTree → Prop} {acc : List TEdit} {e : TEdit} (h : ∀ x ∈ acc, EOk Q x) (he : EOk Q e) : ∀ x ∈ acc ++ [e], EOk Q x := fun x hx => by
  rcases List.mem_append.1 hx with h' | h'
  · exact h x h'
  · rw [List.mem_singleton] at h'; exact h' ▸ he
theorem EOk.both {Q : TTree → Prop} {acc E : List TEdit} (h : ∀ x ∈ acc, EOk Q x) (he : ∀ x ∈ E, EOk Q x) : ∀ x ∈ acc ++ E, EOk Q x := fun x hx => (List.mem_append.1 hx).elim (h x) (he x)
/-- The edits of props: the program's are the reference's. -/
theorem propEdits_ok (Q : TTree → Prop) (hQ : Q noTree) (a b : TTree) (w : List Int) (hw : w.length ≤ 1048576) (ha : a.Props.length ≤ 1048576) (hb : b.Props.length ≤ 1048576) :
    ∃ E, spec_propEdits a.Props b.Props w = some E ∧ impl_propEdits a b w = some E ∧ E.length ≤ 4 ∧ ∀ e ∈ E, EOk Q e := by
  have loop : ∀ k : Nat, k ≤ 4 → ∀ acc : List TEdit, acc.length ≤ k → ∃ E, spec_propEdits_b1 a.Props b.Props w acc k = some E ∧ impl_propEdits_b1 w acc k a b = some E ∧ E.length ≤ 4 ∧ ((∀ e ∈ acc, EOk Q e) → ∀ e ∈ E, EOk Q e) := by
    refine upto _ ?_ ?_
    · intro acc hacc
      exact ⟨acc, spec_propEdits_b1_of _ _ _ _ _ (by simp), impl_propEdits_b1_of _ _ _ _ _ (by simp), hacc, fun h => h⟩
    · intro k hk ih acc hacc
      have hap : ∀ e : TEdit, apOk 160 acc [e] := fun e => apN _ _ _ (by omega) (by omega) (by simp)
      have hwap : apOk 8 ([] : List Int) w := apN _ _ _ (by omega) (by simp) hw
      have hws : w64 ((k : Int) + 1) = ((k + 1 : Nat) : Int) := w64s (by omega)
      have hd : decide ((k : Int) < 4) = true := decide_eq_true (by omega)
      obtain ⟨E0, s0, i0, l0⟩ := ih acc (by omega)
      rcases pIdx_range a.Props k with hi | ⟨hi0, hi1⟩ <;> rcases pIdx_range b.Props k with hj | ⟨hj0, hj1⟩
      · -- neither
        refine ⟨E0, spec_propEdits_b1_of _ _ _ _ _ ?_, impl_propEdits_b1_of _ _ _ _ _ ?_, l0⟩
        · rw [hd, propAt_ok _ _ ha, propAt_ok _ _ hb]
          have h3 : spec_propEdits_b3 a.Props b.Props w acc k (-1) false = some E0 := spec_propEdits_b3_of _ _ _ _ _ _ _ (by simpa [hws] using s0)
          have h2 : spec_propEdits_b2 a.Props b.Props w acc k (-1) (-1) false = some E0 := spec_propEdits_b2_of _ _ _ _ _ _ _ _ (by simpa using h3)
          simpa [hi, hj] using h2
        · rw [hd, IndexFunc_ok _ _ ha, IndexFunc_v_ok _ _ hb]
          have h3 : impl_propEdits_b3 w acc (-1) k false a b k = some E0 := impl_propEdits_b3_of _ _ _ _ _ _ _ _ (by simpa [hws] using i0)
          have h2 : impl_propEdits_b2 w acc (-1) (-1) k false a b k = some E0 := impl_propEdits_b2_of _ _ _ _ _ _ _ _ _ (by simpa using h3)
          simpa [hi, hj] using h2
      · -- new
        obtain ⟨E1, s1, i1, l1⟩ := ih (acc ++ [⟨2, w, k, 0, (b.Props[(pIdx b.Props k).toNat]).Val, noTree⟩]) (by simp; omega)
        refine ⟨E1, spec_propEdits_b1_of _ _ _ _ _ ?_, impl_propEdits_b1_of _ _ _ _ _ ?_, l1.1, fun h => l1.2 (EOk.app h ⟨hw, hQ⟩)⟩
        · rw [hd, propAt_ok _ _ ha, propAt_ok _ _ hb]
          have h3 : spec_propEdits_b3 a.Props b.Props w acc k (pIdx b.Props k) true = some E1 := spec_propEdits_b3_of _ _ _ _ _ _ _ (by simpa [hwap, rdx_int hj0 hj1, hap, hws] using s1)
          have h2 : spec_propEdits_b2 a.Props b.Props w acc k (-1) (pIdx b.Props k) false = some E1 := spec_propEdits_b2_of _ _ _ _ _ _ _ _ (by simpa [hj0] using h3)
          simpa [hi, show ¬ pIdx b.Props k < 0 by omega] using h2
        · rw [hd, IndexFunc_ok _ _ ha, IndexFunc_v_ok _ _ hb]
          have h3 : impl_propEdits_b3 w acc (pIdx b.Props k) k true a b k = some E1 := impl_propEdits_b3_of _ _ _ _ _ _ _ _ (by simpa [wayCopy_ok w hw, rdx_int hj0 hj1, hap, hws] using i1)
          have h2 : impl_propEdits_b2 w acc (-1) (pIdx b.Props k) k false a b k = some E1 := impl_propEdits_b2_of _ _ _ _ _ _ _ _ _ (by simpa [hj0] using h3)
          simpa [hi] using h2
      · -- gone
        obtain ⟨E1, s1, i1, l1⟩ := ih (acc ++ [⟨3, w, k, 0, noVal, noTree⟩]) (by simp; omega)
        refine ⟨E1, spec_propEdits_b1_of _ _ _ _ _ ?_, impl_propEdits_b1_of _ _ _ _ _ ?_, l1.1, fun h => l1.2 (EOk.app h ⟨hw, hQ⟩)⟩
        · rw [hd, propAt_ok _ _ ha, propAt_ok _ _ hb]
          have h2 : spec_propEdits_b2 a.Props b.Props w acc k (pIdx a.Props k) (-1) true = some E1 := spec_propEdits_b2_of _ _ _ _ _ _ _ _ (by simpa [hwap, hap, hws] using s1)
          simpa [hj, hi0] using h2
        · rw [hd, IndexFunc_ok _ _ ha, IndexFunc_v_ok _ _ hb]
          have h2 : impl_propEdits_b2 w acc (pIdx a.Props k) (-1) k true a b k = some E1 := impl_propEdits_b2_of _ _ _ _ _ _ _ _ _ (by simpa [wayCopy_ok w hw, hap, hws] using i1)
          simpa [hj, hi0] using h2
      · -- both
        obtain ⟨E1, s1, i1, l1⟩ := ih (acc ++ [⟨2, w, k, 0, (b.Props[(pIdx b.Props k).toNat]).Val, noTree⟩]) (by simp; omega)
        generalize hc : (!(decide ((a.Props[(pIdx a.Props k).toNat]).Val.Kind = (b.Props[(pIdx b.Props k).toNat]).Val.Kind) && (decide ((a.Props[(pIdx a.Props k).toNat]).Val.Num = (b.Props[(pIdx b.Props k).toNat]).Val.Num) && (decide ((a.Props[(pIdx a.Props k).toNat]).Val.Text = (b.Props[(pIdx b.Props k).toNat]).Val.Text) && true)))) = c
        have spec3 : spec_propEdits_b3 a.Props b.Props w acc k (pIdx b.Props k) c = some (if c then E1 else E0) := by
          cases c
          · exact spec_propEdits_b3_of _ _ _ _ _ _ _ (by simpa [hws] using s0)
          · exact spec_propEdits_b3_of _ _ _ _ _ _ _ (by simpa [hwap, rdx_int hj0 hj1, hap, hws] using s1)
        have impl3 : impl_propEdits_b3 w acc (pIdx b.Props k) k c a b k = some (if c then E1 else E0) := by
          cases c
          · exact impl_propEdits_b3_of _ _ _ _ _ _ _ _ (by simpa [hws] using i0)
          · exact impl_propEdits_b3_of _ _ _ _ _ _ _ _ (by simpa [wayCopy_ok w hw, rdx_int hj0 hj1, hap, hws] using i1)
        refine ⟨if c then E1 else E0, spec_propEdits_b1_of _ _ _ _ _ ?_, impl_propEdits_b1_of _ _ _ _ _ ?_, by
          split
          · exact ⟨l1.1, fun h => l1.2 (EOk.app h ⟨hw, hQ⟩)⟩
          · exact l0⟩
        · rw [hd, propAt_ok _ _ ha, propAt_ok _ _ hb]
          have h2 : spec_propEdits_b2 a.Props b.Props w acc k (pIdx a.Props k) (pIdx b.Props k) false = some (if c then E1 else E0) := by
            refine spec_propEdits_b2_of _ _ _ _ _ _ _ _ ?_
            rw [decide_eq_true hj0, decide_eq_false (show ¬ pIdx a.Props k < 0 by omega), rdx_int hi0 hi1, rdx_int hj0 hj1]
            simp only [if_true, Option.bind_some, Bool.false_eq_true, if_false]
            rw [hc]; exact spec3
          simpa [show ¬ pIdx b.Props k < 0 by omega] using h2
        · rw [hd, IndexFunc_ok _ _ ha, IndexFunc_v_ok _ _ hb]
          have h2 : impl_propEdits_b2 w acc (pIdx a.Props k) (pIdx b.Props k) k false a b k = some (if c then E1 else E0) := by
            refine impl_propEdits_b2_of _ _ _ _ _ _ _ _ _ ?_
            rw [decide_eq_true hj0, decide_eq_false (show ¬ pIdx a.Props k < 0 by omega), rdx_int hi0 hi1, rdx_int hj0 hj1]
            simp only [if_true, Option.bind_some, Bool.false_eq_true, if_false]
            rw [hc]; exact impl3
          simpa [hi0, show decide (pIdx b.Props k < 0) = false from decide_eq_false (by omega)] using h2
  obtain ⟨E, s, i, l⟩ := loop 0 (by omega) [] (by simp)
  exact ⟨E, spec_propEdits_of _ _ _ s, impl_propEdits_of _ _ _ i, l.1, l.2 (by simp)⟩
end Go.Fw.Law
namespace Go.Fw.Law
open Go Go.Fw

theorem len_ok {n : Nat} (h : n ≤ 1048576) (b : Int) (hb : b = 1 ∨ b = 8) : (0 ≤ (n : Int) ∧ (n : Int) * b ≤ 281474976710656 ∧ (n : Int) ≤ 9223372036854775807) := by
  rcases hb with rfl | rfl <;> omega
/-- The last walk of the rise. -/
theorem rise_walk (P many : List Int) (n : Nat) (hl : n ≤ 1048576) (hP : P.length = n) (hm : many.length = n) : ∀ k : Nat, k ≤ n → ∀ (out : List Bool) (last want : Int), out.length = n →
    ∃ M, spec_longestRise_b4 P many out last want k = some M ∧ impl_rising_b4 P n many want out last k = some M ∧ M.length = n := by
  refine upto _ ?_ ?_
  · intro out last want ho
    exact ⟨out, spec_longestRise_b4_of _ _ _ _ _ _ (by rw [hP, dge]; simp), impl_rising_b4_of _ _ _ _ _ _ _ (by rw [dge]; simp), ho⟩
  · intro k hk ih out last want ho
    have hk1 : k < P.length := by omega
    have hk2 : k < many.length := by omega
    have hk3 : k < out.length := by omega
    have hw : w64 ((k : Int) + 1) = ((k + 1 : Nat) : Int) := w64s (by omega)
    by_cases h0 : 0 < want
    · by_cases h1 : many[k] = want
      · by_cases h2 : last < P[k]
        · obtain ⟨M, e1, e2, e3⟩ := ih (out.set k true) P[k] (w64 (want - 1)) (by simpa using ho)
          exact ⟨M, spec_longestRise_b4_of _ _ _ _ _ _ (by rw [hP, dlt hk, rdx_nat hk1, rdx_nat hk2, rdx_nat hk3, hw]; simpa [h0, h1, h2] using e1),
            impl_rising_b4_of _ _ _ _ _ _ _ (by rw [dlt hk, rdx_nat hk1, rdx_nat hk2, rdx_nat hk3, hw]; simpa [h0, h1, h2] using e2), e3⟩
        · obtain ⟨M, e1, e2, e3⟩ := ih out last want ho
          exact ⟨M, spec_longestRise_b4_of _ _ _ _ _ _ (by rw [hP, dlt hk, rdx_nat hk1, rdx_nat hk2, rdx_nat hk3, hw]; simpa [h0, h1, h2] using e1),
            impl_rising_b4_of _ _ _ _ _ _ _ (by rw [dlt hk, rdx_nat hk1, rdx_nat hk2, rdx_nat hk3, hw]; simpa [h0, h1, h2] using e2), e3⟩
      · obtain ⟨M, e1, e2, e3⟩ := ih out last want ho
        refine ⟨M, spec_longestRise_b4_of _ _ _ _ _ _ (by rw [hP, dlt hk, rdx_nat hk1, rdx_nat hk2, rdx_nat hk3, hw]; simpa [h0, h1] using e1),
            impl_rising_b4_of _ _ _ _ _ _ _ ?_, e3⟩
        rw [dlt hk, rdx_nat hk1, rdx_nat hk2, rdx_nat hk3, hw]
        by_cases h2 : last < P[k] <;> simpa [h0, h1, h2] using e2
    · exact ⟨out, spec_longestRise_b4_of _ _ _ _ _ _ (by rw [hP, dlt hk]; simp [h0]), impl_rising_b4_of _ _ _ _ _ _ _ (by rw [dlt hk]; simp [h0]), ho⟩
theorem rise_max (P many : List Int) (n : Nat) (hl : n ≤ 1048576) (hP : P.length = n) (hm : many.length = n) (out : List Bool) (ho : out = List.replicate n false) : ∀ k : Nat, k ≤ n → ∀ want : Int,
    ∃ M, spec_longestRise_b3 P many out (-1) want k = some M ∧ impl_rising_b3 P n many want n k = some M ∧ M.length = n := by
  refine upto _ ?_ ?_
  · intro want
    obtain ⟨M, e1, e2, e3⟩ := rise_walk P many n hl hP hm 0 (by omega) out (-1) want (by simp [ho])
    refine ⟨M, spec_longestRise_b3_of _ _ _ _ _ _ (by rw [hP, dge]; simpa using e1), impl_rising_b3_of _ _ _ _ _ _ ?_, e3⟩
    rw [dge, if_pos (len_ok hl 1 (.inl rfl))]
    rw [ho] at e2
    simpa using e2
  · intro k hk ih want
    have hk1 : k < P.length := by omega
    have hk2 : k < many.length := by omega
    have hw : w64 ((k : Int) + 1) = ((k + 1 : Nat) : Int) := w64s (by omega)
    obtain ⟨M, e1, e2, e3⟩ := ih (max want many[k])
    exact ⟨M, spec_longestRise_b3_of _ _ _ _ _ _ (by rw [hP, dlt hk, rdx_nat hk2, hw]; simpa using e1), impl_rising_b3_of _ _ _ _ _ _ (by rw [dlt hk, rdx_nat hk2, hw]; simpa using e2), e3⟩
/-- The walk from the end: places i - 1, i - 2, .. -/
theorem rise_count (P : List Int) (n : Nat) (hl : n ≤ 1048576) (hP : P.length = n) : ∀ i : Nat, i ≤ n → ∀ many : List Int, many.length = n →
    ∃ M, spec_longestRise_b1 P many ((i : Int) - 1) = some M ∧ impl_rising_b1 P n many ((i : Int) - 1) = some M ∧ M.length = n := by
  intro i
  induction i with
  | zero =>
    intro _ many hm
    obtain ⟨M, e1, e2, e3⟩ := rise_max P many n hl hP hm (List.replicate n false) rfl 0 (by omega) 0
    refine ⟨M, spec_longestRise_b1_of _ _ _ ?_, impl_rising_b1_of _ _ _ _ ?_, e3⟩
    · rw [hP, if_pos (len_ok hl 1 (.inl rfl))]
      simpa using e1
    · rw [hm]; simpa using e2
  | succ i ih =>
    intro hi many hm
    have hi1 : i < P.length := by omega
    have e : (((i + 1 : Nat) : Int) - 1) = (i : Int) := by omega
    have hwd : w64 ((i : Int) - 1) = (i : Int) - 1 := w64_id (by omega) (by omega)
    rw [e]
    -- the inner loop
    have inner : ∀ k : Nat, k ≤ n → ∀ many : List Int, many.length = n → ∃ M, spec_longestRise_b2 P many i k = some M ∧ impl_rising_b2 P n many i k = some M ∧ M.length = n := by
      refine upto _ ?_ ?_
      · intro many hm
        obtain ⟨M, e1, e2, e3⟩ := ih (by omega) many hm
        exact ⟨M, spec_longestRise_b2_of _ _ _ _ (by rw [hP, dge, hwd]; simpa using e1), impl_rising_b2_of _ _ _ _ _ (by rw [dge, hwd]; simpa using e2), e3⟩
      · intro k hk ihk many hm
        have hk1 : k < P.length := by omega
        have hk2 : k < many.length := by omega
        have hi2 : i < many.length := by omega
        have hw : w64 ((k : Int) + 1) = ((k + 1 : Nat) : Int) := w64s (by omega)
        by_cases h1 : P[i] < P[k]
        · by_cases h2 : many[i] < w64 (many[k] + 1)
          · obtain ⟨M, e1, e2, e3⟩ := ihk (many.set i (w64 (many[k] + 1))) (by simpa using hm)
            exact ⟨M, spec_longestRise_b2_of _ _ _ _ (by rw [hP, dlt hk, rdx_nat hk1, rdx_nat hi1, rdx_nat hk2, rdx_nat hi2, hw]; simpa [h1, h2] using e1),
              impl_rising_b2_of _ _ _ _ _ (by rw [dlt hk, rdx_nat hk1, rdx_nat hi1, rdx_nat hk2, rdx_nat hi2, hw]; simpa [h1, h2] using e2), e3⟩
          · obtain ⟨M, e1, e2, e3⟩ := ihk many hm
            exact ⟨M, spec_longestRise_b2_of _ _ _ _ (by rw [hP, dlt hk, rdx_nat hk1, rdx_nat hi1, rdx_nat hk2, rdx_nat hi2, hw]; simpa [h1, h2] using e1),
              impl_rising_b2_of _ _ _ _ _ (by rw [dlt hk, rdx_nat hk1, rdx_nat hi1, rdx_nat hk2, rdx_nat hi2, hw]; simpa [h1, h2] using e2), e3⟩
        · obtain ⟨M, e1, e2, e3⟩ := ihk many hm
          exact ⟨M, spec_longestRise_b2_of _ _ _ _ (by rw [hP, dlt hk, rdx_nat hk1, rdx_nat hi1, hw]; simpa [h1] using e1), impl_rising_b2_of _ _ _ _ _ (by rw [dlt hk, rdx_nat hk1, rdx_nat hi1, hw]; simpa [h1] using e2), e3⟩
    have hd : decide ((0 : Int) ≤ (i : Int)) = true := decide_eq_true (by omega)
    by_cases h0 : P[i] < 0
    · obtain ⟨M, e1, e2, e3⟩ := ih (by omega) many hm
      exact ⟨M, spec_longestRise_b1_of _ _ _ (by rw [hd, rdx_nat hi1, hwd]; simpa [h0] using e1), impl_rising_b1_of _ _ _ _ (by rw [hd, rdx_nat hi1, hwd]; simpa [h0] using e2), e3⟩
    · have hi2 : i < many.length := by omega
      obtain ⟨M, e1, e2, e3⟩ := inner (i + 1) (by omega) (many.set i 1) (by simpa using hm)
      have hw : w64 ((i : Int) + 1) = ((i + 1 : Nat) : Int) := w64s (by omega)
      exact ⟨M, spec_longestRise_b1_of _ _ _ (by rw [hd, rdx_nat hi1, rdx_nat hi2, hw]; simpa [h0] using e1), impl_rising_b1_of _ _ _ _ (by rw [hd, rdx_nat hi1, rdx_nat hi2, hw]; simpa [h0] using e2), e3⟩
/-- What stays: the program's is the reference's. -/
theorem rise_ok (P : List Int) (hl : P.length ≤ 1048576) : ∃ M, spec_longestRise P = some M ∧ impl_rising P = some M ∧ M.length = P.length := by
  obtain ⟨M, e1, e2, e3⟩ := rise_count P P.length hl rfl P.length (Nat.le_refl _) (List.replicate P.length 0) (by simp)
  have hw : w64 ((P.length : Int) - 1) = (P.length : Int) - 1 := w64_id (by omega) (by omega)
  exact ⟨M, spec_longestRise_of _ (by rw [if_pos (len_ok hl 8 (.inr rfl)), hw]; simpa using e1), impl_rising_of _ (by rw [if_pos (len_ok hl 8 (.inr rfl)), hw]; simpa using e2), e3⟩

/-- The first part from a place on that is not taken and has a tag and a key, or -1. -/
def fp (old : List TTree) (tk : List Bool) (t : TTree) : Nat → Nat → Int
  | _, 0 => -1
  | k, j + 1 => if tk[k]? = some false ∧ (old[k]?.map fun o => (o.Tag, o.Key)) = some (t.Tag, t.Key) then (k : Int) else fp old tk t (k + 1) j
def mark (tk : List Bool) (p : Int) : List Bool := if 0 ≤ p then tk.set p.toNat true else tk
def parts (old : List TTree) : List TTree → List Bool → List Int × List Bool
  | [], tk => ([], tk)
  | t :: ts, tk => let p := fp old tk t 0 old.length; let r := parts old ts (mark tk p); (p :: r.1, r.2)
theorem fp_range (old : List TTree) (tk : List Bool) (t : TTree) : ∀ j k, k + j ≤ old.length → fp old tk t k j = -1 ∨ ∃ m : Nat, fp old tk t k j = m ∧ k ≤ m ∧ ∃ h : m < old.length, tk[m]? = some false ∧ old[m].Tag = t.Tag ∧ old[m].Key = t.Key
  | 0, k, h => .inl rfl
  | j + 1, k, h => by
    unfold fp
    split
    · rename_i hc
      refine .inr ⟨k, rfl, Nat.le_refl _, by omega, hc.1, ?_⟩
      have := hc.2
      rw [List.getElem?_eq_getElem (by omega)] at this
      simpa using this
    · rcases fp_range old tk t j (k + 1) (by omega) with h1 | ⟨m, h1, h2, h3⟩
      · exact .inl h1
      · exact .inr ⟨m, h1, by omega, h3⟩
theorem mark_len (tk : List Bool) (p : Int) : (mark tk p).length = tk.length := by unfold mark; split <;> simp
theorem parts_len (old : List TTree) : ∀ ts tk, (parts old ts tk).1.length = ts.length ∧ (parts old ts tk).2.length = tk.length
  | [], tk => ⟨rfl, rfl⟩
  | t :: ts, tk => by have := parts_len old ts (mark tk (fp old tk t 0 old.length)); simp [parts, this, mark_len]

/-- The reference's walk: found already, or yet to be found. -/
theorem partners_ok (old list : List TTree) (ho : old.length ≤ 1048576) (hl : list.length ≤ 1048576) : spec_partners old list = some (parts old list (List.replicate old.length false)).1 := by
  have loop : ∀ i : Nat, i ≤ list.length → ∀ (out : List Int) (tk : List Bool), out.length = i → tk.length = old.length → spec_partners_b1 old list out tk i = some (out ++ (parts old (list.drop i) tk).1) := by
    refine upto _ ?_ ?_
    · intro out tk _ _
      exact spec_partners_b1_of _ _ _ _ _ (by rw [dge]; simp [parts])
    · intro i hi ih out tk hout htk
      have hws : w64 ((i : Int) + 1) = ((i + 1 : Nat) : Int) := w64s (by omega)
      have last : ∀ p : Int, p = fp old tk list[i] 0 old.length → spec_partners_b3 old list out tk i p = some (out ++ (parts old (list.drop i) tk).1) := by
        intro p hp
        rw [drop_at hi, parts]
        simp only [← hp]
        have hap : apOk 8 out [p] := apN _ _ _ (by omega) (by omega) (by simp)
        rcases fp_range old tk list[i] old.length 0 (by omega) with h1 | ⟨m, h1, _, h3, h4⟩
        · have hn : p = -1 := hp.trans h1
          have := ih (out ++ [p]) tk (by simp [hout]) htk
          refine spec_partners_b3_of _ _ _ _ _ _ ?_
          rw [hws, decide_eq_false (show ¬ (0 : Int) ≤ p by omega)]
          simpa [hap, mark, show ¬ (0 : Int) ≤ p by omega] using this
        · have hn : p = (m : Int) := hp.trans h1
          have := ih (out ++ [p]) (tk.set m true) (by simp [hout]) (by simpa using htk)
          refine spec_partners_b3_of _ _ _ _ _ _ ?_
          rw [hws, decide_eq_true (show (0 : Int) ≤ p by omega)]
          rw [hn] at hap this ⊢
          rw [rdx_nat (show m < tk.length by omega)]
          simpa [hap, mark] using this
      have inner : ∀ k : Nat, k ≤ old.length → (spec_partners_b2 old list out tk i (-1) k = some (out ++ (parts old (list.drop i) tk).1) ∨ fp old tk list[i] 0 old.length ≠ fp old tk list[i] k (old.length - k)) := by
        refine upto _ ?_ ?_
        · by_cases h : fp old tk list[i] 0 old.length = fp old tk list[i] old.length (old.length - old.length)
          · refine .inl (spec_partners_b2_of _ _ _ _ _ _ _ ?_)
            rw [dge]
            have := last (-1) (by rw [h, Nat.sub_self]; rfl)
            simpa using this
          · exact .inr h
        · intro k hk ihk
          by_cases h : fp old tk list[i] 0 old.length = fp old tk list[i] k (old.length - k)
          · refine .inl (spec_partners_b2_of _ _ _ _ _ _ _ ?_)
            have hk2 : k < tk.length := by omega
            have hwk : w64 ((k : Int) + 1) = ((k + 1 : Nat) : Int) := w64s (by omega)
            have hstep : fp old tk list[i] k (old.length - k) = if tk[k]? = some false ∧ (old[k]?.map fun o => (o.Tag, o.Key)) = some (list[i].Tag, list[i].Key) then (k : Int) else fp old tk list[i] (k + 1) (old.length - (k + 1)) := by
              rw [show old.length - k = (old.length - (k + 1)) + 1 by omega]; rfl
            rw [dlt hk, rdx_nat hk2, rdx_nat hk, rdx_nat hi, hwk]
            rw [List.getElem?_eq_getElem hk2, List.getElem?_eq_getElem hk] at hstep
            have more : ¬ (tk[k] = false ∧ old[k].Tag = list[i].Tag ∧ old[k].Key = list[i].Key) → spec_partners_b2 old list out tk i (-1) ((k + 1 : Nat) : Int) = some (out ++ (parts old (list.drop i) tk).1) := by
              intro hc
              have h2 : fp old tk list[i] k (old.length - k) = fp old tk list[i] (k + 1) (old.length - (k + 1)) := by
                rw [hstep, if_neg (by simpa using hc)]
              exact ihk.resolve_right (fun hne => hne (h.trans h2))
            cases htkk : tk[k] with
            | true => simpa [htkk] using more (by simp [htkk])
            | false =>
              by_cases h1 : old[k].Tag = list[i].Tag
              · by_cases h2 : old[k].Key = list[i].Key
                · -- found
                  have hf : fp old tk list[i] 0 old.length = (k : Int) := by rw [h, hstep, if_pos (by simp [htkk, h1, h2])]
                  have hl3 := last (k : Int) hf.symm
                  have rest : spec_partners_b2 old list out tk i (k : Int) ((k + 1 : Nat) : Int) = some (out ++ (parts old (list.drop i) tk).1) := by
                    refine spec_partners_b2_of _ _ _ _ _ _ _ ?_
                    have : decide ((k : Int) < 0) = false := decide_eq_false (by omega)
                    by_cases hke : k + 1 < old.length
                    · rw [dlt hke, this]; simpa using hl3
                    · rw [decide_eq_false (show ¬ ((k + 1 : Nat) : Int) < (old.length : Int) by omega)]; simpa using hl3
                  simpa [htkk, h1, h2] using rest
                · simpa [htkk, h1, h2] using more (by simp [h2])
              · simpa [htkk, h1] using more (by simp [h1])
          · exact .inr h
      refine spec_partners_b1_of _ _ _ _ _ ?_
      rw [dlt hi]
      have := (inner 0 (by omega)).resolve_right (fun h => h rfl)
      simpa using this
  refine spec_partners_of _ _ ?_
  rw [if_pos (len_ok ho 1 (.inl rfl))]
  simpa using loop 0 (by omega) [] (List.replicate old.length false) rfl (by simp)
end Go.Fw.Law
namespace Go.Fw.Law
open Go Go.Fw

theorem mark_some (tk : List Bool) (p : Int) (k : Nat) : (mark tk p)[k]? = some true ↔ tk[k]? = some true ∨ (p = (k : Int) ∧ k < tk.length) := by
  unfold mark
  by_cases h : 0 ≤ p
  · obtain ⟨m, rfl⟩ := Int.eq_ofNat_of_zero_le h
    rw [if_pos h, Int.toNat_natCast, List.getElem?_set]
    by_cases hm : m = k
    · subst hm
      by_cases hl : m < tk.length
      · simp [hl]
      · simp [hl]
    · have : ¬ (m : Int) = (k : Int) := by omega
      simp [hm, this]
  · rw [if_neg h]
    constructor
    · exact .inl
    · rintro (h1 | ⟨rfl, _⟩)
      · exact h1
      · omega
theorem parts_used (old : List TTree) : ∀ (ts : List TTree) (tk : List Bool), tk.length = old.length → ∀ k : Nat, (parts old ts tk).2[k]? = some true ↔ tk[k]? = some true ∨ (k : Int) ∈ (parts old ts tk).1
  | [], tk, _, k => by simp [parts]
  | t :: ts, tk, h, k => by
    have ih := parts_used old ts (mark tk (fp old tk t 0 old.length)) (by rw [mark_len]; exact h) k
    simp only [parts, ih, mark_some, List.mem_cons]
    constructor
    · rintro ((h1 | ⟨h1, _⟩) | h1)
      · exact .inl h1
      · exact .inr (.inl h1.symm)
      · exact .inr (.inr h1)
    · rintro (h1 | h1 | h1)
      · exact .inl (.inl h1)
      · refine .inl (.inr ⟨h1.symm, ?_⟩)
        rcases fp_range old tk t old.length 0 (by omega) with h2 | ⟨m, h2, _, h3, _⟩
        · rw [h2] at h1; omega
        · rw [h2] at h1; omega
      · exact .inr h1
/-- Partners are places in the elder row, each taken once. -/
theorem parts_spec (old : List TTree) : ∀ (ts : List TTree) (tk : List Bool), tk.length = old.length → ∀ (q : Nat) (hq : q < (parts old ts tk).1.length), (parts old ts tk).1[q] = -1 ∨
    ∃ m : Nat, (parts old ts tk).1[q] = m ∧ tk[m]? = some false ∧ (∃ h : m < old.length, ∃ h2 : q < ts.length, old[m].Tag = ts[q].Tag ∧ old[m].Key = ts[q].Key) ∧ ∀ (q' : Nat) (hq' : q' < (parts old ts tk).1.length), q < q' → (parts old ts tk).1[q'] ≠ m
  | [], tk, _, q, hq => by simp [parts] at hq
  | t :: ts, tk, h, q, hq => by
    have ih := parts_spec old ts (mark tk (fp old tk t 0 old.length)) (by rw [mark_len]; exact h)
    simp only [parts] at hq ⊢
    have hfp := fp_range old tk t old.length 0 (by omega)
    cases q with
    | zero =>
      rcases hfp with h1 | ⟨m, h1, _, h3, h4, h5, h6⟩
      · exact .inl (by simpa using h1)
      · refine .inr ⟨m, by simpa using h1, h4, ⟨h3, by simp, by simpa using h5, by simpa using h6⟩, fun q' hq' hlt => ?_⟩
        cases q' with
        | zero => omega
        | succ q' =>
          simp only [List.getElem_cons_succ]
          have hq2 : q' < (parts old ts (mark tk (fp old tk t 0 old.length))).1.length := by simpa using hq'
          intro e
          rcases ih q' hq2 with g1 | ⟨m', g1, g2, _⟩
          · omega
          · have : m' = m := by omega
            subst this
            have := (mark_some tk (fp old tk t 0 old.length) m').2 (.inr ⟨h1, by omega⟩)
            rw [this] at g2
            simp at g2
    | succ q =>
      have hq2 : q < (parts old ts (mark tk (fp old tk t 0 old.length))).1.length := by simpa using hq
      rcases ih q hq2 with g1 | ⟨m, g1, g2, ⟨g3, g4, g5⟩, g6⟩
      · exact .inl (by simpa using g1)
      · refine .inr ⟨m, by simpa using g1, ?_, ⟨g3, by simpa using g4, by simpa using g5⟩, fun q' hq' hlt => ?_⟩
        · have hml : m < tk.length := by omega
          rw [List.getElem?_eq_getElem hml]
          cases htk : tk[m] with
          | false => rfl
          | true =>
            have := (mark_some tk (fp old tk t 0 old.length) m).2 (.inl (by rw [List.getElem?_eq_getElem hml, htk]))
            rw [this] at g2
            simp at g2
        · cases q' with
          | zero => omega
          | succ q' =>
            simp only [List.getElem_cons_succ]
            exact g6 q' (by simpa using hq') (by omega)

/-- The program's walk over the partners. -/
theorem edits_parts (a b : TTree) (w : List Int) (acc : List TEdit) (ho : a.Kids.length ≤ 1048576) (hl : b.Kids.length ≤ 1048576) : ∀ i : Nat, i ≤ b.Kids.length → ∀ (out : List Int) (tk : List Bool), out.length = i → tk.length = a.Kids.length → ∀ r,
    impl_edits_b3 w acc (out ++ (parts a.Kids (b.Kids.drop i) tk).1) (parts a.Kids (b.Kids.drop i) tk).2 [] a.Kids.length 0 a b = some r → impl_edits_b1 w acc out tk b.Kids b.Kids.length i a b = some r := by
  refine upto _ ?_ ?_
  · intro out tk _ _ r hr
    exact impl_edits_b1_of _ _ _ _ _ _ _ _ _ (by rw [dge]; simpa [parts] using hr)
  · intro i hi ih out tk hout htk r hr
    have hws : w64 ((i : Int) + 1) = ((i + 1 : Nat) : Int) := w64s (by omega)
    rw [drop_at hi, parts] at hr
    simp only at hr
    have next : ∀ p : Int, p = fp a.Kids tk b.Kids[i] 0 a.Kids.length → impl_edits_b1 w acc (out ++ [p]) (mark tk p) b.Kids b.Kids.length ((i + 1 : Nat) : Int) a b = some r := fun p hp => by
      rw [← hp] at hr
      exact ih (out ++ [p]) (mark tk p) (by simp [hout]) (by rw [mark_len]; exact htk) r (by simpa using hr)
    have hap : ∀ p : Int, apOk 8 out [p] := fun p => apN _ _ _ (by omega) (by omega) (by simp)
    have inner : ∀ k : Nat, k ≤ a.Kids.length → fp a.Kids tk b.Kids[i] 0 a.Kids.length = fp a.Kids tk b.Kids[i] k (a.Kids.length - k) → impl_edits_b2 w acc out tk (-1) b.Kids b.Kids.length i a.Kids a.Kids.length k a b b.Kids[i] = some r := by
      refine upto _ ?_ ?_
      · intro h
        refine impl_edits_b2_of _ _ _ _ _ _ _ _ _ _ _ _ _ _ ?_
        have := next (-1) (by rw [h, Nat.sub_self]; rfl)
        rw [dge, hws]
        simpa [hap, mark] using this
      · intro k hk ihk h
        have hk2 : k < tk.length := by omega
        have hwk : w64 ((k : Int) + 1) = ((k + 1 : Nat) : Int) := w64s (by omega)
        have hstep : fp a.Kids tk b.Kids[i] k (a.Kids.length - k) = if tk[k]? = some false ∧ (a.Kids[k]?.map fun o => (o.Tag, o.Key)) = some (b.Kids[i].Tag, b.Kids[i].Key) then (k : Int) else fp a.Kids tk b.Kids[i] (k + 1) (a.Kids.length - (k + 1)) := by
          rw [show a.Kids.length - k = (a.Kids.length - (k + 1)) + 1 by omega]; rfl
        refine impl_edits_b2_of _ _ _ _ _ _ _ _ _ _ _ _ _ _ ?_
        rw [dlt hk, rdx_nat hk2, rdx_nat hk, hwk, hws]
        rw [List.getElem?_eq_getElem hk2, List.getElem?_eq_getElem hk] at hstep
        have more : ¬ (tk[k] = false ∧ a.Kids[k].Tag = b.Kids[i].Tag ∧ a.Kids[k].Key = b.Kids[i].Key) → impl_edits_b2 w acc out tk (-1) b.Kids b.Kids.length i a.Kids a.Kids.length ((k + 1 : Nat) : Int) a b b.Kids[i] = some r := by
          intro hc
          have h2 : fp a.Kids tk b.Kids[i] k (a.Kids.length - k) = fp a.Kids tk b.Kids[i] (k + 1) (a.Kids.length - (k + 1)) := by
            rw [hstep, if_neg (by simpa using hc)]
          exact ihk (h.trans h2)
        cases htkk : tk[k] with
        | true => simpa [htkk] using more (by simp [htkk])
        | false =>
          by_cases h1 : a.Kids[k].Tag = b.Kids[i].Tag
          · by_cases h2 : a.Kids[k].Key = b.Kids[i].Key
            · have hf : fp a.Kids tk b.Kids[i] 0 a.Kids.length = (k : Int) := by rw [h, hstep, if_pos (by simp [htkk, h1, h2])]
              simpa [htkk, h1, h2, hap, mark] using next (k : Int) hf.symm
            · simpa [htkk, h1, h2] using more (by simp [h2])
          · simpa [htkk, h1] using more (by simp [h1])
    refine impl_edits_b1_of _ _ _ _ _ _ _ _ _ ?_
    rw [dlt hi, rdx_nat hi]
    have := inner 0 (by omega) (by simp)
    simpa using this

def rng (n : Nat) : List Int := (List.range n).map (fun k : Nat => (k : Int))
theorem rng_len (n : Nat) : (rng n).length = n := by simp [rng]
theorem rng_succ (n : Nat) : rng (n + 1) = rng n ++ [(n : Int)] := by simp [rng, List.range_succ]
theorem edits_rng (a b : TTree) (w : List Int) (acc : List TEdit) (P : List Int) (U : List Bool) (ho : a.Kids.length ≤ 1048576) (r : List TEdit)
    (hr : impl_edits_b4 w acc P U (rng a.Kids.length) ((a.Kids.length : Int) - 1) a b = some r) : ∀ k : Nat, k ≤ a.Kids.length → impl_edits_b3 w acc P U (rng k) a.Kids.length k a b = some r := by
  refine upto _ ?_ ?_
  · refine impl_edits_b3_of _ _ _ _ _ _ _ _ _ ?_
    rw [dge, w64_id (show -9223372036854775808 ≤ (a.Kids.length : Int) - 1 by omega) (by omega)]
    simpa using hr
  · intro k hk ih
    refine impl_edits_b3_of _ _ _ _ _ _ _ _ _ ?_
    have hap : apOk 8 (rng k) [(k : Int)] := apN _ _ _ (by omega) (by rw [rng_len]; omega) (by simp)
    rw [dlt hk, w64s (by omega)]
    rw [rng_succ] at ih
    simpa [hap] using ih

/-- Those of the places from j on that are used. -/
def kept (U : List Bool) (j n : Nat) : List Int := ((List.range' j (n - j)).filter fun k => decide (U[k]? = some true)).map (fun k : Nat => (k : Int))
theorem kept_end (U : List Bool) (n : Nat) : kept U n n = [] := by simp [kept]
theorem kept_step (U : List Bool) (j n : Nat) (h : j < n) : kept U j n = (if U[j]? = some true then [(j : Int)] else []) ++ kept U (j + 1) n := by
  unfold kept
  rw [show n - j = (n - (j + 1)) + 1 by omega, List.range'_succ, List.filter_cons]
  by_cases hu : U[j]? = some true <;> simp [hu]
/-- What is gone, from the last one on. -/
def gones (w : List Int) (U : List Bool) : Nat → List TEdit
  | 0 => []
  | j + 1 => (if U[j]? = some true then [] else [⟨4, w, j, 0, noVal, noTree⟩]) ++ gones w U j
theorem gones_len (w : List Int) (U : List Bool) : ∀ j, (gones w U j).length ≤ j
  | 0 => by simp [gones]
  | j + 1 => by have := gones_len w U j; simp only [gones]; split <;> simp <;> omega
theorem gones_mem {Q : TTree → Prop} (hQ : Q noTree) (w : List Int) (hw : w.length ≤ 1048576) (U : List Bool) : ∀ j, ∀ e ∈ gones w U j, EOk Q e
  | 0 => by simp [gones]
  | j + 1 => by
    have ih := gones_mem hQ w hw U j
    simp only [gones]
    split
    · simpa using ih
    · intro e he
      rcases List.mem_append.1 he with h | h
      · rw [List.mem_singleton] at h; rw [h]; exact ⟨hw, hQ⟩
      · exact ih e h
theorem edits_gones (a b : TTree) (w : List Int) (hw : w.length ≤ 1048576) (P : List Int) (U : List Bool) (M : List Bool) (n : Nat) (hn : n ≤ 100000) (hU : U.length = n) (hb : b.Kids.length ≤ 1048576) (hM : impl_rising P = some M) (r : List TEdit) :
    ∀ j : Nat, j ≤ n → ∀ acc : List TEdit, acc.length + j ≤ 1000000 → impl_edits_b5 w (acc ++ gones w U j) P (kept U 0 n) M (-2) (-1) ((b.Kids.length : Int) - 1) a b = some r →
      impl_edits_b4 w acc P U (rng j ++ kept U j n) ((j : Int) - 1) a b = some r := by
  intro j
  induction j with
  | zero =>
    intro _ acc _ hr
    refine impl_edits_b4_of _ _ _ _ _ _ _ _ ?_
    rw [hM, w64_id (show -9223372036854775808 ≤ (b.Kids.length : Int) - 1 by omega) (by omega)]
    simpa [gones, rng] using hr
  | succ j ih =>
    intro hj acc hacc hr
    have e : (((j + 1 : Nat) : Int) - 1) = (j : Int) := by omega
    have hwd : w64 ((j : Int) - 1) = (j : Int) - 1 := w64_id (by omega) (by omega)
    have hws : w64 ((j : Int) + 1) = ((j + 1 : Nat) : Int) := w64s (by omega)
    have hjU : j < U.length := by omega
    rw [e]
    refine impl_edits_b4_of _ _ _ _ _ _ _ _ ?_
    rw [decide_eq_true (show (0 : Int) ≤ (j : Int) by omega), rdx_nat hjU, hwd, hws]
    simp only [gones] at hr
    rw [List.getElem?_eq_getElem hjU] at hr
    cases hu : U[j] with
    | true =>
      have := ih (by omega) acc (by omega) (by simpa [hu] using hr)
      rw [kept_step U j n (by omega), List.getElem?_eq_getElem hjU, hu] at this
      rw [rng_succ]
      simpa [hu] using this
    | false =>
      have := ih (by omega) (acc ++ [⟨4, w, j, 0, noVal, noTree⟩]) (by simp; omega) (by simpa [hu] using hr)
      rw [kept_step U j n (by omega), List.getElem?_eq_getElem hjU, hu] at this
      have hap : apOk 160 acc [(⟨4, w, j, 0, noVal, noTree⟩ : TEdit)] := apN _ _ _ (by omega) (by omega) (by simp)
      have hdel : slices_Delete_int_int (rng (j + 1) ++ kept U (j + 1) n) (j : Int) ((j + 1 : Nat) : Int) = some (rng j ++ kept U (j + 1) n) := by
        refine slices_Delete_int_int_of _ _ _ ?_
        rw [if_pos (by simp [rng_len]; omega)]
        rw [Int.toNat_natCast, Int.toNat_natCast, rng_succ, List.append_assoc, List.take_left' (by rw [rng_len]), ← List.append_assoc, List.drop_left' (by simp [rng_len])]
      simp only [noVal, noTree] at hap this
      rw [wayCopy_ok w hw]
      simp only [if_true, Option.bind_some, Bool.not_false, hap, hdel]
      exact this
end Go.Fw.Law
