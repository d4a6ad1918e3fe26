/- Plain laws, part A: words for loops and reads. Plain laws, part B: the sizes, copies and comparisons by which the exact laws read trees. Plain laws, part C: words and shown texts: the program and the reference say the same of them. Plain laws, part D: valid values, props and trees: the program and the reference say the same. Plain laws, part E: what the program calls a valid tree is what the reference calls one. Plain laws of looks, part A: rules: their sizes, copies and comparisons, and which are valid. Plain laws of looks, part B: the looks of a part, by the program and by the reference. Plain laws of looks, part C: the looks of all parts by the program. Plain laws of boxes, part D: how parts are laid out, in plain words, and by the program. Conditions: none. -/
import Derived.Test.YtjldolmokfnkoaaGreatDoorLyR
namespace Go.Fw.Law
open Go Go.Fw

theorem upto {P : Nat → Prop} (n : Nat) (base : P n) (step : ∀ k, k < n → P (k + 1) → P k) : ∀ k, k ≤ n → P k := by
  intro k hk
  obtain ⟨j, rfl⟩ := Nat.exists_eq_add_of_le hk
  clear hk
  induction j generalizing k with
  | zero => exact base
  | succ j ih =>
    refine step k (by omega) (ih (k + 1) ?_ ?_)
    · rwa [show k + 1 + j = k + (j + 1) by omega]
    · intro m hm; exact step m (by omega)

theorem rdx_nat {α : Type} {xs : List α} {k : Nat} (h : k < xs.length) : rdx xs (k : Int) = some xs[k] := by
  simp [rdx, h]
theorem rdx_int {α : Type} {xs : List α} {i : Int} (h0 : 0 ≤ i) (h : i.toNat < xs.length) : rdx xs i = some xs[i.toNat] := by
  simp [rdx, h0, h]
theorem w64n {k : Nat} (h : (k : Int) < 9223372036854775808) : w64 (k : Int) = k := w64_id (by omega) h
theorem w64s {k : Nat} (h : (k : Int) + 1 < 9223372036854775808) : w64 ((k : Int) + 1) = ((k + 1 : Nat) : Int) := by
  rw [w64_id (by omega) (by omega)]; omega
theorem drop_at {α : Type} {xs : List α} {k : Nat} (h : k < xs.length) : xs.drop k = xs[k] :: xs.drop (k + 1) := List.drop_eq_getElem_cons h
theorem dlt {k n : Nat} (h : k < n) : decide ((k : Int) < (n : Int)) = true := decide_eq_true (by omega)
theorem dge {n : Nat} : decide ((n : Int) < (n : Int)) = false := decide_eq_false (by omega)

theorem TTree.ind {P : TTree → Prop} (h : ∀ t : TTree, (∀ k ∈ t.Kids, P k) → P t) : ∀ t, P t
  | ⟨a, b, c, d, e⟩ => h _ fun k _hk => TTree.ind h k
termination_by t => SizeOf.sizeOf t
decreasing_by
  have := List.sizeOf_lt_of_mem _hk
  simp at *
  omega

/-- A tree whose rows and texts are no longer than N. -/
inductive Lm (N : Nat) : TTree → Prop where
  | mk {t : TTree} (tx : t.Text.length ≤ N) (ps : t.Props.length ≤ N) (pt : ∀ p ∈ t.Props, p.Val.Text.length ≤ N) (kl : t.Kids.length ≤ N) (ks : ∀ k ∈ t.Kids, Lm N k) : Lm N t
theorem Lm.tx {N : Nat} {t : TTree} (h : Lm N t) : t.Text.length ≤ N := by cases h; assumption
theorem Lm.ps {N : Nat} {t : TTree} (h : Lm N t) : t.Props.length ≤ N := by cases h; assumption
theorem Lm.pt {N : Nat} {t : TTree} (h : Lm N t) : ∀ p ∈ t.Props, p.Val.Text.length ≤ N := by cases h; assumption
theorem Lm.kl {N : Nat} {t : TTree} (h : Lm N t) : t.Kids.length ≤ N := by cases h; assumption
theorem Lm.ks {N : Nat} {t : TTree} (h : Lm N t) : ∀ k ∈ t.Kids, Lm N k := by cases h; assumption
end Go.Fw.Law
namespace Go.Fw.Law
open Go Go.Fw

theorem szValue_ok (x : TValue) (n : Int) (hx : x.Text.length ≤ 9223372036854775807) (h0 : 0 ≤ n) (h1 : n ≤ 1048576) :
    ∃ r, laws_szValue x n = some r ∧ r ≤ n ∧ (0 ≤ r → (x.Text.length : Int) ≤ n) := by
  have hw : w64 (n - (x.Text.length : Int)) = n - x.Text.length := w64_id (by omega) (by omega)
  by_cases h : n - (x.Text.length : Int) < 0
  · exact ⟨-1, laws_szValue_of _ _ (by simp [hw, h]), by omega, by omega⟩
  · exact ⟨n - x.Text.length, laws_szValue_of _ _ (by simp [hw, h]), by omega, by omega⟩
theorem szProp_ok (x : TProp) (n : Int) (hx : x.Val.Text.length ≤ 9223372036854775807) (h0 : 0 ≤ n) (h1 : n ≤ 1048576) :
    ∃ r, laws_szProp x n = some r ∧ r ≤ n ∧ (0 ≤ r → (x.Val.Text.length : Int) ≤ n) := by
  obtain ⟨r, e1, e2, e3⟩ := szValue_ok x.Val n hx h0 h1
  by_cases h : r < 0
  · exact ⟨-1, laws_szProp_of _ _ (by simp [e1, h]), by omega, by omega⟩
  · exact ⟨r, laws_szProp_of _ _ (by simp [e1, h]), e2, e3⟩
theorem szPropS_loop (xs : List TProp) (hl : xs.length ≤ 9223372036854775807) (hx : ∀ p ∈ xs, p.Val.Text.length ≤ 9223372036854775807) : ∀ k, k ≤ xs.length → ∀ n : Int, 0 ≤ n → n ≤ 1048576 →
    ∃ r, laws_szPropS_b1 xs n k = some r ∧ r ≤ n ∧ (0 ≤ r → ∀ p ∈ xs.drop k, (p.Val.Text.length : Int) ≤ 1048576) := by
  refine upto _ ?_ ?_
  · intro n h0 h1
    exact ⟨n, laws_szPropS_b1_of _ _ _ (by simp), by omega, by simp⟩
  · intro k hk ih n h0 h1
    obtain ⟨r, e1, e2, e3⟩ := szProp_ok xs[k] n (hx _ (List.getElem_mem hk)) h0 h1
    by_cases h : r < 0
    · exact ⟨-1, laws_szPropS_b1_of _ _ _ (by simp [hk, rdx_nat hk, e1, h]), by omega, by omega⟩
    · obtain ⟨s, f1, f2, f3⟩ := ih r (by omega) (by omega)
      refine ⟨s, laws_szPropS_b1_of _ _ _ (by simpa [hk, rdx_nat hk, e1, h, w64s (show (k : Int) + 1 < 9223372036854775808 by omega)] using f1), by omega, fun hs p hp => ?_⟩
      rw [drop_at hk] at hp
      rcases List.mem_cons.1 hp with rfl | hp
      · have := e3 (by omega); omega
      · exact f3 hs p hp
theorem szPropS_ok (xs : List TProp) (n : Int) (hl : xs.length ≤ 9223372036854775807) (hx : ∀ p ∈ xs, p.Val.Text.length ≤ 9223372036854775807) (h0 : 0 ≤ n) (h1 : n ≤ 1048576) :
    ∃ r, laws_szPropS xs n = some r ∧ r ≤ n ∧ (0 ≤ r → (xs.length : Int) ≤ 1048576 ∧ ∀ p ∈ xs, (p.Val.Text.length : Int) ≤ 1048576) := by
  have hw : w64 (n - (xs.length : Int)) = n - xs.length := w64_id (by omega) (by omega)
  by_cases h : n - (xs.length : Int) < 0
  · exact ⟨-1, laws_szPropS_of _ _ (by simp [hw, h]), by omega, by omega⟩
  · obtain ⟨r, e1, e2, e3⟩ := szPropS_loop xs hl hx 0 (by omega) (n - xs.length) (by omega) (by omega)
    exact ⟨r, laws_szPropS_of _ _ (by simpa [hw, h] using e1), by omega, fun hr => ⟨by omega, by simpa using e3 hr⟩⟩
theorem szTreeS_loop (xs : List TTree) (hl : xs.length ≤ 9223372036854775807)
    (hx : ∀ t ∈ xs, ∀ n : Int, 0 ≤ n → n ≤ 1048576 → ∃ r, laws_szTree t n = some r ∧ r ≤ n ∧ (0 ≤ r → Lm 1048576 t)) : ∀ k, k ≤ xs.length → ∀ n : Int, 0 ≤ n → n ≤ 1048576 →
    ∃ r, laws_szTreeS_b1 xs n k = some r ∧ r ≤ n ∧ (0 ≤ r → ∀ t ∈ xs.drop k, Lm 1048576 t) := by
  refine upto _ ?_ ?_
  · intro n h0 h1
    exact ⟨n, laws_szTreeS_b1_of _ _ _ (by simp), by omega, by simp⟩
  · intro k hk ih n h0 h1
    obtain ⟨r, e1, e2, e3⟩ := hx xs[k] (List.getElem_mem hk) n h0 h1
    by_cases h : r < 0
    · exact ⟨-1, laws_szTreeS_b1_of _ _ _ (by simp [hk, rdx_nat hk, e1, h]), by omega, by omega⟩
    · obtain ⟨s, f1, f2, f3⟩ := ih r (by omega) (by omega)
      refine ⟨s, laws_szTreeS_b1_of _ _ _ (by simpa [hk, rdx_nat hk, e1, h, w64s (show (k : Int) + 1 < 9223372036854775808 by omega)] using f1), by omega, fun hs p hp => ?_⟩
      rw [drop_at hk] at hp
      rcases List.mem_cons.1 hp with rfl | hp
      · exact e3 (by omega)
      · exact f3 hs p hp
/-- The size of a tree: what is left is no more, and is below zero unless the tree is small. -/
theorem szTree_ok : ∀ t, Lm 9223372036854775807 t → ∀ n : Int, 0 ≤ n → n ≤ 1048576 → ∃ r, laws_szTree t n = some r ∧ r ≤ n ∧ (0 ≤ r → Lm 1048576 t) := by
  refine TTree.ind ?_
  intro t ih hl n h0 h1
  have hw : w64 (n - (t.Text.length : Int)) = n - t.Text.length := w64_id (by have := hl.tx; omega) (by omega)
  by_cases h : n - (t.Text.length : Int) < 0
  · exact ⟨-1, laws_szTree_of _ _ (by simp [hw, h]), by omega, by omega⟩
  · obtain ⟨r, e1, e2, e3⟩ := szPropS_ok t.Props (n - t.Text.length) hl.ps hl.pt (by omega) (by omega)
    by_cases hr : r < 0
    · exact ⟨-1, laws_szTree_of _ _ (by simp [hw, h, e1, hr]), by omega, by omega⟩
    · have hs : ∃ s, laws_szTreeS t.Kids r = some s ∧ s ≤ r ∧ (0 ≤ s → t.Kids.length ≤ 1048576 ∧ ∀ k ∈ t.Kids, Lm 1048576 k) := by
        have hkl := hl.kl
        have hw2 : w64 (r - (t.Kids.length : Int)) = r - t.Kids.length := w64_id (by omega) (by omega)
        by_cases h2 : r - (t.Kids.length : Int) < 0
        · exact ⟨-1, laws_szTreeS_of _ _ (by simp [hw2, h2]), by omega, by omega⟩
        · obtain ⟨s, f1, f2, f3⟩ := szTreeS_loop t.Kids hkl (fun k hk => ih k hk (hl.ks k hk)) 0 (by omega) (r - t.Kids.length) (by omega) (by omega)
          exact ⟨s, laws_szTreeS_of _ _ (by simpa [hw2, h2] using f1), by omega, fun hs => ⟨by omega, by simpa using f3 hs⟩⟩
      obtain ⟨s, f1, f2, f3⟩ := hs
      obtain ⟨g1, g2⟩ := e3 (by omega)
      by_cases hs : s < 0
      · exact ⟨-1, laws_szTree_of _ _ (by simp [hw, h, e1, hr, f1, hs]), by omega, by omega⟩
      · exact ⟨s, laws_szTree_of _ _ (by simp [hw, h, e1, hr, f1, hs]), by omega, fun _ => .mk (by omega) (by omega) (fun p hp => by have := g2 p hp; omega) (f3 (by omega)).1 (f3 (by omega)).2⟩

theorem toValue_ok (x : TValue) : laws_toValue x = some x := laws_toValue_of _ rfl
theorem toProp_ok (x : TProp) : laws_toProp x = some x := laws_toProp_of _ (by simp [toValue_ok])
theorem set_grow {α : Type} {xs ys : List α} {k : Nat} (hk : k < xs.length) (hl : ys.length = xs.length) (h : ys.take k = xs.take k) : (ys.set k xs[k]).take (k + 1) = xs.take (k + 1) := by
  apply List.ext_getElem?
  intro i
  have hi := congrArg (·[i]?) h
  simp only [List.getElem?_take, List.getElem?_set] at hi ⊢
  by_cases h1 : i < k + 1
  · simp only [h1, if_true]
    by_cases h2 : k = i
    · subst h2; simp [hl, hk]
    · have : i < k := by omega
      simpa [this, h2] using hi
  · simp [h1]
theorem toPropS_loop (xs : List TProp) (hl : xs.length ≤ 1048576) : ∀ k, k ≤ xs.length → ∀ ys : List TProp, ys.length = xs.length → ys.take k = xs.take k → laws_toPropS_b1 xs ys k = some xs := by
  refine upto _ ?_ ?_
  · intro ys h1 h2
    refine laws_toPropS_b1_of _ _ _ ?_
    rw [List.take_length, ← h1, List.take_length] at h2
    simp [h2]
  · intro k hk ih ys h1 h2
    refine laws_toPropS_b1_of _ _ _ ?_
    simpa [hk, rdx_nat hk, toProp_ok, rdx_nat (show k < ys.length by omega), w64s (show (k : Int) + 1 < 9223372036854775808 by omega)] using ih _ (by simpa using h1) (set_grow hk h1 h2)
theorem toPropS_ok (xs : List TProp) (hl : xs.length ≤ 1048576) : laws_toPropS xs = some xs := by
  refine laws_toPropS_of _ ?_
  rw [if_pos (by omega)]
  exact toPropS_loop xs hl 0 (by omega) _ (by simp) (by simp)
theorem toTreeS_loop (xs : List TTree) (hl : xs.length ≤ 1048576) (hx : ∀ t ∈ xs, laws_toTree t = some t) : ∀ k, k ≤ xs.length → ∀ ys : List TTree, ys.length = xs.length → ys.take k = xs.take k → laws_toTreeS_b1 xs ys k = some xs := by
  refine upto _ ?_ ?_
  · intro ys h1 h2
    refine laws_toTreeS_b1_of _ _ _ ?_
    rw [List.take_length, ← h1, List.take_length] at h2
    simp [h2]
  · intro k hk ih ys h1 h2
    refine laws_toTreeS_b1_of _ _ _ ?_
    simpa [hk, rdx_nat hk, hx _ (List.getElem_mem hk), rdx_nat (show k < ys.length by omega), w64s (show (k : Int) + 1 < 9223372036854775808 by omega)] using ih _ (by simpa using h1) (set_grow hk h1 h2)
theorem toTree_ok : ∀ t, Lm 1048576 t → laws_toTree t = some t := by
  refine TTree.ind ?_
  intro t ih hl
  have h2 : laws_toTreeS t.Kids = some t.Kids := by
    refine laws_toTreeS_of _ ?_
    have := hl.kl
    rw [if_pos (by omega)]
    exact toTreeS_loop t.Kids hl.kl (fun k hk => ih k hk (hl.ks k hk)) 0 (by omega) _ (by simp) (by simp)
  exact laws_toTree_of _ (by simp [toPropS_ok _ hl.ps, h2]; cases t; rfl)

theorem eqValue_ok (x : TValue) : laws_eqValue x x = some true := laws_eqValue_of _ _ (by simp)
theorem eqProp_ok (x : TProp) : laws_eqProp x x = some true := laws_eqProp_of _ _ (by simp [eqValue_ok])
theorem eqPropS_loop (xs : List TProp) (hl : xs.length ≤ 1048576) : ∀ k, k ≤ xs.length → laws_eqPropS_b1 xs xs k = some true := by
  refine upto _ (laws_eqPropS_b1_of _ _ _ (by simp)) ?_
  intro k hk ih
  exact laws_eqPropS_b1_of _ _ _ (by simpa [hk, rdx_nat hk, eqProp_ok, w64s (show (k : Int) + 1 < 9223372036854775808 by omega)] using ih)
theorem eqPropS_ok (xs : List TProp) (hl : xs.length ≤ 1048576) : laws_eqPropS xs xs = some true := laws_eqPropS_of _ _ (by simp; exact eqPropS_loop xs hl 0 (by omega))
theorem eqTree_v_ok : ∀ t, Lm 1048576 t → laws_eqTree_v t t = some true := by
  refine TTree.ind ?_
  intro t ih hl
  have hkl := hl.kl
  have h2 : ∀ k, k ≤ t.Kids.length → laws_eqTreeS_b1 t.Kids t.Kids k = some true := by
    refine upto _ (laws_eqTreeS_b1_of _ _ _ (by simp)) ?_
    intro k hk ihk
    exact laws_eqTreeS_b1_of _ _ _ (by simpa [hk, rdx_nat hk, ih _ (List.getElem_mem hk) (hl.ks _ (List.getElem_mem hk)), w64s (show (k : Int) + 1 < 9223372036854775808 by omega)] using ihk)
  have h3 : laws_eqTreeS t.Kids t.Kids = some true := laws_eqTreeS_of _ _ (by simp; exact h2 0 (by omega))
  exact laws_eqTree_v_of _ _ (by simp [eqPropS_ok _ hl.ps, h3])
theorem eqTree_ok (t : TTree) (hl : Lm 1048576 t) : laws_eqTree t t = some true := by
  have hkl := hl.kl
  have h2 : ∀ k, k ≤ t.Kids.length → laws_eqTreeS_b1 t.Kids t.Kids k = some true := by
    refine upto _ (laws_eqTreeS_b1_of _ _ _ (by simp)) ?_
    intro k hk ihk
    exact laws_eqTreeS_b1_of _ _ _ (by simpa [hk, rdx_nat hk, eqTree_v_ok _ (hl.ks _ (List.getElem_mem hk)), w64s (show (k : Int) + 1 < 9223372036854775808 by omega)] using ihk)
  have h3 : laws_eqTreeS t.Kids t.Kids = some true := laws_eqTreeS_of _ _ (by simp; exact h2 0 (by omega))
  exact laws_eqTree_of _ _ (by simp [eqPropS_ok _ hl.ps, h3])
end Go.Fw.Law
namespace Go.Fw.Law
open Go Go.Fw

def plainB (c : UInt8) : Bool := (decide (97 ≤ c.toNat) && decide (c.toNat ≤ 122)) || (decide (48 ≤ c.toNat) && decide (c.toNat ≤ 57)) || decide (c.toNat = 32)
def wordB (s : Str) : Bool := decide (s.length ≤ 12) && s.all plainB

theorem plainByte_ok (c : UInt8) : spec_plainByte (c.toNat : Int) = some (plainB c) := by
  refine spec_plainByte_of _ ?_
  simp only [plainB, decide_eq_true_eq]
  by_cases h1 : 97 ≤ c.toNat <;> by_cases h2 : c.toNat ≤ 122 <;> by_cases h3 : 48 ≤ c.toNat <;> by_cases h4 : c.toNat ≤ 57 <;> by_cases h5 : c.toNat = 32 <;>
    simp [h1, h2, h3, h4, h5, show (97 : Int) ≤ (c.toNat : Int) ↔ 97 ≤ c.toNat by omega, show (c.toNat : Int) ≤ 122 ↔ c.toNat ≤ 122 by omega, show (48 : Int) ≤ (c.toNat : Int) ↔ 48 ≤ c.toNat by omega, show (c.toNat : Int) ≤ 57 ↔ c.toNat ≤ 57 by omega,
      show (c.toNat : Int) = 32 ↔ c.toNat = 32 by omega] <;> omega
theorem validWord_loop (s : Str) (hl : s.length ≤ 12) : ∀ k, k ≤ s.length → spec_validWord_b1 s k = some ((s.drop k).all plainB) := by
  refine upto _ (spec_validWord_b1_of _ _ (by simp)) ?_
  intro k hk ih
  refine spec_validWord_b1_of _ _ ?_
  rw [drop_at hk, List.all_cons]
  cases h : plainB s[k]
  · simp [hk, rdx_nat hk, plainByte_ok, h]
  · simpa [hk, rdx_nat hk, plainByte_ok, h, w64s (show (k : Int) + 1 < 9223372036854775808 by omega)] using ih
theorem validWord_ok (s : Str) : spec_validWord s = some (wordB s) := by
  refine spec_validWord_of _ ?_
  by_cases h : s.length ≤ 12
  · have := validWord_loop s h 0 (by omega)
    simpa [wordB, h, show ¬ (12 : Int) < (s.length : Int) by omega] using this
  · simp [wordB, h, show (12 : Int) < (s.length : Int) by omega]
theorem word_loop (s : Str) (hl : s.length ≤ 1048576) : ∀ k, k ≤ s.length → impl_word_b1 s k = some ((s.drop k).all plainB && decide (s.length ≤ 12)) := by
  refine upto _ (impl_word_b1_of _ _ (by simp; omega)) ?_
  intro k hk ih
  have h2 : impl_word_b2 s k = some ((s.drop (k + 1)).all plainB && decide (s.length ≤ 12)) := impl_word_b2_of _ _ (by rw [w64s (by omega)]; exact ih)
  refine impl_word_b1_of _ _ ?_
  simp only [dlt hk, if_true, rdx_nat hk, Option.bind_some, drop_at hk, List.all_cons]
  generalize s[k] = c
  by_cases h1 : 97 ≤ c.toNat <;> by_cases h3 : c.toNat ≤ 122 <;> by_cases h4 : 48 ≤ c.toNat <;> by_cases h5 : c.toNat ≤ 57 <;> by_cases h6 : c.toNat = 32 <;>
    simp [plainB, h1, h2, h3, h4, h5, h6, show (97 : Int) ≤ (c.toNat : Int) ↔ 97 ≤ c.toNat by omega, show (c.toNat : Int) ≤ 122 ↔ c.toNat ≤ 122 by omega, show (48 : Int) ≤ (c.toNat : Int) ↔ 48 ≤ c.toNat by omega, show (c.toNat : Int) ≤ 57 ↔ c.toNat ≤ 57 by omega,
      show (c.toNat : Int) = 32 ↔ c.toNat = 32 by omega] <;> omega
theorem word_ok (s : Str) (hl : s.length ≤ 1048576) : impl_word s = some (wordB s) := by
  refine impl_word_of _ ?_
  have := word_loop s hl 0 (by omega)
  simpa [wordB, Bool.and_comm] using this

theorem digit_ok (m : Nat) (h : m < 10) : sub [48, 49, 50, 51, 52, 53, 54, 55, 56, 57] (m : Int) ((m : Int) + 1) = [UInt8.ofNat (48 + m)] := by
  have : ∀ m : Nat, m < 10 → sub ([48, 49, 50, 51, 52, 53, 54, 55, 56, 57] : Str) (m : Int) ((m : Int) + 1) = [UInt8.ofNat (48 + m)] := by decide
  exact this m h
theorem decDigits_len : ∀ (k m : Nat), m < 10 ^ (k + 1) → (Lib.decDigits m).length ≤ k + 1
  | 0, m, h => by rw [Lib.decDigits, dif_pos (by simpa using h)]; simp
  | k + 1, m, h => by
    rw [Lib.decDigits]
    split
    · simp
    · have := decDigits_len k (m / 10) (by rw [Nat.pow_succ] at h; omega)
      simp; omega
theorem decimal_nat : ∀ m : Nat, m < 1000000000000000000 → spec_decimal (m : Int) = some (Lib.decDigits m) := by
  intro m
  induction m using Nat.strongRecOn with
  | ind m ih =>
    intro hm
    refine spec_decimal_of _ ?_
    by_cases h : m < 10
    · have hw : w64 ((m : Int) + 1) = (m : Int) + 1 := w64_id (by omega) (by omega)
      rw [Lib.decDigits, dif_pos h]
      simp [show ¬ ((m : Int) < 0) by omega, show (m : Int) < 10 by omega, hw, digit_ok m h, show (m : Int) + 1 ≤ 10 by omega, show (m : Int) ≤ (m : Int) + 1 by omega]
    · have hd : w64 ((m : Int).tdiv 10) = ((m / 10 : Nat) : Int) := by
        rw [show (m : Int).tdiv 10 = ((m / 10 : Nat) : Int) from rfl, w64_id] <;> omega
      have hr : (m : Int).tmod 10 = ((m % 10 : Nat) : Int) := rfl
      have h1 := ih (m / 10) (by omega) (by omega)
      have h2 := ih (m % 10) (by omega) (by omega)
      have e2 : Lib.decDigits (m % 10) = [UInt8.ofNat (48 + m % 10)] := by rw [Lib.decDigits, dif_pos (by omega)]
      have e1 : Lib.decDigits m = Lib.decDigits (m / 10) ++ [UInt8.ofNat (48 + m % 10)] := by rw [Lib.decDigits, dif_neg h]
      have hl := decDigits_len 17 (m / 10) (by omega)
      rw [e2] at h2
      simp only [hd, hr, h1, h2, e1, Option.bind_some]
      simp [show ¬ ((m : Int) < 0) by omega, show ¬ (m : Int) < 10 by omega]
      omega
theorem decimal_neg (m : Nat) (h0 : 0 < m) (hm : m < 1000000000000000000) : spec_decimal (-(m : Int)) = some (45 :: Lib.decDigits m) := by
  refine spec_decimal_of _ ?_
  have hw : w64 (- -(m : Int)) = (m : Int) := by rw [Int.neg_neg]; exact w64_id (by omega) (by omega)
  have hl := decDigits_len 17 m (by omega)
  rw [hw, decimal_nat m hm, decide_eq_true (show -(m : Int) < 0 by omega)]
  simp
  omega

/-- A text that is shown of a number below zero. -/
def negB (s : Str) (k : Nat) : Bool := (List.range' k (1001 - k)).any fun n => decide (s = 45 :: Lib.decDigits n)
theorem validShown_loop (s : Str) : ∀ k : Nat, k ≤ 1001 → 0 < k → spec_validShown_b1 s k = some (negB s k) := by
  refine upto _ ?_ ?_
  · intro _
    exact spec_validShown_b1_of _ _ (by simp [negB])
  · intro k hk ih h0
    refine spec_validShown_b1_of _ _ ?_
    have hw : w64 (-(k : Int)) = -(k : Int) := w64_id (by omega) (by omega)
    have hr : List.range' k (1001 - k) = k :: List.range' (k + 1) (1001 - (k + 1)) := by
      rw [show 1001 - k = (1001 - (k + 1)) + 1 by omega, List.range'_succ]
    simp only [hw, decimal_neg k h0 (by omega), Option.bind_some, negB, hr, List.any_cons]
    have := ih (by omega)
    rw [← w64s (by omega)] at this
    rw [decide_eq_true (show (k : Int) ≤ 1000 by omega)]
    by_cases h : s = 45 :: Lib.decDigits k
    · simp [h]
    · simp [h, this, negB]
def shownB (s : Str) : Bool := if s.head? = some 45 then negB s 1 else wordB s
theorem validShown_ok (s : Str) : spec_validShown s = some (shownB s) := by
  refine spec_validShown_of _ ?_
  cases s with
  | nil => simp [shownB, validWord_ok]
  | cons c r =>
    have hr : rdx (c :: r) 0 = some c := by simp [rdx]
    have := validShown_loop (c :: r) 1 (by omega) (by omega)
    have hc : ((c.toNat : Int) = 45) ↔ c = 45 := by
      constructor
      · intro h
        have : c.toNat = 45 := by omega
        exact UInt8.toNat.inj this
      · rintro rfl; rfl
    by_cases h : c = 45
    · subst h
      simpa [hr, shownB, show ¬ ((r.length : Int) + 1 = 0) by omega] using this
    · simp [hr, shownB, h, hc, validWord_ok, show ¬ ((r.length : Int) + 1 = 0) by omega]

theorem digits_plain : ∀ m : Nat, ∀ c ∈ Lib.decDigits m, 48 ≤ c.toNat ∧ c.toNat ≤ 57 := by
  intro m
  induction m using Nat.strongRecOn with
  | ind m ih =>
    intro c hc
    have one : ∀ d : Nat, d < 10 → (UInt8.ofNat (48 + d)).toNat = 48 + d := by decide
    rw [Lib.decDigits] at hc
    split at hc
    · rename_i h
      rw [List.mem_singleton] at hc
      subst hc
      rw [one m h]
      omega
    · rename_i h
      rcases List.mem_append.1 hc with hc | hc
      · exact ih (m / 10) (by omega) c hc
      · rw [List.mem_singleton] at hc
        subst hc
        rw [one (m % 10) (by omega)]
        omega
theorem digits_ne (m : Nat) : Lib.decDigits m ≠ [] := by
  rw [Lib.decDigits]
  split <;> simp

theorem small_digits (m : Nat) (h : m ≤ 1000) : Lib.decDigits m = if m < 10 then [UInt8.ofNat (48 + m)] else if m < 100 then [UInt8.ofNat (48 + m / 10), UInt8.ofNat (48 + m % 10)] else if m < 1000 then
    [UInt8.ofNat (48 + m / 100), UInt8.ofNat (48 + m / 10 % 10), UInt8.ofNat (48 + m % 10)] else [49, 48, 48, 48] := by
  have one : ∀ d, d < 10 → Lib.decDigits d = [UInt8.ofNat (48 + d)] := fun d hd => by rw [Lib.decDigits, dif_pos hd]
  have step : ∀ d, ¬ d < 10 → Lib.decDigits d = Lib.decDigits (d / 10) ++ [UInt8.ofNat (48 + d % 10)] := fun d hd => by rw [Lib.decDigits, dif_neg hd]
  split
  · exact one m (by assumption)
  · rw [step m (by assumption)]
    split
    · rw [one (m / 10) (by omega)]; rfl
    · rw [step (m / 10) (by omega)]
      split
      · rw [one (m / 10 / 10) (by omega), show m / 10 / 10 = m / 100 by omega]; rfl
      · have : m = 1000 := by omega
        subst this
        rw [step (1000 / 10 / 10) (by omega), one (1000 / 10 / 10 / 10) (by omega)]; rfl
def smallDigits (m : Nat) : Str := if m < 10 then [UInt8.ofNat (48 + m)] else if m < 100 then [UInt8.ofNat (48 + m / 10), UInt8.ofNat (48 + m % 10)] else if m < 1000 then
    [UInt8.ofNat (48 + m / 100), UInt8.ofNat (48 + m / 10 % 10), UInt8.ofNat (48 + m % 10)] else [49, 48, 48, 48]
def negOk (m : Nat) : Bool := match Lib.atoiAll (45 :: smallDigits m) with | .ok v => v == -(m : Int) | _ => false
theorem negOk_all : ((List.range 1001).all fun m => m == 0 || negOk m) = true := by decide +kernel
theorem atoi_neg (m : Nat) (h0 : 0 < m) (h : m ≤ 1000) : atoiP (45 :: Lib.decDigits m) = (-(m : Int), true) := by
  have hs : Lib.decDigits m = smallDigits m := small_digits m h
  have := List.all_eq_true.1 negOk_all m (List.mem_range.2 (by omega))
  simp only [Bool.or_eq_true, beq_iff_eq] at this
  have h1 := this.resolve_left (by omega)
  unfold negOk at h1
  rw [hs]
  unfold atoiP
  split at h1
  · rename_i v e
    rw [e]
    simp at h1
    simp [h1]
  · simp at h1

theorem negB_iff (s : Str) : negB s 1 = true ↔ ∃ n, 1 ≤ n ∧ n ≤ 1000 ∧ s = 45 :: Lib.decDigits n := by
  simp only [negB, List.any_eq_true, decide_eq_true_eq, List.mem_range']
  constructor
  · rintro ⟨n, ⟨i, h1, h2⟩, h3⟩; exact ⟨n, by omega, by omega, h3⟩
  · rintro ⟨n, h1, h2, h3⟩; exact ⟨n, ⟨n - 1, by omega, by omega⟩, h3⟩
theorem shown_ok (s : Str) (hl : s.length ≤ 1048576) : impl_shown s = some (shownB s) := by
  refine impl_shown_of _ ?_
  have ha : strconv_Atoi s = some (atoiP s) := strconv_Atoi_of _ (by rw [if_pos (by omega)])
  have hi : ∀ v : Int, -1000 ≤ v → v ≤ 1000 → strconv_Itoa v = some (Lib.itoa v) := fun v h1 h2 => strconv_Itoa_of _ (by rw [if_pos (by omega)])
  have hw : ∀ v : Int, impl_within v (-1000) 1000 = some (decide (-1000 ≤ v) && decide (v ≤ 1000)) := fun v => impl_within_of _ _ _ (by by_cases h : -1000 ≤ v <;> simp [h])
  rw [word_ok s hl]
  simp only [Option.bind_some, ha, hw]
  -- what the code says of a text that is no word
  have key : (wordB s = false) → (if (atoiP s).2 = true then (if (decide (-1000 ≤ (atoiP s).1) && decide ((atoiP s).1 ≤ 1000)) = true then (strconv_Itoa (atoiP s).1).bind fun r4 => some (decide (r4 = s)) else some false) else some false) = some (shownB s) := by
    intro hwd
    by_cases h2 : (atoiP s).2 = true
    · by_cases h3 : (decide (-1000 ≤ (atoiP s).1) && decide ((atoiP s).1 ≤ 1000)) = true
      · rw [if_pos h2, if_pos h3]
        simp only [Bool.and_eq_true, decide_eq_true_eq] at h3
        rw [hi _ h3.1 h3.2]
        simp only [Option.bind_some, Option.some.injEq]
        generalize hv : (atoiP s).1 = v at h3
        by_cases hneg : v < 0
        · have e : Lib.itoa v = 45 :: Lib.decDigits v.natAbs := by simp [Lib.itoa, hneg]
          rw [e]
          by_cases hs : 45 :: Lib.decDigits v.natAbs = s
          · subst hs
            simp only [decide_true, shownB, List.head?_cons, if_true]
            exact ((negB_iff _).2 ⟨v.natAbs, by omega, by omega, rfl⟩).symm
          · simp only [hs, decide_false, shownB]
            split
            · rename_i hh
              cases hb : negB s 1 with
              | false => rfl
              | true =>
                obtain ⟨n, n1, n2, rfl⟩ := (negB_iff s).1 hb
                rw [atoi_neg n (by omega) n2] at hv
                exact absurd (by rw [← hv]; simp) hs
            · exact hwd.symm
        · have e : Lib.itoa v = Lib.decDigits v.toNat := by simp [Lib.itoa, hneg]
          rw [e]
          by_cases hs : Lib.decDigits v.toNat = s
          · exfalso
            have h4 := decDigits_len 3 v.toNat (by omega)
            rw [hs] at h4
            have : wordB s = true := by
              simp only [wordB, Bool.and_eq_true, decide_eq_true_eq, List.all_eq_true]
              refine ⟨by omega, fun c hc => ?_⟩
              have := digits_plain v.toNat c (hs ▸ hc)
              simp [plainB, this.1, this.2]
            rw [this] at hwd
            simp at hwd
          · simp only [hs, decide_false, shownB]
            split
            · rename_i hh
              cases hb : negB s 1 with
              | false => rfl
              | true =>
                obtain ⟨n, n1, n2, rfl⟩ := (negB_iff s).1 hb
                rw [atoi_neg n (by omega) n2] at hv
                simp at hv
                omega
            · exact hwd.symm
      · rw [if_pos h2, if_neg h3]
        simp only [Option.some.injEq, shownB]
        split
        · cases hb : negB s 1 with
          | false => rfl
          | true =>
            obtain ⟨n, n1, n2, rfl⟩ := (negB_iff s).1 hb
            rw [atoi_neg n (by omega) n2] at h3
            simp at h3
            omega
        · exact hwd.symm
    · rw [if_neg h2]
      simp only [Option.some.injEq, shownB]
      split
      · cases hb : negB s 1 with
        | false => rfl
        | true =>
          obtain ⟨n, n1, n2, rfl⟩ := (negB_iff s).1 hb
          rw [atoi_neg n (by omega) n2] at h2
          simp at h2
      · exact hwd.symm
  cases hwd : wordB s with
  | true =>
    simp only [if_true, Option.some.injEq, shownB]
    split
    · rename_i hh
      cases s with
      | nil => simp at hh
      | cons c r =>
        simp at hh
        subst hh
        simp [wordB, plainB] at hwd
    · exact hwd.symm
  | false => simpa using key hwd
end Go.Fw.Law
namespace Go.Fw.Law
open Go Go.Fw

def inB (x a b : Int) : Bool := decide (a ≤ x) && decide (x ≤ b)
theorem inRange_ok (x a b : Int) : spec_inRange x a b = some (inB x a b) := spec_inRange_of _ _ _ (by by_cases h : a ≤ x <;> simp [h, inB])
theorem within_ok (x a b : Int) : impl_within x a b = some (inB x a b) := impl_within_of _ _ _ (by by_cases h : a ≤ x <;> simp [h, inB])
def valB (v : TValue) : Bool := if v.Kind = 0 then decide (v.Num = 0) && decide (v.Text = []) else if v.Kind = 1 then inB v.Num (-1000) 1000 && decide (v.Text = []) else if v.Kind = 2 then decide (v.Num = 0) && wordB v.Text else false
theorem validValue_ok (v : TValue) : spec_validValue v = some (valB v) := by
  refine spec_validValue_of _ ?_
  by_cases h0 : v.Kind = 0
  · by_cases h : v.Num = 0 <;> simp [h0, h, valB]
  · by_cases h1 : v.Kind = 1
    · cases h : inB v.Num (-1000) 1000 <;> simp [h1, h, valB, inRange_ok]
    · by_cases h2 : v.Kind = 2
      · by_cases h : v.Num = 0 <;> simp [h2, h, valB, validWord_ok]
      · simp [h0, h1, h2, valB]
theorem ValOk_ok (v : TValue) (hl : v.Text.length ≤ 1048576) : impl_ValOk v = some (valB v) := by
  refine impl_ValOk_of _ ?_
  by_cases h0 : v.Kind = 0
  · by_cases h : v.Num = 0 <;> simp [h0, h, valB]
  · by_cases h1 : v.Kind = 1
    · cases h : inB v.Num (-1000) 1000 <;> simp [h1, h, valB, within_ok]
    · by_cases h2 : v.Kind = 2
      · by_cases h : v.Num = 0 <;> simp [h2, h, valB, word_ok _ hl]
      · simp [h0, h1, h2, valB]

/-- Props from one on: names in range that ascend, valid values; before them a name. -/
def propsB : Option Int → List TProp → Bool
  | _, [] => true
  | q, p :: ps => inB p.Name 0 3 && valB p.Val && (match q with | none => true | some n => decide (n < p.Name)) && propsB (some p.Name) ps
theorem propsB_cons (q : Option Int) (p : TProp) (ps : List TProp) : propsB q (p :: ps) = (inB p.Name 0 3 && valB p.Val && (match q with | none => true | some n => decide (n < p.Name)) && propsB (some p.Name) ps) := by cases q <;> rfl
def before (ps : List TProp) (k : Nat) : Option Int := if k = 0 then none else ps[k - 1]?.map (·.Name)
theorem validPropList_loop (ps : List TProp) (hl : ps.length ≤ 1048576) : ∀ k, k ≤ ps.length → spec_validPropList_b1 ps k = some (propsB (before ps k) (ps.drop k)) := by
  refine upto _ (spec_validPropList_b1_of _ _ (by simp [propsB])) ?_
  intro k hk ih
  refine spec_validPropList_b1_of _ _ ?_
  rw [drop_at hk, propsB_cons]
  have hb : before ps (k + 1) = some ps[k].Name := by simp [before, hk]
  rw [hb, ← w64s (by omega)] at ih
  rw [dlt hk, rdx_nat hk]
  simp only [if_true, Option.bind_some, inRange_ok, validValue_ok, ih]
  cases h1 : inB ps[k].Name 0 3 <;> simp only [Bool.not_false, Bool.not_true, if_true, Bool.false_and, Bool.true_and, Bool.false_eq_true, if_false]
  cases h2 : valB ps[k].Val <;> simp only [Bool.not_false, Bool.not_true, if_true, Bool.false_and, Bool.true_and, Bool.false_eq_true, if_false]
  by_cases h0 : k = 0
  · subst h0; simp [before]
  · have hw : w64 ((k : Int) - 1) = ((k - 1 : Nat) : Int) := by rw [w64_id (by omega) (by omega)]; omega
    rw [hw, rdx_nat (show k - 1 < ps.length by omega), decide_eq_true (show (0 : Int) < k by omega)]
    have hb2 : before ps k = some ps[k - 1].Name := by simp [before, h0, show k - 1 < ps.length by omega]
    rw [hb2]
    by_cases h3 : ps[k].Name ≤ ps[k - 1].Name
    · simp [h3, show ¬ ps[k - 1].Name < ps[k].Name by omega]
    · simp [h3, show ps[k - 1].Name < ps[k].Name by omega]
theorem validPropList_ok (ps : List TProp) (hl : ps.length ≤ 1048576) : spec_validPropList ps = some (propsB none ps) :=
  spec_validPropList_of _ (by simpa [before] using validPropList_loop ps hl 0 (by omega))

/-- Keys from one on, some being taken. -/
def keysB : List Int → List TTree → Bool
  | _, [] => true
  | tk, t :: ts => (decide (t.Key = -1) || !tk.contains t.Key) && keysB (t.Key :: tk) ts
theorem keysApart_in (ts : List TTree) (hl : ts.length ≤ 1048576) (i : Nat) (hi : i < ts.length) (next : Bool) (hn : spec_keysApart_b1 ts (w64 ((i : Int) + 1)) = some next) :
    ∀ k, k ≤ i → spec_keysApart_b2 ts i k = some ((decide (ts[i].Key = -1) || !(((ts.take i).drop k).map (·.Key)).contains ts[i].Key) && next) := by
  refine upto _ (spec_keysApart_b2_of _ _ _ ?_) ?_
  · rw [dge]; simp [hn, List.drop_of_length_le (show (ts.take i).length ≤ i by simp; omega)]
  · intro k hk ih
    refine spec_keysApart_b2_of _ _ _ ?_
    have hk2 : k < ts.length := by omega
    have hd : (ts.take i).drop k = ts[k] :: (ts.take i).drop (k + 1) := by
      rw [drop_at (show k < (ts.take i).length by simp; omega)]; simp
    rw [dlt hk, rdx_nat hi, rdx_nat hk2, w64s (show (k : Int) + 1 < 9223372036854775808 by omega), ih, hd]
    simp only [if_true, Option.bind_some, List.map_cons, List.contains_cons]
    by_cases h1 : ts[i].Key = -1
    · simp [h1]
    · by_cases h2 : ts[i].Key = ts[k].Key
      · have h3 : ¬ ts[k].Key = -1 := h2 ▸ h1
        simp [h2, h3]
      · have h3 : (ts[i].Key == ts[k].Key) = false := by simp [h2]
        simp [h1, h2, h3]
theorem contains_congr {a b : List Int} (h : ∀ x, x ∈ a ↔ x ∈ b) (x : Int) : a.contains x = b.contains x := by
  rw [Bool.eq_iff_iff]; simp [h x]
theorem keysB_congr : ∀ (ts : List TTree) {a b : List Int}, (∀ x, x ∈ a ↔ x ∈ b) → keysB a ts = keysB b ts
  | [], _, _, _ => rfl
  | t :: ts, a, b, h => by
    simp only [keysB, contains_congr h]
    rw [keysB_congr ts (a := t.Key :: a) (b := t.Key :: b) (fun x => by simp [h x])]
theorem keysApart_loop (ts : List TTree) (hl : ts.length ≤ 1048576) : ∀ k, k ≤ ts.length → spec_keysApart_b1 ts k = some (keysB ((ts.take k).map (·.Key)) (ts.drop k)) := by
  refine upto _ (spec_keysApart_b1_of _ _ (by simp [keysB])) ?_
  intro k hk ih
  refine spec_keysApart_b1_of _ _ ?_
  rw [dlt hk]
  simp only [if_true]
  rw [← w64s (by omega)] at ih
  have := keysApart_in ts hl k hk _ ih 0 (by omega)
  rw [show ((0 : Nat) : Int) = 0 from rfl] at this
  rw [this, drop_at hk, keysB]
  simp only [List.drop_zero]
  rw [keysB_congr (ts.drop (k + 1)) (a := (ts.take (k + 1)).map (·.Key)) (b := ts[k].Key :: (ts.take k).map (·.Key)) (fun x => by
    rw [List.take_add_one, List.map_append]
    simp [hk, or_comm])]
theorem keysApart_ok (ts : List TTree) (hl : ts.length ≤ 1048576) : spec_keysApart ts = some (keysB [] ts) := spec_keysApart_of _ (by simpa using keysApart_loop ts hl 0 (by omega))

mutual
/-- A part that is valid but for how many parts there are. -/
def partB : TTree → Bool
  | ⟨tag, key, tx, ps, ks⟩ => if tag = -1 then decide (key = -1) && decide (ps = []) && decide (ks.length = 0) && shownB tx
    else inB tag 0 4 && inB key (-1) 99 && decide (tx = []) && propsB none ps && partsB ks && keysB [] ks
def partsB : List TTree → Bool
  | [] => true
  | t :: ts => partB t && partsB ts
end
theorem partB_eq (t : TTree) : partB t = if t.Tag = -1 then decide (t.Key = -1) && decide (t.Props = []) && decide (t.Kids.length = 0) && shownB t.Text
    else inB t.Tag 0 4 && inB t.Key (-1) 99 && decide (t.Text = []) && propsB none t.Props && partsB t.Kids && keysB [] t.Kids := by cases t; rw [partB]
theorem validPart_ok : ∀ t, Lm 1048576 t → spec_validPart t = some (partB t) := by
  refine TTree.ind ?_
  intro t ih hl
  have hkl := hl.kl
  have loop : ∀ k : Nat, k ≤ t.Kids.length → spec_validPart_b1 k t = some (partsB (t.Kids.drop k) && keysB [] t.Kids) := by
    refine upto _ (spec_validPart_b1_of _ _ (by simp [partsB, keysApart_ok _ hkl])) ?_
    intro k hk ihk
    refine spec_validPart_b1_of _ _ ?_
    rw [← w64s (by omega)] at ihk
    rw [dlt hk, rdx_nat hk, drop_at hk, partsB]
    simp only [if_true, Option.bind_some, ih _ (List.getElem_mem hk) (hl.ks _ (List.getElem_mem hk)), ihk]
    cases partB t.Kids[k] <;> simp
  refine spec_validPart_of _ ?_
  have h0 := loop 0 (by omega)
  rw [show ((0 : Nat) : Int) = 0 from rfl, List.drop_zero] at h0
  rw [partB_eq]
  by_cases h1 : t.Tag = -1
  · by_cases h2 : t.Key = -1
    · by_cases h3 : t.Props = []
      · by_cases h4 : t.Kids.length = 0
        · simp [h1, h2, h3, h4, validShown_ok]
        · simp [h1, h2, h3, h4]
      · simp [h1, h2, h3]
    · simp [h1, h2]
  · cases h2 : inB t.Tag 0 4
    · simp [h1, h2, inRange_ok]
    · cases h3 : inB t.Key (-1) 99
      · simp [h1, h2, h3, inRange_ok]
      · by_cases h4 : t.Text = []
        · cases h5 : propsB none t.Props
          · simp [h1, h2, h3, h4, h5, inRange_ok, validPropList_ok _ hl.ps]
          · simp [h1, h2, h3, h4, h5, inRange_ok, validPropList_ok _ hl.ps, h0]
        · simp [h1, h2, h3, h4, inRange_ok]

mutual
/-- How many parts there are. -/
def nodes : TTree → Nat
  | ⟨_, _, _, _, ks⟩ => 1 + nodesL ks
def nodesL : List TTree → Nat
  | [] => 0
  | t :: ts => nodes t + nodesL ts
end
mutual
/-- How deep a tree is. -/
def depth : TTree → Nat
  | ⟨_, _, _, _, ks⟩ => 1 + depthL ks
def depthL : List TTree → Nat
  | [] => 0
  | t :: ts => max (depth t) (depthL ts)
end
theorem nodes_eq (t : TTree) : nodes t = 1 + nodesL t.Kids := by cases t; rw [nodes]
theorem depth_eq (t : TTree) : depth t = 1 + depthL t.Kids := by cases t; rw [depth]
theorem nodesL_len : ∀ ts, ts.length ≤ nodesL ts
  | [] => by simp [nodesL]
  | t :: ts => by have := nodesL_len ts; have := nodes_eq t; simp [nodesL]; omega

/-- What treeSize says of a tree at a depth. -/
def sizeAt (t : TTree) (d : Nat) : Nat := if depth t + d ≤ 25 then min (nodes t) 201 else 201
theorem treeSize_ok : ∀ t, Lm 1048576 t → ∀ d : Nat, 1 ≤ d → d ≤ 25 → ∃ n : Nat, spec_treeSize t d = some (n : Int) ∧ n ≤ 201 ∧ (n ≤ 200 ↔ depth t + d ≤ 25 ∧ nodes t ≤ 200) ∧ (n ≤ 200 → n = nodes t) := by
  refine TTree.ind ?_
  intro t ih hl d hd hd2
  have hkl := hl.kl
  have hdp := depth_eq t
  have hnd := nodes_eq t
  by_cases h : d = 25
  · subst h
    exact ⟨201, spec_treeSize_of _ _ (by simp), by omega, by omega, by omega⟩
  have loop : ∀ k : Nat, k ≤ t.Kids.length → ∀ acc : Nat, acc ≤ 401 → ∃ n : Nat, spec_treeSize_b1 d acc k t = some (n : Int) ∧ n ≤ 201 ∧ (n ≤ 200 ↔ depthL (t.Kids.drop k) + d ≤ 24 ∧ acc + nodesL (t.Kids.drop k) ≤ 200) ∧ (n ≤ 200 → n = acc + nodesL (t.Kids.drop k)) := by
    refine upto _ ?_ ?_
    · intro acc ha
      refine ⟨min acc 201, spec_treeSize_b1_of _ _ _ _ ?_, by omega, ?_, ?_⟩
      · rw [dge]; simp; omega
      · simp [depthL, nodesL]; omega
      · simp [nodesL]; omega
    · intro k hk ihk acc ha
      rw [drop_at hk, depthL, nodesL]
      have hn1 := nodes_eq t.Kids[k]
      by_cases ha2 : acc ≤ 200
      · obtain ⟨n, e1, e2, e3, e4⟩ := ih _ (List.getElem_mem hk) (hl.ks _ (List.getElem_mem hk)) (d + 1) (by omega) (by omega)
        obtain ⟨m, f1, f2, f3, f4⟩ := ihk (acc + n) (by omega)
        refine ⟨m, spec_treeSize_b1_of _ _ _ _ ?_, f2, ?_, ?_⟩
        · have w1 : w64 ((d : Int) + 1) = ((d + 1 : Nat) : Int) := w64s (by omega)
          have w2 : w64 ((acc : Int) + (n : Int)) = ((acc + n : Nat) : Int) := by rw [w64_id (by omega) (by omega)]; omega
          rw [dlt hk, rdx_nat hk, decide_eq_true (show (acc : Int) ≤ 200 by omega)]
          simp only [if_true, Option.bind_some, w1, e1, w2, w64s (show (k : Int) + 1 < 9223372036854775808 by omega)]
          exact f1
        · omega
        · intro hm
          have := f4 hm
          have := e4 (by omega)
          omega
      · refine ⟨201, spec_treeSize_b1_of _ _ _ _ ?_, by omega, by omega, by omega⟩
        rw [dlt hk, decide_eq_false (show ¬ (acc : Int) ≤ 200 by omega)]
        simp; omega
  obtain ⟨n, e1, e2, e3, e4⟩ := loop 0 (by omega) 1 (by omega)
  rw [List.drop_zero] at e3 e4
  refine ⟨n, spec_treeSize_of _ _ ?_, e2, by omega, fun hn => by have := e4 hn; omega⟩
  rw [decide_eq_false (show ¬ (24 : Int) < (d : Int) by omega)]
  simp only [Bool.false_eq_true, if_false]
  exact e1

/-- Valid trees. -/
def treeB (t : TTree) : Bool := decide (depth t ≤ 24) && decide (nodes t ≤ 200) && partB t
theorem validTree_ok (t : TTree) (hl : Lm 1048576 t) : spec_validTree t = some (treeB t) := by
  obtain ⟨n, e1, e2, e3, e4⟩ := treeSize_ok t hl 1 (by omega) (by omega)
  refine spec_validTree_of _ ?_
  rw [show ((1 : Nat) : Int) = 1 from rfl] at e1
  rw [e1]
  simp only [Option.bind_some, validPart_ok t hl]
  by_cases h : n ≤ 200
  · have := e3.1 h
    rw [decide_eq_true (show (n : Int) ≤ 200 by omega)]
    simp [treeB, show depth t ≤ 24 by omega, show nodes t ≤ 200 by omega]
  · rw [decide_eq_false (show ¬ (n : Int) ≤ 200 by omega)]
    have : ¬ (depth t ≤ 24 ∧ nodes t ≤ 200) := fun hh => h (e3.2 ⟨by omega, hh.2⟩)
    simp only [Bool.false_eq_true, if_false, treeB, Option.some.injEq]
    by_cases h1 : depth t ≤ 24
    · simp [h1, show ¬ nodes t ≤ 200 from fun h2 => this ⟨h1, h2⟩]
    · simp [h1]
end Go.Fw.Law
namespace Go.Fw.Law
open Go Go.Fw

theorem mget_mput : ∀ (es : List (Int × Bool)) (n m : Int), mget (mput es n true) m = (decide (m = n) || mget es m)
  | [], n, m => by by_cases h : m = n <;> simp [mput, mget, h]
  | (k, c) :: es, n, m => by
    unfold mput
    by_cases h : n = k
    · subst h
      by_cases h2 : m = n <;> simp [mget, h2]
    · rw [if_neg h]
      have := mget_mput es n m
      by_cases h2 : m = k
      · subst h2
        simp [mget, show ¬ m = n from fun e => h e.symm]
      · simp [mget, h2, this]

theorem treeFits_ok : ∀ t, Lm 1048576 t → ∀ d l : Nat, 1 ≤ d → d ≤ 25 → l ≤ 200 → ∃ (ok : Bool) (l' : Int), impl_treeFits t d l = some (ok, l') ∧ (ok = true ↔ depth t + d ≤ 25 ∧ nodes t ≤ l ∧ partB t = true) ∧ (ok = true → l' = l - nodes t) := by
  refine TTree.ind ?_
  intro t ih hl d l hd hd2 hl2
  have hkl := hl.kl
  have hpl := hl.ps
  have hdp := depth_eq t
  have hnd := nodes_eq t
  have w1 : w64 ((l : Int) - 1) = (l : Int) - 1 := w64_id (by omega) (by omega)
  by_cases h : d = 25
  · subst h
    refine ⟨false, (l : Int) - 1, impl_treeFits_of _ _ _ (by simp [w1]), ?_, by simp⟩
    simp; omega
  by_cases hl0 : l = 0
  · subst hl0
    refine ⟨false, -1, impl_treeFits_of _ _ _ ?_, ?_, by simp⟩
    · rw [decide_eq_false (show ¬ (24 : Int) < (d : Int) by omega)]
      have : w64 (-1) = -1 := by decide
      simp [this]
    · simp; omega
  obtain ⟨m, rfl⟩ : ∃ m, l = m + 1 := ⟨l - 1, by omega⟩
  have w1' : w64 (((m + 1 : Nat) : Int) - 1) = (m : Int) := by rw [w1]; omega
  -- the kids
  have kids : ∀ k : Nat, k ≤ t.Kids.length → ∀ (es : List (Int × Bool)) (tk : List Int) (y : Nat), y ≤ 200 → (∀ x, x ≠ -1 → (mget es x = true ↔ x ∈ tk)) →
      ∃ (ok : Bool) (l' : Int), impl_treeFits_b2 d es t.Kids t.Kids.length k y = some (ok, l') ∧ (ok = true ↔ depthL (t.Kids.drop k) + d ≤ 24 ∧ nodesL (t.Kids.drop k) ≤ y ∧ partsB (t.Kids.drop k) = true ∧ keysB tk (t.Kids.drop k) = true) ∧
        (ok = true → l' = y - nodesL (t.Kids.drop k)) := by
    refine upto _ ?_ ?_
    · intro es tk y hy hes
      refine ⟨true, y, impl_treeFits_b2_of _ _ _ _ _ _ (by rw [dge]; simp), ?_, by simp [nodesL]⟩
      simp [depthL, nodesL, partsB, keysB]; omega
    · intro k hk ihk es tk y hy hes
      rw [drop_at hk, depthL, nodesL, partsB, keysB]
      obtain ⟨ok, l1, e1, e2, e3⟩ := ih _ (List.getElem_mem hk) (hl.ks _ (List.getElem_mem hk)) (d + 1) y (by omega) (by omega) hy
      have w2 : w64 ((d : Int) + 1) = ((d + 1 : Nat) : Int) := w64s (by omega)
      have wk : w64 ((k : Int) + 1) = ((k + 1 : Nat) : Int) := w64s (by omega)
      have go : (t.Kids[k].Key = -1 ∨ ¬ t.Kids[k].Key ∈ tk) → ∃ (ok : Bool) (l' : Int), ((impl_treeFits t.Kids[k] (w64 ((d : Int) + 1)) (y : Int)).bind fun r => if !r.1 then some (false, r.2) else impl_treeFits_b2 d (mput es t.Kids[k].Key true) t.Kids t.Kids.length (w64 ((k : Int) + 1)) r.2) = some (ok, l') ∧
          (ok = true ↔ max (depth t.Kids[k]) (depthL (t.Kids.drop (k + 1))) + d ≤ 24 ∧ nodes t.Kids[k] + nodesL (t.Kids.drop (k + 1)) ≤ y ∧ (partB t.Kids[k] && partsB (t.Kids.drop (k + 1))) = true ∧ keysB (t.Kids[k].Key :: tk) (t.Kids.drop (k + 1)) = true) ∧
          (ok = true → l' = y - ((nodes t.Kids[k] + nodesL (t.Kids.drop (k + 1)) : Nat) : Int)) := by
        intro _
        rw [w2, e1, wk]
        simp only [Option.bind_some, Bool.and_eq_true]
        cases ok with
        | false =>
          refine ⟨false, l1, by simp, ?_, by simp⟩
          simp only [Bool.false_eq_true, false_iff] at e2 ⊢
          rintro ⟨h1, h2, ⟨h3, h4⟩, h5⟩
          exact e2 ⟨by omega, by omega, h3⟩
        | true =>
          obtain ⟨a1, a2, a3⟩ := e2.1 rfl
          have hl1 := e3 rfl
          have hes' : ∀ x, x ≠ -1 → (mget (mput es t.Kids[k].Key true) x = true ↔ x ∈ t.Kids[k].Key :: tk) := fun x hx => by
            rw [mget_mput]; simp [hes x hx]
          obtain ⟨ok2, l2, f1, f2, f3⟩ := ihk (mput es t.Kids[k].Key true) (t.Kids[k].Key :: tk) (y - nodes t.Kids[k]) (by omega) hes'
          have : l1 = ((y - nodes t.Kids[k] : Nat) : Int) := by omega
          refine ⟨ok2, l2, by simp only [this, Bool.not_true, Bool.false_eq_true, if_false]; exact f1, ?_, fun h => by have := f3 h; have := f2.1 h; omega⟩
          rw [f2]
          constructor
          · rintro ⟨b1, b2, b3, b4⟩; exact ⟨by omega, by omega, ⟨a3, b3⟩, b4⟩
          · rintro ⟨b1, b2, ⟨_, b3⟩, b4⟩; exact ⟨by omega, by omega, b3, b4⟩
      by_cases hm : t.Kids[k].Key = -1
      · obtain ⟨ok2, l2, g1, g2, g3⟩ := go (.inl hm)
        refine ⟨ok2, l2, impl_treeFits_b2_of _ _ _ _ _ _ ?_, ?_, g3⟩
        · rw [dlt hk, rdx_nat hk]
          simp only [if_true, Option.bind_some]
          rw [decide_eq_true hm]
          simp only [Bool.not_true, Bool.false_eq_true, if_false]
          exact g1
        · rw [g2]; simp [hm]
      · by_cases htk : t.Kids[k].Key ∈ tk
        · have hmg : mget es t.Kids[k].Key = true := (hes _ hm).2 htk
          refine ⟨false, y, impl_treeFits_b2_of _ _ _ _ _ _ ?_, ?_, by simp⟩
          · rw [dlt hk, rdx_nat hk]
            simp [hm, hmg]
          · simp [hm, htk]
        · have hmg : mget es t.Kids[k].Key = false := by
            cases h : mget es t.Kids[k].Key with
            | false => rfl
            | true => exact absurd ((hes _ hm).1 h) htk
          obtain ⟨ok2, l2, g1, g2, g3⟩ := go (.inr htk)
          refine ⟨ok2, l2, impl_treeFits_b2_of _ _ _ _ _ _ ?_, ?_, g3⟩
          · rw [dlt hk, rdx_nat hk]
            simp only [if_true, Option.bind_some]
            rw [decide_eq_false hm, hmg]
            simp only [Bool.not_false, Bool.false_eq_true, if_true, if_false]
            exact g1
          · rw [g2]; simp [hm, htk]
  obtain ⟨ok, l1, k1, k2, k3⟩ := kids 0 (by omega) [] [] m (by omega) (by simp [mget])
  rw [List.drop_zero] at k2 k3
  -- the props
  have props : ∀ k : Nat, k ≤ t.Props.length → ∃ (ok2 : Bool) (l2 : Int), impl_treeFits_b1 d t.Props t.Props.length k m t = some (ok2, l2) ∧ (ok2 = true ↔ propsB (before t.Props k) (t.Props.drop k) = true ∧ ok = true) ∧ (ok2 = true → l2 = l1) := by
    refine upto _ ?_ ?_
    · refine ⟨ok, l1, impl_treeFits_b1_of _ _ _ _ _ _ ?_, by simp [propsB], fun _ => rfl⟩
      rw [dge]
      simpa using k1
    · rintro k hk ⟨ok2, l2, e1, e2, e3⟩
      have hb : before t.Props (k + 1) = some t.Props[k].Name := by simp [before, hk]
      have hv := ValOk_ok t.Props[k].Val (hl.pt _ (List.getElem_mem hk))
      rw [hb] at e2
      rw [← w64s (by omega)] at e1
      rw [drop_at hk, propsB_cons]
      have fin : ∀ q, (match before t.Props k with | none => true | some n => decide (n < t.Props[k].Name)) = q → impl_treeFits_b1 d t.Props t.Props.length k m t = some (if (inB t.Props[k].Name 0 3 && valB t.Props[k].Val && q) = true then (ok2, l2) else (false, (m : Int))) →
          ∃ (ok2 : Bool) (l2 : Int), impl_treeFits_b1 d t.Props t.Props.length k m t = some (ok2, l2) ∧ (ok2 = true ↔ (inB t.Props[k].Name 0 3 && valB t.Props[k].Val && (match before t.Props k with | none => true | some n => decide (n < t.Props[k].Name)) && propsB (some t.Props[k].Name) (t.Props.drop (k + 1))) = true ∧ ok = true) ∧ (ok2 = true → l2 = l1) := by
        intro q hq hf
        rw [hq]
        by_cases hc : (inB t.Props[k].Name 0 3 && valB t.Props[k].Val && q) = true
        · rw [if_pos hc] at hf
          exact ⟨ok2, l2, hf, by rw [e2, hc]; simp, e3⟩
        · rw [if_neg hc] at hf
          have hc' : (inB t.Props[k].Name 0 3 && valB t.Props[k].Val && q) = false := by simpa using hc
          exact ⟨false, m, hf, by rw [hc']; simp, by simp⟩
      by_cases h0 : k = 0
      · subst h0
        refine fin true (by simp [before]) (impl_treeFits_b1_of _ _ _ _ _ _ ?_)
        rw [dlt hk, rdx_nat hk]
        simp only [if_true, Option.bind_some, within_ok, hv, e1]
        cases inB t.Props[0].Name 0 3 <;> cases valB t.Props[0].Val <;> simp
      · have hw : w64 ((k : Int) - 1) = ((k - 1 : Nat) : Int) := by rw [w64_id (by omega) (by omega)]; omega
        have hb2 : before t.Props k = some t.Props[k - 1].Name := by simp [before, h0, show k - 1 < t.Props.length by omega]
        refine fin (decide (t.Props[k - 1].Name < t.Props[k].Name)) (by rw [hb2]) (impl_treeFits_b1_of _ _ _ _ _ _ ?_)
        rw [dlt hk, rdx_nat hk, hw, rdx_nat (show k - 1 < t.Props.length by omega), decide_eq_true (show (0 : Int) < k by omega)]
        simp only [if_true, Option.bind_some, within_ok, hv, e1]
        by_cases h3 : t.Props[k].Name ≤ t.Props[k - 1].Name
        · cases inB t.Props[k].Name 0 3 <;> cases valB t.Props[k].Val <;> simp [h3, show ¬ t.Props[k - 1].Name < t.Props[k].Name by omega]
        · cases inB t.Props[k].Name 0 3 <;> cases valB t.Props[k].Val <;> simp [h3, show t.Props[k - 1].Name < t.Props[k].Name by omega]
  obtain ⟨ok2, l2, p1, p2, p3⟩ := props 0 (by omega)
  rw [List.drop_zero, show before t.Props 0 = none from rfl] at p2
  rw [show ((0 : Nat) : Int) = 0 from rfl] at p1
  -- the tree
  have hc1 : decide ((24 : Int) < (d : Int)) = false := decide_eq_false (by omega)
  have hc2 : decide ((m : Int) < 0) = false := decide_eq_false (by omega)
  rw [partB_eq]
  by_cases g1 : t.Tag = -1
  · refine ⟨decide (t.Key = -1) && decide (t.Props = []) && decide (t.Kids.length = 0) && shownB t.Text, m, impl_treeFits_of _ _ _ ?_, ?_, ?_⟩
    · rw [hc1, w1', hc2]
      simp only [Bool.false_eq_true, if_false, shown_ok _ hl.tx]
      by_cases g2 : t.Key = -1
      · cases g3 : shownB t.Text
        · simp [g1, g2]
        · by_cases g4 : t.Props = []
          · by_cases g5 : t.Kids.length = 0
            · simp [g1, g2, g4, g5]
            · simp [g1, g2, g4, g5]
          · simp [g1, g2, g4]
      · simp [g1, g2]
    · rw [if_pos g1]
      constructor
      · intro hh
        refine ⟨?_, ?_, hh⟩
        · have : t.Kids = [] := by simp at hh; exact hh.1.2
          rw [this] at hdp; simp [depthL] at hdp; omega
        · have : t.Kids = [] := by simp at hh; exact hh.1.2
          rw [this] at hnd; simp [nodesL] at hnd; omega
      · exact fun hh => hh.2.2
    · intro hh
      have : t.Kids = [] := by simp at hh; exact hh.1.2
      rw [this] at hnd; simp [nodesL] at hnd; omega
  · rw [if_neg g1]
    have none_ : ∀ q : Bool, q = false → impl_treeFits t d ((m + 1 : Nat) : Int) = some (false, (m : Int)) → (∃ (ok : Bool) (l' : Int), impl_treeFits t d ((m + 1 : Nat) : Int) = some (ok, l') ∧ (ok = true ↔ depth t + d ≤ 25 ∧ nodes t ≤ m + 1 ∧ q = true) ∧ (ok = true → l' = ((m + 1 : Nat) : Int) - nodes t)) :=
      fun q hq hh => ⟨false, m, hh, by simp [hq], by simp⟩
    cases g2 : inB t.Tag 0 4
    · exact none_ _ (by simp) (impl_treeFits_of _ _ _ (by rw [hc1, w1', hc2]; simp [g1, within_ok, g2]))
    cases g3 : inB t.Key (-1) 99
    · exact none_ _ (by simp) (impl_treeFits_of _ _ _ (by rw [hc1, w1', hc2]; simp [g1, within_ok, g2, g3]))
    by_cases g4 : t.Text = []
    · refine ⟨ok2, l2, impl_treeFits_of _ _ _ (by rw [hc1, w1', hc2]; simpa [g1, within_ok, g2, g3, g4] using p1), ?_, fun hh => ?_⟩
      · rw [p2, k2]
        simp only [g4, decide_true, Bool.and_true, Bool.true_and, Bool.and_eq_true]
        constructor
        · rintro ⟨b1, b2, b3, b4, b5⟩; exact ⟨by omega, by omega, ⟨b1, b4⟩, b5⟩
        · rintro ⟨b1, b2, ⟨b3, b4⟩, b5⟩; exact ⟨b3, by omega, by omega, b4, b5⟩
      · have a1 := p3 hh
        have a2 := k3 (p2.1 hh).2
        omega
    · exact none_ _ (by simp [g4]) (impl_treeFits_of _ _ _ (by rw [hc1, w1', hc2]; simp [g1, within_ok, g2, g3, g4]))

theorem TreeOk_ok (t : TTree) (hl : Lm 1048576 t) : impl_TreeOk t = some (treeB t) := by
  obtain ⟨ok, l, e1, e2, _⟩ := treeFits_ok t hl 1 200 (by omega) (by omega) (by omega)
  refine impl_TreeOk_of _ ?_
  rw [show ((1 : Nat) : Int) = 1 from rfl, show ((200 : Nat) : Int) = 200 from rfl] at e1
  rw [e1]
  simp only [Option.bind_some, Option.some.injEq]
  rw [Bool.eq_iff_iff, e2]
  simp only [treeB, Bool.and_eq_true, decide_eq_true_eq]
  constructor
  · rintro ⟨a, b, c⟩; exact ⟨⟨by omega, b⟩, c⟩
  · rintro ⟨⟨a, b⟩, c⟩; exact ⟨by omega, b, c⟩
end Go.Fw.Law
namespace Go.Fw.Law
open Go Go.Fw

theorem szRule_ok (x : TRule) (n : Int) (hx : x.Val.Text.length ≤ 9223372036854775807) (h0 : 0 ≤ n) (h1 : n ≤ 1048576) :
    ∃ r, laws_szRule x n = some r ∧ r ≤ n ∧ (0 ≤ r → (x.Val.Text.length : Int) ≤ n) := by
  obtain ⟨r, e1, e2, e3⟩ := szValue_ok x.Val n hx h0 h1
  by_cases h : r < 0
  · exact ⟨-1, laws_szRule_of _ _ (by simp [e1, h]), by omega, by omega⟩
  · exact ⟨r, laws_szRule_of _ _ (by simp [e1, h]), e2, e3⟩
theorem szRuleS_loop (xs : List TRule) (hl : xs.length ≤ 9223372036854775807) (hx : ∀ p ∈ xs, p.Val.Text.length ≤ 9223372036854775807) : ∀ k, k ≤ xs.length → ∀ n : Int, 0 ≤ n → n ≤ 1048576 →
    ∃ r, laws_szRuleS_b1 xs n k = some r ∧ r ≤ n ∧ (0 ≤ r → ∀ p ∈ xs.drop k, (p.Val.Text.length : Int) ≤ 1048576) := by
  refine upto _ ?_ ?_
  · intro n h0 h1
    exact ⟨n, laws_szRuleS_b1_of _ _ _ (by simp), by omega, by simp⟩
  · intro k hk ih n h0 h1
    obtain ⟨r, e1, e2, e3⟩ := szRule_ok xs[k] n (hx _ (List.getElem_mem hk)) h0 h1
    by_cases h : r < 0
    · exact ⟨-1, laws_szRuleS_b1_of _ _ _ (by simp [hk, rdx_nat hk, e1, h]), by omega, by omega⟩
    · obtain ⟨s, f1, f2, f3⟩ := ih r (by omega) (by omega)
      refine ⟨s, laws_szRuleS_b1_of _ _ _ (by simpa [hk, rdx_nat hk, e1, h, w64s (show (k : Int) + 1 < 9223372036854775808 by omega)] using f1), by omega, fun hs p hp => ?_⟩
      rw [drop_at hk] at hp
      rcases List.mem_cons.1 hp with rfl | hp
      · have := e3 (by omega); omega
      · exact f3 hs p hp
theorem szRuleS_ok (xs : List TRule) (n : Int) (hl : xs.length ≤ 9223372036854775807) (hx : ∀ p ∈ xs, p.Val.Text.length ≤ 9223372036854775807) (h0 : 0 ≤ n) (h1 : n ≤ 1048576) :
    ∃ r, laws_szRuleS xs n = some r ∧ r ≤ n ∧ (0 ≤ r → (xs.length : Int) ≤ 1048576 ∧ ∀ p ∈ xs, (p.Val.Text.length : Int) ≤ 1048576) := by
  have hw : w64 (n - (xs.length : Int)) = n - xs.length := w64_id (by omega) (by omega)
  by_cases h : n - (xs.length : Int) < 0
  · exact ⟨-1, laws_szRuleS_of _ _ (by simp [hw, h]), by omega, by omega⟩
  · obtain ⟨r, e1, e2, e3⟩ := szRuleS_loop xs hl hx 0 (by omega) (n - xs.length) (by omega) (by omega)
    exact ⟨r, laws_szRuleS_of _ _ (by simpa [hw, h] using e1), by omega, fun hr => ⟨by omega, by simpa using e3 hr⟩⟩

/-- Rules that are not long. -/
def Rm (rs : List TRule) : Prop := rs.length ≤ 1048576 ∧ ∀ x ∈ rs, x.Val.Text.length ≤ 1048576

theorem toRule_ok (x : TRule) : laws_toRule x = some x := laws_toRule_of _ (by simp [toValue_ok])
theorem toRuleS_loop (xs : List TRule) (hl : xs.length ≤ 1048576) : ∀ k, k ≤ xs.length → ∀ ys : List TRule, ys.length = xs.length → ys.take k = xs.take k → laws_toRuleS_b1 xs ys k = some xs := by
  refine upto _ ?_ ?_
  · intro ys h1 h2
    refine laws_toRuleS_b1_of _ _ _ ?_
    rw [List.take_length, ← h1, List.take_length] at h2
    simp [h2]
  · intro k hk ih ys h1 h2
    refine laws_toRuleS_b1_of _ _ _ ?_
    simpa [hk, rdx_nat hk, toRule_ok, rdx_nat (show k < ys.length by omega), w64s (show (k : Int) + 1 < 9223372036854775808 by omega)] using ih _ (by simpa using h1) (set_grow hk h1 h2)
theorem toRuleS_ok (xs : List TRule) (hl : xs.length ≤ 1048576) : laws_toRuleS xs = some xs := by
  refine laws_toRuleS_of _ ?_
  rw [if_pos (by omega)]
  exact toRuleS_loop xs hl 0 (by omega) _ (by simp) (by simp)
theorem eqRule_ok (x : TRule) : laws_eqRule x x = some true := laws_eqRule_of _ _ (by simp [eqValue_ok])
theorem eqRuleS_loop (xs : List TRule) (hl : xs.length ≤ 1048576) : ∀ k, k ≤ xs.length → laws_eqRuleS_b1 xs xs k = some true := by
  refine upto _ (laws_eqRuleS_b1_of _ _ _ (by simp)) ?_
  intro k hk ih
  exact laws_eqRuleS_b1_of _ _ _ (by simpa [hk, rdx_nat hk, eqRule_ok, w64s (show (k : Int) + 1 < 9223372036854775808 by omega)] using ih)
theorem eqRuleS_ok (xs : List TRule) (hl : xs.length ≤ 1048576) : laws_eqRuleS xs xs = some true := laws_eqRuleS_of _ _ (by simp; exact eqRuleS_loop xs hl 0 (by omega))

/-- Valid rules. -/
def ruleB (x : TRule) : Bool := inB x.Tag (-1) 4 && inB x.Above (-1) 4 && inB x.Name (-1) 3 && valB x.Val && (!decide (x.Name = -1) || (decide (x.Val.Kind = 0) && (decide (x.Val.Num = 0) && decide (x.Val.Text = [])))) && inB x.Look 0 4 && inB x.Give 0 60
def rulesB (rs : List TRule) : Bool := decide (rs.length ≤ 12) && rs.all ruleB

theorem validRule_ok (x : TRule) : spec_validRule x = some (ruleB x) := by
  refine spec_validRule_of _ ?_
  simp only [inRange_ok, validValue_ok, Option.bind_some, ruleB]
  cases inB x.Tag (-1) 4 <;> simp
  cases inB x.Above (-1) 4 <;> simp
  cases inB x.Name (-1) 3 <;> simp
  cases valB x.Val <;> simp
  by_cases h : x.Name = -1 <;> simp [h]
  · by_cases h2 : x.Val.Kind = 0 ∧ x.Val.Num = 0 ∧ x.Val.Text = []
    · simp [h2]; cases inB x.Look 0 4 <;> simp
    · rw [if_neg h2]
      by_cases h3 : x.Val.Kind = 0 <;> by_cases h4 : x.Val.Num = 0 <;> by_cases h5 : x.Val.Text = [] <;> simp_all
  · cases inB x.Look 0 4 <;> simp
theorem validRules_loop (rs : List TRule) (hl : rs.length ≤ 12) : ∀ k, k ≤ rs.length → spec_validRules_b1 rs k = some ((rs.drop k).all ruleB) := by
  refine upto _ (spec_validRules_b1_of _ _ (by simp)) ?_
  intro k hk ih
  refine spec_validRules_b1_of _ _ ?_
  rw [drop_at hk, List.all_cons]
  simp only [dlt hk, rdx_nat hk, Option.bind_some, validRule_ok, w64s (show (k : Int) + 1 < 9223372036854775808 by omega), ih, if_true]
  cases ruleB rs[k] <;> simp
theorem validRules_ok (rs : List TRule) : spec_validRules rs = some (rulesB rs) := by
  refine spec_validRules_of _ ?_
  by_cases h : rs.length ≤ 12
  · have := validRules_loop rs h 0 (by omega)
    simp only [List.drop_zero] at this
    rw [decide_eq_false (show ¬ (12 : Int) < (rs.length : Int) by omega)]
    simpa [rulesB, h] using this
  · rw [decide_eq_true (show (12 : Int) < (rs.length : Int) by omega)]
    simp [rulesB, h]
theorem RulesOk_loop (rs : List TRule) (hm : Rm rs) : ∀ k, k ≤ rs.length → impl_RulesOk_b1 rs rs rs.length k = some ((rs.drop k).all ruleB && decide (rs.length ≤ 12)) := by
  have hl := hm.1
  refine upto _ (impl_RulesOk_b1_of _ _ _ _ (by simp; omega)) ?_
  intro k hk ih
  refine impl_RulesOk_b1_of _ _ _ _ ?_
  rw [drop_at hk, List.all_cons]
  simp only [dlt hk, rdx_nat hk, Option.bind_some, within_ok, ValOk_ok _ (hm.2 _ (List.getElem_mem hk)), w64s (show (k : Int) + 1 < 9223372036854775808 by omega), ih, if_true]
  generalize rs[k] = x
  unfold ruleB
  cases inB x.Tag (-1) 4 <;> simp
  cases inB x.Above (-1) 4 <;> simp
  cases inB x.Name (-1) 3 <;> simp
  cases inB x.Look 0 4 <;> simp
  cases inB x.Give 0 60 <;> simp
  by_cases h : x.Name = -1 <;> simp [h]
  · by_cases h2 : x.Val.Kind = 0 ∧ x.Val.Num = 0 ∧ x.Val.Text = []
    · simp [h2]; cases valB x.Val <;> simp [Bool.and_assoc]
    · by_cases h3 : x.Val.Kind = 0 <;> by_cases h4 : x.Val.Num = 0 <;> by_cases h5 : x.Val.Text = [] <;> simp_all
  · cases valB x.Val <;> simp [Bool.and_assoc]
theorem RulesOk_ok (rs : List TRule) (hm : Rm rs) : impl_RulesOk rs = some (rulesB rs) := by
  refine impl_RulesOk_of _ ?_
  have := RulesOk_loop rs hm 0 (by omega)
  simp only [List.drop_zero] at this
  rw [show ((0 : Nat) : Int) = 0 from rfl] at this
  rw [this, rulesB, Bool.and_comm]
end Go.Fw.Law
namespace Go.Fw.Law
open Go Go.Fw

def wgt (x : TRule) : Int := (if x.Tag = -1 then 0 else 1) + (if x.Above = -1 then 0 else 1) + (if x.Name = -1 then 0 else 10)
theorem wgt_range (x : TRule) : 0 ≤ wgt x ∧ wgt x ≤ 12 := by unfold wgt; split <;> split <;> split <;> omega
theorem weight_ok (x : TRule) : spec_weight x = some (wgt x) := by
  refine spec_weight_of _ ?_
  by_cases h1 : x.Tag = -1 <;> by_cases h2 : x.Above = -1 <;> by_cases h3 : x.Name = -1 <;> simp [h1, h2, h3, wgt] <;> exact spec_weight_b1_of _ _ (by simp [h2, h3] <;> decide)
theorem weight_ok' (x : TRule) : impl_weight x = some (wgt x) := by
  refine impl_weight_of _ ?_
  by_cases h1 : x.Tag = -1 <;> by_cases h2 : x.Above = -1 <;> by_cases h3 : x.Name = -1 <;> simp [h1, h2, h3, wgt] <;> exact impl_weight_b1_of _ _ (by simp [h2, h3] <;> decide)

def propHit (ps : List TProp) (x : TRule) : Bool := ps.any fun p => decide (p.Name = x.Name) && decide (p.Val = x.Val)
def meetsB (x : TRule) (t : TTree) (above : List Int) : Bool := (decide (x.Tag = -1) || decide (x.Tag = t.Tag)) && (decide (x.Above = -1) || above.contains x.Above) && (decide (x.Name = -1) || propHit t.Props x)

theorem val_eq (a b : TValue) : (decide (a.Kind = b.Kind) && (decide (a.Num = b.Num) && decide (a.Text = b.Text))) = decide (a = b) := by
  cases a; cases b; simp [TValue.mk.injEq]

theorem hasInt_loop (xs : List Int) (v : Int) (hl : xs.length ≤ 1048576) : ∀ k, k ≤ xs.length → spec_hasInt_b1 xs v k = some ((xs.drop k).contains v) := by
  refine upto _ (spec_hasInt_b1_of _ _ _ (by simp)) ?_
  intro k hk ih
  refine spec_hasInt_b1_of _ _ _ ?_
  rw [drop_at hk, List.contains_cons]
  simp only [dlt hk, rdx_nat hk, Option.bind_some, w64s (show (k : Int) + 1 < 9223372036854775808 by omega), ih, if_true]
  by_cases h : xs[k] = v
  · simp [h]
  · simp [h, show (v == xs[k]) = false by simpa using fun e => h e.symm]
theorem hasInt_ok (xs : List Int) (v : Int) (hl : xs.length ≤ 1048576) : spec_hasInt xs v = some (xs.contains v) := spec_hasInt_of _ _ (by simpa using hasInt_loop xs v hl 0 (by omega))

/-- Names that ascend. -/
def Asc : List TProp → Prop
  | [] => True
  | p :: ps => (∀ q ∈ ps, p.Name < q.Name) ∧ Asc ps
theorem propsB_asc : ∀ (q : Option Int) (ps : List TProp), propsB q ps = true → (∀ n, q = some n → ∀ p ∈ ps, n < p.Name) ∧ Asc ps
  | q, [], _ => ⟨by simp, trivial⟩
  | q, p :: ps, h => by
    rw [propsB_cons] at h
    simp only [Bool.and_eq_true] at h
    obtain ⟨⟨⟨_, _⟩, h3⟩, h4⟩ := h
    obtain ⟨i1, i2⟩ := propsB_asc _ ps h4
    refine ⟨fun n hn => ?_, fun r hr => i1 _ rfl r hr, i2⟩
    subst hn
    simp only [decide_eq_true_eq] at h3
    intro r hr
    rcases List.mem_cons.1 hr with rfl | hr
    · exact h3
    · have := i1 _ rfl r hr; omega

theorem propAt_loop (ps : List TProp) (x : TRule) (hl : ps.length ≤ 1048576) : ∀ k : Nat, k ≤ ps.length → Asc (ps.drop k) →
    ∃ i : Int, spec_propAt_b1 ps x.Name k = some i ∧ ((i = -1 ∧ propHit (ps.drop k) x = false) ∨ ∃ j : Nat, i = j ∧ ∃ h : j < ps.length, propHit (ps.drop k) x = decide (ps[j].Val = x.Val)) := by
  refine upto _ ?_ ?_
  · intro _
    exact ⟨-1, spec_propAt_b1_of _ _ _ (by simp), .inl ⟨rfl, by simp [propHit]⟩⟩
  · intro k hk ih ha
    rw [drop_at hk] at ha
    have hph : propHit (ps.drop k) x = (decide (ps[k].Name = x.Name) && decide (ps[k].Val = x.Val) || propHit (ps.drop (k + 1)) x) := by
      conv => lhs; rw [drop_at hk]
      rfl
    rw [hph]
    clear hph
    by_cases h : ps[k].Name = x.Name
    · refine ⟨k, spec_propAt_b1_of _ _ _ (by simp [hk, rdx_nat hk, h]), .inr ⟨k, rfl, hk, ?_⟩⟩
      have : propHit (ps.drop (k + 1)) x = false := by
        rw [propHit, List.any_eq_false]
        intro q hq
        have := ha.1 q hq
        simp [show q.Name ≠ x.Name by omega]
      simp [h, this]
    · obtain ⟨i, e1, e2⟩ := ih ha.2
      refine ⟨i, spec_propAt_b1_of _ _ _ (by simpa [hk, rdx_nat hk, h, w64s (show (k : Int) + 1 < 9223372036854775808 by omega)] using e1), ?_⟩
      simpa [h] using e2

theorem meets_ok (x : TRule) (t : TTree) (above : List Int) (ha : above.length ≤ 1048576) (hp : t.Props.length ≤ 1048576) (hs : Asc t.Props) : spec_meets x t above = some (meetsB x t above) := by
  have hb : spec_meets_b1 x t = some (decide (x.Name = -1) || propHit t.Props x) := by
    refine spec_meets_b1_of _ _ ?_
    by_cases h : x.Name = -1
    · simp [h]
    · obtain ⟨i, e1, e2⟩ := propAt_loop t.Props x hp 0 (by omega) (by simpa using hs)
      have e3 : spec_propAt t.Props x.Name = some i := spec_propAt_of _ _ (by simpa using e1)
      simp only [List.drop_zero] at e2
      rw [decide_eq_false h, e3]
      rcases e2 with ⟨rfl, e2⟩ | ⟨j, rfl, hj, e2⟩
      · simp [e2]
      · simp only [Bool.false_eq_true, if_false, Option.bind_some, decide_eq_true (show (0 : Int) ≤ (j : Int) by omega), if_true, rdx_nat hj, val_eq, e2, Bool.false_or]
  refine spec_meets_of _ _ _ ?_
  simp only [hasInt_ok _ _ ha, hb, Option.bind_some, meetsB]
  by_cases h1 : x.Tag = -1 <;> by_cases h2 : x.Tag = t.Tag <;> by_cases h3 : x.Above = -1 <;> cases above.contains x.Above <;> simp_all

theorem meets_b3_ok (ps : List TProp) (x : TRule) (hl : ps.length ≤ 1048576) : ∀ k, k ≤ ps.length → impl_meets_b3 ps ps.length k x = some (propHit (ps.drop k) x) := by
  refine upto _ (impl_meets_b3_of _ _ _ _ (by simp [propHit])) ?_
  intro k hk ih
  refine impl_meets_b3_of _ _ _ _ ?_
  rw [drop_at hk]
  simp only [dlt hk, rdx_nat hk, Option.bind_some, w64s (show (k : Int) + 1 < 9223372036854775808 by omega), ih, if_true, val_eq]
  simp only [propHit, List.any_cons]
  by_cases h : ps[k].Name = x.Name <;> by_cases h2 : ps[k].Val = x.Val <;> simp [h, h2]
theorem meets_b2_ok (x : TRule) (t : TTree) (above : List Int) (ha : above.length ≤ 1048576) (hp : t.Props.length ≤ 1048576) : ∀ k, k ≤ above.length → ∀ b : Bool,
    impl_meets_b2 b above above.length k x t = some ((b || (above.drop k).contains x.Above) && (decide (x.Name = -1) || propHit t.Props x)) := by
  have h3 := meets_b3_ok t.Props x hp 0 (by omega)
  simp only [List.drop_zero] at h3
  rw [show ((0 : Nat) : Int) = 0 from rfl] at h3
  refine upto _ ?_ ?_
  · intro b
    refine impl_meets_b2_of _ _ _ _ _ _ ?_
    cases b <;> by_cases h : x.Name = -1 <;> simp [h, h3]
  · intro k hk ih b
    refine impl_meets_b2_of _ _ _ _ _ _ ?_
    rw [drop_at hk, List.contains_cons]
    simp only [dlt hk, rdx_nat hk, Option.bind_some, w64s (show (k : Int) + 1 < 9223372036854775808 by omega), ih, if_true]
    cases b
    · by_cases h : above[k] = x.Above
      · simp [h]
      · simp [h, show (x.Above == above[k]) = false by simpa using fun e => h e.symm]
    · simp
theorem meets_ok' (x : TRule) (t : TTree) (above : List Int) (ha : above.length ≤ 1048576) (hp : t.Props.length ≤ 1048576) : impl_meets x t above = some (meetsB x t above) := by
  have h3 := meets_b3_ok t.Props x hp 0 (by omega)
  simp only [List.drop_zero] at h3
  rw [show ((0 : Nat) : Int) = 0 from rfl] at h3
  have h2 := meets_b2_ok x t above ha hp 0 (by omega) false
  simp only [List.drop_zero, Bool.false_or] at h2
  rw [show ((0 : Nat) : Int) = 0 from rfl] at h2
  have h1 : impl_meets_b1 above x t = some ((decide (x.Above = -1) || above.contains x.Above) && (decide (x.Name = -1) || propHit t.Props x)) := by
    refine impl_meets_b1_of _ _ _ ?_
    by_cases h : x.Above = -1
    · by_cases h4 : x.Name = -1 <;> simp [h, h4, h3]
    · simp [h, h2]
  refine impl_meets_of _ _ _ ?_
  simp only [h1, meetsB]
  by_cases h4 : x.Tag = -1 <;> by_cases h5 : x.Tag = t.Tag <;> simp_all

/-- What a look is by rules, after what it was by those ahead of them. -/
def scan (t : TTree) (above : List Int) (l : Int) : List TRule → Int → Int → Int
  | [], _, g => g
  | x :: xs, b, g => if x.Look = l ∧ b ≤ wgt x ∧ meetsB x t above = true then scan t above l xs (wgt x) x.Give else scan t above l xs b g

/-- The looks of a part. -/
def own (rs : List TRule) (t : TTree) (above : List Int) (mark : Int) : List Int :=
  if t.Tag = -1 then [0, 0, 0, 0, mark] else [scan t above 0 rs (-1) 0, scan t above 1 rs (-1) 0, scan t above 2 rs (-1) 0, scan t above 3 rs (-1) 0, scan t above 4 rs (-1) mark]

/-- A tree that may be looked at. -/
structure Lk (t : TTree) : Prop where
  lm : Lm 1048576 t
  asc : Asc t.Props
  tag : t.Tag = -1 ∨ 0 ≤ t.Tag

theorem looks_loop (rs : List TRule) (hm : Rm rs) (hv : ∀ x ∈ rs, 0 ≤ x.Look ∧ x.Look ≤ 4) (t : TTree) (ht : Lk t) (above : List Int) (ha : above.length ≤ 1048576) : ∀ k, k ≤ rs.length → ∀ a0 a1 a2 a3 a4 b0 b1 b2 b3 b4 : Int,
    (∀ b ∈ [b0, b1, b2, b3, b4], 0 ≤ b ∧ b ≤ 13) →
    spec_looks_b1 rs above [a0, a1, a2, a3, a4] [b0, b1, b2, b3, b4] k t = some [scan t above 0 (rs.drop k) (b0 - 1) a0, scan t above 1 (rs.drop k) (b1 - 1) a1, scan t above 2 (rs.drop k) (b2 - 1) a2, scan t above 3 (rs.drop k) (b3 - 1) a3, scan t above 4 (rs.drop k) (b4 - 1) a4] := by
  have hl := hm.1
  refine upto _ ?_ ?_
  · intro a0 a1 a2 a3 a4 b0 b1 b2 b3 b4 _
    exact spec_looks_b1_of _ _ _ _ _ _ (by simp [scan])
  · intro k hk ih a0 a1 a2 a3 a4 b0 b1 b2 b3 b4 hb
    refine spec_looks_b1_of _ _ _ _ _ _ ?_
    rw [drop_at hk]
    have hx := hv _ (List.getElem_mem hk)
    simp only [dlt hk, rdx_nat hk, Option.bind_some, w64s (show (k : Int) + 1 < 9223372036854775808 by omega), if_true, meets_ok _ t above ha ht.lm.ps ht.asc, weight_ok]
    generalize rs[k] = x at hx
    generalize ((k + 1 : Nat) : Int) = j at ih ⊢
    have hw := wgt_range x
    have hw1 : w64 (wgt x + 1) = wgt x + 1 := w64_id (by omega) (by omega)
    simp only [List.mem_cons, List.not_mem_nil, or_false, forall_eq_or_imp, forall_eq] at hb
    by_cases hmt : meetsB x t above = true
    · rw [if_pos hmt]
      simp only [hw1]
      have hlk : x.Look = 0 ∨ x.Look = 1 ∨ x.Look = 2 ∨ x.Look = 3 ∨ x.Look = 4 := by omega
      rcases hlk with e | e | e | e | e <;> rw [e]
      · by_cases h : b0 ≤ wgt x + 1
        · simp [rdx, h, scan, e, hmt, show b0 - 1 ≤ wgt x by omega, ih x.Give a1 a2 a3 a4 (wgt x + 1) b1 b2 b3 b4 (by simp; omega)]
        · simp [rdx, h, scan, e, hmt, show ¬ b0 - 1 ≤ wgt x by omega, ih a0 a1 a2 a3 a4 b0 b1 b2 b3 b4 (by simp; omega)]
      · by_cases h : b1 ≤ wgt x + 1
        · simp [rdx, h, scan, e, hmt, show b1 - 1 ≤ wgt x by omega, ih a0 x.Give a2 a3 a4 b0 (wgt x + 1) b2 b3 b4 (by simp; omega)]
        · simp [rdx, h, scan, e, hmt, show ¬ b1 - 1 ≤ wgt x by omega, ih a0 a1 a2 a3 a4 b0 b1 b2 b3 b4 (by simp; omega)]
      · by_cases h : b2 ≤ wgt x + 1
        · simp [rdx, h, scan, e, hmt, show b2 - 1 ≤ wgt x by omega, ih a0 a1 x.Give a3 a4 b0 b1 (wgt x + 1) b3 b4 (by simp; omega)]
        · simp [rdx, h, scan, e, hmt, show ¬ b2 - 1 ≤ wgt x by omega, ih a0 a1 a2 a3 a4 b0 b1 b2 b3 b4 (by simp; omega)]
      · by_cases h : b3 ≤ wgt x + 1
        · simp [rdx, h, scan, e, hmt, show b3 - 1 ≤ wgt x by omega, ih a0 a1 a2 x.Give a4 b0 b1 b2 (wgt x + 1) b4 (by simp; omega)]
        · simp [rdx, h, scan, e, hmt, show ¬ b3 - 1 ≤ wgt x by omega, ih a0 a1 a2 a3 a4 b0 b1 b2 b3 b4 (by simp; omega)]
      · by_cases h : b4 ≤ wgt x + 1
        · simp [rdx, h, scan, e, hmt, show b4 - 1 ≤ wgt x by omega, ih a0 a1 a2 a3 x.Give b0 b1 b2 b3 (wgt x + 1) (by simp; omega)]
        · simp [rdx, h, scan, e, hmt, show ¬ b4 - 1 ≤ wgt x by omega, ih a0 a1 a2 a3 a4 b0 b1 b2 b3 b4 (by simp; omega)]
    · simp [hmt, scan, ih a0 a1 a2 a3 a4 b0 b1 b2 b3 b4 (by simp; omega)]

theorem looksOf_ok (rs : List TRule) (hm : Rm rs) (hv : ∀ x ∈ rs, 0 ≤ x.Look ∧ x.Look ≤ 4) (t : TTree) (ht : Lk t) (above : List Int) (ha : above.length ≤ 1048576) (q0 q1 q2 q3 mark : Int) :
    spec_looksOf rs t above [q0, q1, q2, q3, mark] = some (own rs t above mark) := by
  refine spec_looksOf_of _ _ _ _ ?_
  rcases ht.tag with h | h
  · have : spec_textLooks [q0, q1, q2, q3, mark] = some [0, 0, 0, 0, mark] := spec_textLooks_of _ (by simp [rdx])
    simp [h, this, own]
  · have := looks_loop rs hm hv t ht above ha 0 (by omega) 0 0 0 0 mark 0 0 0 0 0 (by simp)
    simp only [List.drop_zero, Int.zero_sub] at this
    have h2 : spec_looks rs t above [q0, q1, q2, q3, mark] = some _ := spec_looks_of _ _ _ _ (by simpa [rdx] using this)
    rw [decide_eq_false (show ¬ t.Tag < 0 by omega)]
    simp [h2, own, show t.Tag ≠ -1 by omega]

/-- One look by the program. -/
theorem looks_b2_ok (rs : List TRule) (hm : Rm rs) (t : TTree) (ht : Lk t) (above : List Int) (ha : above.length ≤ 1048576) (l : Nat) (hl5 : l < 5) (R : List (List Int)) : ∀ k, k ≤ rs.length → ∀ (o : List Int) (b : Int), (ho : o.length = 5) →
    impl_looks_b1 rs above (o.set l (scan t above l (rs.drop k) b (o[l]'(by omega)))) ((l + 1 : Nat) : Int) t = some R → impl_looks_b2 rs above o l b l rs rs.length k t = some R := by
  have hl := hm.1
  refine upto _ ?_ ?_
  · intro o b ho h
    refine impl_looks_b2_of _ _ _ _ _ _ _ _ _ _ ?_
    simp only [scan, List.drop_length, List.set_getElem_self] at h
    simpa [w64s (show (l : Int) + 1 < 9223372036854775808 by omega)] using h
  · intro k hk ih o b ho h
    refine impl_looks_b2_of _ _ _ _ _ _ _ _ _ _ ?_
    rw [drop_at hk] at h
    simp only [dlt hk, rdx_nat hk, Option.bind_some, w64s (show (k : Int) + 1 < 9223372036854775808 by omega), if_true, meets_ok' _ t above ha ht.lm.ps, weight_ok']
    generalize rs[k] = x at h
    simp only [scan] at h
    by_cases h1 : x.Look = l
    · by_cases h2 : b ≤ wgt x
      · by_cases h3 : meetsB x t above = true
        · rw [if_pos ⟨h1, h2, h3⟩] at h
          simp only [h1, h2, h3, decide_true, if_true, rdx_nat (show l < o.length by omega), Option.bind_some, Int.toNat_natCast]
          refine ih _ _ (by simp [ho]) ?_
          simpa using h
        · rw [if_neg (fun hh => h3 hh.2.2)] at h
          simpa [h1, h2, h3] using ih o b ho h
      · rw [if_neg (fun hh => h2 hh.2.1)] at h
        simpa [h1, h2] using ih o b ho h
    · rw [if_neg (fun hh => h1 hh.1)] at h
      simpa [h1] using ih o b ho h

/-- A number of a list, nothing behind its end. -/
def _root_.List.gd (o : List Int) (i : Nat) : Int := o.getD i 0
mutual
/-- The looks of all parts. -/
def looksA (rs : List TRule) : TTree → List Int → Int → List (List Int)
  | ⟨tag, key, tx, ps, ks⟩, above, mark => own rs ⟨tag, key, tx, ps, ks⟩ above mark :: looksL rs ks (above ++ [tag]) ((own rs ⟨tag, key, tx, ps, ks⟩ above mark).gd 4)
def looksL (rs : List TRule) : List TTree → List Int → Int → List (List Int)
  | [], _, _ => []
  | t :: ts, above, mark => looksA rs t above mark ++ looksL rs ts above mark
end
theorem looksA_eq (rs : List TRule) (t : TTree) (above : List Int) (mark : Int) : looksA rs t above mark = own rs t above mark :: looksL rs t.Kids (above ++ [t.Tag]) ((own rs t above mark).gd 4) := by cases t; rw [looksA]
theorem own_len (rs : List TRule) (t : TTree) (above : List Int) (mark : Int) : (own rs t above mark).length = 5 := by unfold own; split <;> rfl

/-- A valid tree, all through. -/
inductive Va : TTree → Prop where
  | mk {t : TTree} (lk : Lk t) (tx : t.Text.length ≤ 12) (nk : t.Tag = -1 → t.Kids = []) (ks : ∀ k ∈ t.Kids, Va k) : Va t
theorem Va.lk {t : TTree} (h : Va t) : Lk t := by cases h; assumption
theorem Va.tx {t : TTree} (h : Va t) : t.Text.length ≤ 12 := by cases h; assumption
theorem Va.nk {t : TTree} (h : Va t) : t.Tag = -1 → t.Kids = [] := by cases h; assumption
theorem Va.ks {t : TTree} (h : Va t) : ∀ k ∈ t.Kids, Va k := by cases h; assumption

theorem looksA_len (rs : List TRule) : ∀ t above mark, (looksA rs t above mark).length = nodes t := by
  refine TTree.ind ?_
  intro t ih above mark
  rw [looksA_eq, nodes_eq, List.length_cons]
  have : ∀ (ts : List TTree) (a : List Int) (m : Int), (∀ k ∈ ts, ∀ a m, (looksA rs k a m).length = nodes k) → (looksL rs ts a m).length = nodesL ts := by
    intro ts
    induction ts with
    | nil => intros; simp [looksL, nodesL]
    | cons k ts ihl => intro a m h; simp [looksL, nodesL, h k (by simp), ihl a m fun k hk => h k (by simp [hk])]
  rw [this _ _ _ ih]
  omega
end Go.Fw.Law
namespace Go.Fw.Law
open Go Go.Fw

theorem apN {α β : Type} (by_ : Nat) (xs : List α) (ys : List β) (hb : by_ ≤ 1000) (hx : xs.length ≤ 1048576) (hy : ys.length ≤ 1048576) : apOk by_ xs ys := by
  unfold apOk
  constructor
  · have : (xs.length + ys.length) * by_ ≤ 2097152 * 1000 := Nat.mul_le_mul (by omega) hb
    omega
  · omega

theorem depth_kid (ts : List TTree) : ∀ k ∈ ts, depth k ≤ depthL ts := by
  induction ts with
  | nil => simp
  | cons t ts ih =>
    intro k hk
    rw [depthL]
    rcases List.mem_cons.1 hk with rfl | hk
    · omega
    · have := ih k hk; omega
theorem nodes_kid (ts : List TTree) : ∀ k ∈ ts, nodes k ≤ nodesL ts := by
  induction ts with
  | nil => simp
  | cons t ts ih =>
    intro k hk
    rw [nodesL]
    rcases List.mem_cons.1 hk with rfl | hk
    · omega
    · have := ih k hk; omega
theorem getD4 {o : List Int} (h : o.length = 5) (i : Nat) (hi : i < 5) : rdx o (i : Int) = some (o.gd i) := by
  rw [rdx_nat (by omega), List.gd, List.getD_eq_getElem?_getD, List.getElem?_eq_getElem (by omega)]
  rfl

theorem looks_ok' (rs : List TRule) (hm : Rm rs) : ∀ t, Va t → ∀ (above : List Int) (mark : Int), above.length + depth t ≤ 1000 → nodes t ≤ 1000 → impl_looks t rs above mark = some (looksA rs t above mark) := by
  refine TTree.ind ?_
  intro t ih hv above mark ha hn
  have hd := depth_eq t
  have hnn := nodes_eq t
  have hkl := hv.lk.lm.kl
  refine impl_looks_of _ _ _ _ ?_
  rw [looksA_eq]
  by_cases h : t.Tag = -1
  · simp [h, hv.nk h, looksL, own]
  rw [decide_eq_false h]
  simp only [Bool.false_eq_true, if_false]
  generalize ho : own rs t above mark = o
  have ho5 : o.length = 5 := by rw [← ho]; exact own_len _ _ _ _
  have loop : ∀ k, k ≤ t.Kids.length → ∀ acc : List (List Int), acc.length + nodesL (t.Kids.drop k) ≤ 2000 →
      impl_looks_b3 rs o acc (above ++ [t.Tag]) t.Kids t.Kids.length k = some (acc ++ looksL rs (t.Kids.drop k) (above ++ [t.Tag]) (o.gd 4)) := by
    refine upto _ ?_ ?_
    · intro acc _
      exact impl_looks_b3_of _ _ _ _ _ _ _ (by simp [looksL])
    · intro k hk ihk acc hacc
      refine impl_looks_b3_of _ _ _ _ _ _ _ ?_
      rw [drop_at hk, nodesL] at hacc
      have h1 := ih t.Kids[k] (List.getElem_mem hk) (hv.ks _ (List.getElem_mem hk)) (above ++ [t.Tag]) (o.gd 4)
        (by have := depth_kid t.Kids _ (List.getElem_mem hk); simp; omega) (by have := nodes_kid t.Kids _ (List.getElem_mem hk); omega)
      have h4 := getD4 ho5 4 (by omega)
      rw [show ((4 : Nat) : Int) = 4 from rfl] at h4
      have hlen := looksA_len rs t.Kids[k] (above ++ [t.Tag]) (o.gd 4)
      simp only [dlt hk, if_true, rdx_nat hk, Option.bind_some, h4, h1, w64s (show (k : Int) + 1 < 9223372036854775808 by omega)]
      rw [if_pos (apN 24 _ _ (by omega) (by omega) (by omega)), ihk _ (by rw [List.length_append]; omega), drop_at hk, looksL, List.append_assoc]
  have h3 := loop 0 (by omega) [o] (by simp; omega)
  simp only [List.drop_zero, List.singleton_append] at h3
  rw [show ((0 : Nat) : Int) = 0 from rfl] at h3
  generalize hR : o :: looksL rs t.Kids (above ++ [t.Tag]) (o.gd 4) = R at h3
  have h5 : impl_looks_b1 rs above o 5 t = some R := by
    refine impl_looks_b1_of _ _ _ _ _ ?_
    rw [if_pos (apN 8 ([] : List Int) above (by omega) (by simp) (by omega)), if_pos (apN 8 above [t.Tag] (by omega) (by omega) (by simp))]
    simpa using h3
  have hob : o = [scan t above 0 rs (-1) 0, scan t above 1 rs (-1) 0, scan t above 2 rs (-1) 0, scan t above 3 rs (-1) 0, scan t above 4 rs (-1) mark] := by rw [← ho, own, if_neg h]
  rw [hob] at h5
  have one : ∀ (l : Nat) (hl : l < 5) (q : List Int) (hq : q.length = 5), impl_looks_b1 rs above (q.set l (scan t above l rs (-1) (q[l]'(by omega)))) ((l + 1 : Nat) : Int) t = some R → impl_looks_b1 rs above q l t = some R := by
    intro l hl q hq h
    refine impl_looks_b1_of _ _ _ _ _ ?_
    rw [decide_eq_true (show (l : Int) < 5 by omega)]
    simpa using looks_b2_ok rs hm t hv.lk above (by omega) l hl R 0 (by omega) q (-1) hq (by simpa using h)
  exact one 0 (by omega) _ rfl (one 1 (by omega) _ rfl (one 2 (by omega) _ rfl (one 3 (by omega) _ rfl (one 4 (by omega) _ rfl h5))))
end Go.Fw.Law
namespace Go.Fw.Law
open Go Go.Fw

def textB (n : Nat) (room : Int) : Int × Int := if room ≤ 0 ∨ n = 0 then (0, 0) else (min n room, w64 ((w64 ((w64 ((n : Int) + room)) - 1)).tdiv room))
def fixL : List Int → Int → List Int
  | [], _ => []
  | w :: ws, rest => if w = 0 then (-1) :: fixL ws rest else min w rest :: fixL ws (w64 (rest - min w rest))
def restL : List Int → Int → Int
  | [], r => r
  | w :: ws, r => if w = 0 then restL ws r else restL ws (w64 (r - min w r))
def openL : List Int → Int → Int
  | [], n => n
  | w :: ws, n => if w = 0 then openL ws (w64 (n + 1)) else openL ws n
def part (rest n : Int) : Int := w64 ((w64 ((w64 (rest + n)) - 1)).tdiv n)
def fillL : List Int → Int → Int → List Int
  | [], _, _ => []
  | s :: ss, rest, n => if s < 0 then part rest n :: fillL ss (w64 (rest - part rest n)) (w64 (n - 1)) else s :: fillL ss rest n
def shares (ws : List Int) (inner : Int) : List Int := fillL (fixL ws inner) (restL ws inner) (openL ws 0)

mutual
/-- The box of a part that is laid out, and those of all in it. -/
def lay (rs : List TRule) : TTree → List Int → Int → Int → Int → Int → TBox × List TBox
  | ⟨tag, key, tx, ps, ks⟩, above, mark, left, top, room =>
    if tag = -1 then (⟨left, top, (textB tx.length room).1, (textB tx.length room).2⟩, [⟨left, top, (textB tx.length room).1, (textB tx.length room).2⟩])
    else
      let o := own rs ⟨tag, key, tx, ps, ks⟩ above mark
      let wide := if o.gd 0 = 0 then room else min (o.gd 0) room
      let inner := max (w64 (wide - w64 (2 * o.gd 2))) 0
      let r := if o.gd 3 = 0 then down rs ks (above ++ [tag]) (o.gd 4) (w64 (left + o.gd 2)) (w64 (top + o.gd 2)) inner 0
        else across rs ks (above ++ [tag]) (o.gd 4) (shares (ks.map fun k => (own rs k (above ++ [tag]) (o.gd 4)).gd 0) inner) (w64 (left + o.gd 2)) (w64 (top + o.gd 2)) 0
      let high := if o.gd 1 = 0 then w64 (r.1 + w64 (2 * o.gd 2)) else o.gd 1
      (⟨left, top, wide, high⟩, ⟨left, top, wide, high⟩ :: r.2)
def down (rs : List TRule) : List TTree → List Int → Int → Int → Int → Int → Int → Int × List TBox
  | [], _, _, _, _, _, high => (high, [])
  | k :: ks, above, mark, left, top, room, high =>
    let b := lay rs k above mark left (w64 (top + high)) room
    let r := down rs ks above mark left top room (w64 (high + b.1.High))
    (r.1, b.2 ++ r.2)
def across (rs : List TRule) : List TTree → List Int → Int → List Int → Int → Int → Int → Int × List TBox
  | [], _, _, _, _, _, high => (high, [])
  | k :: ks, above, mark, sh, left, top, high =>
    let b := lay rs k above mark left top (sh.headD 0)
    let r := across rs ks above mark sh.tail (w64 (left + sh.headD 0)) top (max high b.1.High)
    (r.1, b.2 ++ r.2)
end
def wideOf (o : List Int) (room : Int) : Int := if o.gd 0 = 0 then room else min (o.gd 0) room
def innerOf (o : List Int) (room : Int) : Int := max (w64 (wideOf o room - w64 (2 * o.gd 2))) 0
def wishOf (rs : List TRule) (ks : List TTree) (above : List Int) (mark : Int) : List Int := ks.map fun k => (own rs k above mark).gd 0
def insideOf (rs : List TRule) (ks : List TTree) (above : List Int) (o : List Int) (left top room : Int) : Int × List TBox :=
  if o.gd 3 = 0 then down rs ks above (o.gd 4) (w64 (left + o.gd 2)) (w64 (top + o.gd 2)) (innerOf o room) 0
  else across rs ks above (o.gd 4) (shares (wishOf rs ks above (o.gd 4)) (innerOf o room)) (w64 (left + o.gd 2)) (w64 (top + o.gd 2)) 0
def highOf (o : List Int) (h : Int) : Int := if o.gd 1 = 0 then w64 (h + w64 (2 * o.gd 2)) else o.gd 1
theorem lay_text (rs : List TRule) (t : TTree) (h : t.Tag = -1) (above : List Int) (mark left top room : Int) : lay rs t above mark left top room =
    (⟨left, top, (textB t.Text.length room).1, (textB t.Text.length room).2⟩, [⟨left, top, (textB t.Text.length room).1, (textB t.Text.length room).2⟩]) := by cases t; rw [lay]; exact if_pos h
theorem lay_elem (rs : List TRule) (t : TTree) (h : ¬ t.Tag = -1) (above : List Int) (mark left top room : Int) : lay rs t above mark left top room =
    (⟨left, top, wideOf (own rs t above mark) room, highOf (own rs t above mark) (insideOf rs t.Kids (above ++ [t.Tag]) (own rs t above mark) left top room).1⟩,
     ⟨left, top, wideOf (own rs t above mark) room, highOf (own rs t above mark) (insideOf rs t.Kids (above ++ [t.Tag]) (own rs t above mark) left top room).1⟩ ::
       (insideOf rs t.Kids (above ++ [t.Tag]) (own rs t above mark) left top room).2) := by cases t; rw [lay]; exact if_neg h

theorem treeCount_ok : ∀ t, Va t → nodes t ≤ 1000 → impl_treeCount t = some (nodes t : Int) := by
  refine TTree.ind ?_
  intro t ih hv hn
  have hnn := nodes_eq t
  have hkl := hv.lk.lm.kl
  refine impl_treeCount_of _ ?_
  have loop : ∀ k, k ≤ t.Kids.length → ∀ n : Nat, n + nodesL (t.Kids.drop k) ≤ 1000 → impl_treeCount_b1 n t.Kids t.Kids.length k = some ((n + nodesL (t.Kids.drop k) : Nat) : Int) := by
    refine upto _ ?_ ?_
    · intro n _
      exact impl_treeCount_b1_of _ _ _ _ (by simp [nodesL])
    · intro k hk ihk n hb
      rw [drop_at hk, nodesL] at hb ⊢
      have hb1 := nodes_kid t.Kids _ (List.getElem_mem hk)
      have w : w64 ((n : Int) + (nodes t.Kids[k] : Int)) = ((n + nodes t.Kids[k] : Nat) : Int) := by rw [w64_id (by omega) (by omega)]; omega
      refine impl_treeCount_b1_of _ _ _ _ ?_
      simp only [dlt hk, rdx_nat hk, if_true, Option.bind_some, ih _ (List.getElem_mem hk) (hv.ks _ (List.getElem_mem hk)) (by omega), w, w64s (show (k : Int) + 1 < 9223372036854775808 by omega)]
      rw [ihk _ (by omega)]
      congr 2
      omega
  have := loop 0 (by omega) 1 (by simp; omega)
  simp only [List.drop_zero] at this
  rw [show ((0 : Nat) : Int) = 0 from rfl, show ((1 : Nat) : Int) = 1 from rfl] at this
  rw [this, hnn]

theorem rdx_mid {α : Type} {pre : List α} {x : α} {suf : List α} : rdx (pre ++ x :: suf) (pre.length : Int) = some x := by
  rw [rdx_nat (by simp)]; simp
theorem set_mid {α : Type} {pre : List α} {x y : α} {suf : List α} : (pre ++ x :: suf).set pre.length y = pre ++ y :: suf := by simp

/-- Shares in part: those that are fixed are not below zero, and there is as much left as they left. -/
theorem fix_ok : ∀ (ws : List Int) (r : Int), (∀ w ∈ ws, 0 ≤ w ∧ w ≤ 60) → 0 ≤ r → r ≤ 60 → (fixL ws r).length = ws.length ∧ 0 ≤ restL ws r ∧ restL ws r ≤ 60 ∧
    ∀ i (h : i < ws.length), ∃ s, (fixL ws r)[i]? = some s ∧ (ws[i] = 0 → s = -1) ∧ (ws[i] ≠ 0 → 0 ≤ s ∧ s ≤ 60)
  | [], r, _, h1, h2 => ⟨rfl, h1, h2, fun i h => absurd h (by simp)⟩
  | w :: ws, r, hw, h1, h2 => by
    have hw0 := hw w (by simp)
    by_cases h : w = 0
    · obtain ⟨i1, i2, i3, i4⟩ := fix_ok ws r (fun x hx => hw x (by simp [hx])) h1 h2
      simp only [fixL, restL, if_pos h, List.length_cons, i1, true_and]
      refine ⟨i2, i3, fun i hi => ?_⟩
      cases i with
      | zero => exact ⟨-1, by simp, by simp, fun h2 => absurd h h2⟩
      | succ i => simpa using i4 i (by simpa using hi)
    · have hm : 0 ≤ min w r ∧ min w r ≤ r ∧ min w r ≤ 60 := by omega
      have hw2 : w64 (r - min w r) = r - min w r := w64_id (by omega) (by omega)
      obtain ⟨i1, i2, i3, i4⟩ := fix_ok ws (r - min w r) (fun x hx => hw x (by simp [hx])) (by omega) (by omega)
      simp only [fixL, restL, if_neg h, hw2, List.length_cons, i1, true_and]
      refine ⟨i2, i3, fun i hi => ?_⟩
      cases i with
      | zero => exact ⟨min w r, by simp, fun h2 => absurd h2 h, fun _ => ⟨hm.1, hm.2.2⟩⟩
      | succ i => simpa using i4 i (by simpa using hi)

def negs : List Int → Nat
  | [] => 0
  | s :: ss => (if s < 0 then 1 else 0) + negs ss
theorem part_range {r n : Int} (h0 : 0 ≤ r) (h1 : r ≤ 60) (hn : 1 ≤ n) (hn2 : n ≤ 1000000) : 0 ≤ part r n ∧ part r n ≤ r := by
  unfold part
  rw [w64_id (x := r + n) (by omega) (by omega), w64_id (x := r + n - 1) (by omega) (by omega)]
  have h2 : (r + n - 1).tdiv n = (r + n - 1) / n := Int.tdiv_eq_ediv_of_nonneg (by omega)
  have h3 : 0 ≤ (r + n - 1) / n := Int.ediv_nonneg (by omega) (by omega)
  have h4 : (r + n - 1) / n < r + 1 := Int.ediv_lt_of_lt_mul (by omega) (by
    have := Int.mul_le_mul_of_nonneg_left hn h0
    rw [Int.add_mul]; omega)
  rw [h2, w64_id (by omega) (by omega)]
  omega
theorem fill_ok : ∀ (ss : List Int) (r n : Int), (∀ s ∈ ss, s ≤ 60) → 0 ≤ r → r ≤ 60 → n = negs ss → ss.length ≤ 1000 → (fillL ss r n).length = ss.length ∧ ∀ s ∈ fillL ss r n, 0 ≤ s ∧ s ≤ 60
  | [], r, n, _, _, _, _, _ => ⟨rfl, by simp [fillL]⟩
  | s :: ss, r, n, hs, h1, h2, hn, hl => by
    have nn : ∀ ss : List Int, negs ss ≤ ss.length := fun ss => by
      induction ss with
      | nil => simp [negs]
      | cons s ss ih => simp only [negs, List.length_cons]; split <;> omega
    have := nn ss
    simp only [List.length_cons] at hl
    by_cases h : s < 0
    · simp only [negs, if_pos h] at hn
      have hp := part_range (r := r) (n := n) h1 h2 (by omega) (by omega)
      have w1 : w64 (r - part r n) = r - part r n := w64_id (by omega) (by omega)
      have w2 : w64 (n - 1) = n - 1 := w64_id (by omega) (by omega)
      obtain ⟨i1, i2⟩ := fill_ok ss (r - part r n) (n - 1) (fun x hx => hs x (by simp [hx])) (by omega) (by omega) (by omega) (by omega)
      simp only [fillL, if_pos h, w1, w2, List.length_cons, i1, true_and, List.mem_cons]
      rintro x (rfl | hx)
      · omega
      · exact i2 x hx
    · simp only [negs, if_neg h] at hn
      obtain ⟨i1, i2⟩ := fill_ok ss r n (fun x hx => hs x (by simp [hx])) h1 h2 (by omega) (by omega)
      simp only [fillL, if_neg h, List.length_cons, i1, true_and, List.mem_cons]
      rintro x (rfl | hx)
      · have := hs x (by simp); omega
      · exact i2 x hx
theorem open_ok : ∀ (ws : List Int) (r : Int) (m : Nat), (∀ w ∈ ws, 0 ≤ w ∧ w ≤ 60) → 0 ≤ r → r ≤ 60 → m + ws.length ≤ 1000 → openL ws m = ((m + negs (fixL ws r) : Nat) : Int)
  | [], r, m, _, _, _, _ => by simp [openL, fixL, negs]
  | w :: ws, r, m, hw, h1, h2, hl => by
    simp only [List.length_cons] at hl
    have hw0 := hw w (by simp)
    by_cases h : w = 0
    · simp only [openL, fixL, if_pos h, negs]
      rw [w64s (by omega), open_ok ws r (m + 1) (fun x hx => hw x (by simp [hx])) h1 h2 (by omega)]
      simp
      omega
    · have hw2 : w64 (r - min w r) = r - min w r := w64_id (by omega) (by omega)
      simp only [openL, fixL, if_neg h, negs, hw2]
      rw [open_ok ws (r - min w r) m (fun x hx => hw x (by simp [hx])) (by omega) (by omega) (by omega), if_neg (by omega)]
      simp
theorem shares_ok (ws : List Int) (r : Int) (hw : ∀ w ∈ ws, 0 ≤ w ∧ w ≤ 60) (h0 : 0 ≤ r) (h1 : r ≤ 60) (hl : ws.length ≤ 1000) : (shares ws r).length = ws.length ∧ ∀ s ∈ shares ws r, 0 ≤ s ∧ s ≤ 60 := by
  obtain ⟨i1, i2, i3, i4⟩ := fix_ok ws r hw h0 h1
  have ho := open_ok ws r 0 hw h0 h1 (by omega)
  simp only [Nat.zero_add] at ho
  rw [show ((0 : Nat) : Int) = 0 from rfl] at ho
  obtain ⟨j1, j2⟩ := fill_ok (fixL ws r) (restL ws r) (openL ws 0) (fun s hs => by
    obtain ⟨i, hi, rfl⟩ := List.getElem_of_mem hs
    obtain ⟨s, e1, e2, e3⟩ := i4 i (by omega)
    rw [List.getElem?_eq_getElem hi] at e1
    simp only [Option.some.injEq] at e1
    rw [e1]
    by_cases h : ws[i]'(by omega) = 0
    · rw [e2 h]; omega
    · exact (e3 h).2) i2 i3 ho (by omega)
  exact ⟨by rw [shares, j1, i1], j2⟩

/-- Looks that rules may give. -/
def Gv (rs : List TRule) : Prop := ∀ x ∈ rs, (0 ≤ x.Look ∧ x.Look ≤ 4) ∧ 0 ≤ x.Give ∧ x.Give ≤ 60
theorem scan_range {rs : List TRule} (hg : ∀ x ∈ rs, 0 ≤ x.Give ∧ x.Give ≤ 60) (t : TTree) (above : List Int) (l : Int) : ∀ (b g : Int), 0 ≤ g → g ≤ 60 → 0 ≤ scan t above l rs b g ∧ scan t above l rs b g ≤ 60 := by
  induction rs with
  | nil => intro b g h1 h2; exact ⟨h1, h2⟩
  | cons x xs ih =>
    intro b g h1 h2
    simp only [scan]
    split
    · have := hg x (by simp)
      exact ih (fun y hy => hg y (by simp [hy])) _ _ this.1 this.2
    · exact ih (fun y hy => hg y (by simp [hy])) _ _ h1 h2
theorem own_range {rs : List TRule} (hg : Gv rs) (t : TTree) (above : List Int) (mark : Int) (h1 : 0 ≤ mark) (h2 : mark ≤ 60) (i : Nat) : 0 ≤ (own rs t above mark).gd i ∧ (own rs t above mark).gd i ≤ 60 := by
  have hs := scan_range (fun x hx => (hg x hx).2) t above
  have all : ∀ x ∈ own rs t above mark, 0 ≤ x ∧ x ≤ 60 := by
    unfold own
    split
    · simp; omega
    · simp only [List.mem_cons, List.not_mem_nil, or_false, forall_eq_or_imp, forall_eq]
      exact ⟨hs 0 _ _ (by omega) (by omega), hs 1 _ _ (by omega) (by omega), hs 2 _ _ (by omega) (by omega), hs 3 _ _ (by omega) (by omega), hs 4 _ _ h1 h2⟩
  by_cases h : i < (own rs t above mark).length
  · rw [List.gd, List.getD_eq_getElem?_getD, List.getElem?_eq_getElem h]
    exact all _ (List.getElem_mem h)
  · rw [List.gd, List.getD_eq_getElem?_getD, List.getElem?_eq_none (by omega)]
    simp
theorem wish_range {rs : List TRule} (hg : Gv rs) (ks : List TTree) (above : List Int) (mark : Int) (h1 : 0 ≤ mark) (h2 : mark ≤ 60) : ∀ w ∈ wishOf rs ks above mark, 0 ≤ w ∧ w ≤ 60 := by
  intro w hw
  obtain ⟨k, _, rfl⟩ := List.mem_map.1 hw
  exact own_range hg k above mark h1 h2 0
theorem inner_range (o : List Int) (ho : ∀ i, 0 ≤ o.gd i ∧ o.gd i ≤ 60) (room : Int) (h0 : 0 ≤ room) (h1 : room ≤ 60) : 0 ≤ innerOf o room ∧ innerOf o room ≤ 60 ∧ 0 ≤ wideOf o room ∧ wideOf o room ≤ 60 := by
  have h2 := ho 2
  have h3 := ho 0
  have hw : 0 ≤ wideOf o room ∧ wideOf o room ≤ 60 := by unfold wideOf; split <;> omega
  unfold innerOf
  rw [w64_id (x := 2 * o.gd 2) (by omega) (by omega), w64_id (x := wideOf o room - 2 * o.gd 2) (by omega) (by omega)]
  omega
end Go.Fw.Law
