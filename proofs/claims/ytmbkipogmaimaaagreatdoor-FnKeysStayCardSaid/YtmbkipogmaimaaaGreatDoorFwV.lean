/- The framework, part V: in whatever order the operations of a region are done, the same is reached, if those that touch the same things are ordered. Conditions: none. -/
import Derived.Test.YtmbkipogmaimaaaGreatDoorFwU
namespace Go.Fw
open Go

theorem appl_key {ws : List (Res × Val)} {r : Res} : ∀ {v v' : Res → Val}, (∃ y ∈ ws, y.1 = r) ∨ v r = v' r → appl v ws r = appl v' ws r := by
  induction ws with
  | nil =>
    intro v v' h
    rcases h with ⟨y, h, _⟩ | h
    · simp at h
    · exact h
  | cons x ws ih =>
    intro v v' h
    obtain ⟨s, e⟩ := x
    refine ih ?_
    rcases h with ⟨y, hy, hr⟩ | h
    · rcases List.mem_cons.1 hy with rfl | hy
      · right; simp only at hr; simp [hr]
      · exact .inl ⟨y, hy, hr⟩
    · right
      by_cases hs : r = s
      · simp [hs]
      · simp [hs, h]

section
variable {n : Nat} {vi : Nat → Res → Val} {ws : Nat → List (Res × Val)} {R W : Nat → List Res} {B : Nat → Nat → Prop}

/-- What was reached when the operations of a set are done. -/
def Inv (n : Nat) (vi : Nat → Res → Val) (W : Nat → List Res) (S : Nat → Prop) (v : Res → Val) : Prop :=
  ∀ r k, k ≤ n → (∀ j, j < k → r ∈ W j → S j) → (∀ j, k ≤ j → j < n → r ∈ W j → ¬ S j) → v r = vi k r

theorem inv_step (hstep : ∀ i, i < n → vi (i + 1) = appl (vi i) (ws i)) (hw : ∀ i, i < n → Wr (ws i) (W i))
    (hB : ∀ i j, i < j → j < n → (∃ r, (r ∈ W i ∧ (r ∈ R j ∨ r ∈ W j)) ∨ (r ∈ R i ∧ r ∈ W j)) → B i j) {S : Nat → Prop} (hcl : ∀ i j, j < n → B i j → S j → S i) {v : Res → Val} (hI : Inv n vi W S v)
    {i : Nat} (hi : i < n) (hni : ¬ S i) (hpre : ∀ j, B j i → S j) : Agr v (vi i) (R i ++ W i) ∧ Inv n vi W (fun j => S j ∨ j = i) (appl v (ws i)) := by
  have agr : Agr v (vi i) (R i ++ W i) := by
    intro r hr
    refine hI r i (by omega) (fun j hj hrj => hpre j (hB j i hj hi ⟨r, ?_⟩)) (fun j hj hjn hrj hs => ?_)
    · rcases List.mem_append.1 hr with h | h
      · exact .inl ⟨hrj, .inl h⟩
      · exact .inl ⟨hrj, .inr h⟩
    · rcases Nat.eq_or_lt_of_le hj with rfl | hlt
      · exact hni hs
      · refine hni (hcl i j hjn (hB i j hlt hjn ⟨r, ?_⟩) hs)
        rcases List.mem_append.1 hr with h | h
        · exact .inr ⟨h, hrj⟩
        · exact .inl ⟨h, .inr hrj⟩
  refine ⟨agr, fun r k hk h1 h2 => ?_⟩
  by_cases hr : r ∈ W i
  · have hik : i < k := by
      refine Nat.lt_of_not_le fun h => ?_
      exact h2 i h hi hr (.inr rfl)
    have e1 : appl v (ws i) r = appl (vi i) (ws i) r := appl_key (.inr (agr r (List.mem_append.2 (.inr hr))))
    rw [e1, ← hstep i hi]
    -- nobody else writes it up to k
    have key : ∀ m, i + 1 + m ≤ k → vi (i + 1 + m) r = vi (i + 1) r := by
      intro m
      induction m with
      | zero => intro _; rfl
      | succ m ih =>
        intro hm
        rw [← ih (by omega), show i + 1 + (m + 1) = (i + 1 + m) + 1 by omega, hstep _ (by omega)]
        refine appl_not fun y hy e => ?_
        have hyw := hw _ (by omega) y hy
        rw [e] at hyw
        have hs := h1 (i + 1 + m) (by omega) hyw
        rcases hs with hs | hs
        · exact hni (hcl i _ (by omega) (hB i _ (by omega) (by omega) ⟨r, .inl ⟨hr, .inr hyw⟩⟩) hs)
        · omega
    rw [show k = i + 1 + (k - (i + 1)) by omega]
    exact (key _ (by omega)).symm
  · have e1 : appl v (ws i) r = v r := appl_not fun y hy e => hr (e ▸ hw i hi y hy)
    rw [e1]
    refine hI r k hk (fun j hj hrj => ?_) (fun j hj hjn hrj hs => h2 j hj hjn hrj (.inl hs))
    rcases h1 j hj hrj with h | h
    · exact h
    · exact absurd hrj (h ▸ hr)

theorem inv_zero {v : Res → Val} (h0 : v = vi 0) (hstep : ∀ i, i < n → vi (i + 1) = appl (vi i) (ws i)) (hw : ∀ i, i < n → Wr (ws i) (W i)) : Inv n vi W (fun _ => False) v := by
  intro r k hk h1 h2
  subst h0
  induction k with
  | zero => rfl
  | succ k ih =>
    rw [hstep k (by omega), appl_not (fun y hy e => h1 k (by omega) (by have := hw k (by omega) y hy; rw [e] at this; exact this))]
    exact ih (by omega) (fun j hj hr => h1 j (by omega) hr) (fun j hj hjn hr hs => hs)

theorem inv_all {S : Nat → Prop} {v : Res → Val} (hI : Inv n vi W S v) (hall : ∀ j, j < n → S j) : v = vi n :=
  funext fun r => hI r n (Nat.le_refl _) (fun j hj _ => hall j hj) (fun j hj hjn _ => absurd hjn (by omega))
end

/-- Whom each operation waits for, through others too. -/
def closeA : List (List Nat) → List (List Nat) → List (List Nat)
  | acc, [] => acc
  | acc, ts :: rest => closeA (acc ++ [ts ++ ts.flatMap fun t => acc.getD t []]) rest

theorem closeA_spec {S : Nat → Prop} : ∀ (rest acc : List (List Nat)) (full : List (List Nat)), full.drop acc.length = rest →
    (∀ j, j < acc.length → ∀ i ∈ acc.getD j [], ∀ (_ : ∀ k, k < full.length → S k → ∀ t ∈ full.getD k [], S t), (∀ t ∈ full.getD j [], S t) → S i) →
    (∀ j, j < full.length → ∀ t ∈ full.getD j [], t < j) →
    ∀ j, j < full.length → ∀ i ∈ (closeA acc rest).getD j [], ∀ (_ : ∀ k, k < full.length → S k → ∀ t ∈ full.getD k [], S t), (∀ t ∈ full.getD j [], S t) → S i
  | [], acc, full, hd, hacc, _, j, hj, i, hi, hcl, hp => by
    have : full.length ≤ acc.length := by
      have := congrArg List.length hd
      simp at this
      omega
    exact hacc j (by omega) i hi hcl hp
  | ts :: rest, acc, full, hd, hacc, hlt, j, hj, i, hi, hcl, hp => by
    refine closeA_spec rest (acc ++ [ts ++ ts.flatMap fun t => acc.getD t []]) full ?_ ?_ hlt j hj i hi hcl hp
    · simp only [List.length_append, List.length_cons, List.length_nil]
      rw [← List.drop_drop, hd]
      rfl
    · intro m hm k hk hcl' hp'
      have hts : full.getD acc.length [] = ts := by
        have : (full.drop acc.length)[0]? = some ts := by rw [hd]; rfl
        rw [List.getElem?_drop] at this
        simp at this
        simp [List.getD, this]
      have hal : acc.length < full.length := by
        refine Nat.lt_of_not_le fun h => ?_
        rw [List.drop_eq_nil_of_le h] at hd
        simp at hd
      by_cases hma : m < acc.length
      · rw [List.getD_eq_getElem?_getD, List.getElem?_append_left hma, ← List.getD_eq_getElem?_getD] at hk
        exact hacc m hma k hk hcl' hp'
      · have : m = acc.length := by simp at hm; omega
        subst this
        rw [List.getD_eq_getElem?_getD, List.getElem?_append_right (Nat.le_refl _)] at hk
        simp at hk
        rw [hts] at hp'
        rcases hk with hk | ⟨t, ht, hk⟩
        · exact hp' k hk
        · have htl : t < acc.length := hlt acc.length hal t (by rw [hts]; exact ht)
          refine hacc t htl k (by simpa [List.getD] using hk) hcl' (hcl' t (by omega) (hp' t ht))
end Go.Fw
