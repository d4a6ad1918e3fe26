/- The framework, part Zb: deeper calls and more fuel only say more; the limit of all depths; a machine with a stack that says what the interpreter says. The framework, part Zc: what is left of a call from a place in its code on; functions and places as functions on plain data. Conditions: none. -/
import Derived.Test.YtjldolmokfnkoaaGreatDoorFwZ
namespace Go.Fw
open Go

def Sub (Γ Γ' : Gam) : Prop := ∀ f ps o, Γ f ps = some o → Γ' f ps = some o

theorem fop_mono {Γ Γ' : Gam} (hs : Sub Γ Γ') {v : Res → Val} {x : IOp} {ws : List (Res × Val)} (h : fop Γ v x = some ws) : fop Γ' v x = some ws := by
  cases x with
  | call d f as opn =>
    simp only [fop] at h ⊢
    obtain ⟨⟨ps, w1, bs⟩, h1, h2⟩ := ob_some h
    obtain ⟨out, h3, h4⟩ := ob_some h2
    rw [h1]
    simp only [ob]
    rw [hs _ _ _ h3]
    exact h4
  | _ => exact h
theorem rop_mono {Γ Γ' : Gam} (hs : Sub Γ Γ') {v : Res → Val} {r : ROp} {ws : List (Res × Val)} (h : rop Γ v r = some ws) : rop Γ' v r = some ws := by
  obtain ⟨g, x⟩ := r
  cases g with
  | none => exact fop_mono hs h
  | some y =>
    obtain ⟨s, want⟩ := y
    simp only [rop] at h ⊢
    split at h <;> try (simp at h; done)
    · split at h
      · rename_i hb; rw [if_pos hb]; exact fop_mono hs h
      · rename_i hb; rw [if_neg hb]; exact h
    · exact h
theorem evR_mono {Γ Γ' : Gam} (hs : Sub Γ Γ') : ∀ {rs : List ROp} {σ σ' : ASt}, evR Γ rs σ = some σ' → evR Γ' rs σ = some σ'
  | [], σ, σ', h => h
  | r :: rs, σ, σ', h => by
    obtain ⟨ws, h1, h2⟩ := ob_some h
    simp only [evR, rop_mono hs h1, ob]
    exact evR_mono hs h2
theorem ev_mono {Γ Γ' : Gam} (hs : Sub Γ Γ') : ∀ {n m : Nat} {c : Ir} {σ : ASt} {r : Ex × ASt}, n ≤ m → ev Γ n c σ = some r → ev Γ' m c σ = some r
  | 0, m, c, σ, r, hm, h => by simp [ev] at h
  | n + 1, 0, c, σ, r, hm, h => by omega
  | n + 1, m + 1, c, σ, r, hm, h => by
    have hm' : n ≤ m := by omega
    cases c with
    | skip => exact h
    | region rs =>
      obtain ⟨σ', h1, h2⟩ := ob_some h
      simp only [ev, evR_mono hs h1, ob]
      exact h2
    | seq a b =>
      simp only [ev] at h ⊢
      split at h
      · rename_i σ' h1
        rw [ev_mono hs hm' h1]
        exact ev_mono hs hm' h
      · rename_i h1
        rw [ev_mono hs hm' h]
        split
        · rename_i σ' e
          rw [Option.some.injEq] at e
          subst e
          exact absurd h (h1 σ')
        · rfl
    | cond x a b =>
      simp only [ev] at h ⊢
      split at h
      · exact ev_mono hs hm' h
      · exact ev_mono hs hm' h
      · simp at h
    | block id a =>
      simp only [ev] at h ⊢
      split at h
      · rename_i j σ' h1
        rw [ev_mono hs hm' h1]
        exact h
      · rename_i h1
        rw [ev_mono hs hm' h]
        split
        · rename_i j σ' e
          rw [Option.some.injEq] at e
          subst e
          exact absurd h (h1 j σ')
        · rfl
    | loop a =>
      simp only [ev] at h ⊢
      split at h
      · rename_i σ' h1
        rw [ev_mono hs hm' h1]
        exact ev_mono hs hm' h
      · rename_i h1
        rw [ev_mono hs hm' h]
        split
        · rename_i σ' e
          rw [Option.some.injEq] at e
          subst e
          exact absurd h (h1 σ')
        · rfl
    | exit id => exact h
    | ret => exact h
    | gh g k =>
      obtain ⟨σ', h1, h2⟩ := ob_some h
      simp only [ev, h1, ob]
      exact ev_mono hs hm' h2

theorem runF_mono {Γ Γ' : Gam} (hs : Sub Γ Γ') {n m : Nat} (hm : n ≤ m) {fi : Fi} {ps : List PA} {o : AOut} (h : runF Γ n fi ps = some o) : runF Γ' m fi ps = some o := by
  unfold runF at h ⊢
  split at h <;> try (simp at h; done)
  rename_i hp
  rw [if_pos hp]
  split at h <;> try (simp at h; done)
  · rename_i σ h1; rw [ev_mono hs hm h1]; exact h
  · rename_i σ h1; rw [ev_mono hs hm h1]; exact h
theorem callN_mono (T : Tab) : ∀ {n m : Nat}, n ≤ m → Sub (callN T n) (callN T m)
  | 0, m, hm => fun f ps o h => by simp [callN] at h
  | n + 1, 0, hm => by omega
  | n + 1, m + 1, hm => fun f ps o h => by
    simp only [callN] at h ⊢
    split
    · rename_i fi hf
      rw [hf] at h
      exact runF_mono (callN_mono T (by omega)) (by omega) h
    · rename_i hf
      rw [hf] at h
      exact h

open Classical in
/-- What calls of some depth say. -/
noncomputable def Lim (T : Tab) : Gam := fun f ps => if h : ∃ o, ∃ n, callN T n f ps = some o then some h.choose else none
theorem Lim_iff {T : Tab} {f : FuncId} {ps : List PA} {o : AOut} : Lim T f ps = some o ↔ ∃ n, callN T n f ps = some o := by
  unfold Lim
  constructor
  · intro h
    split at h
    · rename_i hh
      rw [Option.some.injEq] at h
      exact h ▸ hh.choose_spec
    · simp at h
  · rintro ⟨n, hn⟩
    have hh : ∃ o, ∃ n, callN T n f ps = some o := ⟨o, n, hn⟩
    rw [dif_pos hh]
    obtain ⟨m, hm⟩ := hh.choose_spec
    have h1 := callN_mono T (Nat.le_max_left n m) _ _ _ hn
    have h2 := callN_mono T (Nat.le_max_right n m) _ _ _ hm
    rw [h1] at h2
    exact h2.symm
theorem Lim_sat {P : Program} {I : Kpt} {T : Tab} (h : ∀ n, Sat P I (callN T n)) : Sat P I (Lim T) := fun f ps out ho => by
  obtain ⟨n, hn⟩ := Lim_iff.1 ho
  exact h n f ps out hn
theorem fop_cont {T : Tab} {v : Res → Val} {x : IOp} {ws : List (Res × Val)} (h : fop (Lim T) v x = some ws) : ∃ n, fop (callN T n) v x = some ws := by
  cases x with
  | call d f as opn =>
    simp only [fop] at h ⊢
    obtain ⟨⟨ps, w1, bs⟩, h1, h2⟩ := ob_some h
    obtain ⟨out, h3, h4⟩ := ob_some h2
    obtain ⟨n, hn⟩ := Lim_iff.1 h3
    refine ⟨n, ?_⟩
    rw [h1]
    simp only [ob]
    rw [hn]
    exact h4
  | _ => exact ⟨0, h⟩
theorem rop_cont {T : Tab} {v : Res → Val} {r : ROp} {ws : List (Res × Val)} (h : rop (Lim T) v r = some ws) : ∃ n, rop (callN T n) v r = some ws := by
  obtain ⟨g, x⟩ := r
  cases g with
  | none => exact fop_cont h
  | some y =>
    obtain ⟨s, want⟩ := y
    simp only [rop] at h ⊢
    split at h <;> try (simp at h; done)
    · split at h
      · rename_i hb; simp only [if_pos hb]; exact fop_cont h
      · rename_i hb; simp only [if_neg hb]; exact ⟨0, h⟩
    · exact ⟨0, h⟩
theorem evR_cont {T : Tab} : ∀ {rs : List ROp} {σ σ' : ASt}, evR (Lim T) rs σ = some σ' → ∃ n, evR (callN T n) rs σ = some σ'
  | [], σ, σ', h => ⟨0, h⟩
  | r :: rs, σ, σ', h => by
    obtain ⟨ws, h1, h2⟩ := ob_some h
    obtain ⟨n, hn⟩ := rop_cont h1
    obtain ⟨m, hm⟩ := evR_cont h2
    refine ⟨max n m, ?_⟩
    simp only [evR, rop_mono (callN_mono T (Nat.le_max_left n m)) hn, ob]
    exact evR_mono (callN_mono T (Nat.le_max_right n m)) hm

theorem ev_cont' {T : Tab} : ∀ {k : Nat} {c : Ir} {σ : ASt} {r : Ex × ASt}, ev (Lim T) k c σ = some r → ∃ n, ev (callN T n) k c σ = some r
  | 0, c, σ, r, h => by simp [ev] at h
  | k + 1, c, σ, r, h => by
    cases c with
    | skip => exact ⟨0, h⟩
    | exit id => exact ⟨0, h⟩
    | ret => exact ⟨0, h⟩
    | region rs =>
      obtain ⟨σ', h1, h2⟩ := ob_some h
      obtain ⟨n, hn⟩ := evR_cont h1
      exact ⟨n, by simp only [ev, hn, ob]; exact h2⟩
    | gh g x =>
      obtain ⟨σ', h1, h2⟩ := ob_some h
      obtain ⟨n, hn⟩ := ev_cont' h2
      exact ⟨n, by simp only [ev, h1, ob]; exact hn⟩
    | cond x a b =>
      simp only [ev] at h ⊢
      split at h
      · exact ev_cont' h
      · exact ev_cont' h
      · simp at h
    | seq a b =>
      simp only [ev] at h
      split at h
      · rename_i σ' h1
        obtain ⟨n, hn⟩ := ev_cont' h1
        obtain ⟨m, hm⟩ := ev_cont' h
        refine ⟨max n m, ?_⟩
        simp only [ev, ev_mono (callN_mono T (Nat.le_max_left n m)) (Nat.le_refl _) hn]
        exact ev_mono (callN_mono T (Nat.le_max_right n m)) (Nat.le_refl _) hm
      · rename_i h1
        obtain ⟨n, hn⟩ := ev_cont' h
        refine ⟨n, ?_⟩
        simp only [ev, hn]
        split
        · rename_i σ' e
          rw [Option.some.injEq] at e
          subst e
          exact absurd h (h1 σ')
        · rfl
    | block id a =>
      simp only [ev] at h
      split at h
      · rename_i j σ' h1
        obtain ⟨n, hn⟩ := ev_cont' h1
        exact ⟨n, by simp only [ev, hn]; exact h⟩
      · rename_i h1
        obtain ⟨n, hn⟩ := ev_cont' h
        refine ⟨n, ?_⟩
        simp only [ev, hn]
        split
        · rename_i j σ' e
          rw [Option.some.injEq] at e
          subst e
          exact absurd h (h1 j σ')
        · rfl
    | loop a =>
      simp only [ev] at h
      split at h
      · rename_i σ' h1
        obtain ⟨n, hn⟩ := ev_cont' h1
        obtain ⟨m, hm⟩ := ev_cont' h
        refine ⟨max n m, ?_⟩
        simp only [ev, ev_mono (callN_mono T (Nat.le_max_left n m)) (Nat.le_refl _) hn]
        exact ev_mono (callN_mono T (Nat.le_max_right n m)) (Nat.le_refl _) hm
      · rename_i h1
        obtain ⟨n, hn⟩ := ev_cont' h
        refine ⟨n, ?_⟩
        simp only [ev, hn]
        split
        · rename_i σ' e
          rw [Option.some.injEq] at e
          subst e
          exact absurd h (h1 σ')
        · rfl

/-! ### A machine with a stack -/
inductive Ctl where
  | c (x : Ir)
  | d (e : Ex)
inductive Fr where
  | s (b : Ir)
  | b (id : Nat)
  | l (a : Ir)

def go (Γ : Gam) : Nat → Ctl → List Fr → ASt → Option (Ex × ASt)
  | 0, _, _, _ => none
  | _ + 1, .d e, [], σ => some (e, σ)
  | n + 1, .d .norm, .s b :: K, σ => go Γ n (.c b) K σ
  | n + 1, .d e, .s _ :: K, σ => go Γ n (.d e) K σ
  | n + 1, .d (.exit j), .b id :: K, σ => if j = id then go Γ n (.d .norm) K σ else go Γ n (.d (.exit j)) K σ
  | n + 1, .d e, .b _ :: K, σ => go Γ n (.d e) K σ
  | n + 1, .d .norm, .l a :: K, σ => go Γ n (.c (.loop a)) K σ
  | n + 1, .d e, .l _ :: K, σ => go Γ n (.d e) K σ
  | n + 1, .c .skip, K, σ => go Γ n (.d .norm) K σ
  | n + 1, .c (.region rs), K, σ => ob (evR Γ rs σ) fun σ' => go Γ n (.d .norm) K σ'
  | n + 1, .c (.seq a b), K, σ => go Γ n (.c a) (.s b :: K) σ
  | n + 1, .c (.cond x a b), K, σ => match sca σ.val x with
    | some (.bool true) => go Γ n (.c a) K σ
    | some (.bool false) => go Γ n (.c b) K σ
    | _ => none
  | n + 1, .c (.block id a), K, σ => go Γ n (.c a) (.b id :: K) σ
  | n + 1, .c (.loop a), K, σ => go Γ n (.c a) (.l a :: K) σ
  | n + 1, .c (.exit id), K, σ => go Γ n (.d (.exit id)) K σ
  | n + 1, .c .ret, K, σ => go Γ n (.d .ret) K σ
  | n + 1, .c (.gh g k), K, σ => ob (gh g σ) fun σ' => go Γ n (.c k) K σ'

theorem go_ev {Γ : Gam} : ∀ (n : Nat) {x : Ir} {K : List Fr} {σ : ASt} {r : Ex × ASt}, go Γ n (.c x) K σ = some r →
    ∃ m e σ1 n', n' < n ∧ ev Γ m x σ = some (e, σ1) ∧ go Γ n' (.d e) K σ1 = some r
  | 0, x, K, σ, r, h => by simp [go] at h
  | n + 1, x, K, σ, r, h => by
    cases x with
    | skip => exact ⟨1, .norm, σ, n, by omega, rfl, h⟩
    | region rs =>
      obtain ⟨σ', h1, h2⟩ := ob_some h
      exact ⟨1, .norm, σ', n, by omega, by simp [ev, h1, ob], h2⟩
    | exit id => exact ⟨1, .exit id, σ, n, by omega, rfl, h⟩
    | ret => exact ⟨1, .ret, σ, n, by omega, rfl, h⟩
    | gh g k =>
      obtain ⟨σ', h1, h2⟩ := ob_some h
      obtain ⟨m, e, σ1, n', k1, k2, k3⟩ := go_ev n h2
      exact ⟨m + 1, e, σ1, n', by omega, by simp only [ev, h1, ob]; exact k2, k3⟩
    | cond c a b =>
      simp only [go] at h
      split at h
      · rename_i hc
        obtain ⟨m, e, σ1, n', k1, k2, k3⟩ := go_ev n h
        exact ⟨m + 1, e, σ1, n', by omega, by simp only [ev, hc]; exact k2, k3⟩
      · rename_i hc
        obtain ⟨m, e, σ1, n', k1, k2, k3⟩ := go_ev n h
        exact ⟨m + 1, e, σ1, n', by omega, by simp only [ev, hc]; exact k2, k3⟩
      · simp at h
    | seq a b =>
      simp only [go] at h
      obtain ⟨m, e, σ1, n', k1, k2, k3⟩ := go_ev n h
      have stop : (∀ σ', (e, σ1) ≠ (Ex.norm, σ')) → go Γ n' (.d e) (.s b :: K) σ1 = some r → ∃ m e σ1 n', n' < n + 1 ∧ ev Γ m (.seq a b) σ = some (e, σ1) ∧ go Γ n' (.d e) K σ1 = some r := by
        intro hne hk
        cases n' with
        | zero => simp [go] at hk
        | succ n' =>
          refine ⟨m + 1, e, σ1, n', by omega, ?_, ?_⟩
          · simp only [ev, k2]; cases e <;> first | rfl | exact absurd rfl (hne σ1)
          · cases e <;> first | exact hk | exact absurd rfl (hne σ1)
      cases e with
      | norm =>
        cases n' with
        | zero => simp [go] at k3
        | succ n' =>
          simp only [go] at k3
          obtain ⟨m2, e2, σ2, n2, j1, j2, j3⟩ := go_ev n' k3
          refine ⟨max m m2 + 1, e2, σ2, n2, by omega, ?_, j3⟩
          simp only [ev, ev_mono (fun _ _ _ h => h) (Nat.le_max_left m m2) k2]
          exact ev_mono (fun _ _ _ h => h) (Nat.le_max_right m m2) j2
      | exit id => exact stop (by simp) k3
      | ret => exact stop (by simp) k3
    | block id a =>
      simp only [go] at h
      obtain ⟨m, e, σ1, n', k1, k2, k3⟩ := go_ev n h
      cases n' with
      | zero => simp [go] at k3
      | succ n' =>
        cases e with
        | norm => exact ⟨m + 1, .norm, σ1, n', by omega, by simp only [ev, k2], k3⟩
        | ret => exact ⟨m + 1, .ret, σ1, n', by omega, by simp only [ev, k2], k3⟩
        | exit j =>
          simp only [go] at k3
          by_cases hj : j = id
          · rw [if_pos hj] at k3
            exact ⟨m + 1, .norm, σ1, n', by omega, by simp only [ev, k2, if_pos hj], k3⟩
          · rw [if_neg hj] at k3
            exact ⟨m + 1, .exit j, σ1, n', by omega, by simp only [ev, k2, if_neg hj], k3⟩
    | loop a =>
      simp only [go] at h
      obtain ⟨m, e, σ1, n', k1, k2, k3⟩ := go_ev n h
      cases n' with
      | zero => simp [go] at k3
      | succ n' =>
        cases e with
        | norm =>
          simp only [go] at k3
          obtain ⟨m2, e2, σ2, n2, j1, j2, j3⟩ := go_ev n' k3
          refine ⟨max m m2 + 1, e2, σ2, n2, by omega, ?_, j3⟩
          simp only [ev, ev_mono (fun _ _ _ h => h) (Nat.le_max_left m m2) k2]
          exact ev_mono (fun _ _ _ h => h) (Nat.le_max_right m m2) j2
        | ret => exact ⟨m + 1, .ret, σ1, n', by omega, by simp only [ev, k2], k3⟩
        | exit j => exact ⟨m + 1, .exit j, σ1, n', by omega, by simp only [ev, k2], k3⟩
termination_by n => n

theorem go_top {Γ : Gam} {n : Nat} {x : Ir} {σ : ASt} {r : Ex × ASt} (h : go Γ n (.c x) [] σ = some r) : ∃ m, ev Γ m x σ = some r := by
  obtain ⟨m, e, σ1, n', k1, k2, k3⟩ := go_ev n h
  cases n' with
  | zero => simp [go] at k3
  | succ n' =>
    simp only [go, Option.some.injEq] at k3
    exact ⟨m, k3 ▸ k2⟩
theorem go_mono {Γ : Gam} : ∀ {n m : Nat} {c : Ctl} {K : List Fr} {σ : ASt} {r : Ex × ASt}, n ≤ m → go Γ n c K σ = some r → go Γ m c K σ = some r
  | 0, m, c, K, σ, r, hm, h => by simp [go] at h
  | n + 1, 0, c, K, σ, r, hm, h => by omega
  | n + 1, m + 1, c, K, σ, r, hm, h => by
    have hm' : n ≤ m := by omega
    cases c with
    | d e =>
      cases K with
      | nil => simpa [go] using h
      | cons f K =>
        cases f <;> cases e <;> simp only [go] at h ⊢ <;> first | exact go_mono hm' h | (split at h <;> rename_i hj <;> first | (rw [if_pos hj]; exact go_mono hm' h) | (rw [if_neg hj]; exact go_mono hm' h))
    | c x =>
      cases x <;> simp only [go] at h ⊢
      case cond =>
        split at h
        · exact go_mono hm' h
        · exact go_mono hm' h
        · simp at h
      case region =>
        obtain ⟨σ', h1, h2⟩ := ob_some h
        rw [h1]
        exact go_mono hm' h2
      case gh =>
        obtain ⟨σ', h1, h2⟩ := ob_some h
        rw [h1]
        exact go_mono hm' h2
      all_goals exact go_mono hm' h
end Go.Fw
namespace Go.Fw
open Go

def obP {α : Type} : Option α → (α → Prop) → Prop
  | some a, f => f a
  | none, _ => False
@[congr] theorem ob_congr1 {α β : Type} {x y : Option α} {f : α → Option β} (h : x = y) : ob x f = ob y f := by rw [h]
@[congr] theorem obP_congr1 {α : Type} {x y : Option α} {f : α → Prop} (h : x = y) : obP x f = obP y f := by rw [h]
theorem ob_some' {α β : Type} (a : α) (f : α → Option β) : ob (some a) f = f a := rfl
theorem obP_some {α : Type} (a : α) (f : α → Prop) : obP (some a) f = f a := rfl

def cb : Option AC → Prop → Prop → Prop
  | some (.bool true), p, _ => p
  | some (.bool false), _, q => q
  | _, _, _ => False
@[congr] theorem cb_congr1 {x y : Option AC} {p q : Prop} (h : x = y) : cb x p q = cb y p q := by rw [h]
theorem cb_true (p q : Prop) : cb (some (.bool true)) p q = p := rfl
theorem cb_false (p q : Prop) : cb (some (.bool false)) p q = q := rfl

@[congr] theorem evR_congr1 {Γ : Gam} {rs : List ROp} {σ σ' : ASt} (h : σ = σ') : evR Γ rs σ = evR Γ rs σ' := by rw [h]

def extsB (v : Res → Val) : List Res → Option (List (List AC))
  | [] => some []
  | .b n :: ns => (match v (.b n) with
    | .b cs => if clnL cs then ob (extsB v ns) fun es => some (cs :: es) else none
    | _ => none)
  | .t n :: ns => (match v (.t n) with
    | .t [] (.pl false [c]) => if clnL [c] then ob (extsB v ns) fun es => some ([c] :: es) else none
    | _ => none)
  | .v _ :: _ => none
theorem extsOf_B (v : Res → Val) : ∀ (k : Nat) (ps : List PA), extsOf v k ps = extsB v (backsOf k ps)
  | k, [] => rfl
  | k, p :: ps => by
    cases p with
    | box cs => simp only [extsOf, backsOf, extsB, extsOf_B v (k + 1) ps]; rfl
    | io c => simp only [extsOf, backsOf, extsB, extsOf_B v (k + 1) ps]; rfl
    | _ => exact extsOf_B v (k + 1) ps
def resB : Res → Res → Bool
  | .t a, .t b => a == b
  | .b a, .b b => a == b
  | .v _, .v _ => true
  | _, _ => false
theorem resB_ne {a b : Res} (h : resB a b = false) : a ≠ b := by
  rintro rfl
  cases a <;> simp [resB] at h
def resIn (r : Res) : List Res → Bool
  | [] => false
  | s :: rs => resB r s || resIn r rs
theorem resIn_not {r : Res} : ∀ {rs : List Res}, resIn r rs = false → r ∉ rs
  | [], _ => by simp
  | s :: rs, h => by
    simp only [resIn, Bool.or_eq_false_iff] at h
    intro hm
    rcases List.mem_cons.1 hm with rfl | hm
    · exact resB_ne h.1 rfl
    · exact resIn_not h.2 hm
def ndp : List Res → Bool
  | [] => true
  | r :: rs => !resIn r rs && ndp rs
theorem ndp_nodup : ∀ {rs : List Res}, ndp rs = true → rs.Nodup
  | [], _ => List.nodup_nil
  | r :: rs, h => by
    simp only [ndp, Bool.and_eq_true, Bool.not_eq_true'] at h
    exact List.nodup_cons.2 ⟨resIn_not h.1, ndp_nodup h.2⟩
def finB (σ : ASt) (ress : List RS) (bx : List Res) : Option AOut :=
  ob (outsOf σ.val ress) fun rs => ob (extsB σ.val bx) fun es =>
    if ndp (rs.map (·.1) ++ bx) = true then some { tv := outTV (rs.map (·.2)), exts := es } else none
theorem finish_B {σ : ASt} {ress : List RS} {ps : List PA} {o : AOut} (h : finB σ ress (backsOf 0 ps) = some o) : finish σ ress ps = some o := by
  unfold finB at h
  obtain ⟨rs, h1, h2⟩ := ob_some h
  obtain ⟨es, h3, h4⟩ := ob_some h2
  try dsimp only at h4
  split at h4 <;> simp only [Option.some.injEq, reduceCtorEq] at h4
  rename_i hn
  subst h4
  have hn' := ndp_nodup hn
  simp only [finish, h1, ob, extsOf_B, h3, if_pos hn']

def Done (Γ : Gam) (R : List RS) (bx : List Res) (c : Ctl) (K : List Fr) (σ : ASt) (o : AOut) : Prop :=
  ∃ n e σ', go Γ n c K σ = some (e, σ') ∧ (e = .norm ∨ e = .ret) ∧ finB σ' R bx = some o

section
variable {Γ : Gam} {R : List RS} {bx : List Res} {K : List Fr} {σ : ASt} {o : AOut}

@[congr] theorem Done_congr1 {c c' : Ctl} {σ' : ASt} (hc : c = c') (h : σ = σ') : Done Γ R bx c K σ o = Done Γ R bx c' K σ' o := by rw [h, hc]
theorem D_start {c c' : Ir} (h : c = c') (k : Done Γ R bx (.c c') K σ o) : Done Γ R bx (.c c) K σ o := h ▸ k

theorem D_step {c c' : Ctl} {K' : List Fr} {σ' : ASt} (h : ∀ n, go Γ (n + 1) c K σ = go Γ n c' K' σ') : Done Γ R bx c K σ o = Done Γ R bx c' K' σ' o := by
  refine propext ⟨?_, ?_⟩
  · rintro ⟨n, e, σ1, h1, h2⟩
    cases n with
    | zero => simp [go] at h1
    | succ n => exact ⟨n, e, σ1, (h n).symm.trans h1, h2⟩
  · rintro ⟨n, e, σ1, h1, h2⟩
    exact ⟨n + 1, e, σ1, (h n).trans h1, h2⟩
theorem D_skip : Done Γ R bx (.c .skip) K σ o = Done Γ R bx (.d .norm) K σ o := D_step fun _ => rfl
theorem D_seq {a b : Ir} : Done Γ R bx (.c (.seq a b)) K σ o = Done Γ R bx (.c a) (.s b :: K) σ o := D_step fun _ => rfl
theorem D_block {i : Nat} {a : Ir} : Done Γ R bx (.c (.block i a)) K σ o = Done Γ R bx (.c a) (.b i :: K) σ o := D_step fun _ => rfl
theorem D_loop {a : Ir} : Done Γ R bx (.c (.loop a)) K σ o = Done Γ R bx (.c a) (.l a :: K) σ o := D_step fun _ => rfl
theorem D_exit {i : Nat} : Done Γ R bx (.c (.exit i)) K σ o = Done Γ R bx (.d (.exit i)) K σ o := D_step fun _ => rfl
theorem D_ret : Done Γ R bx (.c .ret) K σ o = Done Γ R bx (.d .ret) K σ o := D_step fun _ => rfl
theorem D_ns {b : Ir} : Done Γ R bx (.d .norm) (.s b :: K) σ o = Done Γ R bx (.c b) K σ o := D_step fun _ => rfl
theorem D_nb {i : Nat} : Done Γ R bx (.d .norm) (.b i :: K) σ o = Done Γ R bx (.d .norm) K σ o := D_step fun _ => rfl
theorem D_nl {a : Ir} : Done Γ R bx (.d .norm) (.l a :: K) σ o = Done Γ R bx (.c (.loop a)) K σ o := D_step fun _ => rfl
theorem D_es {j : Nat} {b : Ir} : Done Γ R bx (.d (.exit j)) (.s b :: K) σ o = Done Γ R bx (.d (.exit j)) K σ o := D_step fun _ => rfl
theorem D_el {j : Nat} {a : Ir} : Done Γ R bx (.d (.exit j)) (.l a :: K) σ o = Done Γ R bx (.d (.exit j)) K σ o := D_step fun _ => rfl
theorem D_eb (j : Nat) : Done Γ R bx (.d (.exit j)) (.b j :: K) σ o = Done Γ R bx (.d .norm) K σ o := D_step fun _ => by simp [go]
theorem D_eb' {i j : Nat} (h : (j == i) = false) : Done Γ R bx (.d (.exit j)) (.b i :: K) σ o = Done Γ R bx (.d (.exit j)) K σ o := D_step fun _ => by simp [go, show j ≠ i by simpa using h]
theorem D_end : Done Γ R bx (.d .norm) [] σ o = (finB σ R bx = some o) := by
  refine propext ⟨?_, fun h => ⟨1, .norm, σ, rfl, .inl rfl, h⟩⟩
  rintro ⟨n, e, σ1, h1, h2, h3⟩
  cases n with
  | zero => simp [go] at h1
  | succ n => simp only [go, Option.some.injEq, Prod.mk.injEq] at h1; obtain ⟨rfl, rfl⟩ := h1; exact h3
theorem D_rend : ∀ {K : List Fr}, Done Γ R bx (.d .ret) K σ o = (finB σ R bx = some o)
  | [] => by
    refine propext ⟨?_, fun h => ⟨1, .ret, σ, rfl, .inr rfl, h⟩⟩
    rintro ⟨n, e, σ1, h1, h2, h3⟩
    cases n with
    | zero => simp [go] at h1
    | succ n => simp only [go, Option.some.injEq, Prod.mk.injEq] at h1; obtain ⟨rfl, rfl⟩ := h1; exact h3
  | f :: K => by
    rw [← D_rend (K := K)]
    cases f <;> exact D_step fun _ => rfl
theorem D_region {rs : List ROp} : Done Γ R bx (.c (.region rs)) K σ o = obP (evR Γ rs σ) fun σ' => Done Γ R bx (.d .norm) K σ' o := by
  cases h : evR Γ rs σ with
  | some σ' => exact D_step fun n => by simp [go, h, ob]
  | none =>
    refine propext ⟨?_, fun h => h.elim⟩
    rintro ⟨n, e, σ1, h1, _⟩
    cases n <;> simp [go, h, ob] at h1
theorem D_gh {g : Gh} {k : Ir} : Done Γ R bx (.c (.gh g k)) K σ o = obP (gh g σ) fun σ' => Done Γ R bx (.c k) K σ' o := by
  cases h : gh g σ with
  | some σ' => exact D_step fun n => by simp [go, h, ob]
  | none =>
    refine propext ⟨?_, fun h => h.elim⟩
    rintro ⟨n, e, σ1, h1, _⟩
    cases n <;> simp [go, h, ob] at h1
theorem D_cond {x : Opr} {a b : Ir} : Done Γ R bx (.c (.cond x a b)) K σ o = cb (sca σ.val x) (Done Γ R bx (.c a) K σ o) (Done Γ R bx (.c b) K σ o) := by
  have no : (∀ b, sca σ.val x ≠ some (.bool b)) → ¬ Done Γ R bx (.c (.cond x a b)) K σ o := by
    rintro h ⟨n, e, σ1, h1, _⟩
    cases n with
    | zero => simp [go] at h1
    | succ n =>
      simp only [go] at h1
      split at h1
      · rename_i hh; exact h _ hh
      · rename_i hh; exact h _ hh
      · simp at h1
  unfold cb
  split
  · rename_i h; exact D_step fun n => by simp [go, h]
  · rename_i h; exact D_step fun n => by simp [go, h]
  · rename_i h1 h2; exact propext ⟨fun h => (no (fun b => by cases b; exact h2; exact h1) h).elim, fun h => h.elim⟩

theorem Done.det {c : Ctl} {o o' : AOut} (h : Done Γ R bx c K σ o) (k : Done Γ R bx c K σ o') : o = o' := by
  obtain ⟨n, e, s, h1, _, h3⟩ := h
  obtain ⟨m, e', s', k1, _, k3⟩ := k
  have a := go_mono (Nat.le_max_left n m) h1
  have b := go_mono (Nat.le_max_right n m) k1
  rw [a] at b
  simp only [Option.some.injEq, Prod.mk.injEq] at b
  obtain ⟨rfl, rfl⟩ := b
  rw [h3] at k3
  exact Option.some.inj k3
end

open Classical in
/-- The plain result of a place in the code. -/
noncomputable def Blk {β : Type} (Γ : Gam) (R : List RS) (bx : List Res) (c : Ctl) (K : List Fr) (σ : ASt) (enc : β → AOut) : Option β :=
  if h : ∃ b, Done Γ R bx c K σ (enc b) then some h.choose else none
theorem Blk.run {β : Type} {Γ : Gam} {R : List RS} {bx : List Res} {c : Ctl} {K : List Fr} {σ : ASt} {enc : β → AOut} {b : β} (h : Blk Γ R bx c K σ enc = some b) : Done Γ R bx c K σ (enc b) := by
  unfold Blk at h
  split at h
  · rename_i hh; rw [Option.some.injEq] at h; exact h ▸ hh.choose_spec
  · simp at h
theorem Blk.of {β : Type} {Γ : Gam} {R : List RS} {bx : List Res} {c : Ctl} {K : List Fr} {σ : ASt} {enc : β → AOut} {b : β} (hi : ∀ a b, enc a = enc b → a = b) (h : Done Γ R bx c K σ (enc b)) : Blk Γ R bx c K σ enc = some b := by
  unfold Blk
  have hh : ∃ b, Done Γ R bx c K σ (enc b) := ⟨b, h⟩
  rw [dif_pos hh, hi _ _ (hh.choose_spec.det h)]

open Classical in
/-- The plain result of a call. -/
noncomputable def Fn {β : Type} (Γ : Gam) (f : FuncId) (ps : List PA) (enc : β → AOut) : Option β :=
  if h : ∃ b, Γ f ps = some (enc b) then some h.choose else none
theorem Fn.run {β : Type} {Γ : Gam} {f : FuncId} {ps : List PA} {enc : β → AOut} {b : β} (h : Fn Γ f ps enc = some b) : Γ f ps = some (enc b) := by
  unfold Fn at h
  split at h
  · rename_i hh; rw [Option.some.injEq] at h; exact h ▸ hh.choose_spec
  · simp at h
theorem Fn.out {β : Type} {Γ : Gam} {f : FuncId} {ps : List PA} {enc : β → AOut} {b : β} (hi : ∀ a b, enc a = enc b → a = b) (h : Γ f ps = some (enc b)) : Fn Γ f ps enc = some b := by
  unfold Fn
  have hh : ∃ b, Γ f ps = some (enc b) := ⟨b, h⟩
  rw [dif_pos hh]
  have := h.symm.trans hh.choose_spec
  rw [hi _ _ (Option.some.inj this)]
theorem Fn.of {β : Type} {T : Tab} {Γ : Gam} (hΓ : Γ = Lim T) {f : FuncId} {fi : Fi} {ps : List PA} {enc : β → AOut} {b : β} (hi : ∀ a b, enc a = enc b → a = b) (hf : T.fi f = some fi) (hp : pinsIn (boxesOf 0 ps) (iosOf 0 ps) fi.body = true)
    (h : Done Γ fi.ress (backsOf 0 ps) (.c fi.body) [] (entry ps) (enc b)) : Fn Γ f ps enc = some b := by
  subst hΓ
  refine Fn.out hi ?_
  obtain ⟨n, e, σ', h1, h2, h3⟩ := h
  obtain ⟨m, hm⟩ := go_top h1
  have : ∃ k, ev (callN T k) m fi.body (entry ps) = some (e, σ') := ev_cont' hm
  obtain ⟨k, hk⟩ := this
  refine Lim_iff.2 ⟨max m k + 1, ?_⟩
  have hk' := ev_mono (callN_mono T (Nat.le_max_right m k)) (Nat.le_max_left m k) hk
  simp only [callN, hf, runF, if_pos hp]
  have h3 := finish_B h3
  rcases h2 with rfl | rfl <;> rw [hk'] <;> exact h3
end Go.Fw
