/- The framework, part Zc: what is left of a call from a place in its code on; functions and places as functions on plain data. Conditions: none. -/
import Derived.Test.YtmbkipogmaimaaaGreatDoorFwZb
namespace Go.Fw
open Go

def obP {α : Type} : Option α → (α → Prop) → Prop
  | some a, f => f a
  | none, _ => False
@[congr] theorem ob_congr1 {α β : Type} {x y : Option α} {f : α → Option β} (h : x = y) : ob x f = ob y f := by rw [h]
@[congr] theorem obP_congr1 {α : Type} {x y : Option α} {f : α → Prop} (h : x = y) : obP x f = obP y f := by rw [h]
theorem ob_some' {α β : Type} (a : α) (f : α → Option β) : ob (some a) f = f a := rfl
theorem obP_some {α : Type} (a : α) (f : α → Prop) : obP (some a) f = f a := rfl

def cb : Option AC → Prop → Prop → Prop
  | some (.bool true), p, _ => p
  | some (.bool false), _, q => q
  | _, _, _ => False
@[congr] theorem cb_congr1 {x y : Option AC} {p q : Prop} (h : x = y) : cb x p q = cb y p q := by rw [h]
theorem cb_true (p q : Prop) : cb (some (.bool true)) p q = p := rfl
theorem cb_false (p q : Prop) : cb (some (.bool false)) p q = q := rfl

@[congr] theorem evR_congr1 {Γ : Gam} {rs : List ROp} {σ σ' : ASt} (h : σ = σ') : evR Γ rs σ = evR Γ rs σ' := by rw [h]

def extsB (v : Res → Val) : List Nat → Option (List (List AC))
  | [] => some []
  | n :: ns => match v (.b n) with
    | .b cs => if clnL cs then ob (extsB v ns) fun es => some (cs :: es) else none
    | _ => none
theorem extsOf_B (v : Res → Val) : ∀ (k : Nat) (ps : List PA), extsOf v k ps = extsB v (boxesOf k ps)
  | k, [] => rfl
  | k, p :: ps => by
    cases p with
    | box cs => simp only [extsOf, boxesOf, extsB, extsOf_B v (k + 1) ps]; rfl
    | _ => exact extsOf_B v (k + 1) ps
def resB : Res → Res → Bool
  | .t a, .t b => Nat.beq a b
  | .b a, .b b => Nat.beq a b
  | .v _, .v _ => true
  | _, _ => false
theorem resB_ne {a b : Res} (h : resB a b = false) : a ≠ b := by
  rintro rfl
  cases a <;> simp [resB] at h
def resIn (r : Res) : List Res → Bool
  | [] => false
  | s :: rs => resB r s || resIn r rs
theorem resIn_not {r : Res} : ∀ {rs : List Res}, resIn r rs = false → r ∉ rs
  | [], _ => by simp
  | s :: rs, h => by
    simp only [resIn, Bool.or_eq_false_iff] at h
    intro hm
    rcases List.mem_cons.1 hm with rfl | hm
    · exact resB_ne h.1 rfl
    · exact resIn_not h.2 hm
def ndp : List Res → Bool
  | [] => true
  | r :: rs => !resIn r rs && ndp rs
theorem ndp_nodup : ∀ {rs : List Res}, ndp rs = true → rs.Nodup
  | [], _ => List.nodup_nil
  | r :: rs, h => by
    simp only [ndp, Bool.and_eq_true, Bool.not_eq_true'] at h
    exact List.nodup_cons.2 ⟨resIn_not h.1, ndp_nodup h.2⟩
def finB (σ : ASt) (ress : List RS) (bx : List Nat) : Option AOut :=
  ob (outsOf σ.val ress) fun rs => ob (extsB σ.val bx) fun es =>
    if ndp (rs.map (·.1) ++ bx.map Res.b) = true then some { tv := outTV (rs.map (·.2)), exts := es } else none
theorem finish_B {σ : ASt} {ress : List RS} {ps : List PA} {o : AOut} (h : finB σ ress (boxesOf 0 ps) = some o) : finish σ ress ps = some o := by
  unfold finB at h
  obtain ⟨rs, h1, h2⟩ := ob_some h
  obtain ⟨es, h3, h4⟩ := ob_some h2
  try dsimp only at h4
  split at h4 <;> simp only [Option.some.injEq, reduceCtorEq] at h4
  rename_i hn
  subst h4
  have hn' := ndp_nodup hn
  simp only [finish, h1, ob, extsOf_B, h3, if_pos hn']

def Done (Γ : Gam) (R : List RS) (bx : List Nat) (c : Ctl) (K : List Fr) (σ : ASt) (o : AOut) : Prop :=
  ∃ n e σ', go Γ n c K σ = some (e, σ') ∧ (e = .norm ∨ e = .ret) ∧ finB σ' R bx = some o

section
variable {Γ : Gam} {R : List RS} {bx : List Nat} {K : List Fr} {σ : ASt} {o : AOut}

@[congr] theorem Done_congr1 {c c' : Ctl} {σ' : ASt} (hc : c = c') (h : σ = σ') : Done Γ R bx c K σ o = Done Γ R bx c' K σ' o := by rw [h, hc]
theorem D_start {c c' : Ir} (h : c = c') (k : Done Γ R bx (.c c') K σ o) : Done Γ R bx (.c c) K σ o := h ▸ k

theorem D_step {c c' : Ctl} {K' : List Fr} {σ' : ASt} (h : ∀ n, go Γ (n + 1) c K σ = go Γ n c' K' σ') : Done Γ R bx c K σ o = Done Γ R bx c' K' σ' o := by
  refine propext ⟨?_, ?_⟩
  · rintro ⟨n, e, σ1, h1, h2⟩
    cases n with
    | zero => simp [go] at h1
    | succ n => exact ⟨n, e, σ1, (h n).symm.trans h1, h2⟩
  · rintro ⟨n, e, σ1, h1, h2⟩
    exact ⟨n + 1, e, σ1, (h n).trans h1, h2⟩
theorem D_skip : Done Γ R bx (.c .skip) K σ o = Done Γ R bx (.d .norm) K σ o := D_step fun _ => rfl
theorem D_seq {a b : Ir} : Done Γ R bx (.c (.seq a b)) K σ o = Done Γ R bx (.c a) (.s b :: K) σ o := D_step fun _ => rfl
theorem D_block {i : Nat} {a : Ir} : Done Γ R bx (.c (.block i a)) K σ o = Done Γ R bx (.c a) (.b i :: K) σ o := D_step fun _ => rfl
theorem D_loop {a : Ir} : Done Γ R bx (.c (.loop a)) K σ o = Done Γ R bx (.c a) (.l a :: K) σ o := D_step fun _ => rfl
theorem D_exit {i : Nat} : Done Γ R bx (.c (.exit i)) K σ o = Done Γ R bx (.d (.exit i)) K σ o := D_step fun _ => rfl
theorem D_ret : Done Γ R bx (.c .ret) K σ o = Done Γ R bx (.d .ret) K σ o := D_step fun _ => rfl
theorem D_ns {b : Ir} : Done Γ R bx (.d .norm) (.s b :: K) σ o = Done Γ R bx (.c b) K σ o := D_step fun _ => rfl
theorem D_nb {i : Nat} : Done Γ R bx (.d .norm) (.b i :: K) σ o = Done Γ R bx (.d .norm) K σ o := D_step fun _ => rfl
theorem D_nl {a : Ir} : Done Γ R bx (.d .norm) (.l a :: K) σ o = Done Γ R bx (.c (.loop a)) K σ o := D_step fun _ => rfl
theorem D_es {j : Nat} {b : Ir} : Done Γ R bx (.d (.exit j)) (.s b :: K) σ o = Done Γ R bx (.d (.exit j)) K σ o := D_step fun _ => rfl
theorem D_el {j : Nat} {a : Ir} : Done Γ R bx (.d (.exit j)) (.l a :: K) σ o = Done Γ R bx (.d (.exit j)) K σ o := D_step fun _ => rfl
theorem D_eb (j : Nat) : Done Γ R bx (.d (.exit j)) (.b j :: K) σ o = Done Γ R bx (.d .norm) K σ o := D_step fun _ => by simp [go]
theorem D_eb' {i j : Nat} (h : (j == i) = false) : Done Γ R bx (.d (.exit j)) (.b i :: K) σ o = Done Γ R bx (.d (.exit j)) K σ o := D_step fun _ => by simp [go, show j ≠ i by simpa using h]
theorem D_end : Done Γ R bx (.d .norm) [] σ o = (finB σ R bx = some o) := by
  refine propext ⟨?_, fun h => ⟨1, .norm, σ, rfl, .inl rfl, h⟩⟩
  rintro ⟨n, e, σ1, h1, h2, h3⟩
  cases n with
  | zero => simp [go] at h1
  | succ n => simp only [go, Option.some.injEq, Prod.mk.injEq] at h1; obtain ⟨rfl, rfl⟩ := h1; exact h3
theorem D_rend : ∀ {K : List Fr}, Done Γ R bx (.d .ret) K σ o = (finB σ R bx = some o)
  | [] => by
    refine propext ⟨?_, fun h => ⟨1, .ret, σ, rfl, .inr rfl, h⟩⟩
    rintro ⟨n, e, σ1, h1, h2, h3⟩
    cases n with
    | zero => simp [go] at h1
    | succ n => simp only [go, Option.some.injEq, Prod.mk.injEq] at h1; obtain ⟨rfl, rfl⟩ := h1; exact h3
  | f :: K => by
    rw [← D_rend (K := K)]
    cases f <;> exact D_step fun _ => rfl
theorem D_region {rs : List ROp} : Done Γ R bx (.c (.region rs)) K σ o = obP (evR Γ rs σ) fun σ' => Done Γ R bx (.d .norm) K σ' o := by
  cases h : evR Γ rs σ with
  | some σ' => exact D_step fun n => by simp [go, h, ob]
  | none =>
    refine propext ⟨?_, fun h => h.elim⟩
    rintro ⟨n, e, σ1, h1, _⟩
    cases n <;> simp [go, h, ob] at h1
theorem D_gh {g : Gh} {k : Ir} : Done Γ R bx (.c (.gh g k)) K σ o = obP (gh g σ) fun σ' => Done Γ R bx (.c k) K σ' o := by
  cases h : gh g σ with
  | some σ' => exact D_step fun n => by simp [go, h, ob]
  | none =>
    refine propext ⟨?_, fun h => h.elim⟩
    rintro ⟨n, e, σ1, h1, _⟩
    cases n <;> simp [go, h, ob] at h1
theorem D_cond {x : Opr} {a b : Ir} : Done Γ R bx (.c (.cond x a b)) K σ o = cb (sca σ.val x) (Done Γ R bx (.c a) K σ o) (Done Γ R bx (.c b) K σ o) := by
  have no : (∀ b, sca σ.val x ≠ some (.bool b)) → ¬ Done Γ R bx (.c (.cond x a b)) K σ o := by
    rintro h ⟨n, e, σ1, h1, _⟩
    cases n with
    | zero => simp [go] at h1
    | succ n =>
      simp only [go] at h1
      split at h1
      · rename_i hh; exact h _ hh
      · rename_i hh; exact h _ hh
      · simp at h1
  unfold cb
  split
  · rename_i h; exact D_step fun n => by simp [go, h]
  · rename_i h; exact D_step fun n => by simp [go, h]
  · rename_i h1 h2; exact propext ⟨fun h => (no (fun b => by cases b; exact h2; exact h1) h).elim, fun h => h.elim⟩

theorem Done.det {c : Ctl} {o o' : AOut} (h : Done Γ R bx c K σ o) (k : Done Γ R bx c K σ o') : o = o' := by
  obtain ⟨n, e, s, h1, _, h3⟩ := h
  obtain ⟨m, e', s', k1, _, k3⟩ := k
  have a := go_mono (Nat.le_max_left n m) h1
  have b := go_mono (Nat.le_max_right n m) k1
  rw [a] at b
  simp only [Option.some.injEq, Prod.mk.injEq] at b
  obtain ⟨rfl, rfl⟩ := b
  rw [h3] at k3
  exact Option.some.inj k3
end

open Classical in
/-- The plain result of a place in the code. -/
noncomputable def Blk {β : Type} (Γ : Gam) (R : List RS) (bx : List Nat) (c : Ctl) (K : List Fr) (σ : ASt) (enc : β → AOut) : Option β :=
  if h : ∃ b, Done Γ R bx c K σ (enc b) then some h.choose else none
theorem Blk.run {β : Type} {Γ : Gam} {R : List RS} {bx : List Nat} {c : Ctl} {K : List Fr} {σ : ASt} {enc : β → AOut} {b : β} (h : Blk Γ R bx c K σ enc = some b) : Done Γ R bx c K σ (enc b) := by
  unfold Blk at h
  split at h
  · rename_i hh; rw [Option.some.injEq] at h; exact h ▸ hh.choose_spec
  · simp at h
theorem Blk.of {β : Type} {Γ : Gam} {R : List RS} {bx : List Nat} {c : Ctl} {K : List Fr} {σ : ASt} {enc : β → AOut} {b : β} (hi : ∀ a b, enc a = enc b → a = b) (h : Done Γ R bx c K σ (enc b)) : Blk Γ R bx c K σ enc = some b := by
  unfold Blk
  have hh : ∃ b, Done Γ R bx c K σ (enc b) := ⟨b, h⟩
  rw [dif_pos hh, hi _ _ (hh.choose_spec.det h)]

open Classical in
/-- The plain result of a call. -/
noncomputable def Fn {β : Type} (Γ : Gam) (f : FuncId) (ps : List PA) (enc : β → AOut) : Option β :=
  if h : ∃ b, Γ f ps = some (enc b) then some h.choose else none
theorem Fn.run {β : Type} {Γ : Gam} {f : FuncId} {ps : List PA} {enc : β → AOut} {b : β} (h : Fn Γ f ps enc = some b) : Γ f ps = some (enc b) := by
  unfold Fn at h
  split at h
  · rename_i hh; rw [Option.some.injEq] at h; exact h ▸ hh.choose_spec
  · simp at h
theorem Fn.out {β : Type} {Γ : Gam} {f : FuncId} {ps : List PA} {enc : β → AOut} {b : β} (hi : ∀ a b, enc a = enc b → a = b) (h : Γ f ps = some (enc b)) : Fn Γ f ps enc = some b := by
  unfold Fn
  have hh : ∃ b, Γ f ps = some (enc b) := ⟨b, h⟩
  rw [dif_pos hh]
  have := h.symm.trans hh.choose_spec
  rw [hi _ _ (Option.some.inj this)]
theorem Fn.of {β : Type} {T : Tab} {Γ : Gam} (hΓ : Γ = Lim T) {f : FuncId} {fi : Fi} {ps : List PA} {enc : β → AOut} {b : β} (hi : ∀ a b, enc a = enc b → a = b) (hf : T.fi f = some fi) (hp : pinsIn (boxesOf 0 ps) fi.body = true)
    (h : Done Γ fi.ress (boxesOf 0 ps) (.c fi.body) [] (entry ps) (enc b)) : Fn Γ f ps enc = some b := by
  subst hΓ
  refine Fn.out hi ?_
  obtain ⟨n, e, σ', h1, h2, h3⟩ := h
  obtain ⟨m, hm⟩ := go_top h1
  have : ∃ k, ev (callN T k) m fi.body (entry ps) = some (e, σ') := ev_cont' hm
  obtain ⟨k, hk⟩ := this
  refine Lim_iff.2 ⟨max m k + 1, ?_⟩
  have hk' := ev_mono (callN_mono T (Nat.le_max_right m k)) (Nat.le_max_left m k) hk
  simp only [callN, hf, runF, if_pos hp]
  have h3 := finish_B h3
  rcases h2 with rfl | rfl <;> rw [hk'] <;> exact h3
end Go.Fw
