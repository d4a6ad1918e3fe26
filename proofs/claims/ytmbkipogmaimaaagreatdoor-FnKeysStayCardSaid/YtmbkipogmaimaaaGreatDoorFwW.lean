/- The framework, part W: regions: their operations with guards, in order or in any order. Conditions: none. -/
import Derived.Test.YtmbkipogmaimaaaGreatDoorFwV
import Derived.Orders
namespace Go.Fw
open Go

structure ROp where
  g : Option (Nat × Bool)
  x : IOp

def iDst : IOp → Option Nat
  | .mov d _ | .alias d _ _ | .pick d _ _ _ | .alloc d _ | .box d _ | .build d _ _ | .mkrow d _ _ _ _ | .load d _ _ _ _ _ _ | .nilc d _ _ | .fad d _ _ _ | .fld d _ _ _ _ | .iad d _ _ _ _ _ | .idx d _ _ | .len d _ _
  | .slen d _ | .bin d _ _ _ | .sbin d _ _ _ | .ceq d _ _ _ _ _ | .peq d _ _ _ | .not d _ | .neg d _ | .conv d _ _ | .make d _ _ _ _ | .slice d _ _ _ _ _ | .tslice d _ _ _ _ | .ssub d _ _ _ | .app d _ _ _ _ _
  | .mm d _ _ _ | .ext d _ _ _ | .call d _ _ _ | .ofStr d _ | .toStr d _ _ | .mkmap d | .mlook d _ _ _ _ | .pslice d _ _ _ _ | .ieq d _ _ | .appa d _ _ _ _ _ _ _ => some d
  | .store .. | .mset .. => none

def skipW (v : Res → Val) (x : IOp) : List (Res × Val) := match iDst x with | some d => putT v d [] .und | none => []

def rop (Γ : Gam) (v : Res → Val) (r : ROp) : Option (List (Res × Val)) :=
  match r.g with
  | none => fop Γ v r.x
  | some (s, want) => match v (.t s) with
    | .t [] (.pl false [.bool b]) => if b = want then fop Γ v r.x else some (skipW v r.x)
    | .t [] .und => some (skipW v r.x)
    | _ => none

def rrd (r : ROp) : List Res := (match r.g with | some (s, _) => [.t s] | none => []) ++ (rd r.x ++ (match iDst r.x with | some d => dR d | none => []))
def rwr (r : ROp) : List Res := wr r.x ++ (match r.g, iDst r.x with | some _, some d => dR d | _, _ => [])

section
variable {v v' : Res → Val}
theorem rop_congr {Γ : Gam} {r : ROp} (h : Agr v v' (rrd r)) : rop Γ v r = rop Γ v' r := by
  obtain ⟨h1, h2⟩ := Agr.app h
  obtain ⟨h2, h3⟩ := h2.app
  obtain ⟨g, x⟩ := r
  have hs : skipW v x = skipW v' x := by
    unfold skipW
    cases hx : iDst x with
    | none => rfl
    | some d => simp only [hx] at h3; exact putT_congr h3 _ _
  cases g with
  | none => exact fop_congr h2
  | some y =>
    obtain ⟨s, want⟩ := y
    simp only at h1
    have := h1 (.t s) (by simp)
    simp only [rop, this, hs, fop_congr h2]
theorem rop_wr {Γ : Gam} {r : ROp} {ws : List (Res × Val)} (h : rop Γ v r = some ws) : Wr ws (rwr r) := by
  obtain ⟨g, x⟩ := r
  cases g with
  | none => exact (fop_wr h).left
  | some y =>
    obtain ⟨s, want⟩ := y
    simp only [rop] at h
    have sk : Wr (skipW v x) (rwr ⟨some (s, want), x⟩) := by
      unfold skipW
      simp only [rwr]
      cases hx : iDst x with
      | none => exact .nil
      | some d => exact (Wr.putT d _ _).right
    split at h <;> try (simp at h; done)
    · split at h
      · exact (fop_wr h).left
      · simp only [Option.some.injEq] at h
        subst h
        exact sk
    · simp only [Option.some.injEq] at h
      subst h
      exact sk
end

/-- An operation with its guard fits. The guard looks at the slot that its operation yields. -/
def mrop (P : Program) (N : Nat) (ops : Array Oper) (r : ROp) (o : Oper) : Bool :=
  mop P N r.x o && o.dst == iDst r.x && (match iDst r.x with | some d => decide (d < N) | none => true) &&
  (match r.g, o.guard with
    | none, none => true
    | some (s, want), some (j, want') => want == want' && ((ops[j]?).bind (·.dst)) == some s
    | _, _ => false)
def mregion (P : Program) (N : Nat) (all : Array Oper) : List ROp → List Oper → Bool
  | [], [] => true
  | r :: rs, o :: os => mrop P N all r o && mregion P N all rs os
  | _, _ => false

def Rel (E : Env) (v : Res → Val) (a : Act) (w : World) : Prop := ∃ β φ, RelW E v (tmv a) w β φ

section
variable {P : Program} {E : Env} {v : Res → Val} {o : Oper} {a : Act} {w : World}

theorem RelW.dropped {tm tm' : Nat → Value} {β : Nat → Nat} {φ : Res → Foot} (h : RelW E v tm w β φ) (hC : ∀ b, E.C b → b < E.w0.heap.size) (d : Nat) (htm : ∀ n, n ≠ d → tm' n = tm n) :
    ∃ β' φ', RelW E (appl v (dropT v d)) tm' w β' φ' := by
  have T : ∀ n, appl v (dropT v d) (.t n) = if n = d then .nope else v (.t n) := by intro n; by_cases e : n = d <;> simp [dropT, appl, nrm, e]
  have B : ∀ n, appl v (dropT v d) (.b n) = v (.b n) := by intro n; simp [dropT, appl]
  have V : ∀ q, ver (appl v (dropT v d)) q = if q = .t d then ver v q + 1 else ver v q := by
    intro q
    by_cases e : q = .t d
    · subst e; simp [dropT, appl, nrm, ver]
    · simp [dropT, appl, ver, e]
  refine ⟨β, fun r => if r = .t d then fun _ => 0 else φ r, h.multi hC (fun r => r = .t d) ?_ ?_ ?_ ?_ ?_ ?_ ?_ ?_ (fun _ _ => rfl) ?_ (fun _ _ _ => rfl) rfl rfl rfl (Nat.le_refl _) ?_ ?_⟩
  · rintro r rfl b; simp
  · rintro r s b rfl rfl _ _; rfl
  · rintro r b rfl hb; simp at hb
  · intro r hq hr
    refine ⟨?_, if_neg hr⟩
    cases r with
    | v q => exact absurd rfl (hq q)
    | t n => rw [T, if_neg (fun e => hr (by rw [e]))]
    | b n => exact B n
  · intro r hr; exact if_neg hr
  · intro q; rw [V]; split <;> omega
  · intro q hq _
    cases q with
    | b n => simp [Rt.res] at hq
    | t n => simp [Rt.res] at hq; subst hq; rw [V, if_pos rfl]; omega
  · intro n hn; exact htm n (fun e => hn (by rw [e]))
  · intro n hn; simp at hn
  · rintro n hn; simp at hn; subst hn; exact .inl (by rw [T, if_pos rfl])
  · intro n cs hn; simp at hn

theorem Good.of_rel {a' : Act} {w' : World} {v' : Res → Val} (h : Good E v' a a' w') : Rel E v' a' w' := h.rel

/-- A step of a region: the operation is done, or it is skipped. -/
theorem rop_step {Γ : Gam} (hΓ : Sat P Γ) (hC : ∀ b, E.C b → b < E.w0.heap.size) {N : Nat} {ops : Array Oper} {r : ROp} (hm : mrop P N ops r o = true) (h : Rel E v a w) (hN : N ≤ a.tmps.size) {ws : List (Res × Val)}
    (hf : rop Γ v r = some ws) {i : Nat} (hi : ops[i]? = some o) {Q : Exit → Act → World → Prop} (K : Act → World → Prop)
    (hK : ∀ a' w', Rel E (appl v ws) a' w' → a'.tmps.size = a.tmps.size → a'.defers = a.defers → K a' w') : wpOp P ops Q i K a w := by
  obtain ⟨β, φ, h⟩ := h
  simp only [mrop, Bool.and_eq_true, beq_iff_eq] at hm
  obtain ⟨⟨⟨hm, hd⟩, hdN⟩, hg⟩ := hm
  have done : fop Γ v r.x = some ws → o.wp P a w K Q := fun hf => op_sound hΓ h hC hN hm hf K Q (fun a' w' g => hK a' w' g.rel g.size g.defers)
  unfold wpOp
  simp only [hi]
  obtain ⟨g, x⟩ := r
  cases g with
  | none =>
    have : o.guard = none := by
      simp only at hg
      split at hg <;> simp_all
    have hw : Region.wanted o (yielded ops a.tmps) = true := by simp [Region.wanted, this]
    rw [hw]
    simp only [if_true]
    exact .inl (done hf)
  | some y =>
    obtain ⟨s, want⟩ := y
    simp only at hg
    split at hg <;> try (simp at hg; done)
    · rename_i heq _; simp at heq
    rename_i _ _ s' want' j want'' heq hgo
    simp only [Option.some.injEq, Prod.mk.injEq] at heq
    obtain ⟨rfl, rfl⟩ := heq
    simp only [Bool.and_eq_true, beq_iff_eq] at hg
    obtain ⟨rfl, hgs⟩ := hg
    have skip : Region.wanted o (yielded ops a.tmps) = false → ws = skipW v x → (if Region.wanted o (yielded ops a.tmps) then o.wp P a w K Q ∨ (o.asks P a w ∧ LetsOut Q) else K (a.put o.dst undef) w) := by
      rintro hw rfl
      rw [hw]
      simp only [Bool.false_eq_true, if_false]
      rw [hd]
      cases hx : iDst x with
      | none =>
        refine hK _ _ ?_ rfl rfl
        simp only [skipW, hx, appl]
        exact ⟨β, φ, h⟩
      | some d =>
        simp only [hx, decide_eq_true_eq] at hdN
        refine hK _ _ ?_ (by simp [Act.put]) rfl
        simp only [skipW, hx]
        obtain ⟨φ', h'⟩ := h.putV (w' := w) (tm' := tmv (a.put (some d) undef)) (u := undef) (L := []) hC (by simp) (.refl w) (f := fun _ => 0) (tv := .und) (st := []) (by simp) (by simp)
          (fun n => tmv_put a d undef (by omega) n) (by simp) (by intro p hp; simp at hp) (by simp) rfl
        exact ⟨β, φ', by simpa only [dropL, List.append_nil] using h'⟩
    simp only [rop] at hf
    split at hf <;> try (simp at hf; done)
    · rename_i b hv
      obtain ⟨vals, g1, g2⟩ := h.ent s _ _ hv (by intro p hp; simp at hp)
      simp only [Bool.false_eq_true, if_false] at g2
      subst g2
      have hb := g1.scal rfl
      simp only [Scal] at hb
      have hy : yielded ops a.tmps j = some b := by
        have hlt : s < a.tmps.size := by
          refine Nat.lt_of_not_le fun hle => ?_
          have : tmv a s = undef := by simp [tmv, Array.getD_eq_getD_getElem?, hle]
          rw [this] at hb
          simp [undef] at hb
        have : a.tmps[s]? = some (.bool b) := by
          simp only [tmv, Array.getD_eq_getD_getElem?, Array.getElem?_eq_getElem hlt] at hb
          rw [Array.getElem?_eq_getElem hlt]
          simpa using hb
        simp only [yielded, hgs, Option.bind_some, this]
      by_cases hbw : b = want
      · rw [if_pos hbw] at hf
        have hw : Region.wanted o (yielded ops a.tmps) = true := by simp [Region.wanted, hgo, hy, hbw]
        rw [hw]
        simp only [if_true]
        exact .inl (done hf)
      · rw [if_neg hbw] at hf
        simp only [Option.some.injEq] at hf
        exact skip (by simp [Region.wanted, hgo, hy, hbw]) hf.symm
    · rename_i hv
      simp only [Option.some.injEq] at hf
      have hu : tmv a s = undef := h.ent s _ _ hv (by intro p hp; simp at hp)
      refine skip ?_ hf.symm
      have hy : yielded ops a.tmps j = none := by
        simp only [yielded, hgs, Option.bind_some]
        cases ht : a.tmps[s]? with
        | none => rfl
        | some u =>
          have : u = undef := by
            simp only [tmv, Array.getD_eq_getD_getElem?, ht, Option.getD_some] at hu
            exact hu
          rw [this]; rfl
      simp [Region.wanted, hgo, hy]

/-- In the order of the text. -/
def evR (Γ : Gam) : List ROp → ASt → Option ASt
  | [], σ => some σ
  | r :: rs, σ => ob (rop Γ σ.val r) fun ws => evR Γ rs (σ.puts ws)

theorem region_plain {Γ : Gam} (hΓ : Sat P Γ) (hC : ∀ b, E.C b → b < E.w0.heap.size) {N : Nat} {ops : Array Oper} {Q : Exit → Act → World → Prop} : ∀ (rs : List ROp) (k : Nat), mregion P N ops rs (ops.toList.drop k) = true →
    ∀ {σ σ' : ASt} {a : Act} {w : World}, Rel E σ.val a w → N ≤ a.tmps.size → evR Γ rs σ = some σ' →
      (∀ a' w', Rel E σ'.val a' w' → a'.tmps.size = a.tmps.size → a'.defers = a.defers → Q .normal a' w') → wpOps P ops Q (List.range' k (ops.size - k)) a w
  | [], k, hm, σ, σ', a, w, h, hN, he, hq => by
    have : ops.size ≤ k := by
      refine Nat.le_of_not_lt fun hlt => ?_
      have : ops.toList.drop k ≠ [] := by simp; omega
      cases hd : ops.toList.drop k with
      | nil => exact this hd
      | cons x xs => rw [hd] at hm; simp [mregion] at hm
    rw [show ops.size - k = 0 by omega]
    simp only [evR, Option.some.injEq] at he
    subst he
    exact hq a w h rfl rfl
  | r :: rs, k, hm, σ, σ', a, w, h, hN, he, hq => by
    have hk : k < ops.size := by
      refine Nat.lt_of_not_le fun hle => ?_
      rw [List.drop_eq_nil_of_le (by simpa using hle)] at hm
      simp [mregion] at hm
    have hd : ops.toList.drop k = ops[k] :: ops.toList.drop (k + 1) := by
      rw [List.drop_eq_getElem_cons (by simpa using hk)]; simp
    rw [hd] at hm
    simp only [mregion, Bool.and_eq_true] at hm
    obtain ⟨ws, h1, h2⟩ := ob_some he
    rw [show ops.size - k = (ops.size - (k + 1)) + 1 by omega, List.range'_succ, wpOps_cons]
    refine rop_step hΓ hC hm.1 h hN h1 (Array.getElem?_eq_getElem hk) _ fun a' w' hr hs hdf => ?_
    refine region_plain hΓ hC rs (k + 1) hm.2 (σ := σ.puts ws) (by rw [val_puts]; exact hr) (by omega) h2 fun a2 w2 hr2 hs2 hd2 => hq a2 w2 hr2 (hs2.trans hs) (hd2.trans hdf)
end
end Go.Fw
