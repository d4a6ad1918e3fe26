/- The framework, part W: regions: their operations with guards, in order or in any order. The framework, part X: regions whose order is drawn. Conditions: none. -/
import Derived.Test.YtjldolmokfnkoaaGreatDoorFwT
import Derived.Orders
namespace Go.Fw
open Go

structure ROp where
  g : Option (Nat × Bool)
  x : IOp

def iDst : IOp → Option Nat
  | .mov d _ | .alias d _ _ | .pick d _ _ _ | .alloc d _ | .box d _ | .build d _ _ | .mkrow d _ _ _ _ | .load d _ _ _ _ _ _ | .nilc d _ _ | .fad d _ _ _ | .fld d _ _ _ _ | .iad d _ _ _ _ _ | .idx d _ _ | .len d _ _
  | .slen d _ | .bin d _ _ _ | .sbin d _ _ _ | .ceq d _ _ _ _ _ | .not d _ | .neg d _ | .conv d _ _ | .make d _ _ _ _ | .slice d _ _ _ _ _ | .ssub d _ _ _ | .app d _ _ _ _ _
  | .mm d _ _ _ | .ext d _ _ _ | .call d _ _ _ | .toStr d _ _ | .mkmap d | .mlook d _ _ _ _ | .ieq d _ _ | .appa d _ _ _ _ _ _ _ | .callio d _ _ _ _ _ | .mkrowa d _ _ _ _ | .mova d _ _ _ | .ldm d _ _ _ _ _ => some d
  | .store .. | .mset .. | .storea .. => none

def skipW (v : Res → Val) (x : IOp) : List (Res × Val) := match iDst x with | some d => putT v d [] .und | none => []

def rop (Γ : Gam) (v : Res → Val) (r : ROp) : Option (List (Res × Val)) :=
  match r.g with
  | none => fop Γ v r.x
  | some (s, want) => match v (.t s) with
    | .t [] (.pl false [.bool b]) => if b = want then fop Γ v r.x else some (skipW v r.x)
    | .t [] .und => some (skipW v r.x)
    | _ => none

def rrd (r : ROp) : List Res := (match r.g with | some (s, _) => [.t s] | none => []) ++ (rd r.x ++ (match iDst r.x with | some d => dR d | none => []))
def rwr (r : ROp) : List Res := wr r.x ++ (match r.g, iDst r.x with | some _, some d => dR d | _, _ => [])

section
variable {v v' : Res → Val}
theorem rop_congr {Γ : Gam} {r : ROp} (h : Agr v v' (rrd r)) : rop Γ v r = rop Γ v' r := by
  obtain ⟨h1, h2⟩ := Agr.app h
  obtain ⟨h2, h3⟩ := h2.app
  obtain ⟨g, x⟩ := r
  have hs : skipW v x = skipW v' x := by
    unfold skipW
    cases hx : iDst x with
    | none => rfl
    | some d => simp only [hx] at h3; exact putT_congr h3 _ _
  cases g with
  | none => exact fop_congr h2
  | some y =>
    obtain ⟨s, want⟩ := y
    simp only at h1
    have := h1 (.t s) (by simp)
    simp only [rop, this, hs, fop_congr h2]
theorem rop_wr {Γ : Gam} {r : ROp} {ws : List (Res × Val)} (h : rop Γ v r = some ws) : Wr ws (rwr r) := by
  obtain ⟨g, x⟩ := r
  cases g with
  | none => exact (fop_wr h).left
  | some y =>
    obtain ⟨s, want⟩ := y
    simp only [rop] at h
    have sk : Wr (skipW v x) (rwr ⟨some (s, want), x⟩) := by
      unfold skipW
      simp only [rwr]
      cases hx : iDst x with
      | none => exact .nil
      | some d => exact (Wr.putT d _ _).right
    split at h <;> try (simp at h; done)
    · split at h
      · exact (fop_wr h).left
      · simp only [Option.some.injEq] at h
        subst h
        exact sk
    · simp only [Option.some.injEq] at h
      subst h
      exact sk
end

/-- An operation with its guard fits. The guard looks at the slot that its operation yields. -/
def mrop (P : Program) (N : Nat) (ops : Array Oper) (r : ROp) (o : Oper) : Bool :=
  mop P N r.x o && o.dst == iDst r.x && (match iDst r.x with | some d => decide (d < N) | none => true) &&
  (match r.g, o.guard with
    | none, none => true
    | some (s, want), some (j, want') => want == want' && ((ops[j]?).bind (·.dst)) == some s
    | _, _ => false)
def mregion (P : Program) (N : Nat) (all : Array Oper) : List ROp → List Oper → Bool
  | [], [] => true
  | r :: rs, o :: os => mrop P N all r o && mregion P N all rs os
  | _, _ => false

def Pins (E : Env) (a : Act) : Prop := ∀ n u, E.tpin n = some u → tmv a n = u
def Rel (E : Env) (v : Res → Val) (a : Act) (w : World) : Prop := (∃ β φ, RelW E v (tmv a) w β φ) ∧ Pins E a

section
variable {P : Program} {E : Env} {v : Res → Val} {o : Oper} {a : Act} {w : World}

theorem RelW.dropped {tm tm' : Nat → Value} {β : Nat → Nat} {φ : Res → Foot} (h : RelW E v tm w β φ) (hC : ∀ b, E.C b → b < E.w0.heap.size) (d : Nat) (htm : ∀ n, n ≠ d → tm' n = tm n) :
    ∃ β' φ', RelW E (appl v (dropT v d)) tm' w β' φ' := by
  have T : ∀ n, appl v (dropT v d) (.t n) = if n = d then .nope else v (.t n) := by intro n; by_cases e : n = d <;> simp [dropT, appl, nrm, e]
  have B : ∀ n, appl v (dropT v d) (.b n) = v (.b n) := by intro n; simp [dropT, appl]
  have V : ∀ q, ver (appl v (dropT v d)) q = if q = .t d then ver v q + 1 else ver v q := by
    intro q
    by_cases e : q = .t d
    · subst e; simp [dropT, appl, nrm, ver]
    · simp [dropT, appl, ver, e]
  refine ⟨β, fun r => if r = .t d then fun _ => 0 else φ r, h.multi hC (fun r => r = .t d) ?_ ?_ ?_ ?_ ?_ ?_ ?_ ?_ (fun _ _ => rfl) ?_ (fun _ _ _ => rfl) rfl rfl rfl (Nat.le_refl _) ?_ ?_⟩
  · rintro r rfl b; simp
  · rintro r s b rfl rfl _ _; rfl
  · rintro r b rfl hb; simp at hb
  · intro r hq hr
    refine ⟨?_, if_neg hr⟩
    cases r with
    | v q => exact absurd rfl (hq q)
    | t n => rw [T, if_neg (fun e => hr (by rw [e]))]
    | b n => exact B n
  · intro r hr; exact if_neg hr
  · intro q; rw [V]; split <;> omega
  · intro q hq _
    cases q with
    | b n => simp [Rt.res] at hq
    | t n => simp [Rt.res] at hq; subst hq; rw [V, if_pos rfl]; omega
  · intro n hn; exact htm n (fun e => hn (by rw [e]))
  · intro n hn; simp at hn
  · rintro n hn; simp at hn; subst hn; exact .inl (by rw [T, if_pos rfl])
  · intro n cs hn; simp at hn


/-- A step of a region: the operation is done, or it is skipped. -/
theorem rop_step {Γ : Gam} (hΓ : SatE P E Γ) (hC : ∀ b, E.C b → b < E.w0.heap.size) {N : Nat} {ops : Array Oper} {r : ROp} (hm : mrop P N ops r o = true) (h : Rel E v a w) (hN : N ≤ a.tmps.size) {ws : List (Res × Val)}
    (hf : rop Γ v r = some ws) (hpt : ∀ d, iDst r.x = some d → E.tpin d = none) {i : Nat} (hi : ops[i]? = some o) {Q : Exit → Act → World → Prop} (K : Act → World → Prop)
    (hK : ∀ a' w', Rel E (appl v ws) a' w' → a'.tmps.size = a.tmps.size → a'.defers = a.defers → K a' w') : wpOp P ops Q i K a w := by
  obtain ⟨⟨β, φ, h⟩, hpin⟩ := h
  simp only [mrop, Bool.and_eq_true, beq_iff_eq] at hm
  obtain ⟨⟨⟨hm, hd⟩, hdN⟩, hg⟩ := hm
  have done : fop Γ v r.x = some ws → o.wp P a w K Q := fun hf => op_sound hΓ h hC hN hm hf K Q (fun a' w' g hw => hK a' w' ⟨g.rel, fun n u hn => by
    rw [hw n fun e => by rw [hpt n (hd.symm.trans e)] at hn; simp at hn]
    exact hpin n u hn⟩ g.size g.defers)
  unfold wpOp
  simp only [hi]
  obtain ⟨g, x⟩ := r
  cases g with
  | none =>
    have : o.guard = none := by
      simp only at hg
      split at hg <;> simp_all
    have hw : Region.wanted o (yielded ops a.tmps) = true := by simp [Region.wanted, this]
    rw [hw]
    simp only [if_true]
    exact .inl (done hf)
  | some y =>
    obtain ⟨s, want⟩ := y
    simp only at hg
    split at hg <;> try (simp at hg; done)
    · rename_i heq _; simp at heq
    rename_i _ _ s' want' j want'' heq hgo
    simp only [Option.some.injEq, Prod.mk.injEq] at heq
    obtain ⟨rfl, rfl⟩ := heq
    simp only [Bool.and_eq_true, beq_iff_eq] at hg
    obtain ⟨rfl, hgs⟩ := hg
    have skip : Region.wanted o (yielded ops a.tmps) = false → ws = skipW v x → (if Region.wanted o (yielded ops a.tmps) then o.wp P a w K Q ∨ (o.asks P a w ∧ LetsOut Q) else K (a.put o.dst undef) w) := by
      rintro hw rfl
      rw [hw]
      simp only [Bool.false_eq_true, if_false]
      rw [hd]
      cases hx : iDst x with
      | none =>
        refine hK _ _ ?_ rfl rfl
        simp only [skipW, hx, appl]
        exact ⟨⟨β, φ, h⟩, hpin⟩
      | some d =>
        simp only [hx, decide_eq_true_eq] at hdN
        refine hK _ _ ?_ (by simp [Act.put]) rfl
        simp only [skipW, hx]
        obtain ⟨φ', h'⟩ := h.putV (w' := w) (tm' := tmv (a.put (some d) undef)) (u := undef) (L := []) hC (by simp) (.refl w) (f := fun _ => 0) (tv := .und) (st := []) (by simp) (by simp)
          (fun n => tmv_put a d undef (by omega) n) (by simp) (by intro p hp; simp at hp) (by simp) rfl
        exact ⟨⟨β, φ', by simpa only [dropL, List.append_nil] using h'⟩, fun n u hn => by
          have hne : n ≠ d := fun e => by rw [e, hpt d hx] at hn; simp at hn
          rw [tmv_put_ne _ _ _ _ hne]
          exact hpin n u hn⟩
    simp only [rop] at hf
    split at hf <;> try (simp at hf; done)
    · rename_i b hv
      obtain ⟨vals, g1, g2⟩ := h.ent s _ _ hv (by intro p hp; simp at hp)
      simp only [Bool.false_eq_true, if_false] at g2
      subst g2
      have hb := g1.scal rfl
      simp only [Scal] at hb
      have hy : yielded ops a.tmps j = some b := by
        have hlt : s < a.tmps.size := by
          refine Nat.lt_of_not_le fun hle => ?_
          have : tmv a s = undef := by simp [tmv, Array.getD_eq_getD_getElem?, hle]
          rw [this] at hb
          simp [undef] at hb
        have : a.tmps[s]? = some (.bool b) := by
          simp only [tmv, Array.getD_eq_getD_getElem?, Array.getElem?_eq_getElem hlt] at hb
          rw [Array.getElem?_eq_getElem hlt]
          simpa using hb
        simp only [yielded, hgs, Option.bind_some, this]
      by_cases hbw : b = want
      · rw [if_pos hbw] at hf
        have hw : Region.wanted o (yielded ops a.tmps) = true := by simp [Region.wanted, hgo, hy, hbw]
        rw [hw]
        simp only [if_true]
        exact .inl (done hf)
      · rw [if_neg hbw] at hf
        simp only [Option.some.injEq] at hf
        exact skip (by simp [Region.wanted, hgo, hy, hbw]) hf.symm
    · rename_i hv
      simp only [Option.some.injEq] at hf
      have hu : tmv a s = undef := h.ent s _ _ hv (by intro p hp; simp at hp)
      refine skip ?_ hf.symm
      have hy : yielded ops a.tmps j = none := by
        simp only [yielded, hgs, Option.bind_some]
        cases ht : a.tmps[s]? with
        | none => rfl
        | some u =>
          have : u = undef := by
            simp only [tmv, Array.getD_eq_getD_getElem?, ht, Option.getD_some] at hu
            exact hu
          rw [this]; rfl
      simp [Region.wanted, hgo, hy]

/-- In the order of the text. -/
def evR (Γ : Gam) : List ROp → ASt → Option ASt
  | [], σ => some σ
  | r :: rs, σ => ob (rop Γ σ.val r) fun ws => evR Γ rs (σ.puts ws)

theorem region_plain {Γ : Gam} (hΓ : SatE P E Γ) (hC : ∀ b, E.C b → b < E.w0.heap.size) {N : Nat} {ops : Array Oper} {Q : Exit → Act → World → Prop} : ∀ (rs : List ROp) (k : Nat), mregion P N ops rs (ops.toList.drop k) = true → (∀ r ∈ rs, ∀ d, iDst r.x = some d → E.tpin d = none) →
    ∀ {σ σ' : ASt} {a : Act} {w : World}, Rel E σ.val a w → N ≤ a.tmps.size → evR Γ rs σ = some σ' →
      (∀ a' w', Rel E σ'.val a' w' → a'.tmps.size = a.tmps.size → a'.defers = a.defers → Q .normal a' w') → wpOps P ops Q (List.range' k (ops.size - k)) a w
  | [], k, hm, _, σ, σ', a, w, h, hN, he, hq => by
    have : ops.size ≤ k := by
      refine Nat.le_of_not_lt fun hlt => ?_
      have : ops.toList.drop k ≠ [] := by simp; omega
      cases hd : ops.toList.drop k with
      | nil => exact this hd
      | cons x xs => rw [hd] at hm; simp [mregion] at hm
    rw [show ops.size - k = 0 by omega]
    simp only [evR, Option.some.injEq] at he
    subst he
    exact hq a w h rfl rfl
  | r :: rs, k, hm, hpt, σ, σ', a, w, h, hN, he, hq => by
    have hk : k < ops.size := by
      refine Nat.lt_of_not_le fun hle => ?_
      rw [List.drop_eq_nil_of_le (by simpa using hle)] at hm
      simp [mregion] at hm
    have hd : ops.toList.drop k = ops[k] :: ops.toList.drop (k + 1) := by
      rw [List.drop_eq_getElem_cons (by simpa using hk)]; simp
    rw [hd] at hm
    simp only [mregion, Bool.and_eq_true] at hm
    obtain ⟨ws, h1, h2⟩ := ob_some he
    rw [show ops.size - k = (ops.size - (k + 1)) + 1 by omega, List.range'_succ, wpOps_cons]
    refine rop_step hΓ hC hm.1 h hN h1 (hpt r (by simp)) (Array.getElem?_eq_getElem hk) _ fun a' w' hr hs hdf => ?_
    refine region_plain hΓ hC rs (k + 1) hm.2 (fun r hr => hpt r (by simp [hr])) (σ := σ.puts ws) (by rw [val_puts]; exact hr) (by omega) h2 fun a2 w2 hr2 hs2 hd2 => hq a2 w2 hr2 (hs2.trans hs) (hd2.trans hdf)
end
end Go.Fw
namespace Go.Fw
open Go

def overlap (A B : List Res) : Bool := A.any fun r => B.contains r
def conflict (x y : ROp) : Bool := overlap (rwr x) (rrd y ++ rwr y) || overlap (rrd x) (rwr y)
def afterOf (o : Oper) : List Nat := (o.after.toList.filter (Region.binds .any)).map (·.on)
def ordOk (rs : List ROp) (A : List (List Nat)) : Nat → List ROp → Bool
  | _, [] => true
  | j, y :: ys => ((rs.take j).zipIdx.all fun (x, i) => !conflict x y || (A.getD j []).contains i) && ordOk rs A (j + 1) ys
def belowOk : Nat → List (List Nat) → Bool
  | _, [] => true
  | j, ts :: rest => ts.all (fun t => decide (t < j)) && belowOk (j + 1) rest
def drawOk (ops : Array Oper) (rs : List ROp) : Bool :=
  belowOk 0 (ops.toList.map afterOf) && ordOk rs (closeA [] (ops.toList.map afterOf)) 0 rs

theorem belowOk_spec : ∀ (j : Nat) (l : List (List Nat)), belowOk j l = true → ∀ k, k < l.length → ∀ t ∈ l.getD k [], t < j + k
  | j, [], _, k, hk, _, _ => by simp at hk
  | j, ts :: rest, h, k, hk, t, ht => by
    simp only [belowOk, Bool.and_eq_true, List.all_eq_true, decide_eq_true_eq] at h
    cases k with
    | zero => simp at ht; have := h.1 t ht; omega
    | succ k =>
      simp at hk ht
      have := belowOk_spec (j + 1) rest h.2 k hk t (by simpa [List.getD] using ht)
      omega

theorem ordOk_spec {rs : List ROp} {A : List (List Nat)} : ∀ (j : Nat) (l : List ROp), l = rs.drop j → ordOk rs A j l = true → ∀ k, j ≤ k → ∀ (hk : k < rs.length), ∀ i (hi : i < k), conflict (rs[i]'(by omega)) rs[k] = true → i ∈ A.getD k []
  | j, [], hl, _, k, hjk, hk, i, hi, _ => by
    have := congrArg List.length hl
    simp at this
    omega
  | j, y :: ys, hl, h, k, hjk, hk, i, hi, hc => by
    simp only [ordOk, Bool.and_eq_true] at h
    have hj : j < rs.length := by
      have := congrArg List.length hl
      simp at this
      omega
    have hcons : rs.drop j = rs[j] :: rs.drop (j + 1) := List.drop_eq_getElem_cons hj
    rw [hcons] at hl
    simp only [List.cons.injEq] at hl
    obtain ⟨rfl, hl⟩ := hl
    rcases Nat.eq_or_lt_of_le hjk with rfl | hlt
    · have h1 := List.all_eq_true.1 h.1 (rs[i]'(by omega), i) (by
        rw [List.mem_zipIdx_iff_getElem?]
        simp [hi])
      simp only [hc, Bool.not_true, Bool.false_or] at h1
      simpa using h1
    · exact ordOk_spec (j + 1) ys hl h.2 k hlt hk i hi hc

theorem conflict_spec {x y : ROp} (h : ∃ r, (r ∈ rwr x ∧ (r ∈ rrd y ∨ r ∈ rwr y)) ∨ (r ∈ rrd x ∧ r ∈ rwr y)) : conflict x y = true := by
  obtain ⟨r, h | h⟩ := h
  · simp only [conflict, overlap, Bool.or_eq_true, List.any_eq_true]
    exact .inl ⟨r, h.1, by simpa using h.2⟩
  · simp only [conflict, overlap, Bool.or_eq_true, List.any_eq_true]
    exact .inr ⟨r, h.1, by simpa using h.2⟩

theorem evR_trace {Γ : Gam} : ∀ {rs : List ROp} {σ σ' : ASt}, evR Γ rs σ = some σ' → ∃ (vi : Nat → Res → Val) (ws : Nat → List (Res × Val)), vi 0 = σ.val ∧ vi rs.length = σ'.val ∧
    ∀ i (h : i < rs.length), rop Γ (vi i) rs[i] = some (ws i) ∧ vi (i + 1) = appl (vi i) (ws i)
  | [], σ, σ', h => by
    simp only [evR, Option.some.injEq] at h
    subst h
    exact ⟨fun _ => σ.val, fun _ => [], rfl, rfl, fun i h => by simp at h⟩
  | r :: rs, σ, σ', h => by
    obtain ⟨w0, h1, h2⟩ := ob_some h
    obtain ⟨vi, ws, k1, k2, k3⟩ := evR_trace h2
    refine ⟨fun i => match i with | 0 => σ.val | i + 1 => vi i, fun i => match i with | 0 => w0 | i + 1 => ws i, rfl, k2, fun i hi => ?_⟩
    cases i with
    | zero => exact ⟨h1, by show vi 0 = _; rw [k1, val_puts]⟩
    | succ i => exact k3 i (by simpa using hi)

section
variable {P : Program} {E : Env}

theorem mregion_at {N : Nat} {all : Array Oper} : ∀ {rs : List ROp} {os : List Oper}, mregion P N all rs os = true → rs.length = os.length ∧ ∀ i (h : i < rs.length) (h' : i < os.length), mrop P N all rs[i] os[i] = true
  | [], [], _ => ⟨rfl, fun i h => by simp at h⟩
  | [], _ :: _, h => by simp [mregion] at h
  | _ :: _, [], h => by simp [mregion] at h
  | r :: rs, o :: os, h => by
    simp only [mregion, Bool.and_eq_true] at h
    obtain ⟨h1, h2⟩ := mregion_at h.2
    refine ⟨by simp [h1], fun i hi hi' => ?_⟩
    cases i with
    | zero => exact h.1
    | succ i => exact h2 i (by simpa using hi) (by simpa using hi')

def unlisted (n : Nat) (listed : Array Bool) : Nat := (List.range n).countP fun i => !listed.getD i true

theorem unlisted_set {n : Nat} {listed : Array Bool} {i : Nat} (hin : i < n) (hls : listed.size = n) (hnl : listed.getD i true = false) : unlisted n (listed.setIfInBounds i true) < unlisted n listed := by
  have hset : ∀ j, (listed.setIfInBounds i true).getD j true = (if j = i then true else listed.getD j true) := by
    intro j
    rw [Array.getD_eq_getD_getElem?, Array.getElem?_setIfInBounds]
    by_cases e : i = j
    · subst e; simp [hls, hin]
    · simp [e, Ne.symm e, Array.getD_eq_getD_getElem?]
  unfold unlisted
  obtain ⟨l1, l2, hl⟩ := List.append_of_mem (show i ∈ List.range n by simpa using hin)
  have h1 : ∀ l : List Nat, l.countP (fun j => !(listed.setIfInBounds i true).getD j true) ≤ l.countP fun j => !listed.getD j true := fun l =>
    List.countP_mono_left fun j _ hj => by
      rw [hset] at hj
      split at hj
      · simp at hj
      · exact hj
  rw [hl, List.countP_append, List.countP_append, List.countP_cons, List.countP_cons]
  have k1 := h1 l1
  have k2 := h1 l2
  have e1 : (!(listed.setIfInBounds i true).getD i true) = false := by rw [hset, if_pos rfl]; rfl
  have e2 : (!listed.getD i true) = true := by rw [hnl]; rfl
  rw [e1, e2]
  simp only [Bool.false_eq_true, if_false, if_true]
  omega

set_option maxHeartbeats 1000000 in
theorem region_any {Γ : Gam} (hΓ : SatE P E Γ) (hC : ∀ b, E.C b → b < E.w0.heap.size) {N : Nat} {ops : Array Oper} {Q : Exit → Act → World → Prop} {rs : List ROp} (hm : mregion P N ops rs ops.toList = true) (hd : drawOk ops rs = true) (hpt : ∀ r ∈ rs, ∀ d, iDst r.x = some d → E.tpin d = none)
    {σ σ' : ASt} {s : Nat} {ds : List Deferred} (he : evR Γ rs σ = some σ') (hN : N ≤ s) (hq : ∀ a' w', Rel E σ'.val a' w' → a'.tmps.size = s → a'.defers = ds → Q .normal a' w') :
    ∀ {a : Act} {w : World}, Rel E σ.val a w → a.tmps.size = s → a.defers = ds → wpAny P .any ops Q ops.size (Array.replicate ops.size false) a w := by
  obtain ⟨vi, ws, h0, hn, hstep⟩ := evR_trace he
  obtain ⟨hlen, hmat⟩ := mregion_at hm
  have hln : rs.length = ops.size := by rw [hlen]; simp
  simp only [drawOk, Bool.and_eq_true] at hd
  let full := ops.toList.map afterOf
  have hfl : full.length = ops.size := by simp [full]
  let rF : Nat → List Res := fun i => match rs[i]? with | some x => rrd x | none => []
  let wF : Nat → List Res := fun i => match rs[i]? with | some x => rwr x | none => []
  let B : Nat → Nat → Prop := fun i j => i ∈ (closeA [] full).getD j []
  have hB : ∀ i j, i < j → j < ops.size → (∃ r, (r ∈ wF i ∧ (r ∈ rF j ∨ r ∈ wF j)) ∨ (r ∈ rF i ∧ r ∈ wF j)) → B i j := by
    intro i j hij hj hr
    have hj' : j < rs.length := by omega
    have hi' : i < rs.length := by omega
    refine ordOk_spec 0 rs (by simp) hd.2 j (Nat.zero_le _) hj' i hij (conflict_spec ?_)
    simpa [rF, wF, List.getElem?_eq_getElem hj', List.getElem?_eq_getElem hi'] using hr
  have hst : ∀ i, i < ops.size → vi (i + 1) = appl (vi i) (ws i) := fun i hi => (hstep i (by omega)).2
  have hwr : ∀ i, i < ops.size → Wr (ws i) (wF i) := fun i hi => by
    have := rop_wr (hstep i (by omega)).1
    simpa [wF, List.getElem?_eq_getElem (show i < rs.length by omega)] using this
  have hbel := belowOk_spec 0 full hd.1
  -- what closure gives
  have hcl : ∀ (S : Nat → Prop), (∀ k, k < full.length → S k → ∀ t ∈ full.getD k [], S t) → ∀ j, j < ops.size → (∀ t ∈ full.getD j [], S t) → ∀ i, B i j → S i := fun S hS j hj hp i hi =>
    closeA_spec full [] full rfl (fun j hj => by simp at hj) (fun j hj t ht => by have := hbel j hj t ht; omega) j (by omega) i hi hS hp
  -- all states on the way
  have main : ∀ (fuel : Nat) (listed : Array Bool), listed.size = ops.size → unlisted ops.size listed ≤ fuel → (∀ k, k < full.length → listed.getD k true = true → ∀ t ∈ full.getD k [], listed.getD t true = true) →
      ∀ (v : Res → Val) (a : Act) (w : World), Inv ops.size vi wF (fun j => j < ops.size ∧ listed.getD j true = true) v → Rel E v a w → a.tmps.size = s → a.defers = ds → wpAny P .any ops Q fuel listed a w := by
    intro fuel
    induction fuel with
    | zero =>
      intro listed hls hu hc v a w hI hR hs hdf
      have hall : ∀ j, j < ops.size → listed.getD j true = true := by
        intro j hj
        have := List.countP_eq_zero.1 (Nat.le_zero.1 hu) j (by simpa using hj)
        simpa using this
      have : Region.ready .any ops listed = [] := by
        simp only [Region.ready, List.filter_eq_nil_iff, List.mem_range]
        intro j hj
        simp [hall j hj]
      refine ⟨this, hq a w ?_ hs hdf⟩
      rw [← hn, hln, ← inv_all hI (fun j hj => ⟨hj, hall j hj⟩)]
      exact hR
    | succ fuel ih =>
      intro listed hls hu hc v a w hI hR hs hdf
      refine ⟨fun hr => ?_, fun i hi => ?_⟩
      · have hall : ∀ m, ∀ j, j < m → j < ops.size → listed.getD j true = true := by
          intro m
          induction m with
          | zero => intro j hj; omega
          | succ m ihm =>
            intro j hj hjn
            rcases Nat.lt_or_eq_of_le (Nat.le_of_lt_succ hj) with hlt | rfl
            · exact ihm j hlt hjn
            · simp only [Region.ready, List.filter_eq_nil_iff, List.mem_range] at hr
              have h1 := hr j hjn
              refine Classical.byContradiction fun hne => h1 ?_
              have hfalse : listed.getD j true = false := by simpa using hne
              simp only [hfalse, Bool.not_false, Bool.true_and, Array.getElem?_eq_getElem hjn, Option.map_some, Option.getD_some]
              rw [Array.all_eq_true_iff_forall_mem]
              intro e he
              by_cases hb : Region.binds .any e = true
              · have het : e.on ∈ full.getD j [] := by
                  have : full.getD j [] = afterOf ops[j] := by simp [full, List.getD, List.getElem?_map, Array.getElem?_toList, Array.getElem?_eq_getElem hjn]
                  rw [this]
                  simp only [afterOf, List.mem_map, List.mem_filter]
                  exact ⟨e, ⟨by simpa using he, hb⟩, rfl⟩
                have hlt := hbel j (by omega) e.on het
                have hl := ihm e.on (by omega) (by omega)
                have : listed.getD e.on false = true := by
                  rw [Array.getD_eq_getD_getElem?] at hl ⊢
                  rw [Array.getElem?_eq_getElem (by omega)] at hl ⊢
                  exact hl
                simp [this]
              · simp [hb]
        refine hq a w ?_ hs hdf
        rw [← hn, hln, ← inv_all hI (fun j hj => ⟨hj, hall (j + 1) j (by omega) hj⟩)]
        exact hR
      · simp only [Region.ready, List.mem_filter, List.mem_range, Bool.and_eq_true, Bool.not_eq_true'] at hi
        obtain ⟨hin, hnl, haf⟩ := hi
        rw [Array.getElem?_eq_getElem hin] at haf
        simp only [Option.map_some, Option.getD_some, Array.all_eq_true_iff_forall_mem, Bool.or_eq_true, Bool.not_eq_true'] at haf
        have hpre : ∀ t ∈ full.getD i [], t < ops.size ∧ listed.getD t true = true := by
          intro t ht
          have htl := hbel i (by omega) t ht
          have : full.getD i [] = afterOf ops[i] := by simp [full, List.getD, List.getElem?_map, Array.getElem?_toList, Array.getElem?_eq_getElem hin]
          rw [this] at ht
          simp only [afterOf, List.mem_map, List.mem_filter] at ht
          obtain ⟨e, ⟨he, hb⟩, rfl⟩ := ht
          rcases haf e (by simpa using he) with h | h
          · rw [hb] at h; simp at h
          · refine ⟨by omega, ?_⟩
            rw [Array.getD_eq_getD_getElem?] at h ⊢
            rw [Array.getElem?_eq_getElem (by omega)] at h ⊢
            exact h
        have hcS : ∀ k, k < full.length → (k < ops.size ∧ listed.getD k true = true) → ∀ t ∈ full.getD k [], t < ops.size ∧ listed.getD t true = true := fun k hk hS t ht =>
          ⟨by have := hbel k hk t ht; omega, hc k hk hS.2 t ht⟩
        obtain ⟨agr, hI'⟩ := inv_step (R := rF) hst hwr hB (S := fun j => j < ops.size ∧ listed.getD j true = true)
          (fun i' j hj hb hS => hcl _ hcS j hj (hcS j (by omega) hS) i' hb) hI hin (fun h => by rw [hnl] at h; simp at h) (fun j hb => hcl _ hcS i hin hpre j hb)
        have hri := hstep i (by omega)
        have agr' : Agr v (vi i) (rrd rs[i]) := by
          intro r hr
          refine agr r (List.mem_append.2 (.inl ?_))
          simpa [rF, List.getElem?_eq_getElem (show i < rs.length by omega)] using hr
        have hrop : rop Γ v rs[i] = some (ws i) := by rw [rop_congr agr']; exact hri.1
        refine rop_step hΓ hC (hmat i (by omega) (by simpa using hin)) hR (by omega) hrop (hpt _ (List.getElem_mem _)) (by simp) _ fun a' w' hR' hs' hd' => ?_
        have hset : ∀ j, (listed.setIfInBounds i true).getD j true = (if j = i then true else listed.getD j true) := by
          intro j
          rw [Array.getD_eq_getD_getElem?, Array.getElem?_setIfInBounds]
          by_cases e : i = j
          · subst e; simp [hls, hin]
          · simp [e, Ne.symm e, Array.getD_eq_getD_getElem?]
        refine ih (listed.setIfInBounds i true) (by simpa using hls) ?_ ?_ (appl v (ws i)) a' w' ?_ hR' (hs'.trans hs) (hd'.trans hdf)
        · -- one fewer
          have hlt := unlisted_set hin hls hnl
          omega
        · intro k hk hl t ht
          rw [hset] at hl ⊢
          by_cases e : k = i
          · subst e
            split
            · rfl
            · exact (hpre t ht).2
          · rw [if_neg e] at hl
            split
            · rfl
            · exact hc k hk hl t ht
        · have : (fun j => j < ops.size ∧ (listed.setIfInBounds i true).getD j true = true) = (fun j => (j < ops.size ∧ listed.getD j true = true) ∨ j = i) := by
            funext j
            rw [hset]
            apply propext
            by_cases e : j = i
            · subst e; simp [hin]
            · simp [e]
          rw [this]
          exact hI'
  intro a w hR hs hdf
  refine main ops.size _ (by simp) ?_ ?_ σ.val a w ?_ hR hs hdf
  · unfold unlisted
    exact Nat.le_trans List.countP_le_length (by simp)
  · intro k hk hl
    have : (Array.replicate ops.size false).getD k true = false := by
      rw [Array.getD_eq_getD_getElem?, Array.getElem?_replicate, if_pos (by omega)]; rfl
    rw [this] at hl
    simp at hl
  · have : (fun j => j < ops.size ∧ (Array.replicate ops.size false).getD j true = true) = fun _ => False := by
      funext j
      apply propext
      refine ⟨fun h => ?_, False.elim⟩
      have h2 : (Array.replicate ops.size false).getD j true = false := by
        rw [Array.getD_eq_getD_getElem?, Array.getElem?_replicate, if_pos h.1]; rfl
      rw [h2] at h
      simp at h
    rw [this]
    exact inv_zero h0.symm hst hwr
end
end Go.Fw
