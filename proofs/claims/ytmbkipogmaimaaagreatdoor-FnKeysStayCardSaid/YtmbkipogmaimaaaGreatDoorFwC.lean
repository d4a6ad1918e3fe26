/- The framework, part C: what relates the interpreter's state to slots and memory, and that a step keeps it. Conditions: none. -/
import Derived.Test.YtmbkipogmaimaaaGreatDoorFwB
namespace Go.Fw
open Go

/-- The blocks that callers may still turn; those that came in to be turned; the world as the call began. -/
structure Env where
  C : Nat → Prop
  M : Nat → Prop
  w0 : World
  pin : Nat → Option Nat

def Rt.res : Rt → Res
  | .b n => .b n
  | .t n => .t n

/-- Which blocks a value with these stamps may lean on. -/
def XB (w : World) (φ : Res → Foot) (st : Stamps) (b : Nat) : Prop := b < w.heap.size ∧ ∀ r, φ r b ≠ 0 → ∃ p ∈ st, Rt.res p.1 = r
def XS (E : Env) (w : World) (φ : Res → Foot) (b : Nat) : Prop := b < w.heap.size ∧ (∀ r, φ r b = 0) ∧ ¬ E.C b

/-- Through slices' headers, from the cells that lie at a block from an offset on. -/
def Along (w : World) (own : Nat → Prop) : Nat → Nat → Path → Nat → Nat → Nat → Prop
  | b, o, [], off, b', o' => own b ∧ b' = b ∧ o' = o + off
  | b, o, (k, i, e) :: p, off, b', o' => own b ∧ ∃ s so len cap, w.cell? ⟨b, o + k, none⟩ = some (.slice (some ⟨s, so, none⟩) len cap) ∧ Along w own s (so + i * e) p off b' o'

def Reach (w : World) (tm : Nat → Value) (β : Nat → Nat) (own : Nat → Prop) : Rt → Path → Nat → Nat → Nat → Prop
  | .b n, p, off, b', o' => Along w own (β n) 0 p off b' o'
  | .t n, (k, i, e) :: p, off, b', o' => k = 0 ∧ ∃ s so len cap, tm n = .slice (some ⟨s, so, none⟩) len cap ∧ Along w own s (so + i * e) p off b' o'
  | .t _, [], _, _, _ => False

def isNope : Val → Bool
  | .nope => true
  | _ => false

def RepPl (w : World) (Xs X : Nat → Prop) (a : Bool) (cs : List AC) (u : Value) (φ : Foot) : Prop :=
  ∃ vals, RepL w Xs X cs vals φ ∧ (if a then u = .agg vals.toArray else vals = [u])

inductive RepTup (w : World) (Xs X : Nat → Prop) : List (Bool × List AC) → List Value → Foot → Prop where
  | nil : RepTup w Xs X [] [] (fun _ => 0)
  | cons {a : Bool} {cs : List AC} {u : Value} {vs : List (Bool × List AC)} {us : List Value} {φ ψ : Foot} (h : RepPl w Xs X a cs u φ) (t : RepTup w Xs X vs us ψ) :
      RepTup w Xs X ((a, cs) :: vs) (u :: us) (fun x => φ x + ψ x)

def RepTV (E : Env) (w : World) (tm : Nat → Value) (β : Nat → Nat) (φ : Res → Foot) (v : Res → Val) (st : Stamps) (u : Value) (f : Foot) : TV → Prop
  | .pl a cs => RepPl w (XS E w φ) (XB w φ st) a cs u f
  | .tup vs => ∃ us, u = .tuple us.toArray ∧ RepTup w (XS E w φ) (XB w φ st) vs us f
  | .ptr r p off => isNope (v r.res) = false ∧ (p = [] ∨ ∃ q ∈ st, q.1 = r) ∧ ∃ b o, u = .pointer (some ⟨b, o, none⟩) ∧ Reach w tm β (fun x => φ r.res x ≠ 0) r p off b o
  | .view cs => ∃ b o vals, u = .pointer (some ⟨b, o, none⟩) ∧ XB w φ st b ∧ Cells w b o vals ∧ RepL w (XS E w φ) (XB w φ st) cs vals (fun _ => 0)
  | .ali r p off => isNope (v r.res) = false ∧ (∃ q ∈ st, q.1 = r) ∧ (match r, p with
      | .t s, [] => off = 0 ∧ u = tm s
      | r, p => ∃ b o, Reach w tm β (fun x => φ r.res x ≠ 0) r p off b o ∧ w.cell? ⟨b, o, none⟩ = some u)
  | .fn g caps => ∃ us : List Value, u = .func (.func g) #[] us.toArray ∧ us.length = caps.length ∧ ∀ j (h : j < us.length) (h' : j < caps.length), ∃ b o vals, us[j] = .pointer (some ⟨b, o, none⟩) ∧
      XB w φ st b ∧ Cells w b o vals ∧ RepL w (XB w φ st) (XB w φ st) caps[j] vals (fun _ => 0)

  | .pfx s k => isNope (v (.t s)) = false ∧ (∃ q ∈ st, q.1 = .t s) ∧ ∃ base len cap, tm s = .slice base len cap ∧ k ≤ len ∧ u = .slice base k cap
  | .und => u = undef
  | .mp es => ∃ b ents clock, u = .map (some b) ∧ w.heap[b]? = some (.map ents clock) ∧ ents.toList.map (fun e => (e.key, e.val)) = es.map (fun e => (Value.int .i64 e.1, Value.bool e.2)) ∧ f = fun x => if x = b then 1 else 0

def Live (v : Res → Val) (st : Stamps) : Prop := ∀ p ∈ st, ver v p.1 = p.2

structure RelW (E : Env) (v : Res → Val) (tm : Nat → Value) (w : World) (β : Nat → Nat) (φ : Res → Foot) : Prop where
  le1 : ∀ r b, φ r b ≤ 1
  uniq : ∀ r s b, φ r b ≠ 0 → φ s b ≠ 0 → r = s
  dom : ∀ r b, φ r b ≠ 0 → b < w.heap.size ∧ ¬ E.C b ∧ (E.w0.heap.size ≤ b ∨ E.M b)
  past : ∀ n st tv, v (.t n) = .t st tv → ∀ p ∈ st, p.2 ≤ ver v p.1
  here : ∀ n st tv, v (.t n) = .t st tv → Live v st → ∀ p ∈ st, isNope (v p.1.res) = false
  ent : ∀ n st tv, v (.t n) = .t st tv → Live v st → RepTV E w tm β φ v st (tm n) (φ (.t n)) tv
  box : ∀ n cs, v (.b n) = .b cs → ∃ vals ψ, Cells w (β n) 0 vals ∧ Avail w (β n) 0 vals.length ∧ RepL w (XS E w φ) (XB w φ []) cs vals ψ ∧
    (∀ x, φ (.b n) x = (if x = β n then 1 else 0) + ψ x)
  os : w.os = E.w0.os
  tape : w.tape = E.w0.tape
  output : w.output = E.w0.output
  size : E.w0.heap.size ≤ w.heap.size
  old : ∀ b, b < E.w0.heap.size → ¬ E.M b → w.heap[b]? = E.w0.heap[b]?
  pin : ∀ n b, E.pin n = some b → isNope (v (.b n)) = false ∧ β n = b

theorem Along.mono {w w' : World} {own own' : Nat → Prop} (h : ∀ b, own b → own' b ∧ w'.heap[b]? = w.heap[b]?) : ∀ {p : Path} {b o off b' o' : Nat}, Along w own b o p off b' o' → Along w' own' b o p off b' o'
  | [], _, _, _, _, _, ⟨h1, h2, h3⟩ => ⟨(h _ h1).1, h2, h3⟩
  | _ :: _, _, _, _, _, _, ⟨h1, s, so, len, cap, h2, h3⟩ => ⟨(h _ h1).1, s, so, len, cap, (cell?_same (h _ h1).2 _).trans h2, Along.mono h h3⟩
theorem Reach.mono {w w' : World} {tm tm' : Nat → Value} {β β' : Nat → Nat} {own own' : Nat → Prop} (h : ∀ b, own b → own' b ∧ w'.heap[b]? = w.heap[b]?) {r : Rt} {p : Path} {off b o : Nat}
    (hb : ∀ n, r = .b n → β' n = β n) (ht : ∀ n, r = .t n → tm' n = tm n) (hr : Reach w tm β own r p off b o) : Reach w' tm' β' own' r p off b o := by
  cases r with
  | b n => simp only [Reach] at *; rw [hb n rfl]; exact hr.mono h
  | t n =>
    cases p with
    | nil => exact hr
    | cons x p =>
      obtain ⟨h0, s, so, len, cap, h1, h2⟩ := hr
      exact ⟨h0, s, so, len, cap, (ht n rfl).trans h1, h2.mono h⟩

theorem Along.last {w : World} {own : Nat → Prop} : ∀ {p : Path} {b o off b' o' : Nat}, Along w own b o p off b' o' → own b'
  | [], _, _, _, _, _, ⟨h1, h2, _⟩ => h2 ▸ h1
  | _ :: _, _, _, _, _, _, ⟨_, _, _, _, _, _, h3⟩ => h3.last
theorem Reach.last {w : World} {tm : Nat → Value} {β : Nat → Nat} {own : Nat → Prop} {r : Rt} {p : Path} {off b o : Nat} (h : Reach w tm β own r p off b o) : own b := by
  cases r with
  | b n => exact Along.last h
  | t n =>
    cases p with
    | nil => exact h.elim
    | cons x p => obtain ⟨_, _, _, _, _, _, h2⟩ := h; exact h2.last

theorem RepTup.frame {w w' : World} {Xs X Xs' X' : Nat → Prop} {vs : List (Bool × List AC)} {us : List Value} {φ : Foot} (h : RepTup w Xs X vs us φ) (hz : w.heap.size ≤ w'.heap.size)
    (hs : ∀ b, Xs b → Xs' b ∧ w'.heap[b]? = w.heap[b]?) (hb : ∀ b, X b → X' b ∧ w'.heap[b]? = w.heap[b]?) (ho : ∀ b, φ b ≠ 0 → w'.heap[b]? = w.heap[b]?) : RepTup w' Xs' X' vs us φ := by
  induction h with
  | nil => exact .nil
  | cons h t ih =>
    obtain ⟨vals, h1, h2⟩ := h
    exact .cons ⟨vals, h1.frame hz hs hb (fun b hb => ho b (by dsimp only; omega)), h2⟩ (ih (fun b hb => ho b (by dsimp only; omega)))

theorem isNope_iff {x : Val} : isNope x = true ↔ x = .nope := by cases x <;> simp [isNope]

/-- A step: some resources are written; what is not written leans on nothing that turned. -/
structure Stp (E : Env) (v v' : Res → Val) (tm tm' : Nat → Value) (w w' : World) (β β' : Nat → Nat) (φ φ' : Res → Foot) (W : Res → Prop) : Prop where
  le1 : ∀ r b, φ' r b ≤ 1
  uniq : ∀ r s b, φ' r b ≠ 0 → φ' s b ≠ 0 → r = s
  dom : ∀ r b, φ' r b ≠ 0 → b < w'.heap.size ∧ ¬ E.C b ∧ (E.w0.heap.size ≤ b ∨ E.M b)
  same : ∀ r, (∀ q, r ≠ .v q) → ¬ W r → v' r = v r ∧ φ' r = φ r
  vers : ∀ q, ver v q ≤ ver v' q
  bump : ∀ q, W q.res → isNope (v q.res) = false → ver v q < ver v' q
  btm : ∀ n, ¬ W (.t n) → tm' n = tm n
  bβ : ∀ n, ¬ W (.b n) → β' n = β n
  bkeep : ∀ n, W (.b n) → isNope (v (.b n)) = false → β' n = β n ∧ φ' (.b n) (β n) ≠ 0 ∧ isNope (v' (.b n)) = false
  free : ∀ b, b < w.heap.size → (∀ r, φ r b = 0) → ∀ r, φ' r b = 0
  heap : ∀ b, b < w.heap.size → ((∀ r, φ r b = 0) ∨ ∃ r, ¬ W r ∧ φ r b ≠ 0) → w'.heap[b]? = w.heap[b]?
  os : w'.os = w.os
  tape : w'.tape = w.tape
  output : w'.output = w.output
  size : w.heap.size ≤ w'.heap.size
  old : ∀ b, b < w.heap.size → ¬ (E.w0.heap.size ≤ b ∨ E.M b) → w'.heap[b]? = w.heap[b]?

theorem Rt.res_ne (r q : Rt) : r.res ≠ .v q := by cases r <;> simp [Rt.res]

section
variable {E : Env} {v v' : Res → Val} {tm tm' : Nat → Value} {w w' : World} {β β' : Nat → Nat} {φ φ' : Res → Foot} {W : Res → Prop}

theorem Stp.xb (h : Stp E v v' tm tm' w w' β β' φ φ' W) {st : Stamps} (hst : ∀ p ∈ st, ¬ W p.1.res) (b : Nat) (hb : XB w φ st b) : XB w' φ' st b ∧ w'.heap[b]? = w.heap[b]? := by
  have hz := h.size
  obtain ⟨hb1, hb2⟩ := hb
  by_cases hf : ∀ r, φ r b = 0
  · exact ⟨⟨by omega, fun r hr => absurd (h.free b hb1 hf r) hr⟩, h.heap b hb1 (.inl hf)⟩
  · obtain ⟨r, hr⟩ := Classical.not_forall.1 hf
    obtain ⟨p, hp, hpr⟩ := hb2 r hr
    have hw : ¬ W r := hpr ▸ hst p hp
    refine ⟨⟨by omega, fun s hs => ⟨p, hp, ?_⟩⟩, h.heap b hb1 (.inr ⟨r, hw, hr⟩)⟩
    have : φ' r b ≠ 0 := by rw [(h.same r (hpr ▸ p.1.res_ne) hw).2]; exact hr
    rw [hpr]
    exact h.uniq _ _ b this hs
theorem Stp.xs (h : Stp E v v' tm tm' w w' β β' φ φ' W) (b : Nat) (hb : XS E w φ b) : XS E w' φ' b ∧ w'.heap[b]? = w.heap[b]? :=
  ⟨⟨Nat.lt_of_lt_of_le hb.1 h.size, h.free b hb.1 hb.2.1, hb.2.2⟩, h.heap b hb.1 (.inl hb.2.1)⟩
theorem Stp.own (h : Stp E v v' tm tm' w w' β β' φ φ' W) {r : Res} (hd : ∀ b, φ r b ≠ 0 → b < w.heap.size) (hq : ∀ q, r ≠ .v q) (hw : ¬ W r) (b : Nat) (hb : φ r b ≠ 0) : φ' r b ≠ 0 ∧ w'.heap[b]? = w.heap[b]? :=
  ⟨by rw [(h.same r hq hw).2]; exact hb, h.heap b (hd b hb) (.inr ⟨r, hw, hb⟩)⟩

/-- What leans on nothing that was written still holds of a value. -/
theorem Stp.carry (h : Stp E v v' tm tm' w w' β β' φ φ' W) (hR : RelW E v tm w β φ) {st : Stamps} (hst : ∀ p ∈ st, ¬ W p.1.res) {u : Value} {f : Foot} (hf : ∀ b, f b ≠ 0 → w'.heap[b]? = w.heap[b]?)
    {tv : TV} (e : RepTV E w tm β φ v st u f tv) : RepTV E w' tm' β' φ' v' st u f tv := by
  have dom := fun r b hb => (hR.dom r b hb).1
  have reach : ∀ (r : Rt) p off b o, ¬ W r.res → Reach w tm β (fun x => φ r.res x ≠ 0) r p off b o → Reach w' tm' β' (fun x => φ' r.res x ≠ 0) r p off b o := by
    intro r p off b o hw hr
    refine hr.mono (fun b hb => h.own (dom r.res) r.res_ne hw b hb) (fun n e => h.bβ n ?_) (fun n e => h.btm n ?_) <;> (subst e; exact hw)
  have vsame : ∀ r : Rt, ¬ W r.res → v' r.res = v r.res := fun r hw => (h.same _ r.res_ne hw).1
  cases tv with
  | pl a cs =>
    obtain ⟨vals, e1, e2⟩ := e
    exact ⟨vals, e1.frame h.size h.xs (h.xb hst) hf, e2⟩
  | tup vs =>
    obtain ⟨us, e1, e2⟩ := e
    exact ⟨us, e1, e2.frame h.size h.xs (h.xb hst) hf⟩
  | ptr r p off =>
    obtain ⟨e0, e1, b, o, e2, e3⟩ := e
    by_cases hr : W r.res
    · rcases e1 with rfl | ⟨q, hq, rfl⟩
      · cases r with
        | t n => exact e3.elim
        | b m =>
          obtain ⟨k1, k2, k3⟩ := h.bkeep m hr e0
          obtain ⟨g1, g2, g3⟩ := e3
          refine ⟨k3, .inl rfl, b, o, e2, ?_, ?_, g3⟩
          · rw [k1]; exact k2
          · rw [k1]; exact g2
      · exact absurd hr (hst q hq)
    · exact ⟨by rw [vsame _ hr]; exact e0, e1, b, o, e2, reach _ _ _ _ _ hr e3⟩
  | view cs =>
    obtain ⟨b, o, vals, e1, e2, e3, e4⟩ := e
    have k2 := h.xb hst b e2
    exact ⟨b, o, vals, e1, k2.1, e3.same k2.2, e4.frame h.size h.xs (h.xb hst) (fun _ hx => absurd rfl hx)⟩
  | ali r p off =>
    obtain ⟨e0, ⟨q, hq, rfl⟩, e2⟩ := e
    have hr := hst q hq
    refine ⟨by rw [vsame _ hr]; exact e0, ⟨q, hq, rfl⟩, ?_⟩
    have go : ∀ b o, Reach w tm β (fun x => φ q.1.res x ≠ 0) q.1 p off b o ∧ w.cell? ⟨b, o, none⟩ = some u →
        Reach w' tm' β' (fun x => φ' q.1.res x ≠ 0) q.1 p off b o ∧ w'.cell? ⟨b, o, none⟩ = some u := fun b o ⟨g1, g2⟩ =>
      ⟨reach _ _ _ _ _ hr g1, (cell?_same (h.own (dom _) q.1.res_ne hr b g1.last).2 o).trans g2⟩
    split at e2
    · rename_i s hs
      rw [hs] at hr
      exact ⟨e2.1, e2.2.trans (h.btm s hr).symm⟩
    · obtain ⟨b, o, g⟩ := e2
      exact ⟨b, o, go b o g⟩
  | und => exact e
  | pfx s k =>
    obtain ⟨e0, ⟨q, hq, hqs⟩, base, len, cap, e1, e2, e3⟩ := e
    have hr := hst q hq
    rw [hqs] at hr
    have e0' := vsame (.t s) hr
    exact ⟨by rw [show v' (.t s) = v (.t s) from e0']; exact e0, ⟨q, hq, hqs⟩, base, len, cap, (h.btm s hr).trans e1, e2, e3⟩
  | mp es =>
    obtain ⟨b, ents, clock, e1, e2, e3, e4⟩ := e
    exact ⟨b, ents, clock, e1, (hf b (by rw [e4]; simp)).trans e2, e3, e4⟩
  | fn g caps =>
    obtain ⟨us, e1, e2, e3⟩ := e
    refine ⟨us, e1, e2, fun j h1 h2 => ?_⟩
    obtain ⟨b, o, vals, f1, f2, f3, f4⟩ := e3 j h1 h2
    have k2 := h.xb hst b f2
    exact ⟨b, o, vals, f1, k2.1, f3.same k2.2, f4.frame h.size (h.xb hst) (h.xb hst) (fun _ hx => absurd rfl hx)⟩

theorem RelW.step (hR : RelW E v tm w β φ) (h : Stp E v v' tm tm' w w' β β' φ φ' W)
    (past : ∀ n st tv, W (.t n) → v' (.t n) = .t st tv → ∀ p ∈ st, p.2 ≤ ver v' p.1)
    (here : ∀ n st tv, W (.t n) → v' (.t n) = .t st tv → Live v' st → ∀ p ∈ st, isNope (v' p.1.res) = false)
    (ent : ∀ n st tv, W (.t n) → v' (.t n) = .t st tv → Live v' st → RepTV E w' tm' β' φ' v' st (tm' n) (φ' (.t n)) tv)
    (box : ∀ n cs, W (.b n) → v' (.b n) = .b cs → ∃ vals ψ, Cells w' (β' n) 0 vals ∧ Avail w' (β' n) 0 vals.length ∧ RepL w' (XS E w' φ') (XB w' φ' []) cs vals ψ ∧
      (∀ x, φ' (.b n) x = (if x = β' n then 1 else 0) + ψ x)) : RelW E v' tm' w' β' φ' := by
  have dom := fun r b hb => (hR.dom r b hb).1
  have keepLive : ∀ n st tv, ¬ W (.t n) → v (.t n) = .t st tv → Live v' st → Live v st ∧ ∀ p ∈ st, ¬ W p.1.res ∧ isNope (v p.1.res) = false := by
    intro n st tv hn hv hl
    have hst : Live v st := fun p hp => by
      have h1 := hR.past n st tv hv p hp
      have h2 := h.vers p.1
      have h3 := hl p hp
      omega
    refine ⟨hst, fun p hp => ⟨fun hw => ?_, hR.here n st tv hv hst p hp⟩⟩
    have h1 := h.bump p.1 hw (hR.here n st tv hv hst p hp)
    have h2 := hl p hp
    have h3 := hst p hp
    omega
  refine ⟨h.le1, h.uniq, h.dom, ?_, ?_, ?_, ?_, h.os.trans hR.os, h.tape.trans hR.tape, h.output.trans hR.output, Nat.le_trans hR.size h.size, fun b hb hm => ?_, fun n b hn => ?_⟩
  · intro n st tv hv p hp
    by_cases hw : W (.t n)
    · exact past n st tv hw hv p hp
    · rw [(h.same _ (by simp) hw).1] at hv
      exact Nat.le_trans (hR.past n st tv hv p hp) (h.vers p.1)
  · intro n st tv hv hl p hp
    by_cases hw : W (.t n)
    · exact here n st tv hw hv hl p hp
    · rw [(h.same _ (by simp) hw).1] at hv
      have k := (keepLive n st tv hw hv hl).2 p hp
      rw [(h.same _ p.1.res_ne k.1).1]
      exact k.2
  · intro n st tv hv hl
    by_cases hw : W (.t n)
    · exact ent n st tv hw hv hl
    · rw [(h.same _ (by simp) hw).1] at hv
      have k := keepLive n st tv hw hv hl
      have hst : ∀ p ∈ st, ¬ W p.1.res := fun p hp => (k.2 p hp).1
      rw [h.btm n hw, (h.same _ (by simp) hw).2]
      exact h.carry hR hst (fun b hb => (h.own (dom _) (by simp) hw b hb).2) (hR.ent n st tv hv k.1)
  · intro n cs hv
    by_cases hw : W (.b n)
    · exact box n cs hw hv
    · rw [(h.same _ (by simp) hw).1] at hv
      obtain ⟨vals, ψ, e1, e2, e3, e4⟩ := hR.box n cs hv
      have hβ := h.bβ n hw
      have o1 : w'.heap[β n]? = w.heap[β n]? := (h.own (dom _) (by simp) hw (β n) (by rw [e4]; simp)).2
      refine ⟨vals, ψ, by rw [hβ]; exact e1.same o1, by rw [hβ]; exact e2.same o1, ?_, fun x => by rw [hβ, (h.same _ (by simp) hw).2]; exact e4 x⟩
      exact e3.frame h.size h.xs (h.xb (by simp)) (fun b hb => (h.own (dom _) (by simp) hw b (by rw [e4]; omega)).2)
  · rw [← hR.old b hb hm]
    exact h.old b (Nat.lt_of_lt_of_le hb hR.size) (fun h1 => h1.elim (fun h2 => absurd hb (by omega)) hm)
  · obtain ⟨k1, k2⟩ := hR.pin n b hn
    by_cases hw : W (.b n)
    · obtain ⟨g1, _, g3⟩ := h.bkeep n hw k1
      exact ⟨g3, g1.trans k2⟩
    · exact ⟨by rw [(h.same _ (by simp) hw).1]; exact k1, (h.bβ n hw).trans k2⟩
end
end Go.Fw
