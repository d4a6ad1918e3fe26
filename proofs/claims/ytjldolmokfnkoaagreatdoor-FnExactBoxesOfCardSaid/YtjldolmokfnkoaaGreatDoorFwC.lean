/- The framework, part C: what relates the interpreter's state to slots and memory, and that a step keeps it. The framework, part D: cells at a place are read, and written. Conditions: none. -/
import Derived.Test.YtjldolmokfnkoaaGreatDoorFwB
namespace Go.Fw
open Go

/-- The blocks that callers may still turn; those that came in to be turned; the world as the call began. -/
structure Env where
  C : Nat → Prop
  M : Nat → Prop
  w0 : World
  pin : Nat → Option Nat
  tpin : Nat → Option Value

def Rt.res : Rt → Res
  | .b n => .b n
  | .t n => .t n

/-- Which blocks a value with these stamps may lean on. -/
def XB (w : World) (φ : Res → Foot) (st : Stamps) (b : Nat) : Prop := b < w.heap.size ∧ ∀ r, φ r b ≠ 0 → ∃ p ∈ st, Rt.res p.1 = r
def XS (E : Env) (w : World) (φ : Res → Foot) (b : Nat) : Prop := b < w.heap.size ∧ (∀ r, φ r b = 0) ∧ ¬ E.C b

/-- Through slices' headers, from the cells that lie at a block from an offset on. -/
def Along (w : World) (own : Nat → Prop) : Nat → Nat → Path → Nat → Nat → Nat → Prop
  | b, o, [], off, b', o' => own b ∧ b' = b ∧ o' = o + off
  | b, o, (k, i, e) :: p, off, b', o' => own b ∧ ∃ s so len cap, w.cell? ⟨b, o + k, none⟩ = some (.slice (some ⟨s, so, none⟩) len cap) ∧ Along w own s (so + i * e) p off b' o'

def Reach (w : World) (tm : Nat → Value) (β : Nat → Nat) (own : Nat → Prop) : Rt → Path → Nat → Nat → Nat → Prop
  | .b n, p, off, b', o' => Along w own (β n) 0 p off b' o'
  | .t n, (k, i, e) :: p, off, b', o' => k = 0 ∧ ∃ s so len cap, tm n = .slice (some ⟨s, so, none⟩) len cap ∧ Along w own s (so + i * e) p off b' o'
  | .t _, [], _, _, _ => False

def isNope : Val → Bool
  | .nope => true
  | _ => false

def RepPl (w : World) (Xs X : Nat → Prop) (a : Bool) (cs : List AC) (u : Value) (φ : Foot) : Prop :=
  ∃ vals, RepL w Xs X cs vals φ ∧ (if a then u = .agg vals.toArray else vals = [u])

inductive RepTup (w : World) (Xs X : Nat → Prop) : List (Bool × List AC) → List Value → Foot → Prop where
  | nil : RepTup w Xs X [] [] (fun _ => 0)
  | cons {a : Bool} {cs : List AC} {u : Value} {vs : List (Bool × List AC)} {us : List Value} {φ ψ : Foot} (h : RepPl w Xs X a cs u φ) (t : RepTup w Xs X vs us ψ) :
      RepTup w Xs X ((a, cs) :: vs) (u :: us) (fun x => φ x + ψ x)

def RepTV (E : Env) (w : World) (tm : Nat → Value) (β : Nat → Nat) (φ : Res → Foot) (v : Res → Val) (st : Stamps) (u : Value) (f : Foot) : TV → Prop
  | .pl a cs => RepPl w (XS E w φ) (XB w φ st) a cs u f
  | .tup vs => ∃ us, u = .tuple us.toArray ∧ RepTup w (XS E w φ) (XB w φ st) vs us f
  | .ptr r p off => isNope (v r.res) = false ∧ (p = [] ∨ ∃ q ∈ st, q.1 = r) ∧ ∃ b o, u = .pointer (some ⟨b, o, none⟩) ∧ Reach w tm β (fun x => φ r.res x ≠ 0) r p off b o
  | .view cs => ∃ b o vals, u = .pointer (some ⟨b, o, none⟩) ∧ XB w φ st b ∧ Cells w b o vals ∧ RepL w (XS E w φ) (XB w φ st) cs vals (fun _ => 0)
  | .ali r p off => isNope (v r.res) = false ∧ (∃ q ∈ st, q.1 = r) ∧ (match r, p with
      | .t s, [] => off = 0 ∧ u = tm s
      | r, p => ∃ b o, Reach w tm β (fun x => φ r.res x ≠ 0) r p off b o ∧ w.cell? ⟨b, o, none⟩ = some u)
  | .fn g caps => ∃ us : List Value, u = .func (.func g) #[] us.toArray ∧ us.length = caps.length ∧ ∀ j (h : j < us.length) (h' : j < caps.length), ∃ b o vals, us[j] = .pointer (some ⟨b, o, none⟩) ∧
      XB w φ st b ∧ Cells w b o vals ∧ RepL w (XB w φ st) (XB w φ st) caps[j] vals (fun _ => 0)

  | .pfx s k => isNope (v (.t s)) = false ∧ (∃ q ∈ st, q.1 = .t s) ∧ ∃ base len cap, tm s = .slice base len cap ∧ k ≤ len ∧ u = .slice base k cap
  | .und => u = undef
  | .mp es => ∃ b ents clock, u = .map (some b) ∧ w.heap[b]? = some (.map ents clock) ∧ ents.toList.map (fun e => (e.key, e.val)) = es.map (fun e => (Value.int .i64 e.1, Value.bool e.2)) ∧ f = fun x => if x = b then 1 else 0

def Live (v : Res → Val) (st : Stamps) : Prop := ∀ p ∈ st, ver v p.1 = p.2

structure RelW (E : Env) (v : Res → Val) (tm : Nat → Value) (w : World) (β : Nat → Nat) (φ : Res → Foot) : Prop where
  le1 : ∀ r b, φ r b ≤ 1
  uniq : ∀ r s b, φ r b ≠ 0 → φ s b ≠ 0 → r = s
  dom : ∀ r b, φ r b ≠ 0 → b < w.heap.size ∧ ¬ E.C b ∧ (E.w0.heap.size ≤ b ∨ E.M b)
  past : ∀ n st tv, v (.t n) = .t st tv → ∀ p ∈ st, p.2 ≤ ver v p.1
  here : ∀ n st tv, v (.t n) = .t st tv → Live v st → ∀ p ∈ st, isNope (v p.1.res) = false
  ent : ∀ n st tv, v (.t n) = .t st tv → Live v st → RepTV E w tm β φ v st (tm n) (φ (.t n)) tv
  box : ∀ n cs, v (.b n) = .b cs → ∃ vals ψ, Cells w (β n) 0 vals ∧ Avail w (β n) 0 vals.length ∧ RepL w (XS E w φ) (XB w φ []) cs vals ψ ∧
    (∀ x, φ (.b n) x = (if x = β n then 1 else 0) + ψ x)
  os : w.os = E.w0.os
  tape : w.tape = E.w0.tape
  output : w.output = E.w0.output
  size : E.w0.heap.size ≤ w.heap.size
  old : ∀ b, b < E.w0.heap.size → ¬ E.M b → w.heap[b]? = E.w0.heap[b]?
  pin : ∀ n b, E.pin n = some b → isNope (v (.b n)) = false ∧ β n = b

theorem Along.mono {w w' : World} {own own' : Nat → Prop} (h : ∀ b, own b → own' b ∧ w'.heap[b]? = w.heap[b]?) : ∀ {p : Path} {b o off b' o' : Nat}, Along w own b o p off b' o' → Along w' own' b o p off b' o'
  | [], _, _, _, _, _, ⟨h1, h2, h3⟩ => ⟨(h _ h1).1, h2, h3⟩
  | _ :: _, _, _, _, _, _, ⟨h1, s, so, len, cap, h2, h3⟩ => ⟨(h _ h1).1, s, so, len, cap, (cell?_same (h _ h1).2 _).trans h2, Along.mono h h3⟩
theorem Reach.mono {w w' : World} {tm tm' : Nat → Value} {β β' : Nat → Nat} {own own' : Nat → Prop} (h : ∀ b, own b → own' b ∧ w'.heap[b]? = w.heap[b]?) {r : Rt} {p : Path} {off b o : Nat}
    (hb : ∀ n, r = .b n → β' n = β n) (ht : ∀ n, r = .t n → tm' n = tm n) (hr : Reach w tm β own r p off b o) : Reach w' tm' β' own' r p off b o := by
  cases r with
  | b n => simp only [Reach] at *; rw [hb n rfl]; exact hr.mono h
  | t n =>
    cases p with
    | nil => exact hr
    | cons x p =>
      obtain ⟨h0, s, so, len, cap, h1, h2⟩ := hr
      exact ⟨h0, s, so, len, cap, (ht n rfl).trans h1, h2.mono h⟩

theorem Along.last {w : World} {own : Nat → Prop} : ∀ {p : Path} {b o off b' o' : Nat}, Along w own b o p off b' o' → own b'
  | [], _, _, _, _, _, ⟨h1, h2, _⟩ => h2 ▸ h1
  | _ :: _, _, _, _, _, _, ⟨_, _, _, _, _, _, h3⟩ => h3.last
theorem Reach.last {w : World} {tm : Nat → Value} {β : Nat → Nat} {own : Nat → Prop} {r : Rt} {p : Path} {off b o : Nat} (h : Reach w tm β own r p off b o) : own b := by
  cases r with
  | b n => exact Along.last h
  | t n =>
    cases p with
    | nil => exact h.elim
    | cons x p => obtain ⟨_, _, _, _, _, _, h2⟩ := h; exact h2.last

theorem RepTup.frame {w w' : World} {Xs X Xs' X' : Nat → Prop} {vs : List (Bool × List AC)} {us : List Value} {φ : Foot} (h : RepTup w Xs X vs us φ) (hz : w.heap.size ≤ w'.heap.size)
    (hs : ∀ b, Xs b → Xs' b ∧ w'.heap[b]? = w.heap[b]?) (hb : ∀ b, X b → X' b ∧ w'.heap[b]? = w.heap[b]?) (ho : ∀ b, φ b ≠ 0 → w'.heap[b]? = w.heap[b]?) : RepTup w' Xs' X' vs us φ := by
  induction h with
  | nil => exact .nil
  | cons h t ih =>
    obtain ⟨vals, h1, h2⟩ := h
    exact .cons ⟨vals, h1.frame hz hs hb (fun b hb => ho b (by dsimp only; omega)), h2⟩ (ih (fun b hb => ho b (by dsimp only; omega)))

theorem isNope_iff {x : Val} : isNope x = true ↔ x = .nope := by cases x <;> simp [isNope]

/-- A step: some resources are written; what is not written leans on nothing that turned. -/
structure Stp (E : Env) (v v' : Res → Val) (tm tm' : Nat → Value) (w w' : World) (β β' : Nat → Nat) (φ φ' : Res → Foot) (W : Res → Prop) : Prop where
  le1 : ∀ r b, φ' r b ≤ 1
  uniq : ∀ r s b, φ' r b ≠ 0 → φ' s b ≠ 0 → r = s
  dom : ∀ r b, φ' r b ≠ 0 → b < w'.heap.size ∧ ¬ E.C b ∧ (E.w0.heap.size ≤ b ∨ E.M b)
  same : ∀ r, (∀ q, r ≠ .v q) → ¬ W r → v' r = v r ∧ φ' r = φ r
  vers : ∀ q, ver v q ≤ ver v' q
  bump : ∀ q, W q.res → isNope (v q.res) = false → ver v q < ver v' q
  btm : ∀ n, ¬ W (.t n) → tm' n = tm n
  bβ : ∀ n, ¬ W (.b n) → β' n = β n
  bkeep : ∀ n, W (.b n) → isNope (v (.b n)) = false → β' n = β n ∧ φ' (.b n) (β n) ≠ 0 ∧ isNope (v' (.b n)) = false
  free : ∀ b, b < w.heap.size → (∀ r, φ r b = 0) → ∀ r, φ' r b = 0
  heap : ∀ b, b < w.heap.size → ((∀ r, φ r b = 0) ∨ ∃ r, ¬ W r ∧ φ r b ≠ 0) → w'.heap[b]? = w.heap[b]?
  os : w'.os = w.os
  tape : w'.tape = w.tape
  output : w'.output = w.output
  size : w.heap.size ≤ w'.heap.size
  old : ∀ b, b < w.heap.size → ¬ (E.w0.heap.size ≤ b ∨ E.M b) → w'.heap[b]? = w.heap[b]?

theorem Rt.res_ne (r q : Rt) : r.res ≠ .v q := by cases r <;> simp [Rt.res]

section
variable {E : Env} {v v' : Res → Val} {tm tm' : Nat → Value} {w w' : World} {β β' : Nat → Nat} {φ φ' : Res → Foot} {W : Res → Prop}

theorem Stp.xb (h : Stp E v v' tm tm' w w' β β' φ φ' W) {st : Stamps} (hst : ∀ p ∈ st, ¬ W p.1.res) (b : Nat) (hb : XB w φ st b) : XB w' φ' st b ∧ w'.heap[b]? = w.heap[b]? := by
  have hz := h.size
  obtain ⟨hb1, hb2⟩ := hb
  by_cases hf : ∀ r, φ r b = 0
  · exact ⟨⟨by omega, fun r hr => absurd (h.free b hb1 hf r) hr⟩, h.heap b hb1 (.inl hf)⟩
  · obtain ⟨r, hr⟩ := Classical.not_forall.1 hf
    obtain ⟨p, hp, hpr⟩ := hb2 r hr
    have hw : ¬ W r := hpr ▸ hst p hp
    refine ⟨⟨by omega, fun s hs => ⟨p, hp, ?_⟩⟩, h.heap b hb1 (.inr ⟨r, hw, hr⟩)⟩
    have : φ' r b ≠ 0 := by rw [(h.same r (hpr ▸ p.1.res_ne) hw).2]; exact hr
    rw [hpr]
    exact h.uniq _ _ b this hs
theorem Stp.xs (h : Stp E v v' tm tm' w w' β β' φ φ' W) (b : Nat) (hb : XS E w φ b) : XS E w' φ' b ∧ w'.heap[b]? = w.heap[b]? :=
  ⟨⟨Nat.lt_of_lt_of_le hb.1 h.size, h.free b hb.1 hb.2.1, hb.2.2⟩, h.heap b hb.1 (.inl hb.2.1)⟩
theorem Stp.own (h : Stp E v v' tm tm' w w' β β' φ φ' W) {r : Res} (hd : ∀ b, φ r b ≠ 0 → b < w.heap.size) (hq : ∀ q, r ≠ .v q) (hw : ¬ W r) (b : Nat) (hb : φ r b ≠ 0) : φ' r b ≠ 0 ∧ w'.heap[b]? = w.heap[b]? :=
  ⟨by rw [(h.same r hq hw).2]; exact hb, h.heap b (hd b hb) (.inr ⟨r, hw, hb⟩)⟩

/-- What leans on nothing that was written still holds of a value. -/
theorem Stp.carry (h : Stp E v v' tm tm' w w' β β' φ φ' W) (hR : RelW E v tm w β φ) {st : Stamps} (hst : ∀ p ∈ st, ¬ W p.1.res) {u : Value} {f : Foot} (hf : ∀ b, f b ≠ 0 → w'.heap[b]? = w.heap[b]?)
    {tv : TV} (e : RepTV E w tm β φ v st u f tv) : RepTV E w' tm' β' φ' v' st u f tv := by
  have dom := fun r b hb => (hR.dom r b hb).1
  have reach : ∀ (r : Rt) p off b o, ¬ W r.res → Reach w tm β (fun x => φ r.res x ≠ 0) r p off b o → Reach w' tm' β' (fun x => φ' r.res x ≠ 0) r p off b o := by
    intro r p off b o hw hr
    refine hr.mono (fun b hb => h.own (dom r.res) r.res_ne hw b hb) (fun n e => h.bβ n ?_) (fun n e => h.btm n ?_) <;> (subst e; exact hw)
  have vsame : ∀ r : Rt, ¬ W r.res → v' r.res = v r.res := fun r hw => (h.same _ r.res_ne hw).1
  cases tv with
  | pl a cs =>
    obtain ⟨vals, e1, e2⟩ := e
    exact ⟨vals, e1.frame h.size h.xs (h.xb hst) hf, e2⟩
  | tup vs =>
    obtain ⟨us, e1, e2⟩ := e
    exact ⟨us, e1, e2.frame h.size h.xs (h.xb hst) hf⟩
  | ptr r p off =>
    obtain ⟨e0, e1, b, o, e2, e3⟩ := e
    by_cases hr : W r.res
    · rcases e1 with rfl | ⟨q, hq, rfl⟩
      · cases r with
        | t n => exact e3.elim
        | b m =>
          obtain ⟨k1, k2, k3⟩ := h.bkeep m hr e0
          obtain ⟨g1, g2, g3⟩ := e3
          refine ⟨k3, .inl rfl, b, o, e2, ?_, ?_, g3⟩
          · rw [k1]; exact k2
          · rw [k1]; exact g2
      · exact absurd hr (hst q hq)
    · exact ⟨by rw [vsame _ hr]; exact e0, e1, b, o, e2, reach _ _ _ _ _ hr e3⟩
  | view cs =>
    obtain ⟨b, o, vals, e1, e2, e3, e4⟩ := e
    have k2 := h.xb hst b e2
    exact ⟨b, o, vals, e1, k2.1, e3.same k2.2, e4.frame h.size h.xs (h.xb hst) (fun _ hx => absurd rfl hx)⟩
  | ali r p off =>
    obtain ⟨e0, ⟨q, hq, rfl⟩, e2⟩ := e
    have hr := hst q hq
    refine ⟨by rw [vsame _ hr]; exact e0, ⟨q, hq, rfl⟩, ?_⟩
    have go : ∀ b o, Reach w tm β (fun x => φ q.1.res x ≠ 0) q.1 p off b o ∧ w.cell? ⟨b, o, none⟩ = some u →
        Reach w' tm' β' (fun x => φ' q.1.res x ≠ 0) q.1 p off b o ∧ w'.cell? ⟨b, o, none⟩ = some u := fun b o ⟨g1, g2⟩ =>
      ⟨reach _ _ _ _ _ hr g1, (cell?_same (h.own (dom _) q.1.res_ne hr b g1.last).2 o).trans g2⟩
    split at e2
    · rename_i s hs
      rw [hs] at hr
      exact ⟨e2.1, e2.2.trans (h.btm s hr).symm⟩
    · obtain ⟨b, o, g⟩ := e2
      exact ⟨b, o, go b o g⟩
  | und => exact e
  | pfx s k =>
    obtain ⟨e0, ⟨q, hq, hqs⟩, base, len, cap, e1, e2, e3⟩ := e
    have hr := hst q hq
    rw [hqs] at hr
    have e0' := vsame (.t s) hr
    exact ⟨by rw [show v' (.t s) = v (.t s) from e0']; exact e0, ⟨q, hq, hqs⟩, base, len, cap, (h.btm s hr).trans e1, e2, e3⟩
  | mp es =>
    obtain ⟨b, ents, clock, e1, e2, e3, e4⟩ := e
    exact ⟨b, ents, clock, e1, (hf b (by rw [e4]; simp)).trans e2, e3, e4⟩
  | fn g caps =>
    obtain ⟨us, e1, e2, e3⟩ := e
    refine ⟨us, e1, e2, fun j h1 h2 => ?_⟩
    obtain ⟨b, o, vals, f1, f2, f3, f4⟩ := e3 j h1 h2
    have k2 := h.xb hst b f2
    exact ⟨b, o, vals, f1, k2.1, f3.same k2.2, f4.frame h.size (h.xb hst) (h.xb hst) (fun _ hx => absurd rfl hx)⟩

theorem RelW.step (hR : RelW E v tm w β φ) (h : Stp E v v' tm tm' w w' β β' φ φ' W)
    (past : ∀ n st tv, W (.t n) → v' (.t n) = .t st tv → ∀ p ∈ st, p.2 ≤ ver v' p.1)
    (here : ∀ n st tv, W (.t n) → v' (.t n) = .t st tv → Live v' st → ∀ p ∈ st, isNope (v' p.1.res) = false)
    (ent : ∀ n st tv, W (.t n) → v' (.t n) = .t st tv → Live v' st → RepTV E w' tm' β' φ' v' st (tm' n) (φ' (.t n)) tv)
    (box : ∀ n cs, W (.b n) → v' (.b n) = .b cs → ∃ vals ψ, Cells w' (β' n) 0 vals ∧ Avail w' (β' n) 0 vals.length ∧ RepL w' (XS E w' φ') (XB w' φ' []) cs vals ψ ∧
      (∀ x, φ' (.b n) x = (if x = β' n then 1 else 0) + ψ x)) : RelW E v' tm' w' β' φ' := by
  have dom := fun r b hb => (hR.dom r b hb).1
  have keepLive : ∀ n st tv, ¬ W (.t n) → v (.t n) = .t st tv → Live v' st → Live v st ∧ ∀ p ∈ st, ¬ W p.1.res ∧ isNope (v p.1.res) = false := by
    intro n st tv hn hv hl
    have hst : Live v st := fun p hp => by
      have h1 := hR.past n st tv hv p hp
      have h2 := h.vers p.1
      have h3 := hl p hp
      omega
    refine ⟨hst, fun p hp => ⟨fun hw => ?_, hR.here n st tv hv hst p hp⟩⟩
    have h1 := h.bump p.1 hw (hR.here n st tv hv hst p hp)
    have h2 := hl p hp
    have h3 := hst p hp
    omega
  refine ⟨h.le1, h.uniq, h.dom, ?_, ?_, ?_, ?_, h.os.trans hR.os, h.tape.trans hR.tape, h.output.trans hR.output, Nat.le_trans hR.size h.size, fun b hb hm => ?_, fun n b hn => ?_⟩
  · intro n st tv hv p hp
    by_cases hw : W (.t n)
    · exact past n st tv hw hv p hp
    · rw [(h.same _ (by simp) hw).1] at hv
      exact Nat.le_trans (hR.past n st tv hv p hp) (h.vers p.1)
  · intro n st tv hv hl p hp
    by_cases hw : W (.t n)
    · exact here n st tv hw hv hl p hp
    · rw [(h.same _ (by simp) hw).1] at hv
      have k := (keepLive n st tv hw hv hl).2 p hp
      rw [(h.same _ p.1.res_ne k.1).1]
      exact k.2
  · intro n st tv hv hl
    by_cases hw : W (.t n)
    · exact ent n st tv hw hv hl
    · rw [(h.same _ (by simp) hw).1] at hv
      have k := keepLive n st tv hw hv hl
      have hst : ∀ p ∈ st, ¬ W p.1.res := fun p hp => (k.2 p hp).1
      rw [h.btm n hw, (h.same _ (by simp) hw).2]
      exact h.carry hR hst (fun b hb => (h.own (dom _) (by simp) hw b hb).2) (hR.ent n st tv hv k.1)
  · intro n cs hv
    by_cases hw : W (.b n)
    · exact box n cs hw hv
    · rw [(h.same _ (by simp) hw).1] at hv
      obtain ⟨vals, ψ, e1, e2, e3, e4⟩ := hR.box n cs hv
      have hβ := h.bβ n hw
      have o1 : w'.heap[β n]? = w.heap[β n]? := (h.own (dom _) (by simp) hw (β n) (by rw [e4]; simp)).2
      refine ⟨vals, ψ, by rw [hβ]; exact e1.same o1, by rw [hβ]; exact e2.same o1, ?_, fun x => by rw [hβ, (h.same _ (by simp) hw).2]; exact e4 x⟩
      exact e3.frame h.size h.xs (h.xb (by simp)) (fun b hb => (h.own (dom _) (by simp) hw b (by rw [e4]; omega)).2)
  · rw [← hR.old b hb hm]
    exact h.old b (Nat.lt_of_lt_of_le hb hR.size) (fun h1 => h1.elim (fun h2 => absurd hb (by omega)) hm)
  · obtain ⟨k1, k2⟩ := hR.pin n b hn
    by_cases hw : W (.b n)
    · obtain ⟨g1, _, g3⟩ := h.bkeep n hw k1
      exact ⟨g3, g1.trans k2⟩
    · exact ⟨by rw [(h.same _ (by simp) hw).1]; exact k1, (h.bβ n hw).trans k2⟩
end
end Go.Fw
namespace Go.Fw
open Go

theorem heap_setCell (w : World) (b o : Nat) (v : Value) {x : Nat} (h : x ≠ b) : (w.setCell ⟨b, o, none⟩ v).heap[x]? = w.heap[x]? := by
  simp only [World.setCell, Array.getElem?_modify]
  rw [if_neg (fun e => h e.symm)]
theorem heap_setCells {b x : Nat} (h : x ≠ b) : ∀ (vs : List Value) (o : Nat) (w : World), (w.setCells b o vs).heap[x]? = w.heap[x]?
  | [], _, _ => rfl
  | v :: r, o, w => by rw [World.setCells, heap_setCells h r, heap_setCell w b o v h]
theorem size_setCells {b : Nat} : ∀ (vs : List Value) (o : Nat) (w : World), (w.setCells b o vs).heap.size = w.heap.size
  | [], _, _ => rfl
  | v :: r, o, w => by rw [World.setCells, size_setCells r, World.size_setCell]
theorem os_setCells {b : Nat} : ∀ (vs : List Value) (o : Nat) (w : World), (w.setCells b o vs).os = w.os ∧ (w.setCells b o vs).tape = w.tape ∧ (w.setCells b o vs).output = w.output
  | [], _, _ => ⟨rfl, rfl, rfl⟩
  | v :: r, o, w => by rw [World.setCells]; exact os_setCells r (o + 1) _
theorem isSome_setCells {b : Nat} {x : Addr} (vs : List Value) (o : Nat) (w : World) (hx : x.spot = none) (hc : ∀ j, j < vs.length → (w.cell? ⟨b, o + j, none⟩).isSome = true) (h : (w.cell? x).isSome = true) : ((w.setCells b o vs).cell? x).isSome = true := by
  by_cases hin : x.block = b ∧ o ≤ x.off ∧ x.off < o + vs.length
  · obtain ⟨h1, h2, h3⟩ := hin
    obtain ⟨xb, xo, xs⟩ := x
    dsimp only at h1 h2 h3 hx ⊢
    subst h1 hx
    have := World.cell?_setCells_in xb vs o w hc (xo - o) (by omega)
    rw [show o + (xo - o) = xo by omega] at this
    rw [this]; rfl
  · rw [World.cell?_setCells_out b vs o w x (fun h1 _ => by
      by_cases h2 : o ≤ x.off
      · exact .inr (Nat.le_of_not_lt fun h3 => hin ⟨h1, h2, h3⟩)
      · exact .inl (by omega))]
    exact h
theorem Avail.setCells {w : World} {b c o n q : Nat} {vs : List Value} (h : Avail w b o n) (hc : ∀ j, j < vs.length → (w.cell? ⟨c, q + j, none⟩).isSome = true) : Avail (w.setCells c q vs) b o n :=
  ⟨fun j hj => ⟨isSome_setCells vs q w rfl hc (h.1 j hj).1, by rw [World.frozen?_setCells]; exact (h.1 j hj).2⟩, h.2.imp id fun h k => by rw [World.frozen?_setCells]; exact h k⟩

theorem RepL.foot0 {w : World} {Xs Xb : Nat → Prop} {c : List AC} {v : List Value} {φ : Foot} (h : RepL w Xs Xb c v φ) : noOwnL c = true → ∀ x, φ x = 0 := by
  induction h with
  | nil => intros; rfl
  | own => intro h; simp [noOwnL, AC.noOwn] at h
  | refOwn => intro h; simp [noOwnL, AC.noOwn] at h
  | sc _ _ ih => intro h; simp only [noOwnL, Bool.and_eq_true] at h; exact ih h.2
  | sh _ _ _ _ _ _ _ _ _ ih => intro h; simp only [noOwnL, Bool.and_eq_true] at h; exact ih h.2
  | bor _ _ _ _ _ _ _ _ _ ih => intro h; simp only [noOwnL, Bool.and_eq_true] at h; exact ih h.2
  | refSh _ _ _ _ _ ih => intro h; simp only [noOwnL, Bool.and_eq_true] at h; exact ih h.2
  | refBor _ _ _ _ _ ih => intro h; simp only [noOwnL, Bool.and_eq_true] at h; exact ih h.2

theorem Cells.app {w : World} {b o : Nat} {u v : List Value} : Cells w b o (u ++ v) ↔ Cells w b o u ∧ Cells w b (o + u.length) v := by
  constructor
  · intro h
    refine ⟨fun j hj => ?_, fun j hj => ?_⟩
    · have := h j (by simp; omega)
      rwa [List.getElem_append_left hj] at this
    · have := h (u.length + j) (by simp; omega)
      rw [List.getElem_append_right (by omega)] at this
      rw [Nat.add_assoc]
      simpa using this
  · rintro ⟨h1, h2⟩ j hj
    by_cases hu : j < u.length
    · rw [List.getElem_append_left hu]; exact h1 j hu
    · rw [List.getElem_append_right (by omega)]
      have := h2 (j - u.length) (by simp at hj; omega)
      rwa [show o + u.length + (j - u.length) = o + j by omega] at this

/-- A cell that holds a row alone. -/
theorem RepL.at_own {w : World} {Xs Xb : Nat → Prop} {e s so len cap : Nat} {rows : List (List AC)} : ∀ {cs : List AC} {vals : List Value} {φ : Foot}, RepL w Xs Xb cs vals φ → ∀ {k : Nat},
    cs[k]? = some (.sl .own e rows) → vals[k]? = some (.slice (some ⟨s, so, none⟩) len cap) →
    ∃ vs ψ c1 c2 v1 v2 φ1 φ2, cs = c1 ++ .sl .own e rows :: c2 ∧ c1.length = k ∧ vals = v1 ++ .slice (some ⟨s, so, none⟩) len cap :: v2 ∧ v1.length = k ∧ RepL w Xs Xb c1 v1 φ1 ∧ RepL w Xs Xb c2 v2 φ2 ∧
      rows.length = len ∧ (len ≤ cap ∧ cap ≤ 9223372036854775807) ∧ 0 < e ∧ (∀ r ∈ rows, r.length = e) ∧ s < w.heap.size ∧ Avail w s so (cap * e) ∧ Cells w s so vs ∧ RepL w Xs Xb rows.flatten vs ψ ∧
      ∀ x, φ x = φ1 x + ((if x = s then 1 else 0) + ψ x) + φ2 x := by
  intro cs vals φ h
  induction cs generalizing vals φ with
  | nil => intro k hk; simp at hk
  | cons c cs ih =>
    intro k hk hv
    obtain ⟨v, vs, φ1, φ2, rfl, h1, h2, hs⟩ := h.uncons
    cases k with
    | zero =>
      simp at hk hv
      subst hk hv
      cases h1 with
      | sc hsc t =>
        exfalso
        cases rows <;> simp [Scal] at hsc
      | own hl hc he hr hb ha hcv hh t =>
        cases t
        exact ⟨_, _, [], cs, [], vs, _, _, rfl, rfl, rfl, rfl, .nil, h2, hl, hc, he, hr, hb, ha, hcv, hh, fun x => by rw [hs x]; first | omega | (dsimp only; omega)⟩
    | succ k =>
      simp at hk hv
      obtain ⟨us, ψ, c1, c2, v1, v2, χ1, χ2, rfl, e1, rfl, e2, g1, g2, r1, r2, r3, r4, r5, r6, r7, r8, r9⟩ := ih h2 hk hv
      exact ⟨us, ψ, c :: c1, c2, v :: v1, v2, _, χ2, rfl, by simp [e1], rfl, by simp [e2], h1.append g1, g2, r1, r2, r3, r4, r5, r6, r7, r8, fun x => by rw [hs x, r9 x]; first | omega | (dsimp only; omega)⟩

theorem flatten_len {e : Nat} : ∀ {rows : List (List AC)}, (∀ r ∈ rows, r.length = e) → rows.flatten.length = rows.length * e
  | [], _ => by simp
  | r :: rs, h => by
    rw [List.flatten_cons, List.length_append, h r (by simp), flatten_len (fun q hq => h q (by simp [hq])), List.length_cons, Nat.add_mul]; omega

theorem row_split {rows : List (List AC)} {i : Nat} {r : List AC} (h : rows[i]? = some r) : rows = rows.take i ++ r :: rows.drop (i + 1) ∧ i < rows.length := by
  obtain ⟨hi, rfl⟩ := List.getElem?_eq_some_iff.1 h
  exact ⟨by rw [List.getElem_cons_drop, List.take_append_drop], hi⟩

theorem RepL.at_val {w : World} {Xs Xb : Nat → Prop} {cs : List AC} {vals : List Value} {φ : Foot} (h : RepL w Xs Xb cs vals φ) {b o : Nat} (hc : Cells w b o vals) {k : Nat} {c : AC} (hk : cs[k]? = some c) {u : Value}
    (hu : w.cell? ⟨b, o + k, none⟩ = some u) : vals[k]? = some u := by
  obtain ⟨hk', _⟩ := List.getElem?_eq_some_iff.1 hk
  have hl := h.length
  have := hc k (by omega)
  rw [hu] at this
  rw [List.getElem?_eq_getElem (by omega)]
  exact this.symm

theorem cellsAt_cons {cs : List AC} {k i e off : Nat} {p : Path} {xs : List AC} (h : cellsAt cs ((k, i, e) :: p) off = some xs) :
    ∃ rows r, cs[k]? = some (.sl .own e rows) ∧ rows[i]? = some r ∧ cellsAt r p off = some xs := by
  rw [cellsAt] at h
  split at h
  · rename_i e' rows hk
    by_cases he : e' = e
    · subst he
      rw [if_pos rfl] at h
      split at h
      · rename_i r hr
        exact ⟨rows, r, hk, hr, h⟩
      · simp at h
    · rw [if_neg he] at h; simp at h
  · simp at h
theorem setAt_cons {cs : List AC} {k i e off : Nat} {p : Path} {new cs' : List AC} (h : setAt cs ((k, i, e) :: p) off new = some cs') :
    ∃ rows r r', cs[k]? = some (.sl .own e rows) ∧ rows[i]? = some r ∧ setAt r p off new = some r' ∧ cs' = cs.set k (.sl .own e (rows.set i r')) := by
  rw [setAt] at h
  split at h
  · rename_i e' rows hk
    by_cases he : e' = e
    · subst he
      rw [if_pos rfl] at h
      split at h
      · rename_i r hr
        split at h
        · rename_i r' hr'
          simp only [Option.some.injEq] at h
          exact ⟨rows, r, r', hk, hr, hr', h.symm⟩
        · simp at h
      · simp at h
    · rw [if_neg he] at h; simp at h
  · simp at h

/-- What lies at a place. -/
theorem along_read {w : World} {Xs Xb : Nat → Prop} {own : Nat → Prop} : ∀ (p : Path) {cs : List AC} {off b o b' o' : Nat} {vals : List Value} {φ : Foot} {xs : List AC},
    Cells w b o vals → RepL w Xs Xb cs vals φ → Along w own b o p off b' o' → cellsAt cs p off = some xs →
    ∃ vs ψ, Cells w b' o' vs ∧ RepL w Xs Xb xs vs ψ ∧ (∀ x, ψ x ≤ φ x)
  | [], cs, off, b, o, b', o', vals, φ, xs, hc, hr, ⟨_, e1, e2⟩, hx => by
    simp only [cellsAt, Option.some.injEq] at hx
    subst e1 e2 hx
    have h' : RepL w Xs Xb (cs.take off ++ cs.drop off) vals φ := by rw [List.take_append_drop]; exact hr
    obtain ⟨v1, v2, φ1, φ2, rfl, h1, h2, hs⟩ := RepL.split _ _ h'
    have hl := h1.length
    rw [Cells.app] at hc
    by_cases hoff : off ≤ cs.length
    · rw [List.length_take, Nat.min_eq_left hoff] at hl
      rw [hl] at hc
      exact ⟨v2, φ2, hc.2, h2, fun x => by rw [hs x]; first | omega | (dsimp only; omega)⟩
    · have h3 := h2.length
      rw [List.length_drop, show cs.length - off = 0 by omega] at h3
      have : v2 = [] := List.eq_nil_of_length_eq_zero h3
      subst this
      exact ⟨[], φ2, fun j hj => absurd hj (by simp), h2, fun x => by rw [hs x]; first | omega | (dsimp only; omega)⟩
  | (k, i, e) :: p, cs, off, b, o, b', o', vals, φ, xs, hc, hr, ⟨_, s, so, len, cap, hcell, hal⟩, hx => by
    obtain ⟨rows, r, hk, hri, hx2⟩ := cellsAt_cons hx
    obtain ⟨vs, ψ, c1, c2, v1, v2, φ1, φ2, rfl, e1, rfl, e2, g1, g2, r1, r2, r3, r4, r5, r6, r7, r8, r9⟩ := hr.at_own hk (hr.at_val hc hk hcell)
    obtain ⟨hrow, hi⟩ := row_split hri
    have hfl : rows.flatten = (rows.take i).flatten ++ (r ++ (rows.drop (i + 1)).flatten) := by conv => lhs; rw [hrow]; simp
    rw [hfl] at r8
    obtain ⟨u1, u2, ψ1, ψ2, rfl, k1, k2, ks⟩ := RepL.split _ _ r8
    obtain ⟨u2, u3, ψ3, ψ4, rfl, k3, k4, ks'⟩ := RepL.split _ _ k2
    have hlen : u1.length = i * e := by
      rw [k1.length, flatten_len (fun q hq => r4 q (List.mem_of_mem_take hq)), List.length_take, Nat.min_eq_left (by omega)]
    rw [Cells.app, Cells.app, hlen] at r7
    obtain ⟨vs', ψ', q1, q2, q3⟩ := along_read p r7.2.1 k3 hal hx2
    exact ⟨vs', ψ', q1, q2, fun x => by have := q3 x; have := ks x; have := ks' x; have := r9 x; omega⟩

theorem setAt_len : ∀ (p : Path) {cs : List AC} {off : Nat} {new cs' : List AC}, setAt cs p off new = some cs' → cs'.length = cs.length
  | [], cs, off, new, cs', h => by
    simp only [setAt] at h
    split at h
    · simp only [Option.some.injEq] at h; subst h; simp; omega
    · simp at h
  | (k, i, e) :: p, cs, off, new, cs', h => by
    obtain ⟨rows, r, r', _, _, _, rfl⟩ := setAt_cons h
    simp

theorem Cells.other {w w' : World} {b o : Nat} {vals : List Value} (h : Cells w b o vals) (hs : ∀ j, j < vals.length → w'.cell? ⟨b, o + j, none⟩ = w.cell? ⟨b, o + j, none⟩) : Cells w' b o vals :=
  fun j hj => (hs j hj).trans (h j hj)

/-- Other cells are written at a place. -/
theorem along_write {w : World} {Xs Xb : Nat → Prop} {own : Nat → Prop} {nvals : List Value} {new : List AC} {ψ : Foot} (hn : RepL w Xs Xb new nvals ψ) {b' o' : Nat} :
    ∀ (p : Path) {cs cs' : List AC} {off b o : Nat} {vals : List Value} {φ : Foot}, Cells w b o vals → RepL w Xs Xb cs vals φ →
      (∀ x, ((if x = b then 1 else 0) + φ x) + ψ x ≤ 1) → (∀ x, (if x = b then 1 else 0) + φ x ≠ 0 → ¬ Xs x ∧ ¬ Xb x) →
      Along w own b o p off b' o' → setAt cs p off new = some cs' →
      ∃ vals' φ', Cells (w.setCells b' o' nvals) b o vals' ∧ RepL (w.setCells b' o' nvals) Xs Xb cs' vals' φ' ∧ vals'.length = vals.length ∧ (∀ x, φ' x ≤ φ x + ψ x) ∧
        (b' = b ∨ φ b' ≠ 0) ∧ (b' = b → o ≤ o' ∧ o' + nvals.length ≤ o + vals.length) ∧ (∀ j, j < nvals.length → (w.cell? ⟨b', o' + j, none⟩).isSome = true)
  | [], cs, cs', off, b, o, vals, φ, hc, hr, hd, hX, ⟨_, e1, e2⟩, hset => by
    subst e1 e2
    simp only [setAt] at hset
    split at hset
    case isFalse => simp at hset
    rename_i hle
    simp only [Option.some.injEq] at hset
    subst hset
    have h' : RepL w Xs Xb (cs.take off ++ ((cs.drop off).take new.length ++ cs.drop (off + new.length))) vals φ := by
      rw [← List.drop_drop, List.take_append_drop, List.take_append_drop]; exact hr
    obtain ⟨v1, v2, φ1, φ2, rfl, h1, h2, hs⟩ := RepL.split _ _ h'
    obtain ⟨v2, v3, φ3, φ4, rfl, h3, h4, hs'⟩ := RepL.split _ _ h2
    have l1 : v1.length = off := by rw [h1.length, List.length_take]; omega
    have l2 : v2.length = new.length := by rw [h3.length, List.length_take, List.length_drop]; omega
    have ln := hn.length
    have hb0 : φ b' = 0 ∧ ψ b' = 0 := by have := hd b'; simp at this; omega
    have hXb := hX b' (by simp)
    rw [Cells.app, Cells.app, l1] at hc
    have hcell : ∀ j, j < nvals.length → (w.cell? ⟨b', o + off + j, none⟩).isSome = true := fun j hj => by rw [hc.2.1 j (by omega)]; rfl
    have fr : ∀ {c : List AC} {u : List Value} {χ : Foot}, RepL w Xs Xb c u χ → χ b' = 0 → RepL (w.setCells b' (o + off) nvals) Xs Xb c u χ := fun hh h0 =>
      hh.frame (by rw [size_setCells]; exact Nat.le_refl _) (fun x hx => ⟨hx, heap_setCells (by rintro rfl; exact hXb.1 hx) _ _ _⟩) (fun x hx => ⟨hx, heap_setCells (by rintro rfl; exact hXb.2 hx) _ _ _⟩)
        (fun x hx => heap_setCells (by rintro rfl; exact hx h0) _ _ _)
    have e0 := hs b'
    have e1 := hs' b'
    refine ⟨v1 ++ (nvals ++ v3), _, ?_, (fr h1 (by omega)).append ((fr hn hb0.2).append (fr h4 (by omega))), by simp [l2, ln], fun x => by have := hs x; have := hs' x; first | omega | (dsimp only; omega), .inl rfl,
      fun _ => ⟨by omega, by simp; omega⟩, hcell⟩
    rw [Cells.app, Cells.app, l1]
    refine ⟨hc.1.other (fun j hj => World.cell?_setCells_out _ _ _ _ _ (fun _ _ => .inl (by dsimp only; omega))), fun j hj => World.cell?_setCells_in _ _ _ _ hcell j hj, ?_⟩
    rw [show o + off + nvals.length = o + off + v2.length by omega]
    exact hc.2.2.other (fun j hj => World.cell?_setCells_out _ _ _ _ _ (fun _ _ => .inr (by dsimp only; omega)))
  | (k, i, e) :: p, cs, cs', off, b, o, vals, φ, hc, hr, hd, hX, ⟨_, s, so, len, cap, hcell, hal⟩, hset => by
    obtain ⟨rows, r, r', hk, hri, hset1, rfl⟩ := setAt_cons hset
    obtain ⟨vs, χ, c1, c2, v1, v2, φ1, φ2, rfl, e1, rfl, e2, g1, g2, r1, r2, r3, r4, r5, r6, r7, r8, r9⟩ := hr.at_own hk (hr.at_val hc hk hcell)
    obtain ⟨hrow, hi⟩ := row_split hri
    have hfl : rows.flatten = (rows.take i).flatten ++ (r ++ (rows.drop (i + 1)).flatten) := by conv => lhs; rw [hrow]; simp
    rw [hfl] at r8
    obtain ⟨u1, u2, ψ1, ψ2, rfl, k1, k2, ks⟩ := RepL.split _ _ r8
    obtain ⟨u2, u3, ψ3, ψ4, rfl, k3, k4, ks'⟩ := RepL.split _ _ k2
    have hre : r.length = e := r4 r (List.mem_of_getElem? hri)
    have hlen : u1.length = i * e := by
      rw [k1.length, flatten_len (fun q hq => r4 q (List.mem_of_mem_take hq)), List.length_take, Nat.min_eq_left (by omega)]
    have hlen2 : u2.length = e := by rw [k3.length, hre]
    have hcs := r7
    rw [Cells.app, Cells.app, hlen] at r7
    have tot : ∀ x, φ x = φ1 x + ((if x = s then 1 else 0) + (ψ1 x + (ψ3 x + ψ4 x))) + φ2 x := fun x => by rw [r9 x, ks x, ks' x]
    have hsb : s ≠ b := fun e => by have := hd b; have := tot b; subst e; simp at *; omega
    obtain ⟨vr, φr, q1, q2, q3, q4, q5, q6, q7⟩ := along_write hn p r7.2.1 k3 (fun x => by have := hd x; have := tot x; omega) (fun x hx => hX x (by have := tot x; omega)) hal hset1
    have hbb : b' ≠ b := by
      rintro rfl
      have h1 := hd b'
      have h2 := tot b'
      simp only [if_true] at h1
      rcases q5 with e | e
      · exact hsb e.symm
      · omega
    have hbX : ¬ Xs b' ∧ ¬ Xb b' := hX b' (by
      have h2 := tot b'
      rcases q5 with e | e
      · subst e; simp at h2; omega
      · omega)
    have fr : ∀ {c : List AC} {u : List Value} {χ : Foot}, RepL w Xs Xb c u χ → χ b' = 0 → RepL (w.setCells b' o' nvals) Xs Xb c u χ := fun hh h0 =>
      hh.frame (by rw [size_setCells]; exact Nat.le_refl _) (fun x hx => ⟨hx, heap_setCells (by rintro rfl; exact hbX.1 hx) _ _ _⟩) (fun x hx => ⟨hx, heap_setCells (by rintro rfl; exact hbX.2 hx) _ _ _⟩)
        (fun x hx => heap_setCells (by rintro rfl; exact hx h0) _ _ _)
    have one : 1 ≤ (if b' = s then 1 else 0) + ψ3 b' := by
      rcases q5 with e | e
      · simp [e]
      · omega
    have hz : φ1 b' = 0 ∧ φ2 b' = 0 ∧ ψ1 b' = 0 ∧ ψ4 b' = 0 := by
      have h1 := hd b'
      have h2 := tot b'
      omega
    have hsame : ∀ (o2 : Nat), (b' = s → o2 < o' ∨ o' + nvals.length ≤ o2) → (w.setCells b' o' nvals).cell? ⟨s, o2, none⟩ = w.cell? ⟨s, o2, none⟩ := fun o2 h =>
      World.cell?_setCells_out _ _ _ _ _ (fun h1 _ => h h1.symm)
    have lr' : r'.length = r.length := setAt_len p hset1
    have hset2 : (rows.set i r').flatten = (rows.take i).flatten ++ (r' ++ (rows.drop (i + 1)).flatten) := by
      rw [List.set_eq_take_append_cons_drop, if_pos hi]; simp
    have hvr : vr.length = e := by rw [q3, hlen2]
    have newrow : RepL (w.setCells b' o' nvals) Xs Xb (rows.set i r').flatten (u1 ++ (vr ++ u3)) (fun x => ψ1 x + (φr x + ψ4 x)) := by
      rw [hset2]
      exact (fr k1 hz.2.2.1).append (q2.append (fr k4 hz.2.2.2))
    have newcells : Cells (w.setCells b' o' nvals) s so (u1 ++ (vr ++ u3)) := by
      rw [Cells.app, Cells.app, hlen]
      refine ⟨r7.1.other (fun j hj => hsame _ (fun h => .inl ?_)), q1, ?_⟩
      · have := (q6 h).1; omega
      · rw [show so + i * e + vr.length = so + i * e + u2.length by omega]
        refine r7.2.2.other (fun j hj => hsame _ (fun h => .inr ?_))
        have := (q6 h).2; omega
    have own' := RepL.own (rows := rows.set i r') (len := len) (cap := cap) (by simp [r1]) r2 r3 (fun q hq => by
        rcases List.mem_or_eq_of_mem_set hq with h | h
        · exact r4 q h
        · rw [h, lr', hre]) (by rw [size_setCells]; exact r5) (r6.setCells q7) newcells newrow (fr g2 hz.2.1)
    have hset3 : (c1 ++ AC.sl .own e rows :: c2).set k (.sl .own e (rows.set i r')) = c1 ++ .sl .own e (rows.set i r') :: c2 := by
      rw [← e1, List.set_append_right _ _ (Nat.le_refl _)]; simp
    refine ⟨v1 ++ .slice (some ⟨s, so, none⟩) len cap :: v2, _, ?_, by rw [hset3]; exact (fr g1 hz.1).append own', by simp, fun x => ?_, .inr ?_, fun h => absurd h hbb, q7⟩
    · exact hc.same (heap_setCells (fun e => hbb e.symm) _ _ _)
    · have h1 := tot x
      have h2 := q4 x
      omega
    · have h2 := tot b'
      omega
end Go.Fw
