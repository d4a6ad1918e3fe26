/- The framework, part Q: the step of a call, and parts of tuples. The framework, part R: calls and parts of tuples as operations; maps of numbers. Conditions: none. -/
import Derived.Test.YtjldolmokfnkoaaGreatDoorFwP
namespace Go.Fw
open Go

section
variable {P : Program} {E : Env} {v v' : Res → Val} {tm tm' : Nat → Value} {w w' : World} {β β' : Nat → Nat} {φ φ' : Res → Foot}

/-- A step that writes what it likes. -/
theorem RelW.multi (h : RelW E v tm w β φ) (hC : ∀ b, E.C b → b < E.w0.heap.size) (W : Res → Prop) (le1 : ∀ r, W r → ∀ b, φ' r b ≤ 1) (dis : ∀ r s b, W r → W s → φ' r b ≠ 0 → φ' s b ≠ 0 → r = s)
    (src : ∀ r b, W r → φ' r b ≠ 0 → (∃ s, W s ∧ φ s b ≠ 0) ∨ (w.heap.size ≤ b ∧ b < w'.heap.size))
    (same : ∀ r, (∀ q, r ≠ .v q) → ¬ W r → v' r = v r ∧ φ' r = φ r) (same' : ∀ r, ¬ W r → φ' r = φ r)
    (vers : ∀ q, ver v q ≤ ver v' q) (bump : ∀ q, W q.res → isNope (v q.res) = false → ver v q < ver v' q)
    (btm : ∀ n, ¬ W (.t n) → tm' n = tm n) (bβ : ∀ n, ¬ W (.b n) → β' n = β n)
    (bkeep : ∀ n, W (.b n) → isNope (v (.b n)) = false → β' n = β n ∧ φ' (.b n) (β n) ≠ 0 ∧ isNope (v' (.b n)) = false)
    (hheap : ∀ b, b < w.heap.size → (∀ r, W r → φ r b = 0) → w'.heap[b]? = w.heap[b]?)
    (os : w'.os = w.os) (tape : w'.tape = w.tape) (output : w'.output = w.output) (size : w.heap.size ≤ w'.heap.size)
    (slots : ∀ n, W (.t n) → v' (.t n) = .nope ∨ ∃ tv, v' (.t n) = .t [] tv ∧ RepTV E w' tm' β' φ' v' [] (tm' n) (φ' (.t n)) tv)
    (boxes : ∀ n cs, W (.b n) → v' (.b n) = .b cs → ∃ vals ψ, Cells w' (β' n) 0 vals ∧ Avail w' (β' n) 0 vals.length ∧ RepL w' (XS E w' φ') (XB w' φ' []) cs vals ψ ∧
      (∀ x, φ' (.b n) x = (if x = β' n then 1 else 0) + ψ x)) : RelW E v' tm' w' β' φ' := by
  have hz := h.size
  have dom : ∀ r b, φ' r b ≠ 0 → b < w'.heap.size ∧ ¬ E.C b ∧ (E.w0.heap.size ≤ b ∨ E.M b) := by
    intro r b hb
    by_cases hr : W r
    · rcases src r b hr hb with ⟨s, _, h4⟩ | h3
      · have := h.dom s b h4; exact ⟨by omega, this.2⟩
      · exact ⟨h3.2, fun hc => by have := hC b hc; omega, .inl (by omega)⟩
    · rw [same' r hr] at hb; have := h.dom r b hb; exact ⟨by omega, this.2⟩
  have uq : ∀ r s b, W r → ¬ W s → φ' r b ≠ 0 → φ' s b ≠ 0 → False := by
    intro r s b hr hs h1 h2
    rw [same' s hs] at h2
    rcases src r b hr h1 with ⟨q, hq, h6⟩ | h5
    · have := h.uniq q s b h6 h2; subst this; exact hs hq
    · have := (h.dom s b h2).1; omega
  have stp : Stp E v v' tm tm' w w' β β' φ φ' W := by
    refine ⟨?_, ?_, dom, same, vers, bump, btm, bβ, bkeep, ?_, ?_, os, tape, output, size, ?_⟩
    · intro r b
      by_cases hr : W r
      · exact le1 r hr b
      · rw [same' r hr]; exact h.le1 r b
    · intro r s b h1 h2
      by_cases hr : W r <;> by_cases hs : W s
      · exact dis r s b hr hs h1 h2
      · exact (uq r s b hr hs h1 h2).elim
      · exact (uq s r b hs hr h2 h1).elim
      · rw [same' r hr] at h1; rw [same' s hs] at h2; exact h.uniq r s b h1 h2
    · intro b hb hf r
      by_cases hr : W r
      · refine Classical.byContradiction fun e => ?_
        rcases src r b hr e with ⟨s, _, h4⟩ | h3
        · exact h4 (hf s)
        · omega
      · rw [same' r hr]; exact hf r
    · intro b hb hf
      refine hheap b hb fun r hr => ?_
      rcases hf with hf | ⟨s, hs, h1⟩
      · exact hf r
      · refine Classical.byContradiction fun e => ?_
        have := h.uniq r s b e h1; subst this; exact hs hr
    · intro b hb hm
      refine hheap b hb fun r _ => ?_
      refine Classical.byContradiction fun e => ?_
      exact hm (h.dom r b e).2.2
  refine h.step stp ?_ ?_ ?_ ?_
  · intro n st tv hn hv p hp
    rcases slots n hn with e | ⟨tv', e, _⟩
    · rw [e] at hv; simp at hv
    · rw [e] at hv; simp at hv; obtain ⟨rfl, _⟩ := hv; simp at hp
  · intro n st tv hn hv _ p hp
    rcases slots n hn with e | ⟨tv', e, _⟩
    · rw [e] at hv; simp at hv
    · rw [e] at hv; simp at hv; obtain ⟨rfl, _⟩ := hv; simp at hp
  · intro n st tv hn hv _
    rcases slots n hn with e | ⟨tv', e, e2⟩
    · rw [e] at hv; simp at hv
    · rw [e] at hv; simp at hv; obtain ⟨rfl, rfl⟩ := hv; exact e2
  · intro n ds hn hv
    exact boxes n ds hn hv

/-! ### Boxes that come back -/

inductive Back (w : World) (Xs : Nat → Prop) (β : Nat → Nat) : List Nat → List (List AC) → List Foot → Prop where
  | nil : Back w Xs β [] [] []
  | cons {n : Nat} {bs : List Nat} {e : List AC} {es : List (List AC)} {g ψ : Foot} {gs : List Foot} {vals : List Value} (hv : Cells w (β n) 0 vals) (ha : Avail w (β n) 0 vals.length)
      (hr : RepL w Xs (fun _ => False) e vals ψ) (hg : ∀ x, g x = (if x = β n then 1 else 0) + ψ x) (t : Back w Xs β bs es gs) : Back w Xs β (n :: bs) (e :: es) (g :: gs)

def look3 : List Nat → List (List AC) → List Foot → Nat → Option (List AC × Foot)
  | b :: bs, e :: es, g :: gs, n => if n = b then some (e, g) else look3 bs es gs n
  | _, _, _, _ => none

theorem Back.look {Xs : Nat → Prop} {bs : List Nat} {es : List (List AC)} {gs : List Foot} (h : Back w Xs β bs es gs) : ∀ n, (n ∈ bs → ∃ e g, look3 bs es gs n = some (e, g)) ∧ (n ∉ bs → look3 bs es gs n = none) ∧
    ∀ e g, look3 bs es gs n = some (e, g) → (∀ x, g x ≤ tot gs x) ∧ ∃ vals ψ, Cells w (β n) 0 vals ∧ Avail w (β n) 0 vals.length ∧ RepL w Xs (fun _ => False) e vals ψ ∧ ∀ x, g x = (if x = β n then 1 else 0) + ψ x := by
  induction h with
  | nil => intro n; exact ⟨by simp, fun _ => rfl, fun e g h => by simp [look3] at h⟩
  | @cons m bs e es g ψ gs vals hv ha hr hg t ih =>
    intro n
    obtain ⟨i1, i2, i3⟩ := ih n
    simp only [look3]
    by_cases e0 : n = m
    · subst e0
      refine ⟨fun _ => ⟨e, g, by simp⟩, fun h => absurd (by simp) h, fun e' g' h => ?_⟩
      simp at h
      obtain ⟨rfl, rfl⟩ := h
      exact ⟨fun x => by simp [tot], vals, ψ, hv, ha, hr, hg⟩
    · simp only [if_neg e0]
      refine ⟨fun h => i1 (by simpa [e0] using h), fun h => i2 (fun h' => h (by simp [h'])), fun e' g' h => ?_⟩
      obtain ⟨k1, k2⟩ := i3 e' g' h
      exact ⟨fun x => by have := k1 x; simp only [tot]; omega, k2⟩

theorem Back.two {Xs : Nat → Prop} {bs : List Nat} {es : List (List AC)} {gs : List Foot} (h : Back w Xs β bs es gs) : ∀ n m e g e' g', n ≠ m → look3 bs es gs n = some (e, g) → look3 bs es gs m = some (e', g') → ∀ x, g x + g' x ≤ tot gs x := by
  induction h with
  | nil => intro n m e g e' g' _ h; simp [look3] at h
  | @cons k bs e0 es g0 ψ gs vals hv ha hr hg t ih =>
    intro n m e g e' g' hne h1 h2 x
    simp only [look3] at h1 h2
    simp only [tot]
    by_cases a1 : n = k
    · rw [if_pos a1] at h1
      rw [if_neg (fun e => hne (a1.trans e.symm))] at h2
      simp at h1
      obtain ⟨rfl, rfl⟩ := h1
      have := ((t.look m).2.2 e' g' h2).1 x
      omega
    · rw [if_neg a1] at h1
      by_cases a2 : m = k
      · rw [if_pos a2] at h2
        simp at h2
        obtain ⟨rfl, rfl⟩ := h2
        have := ((t.look n).2.2 e g h1).1 x
        omega
      · rw [if_neg a2] at h2
        have := ih n m e g e' g' hne h1 h2 x
        omega

theorem boxes_back {a : Act} (h : RelW E v (tmv a) w β φ) {w' : World} {Xs : Nat → Prop} : ∀ {as : List Arg} {ys : List Operand}, argsOk as ys = true → ∀ {ps : List PA} {ws : List (Res × Val)} {bs : List Nat}, argsOf v as = some (ps, ws, bs) →
    ∀ {es : List (List AC)} {gs : List Foot}, BoxRel w' Xs ps (ys.map a.eval) es gs → Back w' Xs β bs es gs
  | [], [], _, ps, ws, bs, hp, es, gs, hb => by
    simp only [argsOf, Option.some.injEq, Prod.mk.injEq] at hp
    obtain ⟨rfl, rfl, rfl⟩ := hp
    cases hb
    exact .nil
  | [], _ :: _, hok, _, _, _, _, _, _, _ => by simp [argsOk] at hok
  | _ :: _, [], hok, _, _, _, _, _, _, _ => by simp [argsOk] at hok
  | x :: as, y :: ys, hok, ps, ws, bs, hp, es, gs, hb => by
    simp only [argsOk, Bool.and_eq_true] at hok
    obtain ⟨hxy, hok⟩ := hok
    cases x with
    | v x =>
      simp only [argsOf] at hp
      obtain ⟨⟨st, tv, w1⟩, h1, hp1⟩ := ob_some hp
      try dsimp only at hp1
      split at hp1 <;> try (simp at hp1; done)
      obtain ⟨⟨ps', w3, bs'⟩, h2, hp2⟩ := ob_some hp1
      simp only [Option.some.injEq, Prod.mk.injEq] at hp2
      obtain ⟨rfl, rfl, rfl⟩ := hp2
      cases hb with
      | other _ t => exact boxes_back h hok h2 t
    | bx n r =>
      cases y <;> simp [argOk] at hxy
      subst hxy
      simp only [argsOf] at hp
      split at hp <;> try (simp at hp; done)
      rename_i q cs hv hvb
      split at hp <;> try (simp at hp; done)
      rename_i hq
      subst hq
      obtain ⟨⟨ps', w3, bs'⟩, h2, hp2⟩ := ob_some hp
      try dsimp only at hp2
      split at hp2 <;> try (simp at hp2; done)
      simp only [Option.some.injEq, Prod.mk.injEq] at hp2
      obtain ⟨rfl, rfl, rfl⟩ := hp2
      obtain ⟨_, _, b, o', e, k1, k2, k3⟩ := h.ent n _ _ hv (by intro p hp; simp at hp)
      rw [List.map_cons, show a.eval (.tmp n) = tmv a n from rfl, e] at hb
      subst k2
      cases hb with
      | other hne _ => simp at hne
      | box hv' ha hr hg t => exact .cons hv' ha hr hg (boxes_back h hok h2 t)
    | lend n rs r =>
      simp only [argsOf] at hp
      split at hp <;> try (simp at hp; done)
      · split at hp <;> try (simp at hp; done)
        obtain ⟨⟨ps', w3, bs'⟩, h2, hp2⟩ := ob_some hp
        simp only [Option.some.injEq, Prod.mk.injEq] at hp2
        obtain ⟨rfl, rfl, rfl⟩ := hp2
        cases hb with
        | other _ t => exact boxes_back h hok h2 t
      · split at hp <;> try (simp at hp; done)
        obtain ⟨cs, hcs, hp1⟩ := ob_some hp
        obtain ⟨xs', hxs, hp2⟩ := ob_some hp1
        try dsimp only at hp2
        split at hp2 <;> try (simp at hp2; done)
        obtain ⟨⟨ps', w3, bs'⟩, h2, hp3⟩ := ob_some hp2
        simp only [Option.some.injEq, Prod.mk.injEq] at hp3
        obtain ⟨rfl, rfl, rfl⟩ := hp3
        cases hb with
        | other _ t => exact boxes_back h hok h2 t
      · split at hp <;> try (simp at hp; done)
        obtain ⟨cs, hcs, hp1⟩ := ob_some hp
        obtain ⟨xs', hxs, hp2⟩ := ob_some hp1
        obtain ⟨⟨ps', w3, bs'⟩, h2, hp3⟩ := ob_some hp2
        simp only [Option.some.injEq, Prod.mk.injEq] at hp3
        obtain ⟨rfl, rfl, rfl⟩ := hp3
        cases hb with
        | other _ t => exact boxes_back h hok h2 t
      · split at hp <;> try (simp at hp; done)
        obtain ⟨⟨ps', w3, bs'⟩, h2, hp2⟩ := ob_some hp
        simp only [Option.some.injEq, Prod.mk.injEq] at hp2
        obtain ⟨rfl, rfl, rfl⟩ := hp2
        cases hb with
        | other _ t => exact boxes_back h hok h2 t
      · split at hp <;> try (simp at hp; done)
        obtain ⟨⟨ps', w3, bs'⟩, h2, hp2⟩ := ob_some hp
        simp only [Option.some.injEq, Prod.mk.injEq] at hp2
        obtain ⟨rfl, rfl, rfl⟩ := hp2
        cases hb with
        | other _ t => exact boxes_back h hok h2 t

theorem appl_back (v : Res → Val) {Xs : Nat → Prop} {bs : List Nat} {es : List (List AC)} {gs : List Foot} (h : Back w Xs β bs es gs) : ∀ {back : List (Res × Val)}, extsBack v bs es = some back → bs.Nodup → ∀ v0 : Res → Val,
    (∀ n, appl v0 back (.t n) = v0 (.t n)) ∧ (∀ n, appl v0 back (.b n) = match look3 bs es gs n with | some (e, _) => .b e | none => v0 (.b n)) ∧
      (∀ q, appl v0 back (.v q) = if ∃ n ∈ bs, q = .b n then .v (ver v q + 1) else v0 (.v q)) := by
  induction h with
  | nil => intro back hb _ v0; simp [extsBack] at hb; subst hb; simp [appl, look3]
  | @cons m bs e es g ψ gs vals hv ha hr hg t ih =>
    intro back hb hnd v0
    obtain ⟨ws, h1, h2⟩ := ob_some hb
    simp only [Option.some.injEq] at h2
    subst h2
    simp only [List.nodup_cons] at hnd
    obtain ⟨i1, i2, i3⟩ := ih h1 hnd.2 (appl v0 (putC v (.b m) e))
    obtain ⟨c1, c2, c3⟩ : (∀ n, appl v0 (putC v (.b m) e) (.t n) = v0 (.t n)) ∧ (∀ n, appl v0 (putC v (.b m) e) (.b n) = if n = m then .b e else v0 (.b n)) ∧ (∀ q, appl v0 (putC v (.b m) e) (.v q) = if q = .b m then .v (ver v q + 1) else v0 (.v q)) := by
      refine ⟨fun n => by simp [putC, appl], fun n => by simp [putC, appl, nrm], fun q => ?_⟩
      by_cases e1 : q = .b m
      · subst e1; simp [putC, appl, nrm]
      · simp [putC, appl, e1]
    refine ⟨fun n => by rw [appl_append, i1, c1], fun n => ?_, fun q => ?_⟩
    · rw [appl_append, i2, c2]
      simp only [look3]
      by_cases e0 : n = m
      · subst e0
        rw [(t.look n).2.1 hnd.1]
        simp
      · simp [e0]
    · rw [appl_append, i3, c3]
      by_cases e1 : ∃ n ∈ bs, q = .b n
      · obtain ⟨n, hn, e1⟩ := e1
        rw [if_pos ⟨n, hn, e1⟩, if_pos ⟨n, by simp [hn], e1⟩]
      · rw [if_neg e1]
        by_cases e2 : q = .b m
        · rw [if_pos e2, if_pos ⟨m, by simp, e2⟩]
        · rw [if_neg e2, if_neg (by rintro ⟨n, hn, e3⟩; rcases List.mem_cons.1 hn with rfl | hn; exact e2 e3; exact e1 ⟨n, hn, e3⟩)]

theorem call_run {f : FuncId} {fn : Func} {c : Code} (hf : P.funcs[f]? = some fn) (hname : (fn.name == "runtime.NumGoroutine") = false) (hb : fn.body = some c) {o : Oper} {a : Act} {ys : Array Operand} {ts : Array TypeId}
    (hop : o.op = .call { callee := .value (.func f), args := ys, argTypes := ts }) (w : World) : (execOp a.eval o).run P w = .ok (.enter f (ys.map a.eval)) w := by
  simp [execOp, hop, resolve, Deferred.ofValue, Act.eval, invoke, callFunc, hf, hb]
  simpa using hname

theorem putR_cases {d : Nat} {opn : Bool} {tv : TV} {ws : List (Res × Val)} (h : putR v d opn tv = some ws) :
    (opn = false ∧ (∃ a cs, tv = .pl a cs) ∧ ws = putT v d [] tv) ∨ (opn = false ∧ (∃ vs, tv = .tup vs) ∧ ws = putT v d [] tv) ∨
      (opn = true ∧ ∃ cells, tv = .pl false [.ref .own cells] ∧ v (.b d) = .nope ∧ ws = putT v d [] (.ptr (.b d) [] 0) ++ [(.b d, .b cells)]) := by
  cases tv with
  | pl a cs =>
    simp only [putR] at h
    split at h
    · split at h <;> simp only [Option.some.injEq, reduceCtorEq] at h
      rename_i hb
      exact .inr (.inr ⟨rfl, _, rfl, hb, h.symm⟩)
    · simp at h
    · simp only [Option.some.injEq] at h
      exact .inl ⟨rfl, ⟨_, _, rfl⟩, h.symm⟩
  | tup vs =>
    simp only [putR] at h
    split at h <;> simp only [Option.some.injEq, reduceCtorEq] at h
    rename_i ho
    exact .inr (.inl ⟨by simpa using ho, ⟨_, rfl⟩, h.symm⟩)
  | _ => simp [putR] at h

theorem RepTup.weak {w : World} {Xs X Xs' X' : Nat → Prop} {vs : List (Bool × List AC)} {us : List Value} {f : Foot} (h : RepTup w Xs X vs us f) (hs : ∀ b, Xs b → Xs' b) (hb : ∀ b, X b → X' b) : RepTup w Xs' X' vs us f :=
  h.frame (Nat.le_refl _) (fun b h => ⟨hs b h, rfl⟩) (fun b h => ⟨hb b h, rfl⟩) (fun _ _ => rfl)

/-- What comes back from a call, put in its places. -/
theorem call_step {a : Act} (h : RelW E v (tmv a) w β φ) (hC : ∀ b, E.C b → b < E.w0.heap.size) {d : Nat} {as : List Arg} {ys : List Operand} {opn : Bool} (hok : argsOk as ys = true) (_hnd : (argsL as).Nodup) (hdL : d ∉ argsL as)
    {ps : List PA} {ws1 : List (Res × Val)} {bs : List Nat} (hargs : argsOf v as = some (ps, ws1, bs)) {out : AOut} {back ws2 : List (Res × Val)} (hback : extsBack v bs out.exts = some back) (hput : putR v d opn out.tv = some ws2)
    (hw1 : ws1 = dropL v (argsL as)) (hbs : bs = argsB as) (hbn : bs.Nodup) (hbp : ∀ n ∈ bs, ∃ cs, v (.b n) = .b cs) {u : Value} {w' : World}
    (hout : CallOut w (fun x => E.C x ∨ ∃ r, ¬ Passed as r ∧ φ r x ≠ 0) ps (ys.map a.eval) (passF φ as) out u w') {tm' : Nat → Value} (htm : ∀ n, tm' n = if n = d then u else tmv a n) :
    ∃ β' φ', RelW E (appl v (ws2 ++ (ws1 ++ back))) tm' w' β' φ' := by
  obtain ⟨f, gs, o1, o2, o3, o4, o5, o6, o7, o8, o9⟩ := hout
  have hB := boxes_back h hok hargs o4
  subst hw1
  generalize hv' : appl v (ws2 ++ (dropL v (argsL as) ++ back)) = v'
  rw [appl_append, appl_append] at hv'
  obtain ⟨b1, b2, b3⟩ := appl_back v hB hback hbn (appl (appl v ws2) (dropL v (argsL as)))
  obtain ⟨l1, l2, l3⟩ := appl_dropL v (argsL as) (appl v ws2)
  rw [hv'] at b1 b2 b3
  have hpc := putR_cases hput
  -- the slot that is written
  have hdB : opn = true → d ∉ bs := by
    intro ho hd
    rcases hpc with ⟨e, _⟩ | ⟨e, _⟩ | ⟨_, cells, _, hnb, _⟩
    · rw [ho] at e; simp at e
    · rw [ho] at e; simp at e
    · obtain ⟨cs, hcs⟩ := hbp d hd
      rw [hnb] at hcs
      simp at hcs
  let TVd : TV := if opn then .ptr (.b d) [] 0 else out.tv
  have w2T : ∀ n, appl v ws2 (.t n) = if n = d then .t [] TVd else v (.t n) := by
    intro n
    rcases hpc with ⟨e, _, rfl⟩ | ⟨e, _, rfl⟩ | ⟨e, cells, _, _, rfl⟩
    · simp only [TVd, e]; exact (appl_putT v v d [] _).1 n
    · simp only [TVd, e]; exact (appl_putT v v d [] _).1 n
    · simp only [TVd, e, appl_append]
      have := (appl_putT v v d [] (.ptr (.b d) [] 0)).1 n
      simp [appl, this]
  have w2B : ∀ n, n ≠ d ∨ opn = false → appl v ws2 (.b n) = v (.b n) := by
    intro n hn
    rcases hpc with ⟨e, _, rfl⟩ | ⟨e, _, rfl⟩ | ⟨e, cells, _, _, rfl⟩
    · exact (appl_putT v v d [] _).2.1 n
    · exact (appl_putT v v d [] _).2.1 n
    · have hn' : n ≠ d := hn.resolve_right (by simp [e])
      have := (appl_putT v v d [] (.ptr (.b d) [] 0)).2.1 n
      simp [appl_append, appl, this, hn']
  have w2V : ∀ q, appl v ws2 (.v q) = if q = .t d ∧ isNope (v (.t d)) = false then .v (ver v (.t d) + 1) else v (.v q) := by
    intro q
    rcases hpc with ⟨e, _, rfl⟩ | ⟨e, _, rfl⟩ | ⟨e, cells, _, _, rfl⟩
    · exact (appl_putT v v d [] _).2.2 q
    · exact (appl_putT v v d [] _).2.2 q
    · have := (appl_putT v v d [] (.ptr (.b d) [] 0)).2.2 q
      simp only [appl_append, appl]
      simp [this]
  have vT : ∀ n, v' (.t n) = if n ∈ argsL as then .nope else if n = d then .t [] TVd else v (.t n) := fun n => by rw [b1, l1, w2T]
  have vV : ∀ q, v' (.v q) = if ∃ n ∈ bs, q = .b n then .v (ver v q + 1) else if ∃ n ∈ argsL as, q = .t n then .v (ver v q + 1) else if q = .t d ∧ isNope (v (.t d)) = false then .v (ver v (.t d) + 1) else v (.v q) := fun q => by
    rw [b3, l3, w2V]
  have verV : ∀ q, ver v' q = if ∃ n ∈ bs, q = .b n then ver v q + 1 else if ∃ n ∈ argsL as, q = .t n then ver v q + 1 else if q = .t d ∧ isNope (v (.t d)) = false then ver v q + 1 else ver v q := by
    intro q
    have hu := vV q
    have of : ∀ k, v' (.v q) = .v k → ver v' q = k := fun k hk => by unfold ver; rw [hk]
    by_cases c1 : ∃ n ∈ bs, q = .b n
    · rw [if_pos c1] at hu ⊢; exact of _ hu
    · rw [if_neg c1] at hu ⊢
      by_cases c2 : ∃ n ∈ argsL as, q = .t n
      · rw [if_pos c2] at hu ⊢; exact of _ hu
      · rw [if_neg c2] at hu ⊢
        by_cases c3 : q = .t d ∧ isNope (v (.t d)) = false
        · rw [if_pos c3] at hu ⊢; rw [of _ hu, c3.1]
        · rw [if_neg c3] at hu ⊢; unfold ver; rw [hu]
  -- the address of the box that is opened
  have hopn : ∃ ad : Nat, ∃ ψ0 : Foot, ∃ cells : List AC, opn = true → (∃ vals, u = .pointer (some ⟨ad, 0, none⟩) ∧ Cells w' ad 0 vals ∧ Avail w' ad 0 vals.length ∧ RepL w' (AXs w' (fun x => E.C x ∨ ∃ r, ¬ Passed as r ∧ φ r x ≠ 0) (fun x => f x + tot gs x)) (fun _ => False) cells vals ψ0) ∧
      (∀ x, f x = (if x = ad then 1 else 0) + ψ0 x) ∧ appl v ws2 (.b d) = .b cells ∧ v (.b d) = .nope := by
    rcases hpc with ⟨e, _⟩ | ⟨e, _⟩ | ⟨_, cells, e, hnb, rfl⟩
    · exact ⟨0, f, [], fun e' => by rw [e'] at e; simp at e⟩
    · exact ⟨0, f, [], fun e' => by rw [e'] at e; simp at e⟩
    · rw [e] at o3
      obtain ⟨vals, r1, r2⟩ := o3
      simp at r2
      subst r2
      cases r1 with
      | sc hs => simp [Scal] at hs
      | @refOwn _ _ b _ vals φ1 _ _ _ hb ha hv h t =>
        cases t
        refine ⟨b, φ1, cells, fun _ => ⟨⟨vals, rfl, hv, by rw [h.length]; exact ha, h⟩, fun x => by simp, ?_, hnb⟩⟩
        simp [appl_append, appl, nrm]
  obtain ⟨ad, ψ0, cells, hopn⟩ := hopn
  let φ' : Res → Foot := fun r => match r with
    | .t n => if n = d then (if opn then fun _ => 0 else f) else if n ∈ argsL as then fun _ => 0 else φ (.t n)
    | .b n => if opn = true ∧ n = d then f else match look3 bs out.exts gs n with | some (_, g) => g | none => φ (.b n)
    | .v q => φ (.v q)
  let β' : Nat → Nat := fun n => if opn = true ∧ n = d then ad else β n
  let W : Res → Prop := fun r => r = .t d ∨ (∃ n ∈ argsL as, r = .t n) ∨ (∃ n ∈ bs, r = .b n) ∨ (opn = true ∧ r = .b d)
  have hWt : ∀ n, W (.t n) ↔ n = d ∨ n ∈ argsL as := fun n => by simp [W]
  have hWb : ∀ n, W (.b n) ↔ n ∈ bs ∨ (opn = true ∧ n = d) := fun n => by simp [W]
  have hWv : ∀ q, ¬ W (.v q) := fun q => by simp [W]
  have pass_of : ∀ r, Passed as r → W r := by
    rintro r (⟨n, hn, rfl⟩ | ⟨n, hn, rfl⟩)
    · exact (hWt n).2 (.inr hn)
    · exact (hWb n).2 (.inl (by rw [hbs]; exact hn))
  have fle : ∀ r, W r → ∀ x, φ' r x ≤ f x + tot gs x := by
    intro r hr x
    cases r with
    | v q => exact absurd hr (hWv q)
    | t n =>
      rw [hWt] at hr
      by_cases e : n = d
      · simp only [φ', if_pos e]
        split
        · exact Nat.zero_le _
        · omega
      · simp only [φ', if_neg e, if_pos (hr.resolve_left e)]
        exact Nat.zero_le _
    | b n =>
      rw [hWb] at hr
      by_cases e : opn = true ∧ n = d
      · simp only [φ', if_pos e]; omega
      · simp only [φ', if_neg e]
        obtain ⟨e1, g, hg⟩ := (hB.look n).1 (hr.resolve_right e)
        rw [hg]
        have := ((hB.look n).2.2 e1 g hg).1 x
        simp only
        omega
  have monoS : ∀ x, AXs w' (fun x => E.C x ∨ ∃ r, ¬ Passed as r ∧ φ r x ≠ 0) (fun x => f x + tot gs x) x → XS E w' φ' x := by
    rintro x ⟨k1, k2, k3⟩
    refine ⟨k1, fun r => ?_, fun hc => k3 (.inl hc)⟩
    by_cases hr : W r
    · have := fle r hr x; simp only at k2; omega
    · have hnp : ¬ Passed as r := fun hp => hr (pass_of r hp)
      have h0 : φ r x = 0 := Classical.byContradiction fun e => k3 (.inr ⟨r, hnp, e⟩)
      cases r with
      | v q => exact h0
      | t n =>
        rw [hWt] at hr
        simp only [φ', if_neg (fun e => hr (.inl e)), if_neg (fun e => hr (.inr e))]
        exact h0
      | b n =>
        rw [hWb] at hr
        simp only [φ', if_neg (fun e => hr (.inr e)), (hB.look n).2.1 (fun e => hr (.inl e))]
        exact h0
  have verLe : ∀ q, ver v q ≤ ver v' q := fun q => by
    rw [verV]
    split
    · omega
    · split
      · omega
      · split <;> omega
  refine ⟨β', φ', h.multi hC W (fun r hr x => by have := fle r hr x; have := o1 x; omega) ?_ ?_ ?_ ?_ verLe ?_ ?_ ?_ ?_ ?_ o5 o6 o7 o8 ?_ ?_⟩
  · -- disjoint
    intro r s x hr hs h1 h2
    refine Classical.byContradiction fun hne => ?_
    have h01 := o1 x
    cases r with
    | v q => exact hWv q hr
    | t n =>
      have h1' := h1
      simp only [φ'] at h1'
      by_cases e : n = d
      · rw [if_pos e] at h1'
        by_cases ho : opn = true
        · simp [ho] at h1'
        · rw [if_neg ho] at h1'
          cases s with
          | v q => exact hWv q hs
          | t m =>
            simp only [φ'] at h2
            have hm : m ≠ d := fun e' => hne (by rw [e, e'])
            rw [if_neg hm] at h2
            rw [hWt] at hs
            rw [if_pos (hs.resolve_left hm)] at h2
            exact h2 rfl
          | b m =>
            simp only [φ', if_neg (fun (e : opn = true ∧ m = d) => ho e.1)] at h2
            rw [hWb] at hs
            obtain ⟨e1, g, hg⟩ := (hB.look m).1 (hs.resolve_right (fun e => ho e.1))
            rw [hg] at h2
            have := ((hB.look m).2.2 e1 g hg).1 x
            simp only at h2
            omega
      · rw [if_neg e] at h1'
        rw [hWt] at hr
        rw [if_pos (hr.resolve_left e)] at h1'
        exact h1' rfl
    | b n =>
      have h1' := h1
      simp only [φ'] at h1'
      rw [hWb] at hr
      cases s with
      | v q => exact hWv q hs
      | t m =>
        simp only [φ'] at h2
        by_cases e : m = d
        · rw [if_pos e] at h2
          by_cases ho : opn = true
          · simp [ho] at h2
          · rw [if_neg ho] at h2
            rw [if_neg (fun (e : opn = true ∧ n = d) => ho e.1)] at h1'
            obtain ⟨e1, g, hg⟩ := (hB.look n).1 (hr.resolve_right (fun e => ho e.1))
            rw [hg] at h1'
            have := ((hB.look n).2.2 e1 g hg).1 x
            simp only at h1'
            omega
        · rw [if_neg e] at h2
          rw [hWt] at hs
          rw [if_pos (hs.resolve_left e)] at h2
          exact h2 rfl
      | b m =>
        simp only [φ'] at h2
        rw [hWb] at hs
        have hnm : n ≠ m := fun e => hne (by rw [e])
        by_cases e : opn = true ∧ n = d
        · rw [if_pos e] at h1'
          have e' : ¬ (opn = true ∧ m = d) := fun e' => hnm (e.2.trans e'.2.symm)
          rw [if_neg e'] at h2
          obtain ⟨e1, g, hg⟩ := (hB.look m).1 (hs.resolve_right e')
          rw [hg] at h2
          have := ((hB.look m).2.2 e1 g hg).1 x
          simp only at h2
          omega
        · rw [if_neg e] at h1'
          obtain ⟨e1, g, hg⟩ := (hB.look n).1 (hr.resolve_right e)
          rw [hg] at h1'
          simp only at h1'
          by_cases e' : opn = true ∧ m = d
          · rw [if_pos e'] at h2
            have := ((hB.look n).2.2 e1 g hg).1 x
            omega
          · rw [if_neg e'] at h2
            obtain ⟨e2, g2, hg2⟩ := (hB.look m).1 (hs.resolve_right e')
            rw [hg2] at h2
            simp only at h2
            have := hB.two n m e1 g e2 g2 hnm hg hg2 x
            omega
  · -- whence
    intro r x hr hx
    have := fle r hr x
    obtain ⟨k1, k2, k3⟩ := o2 x (by omega)
    rcases k3 with k3 | k3
    · exact .inr ⟨k3, k1⟩
    · obtain ⟨s, hs, hs2⟩ := passF_src k3
      exact .inl ⟨s, pass_of s hs, hs2⟩
  · intro r hq hr
    cases r with
    | v q => exact absurd rfl (hq q)
    | t n =>
      rw [hWt] at hr
      refine ⟨by rw [vT, if_neg (fun e => hr (.inr e)), if_neg (fun e => hr (.inl e))], by simp only [φ', if_neg (fun e => hr (.inl e)), if_neg (fun e => hr (.inr e))]⟩
    | b n =>
      rw [hWb] at hr
      refine ⟨?_, by simp only [φ', if_neg (fun e => hr (.inr e)), (hB.look n).2.1 (fun e => hr (.inl e))]⟩
      rw [b2, (hB.look n).2.1 (fun e => hr (.inl e)), l2]
      refine w2B n ?_
      by_cases e : n = d
      · exact .inr (by simpa using fun ho => hr (.inr ⟨ho, e⟩))
      · exact .inl e
  · intro r hr
    cases r with
    | v q => rfl
    | t n =>
      rw [hWt] at hr
      simp only [φ', if_neg (fun e => hr (.inl e)), if_neg (fun e => hr (.inr e))]
    | b n =>
      rw [hWb] at hr
      simp only [φ', if_neg (fun e => hr (.inr e)), (hB.look n).2.1 (fun e => hr (.inl e))]
  · -- bump
    intro q hq hf
    rw [verV]
    cases q with
    | t n =>
      rw [Rt.res, hWt] at hq
      rw [if_neg (by simp)]
      by_cases hn : n ∈ argsL as
      · rw [if_pos ⟨n, hn, rfl⟩]; omega
      · rw [if_neg (by rintro ⟨m, hm, e⟩; simp at e; exact hn (e ▸ hm))]
        have e := hq.resolve_right hn
        subst e
        rw [if_pos ⟨rfl, hf⟩]; omega
    | b n =>
      rw [Rt.res, hWb] at hq
      by_cases hn : n ∈ bs
      · rw [if_pos ⟨n, hn, rfl⟩]; omega
      · obtain ⟨ho, e⟩ := hq.resolve_left hn
        subst e
        have := (hopn ho).2.2.2
        simp [Rt.res, this, isNope] at hf
  · intro n hn
    rw [hWt] at hn
    rw [htm, if_neg (fun e => hn (.inl e))]
  · intro n hn
    rw [hWb] at hn
    exact if_neg (fun e => hn (.inr e))
  · -- boxes stay where they are
    intro n hn hf
    rw [hWb] at hn
    have hno : ¬ (opn = true ∧ n = d) := by
      rintro ⟨ho, rfl⟩
      have := (hopn ho).2.2.2
      simp [this, isNope] at hf
    have hnb := hn.resolve_right hno
    obtain ⟨e1, g, hg⟩ := (hB.look n).1 hnb
    obtain ⟨_, vals, ψ, k1, k2, k3, k4⟩ := (hB.look n).2.2 e1 g hg
    refine ⟨if_neg hno, ?_, ?_⟩
    · simp only [φ', if_neg hno, hg]
      rw [k4]; simp
    · rw [b2, hg]; rfl
  · -- memory
    intro x hx hz
    refine o9 x hx (Classical.byContradiction fun e => ?_)
    obtain ⟨s, hs, hs2⟩ := passF_src e
    exact hs2 (hz s (pass_of s hs))
  · -- slots
    intro n hn
    rw [hWt] at hn
    rw [vT]
    by_cases hL : n ∈ argsL as
    · exact .inl (by rw [if_pos hL])
    · have e := hn.resolve_right hL
      subst e
      rw [if_neg hL, if_pos rfl]
      refine .inr ⟨TVd, rfl, ?_⟩
      rw [htm, if_pos rfl]
      by_cases ho : opn = true
      · obtain ⟨⟨vals, hu, h1, h2, h3⟩, h4, h5, h6⟩ := hopn ho
        simp only [TVd, ho, if_true]
        refine ⟨?_, .inl rfl, ad, 0, hu, ?_, ?_, rfl⟩
        · rw [Rt.res, b2, (hB.look n).2.1 (hdB ho), l2, h5]; rfl
        · simp only [φ', Rt.res, ho, true_and, if_true, β']
          rw [h4]; simp
        · simp [β', ho]
      · have ho' : opn = false := by simpa using ho
        have e1 : φ' (.t n) = f := by simp [φ', ho']
        have e2 : TVd = out.tv := by simp [TVd, ho']
        rw [e1, e2]
        rcases hpc with ⟨_, ⟨ag, cs, e⟩, _⟩ | ⟨_, ⟨vs, e⟩, _⟩ | ⟨e, _⟩
        · rw [e] at o3 ⊢
          obtain ⟨vals, r1, r2⟩ := o3
          exact ⟨vals, r1.weak monoS (fun _ h => h.elim), r2⟩
        · rw [e] at o3 ⊢
          obtain ⟨us, r1, r2⟩ := o3
          exact ⟨us, r1, r2.weak monoS (fun _ h => h.elim)⟩
        · rw [ho'] at e; simp at e
  · -- boxes
    intro n cs hn hv
    rw [hWb] at hn
    by_cases e : opn = true ∧ n = d
    · obtain ⟨ho, rfl⟩ := e
      obtain ⟨⟨vals, hu, h1, h2, h3⟩, h4, h5, h6⟩ := hopn ho
      rw [b2, (hB.look n).2.1 (hdB ho), l2, h5] at hv
      simp at hv
      subst hv
      refine ⟨vals, ψ0, ?_, ?_, h3.weak monoS (fun _ h => h.elim), fun x => ?_⟩
      · simpa [β', ho] using h1
      · simpa [β', ho] using h2
      · simp only [φ', β', ho, true_and, if_true]; exact h4 x
    · have hnb := hn.resolve_right e
      obtain ⟨e1, g, hg⟩ := (hB.look n).1 hnb
      obtain ⟨_, vals, ψ, k1, k2, k3, k4⟩ := (hB.look n).2.2 e1 g hg
      rw [b2, hg] at hv
      simp at hv
      subst hv
      have eb : β' n = β n := if_neg e
      refine ⟨vals, ψ, by rw [eb]; exact k1, by rw [eb]; exact k2, k3.weak monoS (fun _ h => h.elim), fun x => ?_⟩
      simp only [φ', if_neg e, hg, eb]
      exact k4 x
end
end Go.Fw
namespace Go.Fw
open Go

section
variable {P : Program} {E : Env} {v : Res → Val} {o : Oper} {a : Act} {w : World} {β : Nat → Nat} {φ : Res → Foot}

theorem call_sound {Γ : Gam} (hΓ : SatE P E Γ) (h : RelW E v (tmv a) w β φ) (hC : ∀ b, E.C b → b < E.w0.heap.size) {d : Nat} {f : FuncId} {as : List Arg} {opn : Bool} {fn : Func} {c : Code} {ys : Array Operand} {ts : Array TypeId}
    (hop : o.op = .call { callee := .value (.func f), args := ys, argTypes := ts }) (hd : o.dst = some d) (hN : d < a.tmps.size)
    (hfn : P.funcs[f]? = some fn) (hname : (fn.name == "runtime.NumGoroutine") = false) (hb : fn.body = some c) (hok : argsOk as ys.toList = true) (hnd : (argsL as).Nodup) (hdL : d ∉ argsL as)
    (hR : ∀ q ∈ argsR as, ¬ Passed as q.res) {ws : List (Res × Val)} (hf : fop Γ v (.call d f as opn) = some ws) : OpSound P E (appl v ws) o a w := by
  obtain ⟨⟨ps, ws1, bs⟩, h1, hf1⟩ := ob_some hf
  obtain ⟨out, h2, hf2⟩ := ob_some hf1
  obtain ⟨back, h3, hf3⟩ := ob_some hf2
  obtain ⟨ws2, h4, hf4⟩ := ob_some hf3
  simp only [Option.some.injEq] at hf4
  subst hf4
  clear hf hf1 hf2 hf3
  let C : Nat → Prop := fun x => E.C x ∨ ∃ r, ¬ Passed as r ∧ φ r x ≠ 0
  have pz : ∀ b, (∀ r, φ r b ≠ 0 → ¬ Passed as r) → passF φ as b = 0 := fun b hb => Classical.byContradiction fun e => by
    obtain ⟨r, k1, k2⟩ := passF_src e
    exact hb r k2 k1
  obtain ⟨a1, a2, a3, a4, a5⟩ := args_sound h (Xs := AXs w C (passF φ as)) (Xb := AXb w (passF φ as)) (K := Passed as)
    (fun b hb => ⟨hb.1, pz b (fun r hr => absurd (hb.2.1 r) hr), fun hc => by
      rcases hc with hc | ⟨r, _, hr⟩
      · exact hb.2.2 hc
      · exact hr (hb.2.1 r)⟩)
    (fun b hb hr => ⟨hb, pz b hr⟩) hok hR h1
  have hin : CallIn w C ps (ys.toList.map a.eval) (passF φ as) := by
    refine ⟨passF_le1 h hnd (a2 ▸ a3), fun x hx => ?_, fun x hx => ?_, a5⟩
    · obtain ⟨r, k1, k2⟩ := passF_src hx
      refine ⟨(h.dom r x k2).1, fun hc => ?_⟩
      rcases hc with hc | ⟨s, hs, hs2⟩
      · exact (h.dom r x k2).2.1 hc
      · exact hs (h.uniq r s x k2 hs2 ▸ k1)
    · rcases hx with hc | ⟨s, hs, hs2⟩
      · exact Nat.lt_of_lt_of_le (hC x hc) h.size
      · exact (h.dom s x hs2).1
  have hcall := hΓ f ps out h2 w C _ _ hin h.size (fun x hx hm => ⟨Classical.byContradiction fun e => by
    obtain ⟨r, _, k2⟩ := passF_src e
    rcases (h.dom r x k2).2.2 with k3 | k3
    · omega
    · exact hm k3, h.old x hx hm⟩)
  intro next Q hn
  unfold Oper.wp
  have hys : (ys.toList.map a.eval).toArray = ys.map a.eval := by apply Array.ext'; simp
  rw [call_run hfn hname hb hop w, Oper.upon_enter, ← hys]
  refine Calls.mono hcall fun e w' he => ?_
  cases e with
  | panicked ch => exact he.elim
  | outgrown => exact he.elim
  | returned u =>
    simp only at he ⊢
    rw [hd]
    exact hn _ _ (Good.put hN fun tm' htm => call_step h hC hok hnd hdL h1 h3 h4 a1 a2 a3 a4 he htm) (Wrote.put hd u)

theorem RepTup.at {Xs X : Nat → Prop} {vs : List (Bool × List AC)} {us : List Value} {f : Foot} (h : RepTup w Xs X vs us f) : ∀ {i : Nat} {g : Bool} {cs : List AC}, vs[i]? = some (g, cs) →
    ∃ u f1 f2, us[i]? = some u ∧ RepPl w Xs X g cs u f1 ∧ (∀ x, f x = f1 x + f2 x) ∧ RepTup w Xs X (vs.set i (g, List.replicate cs.length .gone)) us f2 := by
  induction h with
  | nil => intro i g cs h; simp at h
  | @cons a' cs' u' vs us φ1 ψ1 h t ih =>
    intro i g cs hi
    cases i with
    | zero =>
      simp at hi
      obtain ⟨rfl, rfl⟩ := hi
      obtain ⟨vals, h1, h2⟩ := h
      refine ⟨u', φ1, ψ1, by simp, ⟨vals, h1, h2⟩, fun _ => rfl, ?_⟩
      have := RepTup.cons (a := a') (cs := List.replicate cs'.length .gone) (u := u') (φ := fun _ => 0) ⟨vals, by rw [← h1.length]; exact gone_rep h1.one, h2⟩ t
      exact this.cast (fun x => by simp)
    | succ i =>
      simp at hi
      obtain ⟨u, f1, f2, e1, e2, e3, e4⟩ := ih hi
      refine ⟨u, f1, fun x => φ1 x + f2 x, by simpa using e1, e2, fun x => by have := e3 x; dsimp only; omega, ?_⟩
      simp only [List.set_cons_succ]
      exact .cons h e4

theorem ext_sound {Γ : Gam} (h : RelW E v (tmv a) w β φ) (hC : ∀ b, E.C b → b < E.w0.heap.size) {d : Nat} {x : Opr} {y : Operand} {i : Nat} {opn : Bool} (hop : o.op = .extract y i) (hd : o.dst = some d) (hN : d < a.tmps.size)
    (hxy : oprOk x y = true) {ws : List (Res × Val)} (hf : fop Γ v (.ext d x i opn) = some ws) : OpSound P E (appl v ws) o a w := by
  simp only [fop] at hf
  split at hf <;> try (simp at hf; done)
  rename_i n rs
  cases y <;> simp [oprOk] at hxy
  subst hxy
  split at hf <;> try (simp at hf; done)
  rename_i vs hv
  split at hf <;> try (simp at hf; done)
  rename_i g cs hi
  obtain ⟨ws1, h1, hf1⟩ := ob_some hf
  clear hf
  obtain ⟨us, e1, e2⟩ := h.ent n _ _ hv (by intro p hp; simp at hp)
  obtain ⟨u, f1, f2, k1, k2, k3, k4⟩ := e2.at hi
  have hrun : (execOp a.eval o).run P w = .ok (.value u) w := by
    have : a.eval (.tmp n) = .tuple us.toArray := e1
    simp [execOp, hop, this, Instr.extract, k1]
  have hpc := putR_cases h1
  by_cases hno : noOwnL cs = true
  · rw [if_pos hno] at hf1
    simp only [Option.some.injEq] at hf1
    subst hf1
    rcases hpc with ⟨_, _, rfl⟩ | ⟨_, ⟨_, e⟩, _⟩ | ⟨_, cells, e, _⟩
    · obtain ⟨vals, r1, r2⟩ := k2
      have := OpSound.val (P := P) (tv := .pl g cs) (st := []) h hC hd hN hrun (.refl w) (L := []) (by simp) (f := fun _ => 0) (by simp) (by simp) (by simp) (by intro p hp; simp at hp) (by simp)
        ⟨vals, r1.cast (r1.foot0 hno), r2⟩
      simpa [dropL] using this
    · simp at e
    · simp at e
      rw [e.2] at hno
      simp [noOwnL, AC.noOwn] at hno
  · rw [if_neg hno] at hf1
    split at hf1 <;> simp only [Option.some.injEq, reduceCtorEq] at hf1
    rename_i hdn
    subst hf1
    intro next Q hn
    refine wp_of next Q hd hN hrun ?_ hn
    intro tm' htm
    let TVd : TV := if opn then .ptr (.b d) [] 0 else .pl g cs
    generalize hv' : appl v (ws1 ++ [(Res.t n, Val.t [] (TV.tup (vs.set i (g, List.replicate cs.length .gone)))), (.v (.t n), .v (ver v (.t n) + 1))]) = v'
    have T : ∀ m, v' (.t m) = if m = n then .t [] (TV.tup (vs.set i (g, List.replicate cs.length .gone))) else if m = d then .t [] TVd else v (.t m) := by
      intro m
      rw [← hv', appl_append]
      have e0 : appl v ws1 (.t m) = if m = d then .t [] TVd else v (.t m) := by
        rcases hpc with ⟨e, _, rfl⟩ | ⟨_, ⟨_, e⟩, _⟩ | ⟨e, cells, _, _, rfl⟩
        · simp only [TVd, e]; exact (appl_putT v v d [] _).1 m
        · simp at e
        · simp only [TVd, e, appl_append]
          have := (appl_putT v v d [] (.ptr (.b d) [] 0)).1 m
          simp [appl, this]
      by_cases em : m = n
      · subst em; simp [appl, nrm]
      · simp [appl, em, e0]
    have B : ∀ m, v' (.b m) = appl v ws1 (.b m) := by
      intro m; rw [← hv', appl_append]; simp [appl]
    have B1 : ∀ m, m ≠ d ∨ opn = false → v' (.b m) = v (.b m) := by
      intro m hm
      rw [B]
      rcases hpc with ⟨e, _, rfl⟩ | ⟨_, ⟨_, e⟩, _⟩ | ⟨e, cells, _, _, rfl⟩
      · exact (appl_putT v v d [] _).2.1 m
      · simp at e
      · have hm' : m ≠ d := hm.resolve_right (by simp [e])
        have := (appl_putT v v d [] (.ptr (.b d) [] 0)).2.1 m
        simp [appl_append, appl, this, hm']
    have V : ∀ q, v' (.v q) = if q = .t n then .v (ver v (.t n) + 1) else if q = .t d ∧ isNope (v (.t d)) = false then .v (ver v (.t d) + 1) else v (.v q) := by
      intro q
      rw [← hv', appl_append]
      have e0 : appl v ws1 (.v q) = if q = .t d ∧ isNope (v (.t d)) = false then .v (ver v (.t d) + 1) else v (.v q) := by
        rcases hpc with ⟨e, _, rfl⟩ | ⟨_, ⟨_, e⟩, _⟩ | ⟨e, cells, _, _, rfl⟩
        · exact (appl_putT v v d [] _).2.2 q
        · simp at e
        · have := (appl_putT v v d [] (.ptr (.b d) [] 0)).2.2 q
          simp [appl_append, appl, this]
      by_cases eq : q = .t n
      · subst eq; simp [appl, nrm]
      · simp [appl, eq, e0]
    have of : ∀ q k, v' (.v q) = .v k → ver v' q = k := fun q k hk => by unfold ver; rw [hk]
    have verV : ∀ q, ver v' q = if q = .t n then ver v q + 1 else if q = .t d ∧ isNope (v (.t d)) = false then ver v q + 1 else ver v q := by
      intro q
      have hu := V q
      by_cases c1 : q = .t n
      · rw [if_pos c1] at hu ⊢; rw [of _ _ hu, c1]
      · rw [if_neg c1] at hu ⊢
        by_cases c3 : q = .t d ∧ isNope (v (.t d)) = false
        · rw [if_pos c3] at hu ⊢; rw [of _ _ hu, c3.1]
        · rw [if_neg c3] at hu ⊢; unfold ver; rw [hu]
    have hopn : ∃ ad : Nat, ∃ ψ0 : Foot, ∃ cells : List AC, opn = true → (∃ vals, u = .pointer (some ⟨ad, 0, none⟩) ∧ Cells w ad 0 vals ∧ Avail w ad 0 vals.length ∧ RepL w (XS E w φ) (XB w φ []) cells vals ψ0) ∧
        (∀ x, f1 x = (if x = ad then 1 else 0) + ψ0 x) ∧ v' (.b d) = .b cells ∧ v (.b d) = .nope := by
      rcases hpc with ⟨e, _⟩ | ⟨e, _⟩ | ⟨_, cells, e, hnb, rfl⟩
      · exact ⟨0, f1, [], fun e' => by rw [e'] at e; simp at e⟩
      · exact ⟨0, f1, [], fun e' => by rw [e'] at e; simp at e⟩
      · simp at e
        obtain ⟨rfl, rfl⟩ := e
        obtain ⟨vals, r1, r2⟩ := k2
        simp at r2
        subst r2
        cases r1 with
        | sc hs => simp [Scal] at hs
        | @refOwn _ _ b _ vals φ1 _ _ _ hb ha hv h t =>
          cases t
          refine ⟨b, φ1, cells, fun _ => ⟨⟨vals, rfl, hv, by rw [h.length]; exact ha, h⟩, fun x => by simp, ?_, hnb⟩⟩
          rw [B]
          simp [appl_append, appl, nrm]
    obtain ⟨ad, ψ0, cells, hopn⟩ := hopn
    let φ' : Res → Foot := fun r => match r with
      | .t m => if m = n then f2 else if m = d then (if opn then fun _ => 0 else f1) else φ (.t m)
      | .b m => if opn = true ∧ m = d then f1 else φ (.b m)
      | .v q => φ (.v q)
    let β' : Nat → Nat := fun m => if opn = true ∧ m = d then ad else β m
    let W : Res → Prop := fun r => r = .t d ∨ r = .t n ∨ (opn = true ∧ r = .b d)
    have hn1 := h.le1 (.t n)
    have fsum : ∀ x, f1 x + f2 x = φ (.t n) x := fun x => (k3 x).symm
    have zero : ∀ b, (∀ r, φ r b = 0) → ∀ r, φ' r b = 0 := by
      intro b hb r
      have h0 := hb (.t n)
      have := fsum b
      cases r with
      | v q => exact hb _
      | t m =>
        simp only [φ']
        split
        · omega
        · split
          · split
            · rfl
            · omega
          · exact hb _
      | b m =>
        simp only [φ']
        split
        · omega
        · exact hb _
    have monoS : ∀ b, XS E w φ b → XS E w φ' b := fun b hb => ⟨hb.1, zero b hb.2.1, hb.2.2⟩
    have monoB : ∀ b, XB w φ [] b → XB w φ' [] b := fun b hb => ⟨hb.1, fun r hr => absurd (zero b (fun r' => Classical.byContradiction fun e => by obtain ⟨_, h1, _⟩ := hb.2 r' e; simp at h1) r) hr⟩
    have hndd : n ≠ d := fun e => hdn e.symm
    have φn : φ' (.t n) = f2 := by simp [φ']
    have φd : φ' (.t d) = if opn then fun _ => 0 else f1 := by simp [φ', hdn]
    refine ⟨β', φ', h.multi hC W ?_ ?_ ?_ ?_ ?_ ?_ ?_ ?_ ?_ ?_ (fun _ _ _ => rfl) rfl rfl rfl (Nat.le_refl _) ?_ ?_⟩
    · rintro r (rfl | rfl | ⟨ho, rfl⟩) b
      · rw [φd]; have := fsum b; have := hn1 b; split <;> first | exact Nat.zero_le _ | omega
      · rw [φn]; have := fsum b; have := hn1 b; omega
      · simp only [φ', ho, true_and, if_true]; have := fsum b; have := hn1 b; omega
    · rintro r s b (rfl | rfl | ⟨ho, rfl⟩) (rfl | rfl | ⟨ho', rfl⟩) e1 e2
      · rfl
      · rw [φd] at e1; rw [φn] at e2; have := fsum b; have := hn1 b
        split at e1 <;> first | exact absurd rfl e1 | omega
      · rw [φd, if_pos ho'] at e1; exact absurd rfl e1
      · rw [φd] at e2; rw [φn] at e1; have := fsum b; have := hn1 b
        split at e2 <;> first | exact absurd rfl e2 | omega
      · rfl
      · rw [φn] at e1; simp only [φ', ho', true_and, if_true] at e2; have := fsum b; have := hn1 b; omega
      · rw [φd, if_pos ho] at e2; exact absurd rfl e2
      · rw [φn] at e2; simp only [φ', ho, true_and, if_true] at e1; have := fsum b; have := hn1 b; omega
      · rfl
    · rintro r b (rfl | rfl | ⟨ho, rfl⟩) e1
      · refine .inl ⟨.t n, .inr (.inl rfl), ?_⟩
        rw [φd] at e1; have := fsum b
        split at e1 <;> first | exact absurd rfl e1 | omega
      · refine .inl ⟨.t n, .inr (.inl rfl), ?_⟩
        rw [φn] at e1; have := fsum b; omega
      · refine .inl ⟨.t n, .inr (.inl rfl), ?_⟩
        simp only [φ', ho, true_and, if_true] at e1; have := fsum b; omega
    · intro r hq hr
      cases r with
      | v q => exact absurd rfl (hq q)
      | t m =>
        have h1 : m ≠ d := fun e => hr (.inl (by rw [e]))
        have h2 : m ≠ n := fun e => hr (.inr (.inl (by rw [e])))
        exact ⟨by rw [T, if_neg h2, if_neg h1], by simp [φ', h1, h2]⟩
      | b m =>
        have h1 : ¬ (opn = true ∧ m = d) := fun e => hr (.inr (.inr ⟨e.1, by rw [e.2]⟩))
        refine ⟨B1 m ?_, by simp only [φ', if_neg h1]⟩
        by_cases e : m = d
        · exact .inr (by simpa using fun ho => h1 ⟨ho, e⟩)
        · exact .inl e
    · intro r hr
      cases r with
      | v q => rfl
      | t m =>
        have h1 : m ≠ d := fun e => hr (.inl (by rw [e]))
        have h2 : m ≠ n := fun e => hr (.inr (.inl (by rw [e])))
        simp [φ', h1, h2]
      | b m =>
        have h1 : ¬ (opn = true ∧ m = d) := fun e => hr (.inr (.inr ⟨e.1, by rw [e.2]⟩))
        simp only [φ', if_neg h1]
    · intro q; rw [verV]; split <;> first | omega | (split <;> omega)
    · intro q hq hf
      rw [verV]
      cases q with
      | t m =>
        by_cases e : m = n
        · subst e; rw [if_pos rfl]; omega
        · rw [if_neg (by simpa using e)]
          have e2 : m = d := by
            rcases hq with e' | e' | ⟨_, e'⟩
            · simpa [Rt.res] using e'
            · exact absurd (by simpa [Rt.res] using e') e
            · simp [Rt.res] at e'
          subst e2
          rw [if_pos ⟨rfl, hf⟩]; omega
      | b m =>
        rcases hq with e' | e' | ⟨ho, e'⟩
        · simp [Rt.res] at e'
        · simp [Rt.res] at e'
        · simp [Rt.res] at e'
          subst e'
          have := (hopn ho).2.2.2
          simp [Rt.res, this, isNope] at hf
    · intro m hm
      have h1 : m ≠ d := fun e => hm (.inl (by rw [e]))
      rw [htm, if_neg h1]
    · intro m hm
      exact if_neg (fun e => hm (.inr (.inr ⟨e.1, by rw [e.2]⟩)))
    · rintro m (e | e | ⟨ho, e⟩) hf
      · simp at e
      · simp at e
      · simp at e
        subst e
        have := (hopn ho).2.2.2
        simp [this, isNope] at hf
    · rintro m (e | e | ⟨ho, e⟩)
      · simp at e
        subst e
        refine .inr ⟨TVd, by rw [T, if_neg hdn, if_pos rfl], ?_⟩
        rw [htm, if_pos rfl, φd]
        by_cases ho : opn = true
        · obtain ⟨⟨vals, hu, g1, g2, g3⟩, g4, g5, g6⟩ := hopn ho
          simp only [TVd, ho, if_true]
          refine ⟨by rw [Rt.res, g5]; rfl, .inl rfl, ad, 0, hu, ?_, ?_, rfl⟩
          · simp only [φ', Rt.res, ho, true_and, if_true, β']
            rw [g4]; simp
          · simp [β', ho]
        · simp only [TVd, ho, if_false, Bool.false_eq_true]
          obtain ⟨vals, r1, r2⟩ := k2
          exact ⟨vals, r1.weak monoS monoB, r2⟩
      · simp at e
        subst e
        refine .inr ⟨_, by rw [T, if_pos rfl], ?_⟩
        rw [htm, if_neg hndd, φn]
        exact ⟨us, e1, k4.weak monoS monoB⟩
      · simp at e
    · rintro m cs' (e | e | ⟨ho, e⟩) hv1
      · simp at e
      · simp at e
      · simp at e
        subst e
        obtain ⟨⟨vals, hu, g1, g2, g3⟩, g4, g5, g6⟩ := hopn ho
        rw [g5] at hv1
        simp at hv1
        subst hv1
        refine ⟨vals, ψ0, ?_, ?_, g3.weak monoS monoB, fun x => ?_⟩
        · simpa [β', ho] using g1
        · simpa [β', ho] using g2
        · simp only [φ', β', ho, true_and, if_true]; exact g4 x
end
end Go.Fw
