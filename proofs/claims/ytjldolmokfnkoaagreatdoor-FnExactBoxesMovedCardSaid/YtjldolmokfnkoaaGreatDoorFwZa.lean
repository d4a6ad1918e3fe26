/- The framework, part Za: what a function gives back, and tables of functions. The framework, part Zb: deeper calls and more fuel only say more; the limit of all depths; a machine with a stack that says what the interpreter says. The framework, part Zc: what is left of a call from a place in its code on; functions and places as functions on plain data. Conditions: none. -/
import Derived.Test.YtjldolmokfnkoaaGreatDoorFwY
import Derived.Tactics
namespace Go.Fw
open Go

def oneOr (us : List Value) : Value := match us with | [u] => u | _ => .tuple us.toArray
def rdRes (tmps : Array Value) (r : ResultVar) : Sem Value :=
  match r with
  | .tmp t => pure (tmps.getD t undef)
  | .cell a t => do loadVar t (← asAddr (tmps.getD a undef))
theorem results_eq (fn : Func) (tmps : Array Value) : results fn tmps = (do let vs ← fn.results.mapM (rdRes tmps); pure (if h : vs.size = 1 then vs[0] else .tuple vs)) := rfl

theorem results_run {P : Program} {fn : Func} {tmps : Array Value} {w : World} {us : List Value} (hlen : fn.results.toList.length = us.length) (hl : us.length ≤ 4)
    (h : ∀ (i : Nat) (r : ResultVar) (u : Value), fn.results.toList[i]? = some r → us[i]? = some u → (rdRes tmps r).run P w = .ok u w) : (results fn tmps).run P w = .ok (oneOr us) w := by
  rw [results_eq]
  generalize hr : fn.results.toList = rs at hlen h
  match rs, us, hlen, hl with
  | [], [], _, _ => have e : fn.results = #[] := Array.ext' hr; simp [e, oneOr]
  | [a], [u], _, _ =>
    have e : fn.results = #[a] := Array.ext' hr
    have h0 := h 0 a u rfl rfl
    simp [e, oneOr, h0]
  | [a, b], [u, x], _, _ =>
    have e : fn.results = #[a, b] := Array.ext' hr
    have h0 := h 0 a u rfl rfl
    have h1 := h 1 b x rfl rfl
    simp [e, oneOr, h0, h1]
  | [a, b, c], [u, x, y], _, _ =>
    have e : fn.results = #[a, b, c] := Array.ext' hr
    have h0 := h 0 a u rfl rfl
    have h1 := h 1 b x rfl rfl
    have h2 := h 2 c y rfl rfl
    simp [e, oneOr, h0, h1, h2]
  | [a, b, c, d], [u, x, y, z], _, _ =>
    have e : fn.results = #[a, b, c, d] := Array.ext' hr
    have h0 := h 0 a u rfl rfl
    have h1 := h 1 b x rfl rfl
    have h2 := h 2 c y rfl rfl
    have h3 := h 3 d z rfl rfl
    simp [e, oneOr, h0, h1, h2, h3]
  | _ :: _ :: _ :: _ :: _ :: _, us, hlen, hl => simp at hlen; omega

section
variable {P : Program} {E : Env} {v : Res → Val} {tm : Nat → Value} {w : World} {β : Nat → Nat} {φ : Res → Foot}

theorem flat_noOwn : ∀ {cs : List AC}, cs.all AC.flat = true → noOwnL cs = true
  | [], _ => rfl
  | c :: cs, h => by
    simp only [List.all_cons, Bool.and_eq_true] at h
    simp only [noOwnL, Bool.and_eq_true]
    refine ⟨?_, flat_noOwn h.2⟩
    cases c <;> simp [AC.flat] at h <;> rfl

theorem outOf_sound {a0 : Act} (h : RelW E v (tmv a0) w β φ) {rv : ResultVar} {n : RS} (hn : isRes P rv n = true) {r : Res} {a : Bool} {cs : List AC} (ho : outOf v n = some (r, a, cs)) :
    ∃ u f, (rdRes a0.tmps rv).run P w = .ok u w ∧ RepPl w (XS E w φ) (fun _ => False) a cs u f ∧ ∀ x, f x ≤ φ r x := by
  cases n with
  | t n =>
    cases rv <;> simp [isRes] at hn
    subst hn
    rename_i n
    refine ⟨tmv a0 n, ?_⟩
    suffices H : ∃ f, RepPl w (XS E w φ) (fun _ => False) a cs (tmv a0 n) f ∧ ∀ x, f x ≤ φ r x by
      obtain ⟨f, h1⟩ := H
      exact ⟨f, rfl, h1⟩
    simp only [outOf] at ho
    split at ho <;> try (simp at ho; done)
    · rename_i st ag cs0 hv
      split at ho <;> simp only [Option.some.injEq, Prod.mk.injEq, reduceCtorEq] at ho
      rename_i hc
      obtain ⟨rfl, rfl, rfl⟩ := ho
      simp only [Bool.or_eq_true, Bool.and_eq_true, List.isEmpty_iff] at hc
      rcases hc with ⟨h1, h2⟩ | ⟨rfl, h2⟩
      · have hl : Live v st := fun p hp => by simpa using List.all_eq_true.1 h1 p hp
        obtain ⟨vals, r1, r2⟩ := h.ent n _ _ hv hl
        exact ⟨fun _ => 0, ⟨vals, flat_rep r1 h2 _ _, r2⟩, fun _ => Nat.zero_le _⟩
      · obtain ⟨vals, r1, r2⟩ := h.ent n _ _ hv (by intro p hp; simp at hp)
        exact ⟨φ (.t n), ⟨vals, r1.cln _ h2, r2⟩, fun _ => Nat.le_refl _⟩
    · rename_i k hv
      split at ho <;> try (simp at ho; done)
      rename_i cs0 hb
      split at ho <;> simp only [Option.some.injEq, Prod.mk.injEq, reduceCtorEq] at ho
      rename_i hc
      obtain ⟨rfl, rfl, rfl⟩ := ho
      obtain ⟨vals, ψ, k1, k2, k3, k4⟩ := h.box k _ hb
      obtain ⟨_, _, b, o, e, g1, g2, g3⟩ := h.ent n _ _ hv (by intro p hp; simp at hp)
      subst g2
      have ho : o = 0 := by omega
      subst ho
      refine ⟨_, ⟨[tmv a0 n], ?_, by simp⟩, fun x => Nat.le_of_eq (k4 x).symm⟩
      rw [e]
      exact (RepL.refOwn (h.dom (.b k) (β k) (by rw [k4]; simp)).1 (by rw [← k3.length]; exact k2) k1 (k3.cln _ hc) .nil).cast (fun x => by simp)
  | c n size g =>
    cases rv <;> simp [isRes] at hn
    rename_i ad t
    obtain ⟨⟨⟨rfl, ht⟩, hg⟩, h1⟩ := hn
    simp only [outOf] at ho
    split at ho <;> try (simp at ho; done)
    rename_i k hv
    split at ho <;> try (simp at ho; done)
    rename_i cs0 hb
    split at ho <;> simp only [Option.some.injEq, Prod.mk.injEq, reduceCtorEq] at ho
    rename_i hc
    obtain ⟨rfl, rfl, rfl⟩ := ho
    simp only [Bool.and_eq_true, decide_eq_true_eq] at hc
    obtain ⟨vals, ψ, k1, k2, k3, k4⟩ := h.box k _ hb
    obtain ⟨_, _, b, o, e, g1, g2, g3⟩ := h.ent ad _ _ hv (by intro p hp; simp at hp)
    subst g2
    have ho : o = 0 := by omega
    subst ho
    obtain ⟨u, hrun, hu⟩ := loadAt_run (P := P) ht hg (fun e => by rcases h1 with h1 | h1; rw [e] at h1; simp at h1; exact h1) k1 (by rw [k3.length]; exact hc.2)
    refine ⟨u, ψ, ?_, ⟨vals, k3.cln _ hc.1, hu⟩, fun x => by have := k4 x; omega⟩
    have e' : a0.tmps.getD ad undef = .pointer (some ⟨β k, 0, none⟩) := e
    simp only [rdRes, e', asAddr]
    simpa [Instr.loadAt, Instr.sureAddr] using hrun

theorem outsOf_sound {a0 : Act} (h : RelW E v (tmv a0) w β φ) : ∀ {ns : List RS} {rvs : List ResultVar}, ressOk P rvs ns = true → ∀ {rs : List (Res × Bool × List AC)}, outsOf v ns = some rs →
    ∃ us f, rvs.length = us.length ∧ us.length = ns.length ∧ (∀ (i : Nat) (r : ResultVar) (u : Value), rvs[i]? = some r → us[i]? = some u → (rdRes a0.tmps r).run P w = .ok u w) ∧
      RepTup w (XS E w φ) (fun _ => False) (rs.map (·.2)) us f ∧ ∀ x, f x ≤ tot (rs.map fun r => φ r.1) x
  | [], [], _, rs, ho => by
    simp only [outsOf, Option.some.injEq] at ho
    subst ho
    exact ⟨[], _, rfl, rfl, fun i r u h => by simp at h, .nil, fun _ => Nat.zero_le _⟩
  | [], _ :: _, hk, _, _ => by simp [ressOk] at hk
  | _ :: _, [], hk, _, _ => by simp [ressOk] at hk
  | n :: ns, rv :: rvs, hk, rs, ho => by
    simp only [ressOk, Bool.and_eq_true] at hk
    obtain ⟨x, h1, h2⟩ := ob_some ho
    obtain ⟨xs, h3, h4⟩ := ob_some h2
    simp only [Option.some.injEq] at h4
    subst h4
    obtain ⟨r, a, cs⟩ := x
    obtain ⟨u, f, k0, k1, k2⟩ := outOf_sound h hk.1 h1
    obtain ⟨us, g, g0, g0', g1, g2, g3⟩ := outsOf_sound h hk.2 h3
    refine ⟨u :: us, _, by simp [g0], by simp [g0'], fun i r' u' e1 e2 => ?_, .cons k1 g2, fun x => by have := k2 x; have := g3 x; simp only [List.map_cons, tot]; omega⟩
    cases i with
    | zero => simp at e1 e2; subst e1 e2; exact k0
    | succ i => exact g1 i r' u' (by simpa using e1) (by simpa using e2)

theorem tot_append (A B : List Foot) (x : Nat) : tot (A ++ B) x = tot A x + tot B x := by
  induction A with
  | nil => simp [tot]
  | cons f A ih => simp [tot, ih]; omega

theorem tot_nodup (h : RelW E v tm w β φ) : ∀ {L : List Res}, L.Nodup → ∀ x, tot (L.map φ) x ≤ 1 ∧ (tot (L.map φ) x ≠ 0 → ∃ r ∈ L, φ r x ≠ 0)
  | [], _, x => by simp [tot]
  | r :: L, hn, x => by
    simp only [List.nodup_cons] at hn
    obtain ⟨i1, i2⟩ := tot_nodup h hn.2 x
    simp only [List.map_cons, tot]
    have hle := h.le1 r x
    by_cases h0 : tot (L.map φ) x = 0
    · refine ⟨by omega, fun h1 => ⟨r, by simp, by omega⟩⟩
    · obtain ⟨s, hs, hs2⟩ := i2 h0
      have : φ r x = 0 := Classical.byContradiction fun e => hn.1 (h.uniq r s x e hs2 ▸ hs)
      refine ⟨by omega, fun _ => ⟨s, by simp [hs], hs2⟩⟩

theorem extsOf_sound (h : RelW E v tm w β φ) : ∀ {ps : List PA} {k : Nat} {us : List Value} {es : List (List AC)}, us.length = ps.length →
    (∀ (i : Nat) (cs : List AC), ps[i]? = some (PA.box cs) → us[i]? = some (Value.pointer (some ⟨β (k + i), 0, none⟩))) → (∀ (i : Nat) (c : AC), ps[i]? = some (PA.io c) → us[i]? = some (tm (k + i))) → extsOf v k ps = some es →
    BoxRel w (XS E w φ) ps us es ((backsOf k ps).map φ)
  | [], k, us, es, hl, hb, hi, he => by
    simp only [extsOf, Option.some.injEq] at he
    subst he
    have : us = [] := List.eq_nil_of_length_eq_zero (by simpa using hl)
    subst this
    exact .nil
  | p :: ps, k, [], es, hl, hb, hi, he => by simp at hl
  | p :: ps, k, u :: us, es, hl, hb, hi, he => by
    have hl' : us.length = ps.length := by simpa using hl
    have hb' : ∀ (i : Nat) (cs : List AC), ps[i]? = some (PA.box cs) → us[i]? = some (Value.pointer (some ⟨β (k + 1 + i), 0, none⟩)) := fun i cs hi => by
      have := hb (i + 1) cs (by simpa using hi)
      rw [show k + 1 + i = k + (i + 1) by omega]
      simpa using this
    have hi' : ∀ (i : Nat) (c : AC), ps[i]? = some (PA.io c) → us[i]? = some (tm (k + 1 + i)) := fun i c h0 => by
      have := hi (i + 1) c (by simpa using h0)
      rw [show k + 1 + i = k + (i + 1) by omega]
      simpa using this
    cases p with
    | io c =>
      simp only [extsOf] at he
      split at he <;> try (simp at he; done)
      rename_i c0 hv
      split at he <;> try (simp at he; done)
      rename_i hc
      obtain ⟨es', h1, h2⟩ := ob_some he
      simp only [Option.some.injEq] at h2
      subst h2
      have hu := hi 0 c (by simp)
      simp at hu
      subst hu
      obtain ⟨vals, r1, r2⟩ := h.ent k _ _ hv (by intro p hp; simp at hp)
      simp only [Bool.false_eq_true, if_false] at r2
      subst r2
      exact .io (r1.cln _ hc) (extsOf_sound h hl' hb' hi' h1)
    | box cs =>
      simp only [extsOf] at he
      split at he <;> try (simp at he; done)
      rename_i cs0 hv
      split at he <;> try (simp at he; done)
      rename_i hc
      obtain ⟨es', h1, h2⟩ := ob_some he
      simp only [Option.some.injEq] at h2
      subst h2
      have hu := hb 0 cs (by simp)
      simp at hu
      subst hu
      obtain ⟨vals, ψ, k1, k2, k3, k4⟩ := h.box k _ hv
      exact .box k1 k2 (k3.cln _ hc) k4 (extsOf_sound h hl' hb' hi' h1)
    | val a cs => exact .other (by simp) (extsOf_sound h hl' hb' hi' he)
    | vw cs => exact .other (by simp) (extsOf_sound h hl' hb' hi' he)
    | fn g caps => exact .other (by simp) (extsOf_sound h hl' hb' hi' he)

theorem BoxRel.weak {Xs Xs' : Nat → Prop} {ps : List PA} {us : List Value} {es : List (List AC)} {gs : List Foot} (h : BoxRel w Xs ps us es gs) (hs : ∀ b, Xs b → Xs' b) : BoxRel w Xs' ps us es gs := by
  induction h with
  | nil => exact .nil
  | other hp _ ih => exact .other hp ih
  | io hr _ ih => exact .io (hr.weak hs (fun _ h => h)) ih
  | box hv ha hr hg _ ih => exact .box hv ha (hr.weak hs (fun _ h => h)) hg ih
end

theorem ArgsRel.boxes {w : World} {Xs Xb : Nat → Prop} {ps : List PA} {us : List Value} {φ : Foot} (h : ArgsRel w Xs Xb ps us φ) : ∀ (i : Nat) (cs : List AC), ps[i]? = some (PA.box cs) → ∃ b, us[i]? = some (Value.pointer (some ⟨b, 0, none⟩)) := by
  induction h with
  | nil => intro i cs h; simp at h
  | @cons p ps u us f g h t ih =>
    intro i cs hi
    cases i with
    | zero =>
      simp at hi
      subst hi
      obtain ⟨b, vals, ψ, r1, _⟩ := h
      exact ⟨b, by simp [r1]⟩
    | succ i => simpa using ih i cs (by simpa using hi)

/-- A function does what its interpreter says. -/
theorem runF_sound {P : Program} {I : Kpt} {Γ : Gam} (hΓ0 : Sat P I Γ) (hfol : P.follows .mixedOrders = true) {f : FuncId} {fi : Fi} (hl : fi.ress.length ≤ 4) (hok : fnOk P f fi = true) (n : Nat) : SatF P I f (runF Γ n fi) := by
  intro ps out hout w C us φ hin hI
  unfold fnOk at hok
  split at hok <;> try (simp at hok; done)
  rename_i fn hfn
  simp only [Bool.and_eq_true] at hok
  obtain ⟨hb, hres⟩ := hok
  split at hb <;> try (simp at hb; done)
  rename_i c hbody
  unfold runF at hout
  split at hout <;> try (simp at hout; done)
  rename_i hpins
  let E : Env := { C := C, M := fun x => φ x ≠ 0, w0 := w, pin := fun n => if n ∈ boxesOf 0 ps then some (argAddr us n) else none, tpin := fun n => if n ∈ iosOf 0 ps then us[n]? else none }
  let a0 : Act := { tmps := us.toArray ++ Array.replicate (fn.ntmps - us.toArray.size) undef, defers := [] }
  have ha0 : ∀ i u, us[i]? = some u → tmv a0 i = u := fun i u hi => by
    obtain ⟨hlt, e⟩ := List.getElem?_eq_some_iff.1 hi
    simp only [tmv, a0, Array.getD_eq_getD_getElem?]
    rw [Array.getElem?_append_left (by simpa using hlt)]
    simp [hi]
  have hrel : Rel E (entry ps).val a0 w := entry_rel hin ha0
  have hΓ : SatE P E Γ := fun f ps out h w2 C2 us2 φ2 hin2 hs hx => hΓ0 f ps out h w2 C2 us2 φ2 hin2 (I.frame hI hs (fun x hx0 h0 => hx x hx0 (by simpa [E] using h0)))
  have hC : ∀ b, E.C b → b < E.w0.heap.size := fun b hb => hin.low b hb
  have hpl : ∀ n b, E.pin n = some b → n ∈ boxesOf 0 ps := fun n b hn => by
    simp only [E] at hn
    split at hn
    · assumption
    · simp at hn
  have htl : ∀ n u, E.tpin n = some u → n ∈ iosOf 0 ps := fun n u hn => by
    simp only [E] at hn
    split at hn
    · assumption
    · simp at hn
  have hN : fn.ntmps ≤ a0.tmps.size := by simp [a0]; omega
  -- the end
  have fin : ∀ σ, finish σ fi.ress ps = some out → ∀ a' w', Rel E σ.val a' w' → a'.defers = [] → a'.defers = [] ∧ ∃ u, (results fn a'.tmps).run P w' = .ok u w' ∧ CallOut w C ps us φ out u w' := by
    intro σ hf a' w' hR hd
    obtain ⟨⟨β, φ', h⟩, hpt⟩ := hR
    obtain ⟨rs, h1, hf1⟩ := ob_some hf
    obtain ⟨es, h2, hf2⟩ := ob_some hf1
    try dsimp only at hf2
    split at hf2 <;> simp only [Option.some.injEq, reduceCtorEq] at hf2
    rename_i hnd
    subst hf2
    obtain ⟨us', f0, l1, l2, l3, k1, k2⟩ := outsOf_sound h hres h1
    refine ⟨hd, _, results_run l1 (by rw [l2]; exact hl) l3, ?_⟩
    have haddr : ∀ (i : Nat) (cs : List AC), ps[i]? = some (PA.box cs) → us[i]? = some (Value.pointer (some ⟨β (0 + i), 0, none⟩)) := fun i cs hi => by
      obtain ⟨b, hu⟩ := hin.args.boxes i cs hi
      have hp : E.pin i = some (argAddr us i) := if_pos ((mem_boxesOf ps 0 i).2 ⟨Nat.zero_le _, cs, by simpa using hi⟩)
      have := (h.pin i _ hp).2
      rw [hu, Nat.zero_add, this]
      simp [argAddr, hu]
    have hlen := hin.args.feet.1
    have hios : ∀ (i : Nat) (c : AC), ps[i]? = some (PA.io c) → us[i]? = some (tmv a' (0 + i)) := fun i c hi => by
      have hlt : i < us.length := by rw [hlen]; exact (List.getElem?_eq_some_iff.1 hi).1
      have hp : E.tpin i = some us[i] := by
        simp only [E]
        rw [if_pos ((mem_iosOf ps 0 i).2 ⟨Nat.zero_le _, c, by simpa using hi⟩), List.getElem?_eq_getElem hlt]
      rw [Nat.zero_add, hpt i _ hp, List.getElem?_eq_getElem hlt]
    have g1 := extsOf_sound h hlen haddr hios h2
    have hsum : ∀ x, f0 x + tot ((backsOf 0 ps).map φ') x ≤ tot ((rs.map (·.1) ++ backsOf 0 ps).map φ') x := fun x => by
      rw [List.map_append, tot_append]
      have := k2 x
      simp only [List.map_map, Function.comp_def]
      omega
    have hAX : ∀ x, XS E w' φ' x → AXs w' C (fun x => f0 x + tot ((backsOf 0 ps).map φ') x) x := fun x hx => by
      refine ⟨hx.1, Classical.byContradiction fun e => ?_, hx.2.2⟩
      simp only at e
      obtain ⟨r, _, hr⟩ := (tot_nodup h hnd x).2 (by have := hsum x; omega)
      exact hr (hx.2.1 r)
    refine ⟨f0, _, fun x => Nat.le_trans (hsum x) (tot_nodup h hnd x).1, fun x hx => ?_, ?_, g1.weak hAX, h.os, h.tape, h.output, h.size, fun x hx hz => h.old x hx (by simpa [E] using hz)⟩
    · obtain ⟨r, _, hr⟩ := (tot_nodup h hnd x).2 (by have := hsum x; omega)
      exact h.dom r x hr
    · -- the result
      have k1' := k1.weak hAX (fun _ h => h)
      clear l1 l2 l3 k1
      generalize rs.map (·.2) = l at k1'
      cases k1' with
      | nil => exact ⟨[], rfl, .nil⟩
      | @cons ag cs u vs us'' f1 f2 hh t =>
        cases t with
        | nil =>
          have : (fun x => f1 x + (fun _ => 0 : Foot) x) = f1 := funext fun x => by simp
          simp only [outTV, OutOk, oneOr]
          obtain ⟨vals, r1, r2⟩ := hh
          exact ⟨vals, r1.cast (fun x => by simp), r2⟩
        | @cons ag2 cs2 u2 vs2 us2 f3 f4 hh2 t2 =>
          exact ⟨_, rfl, .cons hh (.cons hh2 t2)⟩
  refine calls_of_wp hfn hbody ?_
  have hQ : ∀ {e σ}, ev Γ n fi.body (entry ps) = some (e, σ) → finish σ fi.ress ps = some out → (e = .norm ∨ e = .ret) →
      c.wp P (bodyPost P fn (CallEnd C ps us φ out w)) a0 w := fun {e σ} hev hf he => by
    refine (ev_sound hΓ hC hfol hN hpl htl n).1 fi.body c hb hpins _ _ _ hev _ (fun a' w' hR hs hd => ?_) a0 w hrel rfl rfl
    rcases he with rfl | rfl
    · exact fin _ hf a' w' hR hd
    · exact fin _ hf a' w' hR hd
  split at hout
  · rename_i σ hev; exact hQ hev hout (.inl rfl)
  · rename_i σ hev; exact hQ hev hout (.inr rfl)
  · simp at hout

/-- Tables of functions, and calls in depth. -/
structure Tab where
  fi : FuncId → Option Fi
  ext : Gam

def callN (T : Tab) : Nat → Gam
  | 0 => fun _ _ => none
  | n + 1 => fun f ps => match T.fi f with
    | some fi => runF (callN T n) n fi ps
    | none => T.ext f ps

theorem callN_sat {P : Program} {I : Kpt} {T : Tab} (hfol : P.follows .mixedOrders = true) (hfi : ∀ f fi, T.fi f = some fi → fi.ress.length ≤ 4 ∧ fnOk P f fi = true) (hext : ∀ f, SatF P I f (T.ext f)) : ∀ n, Sat P I (callN T n)
  | 0 => fun f ps out h => by simp [callN] at h
  | n + 1 => fun f => by
    simp only [callN]
    cases hf : T.fi f with
    | none => exact hext f
    | some fi =>
      obtain ⟨h1, h2⟩ := hfi f fi hf
      exact runF_sound (callN_sat hfol hfi hext n) hfol h1 h2 n
end Go.Fw
namespace Go.Fw
open Go

def Sub (Γ Γ' : Gam) : Prop := ∀ f ps o, Γ f ps = some o → Γ' f ps = some o

theorem fop_mono {Γ Γ' : Gam} (hs : Sub Γ Γ') {v : Res → Val} {x : IOp} {ws : List (Res × Val)} (h : fop Γ v x = some ws) : fop Γ' v x = some ws := by
  cases x with
  | call d f as opn =>
    simp only [fop] at h ⊢
    obtain ⟨⟨ps, w1, bs⟩, h1, h2⟩ := ob_some h
    obtain ⟨out, h3, h4⟩ := ob_some h2
    rw [h1]
    simp only [ob]
    rw [hs _ _ _ h3]
    exact h4
  | callio d f n rs r as =>
    simp only [fop] at h ⊢
    obtain ⟨⟨q, path, off⟩, p1, h⟩ := ob_some h
    obtain ⟨cs, p2, h⟩ := ob_some h
    obtain ⟨xs, p3, h⟩ := ob_some h
    rw [p1]; simp only [ob]; rw [p2]; simp only; rw [p3]; simp only
    cases xs with
    | nil => simp at h
    | cons c rest =>
      try dsimp only at h
      obtain ⟨⟨ps, w1, bs⟩, h1, h2⟩ := ob_some h
      try dsimp only at h2
      split at h2 <;> try (simp at h2; done)
      rename_i hbs
      obtain ⟨out, h3, h4⟩ := ob_some h2
      rw [h1]; simp only
      rw [if_pos hbs, hs _ _ _ h3]
      exact h4
  | _ => exact h
theorem rop_mono {Γ Γ' : Gam} (hs : Sub Γ Γ') {v : Res → Val} {r : ROp} {ws : List (Res × Val)} (h : rop Γ v r = some ws) : rop Γ' v r = some ws := by
  obtain ⟨g, x⟩ := r
  cases g with
  | none => exact fop_mono hs h
  | some y =>
    obtain ⟨s, want⟩ := y
    simp only [rop] at h ⊢
    split at h <;> try (simp at h; done)
    · split at h
      · rename_i hb; rw [if_pos hb]; exact fop_mono hs h
      · rename_i hb; rw [if_neg hb]; exact h
    · exact h
theorem evR_mono {Γ Γ' : Gam} (hs : Sub Γ Γ') : ∀ {rs : List ROp} {σ σ' : ASt}, evR Γ rs σ = some σ' → evR Γ' rs σ = some σ'
  | [], σ, σ', h => h
  | r :: rs, σ, σ', h => by
    obtain ⟨ws, h1, h2⟩ := ob_some h
    simp only [evR, rop_mono hs h1, ob]
    exact evR_mono hs h2
theorem ev_mono {Γ Γ' : Gam} (hs : Sub Γ Γ') : ∀ {n m : Nat} {c : Ir} {σ : ASt} {r : Ex × ASt}, n ≤ m → ev Γ n c σ = some r → ev Γ' m c σ = some r
  | 0, m, c, σ, r, hm, h => by simp [ev] at h
  | n + 1, 0, c, σ, r, hm, h => by omega
  | n + 1, m + 1, c, σ, r, hm, h => by
    have hm' : n ≤ m := by omega
    cases c with
    | skip => exact h
    | region rs =>
      obtain ⟨σ', h1, h2⟩ := ob_some h
      simp only [ev, evR_mono hs h1, ob]
      exact h2
    | seq a b =>
      simp only [ev] at h ⊢
      split at h
      · rename_i σ' h1
        rw [ev_mono hs hm' h1]
        exact ev_mono hs hm' h
      · rename_i h1
        rw [ev_mono hs hm' h]
        split
        · rename_i σ' e
          rw [Option.some.injEq] at e
          subst e
          exact absurd h (h1 σ')
        · rfl
    | cond x a b =>
      simp only [ev] at h ⊢
      split at h
      · exact ev_mono hs hm' h
      · exact ev_mono hs hm' h
      · simp at h
    | block id a =>
      simp only [ev] at h ⊢
      split at h
      · rename_i j σ' h1
        rw [ev_mono hs hm' h1]
        exact h
      · rename_i h1
        rw [ev_mono hs hm' h]
        split
        · rename_i j σ' e
          rw [Option.some.injEq] at e
          subst e
          exact absurd h (h1 j σ')
        · rfl
    | loop a =>
      simp only [ev] at h ⊢
      split at h
      · rename_i σ' h1
        rw [ev_mono hs hm' h1]
        exact ev_mono hs hm' h
      · rename_i h1
        rw [ev_mono hs hm' h]
        split
        · rename_i σ' e
          rw [Option.some.injEq] at e
          subst e
          exact absurd h (h1 σ')
        · rfl
    | exit id => exact h
    | ret => exact h
    | gh g k =>
      obtain ⟨σ', h1, h2⟩ := ob_some h
      simp only [ev, h1, ob]
      exact ev_mono hs hm' h2

theorem runF_mono {Γ Γ' : Gam} (hs : Sub Γ Γ') {n m : Nat} (hm : n ≤ m) {fi : Fi} {ps : List PA} {o : AOut} (h : runF Γ n fi ps = some o) : runF Γ' m fi ps = some o := by
  unfold runF at h ⊢
  split at h <;> try (simp at h; done)
  rename_i hp
  rw [if_pos hp]
  split at h <;> try (simp at h; done)
  · rename_i σ h1; rw [ev_mono hs hm h1]; exact h
  · rename_i σ h1; rw [ev_mono hs hm h1]; exact h
theorem callN_mono (T : Tab) : ∀ {n m : Nat}, n ≤ m → Sub (callN T n) (callN T m)
  | 0, m, hm => fun f ps o h => by simp [callN] at h
  | n + 1, 0, hm => by omega
  | n + 1, m + 1, hm => fun f ps o h => by
    simp only [callN] at h ⊢
    split
    · rename_i fi hf
      rw [hf] at h
      exact runF_mono (callN_mono T (by omega)) (by omega) h
    · rename_i hf
      rw [hf] at h
      exact h

open Classical in
/-- What calls of some depth say. -/
noncomputable def Lim (T : Tab) : Gam := fun f ps => if h : ∃ o, ∃ n, callN T n f ps = some o then some h.choose else none
theorem Lim_iff {T : Tab} {f : FuncId} {ps : List PA} {o : AOut} : Lim T f ps = some o ↔ ∃ n, callN T n f ps = some o := by
  unfold Lim
  constructor
  · intro h
    split at h
    · rename_i hh
      rw [Option.some.injEq] at h
      exact h ▸ hh.choose_spec
    · simp at h
  · rintro ⟨n, hn⟩
    have hh : ∃ o, ∃ n, callN T n f ps = some o := ⟨o, n, hn⟩
    rw [dif_pos hh]
    obtain ⟨m, hm⟩ := hh.choose_spec
    have h1 := callN_mono T (Nat.le_max_left n m) _ _ _ hn
    have h2 := callN_mono T (Nat.le_max_right n m) _ _ _ hm
    rw [h1] at h2
    exact h2.symm
theorem Lim_sat {P : Program} {I : Kpt} {T : Tab} (h : ∀ n, Sat P I (callN T n)) : Sat P I (Lim T) := fun f ps out ho => by
  obtain ⟨n, hn⟩ := Lim_iff.1 ho
  exact h n f ps out hn
theorem fop_cont {T : Tab} {v : Res → Val} {x : IOp} {ws : List (Res × Val)} (h : fop (Lim T) v x = some ws) : ∃ n, fop (callN T n) v x = some ws := by
  cases x with
  | call d f as opn =>
    simp only [fop] at h ⊢
    obtain ⟨⟨ps, w1, bs⟩, h1, h2⟩ := ob_some h
    obtain ⟨out, h3, h4⟩ := ob_some h2
    obtain ⟨n, hn⟩ := Lim_iff.1 h3
    refine ⟨n, ?_⟩
    rw [h1]
    simp only [ob]
    rw [hn]
    exact h4
  | callio d f n rs r as =>
    simp only [fop] at h ⊢
    obtain ⟨⟨q, path, off⟩, p1, h⟩ := ob_some h
    obtain ⟨cs, p2, h⟩ := ob_some h
    obtain ⟨xs, p3, h⟩ := ob_some h
    rw [p1]; simp only [ob]; rw [p2]; simp only; rw [p3]; simp only
    cases xs with
    | nil => simp at h
    | cons c rest =>
      try dsimp only at h
      obtain ⟨⟨ps, w1, bs⟩, h1, h2⟩ := ob_some h
      try dsimp only at h2
      split at h2 <;> try (simp at h2; done)
      rename_i hbs
      obtain ⟨out, h3, h4⟩ := ob_some h2
      obtain ⟨k, hk⟩ := Lim_iff.1 h3
      refine ⟨k, ?_⟩
      rw [h1]; simp only
      rw [if_pos hbs, hk]
      exact h4
  | _ => exact ⟨0, h⟩
theorem rop_cont {T : Tab} {v : Res → Val} {r : ROp} {ws : List (Res × Val)} (h : rop (Lim T) v r = some ws) : ∃ n, rop (callN T n) v r = some ws := by
  obtain ⟨g, x⟩ := r
  cases g with
  | none => exact fop_cont h
  | some y =>
    obtain ⟨s, want⟩ := y
    simp only [rop] at h ⊢
    split at h <;> try (simp at h; done)
    · split at h
      · rename_i hb; simp only [if_pos hb]; exact fop_cont h
      · rename_i hb; simp only [if_neg hb]; exact ⟨0, h⟩
    · exact ⟨0, h⟩
theorem evR_cont {T : Tab} : ∀ {rs : List ROp} {σ σ' : ASt}, evR (Lim T) rs σ = some σ' → ∃ n, evR (callN T n) rs σ = some σ'
  | [], σ, σ', h => ⟨0, h⟩
  | r :: rs, σ, σ', h => by
    obtain ⟨ws, h1, h2⟩ := ob_some h
    obtain ⟨n, hn⟩ := rop_cont h1
    obtain ⟨m, hm⟩ := evR_cont h2
    refine ⟨max n m, ?_⟩
    simp only [evR, rop_mono (callN_mono T (Nat.le_max_left n m)) hn, ob]
    exact evR_mono (callN_mono T (Nat.le_max_right n m)) hm

theorem ev_cont' {T : Tab} : ∀ {k : Nat} {c : Ir} {σ : ASt} {r : Ex × ASt}, ev (Lim T) k c σ = some r → ∃ n, ev (callN T n) k c σ = some r
  | 0, c, σ, r, h => by simp [ev] at h
  | k + 1, c, σ, r, h => by
    cases c with
    | skip => exact ⟨0, h⟩
    | exit id => exact ⟨0, h⟩
    | ret => exact ⟨0, h⟩
    | region rs =>
      obtain ⟨σ', h1, h2⟩ := ob_some h
      obtain ⟨n, hn⟩ := evR_cont h1
      exact ⟨n, by simp only [ev, hn, ob]; exact h2⟩
    | gh g x =>
      obtain ⟨σ', h1, h2⟩ := ob_some h
      obtain ⟨n, hn⟩ := ev_cont' h2
      exact ⟨n, by simp only [ev, h1, ob]; exact hn⟩
    | cond x a b =>
      simp only [ev] at h ⊢
      split at h
      · exact ev_cont' h
      · exact ev_cont' h
      · simp at h
    | seq a b =>
      simp only [ev] at h
      split at h
      · rename_i σ' h1
        obtain ⟨n, hn⟩ := ev_cont' h1
        obtain ⟨m, hm⟩ := ev_cont' h
        refine ⟨max n m, ?_⟩
        simp only [ev, ev_mono (callN_mono T (Nat.le_max_left n m)) (Nat.le_refl _) hn]
        exact ev_mono (callN_mono T (Nat.le_max_right n m)) (Nat.le_refl _) hm
      · rename_i h1
        obtain ⟨n, hn⟩ := ev_cont' h
        refine ⟨n, ?_⟩
        simp only [ev, hn]
        split
        · rename_i σ' e
          rw [Option.some.injEq] at e
          subst e
          exact absurd h (h1 σ')
        · rfl
    | block id a =>
      simp only [ev] at h
      split at h
      · rename_i j σ' h1
        obtain ⟨n, hn⟩ := ev_cont' h1
        exact ⟨n, by simp only [ev, hn]; exact h⟩
      · rename_i h1
        obtain ⟨n, hn⟩ := ev_cont' h
        refine ⟨n, ?_⟩
        simp only [ev, hn]
        split
        · rename_i j σ' e
          rw [Option.some.injEq] at e
          subst e
          exact absurd h (h1 j σ')
        · rfl
    | loop a =>
      simp only [ev] at h
      split at h
      · rename_i σ' h1
        obtain ⟨n, hn⟩ := ev_cont' h1
        obtain ⟨m, hm⟩ := ev_cont' h
        refine ⟨max n m, ?_⟩
        simp only [ev, ev_mono (callN_mono T (Nat.le_max_left n m)) (Nat.le_refl _) hn]
        exact ev_mono (callN_mono T (Nat.le_max_right n m)) (Nat.le_refl _) hm
      · rename_i h1
        obtain ⟨n, hn⟩ := ev_cont' h
        refine ⟨n, ?_⟩
        simp only [ev, hn]
        split
        · rename_i σ' e
          rw [Option.some.injEq] at e
          subst e
          exact absurd h (h1 σ')
        · rfl

/-! ### A machine with a stack -/
inductive Ctl where
  | c (x : Ir)
  | d (e : Ex)
inductive Fr where
  | s (b : Ir)
  | b (id : Nat)
  | l (a : Ir)

def go (Γ : Gam) : Nat → Ctl → List Fr → ASt → Option (Ex × ASt)
  | 0, _, _, _ => none
  | _ + 1, .d e, [], σ => some (e, σ)
  | n + 1, .d .norm, .s b :: K, σ => go Γ n (.c b) K σ
  | n + 1, .d e, .s _ :: K, σ => go Γ n (.d e) K σ
  | n + 1, .d (.exit j), .b id :: K, σ => if j = id then go Γ n (.d .norm) K σ else go Γ n (.d (.exit j)) K σ
  | n + 1, .d e, .b _ :: K, σ => go Γ n (.d e) K σ
  | n + 1, .d .norm, .l a :: K, σ => go Γ n (.c (.loop a)) K σ
  | n + 1, .d e, .l _ :: K, σ => go Γ n (.d e) K σ
  | n + 1, .c .skip, K, σ => go Γ n (.d .norm) K σ
  | n + 1, .c (.region rs), K, σ => ob (evR Γ rs σ) fun σ' => go Γ n (.d .norm) K σ'
  | n + 1, .c (.seq a b), K, σ => go Γ n (.c a) (.s b :: K) σ
  | n + 1, .c (.cond x a b), K, σ => match sca σ.val x with
    | some (.bool true) => go Γ n (.c a) K σ
    | some (.bool false) => go Γ n (.c b) K σ
    | _ => none
  | n + 1, .c (.block id a), K, σ => go Γ n (.c a) (.b id :: K) σ
  | n + 1, .c (.loop a), K, σ => go Γ n (.c a) (.l a :: K) σ
  | n + 1, .c (.exit id), K, σ => go Γ n (.d (.exit id)) K σ
  | n + 1, .c .ret, K, σ => go Γ n (.d .ret) K σ
  | n + 1, .c (.gh g k), K, σ => ob (gh g σ) fun σ' => go Γ n (.c k) K σ'

theorem go_ev {Γ : Gam} : ∀ (n : Nat) {x : Ir} {K : List Fr} {σ : ASt} {r : Ex × ASt}, go Γ n (.c x) K σ = some r →
    ∃ m e σ1 n', n' < n ∧ ev Γ m x σ = some (e, σ1) ∧ go Γ n' (.d e) K σ1 = some r
  | 0, x, K, σ, r, h => by simp [go] at h
  | n + 1, x, K, σ, r, h => by
    cases x with
    | skip => exact ⟨1, .norm, σ, n, by omega, rfl, h⟩
    | region rs =>
      obtain ⟨σ', h1, h2⟩ := ob_some h
      exact ⟨1, .norm, σ', n, by omega, by simp [ev, h1, ob], h2⟩
    | exit id => exact ⟨1, .exit id, σ, n, by omega, rfl, h⟩
    | ret => exact ⟨1, .ret, σ, n, by omega, rfl, h⟩
    | gh g k =>
      obtain ⟨σ', h1, h2⟩ := ob_some h
      obtain ⟨m, e, σ1, n', k1, k2, k3⟩ := go_ev n h2
      exact ⟨m + 1, e, σ1, n', by omega, by simp only [ev, h1, ob]; exact k2, k3⟩
    | cond c a b =>
      simp only [go] at h
      split at h
      · rename_i hc
        obtain ⟨m, e, σ1, n', k1, k2, k3⟩ := go_ev n h
        exact ⟨m + 1, e, σ1, n', by omega, by simp only [ev, hc]; exact k2, k3⟩
      · rename_i hc
        obtain ⟨m, e, σ1, n', k1, k2, k3⟩ := go_ev n h
        exact ⟨m + 1, e, σ1, n', by omega, by simp only [ev, hc]; exact k2, k3⟩
      · simp at h
    | seq a b =>
      simp only [go] at h
      obtain ⟨m, e, σ1, n', k1, k2, k3⟩ := go_ev n h
      have stop : (∀ σ', (e, σ1) ≠ (Ex.norm, σ')) → go Γ n' (.d e) (.s b :: K) σ1 = some r → ∃ m e σ1 n', n' < n + 1 ∧ ev Γ m (.seq a b) σ = some (e, σ1) ∧ go Γ n' (.d e) K σ1 = some r := by
        intro hne hk
        cases n' with
        | zero => simp [go] at hk
        | succ n' =>
          refine ⟨m + 1, e, σ1, n', by omega, ?_, ?_⟩
          · simp only [ev, k2]; cases e <;> first | rfl | exact absurd rfl (hne σ1)
          · cases e <;> first | exact hk | exact absurd rfl (hne σ1)
      cases e with
      | norm =>
        cases n' with
        | zero => simp [go] at k3
        | succ n' =>
          simp only [go] at k3
          obtain ⟨m2, e2, σ2, n2, j1, j2, j3⟩ := go_ev n' k3
          refine ⟨max m m2 + 1, e2, σ2, n2, by omega, ?_, j3⟩
          simp only [ev, ev_mono (fun _ _ _ h => h) (Nat.le_max_left m m2) k2]
          exact ev_mono (fun _ _ _ h => h) (Nat.le_max_right m m2) j2
      | exit id => exact stop (by simp) k3
      | ret => exact stop (by simp) k3
    | block id a =>
      simp only [go] at h
      obtain ⟨m, e, σ1, n', k1, k2, k3⟩ := go_ev n h
      cases n' with
      | zero => simp [go] at k3
      | succ n' =>
        cases e with
        | norm => exact ⟨m + 1, .norm, σ1, n', by omega, by simp only [ev, k2], k3⟩
        | ret => exact ⟨m + 1, .ret, σ1, n', by omega, by simp only [ev, k2], k3⟩
        | exit j =>
          simp only [go] at k3
          by_cases hj : j = id
          · rw [if_pos hj] at k3
            exact ⟨m + 1, .norm, σ1, n', by omega, by simp only [ev, k2, if_pos hj], k3⟩
          · rw [if_neg hj] at k3
            exact ⟨m + 1, .exit j, σ1, n', by omega, by simp only [ev, k2, if_neg hj], k3⟩
    | loop a =>
      simp only [go] at h
      obtain ⟨m, e, σ1, n', k1, k2, k3⟩ := go_ev n h
      cases n' with
      | zero => simp [go] at k3
      | succ n' =>
        cases e with
        | norm =>
          simp only [go] at k3
          obtain ⟨m2, e2, σ2, n2, j1, j2, j3⟩ := go_ev n' k3
          refine ⟨max m m2 + 1, e2, σ2, n2, by omega, ?_, j3⟩
          simp only [ev, ev_mono (fun _ _ _ h => h) (Nat.le_max_left m m2) k2]
          exact ev_mono (fun _ _ _ h => h) (Nat.le_max_right m m2) j2
        | ret => exact ⟨m + 1, .ret, σ1, n', by omega, by simp only [ev, k2], k3⟩
        | exit j => exact ⟨m + 1, .exit j, σ1, n', by omega, by simp only [ev, k2], k3⟩
termination_by n => n

theorem go_top {Γ : Gam} {n : Nat} {x : Ir} {σ : ASt} {r : Ex × ASt} (h : go Γ n (.c x) [] σ = some r) : ∃ m, ev Γ m x σ = some r := by
  obtain ⟨m, e, σ1, n', k1, k2, k3⟩ := go_ev n h
  cases n' with
  | zero => simp [go] at k3
  | succ n' =>
    simp only [go, Option.some.injEq] at k3
    exact ⟨m, k3 ▸ k2⟩
theorem go_mono {Γ : Gam} : ∀ {n m : Nat} {c : Ctl} {K : List Fr} {σ : ASt} {r : Ex × ASt}, n ≤ m → go Γ n c K σ = some r → go Γ m c K σ = some r
  | 0, m, c, K, σ, r, hm, h => by simp [go] at h
  | n + 1, 0, c, K, σ, r, hm, h => by omega
  | n + 1, m + 1, c, K, σ, r, hm, h => by
    have hm' : n ≤ m := by omega
    cases c with
    | d e =>
      cases K with
      | nil => simpa [go] using h
      | cons f K =>
        cases f <;> cases e <;> simp only [go] at h ⊢ <;> first | exact go_mono hm' h | (split at h <;> rename_i hj <;> first | (rw [if_pos hj]; exact go_mono hm' h) | (rw [if_neg hj]; exact go_mono hm' h))
    | c x =>
      cases x <;> simp only [go] at h ⊢
      case cond =>
        split at h
        · exact go_mono hm' h
        · exact go_mono hm' h
        · simp at h
      case region =>
        obtain ⟨σ', h1, h2⟩ := ob_some h
        rw [h1]
        exact go_mono hm' h2
      case gh =>
        obtain ⟨σ', h1, h2⟩ := ob_some h
        rw [h1]
        exact go_mono hm' h2
      all_goals exact go_mono hm' h
end Go.Fw
namespace Go.Fw
open Go

def obP {α : Type} : Option α → (α → Prop) → Prop
  | some a, f => f a
  | none, _ => False
@[congr] theorem ob_congr1 {α β : Type} {x y : Option α} {f : α → Option β} (h : x = y) : ob x f = ob y f := by rw [h]
@[congr] theorem obP_congr1 {α : Type} {x y : Option α} {f : α → Prop} (h : x = y) : obP x f = obP y f := by rw [h]
theorem ob_some' {α β : Type} (a : α) (f : α → Option β) : ob (some a) f = f a := rfl
theorem obP_some {α : Type} (a : α) (f : α → Prop) : obP (some a) f = f a := rfl

def cb : Option AC → Prop → Prop → Prop
  | some (.bool true), p, _ => p
  | some (.bool false), _, q => q
  | _, _, _ => False
@[congr] theorem cb_congr1 {x y : Option AC} {p q : Prop} (h : x = y) : cb x p q = cb y p q := by rw [h]
theorem cb_true (p q : Prop) : cb (some (.bool true)) p q = p := rfl
theorem cb_false (p q : Prop) : cb (some (.bool false)) p q = q := rfl

@[congr] theorem evR_congr1 {Γ : Gam} {rs : List ROp} {σ σ' : ASt} (h : σ = σ') : evR Γ rs σ = evR Γ rs σ' := by rw [h]

def extsB (v : Res → Val) : List Res → Option (List (List AC))
  | [] => some []
  | .b n :: ns => (match v (.b n) with
    | .b cs => if clnL cs then ob (extsB v ns) fun es => some (cs :: es) else none
    | _ => none)
  | .t n :: ns => (match v (.t n) with
    | .t [] (.pl false [c]) => if clnL [c] then ob (extsB v ns) fun es => some ([c] :: es) else none
    | _ => none)
  | .v _ :: _ => none
theorem extsOf_B (v : Res → Val) : ∀ (k : Nat) (ps : List PA), extsOf v k ps = extsB v (backsOf k ps)
  | k, [] => rfl
  | k, p :: ps => by
    cases p with
    | box cs => simp only [extsOf, backsOf, extsB, extsOf_B v (k + 1) ps]; rfl
    | io c => simp only [extsOf, backsOf, extsB, extsOf_B v (k + 1) ps]; rfl
    | _ => exact extsOf_B v (k + 1) ps
def resB : Res → Res → Bool
  | .t a, .t b => a == b
  | .b a, .b b => a == b
  | .v _, .v _ => true
  | _, _ => false
theorem resB_ne {a b : Res} (h : resB a b = false) : a ≠ b := by
  rintro rfl
  cases a <;> simp [resB] at h
def resIn (r : Res) : List Res → Bool
  | [] => false
  | s :: rs => resB r s || resIn r rs
theorem resIn_not {r : Res} : ∀ {rs : List Res}, resIn r rs = false → r ∉ rs
  | [], _ => by simp
  | s :: rs, h => by
    simp only [resIn, Bool.or_eq_false_iff] at h
    intro hm
    rcases List.mem_cons.1 hm with rfl | hm
    · exact resB_ne h.1 rfl
    · exact resIn_not h.2 hm
def ndp : List Res → Bool
  | [] => true
  | r :: rs => !resIn r rs && ndp rs
theorem ndp_nodup : ∀ {rs : List Res}, ndp rs = true → rs.Nodup
  | [], _ => List.nodup_nil
  | r :: rs, h => by
    simp only [ndp, Bool.and_eq_true, Bool.not_eq_true'] at h
    exact List.nodup_cons.2 ⟨resIn_not h.1, ndp_nodup h.2⟩
def finB (σ : ASt) (ress : List RS) (bx : List Res) : Option AOut :=
  ob (outsOf σ.val ress) fun rs => ob (extsB σ.val bx) fun es =>
    if ndp (rs.map (·.1) ++ bx) = true then some { tv := outTV (rs.map (·.2)), exts := es } else none
theorem finish_B {σ : ASt} {ress : List RS} {ps : List PA} {o : AOut} (h : finB σ ress (backsOf 0 ps) = some o) : finish σ ress ps = some o := by
  unfold finB at h
  obtain ⟨rs, h1, h2⟩ := ob_some h
  obtain ⟨es, h3, h4⟩ := ob_some h2
  try dsimp only at h4
  split at h4 <;> simp only [Option.some.injEq, reduceCtorEq] at h4
  rename_i hn
  subst h4
  have hn' := ndp_nodup hn
  simp only [finish, h1, ob, extsOf_B, h3, if_pos hn']

def Done (Γ : Gam) (R : List RS) (bx : List Res) (c : Ctl) (K : List Fr) (σ : ASt) (o : AOut) : Prop :=
  ∃ n e σ', go Γ n c K σ = some (e, σ') ∧ (e = .norm ∨ e = .ret) ∧ finB σ' R bx = some o

section
variable {Γ : Gam} {R : List RS} {bx : List Res} {K : List Fr} {σ : ASt} {o : AOut}

@[congr] theorem Done_congr1 {c c' : Ctl} {σ' : ASt} (hc : c = c') (h : σ = σ') : Done Γ R bx c K σ o = Done Γ R bx c' K σ' o := by rw [h, hc]
theorem D_start {c c' : Ir} (h : c = c') (k : Done Γ R bx (.c c') K σ o) : Done Γ R bx (.c c) K σ o := h ▸ k

theorem D_step {c c' : Ctl} {K' : List Fr} {σ' : ASt} (h : ∀ n, go Γ (n + 1) c K σ = go Γ n c' K' σ') : Done Γ R bx c K σ o = Done Γ R bx c' K' σ' o := by
  refine propext ⟨?_, ?_⟩
  · rintro ⟨n, e, σ1, h1, h2⟩
    cases n with
    | zero => simp [go] at h1
    | succ n => exact ⟨n, e, σ1, (h n).symm.trans h1, h2⟩
  · rintro ⟨n, e, σ1, h1, h2⟩
    exact ⟨n + 1, e, σ1, (h n).trans h1, h2⟩
theorem D_skip : Done Γ R bx (.c .skip) K σ o = Done Γ R bx (.d .norm) K σ o := D_step fun _ => rfl
theorem D_seq {a b : Ir} : Done Γ R bx (.c (.seq a b)) K σ o = Done Γ R bx (.c a) (.s b :: K) σ o := D_step fun _ => rfl
theorem D_block {i : Nat} {a : Ir} : Done Γ R bx (.c (.block i a)) K σ o = Done Γ R bx (.c a) (.b i :: K) σ o := D_step fun _ => rfl
theorem D_loop {a : Ir} : Done Γ R bx (.c (.loop a)) K σ o = Done Γ R bx (.c a) (.l a :: K) σ o := D_step fun _ => rfl
theorem D_exit {i : Nat} : Done Γ R bx (.c (.exit i)) K σ o = Done Γ R bx (.d (.exit i)) K σ o := D_step fun _ => rfl
theorem D_ret : Done Γ R bx (.c .ret) K σ o = Done Γ R bx (.d .ret) K σ o := D_step fun _ => rfl
theorem D_ns {b : Ir} : Done Γ R bx (.d .norm) (.s b :: K) σ o = Done Γ R bx (.c b) K σ o := D_step fun _ => rfl
theorem D_nb {i : Nat} : Done Γ R bx (.d .norm) (.b i :: K) σ o = Done Γ R bx (.d .norm) K σ o := D_step fun _ => rfl
theorem D_nl {a : Ir} : Done Γ R bx (.d .norm) (.l a :: K) σ o = Done Γ R bx (.c (.loop a)) K σ o := D_step fun _ => rfl
theorem D_es {j : Nat} {b : Ir} : Done Γ R bx (.d (.exit j)) (.s b :: K) σ o = Done Γ R bx (.d (.exit j)) K σ o := D_step fun _ => rfl
theorem D_el {j : Nat} {a : Ir} : Done Γ R bx (.d (.exit j)) (.l a :: K) σ o = Done Γ R bx (.d (.exit j)) K σ o := D_step fun _ => rfl
theorem D_eb (j : Nat) : Done Γ R bx (.d (.exit j)) (.b j :: K) σ o = Done Γ R bx (.d .norm) K σ o := D_step fun _ => by simp [go]
theorem D_eb' {i j : Nat} (h : (j == i) = false) : Done Γ R bx (.d (.exit j)) (.b i :: K) σ o = Done Γ R bx (.d (.exit j)) K σ o := D_step fun _ => by simp [go, show j ≠ i by simpa using h]
theorem D_end : Done Γ R bx (.d .norm) [] σ o = (finB σ R bx = some o) := by
  refine propext ⟨?_, fun h => ⟨1, .norm, σ, rfl, .inl rfl, h⟩⟩
  rintro ⟨n, e, σ1, h1, h2, h3⟩
  cases n with
  | zero => simp [go] at h1
  | succ n => simp only [go, Option.some.injEq, Prod.mk.injEq] at h1; obtain ⟨rfl, rfl⟩ := h1; exact h3
theorem D_rend : ∀ {K : List Fr}, Done Γ R bx (.d .ret) K σ o = (finB σ R bx = some o)
  | [] => by
    refine propext ⟨?_, fun h => ⟨1, .ret, σ, rfl, .inr rfl, h⟩⟩
    rintro ⟨n, e, σ1, h1, h2, h3⟩
    cases n with
    | zero => simp [go] at h1
    | succ n => simp only [go, Option.some.injEq, Prod.mk.injEq] at h1; obtain ⟨rfl, rfl⟩ := h1; exact h3
  | f :: K => by
    rw [← D_rend (K := K)]
    cases f <;> exact D_step fun _ => rfl
theorem D_region {rs : List ROp} : Done Γ R bx (.c (.region rs)) K σ o = obP (evR Γ rs σ) fun σ' => Done Γ R bx (.d .norm) K σ' o := by
  cases h : evR Γ rs σ with
  | some σ' => exact D_step fun n => by simp [go, h, ob]
  | none =>
    refine propext ⟨?_, fun h => h.elim⟩
    rintro ⟨n, e, σ1, h1, _⟩
    cases n <;> simp [go, h, ob] at h1
theorem D_gh {g : Gh} {k : Ir} : Done Γ R bx (.c (.gh g k)) K σ o = obP (gh g σ) fun σ' => Done Γ R bx (.c k) K σ' o := by
  cases h : gh g σ with
  | some σ' => exact D_step fun n => by simp [go, h, ob]
  | none =>
    refine propext ⟨?_, fun h => h.elim⟩
    rintro ⟨n, e, σ1, h1, _⟩
    cases n <;> simp [go, h, ob] at h1
theorem D_cond {x : Opr} {a b : Ir} : Done Γ R bx (.c (.cond x a b)) K σ o = cb (sca σ.val x) (Done Γ R bx (.c a) K σ o) (Done Γ R bx (.c b) K σ o) := by
  have no : (∀ b, sca σ.val x ≠ some (.bool b)) → ¬ Done Γ R bx (.c (.cond x a b)) K σ o := by
    rintro h ⟨n, e, σ1, h1, _⟩
    cases n with
    | zero => simp [go] at h1
    | succ n =>
      simp only [go] at h1
      split at h1
      · rename_i hh; exact h _ hh
      · rename_i hh; exact h _ hh
      · simp at h1
  unfold cb
  split
  · rename_i h; exact D_step fun n => by simp [go, h]
  · rename_i h; exact D_step fun n => by simp [go, h]
  · rename_i h1 h2; exact propext ⟨fun h => (no (fun b => by cases b; exact h2; exact h1) h).elim, fun h => h.elim⟩

theorem Done.det {c : Ctl} {o o' : AOut} (h : Done Γ R bx c K σ o) (k : Done Γ R bx c K σ o') : o = o' := by
  obtain ⟨n, e, s, h1, _, h3⟩ := h
  obtain ⟨m, e', s', k1, _, k3⟩ := k
  have a := go_mono (Nat.le_max_left n m) h1
  have b := go_mono (Nat.le_max_right n m) k1
  rw [a] at b
  simp only [Option.some.injEq, Prod.mk.injEq] at b
  obtain ⟨rfl, rfl⟩ := b
  rw [h3] at k3
  exact Option.some.inj k3
end

open Classical in
/-- The plain result of a place in the code. -/
noncomputable def Blk {β : Type} (Γ : Gam) (R : List RS) (bx : List Res) (c : Ctl) (K : List Fr) (σ : ASt) (enc : β → AOut) : Option β :=
  if h : ∃ b, Done Γ R bx c K σ (enc b) then some h.choose else none
theorem Blk.run {β : Type} {Γ : Gam} {R : List RS} {bx : List Res} {c : Ctl} {K : List Fr} {σ : ASt} {enc : β → AOut} {b : β} (h : Blk Γ R bx c K σ enc = some b) : Done Γ R bx c K σ (enc b) := by
  unfold Blk at h
  split at h
  · rename_i hh; rw [Option.some.injEq] at h; exact h ▸ hh.choose_spec
  · simp at h
theorem Blk.of {β : Type} {Γ : Gam} {R : List RS} {bx : List Res} {c : Ctl} {K : List Fr} {σ : ASt} {enc : β → AOut} {b : β} (hi : ∀ a b, enc a = enc b → a = b) (h : Done Γ R bx c K σ (enc b)) : Blk Γ R bx c K σ enc = some b := by
  unfold Blk
  have hh : ∃ b, Done Γ R bx c K σ (enc b) := ⟨b, h⟩
  rw [dif_pos hh, hi _ _ (hh.choose_spec.det h)]

open Classical in
/-- The plain result of a call. -/
noncomputable def Fn {β : Type} (Γ : Gam) (f : FuncId) (ps : List PA) (enc : β → AOut) : Option β :=
  if h : ∃ b, Γ f ps = some (enc b) then some h.choose else none
theorem Fn.run {β : Type} {Γ : Gam} {f : FuncId} {ps : List PA} {enc : β → AOut} {b : β} (h : Fn Γ f ps enc = some b) : Γ f ps = some (enc b) := by
  unfold Fn at h
  split at h
  · rename_i hh; rw [Option.some.injEq] at h; exact h ▸ hh.choose_spec
  · simp at h
theorem Fn.out {β : Type} {Γ : Gam} {f : FuncId} {ps : List PA} {enc : β → AOut} {b : β} (hi : ∀ a b, enc a = enc b → a = b) (h : Γ f ps = some (enc b)) : Fn Γ f ps enc = some b := by
  unfold Fn
  have hh : ∃ b, Γ f ps = some (enc b) := ⟨b, h⟩
  rw [dif_pos hh]
  have := h.symm.trans hh.choose_spec
  rw [hi _ _ (Option.some.inj this)]
theorem Fn.of {β : Type} {T : Tab} {Γ : Gam} (hΓ : Γ = Lim T) {f : FuncId} {fi : Fi} {ps : List PA} {enc : β → AOut} {b : β} (hi : ∀ a b, enc a = enc b → a = b) (hf : T.fi f = some fi) (hp : pinsIn (boxesOf 0 ps) (iosOf 0 ps) fi.body = true)
    (h : Done Γ fi.ress (backsOf 0 ps) (.c fi.body) [] (entry ps) (enc b)) : Fn Γ f ps enc = some b := by
  subst hΓ
  refine Fn.out hi ?_
  obtain ⟨n, e, σ', h1, h2, h3⟩ := h
  obtain ⟨m, hm⟩ := go_top h1
  have : ∃ k, ev (callN T k) m fi.body (entry ps) = some (e, σ') := ev_cont' hm
  obtain ⟨k, hk⟩ := this
  refine Lim_iff.2 ⟨max m k + 1, ?_⟩
  have hk' := ev_mono (callN_mono T (Nat.le_max_right m k)) (Nat.le_max_left m k) hk
  simp only [callN, hf, runF, if_pos hp]
  have h3 := finish_B h3
  rcases h2 with rfl | rfl <;> rw [hk'] <;> exact h3
end Go.Fw
