/- The framework, part Za: what a function gives back, and tables of functions. Conditions: none. -/
import Derived.Test.YtmbkipogmaimaaaGreatDoorFwZ
import Derived.Tactics
namespace Go.Fw
open Go

def oneOr (us : List Value) : Value := match us with | [u] => u | _ => .tuple us.toArray
def rdRes (tmps : Array Value) (r : ResultVar) : Sem Value :=
  match r with
  | .tmp t => pure (tmps.getD t undef)
  | .cell a t => do loadVar t (← asAddr (tmps.getD a undef))
theorem results_eq (fn : Func) (tmps : Array Value) : results fn tmps = (do let vs ← fn.results.mapM (rdRes tmps); pure (if h : vs.size = 1 then vs[0] else .tuple vs)) := rfl

theorem results_run {P : Program} {fn : Func} {tmps : Array Value} {w : World} {us : List Value} (hlen : fn.results.toList.length = us.length) (hl : us.length ≤ 4)
    (h : ∀ (i : Nat) (r : ResultVar) (u : Value), fn.results.toList[i]? = some r → us[i]? = some u → (rdRes tmps r).run P w = .ok u w) : (results fn tmps).run P w = .ok (oneOr us) w := by
  rw [results_eq]
  generalize hr : fn.results.toList = rs at hlen h
  match rs, us, hlen, hl with
  | [], [], _, _ => have e : fn.results = #[] := Array.ext' hr; simp [e, oneOr]
  | [a], [u], _, _ =>
    have e : fn.results = #[a] := Array.ext' hr
    have h0 := h 0 a u rfl rfl
    simp [e, oneOr, h0]
  | [a, b], [u, x], _, _ =>
    have e : fn.results = #[a, b] := Array.ext' hr
    have h0 := h 0 a u rfl rfl
    have h1 := h 1 b x rfl rfl
    simp [e, oneOr, h0, h1]
  | [a, b, c], [u, x, y], _, _ =>
    have e : fn.results = #[a, b, c] := Array.ext' hr
    have h0 := h 0 a u rfl rfl
    have h1 := h 1 b x rfl rfl
    have h2 := h 2 c y rfl rfl
    simp [e, oneOr, h0, h1, h2]
  | [a, b, c, d], [u, x, y, z], _, _ =>
    have e : fn.results = #[a, b, c, d] := Array.ext' hr
    have h0 := h 0 a u rfl rfl
    have h1 := h 1 b x rfl rfl
    have h2 := h 2 c y rfl rfl
    have h3 := h 3 d z rfl rfl
    simp [e, oneOr, h0, h1, h2, h3]
  | _ :: _ :: _ :: _ :: _ :: _, us, hlen, hl => simp at hlen; omega

section
variable {P : Program} {E : Env} {v : Res → Val} {tm : Nat → Value} {w : World} {β : Nat → Nat} {φ : Res → Foot}

theorem flat_noOwn : ∀ {cs : List AC}, cs.all AC.flat = true → noOwnL cs = true
  | [], _ => rfl
  | c :: cs, h => by
    simp only [List.all_cons, Bool.and_eq_true] at h
    simp only [noOwnL, Bool.and_eq_true]
    refine ⟨?_, flat_noOwn h.2⟩
    cases c <;> simp [AC.flat] at h <;> rfl

theorem outOf_sound {a0 : Act} (h : RelW E v (tmv a0) w β φ) {rv : ResultVar} {n : RS} (hn : isRes P rv n = true) {r : Res} {a : Bool} {cs : List AC} (ho : outOf v n = some (r, a, cs)) :
    ∃ u f, (rdRes a0.tmps rv).run P w = .ok u w ∧ RepPl w (XS E w φ) (fun _ => False) a cs u f ∧ ∀ x, f x ≤ φ r x := by
  cases n with
  | t n =>
    cases rv <;> simp [isRes] at hn
    subst hn
    rename_i n
    refine ⟨tmv a0 n, ?_⟩
    suffices H : ∃ f, RepPl w (XS E w φ) (fun _ => False) a cs (tmv a0 n) f ∧ ∀ x, f x ≤ φ r x by
      obtain ⟨f, h1⟩ := H
      exact ⟨f, rfl, h1⟩
    simp only [outOf] at ho
    split at ho <;> try (simp at ho; done)
    · rename_i st ag cs0 hv
      split at ho <;> simp only [Option.some.injEq, Prod.mk.injEq, reduceCtorEq] at ho
      rename_i hc
      obtain ⟨rfl, rfl, rfl⟩ := ho
      simp only [Bool.or_eq_true, Bool.and_eq_true, List.isEmpty_iff] at hc
      rcases hc with ⟨h1, h2⟩ | ⟨rfl, h2⟩
      · have hl : Live v st := fun p hp => by simpa using List.all_eq_true.1 h1 p hp
        obtain ⟨vals, r1, r2⟩ := h.ent n _ _ hv hl
        exact ⟨fun _ => 0, ⟨vals, flat_rep r1 h2 _ _, r2⟩, fun _ => Nat.zero_le _⟩
      · obtain ⟨vals, r1, r2⟩ := h.ent n _ _ hv (by intro p hp; simp at hp)
        exact ⟨φ (.t n), ⟨vals, r1.cln _ h2, r2⟩, fun _ => Nat.le_refl _⟩
    · rename_i k hv
      split at ho <;> try (simp at ho; done)
      rename_i cs0 hb
      split at ho <;> simp only [Option.some.injEq, Prod.mk.injEq, reduceCtorEq] at ho
      rename_i hc
      obtain ⟨rfl, rfl, rfl⟩ := ho
      obtain ⟨vals, ψ, k1, k2, k3, k4⟩ := h.box k _ hb
      obtain ⟨_, _, b, o, e, g1, g2, g3⟩ := h.ent n _ _ hv (by intro p hp; simp at hp)
      subst g2
      have ho : o = 0 := by omega
      subst ho
      refine ⟨_, ⟨[tmv a0 n], ?_, by simp⟩, fun x => Nat.le_of_eq (k4 x).symm⟩
      rw [e]
      exact (RepL.refOwn (h.dom (.b k) (β k) (by rw [k4]; simp)).1 (by rw [← k3.length]; exact k2) k1 (k3.cln _ hc) .nil).cast (fun x => by simp)
  | c n size g =>
    cases rv <;> simp [isRes] at hn
    rename_i ad t
    obtain ⟨⟨⟨rfl, ht⟩, hg⟩, h1⟩ := hn
    simp only [outOf] at ho
    split at ho <;> try (simp at ho; done)
    rename_i k hv
    split at ho <;> try (simp at ho; done)
    rename_i cs0 hb
    split at ho <;> simp only [Option.some.injEq, Prod.mk.injEq, reduceCtorEq] at ho
    rename_i hc
    obtain ⟨rfl, rfl, rfl⟩ := ho
    simp only [Bool.and_eq_true, decide_eq_true_eq] at hc
    obtain ⟨vals, ψ, k1, k2, k3, k4⟩ := h.box k _ hb
    obtain ⟨_, _, b, o, e, g1, g2, g3⟩ := h.ent ad _ _ hv (by intro p hp; simp at hp)
    subst g2
    have ho : o = 0 := by omega
    subst ho
    obtain ⟨u, hrun, hu⟩ := loadAt_run (P := P) ht hg (fun e => by rcases h1 with h1 | h1; rw [e] at h1; simp at h1; exact h1) k1 (by rw [k3.length]; exact hc.2)
    refine ⟨u, ψ, ?_, ⟨vals, k3.cln _ hc.1, hu⟩, fun x => by have := k4 x; omega⟩
    have e' : a0.tmps.getD ad undef = .pointer (some ⟨β k, 0, none⟩) := e
    simp only [rdRes, e', asAddr]
    simpa [Instr.loadAt, Instr.sureAddr] using hrun

theorem outsOf_sound {a0 : Act} (h : RelW E v (tmv a0) w β φ) : ∀ {ns : List RS} {rvs : List ResultVar}, ressOk P rvs ns = true → ∀ {rs : List (Res × Bool × List AC)}, outsOf v ns = some rs →
    ∃ us f, rvs.length = us.length ∧ us.length = ns.length ∧ (∀ (i : Nat) (r : ResultVar) (u : Value), rvs[i]? = some r → us[i]? = some u → (rdRes a0.tmps r).run P w = .ok u w) ∧
      RepTup w (XS E w φ) (fun _ => False) (rs.map (·.2)) us f ∧ ∀ x, f x ≤ tot (rs.map fun r => φ r.1) x
  | [], [], _, rs, ho => by
    simp only [outsOf, Option.some.injEq] at ho
    subst ho
    exact ⟨[], _, rfl, rfl, fun i r u h => by simp at h, .nil, fun _ => Nat.zero_le _⟩
  | [], _ :: _, hk, _, _ => by simp [ressOk] at hk
  | _ :: _, [], hk, _, _ => by simp [ressOk] at hk
  | n :: ns, rv :: rvs, hk, rs, ho => by
    simp only [ressOk, Bool.and_eq_true] at hk
    obtain ⟨x, h1, h2⟩ := ob_some ho
    obtain ⟨xs, h3, h4⟩ := ob_some h2
    simp only [Option.some.injEq] at h4
    subst h4
    obtain ⟨r, a, cs⟩ := x
    obtain ⟨u, f, k0, k1, k2⟩ := outOf_sound h hk.1 h1
    obtain ⟨us, g, g0, g0', g1, g2, g3⟩ := outsOf_sound h hk.2 h3
    refine ⟨u :: us, _, by simp [g0], by simp [g0'], fun i r' u' e1 e2 => ?_, .cons k1 g2, fun x => by have := k2 x; have := g3 x; simp only [List.map_cons, tot]; omega⟩
    cases i with
    | zero => simp at e1 e2; subst e1 e2; exact k0
    | succ i => exact g1 i r' u' (by simpa using e1) (by simpa using e2)

theorem tot_append (A B : List Foot) (x : Nat) : tot (A ++ B) x = tot A x + tot B x := by
  induction A with
  | nil => simp [tot]
  | cons f A ih => simp [tot, ih]; omega

theorem tot_nodup (h : RelW E v tm w β φ) : ∀ {L : List Res}, L.Nodup → ∀ x, tot (L.map φ) x ≤ 1 ∧ (tot (L.map φ) x ≠ 0 → ∃ r ∈ L, φ r x ≠ 0)
  | [], _, x => by simp [tot]
  | r :: L, hn, x => by
    simp only [List.nodup_cons] at hn
    obtain ⟨i1, i2⟩ := tot_nodup h hn.2 x
    simp only [List.map_cons, tot]
    have hle := h.le1 r x
    by_cases h0 : tot (L.map φ) x = 0
    · refine ⟨by omega, fun h1 => ⟨r, by simp, by omega⟩⟩
    · obtain ⟨s, hs, hs2⟩ := i2 h0
      have : φ r x = 0 := Classical.byContradiction fun e => hn.1 (h.uniq r s x e hs2 ▸ hs)
      refine ⟨by omega, fun _ => ⟨s, by simp [hs], hs2⟩⟩

theorem extsOf_sound (h : RelW E v tm w β φ) : ∀ {ps : List PA} {k : Nat} {us : List Value} {es : List (List AC)}, us.length = ps.length →
    (∀ (i : Nat) (cs : List AC), ps[i]? = some (PA.box cs) → us[i]? = some (Value.pointer (some ⟨β (k + i), 0, none⟩))) → extsOf v k ps = some es →
    BoxRel w (XS E w φ) ps us es ((boxesOf k ps).map fun n => φ (.b n))
  | [], k, us, es, hl, hb, he => by
    simp only [extsOf, Option.some.injEq] at he
    subst he
    have : us = [] := List.eq_nil_of_length_eq_zero (by simpa using hl)
    subst this
    exact .nil
  | p :: ps, k, [], es, hl, hb, he => by simp at hl
  | p :: ps, k, u :: us, es, hl, hb, he => by
    have hl' : us.length = ps.length := by simpa using hl
    have hb' : ∀ (i : Nat) (cs : List AC), ps[i]? = some (PA.box cs) → us[i]? = some (Value.pointer (some ⟨β (k + 1 + i), 0, none⟩)) := fun i cs hi => by
      have := hb (i + 1) cs (by simpa using hi)
      rw [show k + 1 + i = k + (i + 1) by omega]
      simpa using this
    cases p with
    | box cs =>
      simp only [extsOf] at he
      split at he <;> try (simp at he; done)
      rename_i cs0 hv
      split at he <;> try (simp at he; done)
      rename_i hc
      obtain ⟨es', h1, h2⟩ := ob_some he
      simp only [Option.some.injEq] at h2
      subst h2
      have hu := hb 0 cs (by simp)
      simp at hu
      subst hu
      obtain ⟨vals, ψ, k1, k2, k3, k4⟩ := h.box k _ hv
      exact .box k1 k2 (k3.cln _ hc) k4 (extsOf_sound h hl' hb' h1)
    | val a cs => exact .other (by simp) (extsOf_sound h hl' hb' he)
    | vw cs => exact .other (by simp) (extsOf_sound h hl' hb' he)
    | fn g caps => exact .other (by simp) (extsOf_sound h hl' hb' he)

theorem BoxRel.weak {Xs Xs' : Nat → Prop} {ps : List PA} {us : List Value} {es : List (List AC)} {gs : List Foot} (h : BoxRel w Xs ps us es gs) (hs : ∀ b, Xs b → Xs' b) : BoxRel w Xs' ps us es gs := by
  induction h with
  | nil => exact .nil
  | other hp _ ih => exact .other hp ih
  | box hv ha hr hg _ ih => exact .box hv ha (hr.weak hs (fun _ h => h)) hg ih
end

theorem ArgsRel.boxes {w : World} {Xs Xb : Nat → Prop} {ps : List PA} {us : List Value} {φ : Foot} (h : ArgsRel w Xs Xb ps us φ) : ∀ (i : Nat) (cs : List AC), ps[i]? = some (PA.box cs) → ∃ b, us[i]? = some (Value.pointer (some ⟨b, 0, none⟩)) := by
  induction h with
  | nil => intro i cs h; simp at h
  | @cons p ps u us f g h t ih =>
    intro i cs hi
    cases i with
    | zero =>
      simp at hi
      subst hi
      obtain ⟨b, vals, ψ, r1, _⟩ := h
      exact ⟨b, by simp [r1]⟩
    | succ i => simpa using ih i cs (by simpa using hi)

/-- A function does what its interpreter says. -/
theorem runF_sound {P : Program} {Γ : Gam} (hΓ : Sat P Γ) (hfol : P.follows .mixedOrders = true) {f : FuncId} {fi : Fi} (hl : fi.ress.length ≤ 4) (hok : fnOk P f fi = true) (n : Nat) : SatF P f (runF Γ n fi) := by
  intro ps out hout w C us φ hin
  unfold fnOk at hok
  split at hok <;> try (simp at hok; done)
  rename_i fn hfn
  simp only [Bool.and_eq_true] at hok
  obtain ⟨hb, hres⟩ := hok
  split at hb <;> try (simp at hb; done)
  rename_i c hbody
  unfold runF at hout
  split at hout <;> try (simp at hout; done)
  rename_i hpins
  let E : Env := { C := C, M := fun x => φ x ≠ 0, w0 := w, pin := fun n => if n ∈ boxesOf 0 ps then some (argAddr us n) else none }
  let a0 : Act := { tmps := us.toArray ++ Array.replicate (fn.ntmps - us.toArray.size) undef, defers := [] }
  have ha0 : ∀ i u, us[i]? = some u → tmv a0 i = u := fun i u hi => by
    obtain ⟨hlt, e⟩ := List.getElem?_eq_some_iff.1 hi
    simp only [tmv, a0, Array.getD_eq_getD_getElem?]
    rw [Array.getElem?_append_left (by simpa using hlt)]
    simp [hi]
  have hrel : Rel E (entry ps).val a0 w := entry_rel hin ha0
  have hC : ∀ b, E.C b → b < E.w0.heap.size := fun b hb => hin.low b hb
  have hpl : ∀ n b, E.pin n = some b → n ∈ boxesOf 0 ps := fun n b hn => by
    simp only [E] at hn
    split at hn
    · assumption
    · simp at hn
  have hN : fn.ntmps ≤ a0.tmps.size := by simp [a0]; omega
  -- the end
  have fin : ∀ σ, finish σ fi.ress ps = some out → ∀ a' w', Rel E σ.val a' w' → a'.defers = [] → a'.defers = [] ∧ ∃ u, (results fn a'.tmps).run P w' = .ok u w' ∧ CallOut w C ps us φ out u w' := by
    intro σ hf a' w' hR hd
    obtain ⟨β, φ', h⟩ := hR
    obtain ⟨rs, h1, hf1⟩ := ob_some hf
    obtain ⟨es, h2, hf2⟩ := ob_some hf1
    try dsimp only at hf2
    split at hf2 <;> simp only [Option.some.injEq, reduceCtorEq] at hf2
    rename_i hnd
    subst hf2
    obtain ⟨us', f0, l1, l2, l3, k1, k2⟩ := outsOf_sound h hres h1
    refine ⟨hd, _, results_run l1 (by rw [l2]; exact hl) l3, ?_⟩
    have haddr : ∀ (i : Nat) (cs : List AC), ps[i]? = some (PA.box cs) → us[i]? = some (Value.pointer (some ⟨β (0 + i), 0, none⟩)) := fun i cs hi => by
      obtain ⟨b, hu⟩ := hin.args.boxes i cs hi
      have hp : E.pin i = some (argAddr us i) := if_pos ((mem_boxesOf ps 0 i).2 ⟨Nat.zero_le _, cs, by simpa using hi⟩)
      have := (h.pin i _ hp).2
      rw [hu, Nat.zero_add, this]
      simp [argAddr, hu]
    have hlen := hin.args.feet.1
    have g1 := extsOf_sound h hlen haddr h2
    have hsum : ∀ x, f0 x + tot ((boxesOf 0 ps).map fun n => φ' (.b n)) x ≤ tot ((rs.map (·.1) ++ (boxesOf 0 ps).map Res.b).map φ') x := fun x => by
      rw [List.map_append, tot_append]
      have := k2 x
      simp only [List.map_map, Function.comp_def]
      omega
    have hAX : ∀ x, XS E w' φ' x → AXs w' C (fun x => f0 x + tot ((boxesOf 0 ps).map fun n => φ' (.b n)) x) x := fun x hx => by
      refine ⟨hx.1, Classical.byContradiction fun e => ?_, hx.2.2⟩
      simp only at e
      obtain ⟨r, _, hr⟩ := (tot_nodup h hnd x).2 (by have := hsum x; omega)
      exact hr (hx.2.1 r)
    refine ⟨f0, _, fun x => Nat.le_trans (hsum x) (tot_nodup h hnd x).1, fun x hx => ?_, ?_, g1.weak hAX, h.os, h.tape, h.output, h.size, fun x hx hz => h.old x hx (by simpa [E] using hz)⟩
    · obtain ⟨r, _, hr⟩ := (tot_nodup h hnd x).2 (by have := hsum x; omega)
      exact h.dom r x hr
    · -- the result
      have k1' := k1.weak hAX (fun _ h => h)
      clear l1 l2 l3 k1
      generalize rs.map (·.2) = l at k1'
      cases k1' with
      | nil => exact ⟨[], rfl, .nil⟩
      | @cons ag cs u vs us'' f1 f2 hh t =>
        cases t with
        | nil =>
          have : (fun x => f1 x + (fun _ => 0 : Foot) x) = f1 := funext fun x => by simp
          simp only [outTV, OutOk, oneOr]
          obtain ⟨vals, r1, r2⟩ := hh
          exact ⟨vals, r1.cast (fun x => by simp), r2⟩
        | @cons ag2 cs2 u2 vs2 us2 f3 f4 hh2 t2 =>
          exact ⟨_, rfl, .cons hh (.cons hh2 t2)⟩
  refine calls_of_wp hfn hbody ?_
  have hQ : ∀ {e σ}, ev Γ n fi.body (entry ps) = some (e, σ) → finish σ fi.ress ps = some out → (e = .norm ∨ e = .ret) →
      c.wp P (bodyPost P fn fun e w' => match e with | .returned u => CallOut w C ps us φ out u w' | _ => False) a0 w := fun {e σ} hev hf he => by
    refine (ev_sound hΓ hC hfol hN hpl n).1 fi.body c hb hpins _ _ _ hev _ (fun a' w' hR hs hd => ?_) a0 w hrel rfl rfl
    rcases he with rfl | rfl
    · exact fin _ hf a' w' hR hd
    · exact fin _ hf a' w' hR hd
  split at hout
  · rename_i σ hev; exact hQ hev hout (.inl rfl)
  · rename_i σ hev; exact hQ hev hout (.inr rfl)
  · simp at hout

/-- Tables of functions, and calls in depth. -/
structure Tab where
  fi : FuncId → Option Fi
  ext : Gam

def callN (T : Tab) : Nat → Gam
  | 0 => fun _ _ => none
  | n + 1 => fun f ps => match T.fi f with
    | some fi => runF (callN T n) n fi ps
    | none => T.ext f ps

theorem callN_sat {P : Program} {T : Tab} (hfol : P.follows .mixedOrders = true) (hfi : ∀ f fi, T.fi f = some fi → fi.ress.length ≤ 4 ∧ fnOk P f fi = true) (hext : ∀ f, SatF P f (T.ext f)) : ∀ n, Sat P (callN T n)
  | 0 => fun f ps out h => by simp [callN] at h
  | n + 1 => fun f => by
    simp only [callN]
    cases hf : T.fi f with
    | none => exact hext f
    | some fi =>
      obtain ⟨h1, h2⟩ := hfi f fi hf
      exact runF_sound (callN_sat hfol hfi hext n) hfol h1 h2 n
end Go.Fw
