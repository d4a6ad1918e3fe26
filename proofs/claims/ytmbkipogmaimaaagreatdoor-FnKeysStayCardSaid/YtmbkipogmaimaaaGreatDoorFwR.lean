/- The framework, part R: calls and parts of tuples as operations; maps of numbers. Conditions: none. -/
import Derived.Test.YtmbkipogmaimaaaGreatDoorFwQ
namespace Go.Fw
open Go

section
variable {P : Program} {E : Env} {v : Res → Val} {o : Oper} {a : Act} {w : World} {β : Nat → Nat} {φ : Res → Foot}

theorem call_sound {Γ : Gam} (hΓ : Sat P Γ) (h : RelW E v (tmv a) w β φ) (hC : ∀ b, E.C b → b < E.w0.heap.size) {d : Nat} {f : FuncId} {as : List Arg} {opn : Bool} {fn : Func} {c : Code} {ys : Array Operand} {ts : Array TypeId}
    (hop : o.op = .call { callee := .value (.func f), args := ys, argTypes := ts }) (hd : o.dst = some d) (hN : d < a.tmps.size)
    (hfn : P.funcs[f]? = some fn) (hname : (fn.name == "runtime.NumGoroutine") = false) (hb : fn.body = some c) (hok : argsOk as ys.toList = true) (hnd : (argsL as).Nodup) (hdL : d ∉ argsL as)
    (hR : ∀ q ∈ argsR as, ¬ Passed as q.res) {ws : List (Res × Val)} (hf : fop Γ v (.call d f as opn) = some ws) : OpSound P E (appl v ws) o a w := by
  obtain ⟨⟨ps, ws1, bs⟩, h1, hf1⟩ := ob_some hf
  obtain ⟨out, h2, hf2⟩ := ob_some hf1
  obtain ⟨back, h3, hf3⟩ := ob_some hf2
  obtain ⟨ws2, h4, hf4⟩ := ob_some hf3
  simp only [Option.some.injEq] at hf4
  subst hf4
  clear hf hf1 hf2 hf3
  let C : Nat → Prop := fun x => E.C x ∨ ∃ r, ¬ Passed as r ∧ φ r x ≠ 0
  have pz : ∀ b, (∀ r, φ r b ≠ 0 → ¬ Passed as r) → passF φ as b = 0 := fun b hb => Classical.byContradiction fun e => by
    obtain ⟨r, k1, k2⟩ := passF_src e
    exact hb r k2 k1
  obtain ⟨a1, a2, a3, a4, a5⟩ := args_sound h (Xs := AXs w C (passF φ as)) (Xb := AXb w (passF φ as)) (K := Passed as)
    (fun b hb => ⟨hb.1, pz b (fun r hr => absurd (hb.2.1 r) hr), fun hc => by
      rcases hc with hc | ⟨r, _, hr⟩
      · exact hb.2.2 hc
      · exact hr (hb.2.1 r)⟩)
    (fun b hb hr => ⟨hb, pz b hr⟩) hok hR h1
  have hin : CallIn w C ps (ys.toList.map a.eval) (passF φ as) := by
    refine ⟨passF_le1 h hnd (a2 ▸ a3), fun x hx => ?_, fun x hx => ?_, a5⟩
    · obtain ⟨r, k1, k2⟩ := passF_src hx
      refine ⟨(h.dom r x k2).1, fun hc => ?_⟩
      rcases hc with hc | ⟨s, hs, hs2⟩
      · exact (h.dom r x k2).2.1 hc
      · exact hs (h.uniq r s x k2 hs2 ▸ k1)
    · rcases hx with hc | ⟨s, hs, hs2⟩
      · exact Nat.lt_of_lt_of_le (hC x hc) h.size
      · exact (h.dom s x hs2).1
  have hcall := hΓ f ps out h2 w C _ _ hin
  intro next Q hn
  unfold Oper.wp
  have hys : (ys.toList.map a.eval).toArray = ys.map a.eval := by apply Array.ext'; simp
  rw [call_run hfn hname hb hop w, Oper.upon_enter, ← hys]
  refine Calls.mono hcall fun e w' he => ?_
  cases e with
  | panicked ch => exact he.elim
  | outgrown => exact he.elim
  | returned u =>
    simp only at he ⊢
    rw [hd]
    exact hn _ _ (Good.put hN fun tm' htm => call_step h hC hok hnd hdL h1 h3 h4 a1 a2 a3 a4 he htm)

theorem RepTup.at {Xs X : Nat → Prop} {vs : List (Bool × List AC)} {us : List Value} {f : Foot} (h : RepTup w Xs X vs us f) : ∀ {i : Nat} {g : Bool} {cs : List AC}, vs[i]? = some (g, cs) →
    ∃ u f1 f2, us[i]? = some u ∧ RepPl w Xs X g cs u f1 ∧ (∀ x, f x = f1 x + f2 x) ∧ RepTup w Xs X (vs.set i (g, List.replicate cs.length .gone)) us f2 := by
  induction h with
  | nil => intro i g cs h; simp at h
  | @cons a' cs' u' vs us φ1 ψ1 h t ih =>
    intro i g cs hi
    cases i with
    | zero =>
      simp at hi
      obtain ⟨rfl, rfl⟩ := hi
      obtain ⟨vals, h1, h2⟩ := h
      refine ⟨u', φ1, ψ1, by simp, ⟨vals, h1, h2⟩, fun _ => rfl, ?_⟩
      have := RepTup.cons (a := a') (cs := List.replicate cs'.length .gone) (u := u') (φ := fun _ => 0) ⟨vals, by rw [← h1.length]; exact gone_rep h1.one, h2⟩ t
      exact this.cast (fun x => by simp)
    | succ i =>
      simp at hi
      obtain ⟨u, f1, f2, e1, e2, e3, e4⟩ := ih hi
      refine ⟨u, f1, fun x => φ1 x + f2 x, by simpa using e1, e2, fun x => by have := e3 x; dsimp only; omega, ?_⟩
      simp only [List.set_cons_succ]
      exact .cons h e4

theorem ext_sound {Γ : Gam} (h : RelW E v (tmv a) w β φ) (hC : ∀ b, E.C b → b < E.w0.heap.size) {d : Nat} {x : Opr} {y : Operand} {i : Nat} {opn : Bool} (hop : o.op = .extract y i) (hd : o.dst = some d) (hN : d < a.tmps.size)
    (hxy : oprOk x y = true) {ws : List (Res × Val)} (hf : fop Γ v (.ext d x i opn) = some ws) : OpSound P E (appl v ws) o a w := by
  simp only [fop] at hf
  split at hf <;> try (simp at hf; done)
  rename_i n rs
  cases y <;> simp [oprOk] at hxy
  subst hxy
  split at hf <;> try (simp at hf; done)
  rename_i vs hv
  split at hf <;> try (simp at hf; done)
  rename_i g cs hi
  obtain ⟨ws1, h1, hf1⟩ := ob_some hf
  clear hf
  obtain ⟨us, e1, e2⟩ := h.ent n _ _ hv (by intro p hp; simp at hp)
  obtain ⟨u, f1, f2, k1, k2, k3, k4⟩ := e2.at hi
  have hrun : (execOp a.eval o).run P w = .ok (.value u) w := by
    have : a.eval (.tmp n) = .tuple us.toArray := e1
    simp [execOp, hop, this, Instr.extract, k1]
  have hpc := putR_cases h1
  by_cases hno : noOwnL cs = true
  · rw [if_pos hno] at hf1
    simp only [Option.some.injEq] at hf1
    subst hf1
    rcases hpc with ⟨_, _, rfl⟩ | ⟨_, ⟨_, e⟩, _⟩ | ⟨_, cells, e, _⟩
    · obtain ⟨vals, r1, r2⟩ := k2
      have := OpSound.val (P := P) (tv := .pl g cs) (st := []) h hC hd hN hrun (.refl w) (L := []) (by simp) (f := fun _ => 0) (by simp) (by simp) (by simp) (by intro p hp; simp at hp) (by simp)
        ⟨vals, r1.cast (r1.foot0 hno), r2⟩
      simpa [dropL] using this
    · simp at e
    · simp at e
      rw [e.2] at hno
      simp [noOwnL, AC.noOwn] at hno
  · rw [if_neg hno] at hf1
    split at hf1 <;> simp only [Option.some.injEq, reduceCtorEq] at hf1
    rename_i hdn
    subst hf1
    intro next Q hn
    refine wp_of next Q hd hN hrun ?_ hn
    intro tm' htm
    let TVd : TV := if opn then .ptr (.b d) [] 0 else .pl g cs
    generalize hv' : appl v (ws1 ++ [(Res.t n, Val.t [] (TV.tup (vs.set i (g, List.replicate cs.length .gone)))), (.v (.t n), .v (ver v (.t n) + 1))]) = v'
    have T : ∀ m, v' (.t m) = if m = n then .t [] (TV.tup (vs.set i (g, List.replicate cs.length .gone))) else if m = d then .t [] TVd else v (.t m) := by
      intro m
      rw [← hv', appl_append]
      have e0 : appl v ws1 (.t m) = if m = d then .t [] TVd else v (.t m) := by
        rcases hpc with ⟨e, _, rfl⟩ | ⟨_, ⟨_, e⟩, _⟩ | ⟨e, cells, _, _, rfl⟩
        · simp only [TVd, e]; exact (appl_putT v v d [] _).1 m
        · simp at e
        · simp only [TVd, e, appl_append]
          have := (appl_putT v v d [] (.ptr (.b d) [] 0)).1 m
          simp [appl, this]
      by_cases em : m = n
      · subst em; simp [appl, nrm]
      · simp [appl, em, e0]
    have B : ∀ m, v' (.b m) = appl v ws1 (.b m) := by
      intro m; rw [← hv', appl_append]; simp [appl]
    have B1 : ∀ m, m ≠ d ∨ opn = false → v' (.b m) = v (.b m) := by
      intro m hm
      rw [B]
      rcases hpc with ⟨e, _, rfl⟩ | ⟨_, ⟨_, e⟩, _⟩ | ⟨e, cells, _, _, rfl⟩
      · exact (appl_putT v v d [] _).2.1 m
      · simp at e
      · have hm' : m ≠ d := hm.resolve_right (by simp [e])
        have := (appl_putT v v d [] (.ptr (.b d) [] 0)).2.1 m
        simp [appl_append, appl, this, hm']
    have V : ∀ q, v' (.v q) = if q = .t n then .v (ver v (.t n) + 1) else if q = .t d ∧ isNope (v (.t d)) = false then .v (ver v (.t d) + 1) else v (.v q) := by
      intro q
      rw [← hv', appl_append]
      have e0 : appl v ws1 (.v q) = if q = .t d ∧ isNope (v (.t d)) = false then .v (ver v (.t d) + 1) else v (.v q) := by
        rcases hpc with ⟨e, _, rfl⟩ | ⟨_, ⟨_, e⟩, _⟩ | ⟨e, cells, _, _, rfl⟩
        · exact (appl_putT v v d [] _).2.2 q
        · simp at e
        · have := (appl_putT v v d [] (.ptr (.b d) [] 0)).2.2 q
          simp [appl_append, appl, this]
      by_cases eq : q = .t n
      · subst eq; simp [appl, nrm]
      · simp [appl, eq, e0]
    have of : ∀ q k, v' (.v q) = .v k → ver v' q = k := fun q k hk => by unfold ver; rw [hk]
    have verV : ∀ q, ver v' q = if q = .t n then ver v q + 1 else if q = .t d ∧ isNope (v (.t d)) = false then ver v q + 1 else ver v q := by
      intro q
      have hu := V q
      by_cases c1 : q = .t n
      · rw [if_pos c1] at hu ⊢; rw [of _ _ hu, c1]
      · rw [if_neg c1] at hu ⊢
        by_cases c3 : q = .t d ∧ isNope (v (.t d)) = false
        · rw [if_pos c3] at hu ⊢; rw [of _ _ hu, c3.1]
        · rw [if_neg c3] at hu ⊢; unfold ver; rw [hu]
    have hopn : ∃ ad : Nat, ∃ ψ0 : Foot, ∃ cells : List AC, opn = true → (∃ vals, u = .pointer (some ⟨ad, 0, none⟩) ∧ Cells w ad 0 vals ∧ Avail w ad 0 vals.length ∧ RepL w (XS E w φ) (XB w φ []) cells vals ψ0) ∧
        (∀ x, f1 x = (if x = ad then 1 else 0) + ψ0 x) ∧ v' (.b d) = .b cells ∧ v (.b d) = .nope := by
      rcases hpc with ⟨e, _⟩ | ⟨e, _⟩ | ⟨_, cells, e, hnb, rfl⟩
      · exact ⟨0, f1, [], fun e' => by rw [e'] at e; simp at e⟩
      · exact ⟨0, f1, [], fun e' => by rw [e'] at e; simp at e⟩
      · simp at e
        obtain ⟨rfl, rfl⟩ := e
        obtain ⟨vals, r1, r2⟩ := k2
        simp at r2
        subst r2
        cases r1 with
        | sc hs => simp [Scal] at hs
        | @refOwn _ _ b _ vals φ1 _ _ _ hb ha hv h t =>
          cases t
          refine ⟨b, φ1, cells, fun _ => ⟨⟨vals, rfl, hv, by rw [h.length]; exact ha, h⟩, fun x => by simp, ?_, hnb⟩⟩
          rw [B]
          simp [appl_append, appl, nrm]
    obtain ⟨ad, ψ0, cells, hopn⟩ := hopn
    let φ' : Res → Foot := fun r => match r with
      | .t m => if m = n then f2 else if m = d then (if opn then fun _ => 0 else f1) else φ (.t m)
      | .b m => if opn = true ∧ m = d then f1 else φ (.b m)
      | .v q => φ (.v q)
    let β' : Nat → Nat := fun m => if opn = true ∧ m = d then ad else β m
    let W : Res → Prop := fun r => r = .t d ∨ r = .t n ∨ (opn = true ∧ r = .b d)
    have hn1 := h.le1 (.t n)
    have fsum : ∀ x, f1 x + f2 x = φ (.t n) x := fun x => (k3 x).symm
    have zero : ∀ b, (∀ r, φ r b = 0) → ∀ r, φ' r b = 0 := by
      intro b hb r
      have h0 := hb (.t n)
      have := fsum b
      cases r with
      | v q => exact hb _
      | t m =>
        simp only [φ']
        split
        · omega
        · split
          · split
            · rfl
            · omega
          · exact hb _
      | b m =>
        simp only [φ']
        split
        · omega
        · exact hb _
    have monoS : ∀ b, XS E w φ b → XS E w φ' b := fun b hb => ⟨hb.1, zero b hb.2.1, hb.2.2⟩
    have monoB : ∀ b, XB w φ [] b → XB w φ' [] b := fun b hb => ⟨hb.1, fun r hr => absurd (zero b (fun r' => Classical.byContradiction fun e => by obtain ⟨_, h1, _⟩ := hb.2 r' e; simp at h1) r) hr⟩
    have hndd : n ≠ d := fun e => hdn e.symm
    have φn : φ' (.t n) = f2 := by simp [φ']
    have φd : φ' (.t d) = if opn then fun _ => 0 else f1 := by simp [φ', hdn]
    refine ⟨β', φ', h.multi hC W ?_ ?_ ?_ ?_ ?_ ?_ ?_ ?_ ?_ ?_ (fun _ _ _ => rfl) rfl rfl rfl (Nat.le_refl _) ?_ ?_⟩
    · rintro r (rfl | rfl | ⟨ho, rfl⟩) b
      · rw [φd]; have := fsum b; have := hn1 b; split <;> first | exact Nat.zero_le _ | omega
      · rw [φn]; have := fsum b; have := hn1 b; omega
      · simp only [φ', ho, true_and, if_true]; have := fsum b; have := hn1 b; omega
    · rintro r s b (rfl | rfl | ⟨ho, rfl⟩) (rfl | rfl | ⟨ho', rfl⟩) e1 e2
      · rfl
      · rw [φd] at e1; rw [φn] at e2; have := fsum b; have := hn1 b
        split at e1 <;> first | exact absurd rfl e1 | omega
      · rw [φd, if_pos ho'] at e1; exact absurd rfl e1
      · rw [φd] at e2; rw [φn] at e1; have := fsum b; have := hn1 b
        split at e2 <;> first | exact absurd rfl e2 | omega
      · rfl
      · rw [φn] at e1; simp only [φ', ho', true_and, if_true] at e2; have := fsum b; have := hn1 b; omega
      · rw [φd, if_pos ho] at e2; exact absurd rfl e2
      · rw [φn] at e2; simp only [φ', ho, true_and, if_true] at e1; have := fsum b; have := hn1 b; omega
      · rfl
    · rintro r b (rfl | rfl | ⟨ho, rfl⟩) e1
      · refine .inl ⟨.t n, .inr (.inl rfl), ?_⟩
        rw [φd] at e1; have := fsum b
        split at e1 <;> first | exact absurd rfl e1 | omega
      · refine .inl ⟨.t n, .inr (.inl rfl), ?_⟩
        rw [φn] at e1; have := fsum b; omega
      · refine .inl ⟨.t n, .inr (.inl rfl), ?_⟩
        simp only [φ', ho, true_and, if_true] at e1; have := fsum b; omega
    · intro r hq hr
      cases r with
      | v q => exact absurd rfl (hq q)
      | t m =>
        have h1 : m ≠ d := fun e => hr (.inl (by rw [e]))
        have h2 : m ≠ n := fun e => hr (.inr (.inl (by rw [e])))
        exact ⟨by rw [T, if_neg h2, if_neg h1], by simp [φ', h1, h2]⟩
      | b m =>
        have h1 : ¬ (opn = true ∧ m = d) := fun e => hr (.inr (.inr ⟨e.1, by rw [e.2]⟩))
        refine ⟨B1 m ?_, by simp only [φ', if_neg h1]⟩
        by_cases e : m = d
        · exact .inr (by simpa using fun ho => h1 ⟨ho, e⟩)
        · exact .inl e
    · intro r hr
      cases r with
      | v q => rfl
      | t m =>
        have h1 : m ≠ d := fun e => hr (.inl (by rw [e]))
        have h2 : m ≠ n := fun e => hr (.inr (.inl (by rw [e])))
        simp [φ', h1, h2]
      | b m =>
        have h1 : ¬ (opn = true ∧ m = d) := fun e => hr (.inr (.inr ⟨e.1, by rw [e.2]⟩))
        simp only [φ', if_neg h1]
    · intro q; rw [verV]; split <;> first | omega | (split <;> omega)
    · intro q hq hf
      rw [verV]
      cases q with
      | t m =>
        by_cases e : m = n
        · subst e; rw [if_pos rfl]; omega
        · rw [if_neg (by simpa using e)]
          have e2 : m = d := by
            rcases hq with e' | e' | ⟨_, e'⟩
            · simpa [Rt.res] using e'
            · exact absurd (by simpa [Rt.res] using e') e
            · simp [Rt.res] at e'
          subst e2
          rw [if_pos ⟨rfl, hf⟩]; omega
      | b m =>
        rcases hq with e' | e' | ⟨ho, e'⟩
        · simp [Rt.res] at e'
        · simp [Rt.res] at e'
        · simp [Rt.res] at e'
          subst e'
          have := (hopn ho).2.2.2
          simp [Rt.res, this, isNope] at hf
    · intro m hm
      have h1 : m ≠ d := fun e => hm (.inl (by rw [e]))
      rw [htm, if_neg h1]
    · intro m hm
      exact if_neg (fun e => hm (.inr (.inr ⟨e.1, by rw [e.2]⟩)))
    · rintro m (e | e | ⟨ho, e⟩) hf
      · simp at e
      · simp at e
      · simp at e
        subst e
        have := (hopn ho).2.2.2
        simp [this, isNope] at hf
    · rintro m (e | e | ⟨ho, e⟩)
      · simp at e
        subst e
        refine .inr ⟨TVd, by rw [T, if_neg hdn, if_pos rfl], ?_⟩
        rw [htm, if_pos rfl, φd]
        by_cases ho : opn = true
        · obtain ⟨⟨vals, hu, g1, g2, g3⟩, g4, g5, g6⟩ := hopn ho
          simp only [TVd, ho, if_true]
          refine ⟨by rw [Rt.res, g5]; rfl, .inl rfl, ad, 0, hu, ?_, ?_, rfl⟩
          · simp only [φ', Rt.res, ho, true_and, if_true, β']
            rw [g4]; simp
          · simp [β', ho]
        · simp only [TVd, ho, if_false, Bool.false_eq_true]
          obtain ⟨vals, r1, r2⟩ := k2
          exact ⟨vals, r1.weak monoS monoB, r2⟩
      · simp at e
        subst e
        refine .inr ⟨_, by rw [T, if_pos rfl], ?_⟩
        rw [htm, if_neg hndd, φn]
        exact ⟨us, e1, k4.weak monoS monoB⟩
      · simp at e
    · rintro m cs' (e | e | ⟨ho, e⟩) hv1
      · simp at e
      · simp at e
      · simp at e
        subst e
        obtain ⟨⟨vals, hu, g1, g2, g3⟩, g4, g5, g6⟩ := hopn ho
        rw [g5] at hv1
        simp at hv1
        subst hv1
        refine ⟨vals, ψ0, ?_, ?_, g3.weak monoS monoB, fun x => ?_⟩
        · simpa [β', ho] using g1
        · simpa [β', ho] using g2
        · simp only [φ', β', ho, true_and, if_true]; exact g4 x
end
end Go.Fw
