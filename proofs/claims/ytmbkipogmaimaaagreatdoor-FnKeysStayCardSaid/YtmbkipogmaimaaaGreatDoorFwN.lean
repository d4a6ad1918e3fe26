/- The framework, part N: the step that turns a root; stores, and the loads that take or freeze. Conditions: none. -/
import Derived.Test.YtmbkipogmaimaaaGreatDoorFwM
namespace Go.Fw
open Go

theorem appl_putC (v : Res → Val) {q : Rt} {cs : List AC} (hq : ∀ n, q = .t n → ∃ c, cs = [c]) :
    (∀ n, appl v (putC v q cs) (.t n) = if q = .t n then .t [] (.pl false cs) else v (.t n)) ∧ (∀ n, appl v (putC v q cs) (.b n) = if q = .b n then .b cs else v (.b n)) ∧
      (∀ r, appl v (putC v q cs) (.v r) = if r = q then .v (ver v q + 1) else v (.v r)) := by
  cases q with
  | b m =>
    refine ⟨fun n => ?_, fun n => ?_, fun r => ?_⟩ <;> simp [putC, appl, nrm]
    · by_cases e : n = m <;> simp [e] <;> exact fun e' => absurd e'.symm e
  | t m =>
    obtain ⟨c, rfl⟩ := hq m rfl
    refine ⟨fun n => ?_, fun n => ?_, fun r => ?_⟩ <;> simp [putC, appl, nrm]
    · by_cases e : n = m <;> simp [e] <;> exact fun e' => absurd e'.symm e

theorem appl_putT (v v0 : Res → Val) (d : Nat) (st : Stamps) (tv : TV) :
    (∀ n, appl v0 (putT v d st tv) (.t n) = if n = d then .t st tv else v0 (.t n)) ∧ (∀ n, appl v0 (putT v d st tv) (.b n) = v0 (.b n)) ∧
      (∀ r, appl v0 (putT v d st tv) (.v r) = if r = .t d ∧ isNope (v (.t d)) = false then .v (ver v (.t d) + 1) else v0 (.v r)) := by
  unfold putT
  split
  · rename_i hh
    refine ⟨fun n => ?_, fun n => ?_, fun r => ?_⟩ <;> simp [appl, nrm, hh, isNope]
  · rename_i hh
    have hf : isNope (v (.t d)) = false := by cases hv : v (.t d) <;> simp_all [isNope]
    refine ⟨fun n => ?_, fun n => ?_, fun r => ?_⟩ <;> simp [appl, nrm, hf]

abbrev DP := Option (Nat × Bool × List AC)
def DP.ws (v : Res → Val) : DP → List (Res × Val)
  | none => []
  | some (d, a, cs) => putT v d [] (.pl a cs)
def DP.at (D : DP) (n : Nat) : Prop := ∃ a cs, D = some (n, a, cs)
theorem DP.ws_not (v v0 : Res → Val) {D : DP} {n : Nat} (hn : ¬ D.at n) : appl v0 (D.ws v) (.t n) = v0 (.t n) := by
  cases D with
  | none => rfl
  | some x =>
    obtain ⟨d, a, ds⟩ := x
    refine ((appl_putT v v0 d [] (.pl a ds)).1 n).trans ?_
    exact if_neg (fun e => hn ⟨a, ds, by rw [e]⟩)
def placeN (q : Rt) (fq : Foot) (D : DP) (fd : Foot) (L : List Nat) : List (Res × Foot) :=
  (q.res, fq) :: ((match D with | none => [] | some (d, _, _) => [(.t d, fd)]) ++ L.map (fun n => (.t n, fun _ => 0)))
theorem placeN_fst (q : Rt) (fq : Foot) (D : DP) (fd : Foot) (L : List Nat) (r : Res) : r ∈ (placeN q fq D fd L).map (·.1) ↔ r = q.res ∨ (∃ d, D.at d ∧ r = .t d) ∨ ∃ n ∈ L, r = .t n := by
  unfold placeN DP.at
  cases D with
  | none =>
    simp
    constructor
    · rintro (h | ⟨n, h1, h2⟩)
      · exact .inl h
      · exact .inr ⟨n, h1, h2.symm⟩
    · rintro (h | ⟨n, h1, h2⟩)
      · exact .inl h
      · exact .inr ⟨n, h1, h2.symm⟩
  | some x =>
    obtain ⟨d, a, cs⟩ := x
    simp
    constructor
    · rintro (h | h | ⟨n, h1, h2⟩)
      · exact .inl h
      · exact .inr (.inl h)
      · exact .inr (.inr ⟨n, h1, h2.symm⟩)
    · rintro (h | h | ⟨n, h1, h2⟩)
      · exact .inl h
      · exact .inr (.inl h)
      · exact .inr (.inr ⟨n, h1, h2.symm⟩)
theorem placeN_mem {q : Rt} {fq : Foot} {D : DP} {fd : Foot} {L : List Nat} {x : Res × Foot} (hx : x ∈ placeN q fq D fd L) : x = (q.res, fq) ∨ (∃ d, D.at d ∧ x = (.t d, fd)) ∨ ∃ n ∈ L, x = (.t n, fun _ => 0) := by
  unfold placeN at hx
  cases D with
  | none =>
    simp at hx
    rcases hx with h | ⟨n, h1, h2⟩
    · exact .inl h
    · exact .inr (.inr ⟨n, h1, h2.symm⟩)
  | some y =>
    obtain ⟨d, a, cs⟩ := y
    simp at hx
    rcases hx with h | h | ⟨n, h1, h2⟩
    · exact .inl h
    · exact .inr (.inl ⟨d, ⟨a, cs, rfl⟩, h⟩)
    · exact .inr (.inr ⟨n, h1, h2.symm⟩)

section
variable {E : Env} {v : Res → Val} {tm tm' : Nat → Value} {w w' : World} {β : Nat → Nat} {φ : Res → Foot}

theorem RelW.place (h : RelW E v tm w β φ) (hC : ∀ b, E.C b → b < E.w0.heap.size) {q : Rt} {cs cs' : List AC} (hc : content v q = some cs) (hl : cs'.length = cs.length) {L : List Nat} {D : DP}
    (hqL : ∀ n ∈ L, q ≠ .t n) (hqD : ∀ d, D.at d → q ≠ .t d ∧ d ∉ L) {fq fd : Foot} (hfq1 : ∀ b, fq b ≤ 1) (hfd1 : ∀ b, fd b ≤ 1) (hdis : ∀ b, fq b ≠ 0 → fd b = 0)
    (hsq : ∀ b, fq b ≠ 0 → φ q.res b ≠ 0 ∨ ∃ n ∈ L, φ (.t n) b ≠ 0) (hsd : ∀ b, fd b ≠ 0 → φ q.res b ≠ 0 ∨ ∃ n ∈ L, φ (.t n) b ≠ 0) (hkeep : ∀ n, q = .b n → fq (β n) ≠ 0)
    (hheap : ∀ b, b < w.heap.size → φ q.res b = 0 → (∀ n ∈ L, φ (.t n) b = 0) → w'.heap[b]? = w.heap[b]?) (os : w'.os = w.os) (tape : w'.tape = w.tape) (output : w'.output = w.output) (size : w.heap.size ≤ w'.heap.size)
    (htm : ∀ n, ¬ D.at n → tm' n = tm n)
    (hrq : RootIs w' (XS E w' (upF φ (placeN q fq D fd L))) (XB w' (upF φ (placeN q fq D fd L)) []) tm' β cs' fq q)
    (hrd : ∀ d a ds, D = some (d, a, ds) → RepPl w' (XS E w' (upF φ (placeN q fq D fd L))) (XB w' (upF φ (placeN q fq D fd L)) []) a ds (tm' d) fd) :
    RelW E (appl v (putC v q cs' ++ (D.ws v ++ dropL v L))) tm' w' β (upF φ (placeN q fq D fd L)) := by
  have hone : ∀ n, q = .t n → ∃ c, cs' = [c] := by
    intro n e
    subst e
    simp only [content] at hc
    split at hc <;> simp only [Option.some.injEq, reduceCtorEq] at hc
    subst hc
    match cs', hl with
    | [c], _ => exact ⟨c, rfl⟩
  have hqn : isNope (v q.res) = false := by
    cases q with
    | b n => simp only [content] at hc; split at hc <;> simp_all [Rt.res, isNope]
    | t n => simp only [content] at hc; split at hc <;> simp_all [Rt.res, isNope]
  obtain ⟨c1, c2, c3⟩ := appl_putC v hone
  have dT : ∀ v0 n, appl v0 (D.ws v) (.t n) = (match D with | some (d, a, ds) => if n = d then .t [] (.pl a ds) else v0 (.t n) | none => v0 (.t n)) := by
    intro v0 n; cases D with
    | none => rfl
    | some x => obtain ⟨d, a, ds⟩ := x; exact (appl_putT v v0 d [] _).1 n
  have dB : ∀ v0 n, appl v0 (D.ws v) (.b n) = v0 (.b n) := by
    intro v0 n; cases D with
    | none => rfl
    | some x => obtain ⟨d, a, ds⟩ := x; exact (appl_putT v v0 d [] _).2.1 n
  have dV : ∀ v0 r, (∀ d, D.at d → r ≠ .t d) → appl v0 (D.ws v) (.v r) = v0 (.v r) := by
    intro v0 r hr; cases D with
    | none => rfl
    | some x =>
      obtain ⟨d, a, ds⟩ := x
      refine ((appl_putT v v0 d [] _).2.2 r).trans ?_
      rw [if_neg (fun e => hr d ⟨a, ds, rfl⟩ e.1)]
  have dV1 : ∀ v0 d, D.at d → appl v0 (D.ws v) (.v (.t d)) = if isNope (v (.t d)) = false then .v (ver v (.t d) + 1) else v0 (.v (.t d)) := by
    rintro v0 d ⟨a, ds, rfl⟩
    refine ((appl_putT v v0 d [] _).2.2 _).trans ?_
    simp
  obtain ⟨l1, l2, l3⟩ := appl_dropL v L (appl (appl v (putC v q cs')) (D.ws v))
  have eqv : appl v (putC v q cs' ++ (D.ws v ++ dropL v L)) = appl (appl (appl v (putC v q cs')) (D.ws v)) (dropL v L) := by rw [appl_append, appl_append]
  rw [← eqv] at l1 l2 l3
  clear eqv
  generalize appl v (putC v q cs' ++ (D.ws v ++ dropL v L)) = v' at l1 l2 l3
  have verV : ∀ (x : Res → Val) r k, x (.v r) = .v k → ver x r = k := fun x r k hk => by unfold ver; rw [hk]
  -- versions
  have vL : ∀ n ∈ L, ver v' (.t n) = ver v (.t n) + 1 := fun n hn => verV _ _ _ (by rw [l3, if_pos ⟨n, hn, rfl⟩])
  have vD : ∀ d, D.at d → isNope (v (.t d)) = false → ver v' (.t d) = ver v (.t d) + 1 := fun d hd hf => verV _ _ _ (by
    rw [l3, if_neg (by rintro ⟨n, hn, e⟩; simp at e; subst e; exact (hqD d hd).2 hn), dV1 _ d hd, if_pos hf])
  have vQ : ver v' q = ver v q + 1 := verV _ _ _ (by
    rw [l3, if_neg (by rintro ⟨n, hn, e⟩; exact hqL n hn e), dV _ q (fun d hd => (hqD d hd).1), c3, if_pos rfl])
  have vO : ∀ r, r ≠ q → (∀ n ∈ L, r ≠ .t n) → (∀ d, D.at d → r ≠ .t d) → ver v' r = ver v r := fun r h1 h2 h3 => by
    unfold ver
    rw [l3, if_neg (by rintro ⟨n, hn, e⟩; exact h2 n hn e), dV _ r h3, c3, if_neg h1]
  have vD0 : ∀ d, D.at d → ver v (.t d) ≤ ver v' (.t d) := fun d hd => by
    by_cases hf : isNope (v (.t d)) = false
    · rw [vD d hd hf]; omega
    · have : v' (.v (.t d)) = v (.v (.t d)) := by
        rw [l3, if_neg (by rintro ⟨n, hn, e⟩; simp at e; subst e; exact (hqD d hd).2 hn), dV1 _ d hd, if_neg hf, c3, if_neg (fun e => (hqD d hd).1 e.symm)]
      unfold ver
      rw [this]
      exact Nat.le_refl _
  have vers : ∀ r, ver v r ≤ ver v' r := fun r => by
    by_cases h1 : r = q
    · subst h1; rw [vQ]; omega
    · by_cases h2 : ∃ n ∈ L, r = .t n
      · obtain ⟨n, hn, rfl⟩ := h2; rw [vL n hn]; omega
      · by_cases h3 : ∃ d, D.at d ∧ r = .t d
        · obtain ⟨d, hd, rfl⟩ := h3; exact vD0 d hd
        · rw [vO r h1 (fun n hn e => h2 ⟨n, hn, e⟩) (fun d hd e => h3 ⟨d, hd, e⟩)]; exact Nat.le_refl _
  -- contents
  have tL : ∀ n ∈ L, v' (.t n) = .nope := fun n hn => by rw [l1, if_pos hn]
  have tD : ∀ d a ds, D = some (d, a, ds) → v' (.t d) = .t [] (.pl a ds) := fun d a ds e => by
    have := hqD d ⟨a, ds, e⟩
    rw [l1, if_neg this.2, dT]
    subst e
    simp
  have notD : ∀ n, ¬ D.at n → ∀ v0, appl v0 (D.ws v) (.t n) = v0 (.t n) := fun n hn v0 => DP.ws_not v v0 hn
  have tQ : ∀ n, q = .t n → v' (.t n) = .t [] (.pl false cs') := fun n e => by
    rw [l1, if_neg (fun hn => hqL n hn e), notD n (fun hd => (hqD n hd).1 e), c1, if_pos e]
  have bQ : ∀ n, q = .b n → v' (.b n) = .b cs' := fun n e => by rw [l2, dB, c2, if_pos e]
  have stp : Stp E v v' tm tm' w w' β β φ (upF φ (placeN q fq D fd L)) (· ∈ (placeN q fq D fd L).map (·.1)) := by
    refine Stp.of h hC _ ?_ ?_ ?_ ?_ vers ?_ ?_ (fun _ _ => rfl) ?_ ?_ os tape output size
    · intro x hx b
      rcases placeN_mem hx with rfl | ⟨d, _, rfl⟩ | ⟨n, _, rfl⟩
      · exact hfq1 b
      · exact hfd1 b
      · exact Nat.zero_le _
    · intro x hx y hy hne b hb
      rcases placeN_mem hx with rfl | ⟨d, hd, rfl⟩ | ⟨n, _, rfl⟩ <;> rcases placeN_mem hy with rfl | ⟨d', hd', rfl⟩ | ⟨n', _, rfl⟩ <;> try rfl
      · exact absurd rfl hne
      · exact hdis b hb
      · exact Classical.byContradiction fun e => by have := hdis b e; exact hb this
      · obtain ⟨a1, c1, e1⟩ := hd
        obtain ⟨a2, c2, e2⟩ := hd'
        rw [e1] at e2
        simp at e2
        exact absurd (by rw [e2.1]) hne
      · exact absurd rfl hb
      · exact absurd rfl hb
    · intro x hx b hb
      left
      have conv : (φ q.res b ≠ 0 ∨ ∃ n ∈ L, φ (.t n) b ≠ 0) → ∃ r ∈ (placeN q fq D fd L).map (·.1), φ r b ≠ 0 := by
        rintro (h1 | ⟨n, hn, h1⟩)
        · exact ⟨q.res, (placeN_fst _ _ _ _ _ _).2 (.inl rfl), h1⟩
        · exact ⟨.t n, (placeN_fst _ _ _ _ _ _).2 (.inr (.inr ⟨n, hn, rfl⟩)), h1⟩
      rcases placeN_mem hx with rfl | ⟨d, _, rfl⟩ | ⟨n, _, rfl⟩
      · exact conv (hsq b hb)
      · exact conv (hsd b hb)
      · exact absurd rfl hb
    · intro r hv hr
      rw [placeN_fst] at hr
      cases r with
      | t n =>
        rw [l1, if_neg (fun hn => hr (.inr (.inr ⟨n, hn, rfl⟩))), notD n (fun hd => hr (.inr (.inl ⟨n, hd, rfl⟩))), c1, if_neg (fun e => hr (.inl (by rw [e]; rfl)))]
      | b n => rw [l2, dB, c2, if_neg (fun e => hr (.inl (by rw [e]; rfl)))]
      | v r => exact absurd rfl (hv r)
    · intro r hr hf
      rw [placeN_fst] at hr
      have inj : ∀ r s : Rt, r.res = s.res → r = s := by intro r s; cases r <;> cases s <;> simp [Rt.res]
      rcases hr with e | ⟨d, hd, e⟩ | ⟨n, hn, e⟩
      · rw [inj r q e, vQ]; omega
      · have : r = .t d := inj r (.t d) e
        subst this
        rw [vD d hd hf]; omega
      · have : r = .t n := inj r (.t n) e
        subst this
        rw [vL n hn]; omega
    · intro n hn
      rw [placeN_fst] at hn
      exact htm n (fun hd => hn (.inr (.inl ⟨n, hd, rfl⟩)))
    · intro n hn hf
      rw [placeN_fst] at hn
      have hqb : q = .b n := by
        rcases hn with e | ⟨d, _, e⟩ | ⟨m, _, e⟩
        · cases q with
          | b m => simp [Rt.res] at e; rw [e]
          | t m => simp [Rt.res] at e
        · simp at e
        · simp at e
      refine ⟨rfl, ?_, by rw [bQ n hqb]; rfl⟩
      have : upF φ (placeN q fq D fd L) (.b n) = fq := by subst hqb; simp [placeN, upF, Rt.res]
      rw [this]
      exact hkeep n hqb
    · intro b hb hf
      refine hheap b hb (hf _ ((placeN_fst _ _ _ _ _ _).2 (.inl rfl))) fun n hn => hf _ ((placeN_fst _ _ _ _ _ _).2 (.inr (.inr ⟨n, hn, rfl⟩)))
  have fQ : upF φ (placeN q fq D fd L) q.res = fq := by simp [placeN, upF]
  have cases3 : ∀ n, Res.t n ∈ (placeN q fq D fd L).map (·.1) → v' (.t n) = .nope ∨ ∃ tv, v' (.t n) = .t [] tv ∧ RepTV E w' tm' β (upF φ (placeN q fq D fd L)) v' [] (tm' n) (upF φ (placeN q fq D fd L) (.t n)) tv := by
    intro n hn
    rw [placeN_fst] at hn
    rcases hn with e | ⟨d, hd, e⟩ | ⟨m, hm, e⟩
    · cases q with
      | b m => simp [Rt.res] at e
      | t m =>
        simp [Rt.res] at e
        subst e
        obtain ⟨c, e1, e2⟩ := hrq
        refine .inr ⟨_, tQ n rfl, [tm' n], ?_, by simp⟩
        have : upF φ (placeN (.t n) fq D fd L) (.t n) = fq := fQ
        rw [this, e1]
        exact e2
    · simp at e
      subst e
      have hd0 := hd
      obtain ⟨a, ds, e⟩ := hd
      refine .inr ⟨_, tD n a ds e, ?_⟩
      have : upF φ (placeN q fq D fd L) (.t n) = fd := by
        have := (hqD n hd0).1
        subst e
        cases q with
        | b m => simp [placeN, upF, Rt.res]
        | t m =>
          have hne : n ≠ m := fun e => this (by rw [e])
          simp [placeN, upF, Rt.res, hne]
      rw [this]
      exact hrd n a ds e
    · simp at e
      subst e
      exact .inl (tL n hm)
  refine h.step stp ?_ ?_ ?_ ?_
  · intro n st tv hn hv p hp
    rcases cases3 n hn with e | ⟨tv', e, _⟩
    · rw [e] at hv; simp at hv
    · rw [e] at hv; simp at hv; obtain ⟨rfl, _⟩ := hv; simp at hp
  · intro n st tv hn hv _ p hp
    rcases cases3 n hn with e | ⟨tv', e, _⟩
    · rw [e] at hv; simp at hv
    · rw [e] at hv; simp at hv; obtain ⟨rfl, _⟩ := hv; simp at hp
  · intro n st tv hn hv _
    rcases cases3 n hn with e | ⟨tv', e, e2⟩
    · rw [e] at hv; simp at hv
    · rw [e] at hv; simp at hv; obtain ⟨rfl, rfl⟩ := hv; exact e2
  · intro n ds hn hv
    rw [placeN_fst] at hn
    rcases hn with e | ⟨d, _, e⟩ | ⟨m, _, e⟩
    · cases q with
      | t m => simp [Rt.res] at e
      | b m =>
        simp [Rt.res] at e
        subst e
        rw [bQ n rfl] at hv
        simp at hv
        subst hv
        have : upF φ (placeN (.b n) fq D fd L) (.b n) = fq := fQ
        rw [this]
        exact hrq
    · simp at e
    · simp at e
end
end Go.Fw
