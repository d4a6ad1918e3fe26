/- The framework, part E: writes of resources, and the step that puts a value into a slot. Conditions: none. -/
import Derived.Test.YtmbkipogmaimaaaGreatDoorFwD
namespace Go.Fw
open Go

theorem val_put (σ : ASt) (r : Res) (e : Val) : (σ.put (r, e)).val = fun x => if x = r then nrm r e else σ.val x := by
  funext x
  cases r with
  | t n =>
    cases x with
    | t m => by_cases h : m = n <;> simp [ASt.put, ASt.val, look, nrm, h, eq_comm]
    | b m => simp [ASt.put, ASt.val]
    | v m => simp [ASt.put, ASt.val]
  | b n =>
    cases x with
    | t m => simp [ASt.put, ASt.val]
    | b m => by_cases h : m = n <;> simp [ASt.put, ASt.val, look, nrm, h, eq_comm]
    | v m => simp [ASt.put, ASt.val]
  | v q =>
    cases x with
    | t m => cases e <;> simp [ASt.put, ASt.val]
    | b m => cases e <;> simp [ASt.put, ASt.val]
    | v m => by_cases h : q = m <;> cases e <;> simp [ASt.put, ASt.val, lookv, nrm, h, eq_comm] <;> exact fun e => absurd e h

theorem val_puts (ws : List (Res × Val)) : ∀ σ : ASt, (σ.puts ws).val = appl σ.val ws := by
  induction ws with
  | nil => intro σ; rfl
  | cons x ws ih => intro σ; obtain ⟨r, e⟩ := x; rw [ASt.puts, ih, val_put]; rfl

theorem appl_append (v : Res → Val) (a b : List (Res × Val)) : appl v (a ++ b) = appl (appl v a) b := by
  induction a generalizing v with
  | nil => rfl
  | cons x a ih => obtain ⟨r, e⟩ := x; exact ih _

theorem appl_not {ws : List (Res × Val)} {r : Res} : ∀ {v : Res → Val}, (∀ x ∈ ws, x.1 ≠ r) → appl v ws r = v r := by
  induction ws with
  | nil => intros; rfl
  | cons x ws ih =>
    intro v h
    obtain ⟨s, e⟩ := x
    rw [appl, ih (fun y hy => h y (by simp [hy])), if_neg (fun e' => h (s, e) (by simp) e'.symm)]

/-- Footprints, some of them new. -/
def upF (φ : Res → Foot) : List (Res × Foot) → Res → Foot
  | [], r => φ r
  | (s, f) :: N, r => if r = s then f else upF φ N r

theorem upF_not {φ : Res → Foot} {N : List (Res × Foot)} {r : Res} (h : r ∉ N.map (·.1)) : upF φ N r = φ r := by
  induction N with
  | nil => rfl
  | cons x N ih => obtain ⟨s, f⟩ := x; simp at h; rw [upF, if_neg h.1, ih (by simpa using h.2)]
theorem upF_mem {φ : Res → Foot} {N : List (Res × Foot)} {r : Res} (h : r ∈ N.map (·.1)) : ∃ f, (r, f) ∈ N ∧ upF φ N r = f := by
  induction N with
  | nil => simp at h
  | cons x N ih =>
    obtain ⟨s, f⟩ := x
    by_cases e : r = s
    · subst e; exact ⟨f, by simp, by simp [upF]⟩
    · simp only [List.map_cons, List.mem_cons, e, false_or] at h
      obtain ⟨g, h1, h2⟩ := ih h
      exact ⟨g, by simp [h1], by rw [upF, if_neg e, h2]⟩

section
variable {E : Env} {v v' : Res → Val} {tm tm' : Nat → Value} {w w' : World} {β β' : Nat → Nat} {φ : Res → Foot}

/-- A step out of its parts. -/
theorem Stp.of (h : RelW E v tm w β φ) (hC : ∀ b, E.C b → b < E.w0.heap.size) (N : List (Res × Foot))
    (hn1 : ∀ x ∈ N, ∀ b, x.2 b ≤ 1) (hdis : ∀ x ∈ N, ∀ y ∈ N, x.1 ≠ y.1 → ∀ b, x.2 b ≠ 0 → y.2 b = 0)
    (hsrc : ∀ x ∈ N, ∀ b, x.2 b ≠ 0 → (∃ r ∈ N.map (·.1), φ r b ≠ 0) ∨ (w.heap.size ≤ b ∧ b < w'.heap.size))
    (same : ∀ r, (∀ q, r ≠ .v q) → r ∉ N.map (·.1) → v' r = v r)
    (vers : ∀ q, ver v q ≤ ver v' q) (bump : ∀ q, Rt.res q ∈ N.map (·.1) → isNope (v q.res) = false → ver v q < ver v' q)
    (btm : ∀ n, .t n ∉ N.map (·.1) → tm' n = tm n) (bβ : ∀ n, .b n ∉ N.map (·.1) → β' n = β n)
    (bkeep : ∀ n, .b n ∈ N.map (·.1) → isNope (v (.b n)) = false → β' n = β n ∧ upF φ N (.b n) (β n) ≠ 0 ∧ isNope (v' (.b n)) = false)
    (hheap : ∀ b, b < w.heap.size → (∀ r ∈ N.map (·.1), φ r b = 0) → w'.heap[b]? = w.heap[b]?)
    (os : w'.os = w.os) (tape : w'.tape = w.tape) (output : w'.output = w.output) (size : w.heap.size ≤ w'.heap.size) :
    Stp E v v' tm tm' w w' β β' φ (upF φ N) (· ∈ N.map (·.1)) := by
  have hz := h.size
  have dom : ∀ r b, upF φ N r b ≠ 0 → b < w'.heap.size ∧ ¬ E.C b ∧ (E.w0.heap.size ≤ b ∨ E.M b) := by
    intro r b hb
    by_cases hr : r ∈ N.map (·.1)
    · obtain ⟨f, h1, h2⟩ := upF_mem (φ := φ) hr
      rw [h2] at hb
      rcases hsrc _ h1 b hb with ⟨s, _, h4⟩ | h3
      · have := h.dom s b h4; exact ⟨by omega, this.2⟩
      · exact ⟨h3.2, fun hc => by have := hC b hc; omega, .inl (by omega)⟩
    · rw [upF_not hr] at hb; have := h.dom r b hb; exact ⟨by omega, this.2⟩
  have uq : ∀ r s b, r ∈ N.map (·.1) → s ∉ N.map (·.1) → upF φ N r b ≠ 0 → upF φ N s b ≠ 0 → False := by
    intro r s b hr hs h1 h2
    obtain ⟨f, h3, h4⟩ := upF_mem (φ := φ) hr
    rw [h4] at h1
    rw [upF_not hs] at h2
    rcases hsrc _ h3 b h1 with ⟨q, hq, h6⟩ | h5
    · have := h.uniq q s b h6 h2; subst this; exact hs hq
    · have := (h.dom s b h2).1; omega
  refine ⟨?_, ?_, dom, fun r hq hw => ⟨same r hq hw, upF_not hw⟩, vers, bump, btm, bβ, bkeep, ?_, ?_, os, tape, output, size, ?_⟩
  · intro r b
    by_cases hr : r ∈ N.map (·.1)
    · obtain ⟨f, h1, h2⟩ := upF_mem (φ := φ) hr
      rw [h2]; exact hn1 _ h1 b
    · rw [upF_not hr]; exact h.le1 r b
  · intro r s b h1 h2
    by_cases hr : r ∈ N.map (·.1) <;> by_cases hs : s ∈ N.map (·.1)
    · obtain ⟨f, h3, h4⟩ := upF_mem (φ := φ) hr
      obtain ⟨g, h5, h6⟩ := upF_mem (φ := φ) hs
      rw [h4] at h1
      rw [h6] at h2
      exact Classical.byContradiction fun e => h2 (hdis _ h3 _ h5 e b h1)
    · exact (uq r s b hr hs h1 h2).elim
    · exact (uq s r b hs hr h2 h1).elim
    · rw [upF_not hr] at h1; rw [upF_not hs] at h2; exact h.uniq r s b h1 h2
  · intro b hb hf r
    by_cases hr : r ∈ N.map (·.1)
    · obtain ⟨f, h1, h2⟩ := upF_mem (φ := φ) hr
      rw [h2]
      refine Classical.byContradiction fun e => ?_
      rcases hsrc _ h1 b e with ⟨s, _, h4⟩ | h3
      · exact h4 (hf s)
      · omega
    · rw [upF_not hr]; exact hf r
  · intro b hb hf
    refine hheap b hb fun r hr => ?_
    rcases hf with hf | ⟨s, hs, h1⟩
    · exact hf r
    · refine Classical.byContradiction fun e => ?_
      have := h.uniq r s b e h1; subst this; exact hs hr
  · intro b hb hm
    refine hheap b hb fun r _ => ?_
    refine Classical.byContradiction fun e => ?_
    exact hm (h.dom r b e).2.2

/-- What a write of one slot, with some slots used up, does to the valuation. -/
structure PutD (v v' : Res → Val) (d : Nat) (st : Stamps) (tv : TV) (L : List Nat) : Prop where
  here : v' (.t d) = .t st tv
  gone : ∀ n ∈ L, v' (.t n) = .nope
  same : ∀ r, (∀ q, r ≠ .v q) → r ≠ .t d → (∀ n ∈ L, r ≠ .t n) → v' r = v r
  vers : ∀ q, ver v q ≤ ver v' q
  bump1 : isNope (v (.t d)) = false → ver v (.t d) < ver v' (.t d)
  bump2 : ∀ n ∈ L, ver v (.t n) < ver v' (.t n)

theorem appl_dropL (v : Res → Val) : ∀ (L : List Nat) (v0 : Res → Val),
    (∀ n, appl v0 (dropL v L) (.t n) = if n ∈ L then .nope else v0 (.t n)) ∧ (∀ n, appl v0 (dropL v L) (.b n) = v0 (.b n)) ∧
      (∀ q, appl v0 (dropL v L) (.v q) = if ∃ n ∈ L, q = .t n then .v (ver v q + 1) else v0 (.v q))
  | [], v0 => by simp [dropL, appl]
  | m :: L, v0 => by
    obtain ⟨h1, h2, h3⟩ := appl_dropL v L (appl v0 (dropT v m))
    rw [dropL, appl_append]
    refine ⟨fun n => ?_, fun n => ?_, fun q => ?_⟩
    · rw [h1]
      by_cases hn : n ∈ L
      · simp [hn]
      · by_cases e : n = m <;> simp [hn, e, dropT, appl, nrm]
    · rw [h2]; simp [dropT, appl]
    · rw [h3]
      by_cases hq : ∃ n ∈ L, q = .t n
      · rw [if_pos hq, if_pos (by obtain ⟨n, hn, e⟩ := hq; exact ⟨n, by simp [hn], e⟩)]
      · rw [if_neg hq]
        by_cases e : q = .t m
        · subst e; simp [dropT, appl, nrm]
        · rw [if_neg (by rintro ⟨n, hn, e'⟩; exact (List.mem_cons.1 hn).elim (fun h => e (by rw [e', h])) (fun h => hq ⟨n, h, e'⟩))]
          simp [dropT, appl, e]

theorem PutD.of (v : Res → Val) (d : Nat) (st : Stamps) (tv : TV) (L : List Nat) (hd : d ∉ L) : PutD v (appl v (putT v d st tv ++ dropL v L)) d st tv L := by
  rw [appl_append]
  obtain ⟨h1, h2, h3⟩ := appl_dropL v L (appl v (putT v d st tv))
  have p1 : ∀ n, appl v (putT v d st tv) (.t n) = if n = d then .t st tv else v (.t n) := by
    intro n; unfold putT; split <;> by_cases e : n = d <;> simp [appl, nrm, e]
  have p2 : ∀ n, appl v (putT v d st tv) (.b n) = v (.b n) := by
    intro n; unfold putT; split <;> simp [appl]
  have p3 : ∀ q, ver (appl v (putT v d st tv)) q = if q = .t d ∧ isNope (v (.t d)) = false then ver v q + 1 else ver v q := by
    intro q
    unfold putT
    split
    · rename_i hh
      simp [appl, ver, hh, isNope]
    · rename_i hh
      have hf : isNope (v (.t d)) = false := by cases hv : v (.t d) <;> simp_all [isNope]
      by_cases e : q = .t d
      · subst e; simp [appl, ver, nrm, hf]
      · simp [appl, ver, e]
  have p4 : ∀ q, ver (appl (appl v (putT v d st tv)) (dropL v L)) q = if ∃ n ∈ L, q = .t n then ver v q + 1 else ver (appl v (putT v d st tv)) q := by
    intro q
    by_cases hq : ∃ n ∈ L, q = .t n
    · rw [if_pos hq]
      have := h3 q
      rw [if_pos hq] at this
      unfold ver at this ⊢
      rw [this]
    · rw [if_neg hq]
      have := h3 q
      rw [if_neg hq] at this
      unfold ver
      rw [this]
  refine ⟨by rw [h1, if_neg hd, p1]; simp, fun n hn => by rw [h1, if_pos hn], ?_, ?_, ?_, ?_⟩
  · intro r hq hr hL
    cases r with
    | t n => rw [h1, if_neg (fun h => hL n h rfl), p1, if_neg (fun e => hr (by rw [e]))]
    | b n => rw [h2, p2]
    | v q => exact absurd rfl (hq q)
  · intro q
    rw [p4, p3]
    split
    · omega
    · split <;> omega
  · intro hf
    rw [p4, p3]
    split
    · omega
    · simp [hf]
  · intro n hn
    rw [p4, if_pos ⟨n, hn, rfl⟩]; omega

def slotN (f : Foot) (d : Nat) (L : List Nat) : List (Res × Foot) := (.t d, f) :: L.map fun n => (.t n, fun _ => 0)
theorem slotN_fst (f : Foot) (d : Nat) (L : List Nat) (r : Res) : r ∈ (slotN f d L).map (·.1) ↔ r = .t d ∨ ∃ n ∈ L, r = .t n := by
  simp [slotN]
  constructor
  · rintro (h | ⟨n, h1, h2⟩)
    · exact .inl h
    · exact .inr ⟨n, h1, h2.symm⟩
  · rintro (h | ⟨n, h1, h2⟩)
    · exact .inl h
    · exact .inr ⟨n, h1, h2.symm⟩

/-- The step that puts a value into a slot; some slots are used up, and only what they held alone may turn. -/
theorem Stp.slot (h : RelW E v tm w β φ) (hC : ∀ b, E.C b → b < E.w0.heap.size) {d : Nat} {st : Stamps} {tv : TV} {L : List Nat} (hp : PutD v v' d st tv L) (f : Foot) (hf1 : ∀ b, f b ≤ 1)
    (hsrc : ∀ b, f b ≠ 0 → (∃ n ∈ L, φ (.t n) b ≠ 0) ∨ (w.heap.size ≤ b ∧ b < w'.heap.size)) (btm : ∀ n, n ≠ d → tm' n = tm n)
    (hheap : ∀ b, b < w.heap.size → (∀ n ∈ L, φ (.t n) b = 0) → w'.heap[b]? = w.heap[b]?)
    (os : w'.os = w.os) (tape : w'.tape = w.tape) (output : w'.output = w.output) (size : w.heap.size ≤ w'.heap.size) :
    Stp E v v' tm tm' w w' β β φ (upF φ (slotN f d L)) (· ∈ (slotN f d L).map (·.1)) := by
  refine Stp.of h hC _ ?_ ?_ ?_ ?_ hp.vers ?_ ?_ (fun _ _ => rfl) ?_ ?_ os tape output size
  · intro x hx b
    simp only [slotN, List.mem_cons, List.mem_map] at hx
    rcases hx with rfl | ⟨n, _, rfl⟩
    · exact hf1 b
    · exact Nat.zero_le _
  · intro x hx y hy hne b hb
    simp only [slotN, List.mem_cons, List.mem_map] at hx hy
    rcases hx with rfl | ⟨n, _, rfl⟩
    · rcases hy with rfl | ⟨m, _, rfl⟩
      · exact absurd rfl hne
      · rfl
    · exact absurd rfl hb
  · intro x hx b hb
    simp only [slotN, List.mem_cons, List.mem_map] at hx
    rcases hx with rfl | ⟨n, _, rfl⟩
    · rcases hsrc b hb with ⟨n, h1, h2⟩ | h1
      · exact .inl ⟨.t n, (slotN_fst _ _ _ _).2 (.inr ⟨n, h1, rfl⟩), h2⟩
      · exact .inr h1
    · exact absurd rfl hb
  · intro r hq hr
    rw [slotN_fst] at hr
    exact hp.same r hq (fun e => hr (.inl e)) (fun n hn e => hr (.inr ⟨n, hn, e⟩))
  · intro q hq hf
    rw [slotN_fst] at hq
    rcases hq with e | ⟨n, hn, e⟩
    · cases q with
      | b m => simp [Rt.res] at e
      | t m => simp [Rt.res] at e; subst e; exact hp.bump1 hf
    · cases q with
      | b m => simp [Rt.res] at e
      | t m => simp [Rt.res] at e; subst e; exact hp.bump2 _ hn
  · intro n hn
    rw [slotN_fst] at hn
    exact btm n (fun e => hn (.inl (by rw [e])))
  · intro n hn
    rw [slotN_fst] at hn
    simp at hn
  · intro b hb hf
    exact hheap b hb fun n hn => hf _ ((slotN_fst _ _ _ _).2 (.inr ⟨n, hn, rfl⟩))

theorem RelW.slot (h : RelW E v tm w β φ) {d : Nat} {st : Stamps} {tv : TV} {L : List Nat} (hp : PutD v v' d st tv L) (hdL : d ∉ L) {f : Foot}
    (hs : Stp E v v' tm tm' w w' β β φ (upF φ (slotN f d L)) (· ∈ (slotN f d L).map (·.1)))
    (hst : ∀ p ∈ st, p.1 ≠ .t d ∧ ∀ n ∈ L, p.1 ≠ .t n) (hlive : Live v st) (hh : ∀ p ∈ st, isNope (v p.1.res) = false)
    (hrep : RepTV E w' tm' β (upF φ (slotN f d L)) v' st (tm' d) f tv) : RelW E v' tm' w' β (upF φ (slotN f d L)) := by
  have notW : ∀ p ∈ st, p.1.res ∉ (slotN f d L).map (·.1) := by
    intro p hp hw
    rw [slotN_fst] at hw
    obtain ⟨h1, h2⟩ := hst p hp
    rcases hw with e | ⟨n, hn, e⟩
    · cases hq : p.1 with
      | b m => rw [hq] at e; simp [Rt.res] at e
      | t m => rw [hq] at e; simp [Rt.res] at e; exact h1 (by rw [hq, e])
    · cases hq : p.1 with
      | b m => rw [hq] at e; simp [Rt.res] at e
      | t m => rw [hq] at e; simp [Rt.res] at e; exact h2 n hn (by rw [hq, e])
  refine h.step hs ?_ ?_ ?_ ?_
  · intro n st' tv' hn hv p hp'
    rw [slotN_fst] at hn
    rcases hn with e | ⟨m, hm, e⟩
    · simp at e; subst e
      rw [hp.here] at hv
      simp at hv
      obtain ⟨rfl, rfl⟩ := hv
      have := hlive p hp'
      have := hp.vers p.1
      omega
    · simp at e; subst e
      rw [hp.gone n hm] at hv
      simp at hv
  · intro n st' tv' hn hv _ p hp'
    rw [slotN_fst] at hn
    rcases hn with e | ⟨m, hm, e⟩
    · simp at e; subst e
      rw [hp.here] at hv
      simp at hv
      obtain ⟨rfl, rfl⟩ := hv
      rw [hs.same _ p.1.res_ne (notW p hp') |>.1]
      exact hh p hp'
    · simp at e; subst e
      rw [hp.gone n hm] at hv
      simp at hv
  · intro n st' tv' hn hv _
    rw [slotN_fst] at hn
    rcases hn with e | ⟨m, hm, e⟩
    · simp at e; subst e
      rw [hp.here] at hv
      simp at hv
      obtain ⟨rfl, rfl⟩ := hv
      simpa [upF, slotN] using hrep
    · simp at e; subst e
      rw [hp.gone n hm] at hv
      simp at hv
  · intro n cs hn
    rw [slotN_fst] at hn
    simp at hn

/-- Nothing in memory turns but the count of draws. -/
def Still (w w' : World) : Prop := w'.heap = w.heap ∧ w'.os = w.os ∧ w'.tape = w.tape ∧ w'.output = w.output

/-- A value that held under the state before is put into a slot. -/
theorem RelW.putV (h : RelW E v tm w β φ) (hC : ∀ b, E.C b → b < E.w0.heap.size) {d : Nat} {st : Stamps} {tv : TV} {L : List Nat} (hdL : d ∉ L) (hw : Still w w') {f : Foot} (hf1 : ∀ b, f b ≤ 1)
    (hsrc : ∀ b, f b ≠ 0 → ∃ n ∈ L, φ (.t n) b ≠ 0) {u : Value} (htm : ∀ n, tm' n = if n = d then u else tm n)
    (hst : ∀ p ∈ st, p.1 ≠ .t d ∧ ∀ n ∈ L, p.1 ≠ .t n) (hlive : Live v st) (hh : ∀ p ∈ st, isNope (v p.1.res) = false)
    (hrep : RepTV E w tm β φ v st u f tv) : ∃ φ', RelW E (appl v (putT v d st tv ++ dropL v L)) tm' w' β φ' := by
  obtain ⟨w1, w2, w3, w4⟩ := hw
  have hp := PutD.of v d st tv L hdL
  have hs := Stp.slot (w' := w') (tm' := tm') h hC hp f hf1 (fun b hb => .inl (hsrc b hb)) (fun n hn => by rw [htm, if_neg hn]) (fun b _ _ => by rw [w1]) w2 w3 w4 (by rw [w1]; exact Nat.le_refl _)
  refine ⟨_, h.slot hp hdL hs hst hlive hh ?_⟩
  rw [htm, if_pos rfl]
  refine hs.carry h ?_ (fun b _ => by rw [w1]) hrep
  intro p hp' hw
  rw [slotN_fst] at hw
  obtain ⟨h1, h2⟩ := hst p hp'
  rcases hw with e | ⟨n, hn, e⟩
  · cases hq : p.1 with
    | b m => rw [hq] at e; simp [Rt.res] at e
    | t m => rw [hq] at e; simp [Rt.res] at e; exact h1 (by rw [hq, e])
  · cases hq : p.1 with
    | b m => rw [hq] at e; simp [Rt.res] at e
    | t m => rw [hq] at e; simp [Rt.res] at e; exact h2 n hn (by rw [hq, e])
end
end Go.Fw
