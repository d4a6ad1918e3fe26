/- The framework, part E: writes of resources, and the step that puts a value into a slot. The framework, part F: operands, and the operations that only compute. Conditions: none. -/
import Derived.Test.YtjldolmokfnkoaaGreatDoorFwC
import Derived.Laws.Entries
import Derived.Laws.Cells
namespace Go.Fw
open Go

theorem val_put (σ : ASt) (r : Res) (e : Val) : (σ.put (r, e)).val = fun x => if x = r then nrm r e else σ.val x := by
  funext x
  cases r with
  | t n =>
    cases x with
    | t m => by_cases h : m = n <;> simp [ASt.put, ASt.val, look, nrm, h, eq_comm]
    | b m => simp [ASt.put, ASt.val]
    | v m => simp [ASt.put, ASt.val]
  | b n =>
    cases x with
    | t m => simp [ASt.put, ASt.val]
    | b m => by_cases h : m = n <;> simp [ASt.put, ASt.val, look, nrm, h, eq_comm]
    | v m => simp [ASt.put, ASt.val]
  | v q =>
    cases x with
    | t m => cases e <;> simp [ASt.put, ASt.val]
    | b m => cases e <;> simp [ASt.put, ASt.val]
    | v m => by_cases h : q = m <;> cases e <;> simp [ASt.put, ASt.val, lookv, nrm, h, eq_comm] <;> exact fun e => absurd e h

theorem val_puts (ws : List (Res × Val)) : ∀ σ : ASt, (σ.puts ws).val = appl σ.val ws := by
  induction ws with
  | nil => intro σ; rfl
  | cons x ws ih => intro σ; obtain ⟨r, e⟩ := x; rw [ASt.puts, ih, val_put]; rfl

theorem appl_append (v : Res → Val) (a b : List (Res × Val)) : appl v (a ++ b) = appl (appl v a) b := by
  induction a generalizing v with
  | nil => rfl
  | cons x a ih => obtain ⟨r, e⟩ := x; exact ih _

theorem appl_not {ws : List (Res × Val)} {r : Res} : ∀ {v : Res → Val}, (∀ x ∈ ws, x.1 ≠ r) → appl v ws r = v r := by
  induction ws with
  | nil => intros; rfl
  | cons x ws ih =>
    intro v h
    obtain ⟨s, e⟩ := x
    rw [appl, ih (fun y hy => h y (by simp [hy])), if_neg (fun e' => h (s, e) (by simp) e'.symm)]

/-- Footprints, some of them new. -/
def upF (φ : Res → Foot) : List (Res × Foot) → Res → Foot
  | [], r => φ r
  | (s, f) :: N, r => if r = s then f else upF φ N r

theorem upF_not {φ : Res → Foot} {N : List (Res × Foot)} {r : Res} (h : r ∉ N.map (·.1)) : upF φ N r = φ r := by
  induction N with
  | nil => rfl
  | cons x N ih => obtain ⟨s, f⟩ := x; simp at h; rw [upF, if_neg h.1, ih (by simpa using h.2)]
theorem upF_mem {φ : Res → Foot} {N : List (Res × Foot)} {r : Res} (h : r ∈ N.map (·.1)) : ∃ f, (r, f) ∈ N ∧ upF φ N r = f := by
  induction N with
  | nil => simp at h
  | cons x N ih =>
    obtain ⟨s, f⟩ := x
    by_cases e : r = s
    · subst e; exact ⟨f, by simp, by simp [upF]⟩
    · simp only [List.map_cons, List.mem_cons, e, false_or] at h
      obtain ⟨g, h1, h2⟩ := ih h
      exact ⟨g, by simp [h1], by rw [upF, if_neg e, h2]⟩

section
variable {E : Env} {v v' : Res → Val} {tm tm' : Nat → Value} {w w' : World} {β β' : Nat → Nat} {φ : Res → Foot}

/-- A step out of its parts. -/
theorem Stp.of (h : RelW E v tm w β φ) (hC : ∀ b, E.C b → b < E.w0.heap.size) (N : List (Res × Foot))
    (hn1 : ∀ x ∈ N, ∀ b, x.2 b ≤ 1) (hdis : ∀ x ∈ N, ∀ y ∈ N, x.1 ≠ y.1 → ∀ b, x.2 b ≠ 0 → y.2 b = 0)
    (hsrc : ∀ x ∈ N, ∀ b, x.2 b ≠ 0 → (∃ r ∈ N.map (·.1), φ r b ≠ 0) ∨ (w.heap.size ≤ b ∧ b < w'.heap.size))
    (same : ∀ r, (∀ q, r ≠ .v q) → r ∉ N.map (·.1) → v' r = v r)
    (vers : ∀ q, ver v q ≤ ver v' q) (bump : ∀ q, Rt.res q ∈ N.map (·.1) → isNope (v q.res) = false → ver v q < ver v' q)
    (btm : ∀ n, .t n ∉ N.map (·.1) → tm' n = tm n) (bβ : ∀ n, .b n ∉ N.map (·.1) → β' n = β n)
    (bkeep : ∀ n, .b n ∈ N.map (·.1) → isNope (v (.b n)) = false → β' n = β n ∧ upF φ N (.b n) (β n) ≠ 0 ∧ isNope (v' (.b n)) = false)
    (hheap : ∀ b, b < w.heap.size → (∀ r ∈ N.map (·.1), φ r b = 0) → w'.heap[b]? = w.heap[b]?)
    (os : w'.os = w.os) (tape : w'.tape = w.tape) (output : w'.output = w.output) (size : w.heap.size ≤ w'.heap.size) :
    Stp E v v' tm tm' w w' β β' φ (upF φ N) (· ∈ N.map (·.1)) := by
  have hz := h.size
  have dom : ∀ r b, upF φ N r b ≠ 0 → b < w'.heap.size ∧ ¬ E.C b ∧ (E.w0.heap.size ≤ b ∨ E.M b) := by
    intro r b hb
    by_cases hr : r ∈ N.map (·.1)
    · obtain ⟨f, h1, h2⟩ := upF_mem (φ := φ) hr
      rw [h2] at hb
      rcases hsrc _ h1 b hb with ⟨s, _, h4⟩ | h3
      · have := h.dom s b h4; exact ⟨by omega, this.2⟩
      · exact ⟨h3.2, fun hc => by have := hC b hc; omega, .inl (by omega)⟩
    · rw [upF_not hr] at hb; have := h.dom r b hb; exact ⟨by omega, this.2⟩
  have uq : ∀ r s b, r ∈ N.map (·.1) → s ∉ N.map (·.1) → upF φ N r b ≠ 0 → upF φ N s b ≠ 0 → False := by
    intro r s b hr hs h1 h2
    obtain ⟨f, h3, h4⟩ := upF_mem (φ := φ) hr
    rw [h4] at h1
    rw [upF_not hs] at h2
    rcases hsrc _ h3 b h1 with ⟨q, hq, h6⟩ | h5
    · have := h.uniq q s b h6 h2; subst this; exact hs hq
    · have := (h.dom s b h2).1; omega
  refine ⟨?_, ?_, dom, fun r hq hw => ⟨same r hq hw, upF_not hw⟩, vers, bump, btm, bβ, bkeep, ?_, ?_, os, tape, output, size, ?_⟩
  · intro r b
    by_cases hr : r ∈ N.map (·.1)
    · obtain ⟨f, h1, h2⟩ := upF_mem (φ := φ) hr
      rw [h2]; exact hn1 _ h1 b
    · rw [upF_not hr]; exact h.le1 r b
  · intro r s b h1 h2
    by_cases hr : r ∈ N.map (·.1) <;> by_cases hs : s ∈ N.map (·.1)
    · obtain ⟨f, h3, h4⟩ := upF_mem (φ := φ) hr
      obtain ⟨g, h5, h6⟩ := upF_mem (φ := φ) hs
      rw [h4] at h1
      rw [h6] at h2
      exact Classical.byContradiction fun e => h2 (hdis _ h3 _ h5 e b h1)
    · exact (uq r s b hr hs h1 h2).elim
    · exact (uq s r b hs hr h2 h1).elim
    · rw [upF_not hr] at h1; rw [upF_not hs] at h2; exact h.uniq r s b h1 h2
  · intro b hb hf r
    by_cases hr : r ∈ N.map (·.1)
    · obtain ⟨f, h1, h2⟩ := upF_mem (φ := φ) hr
      rw [h2]
      refine Classical.byContradiction fun e => ?_
      rcases hsrc _ h1 b e with ⟨s, _, h4⟩ | h3
      · exact h4 (hf s)
      · omega
    · rw [upF_not hr]; exact hf r
  · intro b hb hf
    refine hheap b hb fun r hr => ?_
    rcases hf with hf | ⟨s, hs, h1⟩
    · exact hf r
    · refine Classical.byContradiction fun e => ?_
      have := h.uniq r s b e h1; subst this; exact hs hr
  · intro b hb hm
    refine hheap b hb fun r _ => ?_
    refine Classical.byContradiction fun e => ?_
    exact hm (h.dom r b e).2.2

/-- What a write of one slot, with some slots used up, does to the valuation. -/
structure PutD (v v' : Res → Val) (d : Nat) (st : Stamps) (tv : TV) (L : List Nat) : Prop where
  here : v' (.t d) = .t st tv
  gone : ∀ n ∈ L, v' (.t n) = .nope
  same : ∀ r, (∀ q, r ≠ .v q) → r ≠ .t d → (∀ n ∈ L, r ≠ .t n) → v' r = v r
  vers : ∀ q, ver v q ≤ ver v' q
  bump1 : isNope (v (.t d)) = false → ver v (.t d) < ver v' (.t d)
  bump2 : ∀ n ∈ L, ver v (.t n) < ver v' (.t n)

theorem appl_dropL (v : Res → Val) : ∀ (L : List Nat) (v0 : Res → Val),
    (∀ n, appl v0 (dropL v L) (.t n) = if n ∈ L then .nope else v0 (.t n)) ∧ (∀ n, appl v0 (dropL v L) (.b n) = v0 (.b n)) ∧
      (∀ q, appl v0 (dropL v L) (.v q) = if ∃ n ∈ L, q = .t n then .v (ver v q + 1) else v0 (.v q))
  | [], v0 => by simp [dropL, appl]
  | m :: L, v0 => by
    obtain ⟨h1, h2, h3⟩ := appl_dropL v L (appl v0 (dropT v m))
    rw [dropL, appl_append]
    refine ⟨fun n => ?_, fun n => ?_, fun q => ?_⟩
    · rw [h1]
      by_cases hn : n ∈ L
      · simp [hn]
      · by_cases e : n = m <;> simp [hn, e, dropT, appl, nrm]
    · rw [h2]; simp [dropT, appl]
    · rw [h3]
      by_cases hq : ∃ n ∈ L, q = .t n
      · rw [if_pos hq, if_pos (by obtain ⟨n, hn, e⟩ := hq; exact ⟨n, by simp [hn], e⟩)]
      · rw [if_neg hq]
        by_cases e : q = .t m
        · subst e; simp [dropT, appl, nrm]
        · rw [if_neg (by rintro ⟨n, hn, e'⟩; exact (List.mem_cons.1 hn).elim (fun h => e (by rw [e', h])) (fun h => hq ⟨n, h, e'⟩))]
          simp [dropT, appl, e]

theorem PutD.of (v : Res → Val) (d : Nat) (st : Stamps) (tv : TV) (L : List Nat) (hd : d ∉ L) : PutD v (appl v (putT v d st tv ++ dropL v L)) d st tv L := by
  rw [appl_append]
  obtain ⟨h1, h2, h3⟩ := appl_dropL v L (appl v (putT v d st tv))
  have p1 : ∀ n, appl v (putT v d st tv) (.t n) = if n = d then .t st tv else v (.t n) := by
    intro n; unfold putT; split <;> by_cases e : n = d <;> simp [appl, nrm, e]
  have p2 : ∀ n, appl v (putT v d st tv) (.b n) = v (.b n) := by
    intro n; unfold putT; split <;> simp [appl]
  have p3 : ∀ q, ver (appl v (putT v d st tv)) q = if q = .t d ∧ isNope (v (.t d)) = false then ver v q + 1 else ver v q := by
    intro q
    unfold putT
    split
    · rename_i hh
      simp [appl, ver, hh, isNope]
    · rename_i hh
      have hf : isNope (v (.t d)) = false := by cases hv : v (.t d) <;> simp_all [isNope]
      by_cases e : q = .t d
      · subst e; simp [appl, ver, nrm, hf]
      · simp [appl, ver, e]
  have p4 : ∀ q, ver (appl (appl v (putT v d st tv)) (dropL v L)) q = if ∃ n ∈ L, q = .t n then ver v q + 1 else ver (appl v (putT v d st tv)) q := by
    intro q
    by_cases hq : ∃ n ∈ L, q = .t n
    · rw [if_pos hq]
      have := h3 q
      rw [if_pos hq] at this
      unfold ver at this ⊢
      rw [this]
    · rw [if_neg hq]
      have := h3 q
      rw [if_neg hq] at this
      unfold ver
      rw [this]
  refine ⟨by rw [h1, if_neg hd, p1]; simp, fun n hn => by rw [h1, if_pos hn], ?_, ?_, ?_, ?_⟩
  · intro r hq hr hL
    cases r with
    | t n => rw [h1, if_neg (fun h => hL n h rfl), p1, if_neg (fun e => hr (by rw [e]))]
    | b n => rw [h2, p2]
    | v q => exact absurd rfl (hq q)
  · intro q
    rw [p4, p3]
    split
    · omega
    · split <;> omega
  · intro hf
    rw [p4, p3]
    split
    · omega
    · simp [hf]
  · intro n hn
    rw [p4, if_pos ⟨n, hn, rfl⟩]; omega

def slotN (f : Foot) (d : Nat) (L : List Nat) : List (Res × Foot) := (.t d, f) :: L.map fun n => (.t n, fun _ => 0)
theorem slotN_fst (f : Foot) (d : Nat) (L : List Nat) (r : Res) : r ∈ (slotN f d L).map (·.1) ↔ r = .t d ∨ ∃ n ∈ L, r = .t n := by
  simp [slotN]
  constructor
  · rintro (h | ⟨n, h1, h2⟩)
    · exact .inl h
    · exact .inr ⟨n, h1, h2.symm⟩
  · rintro (h | ⟨n, h1, h2⟩)
    · exact .inl h
    · exact .inr ⟨n, h1, h2.symm⟩

/-- The step that puts a value into a slot; some slots are used up, and only what they held alone may turn. -/
theorem Stp.slot (h : RelW E v tm w β φ) (hC : ∀ b, E.C b → b < E.w0.heap.size) {d : Nat} {st : Stamps} {tv : TV} {L : List Nat} (hp : PutD v v' d st tv L) (f : Foot) (hf1 : ∀ b, f b ≤ 1)
    (hsrc : ∀ b, f b ≠ 0 → (∃ n ∈ L, φ (.t n) b ≠ 0) ∨ (w.heap.size ≤ b ∧ b < w'.heap.size)) (btm : ∀ n, n ≠ d → tm' n = tm n)
    (hheap : ∀ b, b < w.heap.size → (∀ n ∈ L, φ (.t n) b = 0) → w'.heap[b]? = w.heap[b]?)
    (os : w'.os = w.os) (tape : w'.tape = w.tape) (output : w'.output = w.output) (size : w.heap.size ≤ w'.heap.size) :
    Stp E v v' tm tm' w w' β β φ (upF φ (slotN f d L)) (· ∈ (slotN f d L).map (·.1)) := by
  refine Stp.of h hC _ ?_ ?_ ?_ ?_ hp.vers ?_ ?_ (fun _ _ => rfl) ?_ ?_ os tape output size
  · intro x hx b
    simp only [slotN, List.mem_cons, List.mem_map] at hx
    rcases hx with rfl | ⟨n, _, rfl⟩
    · exact hf1 b
    · exact Nat.zero_le _
  · intro x hx y hy hne b hb
    simp only [slotN, List.mem_cons, List.mem_map] at hx hy
    rcases hx with rfl | ⟨n, _, rfl⟩
    · rcases hy with rfl | ⟨m, _, rfl⟩
      · exact absurd rfl hne
      · rfl
    · exact absurd rfl hb
  · intro x hx b hb
    simp only [slotN, List.mem_cons, List.mem_map] at hx
    rcases hx with rfl | ⟨n, _, rfl⟩
    · rcases hsrc b hb with ⟨n, h1, h2⟩ | h1
      · exact .inl ⟨.t n, (slotN_fst _ _ _ _).2 (.inr ⟨n, h1, rfl⟩), h2⟩
      · exact .inr h1
    · exact absurd rfl hb
  · intro r hq hr
    rw [slotN_fst] at hr
    exact hp.same r hq (fun e => hr (.inl e)) (fun n hn e => hr (.inr ⟨n, hn, e⟩))
  · intro q hq hf
    rw [slotN_fst] at hq
    rcases hq with e | ⟨n, hn, e⟩
    · cases q with
      | b m => simp [Rt.res] at e
      | t m => simp [Rt.res] at e; subst e; exact hp.bump1 hf
    · cases q with
      | b m => simp [Rt.res] at e
      | t m => simp [Rt.res] at e; subst e; exact hp.bump2 _ hn
  · intro n hn
    rw [slotN_fst] at hn
    exact btm n (fun e => hn (.inl (by rw [e])))
  · intro n hn
    rw [slotN_fst] at hn
    simp at hn
  · intro b hb hf
    exact hheap b hb fun n hn => hf _ ((slotN_fst _ _ _ _).2 (.inr ⟨n, hn, rfl⟩))

theorem RelW.slot (h : RelW E v tm w β φ) {d : Nat} {st : Stamps} {tv : TV} {L : List Nat} (hp : PutD v v' d st tv L) (hdL : d ∉ L) {f : Foot}
    (hs : Stp E v v' tm tm' w w' β β φ (upF φ (slotN f d L)) (· ∈ (slotN f d L).map (·.1)))
    (hst : ∀ p ∈ st, p.1 ≠ .t d ∧ ∀ n ∈ L, p.1 ≠ .t n) (hlive : Live v st) (hh : ∀ p ∈ st, isNope (v p.1.res) = false)
    (hrep : RepTV E w' tm' β (upF φ (slotN f d L)) v' st (tm' d) f tv) : RelW E v' tm' w' β (upF φ (slotN f d L)) := by
  have notW : ∀ p ∈ st, p.1.res ∉ (slotN f d L).map (·.1) := by
    intro p hp hw
    rw [slotN_fst] at hw
    obtain ⟨h1, h2⟩ := hst p hp
    rcases hw with e | ⟨n, hn, e⟩
    · cases hq : p.1 with
      | b m => rw [hq] at e; simp [Rt.res] at e
      | t m => rw [hq] at e; simp [Rt.res] at e; exact h1 (by rw [hq, e])
    · cases hq : p.1 with
      | b m => rw [hq] at e; simp [Rt.res] at e
      | t m => rw [hq] at e; simp [Rt.res] at e; exact h2 n hn (by rw [hq, e])
  refine h.step hs ?_ ?_ ?_ ?_
  · intro n st' tv' hn hv p hp'
    rw [slotN_fst] at hn
    rcases hn with e | ⟨m, hm, e⟩
    · simp at e; subst e
      rw [hp.here] at hv
      simp at hv
      obtain ⟨rfl, rfl⟩ := hv
      have := hlive p hp'
      have := hp.vers p.1
      omega
    · simp at e; subst e
      rw [hp.gone n hm] at hv
      simp at hv
  · intro n st' tv' hn hv _ p hp'
    rw [slotN_fst] at hn
    rcases hn with e | ⟨m, hm, e⟩
    · simp at e; subst e
      rw [hp.here] at hv
      simp at hv
      obtain ⟨rfl, rfl⟩ := hv
      rw [hs.same _ p.1.res_ne (notW p hp') |>.1]
      exact hh p hp'
    · simp at e; subst e
      rw [hp.gone n hm] at hv
      simp at hv
  · intro n st' tv' hn hv _
    rw [slotN_fst] at hn
    rcases hn with e | ⟨m, hm, e⟩
    · simp at e; subst e
      rw [hp.here] at hv
      simp at hv
      obtain ⟨rfl, rfl⟩ := hv
      simpa [upF, slotN] using hrep
    · simp at e; subst e
      rw [hp.gone n hm] at hv
      simp at hv
  · intro n cs hn
    rw [slotN_fst] at hn
    simp at hn

/-- Nothing in memory turns but the count of draws. -/
def Still (w w' : World) : Prop := w'.heap = w.heap ∧ w'.os = w.os ∧ w'.tape = w.tape ∧ w'.output = w.output

/-- A value that held under the state before is put into a slot. -/
theorem RelW.putV (h : RelW E v tm w β φ) (hC : ∀ b, E.C b → b < E.w0.heap.size) {d : Nat} {st : Stamps} {tv : TV} {L : List Nat} (hdL : d ∉ L) (hw : Still w w') {f : Foot} (hf1 : ∀ b, f b ≤ 1)
    (hsrc : ∀ b, f b ≠ 0 → ∃ n ∈ L, φ (.t n) b ≠ 0) {u : Value} (htm : ∀ n, tm' n = if n = d then u else tm n)
    (hst : ∀ p ∈ st, p.1 ≠ .t d ∧ ∀ n ∈ L, p.1 ≠ .t n) (hlive : Live v st) (hh : ∀ p ∈ st, isNope (v p.1.res) = false)
    (hrep : RepTV E w tm β φ v st u f tv) : ∃ φ', RelW E (appl v (putT v d st tv ++ dropL v L)) tm' w' β φ' := by
  obtain ⟨w1, w2, w3, w4⟩ := hw
  have hp := PutD.of v d st tv L hdL
  have hs := Stp.slot (w' := w') (tm' := tm') h hC hp f hf1 (fun b hb => .inl (hsrc b hb)) (fun n hn => by rw [htm, if_neg hn]) (fun b _ _ => by rw [w1]) w2 w3 w4 (by rw [w1]; exact Nat.le_refl _)
  refine ⟨_, h.slot hp hdL hs hst hlive hh ?_⟩
  rw [htm, if_pos rfl]
  refine hs.carry h ?_ (fun b _ => by rw [w1]) hrep
  intro p hp' hw
  rw [slotN_fst] at hw
  obtain ⟨h1, h2⟩ := hst p hp'
  rcases hw with e | ⟨n, hn, e⟩
  · cases hq : p.1 with
    | b m => rw [hq] at e; simp [Rt.res] at e
    | t m => rw [hq] at e; simp [Rt.res] at e; exact h1 (by rw [hq, e])
  · cases hq : p.1 with
    | b m => rw [hq] at e; simp [Rt.res] at e
    | t m => rw [hq] at e; simp [Rt.res] at e; exact h2 n hn (by rw [hq, e])
end
end Go.Fw
namespace Go.Fw
open Go

def constOk : AC → Value → Bool
  | .int k n, .int k' n' => k == k' && n == n'
  | .bool b, .bool b' => b == b'
  | .str s, .string t => s == t.data.toList
  | .sl _ _ [], .slice none 0 0 => true
  | .nilp, .pointer none => true
  | .err true, .nilIface => true
  | _, _ => false
theorem constOk_scal {c : AC} {u : Value} (h : constOk c u = true) : Scal c u := by
  unfold constOk at h
  split at h <;> simp_all [Scal, Emp.nil]

def oprOk : Opr → Operand → Bool
  | .t n _, .tmp m => n == m
  | .m n, .tmp m => n == m
  | .p n _ _, .tmp m => n == m
  | .c c, .const u => constOk c u
  | _, _ => false
def oprR : Opr → List Rt
  | .t _ rs => rs
  | _ => []
/-- The slot that is written is none of those that an operand uses up or hangs on. -/
def sep (d : Nat) (x : Opr) : Bool := !(oprL x).contains d && !(oprR x).contains (.t d)

def tmv (a : Act) (n : Nat) : Value := a.tmps.getD n undef

theorem stOk_spec {v : Res → Val} {rs : List Rt} : ∀ {st : Stamps}, stOk v rs st = true → Live v st ∧ ∀ p ∈ st, p.1 ∈ rs
  | [], _ => ⟨by intro p hp; simp at hp, by simp⟩
  | (r, k) :: st, h => by
    simp only [stOk, Bool.and_eq_true] at h
    obtain ⟨⟨h1, h2⟩, h3⟩ := h
    obtain ⟨k1, k2⟩ := stOk_spec h3
    refine ⟨fun p hp => ?_, fun p hp => ?_⟩
    · rcases List.mem_cons.1 hp with rfl | hp
      · unfold ver
        dsimp only
        split at h2 <;> simp_all
      · exact k1 p hp
    · rcases List.mem_cons.1 hp with rfl | hp
      · simpa using h1
      · exact k2 p hp

section
variable {E : Env} {v : Res → Val} {tm : Nat → Value} {w : World} {β : Nat → Nat} {φ : Res → Foot}

theorem RepTup.foot0 {Xs X : Nat → Prop} {vs : List (Bool × List AC)} {us : List Value} {f : Foot} (h : RepTup w Xs X vs us f) : (vs.all fun x => noOwnL x.2) = true → ∀ x, f x = 0 := by
  induction h with
  | nil => intros; rfl
  | cons h t ih =>
    intro hn x
    simp only [List.all_cons, Bool.and_eq_true] at hn
    obtain ⟨vals, h1, _⟩ := h
    have := h1.foot0 hn.1 x
    have := ih hn.2 x
    dsimp only
    omega

theorem RepTup.cast {Xs X : Nat → Prop} {vs : List (Bool × List AC)} {us : List Value} {f g : Foot} (h : RepTup w Xs X vs us f) (e : ∀ x, f x = g x) : RepTup w Xs X vs us g := by
  have : f = g := funext e
  exact this ▸ h

theorem RepTV.zero {st : Stamps} {u : Value} {f : Foot} {tv : TV} (h : RepTV E w tm β φ v st u f tv) (hn : tv.noOwn = true) : RepTV E w tm β φ v st u (fun _ => 0) tv := by
  cases tv with
  | pl a cs => obtain ⟨vals, h1, h2⟩ := h; exact ⟨vals, h1.cast (h1.foot0 hn), h2⟩
  | tup vs => obtain ⟨us, h1, h2⟩ := h; exact ⟨us, h1, h2.cast (h2.foot0 hn)⟩
  | ptr r p off => exact h
  | view cs => exact h
  | ali r p off => exact h
  | fn g caps => exact h
  | mp es => simp [TV.noOwn] at hn
  | pfx s k => exact h
  | und => exact h

/-- What is known of an operand's value. -/
structure OprIs (E : Env) (v : Res → Val) (tm : Nat → Value) (w : World) (β : Nat → Nat) (φ : Res → Foot) (x : Opr) (st : Stamps) (tv : TV) (u : Value) (f : Foot) : Prop where
  rep : RepTV E w tm β φ v st u f tv
  le1 : ∀ b, f b ≤ 1
  src : ∀ b, f b ≠ 0 → ∃ n ∈ oprL x, φ (.t n) b ≠ 0
  live : Live v st
  here : ∀ p ∈ st, isNope (v p.1.res) = false
  root : ∀ p ∈ st, p.1 ∈ oprR x

theorem opr_sound {a : Act} (h : RelW E v (tmv a) w β φ) {x : Opr} {y : Operand} (hxy : oprOk x y = true) {st : Stamps} {tv : TV} {ws : List (Res × Val)} (hx : opr v x = some (st, tv, ws)) :
    ws = dropL v (oprL x) ∧ ∃ f, OprIs E v (tmv a) w β φ x st tv (a.eval y) f ∧ (oprL x = [] → f = fun _ => 0) := by
  cases x with
  | t n rs =>
    cases y <;> simp [oprOk] at hxy
    subst hxy
    simp only [opr] at hx
    split at hx
    · rename_i st' tv' hv
      split at hx
      · rename_i hst
        simp only [Option.some.injEq, Prod.mk.injEq] at hx
        obtain ⟨rfl, rfl, rfl⟩ := hx
        simp only [Bool.and_eq_true] at hst
        obtain ⟨h1, h2⟩ := stOk_spec hst.1
        exact ⟨rfl, fun _ => 0, ⟨(h.ent n _ _ hv h1).zero hst.2, by simp, by simp, h1, h.here n _ _ hv h1, h2⟩, fun _ => rfl⟩
      · simp at hx
    · simp at hx
  | m n =>
    cases y <;> simp [oprOk] at hxy
    subst hxy
    simp only [opr] at hx
    split at hx
    · rename_i tv' hv
      simp only [Option.some.injEq, Prod.mk.injEq] at hx
      obtain ⟨rfl, rfl, rfl⟩ := hx
      have hl : Live v [] := by intro p hp; simp at hp
      exact ⟨by simp [oprL, dropL], φ (.t n), ⟨h.ent n _ _ hv hl, h.le1 _, fun b hb => ⟨n, by simp [oprL], hb⟩, hl, by simp, by simp⟩, by simp [oprL]⟩
    · simp at hx
  | c c =>
    cases y <;> simp [oprOk] at hxy
    simp only [opr, Option.some.injEq, Prod.mk.injEq] at hx
    obtain ⟨rfl, rfl, rfl⟩ := hx
    exact ⟨rfl, fun _ => 0, ⟨⟨[_], .sc (constOk_scal hxy) .nil, by simp [Act.eval]⟩, by simp, by simp, by intro p hp; simp at hp, by simp, by simp⟩, fun _ => rfl⟩
  | p n rs q => simp [opr] at hx

theorem ob_some {α γ : Type} {x : Option α} {g : α → Option γ} {b : γ} (h : ob x g = some b) : ∃ a, x = some a ∧ g a = some b := by
  cases x with
  | none => simp [ob] at h
  | some a => exact ⟨a, rfl, h⟩

theorem sca_opr {x : Opr} {c : AC} (h : sca v x = some c) : ∃ st, opr v x = some (st, .pl false [c], []) := by
  obtain ⟨r, hr, h⟩ := ob_some h
  try dsimp only at h
  split at h <;> simp at h
  subst h
  exact ⟨_, hr⟩

theorem sca_sound {a : Act} (h : RelW E v (tmv a) w β φ) {x : Opr} {y : Operand} (hxy : oprOk x y = true) {c : AC} (hx : sca v x = some c) :
    ∃ st f, RepL w (XS E w φ) (XB w φ st) [c] [a.eval y] f := by
  obtain ⟨st, hx⟩ := sca_opr hx
  obtain ⟨_, f, hi, _⟩ := opr_sound h hxy hx
  obtain ⟨vals, h1, h2⟩ := hi.rep
  simp only [Bool.false_eq_true, if_false] at h2
  subst h2
  exact ⟨_, _, h1⟩

theorem RepL.scal {Xs X : Nat → Prop} {c : AC} {u : Value} {f : Foot} (h : RepL w Xs X [c] [u] f) (hc : c.flat = true) : Scal c u := by
  cases h <;> first | assumption | simp [AC.flat] at hc

theorem sca_val {a : Act} (h : RelW E v (tmv a) w β φ) {x : Opr} {y : Operand} (hxy : oprOk x y = true) {c : AC} (hx : sca v x = some c) (hc : c.flat = true) : Scal c (a.eval y) := by
  obtain ⟨st, f, h1⟩ := sca_sound h hxy hx
  exact h1.scal hc
end

/-- What an operation leaves: the relation at the new valuation, the slots as many, no defers more. -/
structure Good (E : Env) (v' : Res → Val) (a a' : Act) (w' : World) : Prop where
  rel : ∃ β φ, RelW E v' (tmv a') w' β φ
  size : a'.tmps.size = a.tmps.size
  defers : a'.defers = a.defers

theorem tmv_put (a : Act) (d : Nat) (u : Value) (hd : d < a.tmps.size) (n : Nat) : tmv (a.put (some d) u) n = if n = d then u else tmv a n := by
  simp only [tmv, Act.put, Array.getD_eq_getD_getElem?]
  by_cases e : n = d
  · subst e; simp [hd]
  · rw [if_neg e, Array.getElem?_setIfInBounds_ne (Ne.symm e)]

theorem Good.put {E : Env} {v' : Res → Val} {a : Act} {d : Nat} {u : Value} {w' : World} (hd : d < a.tmps.size) (h : ∀ tm', (∀ n, tm' n = if n = d then u else tmv a n) → ∃ β φ, RelW E v' tm' w' β φ) :
    Good E v' a (a.put (some d) u) w' :=
  ⟨h _ (tmv_put a d u hd), by simp [Act.put], rfl⟩

section
variable {P : Program} {o : Oper} {a : Act} {next : Act → World → Prop} {Q : Exit → Act → World → Prop} {w w' : World}
theorem wp_val {d : Nat} {u : Value} (hd : o.dst = some d) (h : (execOp a.eval o).run P w = .ok (.value u) w') (hn : next (a.put (some d) u) w') : o.wp P a w next Q := by
  unfold Oper.wp
  rw [h, Oper.upon_value, hd]
  exact hn
end

/-- Of the slots' values an operation writes its own alone. -/
def Wrote (o : Oper) (a a' : Act) : Prop := ∀ n, o.dst ≠ some n → tmv a' n = tmv a n
theorem Wrote.refl (o : Oper) (a : Act) : Wrote o a a := fun _ _ => rfl
theorem tmv_put_ne (a : Act) (d : Nat) (u : Value) (n : Nat) (h : n ≠ d) : tmv (a.put (some d) u) n = tmv a n := by
  simp only [tmv, Act.put, Array.getD_eq_getD_getElem?]
  rw [Array.getElem?_setIfInBounds_ne (Ne.symm h)]
theorem Wrote.put {o : Oper} {a : Act} {d : Nat} (hd : o.dst = some d) (u : Value) : Wrote o a (a.put (some d) u) := fun n hn =>
  tmv_put_ne a d u n fun e => hn (by rw [hd, e])

/-- An operation is sound at a state: it goes on where the valuation has been written. -/
def OpSound (P : Program) (E : Env) (v' : Res → Val) (o : Oper) (a : Act) (w : World) : Prop :=
  ∀ (next : Act → World → Prop) (Q : Exit → Act → World → Prop), (∀ a' w', Good E v' a a' w' → Wrote o a a' → next a' w') → o.wp P a w next Q

theorem Still.refl (w : World) : Still w w := ⟨rfl, rfl, rfl, rfl⟩

section
variable {P : Program} {E : Env} {v : Res → Val} {o : Oper} {a : Act} {w : World} {β : Nat → Nat} {φ : Res → Foot}

/-- An operation that yields a value out of what is there. -/
theorem OpSound.val (h : RelW E v (tmv a) w β φ) (hC : ∀ b, E.C b → b < E.w0.heap.size) {d : Nat} (hd : o.dst = some d) (hN : d < a.tmps.size) {u : Value} {w' : World}
    (hrun : (execOp a.eval o).run P w = .ok (.value u) w') (hw : Still w w') {L : List Nat} (hdL : d ∉ L) {st : Stamps} {tv : TV} {f : Foot} (hf1 : ∀ b, f b ≤ 1) (hsrc : ∀ b, f b ≠ 0 → ∃ n ∈ L, φ (.t n) b ≠ 0)
    (hst : ∀ p ∈ st, p.1 ≠ .t d ∧ ∀ n ∈ L, p.1 ≠ .t n) (hlive : Live v st) (hh : ∀ p ∈ st, isNope (v p.1.res) = false) (hrep : RepTV E w (tmv a) β φ v st u f tv) :
    OpSound P E (appl v (putT v d st tv ++ dropL v L)) o a w := by
  intro next Q hn
  refine wp_val hd hrun (hn _ _ (Good.put hN fun tm' htm => ?_) (Wrote.put hd u))
  obtain ⟨φ', h'⟩ := h.putV hC hdL hw hf1 hsrc htm hst hlive hh hrep
  exact ⟨β, φ', h'⟩

/-- One that yields a value that owns nothing and hangs on nothing. -/
theorem OpSound.plain (h : RelW E v (tmv a) w β φ) (hC : ∀ b, E.C b → b < E.w0.heap.size) {d : Nat} (hd : o.dst = some d) (hN : d < a.tmps.size) {u : Value}
    (hrun : (execOp a.eval o).run P w = .ok (.value u) w) {c : AC} (hrep : Scal c u) : OpSound P E (appl v (putT v d [] (.pl false [c]))) o a w := by
  have := OpSound.val (P := P) h hC hd hN hrun (.refl w) (L := []) (by simp) (st := []) (tv := .pl false [c]) (f := fun _ => 0) (by simp) (by simp) (by simp) (by intro p hp; simp at hp) (by simp)
    ⟨[u], .sc hrep .nil, by simp⟩
  simpa [dropL] using this


theorem sep_spec {d : Nat} {x : Opr} (h : sep d x = true) : d ∉ oprL x ∧ .t d ∉ oprR x := by
  simp [sep] at h
  exact h

/-- The conditions on stamps, out of an operand. -/
theorem OprIs.stamps {x : Opr} {st : Stamps} {tv : TV} {u : Value} {f : Foot} (hi : OprIs E v (tmv a) w β φ x st tv u f) {d : Nat} (hs : sep d x = true) : ∀ p ∈ st, p.1 ≠ .t d ∧ ∀ n ∈ oprL x, p.1 ≠ .t n := by
  intro p hp
  have hr := hi.root p hp
  refine ⟨fun e => (sep_spec hs).2 (e ▸ hr), fun n hn => ?_⟩
  cases x <;> simp [oprL, oprR] at hn hr

theorem mov_sound {Γ : Gam} (h : RelW E v (tmv a) w β φ) (hC : ∀ b, E.C b → b < E.w0.heap.size) {d : Nat} {x : Opr} {y : Operand} (hop : o.op = .move y ∨ o.op = .assign y) (hd : o.dst = some d) (hN : d < a.tmps.size)
    (hxy : oprOk x y = true) (hsep : sep d x = true) {ws : List (Res × Val)} (hf : fop Γ v (.mov d x) = some ws) : OpSound P E (appl v ws) o a w := by
  obtain ⟨⟨st, tv, ws'⟩, h1, h2⟩ := ob_some hf
  simp only [Option.some.injEq] at h2
  subst h2
  obtain ⟨rfl, f, hi, _⟩ := opr_sound h hxy h1
  exact .val h hC hd hN (u := a.eval y) (by rcases hop with e | e <;> simp [execOp, e]) (.refl w) (sep_spec hsep).1 hi.le1 hi.src (hi.stamps hsep) hi.live hi.here hi.rep

theorem pick_sound {Γ : Gam} (h : RelW E v (tmv a) w β φ) (hC : ∀ b, E.C b → b < E.w0.heap.size) {d : Nat} {c x x' : Opr} {z y y' : Operand} (hop : o.op = .pick z y y') (hd : o.dst = some d) (hN : d < a.tmps.size)
    (hcz : oprOk c z = true) (hxy : oprOk x y = true) (hxy' : oprOk x' y' = true) (hsep : sep d x = true) (hsep' : sep d x' = true) (hL : oprL x = []) (hL' : oprL x' = [])
    {ws : List (Res × Val)} (hf : fop Γ v (.pick d c x x') = some ws) : OpSound P E (appl v ws) o a w := by
  obtain ⟨b, h1, h2⟩ := ob_some hf
  try dsimp only at h2
  split at h2
  · obtain ⟨⟨st, tv, ws'⟩, h3, h4⟩ := ob_some h2
    try dsimp only at h4
    split at h4 <;> simp only [Option.some.injEq, reduceCtorEq] at h4
    subst h4
    have hz := sca_val h hcz h1 rfl
    obtain ⟨_, f, hi, _⟩ := opr_sound h hxy h3
    have := OpSound.val (P := P) h hC hd hN (u := a.eval y) (by simp only [Scal] at hz; simp [execOp, hop, hz, asBool]) (.refl w) (sep_spec hsep).1 hi.le1 hi.src (hi.stamps hsep) hi.live hi.here hi.rep
    simpa [hL, dropL] using this
  · obtain ⟨⟨st, tv, ws'⟩, h3, h4⟩ := ob_some h2
    try dsimp only at h4
    split at h4 <;> simp only [Option.some.injEq, reduceCtorEq] at h4
    subst h4
    have hz := sca_val h hcz h1 rfl
    obtain ⟨_, f, hi, _⟩ := opr_sound h hxy' h3
    have := OpSound.val (P := P) h hC hd hN (u := a.eval y') (by simp only [Scal] at hz; simp [execOp, hop, hz, asBool]) (.refl w) (sep_spec hsep').1 hi.le1 hi.src (hi.stamps hsep') hi.live hi.here hi.rep
    simpa [hL', dropL] using this
  · simp at h2

theorem not_sound {Γ : Gam} (h : RelW E v (tmv a) w β φ) (hC : ∀ b, E.C b → b < E.w0.heap.size) {d : Nat} {x : Opr} {y : Operand} {t : TypeId} (hop : o.op = .unOp .not t y) (hd : o.dst = some d) (hN : d < a.tmps.size)
    (hxy : oprOk x y = true) {ws : List (Res × Val)} (hf : fop Γ v (.not d x) = some ws) : OpSound P E (appl v ws) o a w := by
  obtain ⟨c, h1, h2⟩ := ob_some hf
  try dsimp only at h2
  split at h2 <;> simp only [Option.some.injEq, reduceCtorEq] at h2
  subst h2
  have hz := sca_val h hxy h1 rfl
  simp only [Scal] at hz
  exact .plain h hC hd hN (u := .bool _) (by simp [execOp, hop, hz, Op.unary]) rfl

theorem neg_sound {Γ : Gam} (h : RelW E v (tmv a) w β φ) (hC : ∀ b, E.C b → b < E.w0.heap.size) {d : Nat} {x : Opr} {y : Operand} {t : TypeId} (hop : o.op = .unOp .neg t y) (hd : o.dst = some d) (hN : d < a.tmps.size)
    (hxy : oprOk x y = true) {ws : List (Res × Val)} (hf : fop Γ v (.neg d x) = some ws) : OpSound P E (appl v ws) o a w := by
  obtain ⟨c, h1, h2⟩ := ob_some hf
  try dsimp only at h2
  split at h2 <;> simp only [Option.some.injEq, reduceCtorEq] at h2
  subst h2
  have hz := sca_val h hxy h1 rfl
  simp only [Scal] at hz
  refine .plain h hC hd hN (u := .int _ _) (by simp [execOp, hop, hz, Op.unary, Op.intArith]; exact ⟨rfl, rfl⟩) ?_
  simp [Scal]

theorem conv_sound {Γ : Gam} (h : RelW E v (tmv a) w β φ) (hC : ∀ b, E.C b → b < E.w0.heap.size) {d : Nat} {k : IntKind} {x : Opr} {y : Operand} {t s : TypeId} (hop : o.op = .convert t s y) (hd : o.dst = some d) (hN : d < a.tmps.size)
    (ht : (P.underlying t).isSome = true) (hs : P.underlying s = some (.int k)) (hxy : oprOk x y = true) {ws : List (Res × Val)} (hf : fop Γ v (.conv d k x) = some ws) : OpSound P E (appl v ws) o a w := by
  obtain ⟨c, h1, h2⟩ := ob_some hf
  try dsimp only at h2
  split at h2 <;> simp only [Option.some.injEq, reduceCtorEq] at h2
  subst h2
  have hz := sca_val h hxy h1 rfl
  simp only [Scal] at hz
  obtain ⟨dt, hdt⟩ := Option.isSome_iff_exists.1 ht
  rename_i _ k' n'
  refine .plain h hC hd hN (u := .int k (k.wrap n')) ?_ ?_
  · simp only [execOp, hop, hz]
    simp [convert, run_underlying hdt, run_underlying hs, Conv.intToInt]
  · rfl

theorem mm_sound {Γ : Gam} (h : RelW E v (tmv a) w β φ) (hC : ∀ b, E.C b → b < E.w0.heap.size) {d : Nat} {mx : Bool} {x x' : Opr} {y y' : Operand} {ts : Array TypeId}
    (hop : o.op = .call { callee := .builtin (if mx then .max else .min), args := #[y, y'], argTypes := ts }) (hd : o.dst = some d) (hN : d < a.tmps.size)
    (hxy : oprOk x y = true) (hxy' : oprOk x' y' = true) {ws : List (Res × Val)} (hf : fop Γ v (.mm d mx x x') = some ws) : OpSound P E (appl v ws) o a w := by
  obtain ⟨c, h1, h2⟩ := ob_some hf
  try dsimp only at h2
  split at h2 <;> try (simp only [reduceCtorEq] at h2)
  obtain ⟨c', h3, h4⟩ := ob_some h2
  try dsimp only at h4
  split at h4 <;> try (simp only [reduceCtorEq] at h4)
  split at h4 <;> simp only [Option.some.injEq, reduceCtorEq] at h4
  subst h4
  have hz := sca_val h hxy h1 rfl
  have hz' := sca_val h hxy' h3 rfl
  simp only [Scal] at hz hz'
  rename_i _ k n _ k' m hk
  refine .plain h hC hd hN (u := .int k (if mx then max n m else min n m)) ?_ ?_
  · cases mx
    · simp only [execOp, hop]
      simp [resolve, invoke, builtin, Builtin.min_, Builtin.min2, hz, hz']
      omega
    · simp only [execOp, hop]
      simp [resolve, invoke, builtin, Builtin.max_, Builtin.max2, hz, hz']
      omega
  · rfl

theorem idx_sound {Γ : Gam} (h : RelW E v (tmv a) w β φ) (hC : ∀ b, E.C b → b < E.w0.heap.size) {d : Nat} {x i : Opr} {y j : Operand} {t : TypeId} (hop : o.op = .index t y j) (hd : o.dst = some d) (hN : d < a.tmps.size)
    (ht : P.underlying t = some .string) (hxy : oprOk x y = true) (hij : oprOk i j = true) {ws : List (Res × Val)} (hf : fop Γ v (.idx d x i) = some ws) : OpSound P E (appl v ws) o a w := by
  obtain ⟨c, h1, h2⟩ := ob_some hf
  try dsimp only at h2
  split at h2 <;> try (simp only [reduceCtorEq] at h2)
  obtain ⟨c', h3, h4⟩ := ob_some h2
  try dsimp only at h4
  split at h4 <;> try (simp only [reduceCtorEq] at h4)
  split at h4 <;> try (simp only [reduceCtorEq] at h4)
  split at h4 <;> simp only [Option.some.injEq, reduceCtorEq] at h4
  subst h4
  rename_i _ _ n _ s h0 _ ch hch
  have hz := sca_val h hij h1 rfl
  have hz' := sca_val h hxy h3 rfl
  simp only [Scal] at hz hz'
  refine .plain h hC hd hN (u := .int .u8 ch.toNat) ?_ rfl
  simp only [execOp, hop, hz, hz']
  have hb : (⟨s.toArray⟩ : ByteArray)[n.toNat]? = some ch := by
    obtain ⟨hlt, e⟩ := List.getElem?_eq_some_iff.1 hch
    have : n.toNat < (⟨s.toArray⟩ : ByteArray).size := by simpa [ByteArray.size] using hlt
    rw [getElem?_pos (⟨s.toArray⟩ : ByteArray) n.toNat this]
    simp [← e, ByteArray.getElem_eq_getElem_data]
  simp [Instr.index, asIntOf, run_underlying ht, h0, hb]

theorem rep_pointer {st : Stamps} {tv : TV} {u : Value} {f : Foot} (h : RepTV E w (tmv a) β φ v st u f tv) (ht : match tv with | .ptr .. => True | .view _ => True | _ => False) : ∃ b o, u = .pointer (some ⟨b, o, none⟩) := by
  cases tv with
  | ptr r p off => obtain ⟨_, _, b, o, e, _⟩ := h; exact ⟨b, o, e⟩
  | view cs => obtain ⟨b, o, _, e, _⟩ := h; exact ⟨b, o, e⟩
  | _ => exact ht.elim

/-- What is known of a slot's entry whose stamps are live. -/
theorem RelW.slotRep (h : RelW E v (tmv a) w β φ) {n : Nat} {st : Stamps} {tv : TV} (hv : v (.t n) = .t st tv) (hl : Live v st) : RepTV E w (tmv a) β φ v st (tmv a n) (φ (.t n)) tv ∧ ∀ p ∈ st, isNope (v p.1.res) = false :=
  ⟨h.ent n st tv hv hl, h.here n st tv hv hl⟩


theorem Along.shift {w : World} {own : Nat → Prop} (k : Nat) : ∀ {p : Path} {b o off b' o' : Nat}, Along w own b o p off b' o' → Along w own b o p (off + k) b' (o' + k)
  | [], _, _, _, _, _, ⟨h1, h2, h3⟩ => ⟨h1, h2, by omega⟩
  | _ :: _, _, _, _, _, _, ⟨h1, s, so, len, cap, h2, h3⟩ => ⟨h1, s, so, len, cap, h2, Along.shift k h3⟩
theorem Reach.shift {w : World} {tm : Nat → Value} {β : Nat → Nat} {own : Nat → Prop} {r : Rt} {p : Path} {off b o : Nat} (k : Nat) (h : Reach w tm β own r p off b o) : Reach w tm β own r p (off + k) b (o + k) := by
  cases r with
  | b n => exact Along.shift k h
  | t n =>
    cases p with
    | nil => exact h.elim
    | cons x p => obtain ⟨h0, s, so, len, cap, h1, h2⟩ := h; exact ⟨h0, s, so, len, cap, h1, h2.shift k⟩

def fieldOff (P : Program) (s : TypeId) (f : Nat) : Option Nat :=
  match P.underlying s with
  | some (.struct fs) => match fs[f]? with
    | some fd => match P.info? fd.type with
      | some i => if i.size = 0 then none else some fd.offset
      | none => none
    | none => none
  | _ => none
theorem fieldAt_run {s : TypeId} {f k : Nat} (h : fieldOff P s f = some k) (b o : Nat) (w : World) : (Instr.fieldAt s (.pointer (some ⟨b, o, none⟩)) f).run P w = .ok (.pointer (some ⟨b, o + k, none⟩)) w := by
  unfold fieldOff at h
  split at h <;> try (simp at h; done)
  rename_i fs hs
  split at h <;> try (simp at h; done)
  rename_i fd hf
  split at h <;> try (simp at h; done)
  rename_i i hi
  split at h <;> try (simp at h; done)
  rename_i hz
  simp at h
  subst h
  simp [Instr.fieldAt, run_underlying hs, hf, Instr.sureAddr, fieldPlace, sizeOf, typeInfo, hi, hz, Addr.add_lit]

/-- Stamps of a slot that was looked at with its roots. -/
theorem slot_stamps {st : Stamps} {rs : List Rt} {d : Nat} (h : ∀ p ∈ st, p.1 ∈ rs) (hd : rs.contains (.t d) = false) : ∀ p ∈ st, p.1 ≠ .t d ∧ ∀ n ∈ ([] : List Nat), p.1 ≠ .t n := by
  intro p hp
  refine ⟨fun e => ?_, by simp⟩
  have := h p hp
  rw [e] at this
  simp at hd
  exact hd this

theorem nilc_sound {Γ : Gam} (h : RelW E v (tmv a) w β φ) (hC : ∀ b, E.C b → b < E.w0.heap.size) {d p : Nat} {rs : List Rt} (hop : o.op = .nilCheck (.tmp p)) (hd : o.dst = some d) (hN : d < a.tmps.size)
    (hrs : rs.contains (.t d) = false) {ws : List (Res × Val)} (hf : fop Γ v (.nilc d p rs) = some ws) : OpSound P E (appl v ws) o a w := by
  simp only [fop] at hf
  have run : ∀ b o', tmv a p = .pointer (some ⟨b, o', none⟩) → (execOp a.eval o).run P w = .ok (.value (tmv a p)) w := by
    intro b o' e
    have : a.eval (.tmp p) = .pointer (some ⟨b, o', none⟩) := e
    simp [execOp, hop, this, e]
  split at hf
  · rename_i st q path off hv
    split at hf <;> simp only [Option.some.injEq, reduceCtorEq] at hf
    rename_i hst
    subst hf
    obtain ⟨h1, h2⟩ := stOk_spec hst
    obtain ⟨k1, k2⟩ := h.slotRep hv h1
    obtain ⟨b, o', e⟩ := rep_pointer k1 trivial
    have := OpSound.val (P := P) h hC hd hN (run b o' e) (.refl w) (L := []) (by simp) (f := fun _ => 0) (by simp) (by simp) (slot_stamps h2 hrs) h1 k2 (k1.zero rfl)
    simpa [dropL] using this
  · rename_i st cs hv
    split at hf <;> simp only [Option.some.injEq, reduceCtorEq] at hf
    rename_i hst
    subst hf
    obtain ⟨h1, h2⟩ := stOk_spec hst
    obtain ⟨k1, k2⟩ := h.slotRep hv h1
    obtain ⟨b, o', e⟩ := rep_pointer k1 trivial
    have := OpSound.val (P := P) h hC hd hN (run b o' e) (.refl w) (L := []) (by simp) (f := fun _ => 0) (by simp) (by simp) (slot_stamps h2 hrs) h1 k2 (k1.zero rfl)
    simpa [dropL] using this
  · rename_i st m cs hv
    split at hf <;> simp only [Option.some.injEq, reduceCtorEq] at hf
    rename_i hst
    subst hf
    simp only [Bool.and_eq_true, decide_eq_true_eq] at hst
    obtain ⟨h1, h2⟩ := stOk_spec hst.1
    obtain ⟨⟨vals, k1, k1'⟩, k2⟩ := h.slotRep hv h1
    simp only [Bool.false_eq_true, if_false] at k1'
    subst k1'
    have : ∃ b o' vs, tmv a p = .pointer (some ⟨b, o', none⟩) ∧ XB w φ st b ∧ Cells w b o' vs ∧ RepL w (XS E w φ) (XB w φ st) (if m = .sh then cs else brwL cs) vs (fun _ => 0) := by
      have xsb : ∀ b, XS E w φ b → XB w φ st b := fun b hb => ⟨hb.1, fun r hr => absurd (hb.2.1 r) hr⟩
      generalize tmv a p = u at k1
      generalize φ (.t p) = f at k1
      cases k1 with
      | sc hs => simp [Scal] at hs
      | refOwn => exact absurd rfl hst.2
      | refSh hX hcv hh t => exact ⟨_, _, _, rfl, xsb _ hX, hcv, by simpa using hh.weak (fun _ h => h) xsb⟩
      | refBor hX hcv hh t => exact ⟨_, _, _, rfl, hX, hcv, by simpa using hh.brw _ (fun _ h => h) (fun _ h => h) (fun _ h => absurd rfl h)⟩
    obtain ⟨b, o', vs, e, g1, g2, g3⟩ := this
    have := OpSound.val (P := P) (tv := .view (if m = .sh then cs else brwL cs)) h hC hd hN (run b o' e) (.refl w) (L := []) (by simp) (f := fun _ => 0) (by simp) (by simp) (slot_stamps h2 hrs) h1 k2 ⟨b, o', vs, e, g1, g2, g3⟩
    simpa [dropL] using this
  · simp at hf

theorem fad_sound {Γ : Gam} (h : RelW E v (tmv a) w β φ) (hC : ∀ b, E.C b → b < E.w0.heap.size) {d p k f : Nat} {s : TypeId} {rs : List Rt} (hop : o.op = .fieldAddr s (.tmp p) f) (hd : o.dst = some d) (hN : d < a.tmps.size)
    (hk : fieldOff P s f = some k) (hrs : rs.contains (.t d) = false) {ws : List (Res × Val)} (hf : fop Γ v (.fad d p rs k) = some ws) : OpSound P E (appl v ws) o a w := by
  simp only [fop] at hf
  have run : ∀ b o', tmv a p = .pointer (some ⟨b, o', none⟩) → (execOp a.eval o).run P w = .ok (.value (.pointer (some ⟨b, o' + k, none⟩))) w := by
    intro b o' e
    have : a.eval (.tmp p) = .pointer (some ⟨b, o', none⟩) := e
    have r := fieldAt_run hk b o' w
    simp [execOp, hop, this, r]
  split at hf
  · rename_i st q path off hv
    split at hf <;> simp only [Option.some.injEq, reduceCtorEq] at hf
    rename_i hst
    subst hf
    obtain ⟨h1, h2⟩ := stOk_spec hst
    obtain ⟨⟨g1, g2, b, o', e, g3⟩, k2⟩ := h.slotRep hv h1
    have := OpSound.val (P := P) (tv := .ptr q path (off + k)) h hC hd hN (run b o' e) (.refl w) (L := []) (by simp) (f := fun _ => 0) (by simp) (by simp) (slot_stamps h2 hrs) h1 k2 ⟨g1, g2, b, _, rfl, g3.shift k⟩
    simpa [dropL] using this
  · rename_i st cs hv
    split at hf <;> simp only [Option.some.injEq, reduceCtorEq] at hf
    rename_i hst
    subst hf
    obtain ⟨h1, h2⟩ := stOk_spec hst
    obtain ⟨⟨b, o', vs, e, g1, g2, g3⟩, k2⟩ := h.slotRep hv h1
    have cut : ∃ vs', Cells w b (o' + k) vs' ∧ RepL w (XS E w φ) (XB w φ st) (cs.drop k) vs' (fun _ => 0) := by
      have h' : RepL w (XS E w φ) (XB w φ st) (cs.take k ++ cs.drop k) vs (fun _ => 0) := by rw [List.take_append_drop]; exact g3
      obtain ⟨v1, v2, φ1, φ2, rfl, e1, e2, hs⟩ := RepL.split _ _ h'
      rw [Cells.app] at g2
      have l1 := e1.length
      by_cases hk' : k ≤ cs.length
      · rw [List.length_take, Nat.min_eq_left hk'] at l1
        rw [l1] at g2
        exact ⟨v2, g2.2, e2.cast (fun x => by have := hs x; omega)⟩
      · have l2 := e2.length
        rw [List.length_drop, show cs.length - k = 0 by omega] at l2
        have : v2 = [] := List.eq_nil_of_length_eq_zero l2
        subst this
        exact ⟨[], fun j hj => absurd hj (by simp), e2.cast (fun x => by have := hs x; omega)⟩
    obtain ⟨vs', c1, c2⟩ := cut
    have := OpSound.val (P := P) (tv := .view (cs.drop k)) h hC hd hN (run b o' e) (.refl w) (L := []) (by simp) (f := fun _ => 0) (by simp) (by simp) (slot_stamps h2 hrs) h1 k2 ⟨b, _, vs', rfl, g1, c1, c2⟩
    simpa [dropL] using this
  · simp at hf
end
end Go.Fw
