/- The framework, part D: cells at a place are read, and written. The framework, part E: writes of resources, and the step that puts a value into a slot. Conditions: none. -/
import Derived.Test.YtjldolmokfnkoaaGreatDoorFwB
namespace Go.Fw
open Go

theorem heap_setCell (w : World) (b o : Nat) (v : Value) {x : Nat} (h : x ≠ b) : (w.setCell ⟨b, o, none⟩ v).heap[x]? = w.heap[x]? := by
  simp only [World.setCell, Array.getElem?_modify]
  rw [if_neg (fun e => h e.symm)]
theorem heap_setCells {b x : Nat} (h : x ≠ b) : ∀ (vs : List Value) (o : Nat) (w : World), (w.setCells b o vs).heap[x]? = w.heap[x]?
  | [], _, _ => rfl
  | v :: r, o, w => by rw [World.setCells, heap_setCells h r, heap_setCell w b o v h]
theorem size_setCells {b : Nat} : ∀ (vs : List Value) (o : Nat) (w : World), (w.setCells b o vs).heap.size = w.heap.size
  | [], _, _ => rfl
  | v :: r, o, w => by rw [World.setCells, size_setCells r, World.size_setCell]
theorem os_setCells {b : Nat} : ∀ (vs : List Value) (o : Nat) (w : World), (w.setCells b o vs).os = w.os ∧ (w.setCells b o vs).tape = w.tape ∧ (w.setCells b o vs).output = w.output
  | [], _, _ => ⟨rfl, rfl, rfl⟩
  | v :: r, o, w => by rw [World.setCells]; exact os_setCells r (o + 1) _
theorem isSome_setCells {b : Nat} {x : Addr} (vs : List Value) (o : Nat) (w : World) (hx : x.spot = none) (hc : ∀ j, j < vs.length → (w.cell? ⟨b, o + j, none⟩).isSome = true) (h : (w.cell? x).isSome = true) : ((w.setCells b o vs).cell? x).isSome = true := by
  by_cases hin : x.block = b ∧ o ≤ x.off ∧ x.off < o + vs.length
  · obtain ⟨h1, h2, h3⟩ := hin
    obtain ⟨xb, xo, xs⟩ := x
    dsimp only at h1 h2 h3 hx ⊢
    subst h1 hx
    have := World.cell?_setCells_in xb vs o w hc (xo - o) (by omega)
    rw [show o + (xo - o) = xo by omega] at this
    rw [this]; rfl
  · rw [World.cell?_setCells_out b vs o w x (fun h1 _ => by
      by_cases h2 : o ≤ x.off
      · exact .inr (Nat.le_of_not_lt fun h3 => hin ⟨h1, h2, h3⟩)
      · exact .inl (by omega))]
    exact h
theorem Avail.setCells {w : World} {b c o n q : Nat} {vs : List Value} (h : Avail w b o n) (hc : ∀ j, j < vs.length → (w.cell? ⟨c, q + j, none⟩).isSome = true) : Avail (w.setCells c q vs) b o n :=
  ⟨fun j hj => ⟨isSome_setCells vs q w rfl hc (h.1 j hj).1, by rw [World.frozen?_setCells]; exact (h.1 j hj).2⟩, h.2.imp id fun h k => by rw [World.frozen?_setCells]; exact h k⟩

theorem RepL.foot0 {w : World} {Xs Xb : Nat → Prop} {c : List AC} {v : List Value} {φ : Foot} (h : RepL w Xs Xb c v φ) : noOwnL c = true → ∀ x, φ x = 0 := by
  induction h with
  | nil => intros; rfl
  | own => intro h; simp [noOwnL, AC.noOwn] at h
  | refOwn => intro h; simp [noOwnL, AC.noOwn] at h
  | sc _ _ ih => intro h; simp only [noOwnL, Bool.and_eq_true] at h; exact ih h.2
  | sh _ _ _ _ _ _ _ _ _ ih => intro h; simp only [noOwnL, Bool.and_eq_true] at h; exact ih h.2
  | bor _ _ _ _ _ _ _ _ _ ih => intro h; simp only [noOwnL, Bool.and_eq_true] at h; exact ih h.2
  | refSh _ _ _ _ _ ih => intro h; simp only [noOwnL, Bool.and_eq_true] at h; exact ih h.2
  | refBor _ _ _ _ _ ih => intro h; simp only [noOwnL, Bool.and_eq_true] at h; exact ih h.2

theorem Cells.app {w : World} {b o : Nat} {u v : List Value} : Cells w b o (u ++ v) ↔ Cells w b o u ∧ Cells w b (o + u.length) v := by
  constructor
  · intro h
    refine ⟨fun j hj => ?_, fun j hj => ?_⟩
    · have := h j (by simp; omega)
      rwa [List.getElem_append_left hj] at this
    · have := h (u.length + j) (by simp; omega)
      rw [List.getElem_append_right (by omega)] at this
      rw [Nat.add_assoc]
      simpa using this
  · rintro ⟨h1, h2⟩ j hj
    by_cases hu : j < u.length
    · rw [List.getElem_append_left hu]; exact h1 j hu
    · rw [List.getElem_append_right (by omega)]
      have := h2 (j - u.length) (by simp at hj; omega)
      rwa [show o + u.length + (j - u.length) = o + j by omega] at this

/-- A cell that holds a row alone. -/
theorem RepL.at_own {w : World} {Xs Xb : Nat → Prop} {e s so len cap : Nat} {rows : List (List AC)} : ∀ {cs : List AC} {vals : List Value} {φ : Foot}, RepL w Xs Xb cs vals φ → ∀ {k : Nat},
    cs[k]? = some (.sl .own e rows) → vals[k]? = some (.slice (some ⟨s, so, none⟩) len cap) →
    ∃ vs ψ c1 c2 v1 v2 φ1 φ2, cs = c1 ++ .sl .own e rows :: c2 ∧ c1.length = k ∧ vals = v1 ++ .slice (some ⟨s, so, none⟩) len cap :: v2 ∧ v1.length = k ∧ RepL w Xs Xb c1 v1 φ1 ∧ RepL w Xs Xb c2 v2 φ2 ∧
      rows.length = len ∧ (len ≤ cap ∧ cap ≤ 9223372036854775807) ∧ 0 < e ∧ (∀ r ∈ rows, r.length = e) ∧ s < w.heap.size ∧ Avail w s so (cap * e) ∧ Cells w s so vs ∧ RepL w Xs Xb rows.flatten vs ψ ∧
      ∀ x, φ x = φ1 x + ((if x = s then 1 else 0) + ψ x) + φ2 x := by
  intro cs vals φ h
  induction cs generalizing vals φ with
  | nil => intro k hk; simp at hk
  | cons c cs ih =>
    intro k hk hv
    obtain ⟨v, vs, φ1, φ2, rfl, h1, h2, hs⟩ := h.uncons
    cases k with
    | zero =>
      simp at hk hv
      subst hk hv
      cases h1 with
      | sc hsc t =>
        exfalso
        cases rows <;> simp [Scal] at hsc
      | own hl hc he hr hb ha hcv hh t =>
        cases t
        exact ⟨_, _, [], cs, [], vs, _, _, rfl, rfl, rfl, rfl, .nil, h2, hl, hc, he, hr, hb, ha, hcv, hh, fun x => by rw [hs x]; first | omega | (dsimp only; omega)⟩
    | succ k =>
      simp at hk hv
      obtain ⟨us, ψ, c1, c2, v1, v2, χ1, χ2, rfl, e1, rfl, e2, g1, g2, r1, r2, r3, r4, r5, r6, r7, r8, r9⟩ := ih h2 hk hv
      exact ⟨us, ψ, c :: c1, c2, v :: v1, v2, _, χ2, rfl, by simp [e1], rfl, by simp [e2], h1.append g1, g2, r1, r2, r3, r4, r5, r6, r7, r8, fun x => by rw [hs x, r9 x]; first | omega | (dsimp only; omega)⟩

theorem flatten_len {e : Nat} : ∀ {rows : List (List AC)}, (∀ r ∈ rows, r.length = e) → rows.flatten.length = rows.length * e
  | [], _ => by simp
  | r :: rs, h => by
    rw [List.flatten_cons, List.length_append, h r (by simp), flatten_len (fun q hq => h q (by simp [hq])), List.length_cons, Nat.add_mul]; omega

theorem row_split {rows : List (List AC)} {i : Nat} {r : List AC} (h : rows[i]? = some r) : rows = rows.take i ++ r :: rows.drop (i + 1) ∧ i < rows.length := by
  obtain ⟨hi, rfl⟩ := List.getElem?_eq_some_iff.1 h
  exact ⟨by rw [List.getElem_cons_drop, List.take_append_drop], hi⟩

theorem RepL.at_val {w : World} {Xs Xb : Nat → Prop} {cs : List AC} {vals : List Value} {φ : Foot} (h : RepL w Xs Xb cs vals φ) {b o : Nat} (hc : Cells w b o vals) {k : Nat} {c : AC} (hk : cs[k]? = some c) {u : Value}
    (hu : w.cell? ⟨b, o + k, none⟩ = some u) : vals[k]? = some u := by
  obtain ⟨hk', _⟩ := List.getElem?_eq_some_iff.1 hk
  have hl := h.length
  have := hc k (by omega)
  rw [hu] at this
  rw [List.getElem?_eq_getElem (by omega)]
  exact this.symm

theorem cellsAt_cons {cs : List AC} {k i e off : Nat} {p : Path} {xs : List AC} (h : cellsAt cs ((k, i, e) :: p) off = some xs) :
    ∃ rows r, cs[k]? = some (.sl .own e rows) ∧ rows[i]? = some r ∧ cellsAt r p off = some xs := by
  rw [cellsAt] at h
  split at h
  · rename_i e' rows hk
    by_cases he : e' = e
    · subst he
      rw [if_pos rfl] at h
      split at h
      · rename_i r hr
        exact ⟨rows, r, hk, hr, h⟩
      · simp at h
    · rw [if_neg he] at h; simp at h
  · simp at h
theorem setAt_cons {cs : List AC} {k i e off : Nat} {p : Path} {new cs' : List AC} (h : setAt cs ((k, i, e) :: p) off new = some cs') :
    ∃ rows r r', cs[k]? = some (.sl .own e rows) ∧ rows[i]? = some r ∧ setAt r p off new = some r' ∧ cs' = cs.set k (.sl .own e (rows.set i r')) := by
  rw [setAt] at h
  split at h
  · rename_i e' rows hk
    by_cases he : e' = e
    · subst he
      rw [if_pos rfl] at h
      split at h
      · rename_i r hr
        split at h
        · rename_i r' hr'
          simp only [Option.some.injEq] at h
          exact ⟨rows, r, r', hk, hr, hr', h.symm⟩
        · simp at h
      · simp at h
    · rw [if_neg he] at h; simp at h
  · simp at h

/-- What lies at a place. -/
theorem along_read {w : World} {Xs Xb : Nat → Prop} {own : Nat → Prop} : ∀ (p : Path) {cs : List AC} {off b o b' o' : Nat} {vals : List Value} {φ : Foot} {xs : List AC},
    Cells w b o vals → RepL w Xs Xb cs vals φ → Along w own b o p off b' o' → cellsAt cs p off = some xs →
    ∃ vs ψ, Cells w b' o' vs ∧ RepL w Xs Xb xs vs ψ ∧ (∀ x, ψ x ≤ φ x)
  | [], cs, off, b, o, b', o', vals, φ, xs, hc, hr, ⟨_, e1, e2⟩, hx => by
    simp only [cellsAt, Option.some.injEq] at hx
    subst e1 e2 hx
    have h' : RepL w Xs Xb (cs.take off ++ cs.drop off) vals φ := by rw [List.take_append_drop]; exact hr
    obtain ⟨v1, v2, φ1, φ2, rfl, h1, h2, hs⟩ := RepL.split _ _ h'
    have hl := h1.length
    rw [Cells.app] at hc
    by_cases hoff : off ≤ cs.length
    · rw [List.length_take, Nat.min_eq_left hoff] at hl
      rw [hl] at hc
      exact ⟨v2, φ2, hc.2, h2, fun x => by rw [hs x]; first | omega | (dsimp only; omega)⟩
    · have h3 := h2.length
      rw [List.length_drop, show cs.length - off = 0 by omega] at h3
      have : v2 = [] := List.eq_nil_of_length_eq_zero h3
      subst this
      exact ⟨[], φ2, fun j hj => absurd hj (by simp), h2, fun x => by rw [hs x]; first | omega | (dsimp only; omega)⟩
  | (k, i, e) :: p, cs, off, b, o, b', o', vals, φ, xs, hc, hr, ⟨_, s, so, len, cap, hcell, hal⟩, hx => by
    obtain ⟨rows, r, hk, hri, hx2⟩ := cellsAt_cons hx
    obtain ⟨vs, ψ, c1, c2, v1, v2, φ1, φ2, rfl, e1, rfl, e2, g1, g2, r1, r2, r3, r4, r5, r6, r7, r8, r9⟩ := hr.at_own hk (hr.at_val hc hk hcell)
    obtain ⟨hrow, hi⟩ := row_split hri
    have hfl : rows.flatten = (rows.take i).flatten ++ (r ++ (rows.drop (i + 1)).flatten) := by conv => lhs; rw [hrow]; simp
    rw [hfl] at r8
    obtain ⟨u1, u2, ψ1, ψ2, rfl, k1, k2, ks⟩ := RepL.split _ _ r8
    obtain ⟨u2, u3, ψ3, ψ4, rfl, k3, k4, ks'⟩ := RepL.split _ _ k2
    have hlen : u1.length = i * e := by
      rw [k1.length, flatten_len (fun q hq => r4 q (List.mem_of_mem_take hq)), List.length_take, Nat.min_eq_left (by omega)]
    rw [Cells.app, Cells.app, hlen] at r7
    obtain ⟨vs', ψ', q1, q2, q3⟩ := along_read p r7.2.1 k3 hal hx2
    exact ⟨vs', ψ', q1, q2, fun x => by have := q3 x; have := ks x; have := ks' x; have := r9 x; omega⟩

theorem setAt_len : ∀ (p : Path) {cs : List AC} {off : Nat} {new cs' : List AC}, setAt cs p off new = some cs' → cs'.length = cs.length
  | [], cs, off, new, cs', h => by
    simp only [setAt] at h
    split at h
    · simp only [Option.some.injEq] at h; subst h; simp; omega
    · simp at h
  | (k, i, e) :: p, cs, off, new, cs', h => by
    obtain ⟨rows, r, r', _, _, _, rfl⟩ := setAt_cons h
    simp

theorem Cells.other {w w' : World} {b o : Nat} {vals : List Value} (h : Cells w b o vals) (hs : ∀ j, j < vals.length → w'.cell? ⟨b, o + j, none⟩ = w.cell? ⟨b, o + j, none⟩) : Cells w' b o vals :=
  fun j hj => (hs j hj).trans (h j hj)

/-- Other cells are written at a place. -/
theorem along_write {w : World} {Xs Xb : Nat → Prop} {own : Nat → Prop} {nvals : List Value} {new : List AC} {ψ : Foot} (hn : RepL w Xs Xb new nvals ψ) {b' o' : Nat} :
    ∀ (p : Path) {cs cs' : List AC} {off b o : Nat} {vals : List Value} {φ : Foot}, Cells w b o vals → RepL w Xs Xb cs vals φ →
      (∀ x, ((if x = b then 1 else 0) + φ x) + ψ x ≤ 1) → (∀ x, (if x = b then 1 else 0) + φ x ≠ 0 → ¬ Xs x ∧ ¬ Xb x) →
      Along w own b o p off b' o' → setAt cs p off new = some cs' →
      ∃ vals' φ', Cells (w.setCells b' o' nvals) b o vals' ∧ RepL (w.setCells b' o' nvals) Xs Xb cs' vals' φ' ∧ vals'.length = vals.length ∧ (∀ x, φ' x ≤ φ x + ψ x) ∧
        (b' = b ∨ φ b' ≠ 0) ∧ (b' = b → o ≤ o' ∧ o' + nvals.length ≤ o + vals.length) ∧ (∀ j, j < nvals.length → (w.cell? ⟨b', o' + j, none⟩).isSome = true)
  | [], cs, cs', off, b, o, vals, φ, hc, hr, hd, hX, ⟨_, e1, e2⟩, hset => by
    subst e1 e2
    simp only [setAt] at hset
    split at hset
    case isFalse => simp at hset
    rename_i hle
    simp only [Option.some.injEq] at hset
    subst hset
    have h' : RepL w Xs Xb (cs.take off ++ ((cs.drop off).take new.length ++ cs.drop (off + new.length))) vals φ := by
      rw [← List.drop_drop, List.take_append_drop, List.take_append_drop]; exact hr
    obtain ⟨v1, v2, φ1, φ2, rfl, h1, h2, hs⟩ := RepL.split _ _ h'
    obtain ⟨v2, v3, φ3, φ4, rfl, h3, h4, hs'⟩ := RepL.split _ _ h2
    have l1 : v1.length = off := by rw [h1.length, List.length_take]; omega
    have l2 : v2.length = new.length := by rw [h3.length, List.length_take, List.length_drop]; omega
    have ln := hn.length
    have hb0 : φ b' = 0 ∧ ψ b' = 0 := by have := hd b'; simp at this; omega
    have hXb := hX b' (by simp)
    rw [Cells.app, Cells.app, l1] at hc
    have hcell : ∀ j, j < nvals.length → (w.cell? ⟨b', o + off + j, none⟩).isSome = true := fun j hj => by rw [hc.2.1 j (by omega)]; rfl
    have fr : ∀ {c : List AC} {u : List Value} {χ : Foot}, RepL w Xs Xb c u χ → χ b' = 0 → RepL (w.setCells b' (o + off) nvals) Xs Xb c u χ := fun hh h0 =>
      hh.frame (by rw [size_setCells]; exact Nat.le_refl _) (fun x hx => ⟨hx, heap_setCells (by rintro rfl; exact hXb.1 hx) _ _ _⟩) (fun x hx => ⟨hx, heap_setCells (by rintro rfl; exact hXb.2 hx) _ _ _⟩)
        (fun x hx => heap_setCells (by rintro rfl; exact hx h0) _ _ _)
    have e0 := hs b'
    have e1 := hs' b'
    refine ⟨v1 ++ (nvals ++ v3), _, ?_, (fr h1 (by omega)).append ((fr hn hb0.2).append (fr h4 (by omega))), by simp [l2, ln], fun x => by have := hs x; have := hs' x; first | omega | (dsimp only; omega), .inl rfl,
      fun _ => ⟨by omega, by simp; omega⟩, hcell⟩
    rw [Cells.app, Cells.app, l1]
    refine ⟨hc.1.other (fun j hj => World.cell?_setCells_out _ _ _ _ _ (fun _ _ => .inl (by dsimp only; omega))), fun j hj => World.cell?_setCells_in _ _ _ _ hcell j hj, ?_⟩
    rw [show o + off + nvals.length = o + off + v2.length by omega]
    exact hc.2.2.other (fun j hj => World.cell?_setCells_out _ _ _ _ _ (fun _ _ => .inr (by dsimp only; omega)))
  | (k, i, e) :: p, cs, cs', off, b, o, vals, φ, hc, hr, hd, hX, ⟨_, s, so, len, cap, hcell, hal⟩, hset => by
    obtain ⟨rows, r, r', hk, hri, hset1, rfl⟩ := setAt_cons hset
    obtain ⟨vs, χ, c1, c2, v1, v2, φ1, φ2, rfl, e1, rfl, e2, g1, g2, r1, r2, r3, r4, r5, r6, r7, r8, r9⟩ := hr.at_own hk (hr.at_val hc hk hcell)
    obtain ⟨hrow, hi⟩ := row_split hri
    have hfl : rows.flatten = (rows.take i).flatten ++ (r ++ (rows.drop (i + 1)).flatten) := by conv => lhs; rw [hrow]; simp
    rw [hfl] at r8
    obtain ⟨u1, u2, ψ1, ψ2, rfl, k1, k2, ks⟩ := RepL.split _ _ r8
    obtain ⟨u2, u3, ψ3, ψ4, rfl, k3, k4, ks'⟩ := RepL.split _ _ k2
    have hre : r.length = e := r4 r (List.mem_of_getElem? hri)
    have hlen : u1.length = i * e := by
      rw [k1.length, flatten_len (fun q hq => r4 q (List.mem_of_mem_take hq)), List.length_take, Nat.min_eq_left (by omega)]
    have hlen2 : u2.length = e := by rw [k3.length, hre]
    have hcs := r7
    rw [Cells.app, Cells.app, hlen] at r7
    have tot : ∀ x, φ x = φ1 x + ((if x = s then 1 else 0) + (ψ1 x + (ψ3 x + ψ4 x))) + φ2 x := fun x => by rw [r9 x, ks x, ks' x]
    have hsb : s ≠ b := fun e => by have := hd b; have := tot b; subst e; simp at *; omega
    obtain ⟨vr, φr, q1, q2, q3, q4, q5, q6, q7⟩ := along_write hn p r7.2.1 k3 (fun x => by have := hd x; have := tot x; omega) (fun x hx => hX x (by have := tot x; omega)) hal hset1
    have hbb : b' ≠ b := by
      rintro rfl
      have h1 := hd b'
      have h2 := tot b'
      simp only [if_true] at h1
      rcases q5 with e | e
      · exact hsb e.symm
      · omega
    have hbX : ¬ Xs b' ∧ ¬ Xb b' := hX b' (by
      have h2 := tot b'
      rcases q5 with e | e
      · subst e; simp at h2; omega
      · omega)
    have fr : ∀ {c : List AC} {u : List Value} {χ : Foot}, RepL w Xs Xb c u χ → χ b' = 0 → RepL (w.setCells b' o' nvals) Xs Xb c u χ := fun hh h0 =>
      hh.frame (by rw [size_setCells]; exact Nat.le_refl _) (fun x hx => ⟨hx, heap_setCells (by rintro rfl; exact hbX.1 hx) _ _ _⟩) (fun x hx => ⟨hx, heap_setCells (by rintro rfl; exact hbX.2 hx) _ _ _⟩)
        (fun x hx => heap_setCells (by rintro rfl; exact hx h0) _ _ _)
    have one : 1 ≤ (if b' = s then 1 else 0) + ψ3 b' := by
      rcases q5 with e | e
      · simp [e]
      · omega
    have hz : φ1 b' = 0 ∧ φ2 b' = 0 ∧ ψ1 b' = 0 ∧ ψ4 b' = 0 := by
      have h1 := hd b'
      have h2 := tot b'
      omega
    have hsame : ∀ (o2 : Nat), (b' = s → o2 < o' ∨ o' + nvals.length ≤ o2) → (w.setCells b' o' nvals).cell? ⟨s, o2, none⟩ = w.cell? ⟨s, o2, none⟩ := fun o2 h =>
      World.cell?_setCells_out _ _ _ _ _ (fun h1 _ => h h1.symm)
    have lr' : r'.length = r.length := setAt_len p hset1
    have hset2 : (rows.set i r').flatten = (rows.take i).flatten ++ (r' ++ (rows.drop (i + 1)).flatten) := by
      rw [List.set_eq_take_append_cons_drop, if_pos hi]; simp
    have hvr : vr.length = e := by rw [q3, hlen2]
    have newrow : RepL (w.setCells b' o' nvals) Xs Xb (rows.set i r').flatten (u1 ++ (vr ++ u3)) (fun x => ψ1 x + (φr x + ψ4 x)) := by
      rw [hset2]
      exact (fr k1 hz.2.2.1).append (q2.append (fr k4 hz.2.2.2))
    have newcells : Cells (w.setCells b' o' nvals) s so (u1 ++ (vr ++ u3)) := by
      rw [Cells.app, Cells.app, hlen]
      refine ⟨r7.1.other (fun j hj => hsame _ (fun h => .inl ?_)), q1, ?_⟩
      · have := (q6 h).1; omega
      · rw [show so + i * e + vr.length = so + i * e + u2.length by omega]
        refine r7.2.2.other (fun j hj => hsame _ (fun h => .inr ?_))
        have := (q6 h).2; omega
    have own' := RepL.own (rows := rows.set i r') (len := len) (cap := cap) (by simp [r1]) r2 r3 (fun q hq => by
        rcases List.mem_or_eq_of_mem_set hq with h | h
        · exact r4 q h
        · rw [h, lr', hre]) (by rw [size_setCells]; exact r5) (r6.setCells q7) newcells newrow (fr g2 hz.2.1)
    have hset3 : (c1 ++ AC.sl .own e rows :: c2).set k (.sl .own e (rows.set i r')) = c1 ++ .sl .own e (rows.set i r') :: c2 := by
      rw [← e1, List.set_append_right _ _ (Nat.le_refl _)]; simp
    refine ⟨v1 ++ .slice (some ⟨s, so, none⟩) len cap :: v2, _, ?_, by rw [hset3]; exact (fr g1 hz.1).append own', by simp, fun x => ?_, .inr ?_, fun h => absurd h hbb, q7⟩
    · exact hc.same (heap_setCells (fun e => hbb e.symm) _ _ _)
    · have h1 := tot x
      have h2 := q4 x
      omega
    · have h2 := tot b'
      omega
end Go.Fw
namespace Go.Fw
open Go

theorem val_put (σ : ASt) (r : Res) (e : Val) : (σ.put (r, e)).val = fun x => if x = r then nrm r e else σ.val x := by
  funext x
  cases r with
  | t n =>
    cases x with
    | t m => by_cases h : m = n <;> simp [ASt.put, ASt.val, look, nrm, h, eq_comm]
    | b m => simp [ASt.put, ASt.val]
    | v m => simp [ASt.put, ASt.val]
  | b n =>
    cases x with
    | t m => simp [ASt.put, ASt.val]
    | b m => by_cases h : m = n <;> simp [ASt.put, ASt.val, look, nrm, h, eq_comm]
    | v m => simp [ASt.put, ASt.val]
  | v q =>
    cases x with
    | t m => cases e <;> simp [ASt.put, ASt.val]
    | b m => cases e <;> simp [ASt.put, ASt.val]
    | v m => by_cases h : q = m <;> cases e <;> simp [ASt.put, ASt.val, lookv, nrm, h, eq_comm] <;> exact fun e => absurd e h

theorem val_puts (ws : List (Res × Val)) : ∀ σ : ASt, (σ.puts ws).val = appl σ.val ws := by
  induction ws with
  | nil => intro σ; rfl
  | cons x ws ih => intro σ; obtain ⟨r, e⟩ := x; rw [ASt.puts, ih, val_put]; rfl

theorem appl_append (v : Res → Val) (a b : List (Res × Val)) : appl v (a ++ b) = appl (appl v a) b := by
  induction a generalizing v with
  | nil => rfl
  | cons x a ih => obtain ⟨r, e⟩ := x; exact ih _

theorem appl_not {ws : List (Res × Val)} {r : Res} : ∀ {v : Res → Val}, (∀ x ∈ ws, x.1 ≠ r) → appl v ws r = v r := by
  induction ws with
  | nil => intros; rfl
  | cons x ws ih =>
    intro v h
    obtain ⟨s, e⟩ := x
    rw [appl, ih (fun y hy => h y (by simp [hy])), if_neg (fun e' => h (s, e) (by simp) e'.symm)]

/-- Footprints, some of them new. -/
def upF (φ : Res → Foot) : List (Res × Foot) → Res → Foot
  | [], r => φ r
  | (s, f) :: N, r => if r = s then f else upF φ N r

theorem upF_not {φ : Res → Foot} {N : List (Res × Foot)} {r : Res} (h : r ∉ N.map (·.1)) : upF φ N r = φ r := by
  induction N with
  | nil => rfl
  | cons x N ih => obtain ⟨s, f⟩ := x; simp at h; rw [upF, if_neg h.1, ih (by simpa using h.2)]
theorem upF_mem {φ : Res → Foot} {N : List (Res × Foot)} {r : Res} (h : r ∈ N.map (·.1)) : ∃ f, (r, f) ∈ N ∧ upF φ N r = f := by
  induction N with
  | nil => simp at h
  | cons x N ih =>
    obtain ⟨s, f⟩ := x
    by_cases e : r = s
    · subst e; exact ⟨f, by simp, by simp [upF]⟩
    · simp only [List.map_cons, List.mem_cons, e, false_or] at h
      obtain ⟨g, h1, h2⟩ := ih h
      exact ⟨g, by simp [h1], by rw [upF, if_neg e, h2]⟩

section
variable {E : Env} {v v' : Res → Val} {tm tm' : Nat → Value} {w w' : World} {β β' : Nat → Nat} {φ : Res → Foot}

/-- A step out of its parts. -/
theorem Stp.of (h : RelW E v tm w β φ) (hC : ∀ b, E.C b → b < E.w0.heap.size) (N : List (Res × Foot))
    (hn1 : ∀ x ∈ N, ∀ b, x.2 b ≤ 1) (hdis : ∀ x ∈ N, ∀ y ∈ N, x.1 ≠ y.1 → ∀ b, x.2 b ≠ 0 → y.2 b = 0)
    (hsrc : ∀ x ∈ N, ∀ b, x.2 b ≠ 0 → (∃ r ∈ N.map (·.1), φ r b ≠ 0) ∨ (w.heap.size ≤ b ∧ b < w'.heap.size))
    (same : ∀ r, (∀ q, r ≠ .v q) → r ∉ N.map (·.1) → v' r = v r)
    (vers : ∀ q, ver v q ≤ ver v' q) (bump : ∀ q, Rt.res q ∈ N.map (·.1) → isNope (v q.res) = false → ver v q < ver v' q)
    (btm : ∀ n, .t n ∉ N.map (·.1) → tm' n = tm n) (bβ : ∀ n, .b n ∉ N.map (·.1) → β' n = β n)
    (bkeep : ∀ n, .b n ∈ N.map (·.1) → isNope (v (.b n)) = false → β' n = β n ∧ upF φ N (.b n) (β n) ≠ 0 ∧ isNope (v' (.b n)) = false)
    (hheap : ∀ b, b < w.heap.size → (∀ r ∈ N.map (·.1), φ r b = 0) → w'.heap[b]? = w.heap[b]?)
    (os : w'.os = w.os) (tape : w'.tape = w.tape) (output : w'.output = w.output) (size : w.heap.size ≤ w'.heap.size) :
    Stp E v v' tm tm' w w' β β' φ (upF φ N) (· ∈ N.map (·.1)) := by
  have hz := h.size
  have dom : ∀ r b, upF φ N r b ≠ 0 → b < w'.heap.size ∧ ¬ E.C b ∧ (E.w0.heap.size ≤ b ∨ E.M b) := by
    intro r b hb
    by_cases hr : r ∈ N.map (·.1)
    · obtain ⟨f, h1, h2⟩ := upF_mem (φ := φ) hr
      rw [h2] at hb
      rcases hsrc _ h1 b hb with ⟨s, _, h4⟩ | h3
      · have := h.dom s b h4; exact ⟨by omega, this.2⟩
      · exact ⟨h3.2, fun hc => by have := hC b hc; omega, .inl (by omega)⟩
    · rw [upF_not hr] at hb; have := h.dom r b hb; exact ⟨by omega, this.2⟩
  have uq : ∀ r s b, r ∈ N.map (·.1) → s ∉ N.map (·.1) → upF φ N r b ≠ 0 → upF φ N s b ≠ 0 → False := by
    intro r s b hr hs h1 h2
    obtain ⟨f, h3, h4⟩ := upF_mem (φ := φ) hr
    rw [h4] at h1
    rw [upF_not hs] at h2
    rcases hsrc _ h3 b h1 with ⟨q, hq, h6⟩ | h5
    · have := h.uniq q s b h6 h2; subst this; exact hs hq
    · have := (h.dom s b h2).1; omega
  refine ⟨?_, ?_, dom, fun r hq hw => ⟨same r hq hw, upF_not hw⟩, vers, bump, btm, bβ, bkeep, ?_, ?_, os, tape, output, size, ?_⟩
  · intro r b
    by_cases hr : r ∈ N.map (·.1)
    · obtain ⟨f, h1, h2⟩ := upF_mem (φ := φ) hr
      rw [h2]; exact hn1 _ h1 b
    · rw [upF_not hr]; exact h.le1 r b
  · intro r s b h1 h2
    by_cases hr : r ∈ N.map (·.1) <;> by_cases hs : s ∈ N.map (·.1)
    · obtain ⟨f, h3, h4⟩ := upF_mem (φ := φ) hr
      obtain ⟨g, h5, h6⟩ := upF_mem (φ := φ) hs
      rw [h4] at h1
      rw [h6] at h2
      exact Classical.byContradiction fun e => h2 (hdis _ h3 _ h5 e b h1)
    · exact (uq r s b hr hs h1 h2).elim
    · exact (uq s r b hs hr h2 h1).elim
    · rw [upF_not hr] at h1; rw [upF_not hs] at h2; exact h.uniq r s b h1 h2
  · intro b hb hf r
    by_cases hr : r ∈ N.map (·.1)
    · obtain ⟨f, h1, h2⟩ := upF_mem (φ := φ) hr
      rw [h2]
      refine Classical.byContradiction fun e => ?_
      rcases hsrc _ h1 b e with ⟨s, _, h4⟩ | h3
      · exact h4 (hf s)
      · omega
    · rw [upF_not hr]; exact hf r
  · intro b hb hf
    refine hheap b hb fun r hr => ?_
    rcases hf with hf | ⟨s, hs, h1⟩
    · exact hf r
    · refine Classical.byContradiction fun e => ?_
      have := h.uniq r s b e h1; subst this; exact hs hr
  · intro b hb hm
    refine hheap b hb fun r _ => ?_
    refine Classical.byContradiction fun e => ?_
    exact hm (h.dom r b e).2.2

/-- What a write of one slot, with some slots used up, does to the valuation. -/
structure PutD (v v' : Res → Val) (d : Nat) (st : Stamps) (tv : TV) (L : List Nat) : Prop where
  here : v' (.t d) = .t st tv
  gone : ∀ n ∈ L, v' (.t n) = .nope
  same : ∀ r, (∀ q, r ≠ .v q) → r ≠ .t d → (∀ n ∈ L, r ≠ .t n) → v' r = v r
  vers : ∀ q, ver v q ≤ ver v' q
  bump1 : isNope (v (.t d)) = false → ver v (.t d) < ver v' (.t d)
  bump2 : ∀ n ∈ L, ver v (.t n) < ver v' (.t n)

theorem appl_dropL (v : Res → Val) : ∀ (L : List Nat) (v0 : Res → Val),
    (∀ n, appl v0 (dropL v L) (.t n) = if n ∈ L then .nope else v0 (.t n)) ∧ (∀ n, appl v0 (dropL v L) (.b n) = v0 (.b n)) ∧
      (∀ q, appl v0 (dropL v L) (.v q) = if ∃ n ∈ L, q = .t n then .v (ver v q + 1) else v0 (.v q))
  | [], v0 => by simp [dropL, appl]
  | m :: L, v0 => by
    obtain ⟨h1, h2, h3⟩ := appl_dropL v L (appl v0 (dropT v m))
    rw [dropL, appl_append]
    refine ⟨fun n => ?_, fun n => ?_, fun q => ?_⟩
    · rw [h1]
      by_cases hn : n ∈ L
      · simp [hn]
      · by_cases e : n = m <;> simp [hn, e, dropT, appl, nrm]
    · rw [h2]; simp [dropT, appl]
    · rw [h3]
      by_cases hq : ∃ n ∈ L, q = .t n
      · rw [if_pos hq, if_pos (by obtain ⟨n, hn, e⟩ := hq; exact ⟨n, by simp [hn], e⟩)]
      · rw [if_neg hq]
        by_cases e : q = .t m
        · subst e; simp [dropT, appl, nrm]
        · rw [if_neg (by rintro ⟨n, hn, e'⟩; exact (List.mem_cons.1 hn).elim (fun h => e (by rw [e', h])) (fun h => hq ⟨n, h, e'⟩))]
          simp [dropT, appl, e]

theorem PutD.of (v : Res → Val) (d : Nat) (st : Stamps) (tv : TV) (L : List Nat) (hd : d ∉ L) : PutD v (appl v (putT v d st tv ++ dropL v L)) d st tv L := by
  rw [appl_append]
  obtain ⟨h1, h2, h3⟩ := appl_dropL v L (appl v (putT v d st tv))
  have p1 : ∀ n, appl v (putT v d st tv) (.t n) = if n = d then .t st tv else v (.t n) := by
    intro n; unfold putT; split <;> by_cases e : n = d <;> simp [appl, nrm, e]
  have p2 : ∀ n, appl v (putT v d st tv) (.b n) = v (.b n) := by
    intro n; unfold putT; split <;> simp [appl]
  have p3 : ∀ q, ver (appl v (putT v d st tv)) q = if q = .t d ∧ isNope (v (.t d)) = false then ver v q + 1 else ver v q := by
    intro q
    unfold putT
    split
    · rename_i hh
      simp [appl, ver, hh, isNope]
    · rename_i hh
      have hf : isNope (v (.t d)) = false := by cases hv : v (.t d) <;> simp_all [isNope]
      by_cases e : q = .t d
      · subst e; simp [appl, ver, nrm, hf]
      · simp [appl, ver, e]
  have p4 : ∀ q, ver (appl (appl v (putT v d st tv)) (dropL v L)) q = if ∃ n ∈ L, q = .t n then ver v q + 1 else ver (appl v (putT v d st tv)) q := by
    intro q
    by_cases hq : ∃ n ∈ L, q = .t n
    · rw [if_pos hq]
      have := h3 q
      rw [if_pos hq] at this
      unfold ver at this ⊢
      rw [this]
    · rw [if_neg hq]
      have := h3 q
      rw [if_neg hq] at this
      unfold ver
      rw [this]
  refine ⟨by rw [h1, if_neg hd, p1]; simp, fun n hn => by rw [h1, if_pos hn], ?_, ?_, ?_, ?_⟩
  · intro r hq hr hL
    cases r with
    | t n => rw [h1, if_neg (fun h => hL n h rfl), p1, if_neg (fun e => hr (by rw [e]))]
    | b n => rw [h2, p2]
    | v q => exact absurd rfl (hq q)
  · intro q
    rw [p4, p3]
    split
    · omega
    · split <;> omega
  · intro hf
    rw [p4, p3]
    split
    · omega
    · simp [hf]
  · intro n hn
    rw [p4, if_pos ⟨n, hn, rfl⟩]; omega

def slotN (f : Foot) (d : Nat) (L : List Nat) : List (Res × Foot) := (.t d, f) :: L.map fun n => (.t n, fun _ => 0)
theorem slotN_fst (f : Foot) (d : Nat) (L : List Nat) (r : Res) : r ∈ (slotN f d L).map (·.1) ↔ r = .t d ∨ ∃ n ∈ L, r = .t n := by
  simp [slotN]
  constructor
  · rintro (h | ⟨n, h1, h2⟩)
    · exact .inl h
    · exact .inr ⟨n, h1, h2.symm⟩
  · rintro (h | ⟨n, h1, h2⟩)
    · exact .inl h
    · exact .inr ⟨n, h1, h2.symm⟩

/-- The step that puts a value into a slot; some slots are used up, and only what they held alone may turn. -/
theorem Stp.slot (h : RelW E v tm w β φ) (hC : ∀ b, E.C b → b < E.w0.heap.size) {d : Nat} {st : Stamps} {tv : TV} {L : List Nat} (hp : PutD v v' d st tv L) (f : Foot) (hf1 : ∀ b, f b ≤ 1)
    (hsrc : ∀ b, f b ≠ 0 → (∃ n ∈ L, φ (.t n) b ≠ 0) ∨ (w.heap.size ≤ b ∧ b < w'.heap.size)) (btm : ∀ n, n ≠ d → tm' n = tm n)
    (hheap : ∀ b, b < w.heap.size → (∀ n ∈ L, φ (.t n) b = 0) → w'.heap[b]? = w.heap[b]?)
    (os : w'.os = w.os) (tape : w'.tape = w.tape) (output : w'.output = w.output) (size : w.heap.size ≤ w'.heap.size) :
    Stp E v v' tm tm' w w' β β φ (upF φ (slotN f d L)) (· ∈ (slotN f d L).map (·.1)) := by
  refine Stp.of h hC _ ?_ ?_ ?_ ?_ hp.vers ?_ ?_ (fun _ _ => rfl) ?_ ?_ os tape output size
  · intro x hx b
    simp only [slotN, List.mem_cons, List.mem_map] at hx
    rcases hx with rfl | ⟨n, _, rfl⟩
    · exact hf1 b
    · exact Nat.zero_le _
  · intro x hx y hy hne b hb
    simp only [slotN, List.mem_cons, List.mem_map] at hx hy
    rcases hx with rfl | ⟨n, _, rfl⟩
    · rcases hy with rfl | ⟨m, _, rfl⟩
      · exact absurd rfl hne
      · rfl
    · exact absurd rfl hb
  · intro x hx b hb
    simp only [slotN, List.mem_cons, List.mem_map] at hx
    rcases hx with rfl | ⟨n, _, rfl⟩
    · rcases hsrc b hb with ⟨n, h1, h2⟩ | h1
      · exact .inl ⟨.t n, (slotN_fst _ _ _ _).2 (.inr ⟨n, h1, rfl⟩), h2⟩
      · exact .inr h1
    · exact absurd rfl hb
  · intro r hq hr
    rw [slotN_fst] at hr
    exact hp.same r hq (fun e => hr (.inl e)) (fun n hn e => hr (.inr ⟨n, hn, e⟩))
  · intro q hq hf
    rw [slotN_fst] at hq
    rcases hq with e | ⟨n, hn, e⟩
    · cases q with
      | b m => simp [Rt.res] at e
      | t m => simp [Rt.res] at e; subst e; exact hp.bump1 hf
    · cases q with
      | b m => simp [Rt.res] at e
      | t m => simp [Rt.res] at e; subst e; exact hp.bump2 _ hn
  · intro n hn
    rw [slotN_fst] at hn
    exact btm n (fun e => hn (.inl (by rw [e])))
  · intro n hn
    rw [slotN_fst] at hn
    simp at hn
  · intro b hb hf
    exact hheap b hb fun n hn => hf _ ((slotN_fst _ _ _ _).2 (.inr ⟨n, hn, rfl⟩))

theorem RelW.slot (h : RelW E v tm w β φ) {d : Nat} {st : Stamps} {tv : TV} {L : List Nat} (hp : PutD v v' d st tv L) (hdL : d ∉ L) {f : Foot}
    (hs : Stp E v v' tm tm' w w' β β φ (upF φ (slotN f d L)) (· ∈ (slotN f d L).map (·.1)))
    (hst : ∀ p ∈ st, p.1 ≠ .t d ∧ ∀ n ∈ L, p.1 ≠ .t n) (hlive : Live v st) (hh : ∀ p ∈ st, isNope (v p.1.res) = false)
    (hrep : RepTV E w' tm' β (upF φ (slotN f d L)) v' st (tm' d) f tv) : RelW E v' tm' w' β (upF φ (slotN f d L)) := by
  have notW : ∀ p ∈ st, p.1.res ∉ (slotN f d L).map (·.1) := by
    intro p hp hw
    rw [slotN_fst] at hw
    obtain ⟨h1, h2⟩ := hst p hp
    rcases hw with e | ⟨n, hn, e⟩
    · cases hq : p.1 with
      | b m => rw [hq] at e; simp [Rt.res] at e
      | t m => rw [hq] at e; simp [Rt.res] at e; exact h1 (by rw [hq, e])
    · cases hq : p.1 with
      | b m => rw [hq] at e; simp [Rt.res] at e
      | t m => rw [hq] at e; simp [Rt.res] at e; exact h2 n hn (by rw [hq, e])
  refine h.step hs ?_ ?_ ?_ ?_
  · intro n st' tv' hn hv p hp'
    rw [slotN_fst] at hn
    rcases hn with e | ⟨m, hm, e⟩
    · simp at e; subst e
      rw [hp.here] at hv
      simp at hv
      obtain ⟨rfl, rfl⟩ := hv
      have := hlive p hp'
      have := hp.vers p.1
      omega
    · simp at e; subst e
      rw [hp.gone n hm] at hv
      simp at hv
  · intro n st' tv' hn hv _ p hp'
    rw [slotN_fst] at hn
    rcases hn with e | ⟨m, hm, e⟩
    · simp at e; subst e
      rw [hp.here] at hv
      simp at hv
      obtain ⟨rfl, rfl⟩ := hv
      rw [hs.same _ p.1.res_ne (notW p hp') |>.1]
      exact hh p hp'
    · simp at e; subst e
      rw [hp.gone n hm] at hv
      simp at hv
  · intro n st' tv' hn hv _
    rw [slotN_fst] at hn
    rcases hn with e | ⟨m, hm, e⟩
    · simp at e; subst e
      rw [hp.here] at hv
      simp at hv
      obtain ⟨rfl, rfl⟩ := hv
      simpa [upF, slotN] using hrep
    · simp at e; subst e
      rw [hp.gone n hm] at hv
      simp at hv
  · intro n cs hn
    rw [slotN_fst] at hn
    simp at hn

/-- Nothing in memory turns but the count of draws. -/
def Still (w w' : World) : Prop := w'.heap = w.heap ∧ w'.os = w.os ∧ w'.tape = w.tape ∧ w'.output = w.output

/-- A value that held under the state before is put into a slot. -/
theorem RelW.putV (h : RelW E v tm w β φ) (hC : ∀ b, E.C b → b < E.w0.heap.size) {d : Nat} {st : Stamps} {tv : TV} {L : List Nat} (hdL : d ∉ L) (hw : Still w w') {f : Foot} (hf1 : ∀ b, f b ≤ 1)
    (hsrc : ∀ b, f b ≠ 0 → ∃ n ∈ L, φ (.t n) b ≠ 0) {u : Value} (htm : ∀ n, tm' n = if n = d then u else tm n)
    (hst : ∀ p ∈ st, p.1 ≠ .t d ∧ ∀ n ∈ L, p.1 ≠ .t n) (hlive : Live v st) (hh : ∀ p ∈ st, isNope (v p.1.res) = false)
    (hrep : RepTV E w tm β φ v st u f tv) : ∃ φ', RelW E (appl v (putT v d st tv ++ dropL v L)) tm' w' β φ' := by
  obtain ⟨w1, w2, w3, w4⟩ := hw
  have hp := PutD.of v d st tv L hdL
  have hs := Stp.slot (w' := w') (tm' := tm') h hC hp f hf1 (fun b hb => .inl (hsrc b hb)) (fun n hn => by rw [htm, if_neg hn]) (fun b _ _ => by rw [w1]) w2 w3 w4 (by rw [w1]; exact Nat.le_refl _)
  refine ⟨_, h.slot hp hdL hs hst hlive hh ?_⟩
  rw [htm, if_pos rfl]
  refine hs.carry h ?_ (fun b _ => by rw [w1]) hrep
  intro p hp' hw
  rw [slotN_fst] at hw
  obtain ⟨h1, h2⟩ := hst p hp'
  rcases hw with e | ⟨n, hn, e⟩
  · cases hq : p.1 with
    | b m => rw [hq] at e; simp [Rt.res] at e
    | t m => rw [hq] at e; simp [Rt.res] at e; exact h1 (by rw [hq, e])
  · cases hq : p.1 with
    | b m => rw [hq] at e; simp [Rt.res] at e
    | t m => rw [hq] at e; simp [Rt.res] at e; exact h2 n hn (by rw [hq, e])
end
end Go.Fw
