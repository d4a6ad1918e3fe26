/- The framework, part D: cells at a place are read, and written. Conditions: none. -/
import Derived.Test.YtmbkipogmaimaaaGreatDoorFwC
namespace Go.Fw
open Go

theorem heap_setCell (w : World) (b o : Nat) (v : Value) {x : Nat} (h : x ≠ b) : (w.setCell ⟨b, o, none⟩ v).heap[x]? = w.heap[x]? := by
  simp only [World.setCell, Array.getElem?_modify]
  rw [if_neg (fun e => h e.symm)]
theorem heap_setCells {b x : Nat} (h : x ≠ b) : ∀ (vs : List Value) (o : Nat) (w : World), (w.setCells b o vs).heap[x]? = w.heap[x]?
  | [], _, _ => rfl
  | v :: r, o, w => by rw [World.setCells, heap_setCells h r, heap_setCell w b o v h]
theorem size_setCells {b : Nat} : ∀ (vs : List Value) (o : Nat) (w : World), (w.setCells b o vs).heap.size = w.heap.size
  | [], _, _ => rfl
  | v :: r, o, w => by rw [World.setCells, size_setCells r, World.size_setCell]
theorem os_setCells {b : Nat} : ∀ (vs : List Value) (o : Nat) (w : World), (w.setCells b o vs).os = w.os ∧ (w.setCells b o vs).tape = w.tape ∧ (w.setCells b o vs).output = w.output
  | [], _, _ => ⟨rfl, rfl, rfl⟩
  | v :: r, o, w => by rw [World.setCells]; exact os_setCells r (o + 1) _
theorem isSome_setCells {b : Nat} {x : Addr} (vs : List Value) (o : Nat) (w : World) (hx : x.spot = none) (hc : ∀ j, j < vs.length → (w.cell? ⟨b, o + j, none⟩).isSome = true) (h : (w.cell? x).isSome = true) : ((w.setCells b o vs).cell? x).isSome = true := by
  by_cases hin : x.block = b ∧ o ≤ x.off ∧ x.off < o + vs.length
  · obtain ⟨h1, h2, h3⟩ := hin
    obtain ⟨xb, xo, xs⟩ := x
    dsimp only at h1 h2 h3 hx ⊢
    subst h1 hx
    have := World.cell?_setCells_in xb vs o w hc (xo - o) (by omega)
    rw [show o + (xo - o) = xo by omega] at this
    rw [this]; rfl
  · rw [World.cell?_setCells_out b vs o w x (fun h1 _ => by
      by_cases h2 : o ≤ x.off
      · exact .inr (Nat.le_of_not_lt fun h3 => hin ⟨h1, h2, h3⟩)
      · exact .inl (by omega))]
    exact h
theorem Avail.setCells {w : World} {b c o n q : Nat} {vs : List Value} (h : Avail w b o n) (hc : ∀ j, j < vs.length → (w.cell? ⟨c, q + j, none⟩).isSome = true) : Avail (w.setCells c q vs) b o n :=
  fun j hj => ⟨isSome_setCells vs q w rfl hc (h j hj).1, by rw [World.frozen?_setCells]; exact (h j hj).2⟩

theorem RepL.foot0 {w : World} {Xs Xb : Nat → Prop} {c : List AC} {v : List Value} {φ : Foot} (h : RepL w Xs Xb c v φ) : noOwnL c = true → ∀ x, φ x = 0 := by
  induction h with
  | nil => intros; rfl
  | own => intro h; simp [noOwnL, AC.noOwn] at h
  | refOwn => intro h; simp [noOwnL, AC.noOwn] at h
  | sc _ _ ih => intro h; simp only [noOwnL, Bool.and_eq_true] at h; exact ih h.2
  | sh _ _ _ _ _ _ _ _ _ ih => intro h; simp only [noOwnL, Bool.and_eq_true] at h; exact ih h.2
  | bor _ _ _ _ _ _ _ _ _ ih => intro h; simp only [noOwnL, Bool.and_eq_true] at h; exact ih h.2
  | refSh _ _ _ _ _ ih => intro h; simp only [noOwnL, Bool.and_eq_true] at h; exact ih h.2
  | refBor _ _ _ _ _ ih => intro h; simp only [noOwnL, Bool.and_eq_true] at h; exact ih h.2

theorem Cells.app {w : World} {b o : Nat} {u v : List Value} : Cells w b o (u ++ v) ↔ Cells w b o u ∧ Cells w b (o + u.length) v := by
  constructor
  · intro h
    refine ⟨fun j hj => ?_, fun j hj => ?_⟩
    · have := h j (by simp; omega)
      rwa [List.getElem_append_left hj] at this
    · have := h (u.length + j) (by simp; omega)
      rw [List.getElem_append_right (by omega)] at this
      rw [Nat.add_assoc]
      simpa using this
  · rintro ⟨h1, h2⟩ j hj
    by_cases hu : j < u.length
    · rw [List.getElem_append_left hu]; exact h1 j hu
    · rw [List.getElem_append_right (by omega)]
      have := h2 (j - u.length) (by simp at hj; omega)
      rwa [show o + u.length + (j - u.length) = o + j by omega] at this

/-- A cell that holds a row alone. -/
theorem RepL.at_own {w : World} {Xs Xb : Nat → Prop} {e s so len cap : Nat} {rows : List (List AC)} : ∀ {cs : List AC} {vals : List Value} {φ : Foot}, RepL w Xs Xb cs vals φ → ∀ {k : Nat},
    cs[k]? = some (.sl .own e rows) → vals[k]? = some (.slice (some ⟨s, so, none⟩) len cap) →
    ∃ vs ψ c1 c2 v1 v2 φ1 φ2, cs = c1 ++ .sl .own e rows :: c2 ∧ c1.length = k ∧ vals = v1 ++ .slice (some ⟨s, so, none⟩) len cap :: v2 ∧ v1.length = k ∧ RepL w Xs Xb c1 v1 φ1 ∧ RepL w Xs Xb c2 v2 φ2 ∧
      rows.length = len ∧ len ≤ cap ∧ 0 < e ∧ (∀ r ∈ rows, r.length = e) ∧ s < w.heap.size ∧ Avail w s so (cap * e) ∧ Cells w s so vs ∧ RepL w Xs Xb rows.flatten vs ψ ∧
      ∀ x, φ x = φ1 x + ((if x = s then 1 else 0) + ψ x) + φ2 x := by
  intro cs vals φ h
  induction cs generalizing vals φ with
  | nil => intro k hk; simp at hk
  | cons c cs ih =>
    intro k hk hv
    obtain ⟨v, vs, φ1, φ2, rfl, h1, h2, hs⟩ := h.uncons
    cases k with
    | zero =>
      simp at hk hv
      subst hk hv
      cases h1 with
      | sc hsc t =>
        exfalso
        cases rows <;> simp [Scal] at hsc
      | own hl hc he hr hb ha hcv hh t =>
        cases t
        exact ⟨_, _, [], cs, [], vs, _, _, rfl, rfl, rfl, rfl, .nil, h2, hl, hc, he, hr, hb, ha, hcv, hh, fun x => by rw [hs x]; first | omega | (dsimp only; omega)⟩
    | succ k =>
      simp at hk hv
      obtain ⟨us, ψ, c1, c2, v1, v2, χ1, χ2, rfl, e1, rfl, e2, g1, g2, r1, r2, r3, r4, r5, r6, r7, r8, r9⟩ := ih h2 hk hv
      exact ⟨us, ψ, c :: c1, c2, v :: v1, v2, _, χ2, rfl, by simp [e1], rfl, by simp [e2], h1.append g1, g2, r1, r2, r3, r4, r5, r6, r7, r8, fun x => by rw [hs x, r9 x]; first | omega | (dsimp only; omega)⟩

theorem flatten_len {e : Nat} : ∀ {rows : List (List AC)}, (∀ r ∈ rows, r.length = e) → rows.flatten.length = rows.length * e
  | [], _ => by simp
  | r :: rs, h => by
    rw [List.flatten_cons, List.length_append, h r (by simp), flatten_len (fun q hq => h q (by simp [hq])), List.length_cons, Nat.add_mul]; omega

theorem row_split {rows : List (List AC)} {i : Nat} {r : List AC} (h : rows[i]? = some r) : rows = rows.take i ++ r :: rows.drop (i + 1) ∧ i < rows.length := by
  obtain ⟨hi, rfl⟩ := List.getElem?_eq_some_iff.1 h
  exact ⟨by rw [List.getElem_cons_drop, List.take_append_drop], hi⟩

theorem RepL.at_val {w : World} {Xs Xb : Nat → Prop} {cs : List AC} {vals : List Value} {φ : Foot} (h : RepL w Xs Xb cs vals φ) {b o : Nat} (hc : Cells w b o vals) {k : Nat} {c : AC} (hk : cs[k]? = some c) {u : Value}
    (hu : w.cell? ⟨b, o + k, none⟩ = some u) : vals[k]? = some u := by
  obtain ⟨hk', _⟩ := List.getElem?_eq_some_iff.1 hk
  have hl := h.length
  have := hc k (by omega)
  rw [hu] at this
  rw [List.getElem?_eq_getElem (by omega)]
  exact this.symm

theorem cellsAt_cons {cs : List AC} {k i e off : Nat} {p : Path} {xs : List AC} (h : cellsAt cs ((k, i, e) :: p) off = some xs) :
    ∃ rows r, cs[k]? = some (.sl .own e rows) ∧ rows[i]? = some r ∧ cellsAt r p off = some xs := by
  rw [cellsAt] at h
  split at h
  · rename_i e' rows hk
    by_cases he : e' = e
    · subst he
      rw [if_pos rfl] at h
      split at h
      · rename_i r hr
        exact ⟨rows, r, hk, hr, h⟩
      · simp at h
    · rw [if_neg he] at h; simp at h
  · simp at h
theorem setAt_cons {cs : List AC} {k i e off : Nat} {p : Path} {new cs' : List AC} (h : setAt cs ((k, i, e) :: p) off new = some cs') :
    ∃ rows r r', cs[k]? = some (.sl .own e rows) ∧ rows[i]? = some r ∧ setAt r p off new = some r' ∧ cs' = cs.set k (.sl .own e (rows.set i r')) := by
  rw [setAt] at h
  split at h
  · rename_i e' rows hk
    by_cases he : e' = e
    · subst he
      rw [if_pos rfl] at h
      split at h
      · rename_i r hr
        split at h
        · rename_i r' hr'
          simp only [Option.some.injEq] at h
          exact ⟨rows, r, r', hk, hr, hr', h.symm⟩
        · simp at h
      · simp at h
    · rw [if_neg he] at h; simp at h
  · simp at h

/-- What lies at a place. -/
theorem along_read {w : World} {Xs Xb : Nat → Prop} {own : Nat → Prop} : ∀ (p : Path) {cs : List AC} {off b o b' o' : Nat} {vals : List Value} {φ : Foot} {xs : List AC},
    Cells w b o vals → RepL w Xs Xb cs vals φ → Along w own b o p off b' o' → cellsAt cs p off = some xs →
    ∃ vs ψ, Cells w b' o' vs ∧ RepL w Xs Xb xs vs ψ ∧ (∀ x, ψ x ≤ φ x)
  | [], cs, off, b, o, b', o', vals, φ, xs, hc, hr, ⟨_, e1, e2⟩, hx => by
    simp only [cellsAt, Option.some.injEq] at hx
    subst e1 e2 hx
    have h' : RepL w Xs Xb (cs.take off ++ cs.drop off) vals φ := by rw [List.take_append_drop]; exact hr
    obtain ⟨v1, v2, φ1, φ2, rfl, h1, h2, hs⟩ := RepL.split _ _ h'
    have hl := h1.length
    rw [Cells.app] at hc
    by_cases hoff : off ≤ cs.length
    · rw [List.length_take, Nat.min_eq_left hoff] at hl
      rw [hl] at hc
      exact ⟨v2, φ2, hc.2, h2, fun x => by rw [hs x]; first | omega | (dsimp only; omega)⟩
    · have h3 := h2.length
      rw [List.length_drop, show cs.length - off = 0 by omega] at h3
      have : v2 = [] := List.eq_nil_of_length_eq_zero h3
      subst this
      exact ⟨[], φ2, fun j hj => absurd hj (by simp), h2, fun x => by rw [hs x]; first | omega | (dsimp only; omega)⟩
  | (k, i, e) :: p, cs, off, b, o, b', o', vals, φ, xs, hc, hr, ⟨_, s, so, len, cap, hcell, hal⟩, hx => by
    obtain ⟨rows, r, hk, hri, hx2⟩ := cellsAt_cons hx
    obtain ⟨vs, ψ, c1, c2, v1, v2, φ1, φ2, rfl, e1, rfl, e2, g1, g2, r1, r2, r3, r4, r5, r6, r7, r8, r9⟩ := hr.at_own hk (hr.at_val hc hk hcell)
    obtain ⟨hrow, hi⟩ := row_split hri
    have hfl : rows.flatten = (rows.take i).flatten ++ (r ++ (rows.drop (i + 1)).flatten) := by conv => lhs; rw [hrow]; simp
    rw [hfl] at r8
    obtain ⟨u1, u2, ψ1, ψ2, rfl, k1, k2, ks⟩ := RepL.split _ _ r8
    obtain ⟨u2, u3, ψ3, ψ4, rfl, k3, k4, ks'⟩ := RepL.split _ _ k2
    have hlen : u1.length = i * e := by
      rw [k1.length, flatten_len (fun q hq => r4 q (List.mem_of_mem_take hq)), List.length_take, Nat.min_eq_left (by omega)]
    rw [Cells.app, Cells.app, hlen] at r7
    obtain ⟨vs', ψ', q1, q2, q3⟩ := along_read p r7.2.1 k3 hal hx2
    exact ⟨vs', ψ', q1, q2, fun x => by have := q3 x; have := ks x; have := ks' x; have := r9 x; omega⟩

theorem setAt_len : ∀ (p : Path) {cs : List AC} {off : Nat} {new cs' : List AC}, setAt cs p off new = some cs' → cs'.length = cs.length
  | [], cs, off, new, cs', h => by
    simp only [setAt] at h
    split at h
    · simp only [Option.some.injEq] at h; subst h; simp; omega
    · simp at h
  | (k, i, e) :: p, cs, off, new, cs', h => by
    obtain ⟨rows, r, r', _, _, _, rfl⟩ := setAt_cons h
    simp

theorem Cells.other {w w' : World} {b o : Nat} {vals : List Value} (h : Cells w b o vals) (hs : ∀ j, j < vals.length → w'.cell? ⟨b, o + j, none⟩ = w.cell? ⟨b, o + j, none⟩) : Cells w' b o vals :=
  fun j hj => (hs j hj).trans (h j hj)

/-- Other cells are written at a place. -/
theorem along_write {w : World} {Xs Xb : Nat → Prop} {own : Nat → Prop} {nvals : List Value} {new : List AC} {ψ : Foot} (hn : RepL w Xs Xb new nvals ψ) {b' o' : Nat} :
    ∀ (p : Path) {cs cs' : List AC} {off b o : Nat} {vals : List Value} {φ : Foot}, Cells w b o vals → RepL w Xs Xb cs vals φ →
      (∀ x, ((if x = b then 1 else 0) + φ x) + ψ x ≤ 1) → (∀ x, (if x = b then 1 else 0) + φ x ≠ 0 → ¬ Xs x ∧ ¬ Xb x) →
      Along w own b o p off b' o' → setAt cs p off new = some cs' →
      ∃ vals' φ', Cells (w.setCells b' o' nvals) b o vals' ∧ RepL (w.setCells b' o' nvals) Xs Xb cs' vals' φ' ∧ vals'.length = vals.length ∧ (∀ x, φ' x ≤ φ x + ψ x) ∧
        (b' = b ∨ φ b' ≠ 0) ∧ (b' = b → o ≤ o' ∧ o' + nvals.length ≤ o + vals.length) ∧ (∀ j, j < nvals.length → (w.cell? ⟨b', o' + j, none⟩).isSome = true)
  | [], cs, cs', off, b, o, vals, φ, hc, hr, hd, hX, ⟨_, e1, e2⟩, hset => by
    subst e1 e2
    simp only [setAt] at hset
    split at hset
    case isFalse => simp at hset
    rename_i hle
    simp only [Option.some.injEq] at hset
    subst hset
    have h' : RepL w Xs Xb (cs.take off ++ ((cs.drop off).take new.length ++ cs.drop (off + new.length))) vals φ := by
      rw [← List.drop_drop, List.take_append_drop, List.take_append_drop]; exact hr
    obtain ⟨v1, v2, φ1, φ2, rfl, h1, h2, hs⟩ := RepL.split _ _ h'
    obtain ⟨v2, v3, φ3, φ4, rfl, h3, h4, hs'⟩ := RepL.split _ _ h2
    have l1 : v1.length = off := by rw [h1.length, List.length_take]; omega
    have l2 : v2.length = new.length := by rw [h3.length, List.length_take, List.length_drop]; omega
    have ln := hn.length
    have hb0 : φ b' = 0 ∧ ψ b' = 0 := by have := hd b'; simp at this; omega
    have hXb := hX b' (by simp)
    rw [Cells.app, Cells.app, l1] at hc
    have hcell : ∀ j, j < nvals.length → (w.cell? ⟨b', o + off + j, none⟩).isSome = true := fun j hj => by rw [hc.2.1 j (by omega)]; rfl
    have fr : ∀ {c : List AC} {u : List Value} {χ : Foot}, RepL w Xs Xb c u χ → χ b' = 0 → RepL (w.setCells b' (o + off) nvals) Xs Xb c u χ := fun hh h0 =>
      hh.frame (by rw [size_setCells]; exact Nat.le_refl _) (fun x hx => ⟨hx, heap_setCells (by rintro rfl; exact hXb.1 hx) _ _ _⟩) (fun x hx => ⟨hx, heap_setCells (by rintro rfl; exact hXb.2 hx) _ _ _⟩)
        (fun x hx => heap_setCells (by rintro rfl; exact hx h0) _ _ _)
    have e0 := hs b'
    have e1 := hs' b'
    refine ⟨v1 ++ (nvals ++ v3), _, ?_, (fr h1 (by omega)).append ((fr hn hb0.2).append (fr h4 (by omega))), by simp [l2, ln], fun x => by have := hs x; have := hs' x; first | omega | (dsimp only; omega), .inl rfl,
      fun _ => ⟨by omega, by simp; omega⟩, hcell⟩
    rw [Cells.app, Cells.app, l1]
    refine ⟨hc.1.other (fun j hj => World.cell?_setCells_out _ _ _ _ _ (fun _ _ => .inl (by dsimp only; omega))), fun j hj => World.cell?_setCells_in _ _ _ _ hcell j hj, ?_⟩
    rw [show o + off + nvals.length = o + off + v2.length by omega]
    exact hc.2.2.other (fun j hj => World.cell?_setCells_out _ _ _ _ _ (fun _ _ => .inr (by dsimp only; omega)))
  | (k, i, e) :: p, cs, cs', off, b, o, vals, φ, hc, hr, hd, hX, ⟨_, s, so, len, cap, hcell, hal⟩, hset => by
    obtain ⟨rows, r, r', hk, hri, hset1, rfl⟩ := setAt_cons hset
    obtain ⟨vs, χ, c1, c2, v1, v2, φ1, φ2, rfl, e1, rfl, e2, g1, g2, r1, r2, r3, r4, r5, r6, r7, r8, r9⟩ := hr.at_own hk (hr.at_val hc hk hcell)
    obtain ⟨hrow, hi⟩ := row_split hri
    have hfl : rows.flatten = (rows.take i).flatten ++ (r ++ (rows.drop (i + 1)).flatten) := by conv => lhs; rw [hrow]; simp
    rw [hfl] at r8
    obtain ⟨u1, u2, ψ1, ψ2, rfl, k1, k2, ks⟩ := RepL.split _ _ r8
    obtain ⟨u2, u3, ψ3, ψ4, rfl, k3, k4, ks'⟩ := RepL.split _ _ k2
    have hre : r.length = e := r4 r (List.mem_of_getElem? hri)
    have hlen : u1.length = i * e := by
      rw [k1.length, flatten_len (fun q hq => r4 q (List.mem_of_mem_take hq)), List.length_take, Nat.min_eq_left (by omega)]
    have hlen2 : u2.length = e := by rw [k3.length, hre]
    have hcs := r7
    rw [Cells.app, Cells.app, hlen] at r7
    have tot : ∀ x, φ x = φ1 x + ((if x = s then 1 else 0) + (ψ1 x + (ψ3 x + ψ4 x))) + φ2 x := fun x => by rw [r9 x, ks x, ks' x]
    have hsb : s ≠ b := fun e => by have := hd b; have := tot b; subst e; simp at *; omega
    obtain ⟨vr, φr, q1, q2, q3, q4, q5, q6, q7⟩ := along_write hn p r7.2.1 k3 (fun x => by have := hd x; have := tot x; omega) (fun x hx => hX x (by have := tot x; omega)) hal hset1
    have hbb : b' ≠ b := by
      rintro rfl
      have h1 := hd b'
      have h2 := tot b'
      simp only [if_true] at h1
      rcases q5 with e | e
      · exact hsb e.symm
      · omega
    have hbX : ¬ Xs b' ∧ ¬ Xb b' := hX b' (by
      have h2 := tot b'
      rcases q5 with e | e
      · subst e; simp at h2; omega
      · omega)
    have fr : ∀ {c : List AC} {u : List Value} {χ : Foot}, RepL w Xs Xb c u χ → χ b' = 0 → RepL (w.setCells b' o' nvals) Xs Xb c u χ := fun hh h0 =>
      hh.frame (by rw [size_setCells]; exact Nat.le_refl _) (fun x hx => ⟨hx, heap_setCells (by rintro rfl; exact hbX.1 hx) _ _ _⟩) (fun x hx => ⟨hx, heap_setCells (by rintro rfl; exact hbX.2 hx) _ _ _⟩)
        (fun x hx => heap_setCells (by rintro rfl; exact hx h0) _ _ _)
    have one : 1 ≤ (if b' = s then 1 else 0) + ψ3 b' := by
      rcases q5 with e | e
      · simp [e]
      · omega
    have hz : φ1 b' = 0 ∧ φ2 b' = 0 ∧ ψ1 b' = 0 ∧ ψ4 b' = 0 := by
      have h1 := hd b'
      have h2 := tot b'
      omega
    have hsame : ∀ (o2 : Nat), (b' = s → o2 < o' ∨ o' + nvals.length ≤ o2) → (w.setCells b' o' nvals).cell? ⟨s, o2, none⟩ = w.cell? ⟨s, o2, none⟩ := fun o2 h =>
      World.cell?_setCells_out _ _ _ _ _ (fun h1 _ => h h1.symm)
    have lr' : r'.length = r.length := setAt_len p hset1
    have hset2 : (rows.set i r').flatten = (rows.take i).flatten ++ (r' ++ (rows.drop (i + 1)).flatten) := by
      rw [List.set_eq_take_append_cons_drop, if_pos hi]; simp
    have hvr : vr.length = e := by rw [q3, hlen2]
    have newrow : RepL (w.setCells b' o' nvals) Xs Xb (rows.set i r').flatten (u1 ++ (vr ++ u3)) (fun x => ψ1 x + (φr x + ψ4 x)) := by
      rw [hset2]
      exact (fr k1 hz.2.2.1).append (q2.append (fr k4 hz.2.2.2))
    have newcells : Cells (w.setCells b' o' nvals) s so (u1 ++ (vr ++ u3)) := by
      rw [Cells.app, Cells.app, hlen]
      refine ⟨r7.1.other (fun j hj => hsame _ (fun h => .inl ?_)), q1, ?_⟩
      · have := (q6 h).1; omega
      · rw [show so + i * e + vr.length = so + i * e + u2.length by omega]
        refine r7.2.2.other (fun j hj => hsame _ (fun h => .inr ?_))
        have := (q6 h).2; omega
    have own' := RepL.own (rows := rows.set i r') (len := len) (cap := cap) (by simp [r1]) r2 r3 (fun q hq => by
        rcases List.mem_or_eq_of_mem_set hq with h | h
        · exact r4 q h
        · rw [h, lr', hre]) (by rw [size_setCells]; exact r5) (r6.setCells q7) newcells newrow (fr g2 hz.2.1)
    have hset3 : (c1 ++ AC.sl .own e rows :: c2).set k (.sl .own e (rows.set i r')) = c1 ++ .sl .own e (rows.set i r') :: c2 := by
      rw [← e1, List.set_append_right _ _ (Nat.le_refl _)]; simp
    refine ⟨v1 ++ .slice (some ⟨s, so, none⟩) len cap :: v2, _, ?_, by rw [hset3]; exact (fr g1 hz.1).append own', by simp, fun x => ?_, .inr ?_, fun h => absurd h hbb, q7⟩
    · exact hc.same (heap_setCells (fun e => hbb e.symm) _ _ _)
    · have h1 := tot x
      have h2 := q4 x
      omega
    · have h2 := tot b'
      omega
end Go.Fw
