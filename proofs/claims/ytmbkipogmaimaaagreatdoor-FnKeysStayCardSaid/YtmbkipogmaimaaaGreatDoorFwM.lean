/- The framework, part M: what is taken out of a place, and what is stored there. Conditions: none. -/
import Derived.Test.YtmbkipogmaimaaaGreatDoorFwL
import Derived.Deep.MidRow
namespace Go.Fw
open Go

/-- At a place, other cells are read of the same memory. -/
def Swap (w : World) (Xs Xb : Nat → Prop) (vals : List Value) (φ : Foot) (b' o' : Nat) (xs new cs' : List AC) : Prop :=
  ∃ vs ψ, Cells w b' o' vs ∧ vs.length = new.length ∧ RepL w Xs Xb (xs.take new.length) vs ψ ∧ (∀ x, ψ x ≤ φ x) ∧
    ∀ (Xs' Xb' : Nat → Prop) (ψ' : Foot), (∀ b, Xs b → Xs' b) → (∀ b, Xb b → Xb' b) → RepL w Xs' Xb' new vs ψ' → ∃ φ', RepL w Xs' Xb' cs' vals φ' ∧ ∀ x, φ' x + ψ x = φ x + ψ' x

theorem row_swap {w : World} {Xs Xb : Nat → Prop} {cs : List AC} {vals : List Value} {φ : Foot} (hr : RepL w Xs Xb cs vals φ) {k i e s so len cap : Nat} {rows : List (List AC)} {r r' : List AC}
    (hk : cs[k]? = some (.sl .own e rows)) (hv : vals[k]? = some (.slice (some ⟨s, so, none⟩) len cap)) (hri : rows[i]? = some r) (hl : r'.length = r.length) {b' o' : Nat} {xs new : List AC}
    (ih : ∀ vals φ, Cells w s (so + i * e) vals → RepL w Xs Xb r vals φ → Swap w Xs Xb vals φ b' o' xs new r') : Swap w Xs Xb vals φ b' o' xs new (cs.set k (.sl .own e (rows.set i r'))) := by
  obtain ⟨vs, χ, c1, c2, v1, v2, φ1, φ2, rfl, e1, rfl, e2, g1, g2, r1, r2, r3, r4, r5, r6, r7, r8, r9⟩ := hr.at_own hk hv
  obtain ⟨hrow, hi⟩ := row_split hri
  have hfl : rows.flatten = (rows.take i).flatten ++ (r ++ (rows.drop (i + 1)).flatten) := by conv => lhs; rw [hrow]; simp
  rw [hfl] at r8
  obtain ⟨u1, u2, ψ1, ψ2, rfl, k1, k2, ks⟩ := RepL.split _ _ r8
  obtain ⟨u2, u3, ψ3, ψ4, rfl, k3, k4, ks'⟩ := RepL.split _ _ k2
  have hlen : u1.length = i * e := by
    rw [k1.length, flatten_len (fun q hq => r4 q (List.mem_of_mem_take hq)), List.length_take, Nat.min_eq_left (by omega)]
  have hcs := r7
  rw [Cells.app, Cells.app, hlen] at r7
  obtain ⟨ws, ψ, q1, q2, q3, q4, q5⟩ := ih _ _ r7.2.1 k3
  have tot : ∀ x, φ x = φ1 x + ((if x = s then 1 else 0) + (ψ1 x + (ψ3 x + ψ4 x))) + φ2 x := fun x => by rw [r9 x, ks x, ks' x]
  refine ⟨ws, ψ, q1, q2, q3, fun x => by have := q4 x; have := tot x; omega, fun Xs' Xb' ψ' hs hb hn => ?_⟩
  obtain ⟨φ', p1, p2⟩ := q5 Xs' Xb' ψ' hs hb hn
  have hset2 : (rows.set i r').flatten = (rows.take i).flatten ++ (r' ++ (rows.drop (i + 1)).flatten) := by
    rw [List.set_eq_take_append_cons_drop, if_pos hi]; simp
  have hre : r.length = e := r4 r (List.mem_of_getElem? hri)
  have newrow : RepL w Xs' Xb' (rows.set i r').flatten (u1 ++ (u2 ++ u3)) (fun x => ψ1 x + (φ' x + ψ4 x)) := by
    rw [hset2]
    exact (k1.weak hs hb).append (p1.append (k4.weak hs hb))
  have own' := RepL.own (rows := rows.set i r') (len := len) (cap := cap) (by simp [r1]) r2 r3 (fun q hq => by
      rcases List.mem_or_eq_of_mem_set hq with h | h
      · exact r4 q h
      · rw [h, hl, hre]) r5 r6 hcs newrow (g2.weak hs hb)
  have hset3 : (c1 ++ AC.sl .own e rows :: c2).set k (.sl .own e (rows.set i r')) = c1 ++ .sl .own e (rows.set i r') :: c2 := by
    rw [← e1, List.set_append_right _ _ (Nat.le_refl _)]; simp
  refine ⟨_, by rw [hset3]; exact (g1.weak hs hb).append own', fun x => ?_⟩
  have h1 := tot x
  have h2 := p2 x
  omega

theorem along_swap {w : World} {Xs Xb : Nat → Prop} {own : Nat → Prop} {new : List AC} {b' o' : Nat} : ∀ (p : Path) {cs cs' xs : List AC} {off b o : Nat} {vals : List Value} {φ : Foot},
    Cells w b o vals → RepL w Xs Xb cs vals φ → Along w own b o p off b' o' → cellsAt cs p off = some xs → setAt cs p off new = some cs' → Swap w Xs Xb vals φ b' o' xs new cs'
  | [], cs, cs', xs, off, b, o, vals, φ, hc, hr, ⟨_, e1, e2⟩, hx, hset => by
    subst e1 e2
    simp only [setAt] at hset
    split at hset
    case isFalse => simp at hset
    rename_i hle
    simp only [Option.some.injEq] at hset
    subst hset
    simp only [cellsAt, Option.some.injEq] at hx
    subst hx
    have h' : RepL w Xs Xb (cs.take off ++ ((cs.drop off).take new.length ++ cs.drop (off + new.length))) vals φ := by
      rw [← List.drop_drop, List.take_append_drop, List.take_append_drop]; exact hr
    obtain ⟨v1, v2, φ1, φ2, rfl, h1, h2, hs⟩ := RepL.split _ _ h'
    obtain ⟨v2, v3, φ3, φ4, rfl, h3, h4, hs'⟩ := RepL.split _ _ h2
    have l1 : v1.length = off := by rw [h1.length, List.length_take]; omega
    have l2 : v2.length = new.length := by rw [h3.length, List.length_take, List.length_drop]; omega
    rw [Cells.app, Cells.app, l1] at hc
    refine ⟨v2, φ3, hc.2.1, l2, h3, fun x => by have := hs x; have := hs' x; omega, fun Xs' Xb' ψ' hs1 hb1 hn => ⟨_, (h1.weak hs1 hb1).append (hn.append (h4.weak hs1 hb1)), fun x => ?_⟩⟩
    have := hs x
    have := hs' x
    omega
  | (k, i, e) :: p, cs, cs', xs, off, b, o, vals, φ, hc, hr, ⟨_, s, so, len, cap, hcell, hal⟩, hx, hset => by
    obtain ⟨rows, r, r', hk, hri, hset1, rfl⟩ := setAt_cons hset
    obtain ⟨rows2, r2, hk2, hri2, hx1⟩ := cellsAt_cons hx
    rw [hk] at hk2
    simp only [Option.some.injEq, AC.sl.injEq, true_and] at hk2
    subst hk2
    rw [hri] at hri2
    simp only [Option.some.injEq] at hri2
    subst hri2
    exact row_swap hr hk (hr.at_val hc hk hcell) hri (setAt_len p hset1) fun vals φ hc1 hr1 => along_swap p hc1 hr1 hal hx1 hset1

theorem Avail.sub {w : World} {b o n : Nat} (h : Avail w b o n) {k m : Nat} (hk : k + m ≤ n) : Avail w b (o + k) m := fun j hj => by
  have := h (k + j) (by omega)
  rw [Nat.add_assoc]
  exact this

/-- What is at a place may be written. -/
theorem along_avail {w : World} {Xs Xb : Nat → Prop} {own : Nat → Prop} {new : List AC} {b' o' : Nat} : ∀ (p : Path) {cs cs' : List AC} {off b o : Nat} {vals : List Value} {φ : Foot},
    Cells w b o vals → RepL w Xs Xb cs vals φ → Avail w b o vals.length → Along w own b o p off b' o' → setAt cs p off new = some cs' → Avail w b' o' new.length
  | [], cs, cs', off, b, o, vals, φ, hc, hr, ha, ⟨_, e1, e2⟩, hset => by
    subst e1 e2
    simp only [setAt] at hset
    split at hset
    case isFalse => simp at hset
    rename_i hle
    exact ha.sub (by rw [hr.length]; exact hle)
  | (k, i, e) :: p, cs, cs', off, b, o, vals, φ, hc, hr, ha, ⟨_, s, so, len, cap, hcell, hal⟩, hset => by
    obtain ⟨rows, r, r', hk, hri, hset1, rfl⟩ := setAt_cons hset
    obtain ⟨vs, χ, c1, c2, v1, v2, φ1, φ2, rfl, e1, rfl, e2, g1, g2, r1, r2, r3, r4, r5, r6, r7, r8, r9⟩ := hr.at_own hk (hr.at_val hc hk hcell)
    obtain ⟨hrow, hi⟩ := row_split hri
    have hfl : rows.flatten = (rows.take i).flatten ++ (r ++ (rows.drop (i + 1)).flatten) := by conv => lhs; rw [hrow]; simp
    rw [hfl] at r8
    obtain ⟨u1, u2, ψ1, ψ2, rfl, k1, k2, ks⟩ := RepL.split _ _ r8
    obtain ⟨u2, u3, ψ3, ψ4, rfl, k3, k4, ks'⟩ := RepL.split _ _ k2
    have hlen : u1.length = i * e := by
      rw [k1.length, flatten_len (fun q hq => r4 q (List.mem_of_mem_take hq)), List.length_take, Nat.min_eq_left (by omega)]
    have hre : r.length = e := r4 r (List.mem_of_getElem? hri)
    rw [Cells.app, Cells.app, hlen] at r7
    refine along_avail p r7.2.1 k3 (r6.sub ?_) hal hset1
    rw [k3.length, hre]
    have : (i + 1) * e ≤ cap * e := Nat.mul_le_mul_right _ (by omega)
    rw [Nat.add_mul] at this
    omega

/-- A write at a place that a row leads to. -/
theorem row_write {w : World} {Xs Xb : Nat → Prop} {own : Nat → Prop} {nvals : List Value} {new : List AC} {ψ : Foot} (hn : RepL w Xs Xb new nvals ψ) {b' o' : Nat} {cs : List AC} {vals : List Value} {φ : Foot} (hr : RepL w Xs Xb cs vals φ)
    {k i e s so len cap off : Nat} {p : Path} {rows : List (List AC)} {r r' : List AC} (hk : cs[k]? = some (.sl .own e rows)) (hv : vals[k]? = some (.slice (some ⟨s, so, none⟩) len cap)) (hri : rows[i]? = some r)
    (hd : ∀ x, φ x + ψ x ≤ 1) (hX : ∀ x, φ x ≠ 0 → ¬ Xs x ∧ ¬ Xb x) (hal : Along w own s (so + i * e) p off b' o') (hset1 : setAt r p off new = some r') :
    ∃ φ', RepL (w.setCells b' o' nvals) Xs Xb (cs.set k (.sl .own e (rows.set i r'))) vals φ' ∧ (∀ x, φ' x ≤ φ x + ψ x) ∧ φ b' ≠ 0 ∧ Avail w b' o' nvals.length := by
  obtain ⟨vs, χ, c1, c2, v1, v2, φ1, φ2, rfl, e1, rfl, e2, g1, g2, r1, r2, r3, r4, r5, r6, r7, r8, r9⟩ := hr.at_own hk hv
  obtain ⟨hrow, hi⟩ := row_split hri
  have hfl : rows.flatten = (rows.take i).flatten ++ (r ++ (rows.drop (i + 1)).flatten) := by conv => lhs; rw [hrow]; simp
  rw [hfl] at r8
  obtain ⟨u1, u2, ψ1, ψ2, rfl, k1, k2, ks⟩ := RepL.split _ _ r8
  obtain ⟨u2, u3, ψ3, ψ4, rfl, k3, k4, ks'⟩ := RepL.split _ _ k2
  have hre : r.length = e := r4 r (List.mem_of_getElem? hri)
  have hlen : u1.length = i * e := by
    rw [k1.length, flatten_len (fun q hq => r4 q (List.mem_of_mem_take hq)), List.length_take, Nat.min_eq_left (by omega)]
  have hlen2 : u2.length = e := by rw [k3.length, hre]
  rw [Cells.app, Cells.app, hlen] at r7
  have tot : ∀ x, φ x = φ1 x + ((if x = s then 1 else 0) + (ψ1 x + (ψ3 x + ψ4 x))) + φ2 x := fun x => by rw [r9 x, ks x, ks' x]
  obtain ⟨vr, φr, q1, q2, q3, q4, q5, q6, q7⟩ := along_write hn p r7.2.1 k3 (fun x => by have := hd x; have := tot x; omega) (fun x hx => hX x (by have := tot x; omega)) hal hset1
  have hav := along_avail (new := new) p r7.2.1 k3 (r6.sub (k := i * e) (by
    rw [k3.length, hre]
    have : (i + 1) * e ≤ cap * e := Nat.mul_le_mul_right _ (by omega)
    rw [Nat.add_mul] at this
    omega)) hal hset1
  have hbX : ¬ Xs b' ∧ ¬ Xb b' := hX b' (by
    have h2 := tot b'
    rcases q5 with e | e
    · subst e; simp at h2; omega
    · omega)
  have fr : ∀ {c : List AC} {u : List Value} {χ : Foot}, RepL w Xs Xb c u χ → χ b' = 0 → RepL (w.setCells b' o' nvals) Xs Xb c u χ := fun hh h0 =>
    hh.frame (by rw [size_setCells]; exact Nat.le_refl _) (fun x hx => ⟨hx, heap_setCells (by rintro rfl; exact hbX.1 hx) _ _ _⟩) (fun x hx => ⟨hx, heap_setCells (by rintro rfl; exact hbX.2 hx) _ _ _⟩)
      (fun x hx => heap_setCells (by rintro rfl; exact hx h0) _ _ _)
  have one : 1 ≤ (if b' = s then 1 else 0) + ψ3 b' := by
    rcases q5 with e | e
    · simp [e]
    · omega
  have hz : φ1 b' = 0 ∧ φ2 b' = 0 ∧ ψ1 b' = 0 ∧ ψ4 b' = 0 := by
    have h1 := hd b'
    have h2 := tot b'
    omega
  have hsame : ∀ (o2 : Nat), (b' = s → o2 < o' ∨ o' + nvals.length ≤ o2) → (w.setCells b' o' nvals).cell? ⟨s, o2, none⟩ = w.cell? ⟨s, o2, none⟩ := fun o2 h =>
    World.cell?_setCells_out _ _ _ _ _ (fun h1 _ => h h1.symm)
  have lr' : r'.length = r.length := setAt_len p hset1
  have hset2 : (rows.set i r').flatten = (rows.take i).flatten ++ (r' ++ (rows.drop (i + 1)).flatten) := by
    rw [List.set_eq_take_append_cons_drop, if_pos hi]; simp
  have hvr : vr.length = e := by rw [q3, hlen2]
  have newrow : RepL (w.setCells b' o' nvals) Xs Xb (rows.set i r').flatten (u1 ++ (vr ++ u3)) (fun x => ψ1 x + (φr x + ψ4 x)) := by
    rw [hset2]
    exact (fr k1 hz.2.2.1).append (q2.append (fr k4 hz.2.2.2))
  have newcells : Cells (w.setCells b' o' nvals) s so (u1 ++ (vr ++ u3)) := by
    rw [Cells.app, Cells.app, hlen]
    refine ⟨r7.1.other (fun j hj => hsame _ (fun h => .inl ?_)), q1, ?_⟩
    · have := (q6 h).1; omega
    · rw [show so + i * e + vr.length = so + i * e + u2.length by omega]
      refine r7.2.2.other (fun j hj => hsame _ (fun h => .inr ?_))
      have := (q6 h).2; omega
  have own' := RepL.own (rows := rows.set i r') (len := len) (cap := cap) (by simp [r1]) r2 r3 (fun q hq => by
      rcases List.mem_or_eq_of_mem_set hq with h | h
      · exact r4 q h
      · rw [h, lr', hre]) (by rw [size_setCells]; exact r5) (r6.setCells q7) newcells newrow (fr g2 hz.2.1)
  have hset3 : (c1 ++ AC.sl .own e rows :: c2).set k (.sl .own e (rows.set i r')) = c1 ++ .sl .own e (rows.set i r') :: c2 := by
    rw [← e1, List.set_append_right _ _ (Nat.le_refl _)]; simp
  refine ⟨_, by rw [hset3]; exact (fr g1 hz.1).append own', fun x => ?_, ?_, by rw [hn.length]; exact hav⟩
  · have h1 := tot x
    have h2 := q4 x
    omega
  · have h2 := tot b'
    omega

/-- What a root holds. -/
def RootIs (w : World) (Xs Xb : Nat → Prop) (tm : Nat → Value) (β : Nat → Nat) (cs : List AC) (f : Foot) : Rt → Prop
  | .b n => ∃ vals ψ, Cells w (β n) 0 vals ∧ Avail w (β n) 0 vals.length ∧ RepL w Xs Xb cs vals ψ ∧ ∀ x, f x = (if x = β n then 1 else 0) + ψ x
  | .t n => ∃ c, cs = [c] ∧ RepL w Xs Xb [c] [tm n] f

section
variable {E : Env} {v : Res → Val} {tm : Nat → Value} {w : World} {β : Nat → Nat} {φ : Res → Foot}

theorem RelW.root (h : RelW E v tm w β φ) {q : Rt} {cs : List AC} (hc : content v q = some cs) : RootIs w (XS E w φ) (XB w φ []) tm β cs (φ q.res) q := by
  cases q with
  | b n =>
    simp only [content] at hc
    split at hc <;> simp only [Option.some.injEq, reduceCtorEq] at hc
    rename_i cs' hv
    subst hc
    exact h.box n _ hv
  | t n =>
    simp only [content] at hc
    split at hc <;> simp only [Option.some.injEq, reduceCtorEq] at hc
    rename_i c hv
    subst hc
    obtain ⟨vals, h1, h2⟩ := h.ent n _ _ hv (by intro p hp; simp at hp)
    simp only [Bool.false_eq_true, if_false] at h2
    subst h2
    exact ⟨c, rfl, h1⟩

theorem RootIs.swap {Xs Xb : Nat → Prop} {q : Rt} {cs : List AC} {f : Foot} (hq : RootIs w Xs Xb tm β cs f q) {own : Nat → Prop} {p : Path} {off b o : Nat} (hr : Reach w tm β own q p off b o)
    {xs new cs' : List AC} (hx : cellsAt cs p off = some xs) (hs : setAt cs p off new = some cs') :
    ∃ vs ψ, Cells w b o vs ∧ vs.length = new.length ∧ RepL w Xs Xb (xs.take new.length) vs ψ ∧ (∀ x, ψ x ≤ f x) ∧
      ∀ (Xs' Xb' : Nat → Prop) (ψ' : Foot), (∀ b, Xs b → Xs' b) → (∀ b, Xb b → Xb' b) → RepL w Xs' Xb' new vs ψ' → ∃ f', RootIs w Xs' Xb' tm β cs' f' q ∧ ∀ x, f' x + ψ x = f x + ψ' x := by
  cases q with
  | b n =>
    obtain ⟨vals, χ, h1, h2, h3, h4⟩ := hq
    obtain ⟨vs, ψ, k1, k2, k3, k4, k5⟩ := along_swap p h1 h3 hr hx hs
    refine ⟨vs, ψ, k1, k2, k3, fun x => by have := k4 x; have := h4 x; omega, fun Xs' Xb' ψ' a1 a2 hn => ?_⟩
    obtain ⟨φ', m1, m2⟩ := k5 Xs' Xb' ψ' a1 a2 hn
    exact ⟨fun x => (if x = β n then 1 else 0) + φ' x, ⟨vals, φ', h1, h2, m1, fun _ => rfl⟩, fun x => by have := m2 x; have := h4 x; dsimp only; omega⟩
  | t n =>
    obtain ⟨c, rfl, h1⟩ := hq
    cases p with
    | nil => exact hr.elim
    | cons y p =>
      obtain ⟨k, i, e⟩ := y
      obtain ⟨rfl, s, so, len, cap, htm, hal⟩ := hr
      obtain ⟨rows, r, r', hk, hri, hset1, rfl⟩ := setAt_cons hs
      obtain ⟨rows2, r2, hk2, hri2, hx1⟩ := cellsAt_cons hx
      rw [hk] at hk2
      simp only [Option.some.injEq, AC.sl.injEq, true_and] at hk2
      subst hk2
      rw [hri] at hri2
      simp only [Option.some.injEq] at hri2
      subst hri2
      obtain ⟨vs, ψ, k1, k2, k3, k4, k5⟩ := row_swap h1 hk (show [tm n][0]? = some (.slice (some ⟨s, so, none⟩) len cap) by simp [htm]) hri (setAt_len p hset1) fun vals φ hc1 hr1 => along_swap p hc1 hr1 hal hx1 hset1
      refine ⟨vs, ψ, k1, k2, k3, k4, fun Xs' Xb' ψ' a1 a2 hn => ?_⟩
      obtain ⟨φ', m1, m2⟩ := k5 Xs' Xb' ψ' a1 a2 hn
      simp only [List.set_cons_zero] at m1 ⊢
      exact ⟨φ', ⟨_, rfl, m1⟩, m2⟩

theorem RootIs.write {Xs Xb : Nat → Prop} {q : Rt} {cs : List AC} {f : Foot} (hq : RootIs w Xs Xb tm β cs f q) {own : Nat → Prop} {p : Path} {off b o : Nat} (hr : Reach w tm β own q p off b o)
    {new cs' : List AC} (hs : setAt cs p off new = some cs') {nvals : List Value} {ψ : Foot} (hn : RepL w Xs Xb new nvals ψ) (hd : ∀ x, f x + ψ x ≤ 1) (hX : ∀ x, f x ≠ 0 → ¬ Xs x ∧ ¬ Xb x) :
    ∃ f', RootIs (w.setCells b o nvals) Xs Xb tm β cs' f' q ∧ (∀ x, f' x ≤ f x + ψ x) ∧ f b ≠ 0 ∧ Avail w b o nvals.length ∧ (∀ n, q = .b n → f' (β n) ≠ 0) := by
  cases q with
  | b n =>
    obtain ⟨vals, χ, h1, h2, h3, h4⟩ := hq
    obtain ⟨vals', φ', k1, k2, k3, k4, k5, k6, k7⟩ := along_write hn p h1 h3 (fun x => by have := hd x; have := h4 x; omega) (fun x hx => hX x (by have := h4 x; omega)) hr hs
    have hav := along_avail p h1 h3 h2 hr hs
    refine ⟨fun x => (if x = β n then 1 else 0) + φ' x, ⟨vals', φ', k1, by rw [k3]; exact h2.setCells k7, k2, fun _ => rfl⟩, fun x => by have := k4 x; have := h4 x; dsimp only; omega, ?_, by rw [hn.length]; exact hav, fun m hm => by
      simp only [Rt.b.injEq] at hm; subst hm; simp⟩
    rcases k5 with rfl | h
    · rw [h4]; simp
    · rw [h4]; omega
  | t n =>
    obtain ⟨c, rfl, h1⟩ := hq
    cases p with
    | nil => exact hr.elim
    | cons y p =>
      obtain ⟨k, i, e⟩ := y
      obtain ⟨rfl, s, so, len, cap, htm, hal⟩ := hr
      obtain ⟨rows, r, r', hk, hri, hset1, rfl⟩ := setAt_cons hs
      obtain ⟨φ', k1, k2, k3, k4⟩ := row_write hn h1 hk (show [tm n][0]? = some (.slice (some ⟨s, so, none⟩) len cap) by simp [htm]) hri hd hX hal hset1
      simp only [List.set_cons_zero] at k1 ⊢
      exact ⟨φ', ⟨_, rfl, k1⟩, k2, k3, k4, by simp⟩
end
end Go.Fw
