/- The framework, part M: what is taken out of a place, and what is stored there. The framework, part N: the step that turns a root; stores, and the loads that take or freeze. The framework, part O: loads that take or freeze what they load, and stores. Conditions: none. -/
import Derived.Test.YtjldolmokfnkoaaGreatDoorFwK
import Derived.Deep.MidRow
namespace Go.Fw
open Go

/-- At a place, other cells are read of the same memory. -/
def Swap (w : World) (Xs Xb : Nat → Prop) (vals : List Value) (φ : Foot) (b' o' : Nat) (xs new cs' : List AC) : Prop :=
  ∃ vs ψ, Cells w b' o' vs ∧ vs.length = new.length ∧ RepL w Xs Xb (xs.take new.length) vs ψ ∧ (∀ x, ψ x ≤ φ x) ∧
    ∀ (Xs' Xb' : Nat → Prop) (ψ' : Foot), (∀ b, Xs b → Xs' b) → (∀ b, Xb b → Xb' b) → RepL w Xs' Xb' new vs ψ' → ∃ φ', RepL w Xs' Xb' cs' vals φ' ∧ ∀ x, φ' x + ψ x = φ x + ψ' x

theorem row_swap {w : World} {Xs Xb : Nat → Prop} {cs : List AC} {vals : List Value} {φ : Foot} (hr : RepL w Xs Xb cs vals φ) {k i e s so len cap : Nat} {rows : List (List AC)} {r r' : List AC}
    (hk : cs[k]? = some (.sl .own e rows)) (hv : vals[k]? = some (.slice (some ⟨s, so, none⟩) len cap)) (hri : rows[i]? = some r) (hl : r'.length = r.length) {b' o' : Nat} {xs new : List AC}
    (ih : ∀ vals φ, Cells w s (so + i * e) vals → RepL w Xs Xb r vals φ → Swap w Xs Xb vals φ b' o' xs new r') : Swap w Xs Xb vals φ b' o' xs new (cs.set k (.sl .own e (rows.set i r'))) := by
  obtain ⟨vs, χ, c1, c2, v1, v2, φ1, φ2, rfl, e1, rfl, e2, g1, g2, r1, r2, r3, r4, r5, r6, r7, r8, r9⟩ := hr.at_own hk hv
  obtain ⟨hrow, hi⟩ := row_split hri
  have hfl : rows.flatten = (rows.take i).flatten ++ (r ++ (rows.drop (i + 1)).flatten) := by conv => lhs; rw [hrow]; simp
  rw [hfl] at r8
  obtain ⟨u1, u2, ψ1, ψ2, rfl, k1, k2, ks⟩ := RepL.split _ _ r8
  obtain ⟨u2, u3, ψ3, ψ4, rfl, k3, k4, ks'⟩ := RepL.split _ _ k2
  have hlen : u1.length = i * e := by
    rw [k1.length, flatten_len (fun q hq => r4 q (List.mem_of_mem_take hq)), List.length_take, Nat.min_eq_left (by omega)]
  have hcs := r7
  rw [Cells.app, Cells.app, hlen] at r7
  obtain ⟨ws, ψ, q1, q2, q3, q4, q5⟩ := ih _ _ r7.2.1 k3
  have tot : ∀ x, φ x = φ1 x + ((if x = s then 1 else 0) + (ψ1 x + (ψ3 x + ψ4 x))) + φ2 x := fun x => by rw [r9 x, ks x, ks' x]
  refine ⟨ws, ψ, q1, q2, q3, fun x => by have := q4 x; have := tot x; omega, fun Xs' Xb' ψ' hs hb hn => ?_⟩
  obtain ⟨φ', p1, p2⟩ := q5 Xs' Xb' ψ' hs hb hn
  have hset2 : (rows.set i r').flatten = (rows.take i).flatten ++ (r' ++ (rows.drop (i + 1)).flatten) := by
    rw [List.set_eq_take_append_cons_drop, if_pos hi]; simp
  have hre : r.length = e := r4 r (List.mem_of_getElem? hri)
  have newrow : RepL w Xs' Xb' (rows.set i r').flatten (u1 ++ (u2 ++ u3)) (fun x => ψ1 x + (φ' x + ψ4 x)) := by
    rw [hset2]
    exact (k1.weak hs hb).append (p1.append (k4.weak hs hb))
  have own' := RepL.own (rows := rows.set i r') (len := len) (cap := cap) (by simp [r1]) r2 r3 (fun q hq => by
      rcases List.mem_or_eq_of_mem_set hq with h | h
      · exact r4 q h
      · rw [h, hl, hre]) r5 r6 hcs newrow (g2.weak hs hb)
  have hset3 : (c1 ++ AC.sl .own e rows :: c2).set k (.sl .own e (rows.set i r')) = c1 ++ .sl .own e (rows.set i r') :: c2 := by
    rw [← e1, List.set_append_right _ _ (Nat.le_refl _)]; simp
  refine ⟨_, by rw [hset3]; exact (g1.weak hs hb).append own', fun x => ?_⟩
  have h1 := tot x
  have h2 := p2 x
  omega

theorem along_swap {w : World} {Xs Xb : Nat → Prop} {own : Nat → Prop} {new : List AC} {b' o' : Nat} : ∀ (p : Path) {cs cs' xs : List AC} {off b o : Nat} {vals : List Value} {φ : Foot},
    Cells w b o vals → RepL w Xs Xb cs vals φ → Along w own b o p off b' o' → cellsAt cs p off = some xs → setAt cs p off new = some cs' → Swap w Xs Xb vals φ b' o' xs new cs'
  | [], cs, cs', xs, off, b, o, vals, φ, hc, hr, ⟨_, e1, e2⟩, hx, hset => by
    subst e1 e2
    simp only [setAt] at hset
    split at hset
    case isFalse => simp at hset
    rename_i hle
    simp only [Option.some.injEq] at hset
    subst hset
    simp only [cellsAt, Option.some.injEq] at hx
    subst hx
    have h' : RepL w Xs Xb (cs.take off ++ ((cs.drop off).take new.length ++ cs.drop (off + new.length))) vals φ := by
      rw [← List.drop_drop, List.take_append_drop, List.take_append_drop]; exact hr
    obtain ⟨v1, v2, φ1, φ2, rfl, h1, h2, hs⟩ := RepL.split _ _ h'
    obtain ⟨v2, v3, φ3, φ4, rfl, h3, h4, hs'⟩ := RepL.split _ _ h2
    have l1 : v1.length = off := by rw [h1.length, List.length_take]; omega
    have l2 : v2.length = new.length := by rw [h3.length, List.length_take, List.length_drop]; omega
    rw [Cells.app, Cells.app, l1] at hc
    refine ⟨v2, φ3, hc.2.1, l2, h3, fun x => by have := hs x; have := hs' x; omega, fun Xs' Xb' ψ' hs1 hb1 hn => ⟨_, (h1.weak hs1 hb1).append (hn.append (h4.weak hs1 hb1)), fun x => ?_⟩⟩
    have := hs x
    have := hs' x
    omega
  | (k, i, e) :: p, cs, cs', xs, off, b, o, vals, φ, hc, hr, ⟨_, s, so, len, cap, hcell, hal⟩, hx, hset => by
    obtain ⟨rows, r, r', hk, hri, hset1, rfl⟩ := setAt_cons hset
    obtain ⟨rows2, r2, hk2, hri2, hx1⟩ := cellsAt_cons hx
    rw [hk] at hk2
    simp only [Option.some.injEq, AC.sl.injEq, true_and] at hk2
    subst hk2
    rw [hri] at hri2
    simp only [Option.some.injEq] at hri2
    subst hri2
    exact row_swap hr hk (hr.at_val hc hk hcell) hri (setAt_len p hset1) fun vals φ hc1 hr1 => along_swap p hc1 hr1 hal hx1 hset1

theorem Avail.sub {w : World} {b o n : Nat} (h : Avail w b o n) {k m : Nat} (hk : k + m ≤ n) : Avail w b (o + k) m := by
  refine ⟨fun j hj => ?_, h.2⟩
  have := h.1 (k + j) (by omega)
  rw [Nat.add_assoc]
  exact this

/-- What is at a place may be written. -/
theorem along_avail {w : World} {Xs Xb : Nat → Prop} {own : Nat → Prop} {new : List AC} {b' o' : Nat} : ∀ (p : Path) {cs cs' : List AC} {off b o : Nat} {vals : List Value} {φ : Foot},
    Cells w b o vals → RepL w Xs Xb cs vals φ → Avail w b o vals.length → Along w own b o p off b' o' → setAt cs p off new = some cs' → Avail w b' o' new.length
  | [], cs, cs', off, b, o, vals, φ, hc, hr, ha, ⟨_, e1, e2⟩, hset => by
    subst e1 e2
    simp only [setAt] at hset
    split at hset
    case isFalse => simp at hset
    rename_i hle
    exact ha.sub (by rw [hr.length]; exact hle)
  | (k, i, e) :: p, cs, cs', off, b, o, vals, φ, hc, hr, ha, ⟨_, s, so, len, cap, hcell, hal⟩, hset => by
    obtain ⟨rows, r, r', hk, hri, hset1, rfl⟩ := setAt_cons hset
    obtain ⟨vs, χ, c1, c2, v1, v2, φ1, φ2, rfl, e1, rfl, e2, g1, g2, r1, r2, r3, r4, r5, r6, r7, r8, r9⟩ := hr.at_own hk (hr.at_val hc hk hcell)
    obtain ⟨hrow, hi⟩ := row_split hri
    have hfl : rows.flatten = (rows.take i).flatten ++ (r ++ (rows.drop (i + 1)).flatten) := by conv => lhs; rw [hrow]; simp
    rw [hfl] at r8
    obtain ⟨u1, u2, ψ1, ψ2, rfl, k1, k2, ks⟩ := RepL.split _ _ r8
    obtain ⟨u2, u3, ψ3, ψ4, rfl, k3, k4, ks'⟩ := RepL.split _ _ k2
    have hlen : u1.length = i * e := by
      rw [k1.length, flatten_len (fun q hq => r4 q (List.mem_of_mem_take hq)), List.length_take, Nat.min_eq_left (by omega)]
    have hre : r.length = e := r4 r (List.mem_of_getElem? hri)
    rw [Cells.app, Cells.app, hlen] at r7
    refine along_avail p r7.2.1 k3 (r6.sub ?_) hal hset1
    rw [k3.length, hre]
    have : (i + 1) * e ≤ cap * e := Nat.mul_le_mul_right _ (by omega)
    rw [Nat.add_mul] at this
    omega

/-- A write at a place that a row leads to. -/
theorem row_write {w : World} {Xs Xb : Nat → Prop} {own : Nat → Prop} {nvals : List Value} {new : List AC} {ψ : Foot} (hn : RepL w Xs Xb new nvals ψ) {b' o' : Nat} {cs : List AC} {vals : List Value} {φ : Foot} (hr : RepL w Xs Xb cs vals φ)
    {k i e s so len cap off : Nat} {p : Path} {rows : List (List AC)} {r r' : List AC} (hk : cs[k]? = some (.sl .own e rows)) (hv : vals[k]? = some (.slice (some ⟨s, so, none⟩) len cap)) (hri : rows[i]? = some r)
    (hd : ∀ x, φ x + ψ x ≤ 1) (hX : ∀ x, φ x ≠ 0 → ¬ Xs x ∧ ¬ Xb x) (hal : Along w own s (so + i * e) p off b' o') (hset1 : setAt r p off new = some r') :
    ∃ φ', RepL (w.setCells b' o' nvals) Xs Xb (cs.set k (.sl .own e (rows.set i r'))) vals φ' ∧ (∀ x, φ' x ≤ φ x + ψ x) ∧ φ b' ≠ 0 ∧ Avail w b' o' nvals.length := by
  obtain ⟨vs, χ, c1, c2, v1, v2, φ1, φ2, rfl, e1, rfl, e2, g1, g2, r1, r2, r3, r4, r5, r6, r7, r8, r9⟩ := hr.at_own hk hv
  obtain ⟨hrow, hi⟩ := row_split hri
  have hfl : rows.flatten = (rows.take i).flatten ++ (r ++ (rows.drop (i + 1)).flatten) := by conv => lhs; rw [hrow]; simp
  rw [hfl] at r8
  obtain ⟨u1, u2, ψ1, ψ2, rfl, k1, k2, ks⟩ := RepL.split _ _ r8
  obtain ⟨u2, u3, ψ3, ψ4, rfl, k3, k4, ks'⟩ := RepL.split _ _ k2
  have hre : r.length = e := r4 r (List.mem_of_getElem? hri)
  have hlen : u1.length = i * e := by
    rw [k1.length, flatten_len (fun q hq => r4 q (List.mem_of_mem_take hq)), List.length_take, Nat.min_eq_left (by omega)]
  have hlen2 : u2.length = e := by rw [k3.length, hre]
  rw [Cells.app, Cells.app, hlen] at r7
  have tot : ∀ x, φ x = φ1 x + ((if x = s then 1 else 0) + (ψ1 x + (ψ3 x + ψ4 x))) + φ2 x := fun x => by rw [r9 x, ks x, ks' x]
  obtain ⟨vr, φr, q1, q2, q3, q4, q5, q6, q7⟩ := along_write hn p r7.2.1 k3 (fun x => by have := hd x; have := tot x; omega) (fun x hx => hX x (by have := tot x; omega)) hal hset1
  have hav := along_avail (new := new) p r7.2.1 k3 (r6.sub (k := i * e) (by
    rw [k3.length, hre]
    have : (i + 1) * e ≤ cap * e := Nat.mul_le_mul_right _ (by omega)
    rw [Nat.add_mul] at this
    omega)) hal hset1
  have hbX : ¬ Xs b' ∧ ¬ Xb b' := hX b' (by
    have h2 := tot b'
    rcases q5 with e | e
    · subst e; simp at h2; omega
    · omega)
  have fr : ∀ {c : List AC} {u : List Value} {χ : Foot}, RepL w Xs Xb c u χ → χ b' = 0 → RepL (w.setCells b' o' nvals) Xs Xb c u χ := fun hh h0 =>
    hh.frame (by rw [size_setCells]; exact Nat.le_refl _) (fun x hx => ⟨hx, heap_setCells (by rintro rfl; exact hbX.1 hx) _ _ _⟩) (fun x hx => ⟨hx, heap_setCells (by rintro rfl; exact hbX.2 hx) _ _ _⟩)
      (fun x hx => heap_setCells (by rintro rfl; exact hx h0) _ _ _)
  have one : 1 ≤ (if b' = s then 1 else 0) + ψ3 b' := by
    rcases q5 with e | e
    · simp [e]
    · omega
  have hz : φ1 b' = 0 ∧ φ2 b' = 0 ∧ ψ1 b' = 0 ∧ ψ4 b' = 0 := by
    have h1 := hd b'
    have h2 := tot b'
    omega
  have hsame : ∀ (o2 : Nat), (b' = s → o2 < o' ∨ o' + nvals.length ≤ o2) → (w.setCells b' o' nvals).cell? ⟨s, o2, none⟩ = w.cell? ⟨s, o2, none⟩ := fun o2 h =>
    World.cell?_setCells_out _ _ _ _ _ (fun h1 _ => h h1.symm)
  have lr' : r'.length = r.length := setAt_len p hset1
  have hset2 : (rows.set i r').flatten = (rows.take i).flatten ++ (r' ++ (rows.drop (i + 1)).flatten) := by
    rw [List.set_eq_take_append_cons_drop, if_pos hi]; simp
  have hvr : vr.length = e := by rw [q3, hlen2]
  have newrow : RepL (w.setCells b' o' nvals) Xs Xb (rows.set i r').flatten (u1 ++ (vr ++ u3)) (fun x => ψ1 x + (φr x + ψ4 x)) := by
    rw [hset2]
    exact (fr k1 hz.2.2.1).append (q2.append (fr k4 hz.2.2.2))
  have newcells : Cells (w.setCells b' o' nvals) s so (u1 ++ (vr ++ u3)) := by
    rw [Cells.app, Cells.app, hlen]
    refine ⟨r7.1.other (fun j hj => hsame _ (fun h => .inl ?_)), q1, ?_⟩
    · have := (q6 h).1; omega
    · rw [show so + i * e + vr.length = so + i * e + u2.length by omega]
      refine r7.2.2.other (fun j hj => hsame _ (fun h => .inr ?_))
      have := (q6 h).2; omega
  have own' := RepL.own (rows := rows.set i r') (len := len) (cap := cap) (by simp [r1]) r2 r3 (fun q hq => by
      rcases List.mem_or_eq_of_mem_set hq with h | h
      · exact r4 q h
      · rw [h, lr', hre]) (by rw [size_setCells]; exact r5) (r6.setCells q7) newcells newrow (fr g2 hz.2.1)
  have hset3 : (c1 ++ AC.sl .own e rows :: c2).set k (.sl .own e (rows.set i r')) = c1 ++ .sl .own e (rows.set i r') :: c2 := by
    rw [← e1, List.set_append_right _ _ (Nat.le_refl _)]; simp
  refine ⟨_, by rw [hset3]; exact (fr g1 hz.1).append own', fun x => ?_, ?_, by rw [hn.length]; exact hav⟩
  · have h1 := tot x
    have h2 := q4 x
    omega
  · have h2 := tot b'
    omega

/-- What a root holds. -/
def RootIs (w : World) (Xs Xb : Nat → Prop) (tm : Nat → Value) (β : Nat → Nat) (cs : List AC) (f : Foot) : Rt → Prop
  | .b n => ∃ vals ψ, Cells w (β n) 0 vals ∧ Avail w (β n) 0 vals.length ∧ RepL w Xs Xb cs vals ψ ∧ ∀ x, f x = (if x = β n then 1 else 0) + ψ x
  | .t n => ∃ c, cs = [c] ∧ RepL w Xs Xb [c] [tm n] f

section
variable {E : Env} {v : Res → Val} {tm : Nat → Value} {w : World} {β : Nat → Nat} {φ : Res → Foot}

theorem RelW.root (h : RelW E v tm w β φ) {q : Rt} {cs : List AC} (hc : content v q = some cs) : RootIs w (XS E w φ) (XB w φ []) tm β cs (φ q.res) q := by
  cases q with
  | b n =>
    simp only [content] at hc
    split at hc <;> simp only [Option.some.injEq, reduceCtorEq] at hc
    rename_i cs' hv
    subst hc
    exact h.box n _ hv
  | t n =>
    simp only [content] at hc
    split at hc <;> simp only [Option.some.injEq, reduceCtorEq] at hc
    rename_i c hv
    subst hc
    obtain ⟨vals, h1, h2⟩ := h.ent n _ _ hv (by intro p hp; simp at hp)
    simp only [Bool.false_eq_true, if_false] at h2
    subst h2
    exact ⟨c, rfl, h1⟩

theorem RootIs.swap {Xs Xb : Nat → Prop} {q : Rt} {cs : List AC} {f : Foot} (hq : RootIs w Xs Xb tm β cs f q) {own : Nat → Prop} {p : Path} {off b o : Nat} (hr : Reach w tm β own q p off b o)
    {xs new cs' : List AC} (hx : cellsAt cs p off = some xs) (hs : setAt cs p off new = some cs') :
    ∃ vs ψ, Cells w b o vs ∧ vs.length = new.length ∧ RepL w Xs Xb (xs.take new.length) vs ψ ∧ (∀ x, ψ x ≤ f x) ∧
      ∀ (Xs' Xb' : Nat → Prop) (ψ' : Foot), (∀ b, Xs b → Xs' b) → (∀ b, Xb b → Xb' b) → RepL w Xs' Xb' new vs ψ' → ∃ f', RootIs w Xs' Xb' tm β cs' f' q ∧ ∀ x, f' x + ψ x = f x + ψ' x := by
  cases q with
  | b n =>
    obtain ⟨vals, χ, h1, h2, h3, h4⟩ := hq
    obtain ⟨vs, ψ, k1, k2, k3, k4, k5⟩ := along_swap p h1 h3 hr hx hs
    refine ⟨vs, ψ, k1, k2, k3, fun x => by have := k4 x; have := h4 x; omega, fun Xs' Xb' ψ' a1 a2 hn => ?_⟩
    obtain ⟨φ', m1, m2⟩ := k5 Xs' Xb' ψ' a1 a2 hn
    exact ⟨fun x => (if x = β n then 1 else 0) + φ' x, ⟨vals, φ', h1, h2, m1, fun _ => rfl⟩, fun x => by have := m2 x; have := h4 x; dsimp only; omega⟩
  | t n =>
    obtain ⟨c, rfl, h1⟩ := hq
    cases p with
    | nil => exact hr.elim
    | cons y p =>
      obtain ⟨k, i, e⟩ := y
      obtain ⟨rfl, s, so, len, cap, htm, hal⟩ := hr
      obtain ⟨rows, r, r', hk, hri, hset1, rfl⟩ := setAt_cons hs
      obtain ⟨rows2, r2, hk2, hri2, hx1⟩ := cellsAt_cons hx
      rw [hk] at hk2
      simp only [Option.some.injEq, AC.sl.injEq, true_and] at hk2
      subst hk2
      rw [hri] at hri2
      simp only [Option.some.injEq] at hri2
      subst hri2
      obtain ⟨vs, ψ, k1, k2, k3, k4, k5⟩ := row_swap h1 hk (show [tm n][0]? = some (.slice (some ⟨s, so, none⟩) len cap) by simp [htm]) hri (setAt_len p hset1) fun vals φ hc1 hr1 => along_swap p hc1 hr1 hal hx1 hset1
      refine ⟨vs, ψ, k1, k2, k3, k4, fun Xs' Xb' ψ' a1 a2 hn => ?_⟩
      obtain ⟨φ', m1, m2⟩ := k5 Xs' Xb' ψ' a1 a2 hn
      simp only [List.set_cons_zero] at m1 ⊢
      exact ⟨φ', ⟨_, rfl, m1⟩, m2⟩

theorem RootIs.write {Xs Xb : Nat → Prop} {q : Rt} {cs : List AC} {f : Foot} (hq : RootIs w Xs Xb tm β cs f q) {own : Nat → Prop} {p : Path} {off b o : Nat} (hr : Reach w tm β own q p off b o)
    {new cs' : List AC} (hs : setAt cs p off new = some cs') {nvals : List Value} {ψ : Foot} (hn : RepL w Xs Xb new nvals ψ) (hd : ∀ x, f x + ψ x ≤ 1) (hX : ∀ x, f x ≠ 0 → ¬ Xs x ∧ ¬ Xb x) :
    ∃ f', RootIs (w.setCells b o nvals) Xs Xb tm β cs' f' q ∧ (∀ x, f' x ≤ f x + ψ x) ∧ f b ≠ 0 ∧ Avail w b o nvals.length ∧ (∀ n, q = .b n → f' (β n) ≠ 0) := by
  cases q with
  | b n =>
    obtain ⟨vals, χ, h1, h2, h3, h4⟩ := hq
    obtain ⟨vals', φ', k1, k2, k3, k4, k5, k6, k7⟩ := along_write hn p h1 h3 (fun x => by have := hd x; have := h4 x; omega) (fun x hx => hX x (by have := h4 x; omega)) hr hs
    have hav := along_avail p h1 h3 h2 hr hs
    refine ⟨fun x => (if x = β n then 1 else 0) + φ' x, ⟨vals', φ', k1, by rw [k3]; exact h2.setCells k7, k2, fun _ => rfl⟩, fun x => by have := k4 x; have := h4 x; dsimp only; omega, ?_, by rw [hn.length]; exact hav, fun m hm => by
      simp only [Rt.b.injEq] at hm; subst hm; simp⟩
    rcases k5 with rfl | h
    · rw [h4]; simp
    · rw [h4]; omega
  | t n =>
    obtain ⟨c, rfl, h1⟩ := hq
    cases p with
    | nil => exact hr.elim
    | cons y p =>
      obtain ⟨k, i, e⟩ := y
      obtain ⟨rfl, s, so, len, cap, htm, hal⟩ := hr
      obtain ⟨rows, r, r', hk, hri, hset1, rfl⟩ := setAt_cons hs
      obtain ⟨φ', k1, k2, k3, k4⟩ := row_write hn h1 hk (show [tm n][0]? = some (.slice (some ⟨s, so, none⟩) len cap) by simp [htm]) hri hd hX hal hset1
      simp only [List.set_cons_zero] at k1 ⊢
      exact ⟨φ', ⟨_, rfl, k1⟩, k2, k3, k4, by simp⟩
end
end Go.Fw
namespace Go.Fw
open Go

theorem appl_putC (v : Res → Val) {q : Rt} {cs : List AC} (hq : ∀ n, q = .t n → ∃ c, cs = [c]) :
    (∀ n, appl v (putC v q cs) (.t n) = if q = .t n then .t [] (.pl false cs) else v (.t n)) ∧ (∀ n, appl v (putC v q cs) (.b n) = if q = .b n then .b cs else v (.b n)) ∧
      (∀ r, appl v (putC v q cs) (.v r) = if r = q then .v (ver v q + 1) else v (.v r)) := by
  cases q with
  | b m =>
    refine ⟨fun n => ?_, fun n => ?_, fun r => ?_⟩ <;> simp [putC, appl, nrm]
    · by_cases e : n = m <;> simp [e] <;> exact fun e' => absurd e'.symm e
  | t m =>
    obtain ⟨c, rfl⟩ := hq m rfl
    refine ⟨fun n => ?_, fun n => ?_, fun r => ?_⟩ <;> simp [putC, appl, nrm]
    · by_cases e : n = m <;> simp [e] <;> exact fun e' => absurd e'.symm e

theorem appl_putT (v v0 : Res → Val) (d : Nat) (st : Stamps) (tv : TV) :
    (∀ n, appl v0 (putT v d st tv) (.t n) = if n = d then .t st tv else v0 (.t n)) ∧ (∀ n, appl v0 (putT v d st tv) (.b n) = v0 (.b n)) ∧
      (∀ r, appl v0 (putT v d st tv) (.v r) = if r = .t d ∧ isNope (v (.t d)) = false then .v (ver v (.t d) + 1) else v0 (.v r)) := by
  unfold putT
  split
  · rename_i hh
    refine ⟨fun n => ?_, fun n => ?_, fun r => ?_⟩ <;> simp [appl, nrm, hh, isNope]
  · rename_i hh
    have hf : isNope (v (.t d)) = false := by cases hv : v (.t d) <;> simp_all [isNope]
    refine ⟨fun n => ?_, fun n => ?_, fun r => ?_⟩ <;> simp [appl, nrm, hf]

abbrev DP := Option (Nat × Bool × List AC)
def DP.ws (v : Res → Val) : DP → List (Res × Val)
  | none => []
  | some (d, a, cs) => putT v d [] (.pl a cs)
def DP.at (D : DP) (n : Nat) : Prop := ∃ a cs, D = some (n, a, cs)
theorem DP.ws_not (v v0 : Res → Val) {D : DP} {n : Nat} (hn : ¬ D.at n) : appl v0 (D.ws v) (.t n) = v0 (.t n) := by
  cases D with
  | none => rfl
  | some x =>
    obtain ⟨d, a, ds⟩ := x
    refine ((appl_putT v v0 d [] (.pl a ds)).1 n).trans ?_
    exact if_neg (fun e => hn ⟨a, ds, by rw [e]⟩)
def placeN (q : Rt) (fq : Foot) (D : DP) (fd : Foot) (L : List Nat) : List (Res × Foot) :=
  (q.res, fq) :: ((match D with | none => [] | some (d, _, _) => [(.t d, fd)]) ++ L.map (fun n => (.t n, fun _ => 0)))
theorem placeN_fst (q : Rt) (fq : Foot) (D : DP) (fd : Foot) (L : List Nat) (r : Res) : r ∈ (placeN q fq D fd L).map (·.1) ↔ r = q.res ∨ (∃ d, D.at d ∧ r = .t d) ∨ ∃ n ∈ L, r = .t n := by
  unfold placeN DP.at
  cases D with
  | none =>
    simp
    constructor
    · rintro (h | ⟨n, h1, h2⟩)
      · exact .inl h
      · exact .inr ⟨n, h1, h2.symm⟩
    · rintro (h | ⟨n, h1, h2⟩)
      · exact .inl h
      · exact .inr ⟨n, h1, h2.symm⟩
  | some x =>
    obtain ⟨d, a, cs⟩ := x
    simp
    constructor
    · rintro (h | h | ⟨n, h1, h2⟩)
      · exact .inl h
      · exact .inr (.inl h)
      · exact .inr (.inr ⟨n, h1, h2.symm⟩)
    · rintro (h | h | ⟨n, h1, h2⟩)
      · exact .inl h
      · exact .inr (.inl h)
      · exact .inr (.inr ⟨n, h1, h2.symm⟩)
theorem placeN_mem {q : Rt} {fq : Foot} {D : DP} {fd : Foot} {L : List Nat} {x : Res × Foot} (hx : x ∈ placeN q fq D fd L) : x = (q.res, fq) ∨ (∃ d, D.at d ∧ x = (.t d, fd)) ∨ ∃ n ∈ L, x = (.t n, fun _ => 0) := by
  unfold placeN at hx
  cases D with
  | none =>
    simp at hx
    rcases hx with h | ⟨n, h1, h2⟩
    · exact .inl h
    · exact .inr (.inr ⟨n, h1, h2.symm⟩)
  | some y =>
    obtain ⟨d, a, cs⟩ := y
    simp at hx
    rcases hx with h | h | ⟨n, h1, h2⟩
    · exact .inl h
    · exact .inr (.inl ⟨d, ⟨a, cs, rfl⟩, h⟩)
    · exact .inr (.inr ⟨n, h1, h2.symm⟩)

section
variable {E : Env} {v : Res → Val} {tm tm' : Nat → Value} {w w' : World} {β : Nat → Nat} {φ : Res → Foot}

theorem RelW.place (h : RelW E v tm w β φ) (hC : ∀ b, E.C b → b < E.w0.heap.size) {q : Rt} {cs cs' : List AC} (hc : content v q = some cs) (hl : cs'.length = cs.length) {L : List Nat} {D : DP}
    (hqL : ∀ n ∈ L, q ≠ .t n) (hqD : ∀ d, D.at d → q ≠ .t d ∧ d ∉ L) {fq fd : Foot} (hfq1 : ∀ b, fq b ≤ 1) (hfd1 : ∀ b, fd b ≤ 1) (hdis : ∀ b, fq b ≠ 0 → fd b = 0)
    (hsq : ∀ b, fq b ≠ 0 → φ q.res b ≠ 0 ∨ ∃ n ∈ L, φ (.t n) b ≠ 0) (hsd : ∀ b, fd b ≠ 0 → φ q.res b ≠ 0 ∨ ∃ n ∈ L, φ (.t n) b ≠ 0) (hkeep : ∀ n, q = .b n → fq (β n) ≠ 0)
    (hheap : ∀ b, b < w.heap.size → φ q.res b = 0 → (∀ n ∈ L, φ (.t n) b = 0) → w'.heap[b]? = w.heap[b]?) (os : w'.os = w.os) (tape : w'.tape = w.tape) (output : w'.output = w.output) (size : w.heap.size ≤ w'.heap.size)
    (htm : ∀ n, ¬ D.at n → tm' n = tm n)
    (hrq : RootIs w' (XS E w' (upF φ (placeN q fq D fd L))) (XB w' (upF φ (placeN q fq D fd L)) []) tm' β cs' fq q)
    (hrd : ∀ d a ds, D = some (d, a, ds) → RepPl w' (XS E w' (upF φ (placeN q fq D fd L))) (XB w' (upF φ (placeN q fq D fd L)) []) a ds (tm' d) fd) :
    RelW E (appl v (putC v q cs' ++ (D.ws v ++ dropL v L))) tm' w' β (upF φ (placeN q fq D fd L)) := by
  have hone : ∀ n, q = .t n → ∃ c, cs' = [c] := by
    intro n e
    subst e
    simp only [content] at hc
    split at hc <;> simp only [Option.some.injEq, reduceCtorEq] at hc
    subst hc
    match cs', hl with
    | [c], _ => exact ⟨c, rfl⟩
  have hqn : isNope (v q.res) = false := by
    cases q with
    | b n => simp only [content] at hc; split at hc <;> simp_all [Rt.res, isNope]
    | t n => simp only [content] at hc; split at hc <;> simp_all [Rt.res, isNope]
  obtain ⟨c1, c2, c3⟩ := appl_putC v hone
  have dT : ∀ v0 n, appl v0 (D.ws v) (.t n) = (match D with | some (d, a, ds) => if n = d then .t [] (.pl a ds) else v0 (.t n) | none => v0 (.t n)) := by
    intro v0 n; cases D with
    | none => rfl
    | some x => obtain ⟨d, a, ds⟩ := x; exact (appl_putT v v0 d [] _).1 n
  have dB : ∀ v0 n, appl v0 (D.ws v) (.b n) = v0 (.b n) := by
    intro v0 n; cases D with
    | none => rfl
    | some x => obtain ⟨d, a, ds⟩ := x; exact (appl_putT v v0 d [] _).2.1 n
  have dV : ∀ v0 r, (∀ d, D.at d → r ≠ .t d) → appl v0 (D.ws v) (.v r) = v0 (.v r) := by
    intro v0 r hr; cases D with
    | none => rfl
    | some x =>
      obtain ⟨d, a, ds⟩ := x
      refine ((appl_putT v v0 d [] _).2.2 r).trans ?_
      rw [if_neg (fun e => hr d ⟨a, ds, rfl⟩ e.1)]
  have dV1 : ∀ v0 d, D.at d → appl v0 (D.ws v) (.v (.t d)) = if isNope (v (.t d)) = false then .v (ver v (.t d) + 1) else v0 (.v (.t d)) := by
    rintro v0 d ⟨a, ds, rfl⟩
    refine ((appl_putT v v0 d [] _).2.2 _).trans ?_
    simp
  obtain ⟨l1, l2, l3⟩ := appl_dropL v L (appl (appl v (putC v q cs')) (D.ws v))
  have eqv : appl v (putC v q cs' ++ (D.ws v ++ dropL v L)) = appl (appl (appl v (putC v q cs')) (D.ws v)) (dropL v L) := by rw [appl_append, appl_append]
  rw [← eqv] at l1 l2 l3
  clear eqv
  generalize appl v (putC v q cs' ++ (D.ws v ++ dropL v L)) = v' at l1 l2 l3
  have verV : ∀ (x : Res → Val) r k, x (.v r) = .v k → ver x r = k := fun x r k hk => by unfold ver; rw [hk]
  -- versions
  have vL : ∀ n ∈ L, ver v' (.t n) = ver v (.t n) + 1 := fun n hn => verV _ _ _ (by rw [l3, if_pos ⟨n, hn, rfl⟩])
  have vD : ∀ d, D.at d → isNope (v (.t d)) = false → ver v' (.t d) = ver v (.t d) + 1 := fun d hd hf => verV _ _ _ (by
    rw [l3, if_neg (by rintro ⟨n, hn, e⟩; simp at e; subst e; exact (hqD d hd).2 hn), dV1 _ d hd, if_pos hf])
  have vQ : ver v' q = ver v q + 1 := verV _ _ _ (by
    rw [l3, if_neg (by rintro ⟨n, hn, e⟩; exact hqL n hn e), dV _ q (fun d hd => (hqD d hd).1), c3, if_pos rfl])
  have vO : ∀ r, r ≠ q → (∀ n ∈ L, r ≠ .t n) → (∀ d, D.at d → r ≠ .t d) → ver v' r = ver v r := fun r h1 h2 h3 => by
    unfold ver
    rw [l3, if_neg (by rintro ⟨n, hn, e⟩; exact h2 n hn e), dV _ r h3, c3, if_neg h1]
  have vD0 : ∀ d, D.at d → ver v (.t d) ≤ ver v' (.t d) := fun d hd => by
    by_cases hf : isNope (v (.t d)) = false
    · rw [vD d hd hf]; omega
    · have : v' (.v (.t d)) = v (.v (.t d)) := by
        rw [l3, if_neg (by rintro ⟨n, hn, e⟩; simp at e; subst e; exact (hqD d hd).2 hn), dV1 _ d hd, if_neg hf, c3, if_neg (fun e => (hqD d hd).1 e.symm)]
      unfold ver
      rw [this]
      exact Nat.le_refl _
  have vers : ∀ r, ver v r ≤ ver v' r := fun r => by
    by_cases h1 : r = q
    · subst h1; rw [vQ]; omega
    · by_cases h2 : ∃ n ∈ L, r = .t n
      · obtain ⟨n, hn, rfl⟩ := h2; rw [vL n hn]; omega
      · by_cases h3 : ∃ d, D.at d ∧ r = .t d
        · obtain ⟨d, hd, rfl⟩ := h3; exact vD0 d hd
        · rw [vO r h1 (fun n hn e => h2 ⟨n, hn, e⟩) (fun d hd e => h3 ⟨d, hd, e⟩)]; exact Nat.le_refl _
  -- contents
  have tL : ∀ n ∈ L, v' (.t n) = .nope := fun n hn => by rw [l1, if_pos hn]
  have tD : ∀ d a ds, D = some (d, a, ds) → v' (.t d) = .t [] (.pl a ds) := fun d a ds e => by
    have := hqD d ⟨a, ds, e⟩
    rw [l1, if_neg this.2, dT]
    subst e
    simp
  have notD : ∀ n, ¬ D.at n → ∀ v0, appl v0 (D.ws v) (.t n) = v0 (.t n) := fun n hn v0 => DP.ws_not v v0 hn
  have tQ : ∀ n, q = .t n → v' (.t n) = .t [] (.pl false cs') := fun n e => by
    rw [l1, if_neg (fun hn => hqL n hn e), notD n (fun hd => (hqD n hd).1 e), c1, if_pos e]
  have bQ : ∀ n, q = .b n → v' (.b n) = .b cs' := fun n e => by rw [l2, dB, c2, if_pos e]
  have stp : Stp E v v' tm tm' w w' β β φ (upF φ (placeN q fq D fd L)) (· ∈ (placeN q fq D fd L).map (·.1)) := by
    refine Stp.of h hC _ ?_ ?_ ?_ ?_ vers ?_ ?_ (fun _ _ => rfl) ?_ ?_ os tape output size
    · intro x hx b
      rcases placeN_mem hx with rfl | ⟨d, _, rfl⟩ | ⟨n, _, rfl⟩
      · exact hfq1 b
      · exact hfd1 b
      · exact Nat.zero_le _
    · intro x hx y hy hne b hb
      rcases placeN_mem hx with rfl | ⟨d, hd, rfl⟩ | ⟨n, _, rfl⟩ <;> rcases placeN_mem hy with rfl | ⟨d', hd', rfl⟩ | ⟨n', _, rfl⟩ <;> try rfl
      · exact absurd rfl hne
      · exact hdis b hb
      · exact Classical.byContradiction fun e => by have := hdis b e; exact hb this
      · obtain ⟨a1, c1, e1⟩ := hd
        obtain ⟨a2, c2, e2⟩ := hd'
        rw [e1] at e2
        simp at e2
        exact absurd (by rw [e2.1]) hne
      · exact absurd rfl hb
      · exact absurd rfl hb
    · intro x hx b hb
      left
      have conv : (φ q.res b ≠ 0 ∨ ∃ n ∈ L, φ (.t n) b ≠ 0) → ∃ r ∈ (placeN q fq D fd L).map (·.1), φ r b ≠ 0 := by
        rintro (h1 | ⟨n, hn, h1⟩)
        · exact ⟨q.res, (placeN_fst _ _ _ _ _ _).2 (.inl rfl), h1⟩
        · exact ⟨.t n, (placeN_fst _ _ _ _ _ _).2 (.inr (.inr ⟨n, hn, rfl⟩)), h1⟩
      rcases placeN_mem hx with rfl | ⟨d, _, rfl⟩ | ⟨n, _, rfl⟩
      · exact conv (hsq b hb)
      · exact conv (hsd b hb)
      · exact absurd rfl hb
    · intro r hv hr
      rw [placeN_fst] at hr
      cases r with
      | t n =>
        rw [l1, if_neg (fun hn => hr (.inr (.inr ⟨n, hn, rfl⟩))), notD n (fun hd => hr (.inr (.inl ⟨n, hd, rfl⟩))), c1, if_neg (fun e => hr (.inl (by rw [e]; rfl)))]
      | b n => rw [l2, dB, c2, if_neg (fun e => hr (.inl (by rw [e]; rfl)))]
      | v r => exact absurd rfl (hv r)
    · intro r hr hf
      rw [placeN_fst] at hr
      have inj : ∀ r s : Rt, r.res = s.res → r = s := by intro r s; cases r <;> cases s <;> simp [Rt.res]
      rcases hr with e | ⟨d, hd, e⟩ | ⟨n, hn, e⟩
      · rw [inj r q e, vQ]; omega
      · have : r = .t d := inj r (.t d) e
        subst this
        rw [vD d hd hf]; omega
      · have : r = .t n := inj r (.t n) e
        subst this
        rw [vL n hn]; omega
    · intro n hn
      rw [placeN_fst] at hn
      exact htm n (fun hd => hn (.inr (.inl ⟨n, hd, rfl⟩)))
    · intro n hn hf
      rw [placeN_fst] at hn
      have hqb : q = .b n := by
        rcases hn with e | ⟨d, _, e⟩ | ⟨m, _, e⟩
        · cases q with
          | b m => simp [Rt.res] at e; rw [e]
          | t m => simp [Rt.res] at e
        · simp at e
        · simp at e
      refine ⟨rfl, ?_, by rw [bQ n hqb]; rfl⟩
      have : upF φ (placeN q fq D fd L) (.b n) = fq := by subst hqb; simp [placeN, upF, Rt.res]
      rw [this]
      exact hkeep n hqb
    · intro b hb hf
      refine hheap b hb (hf _ ((placeN_fst _ _ _ _ _ _).2 (.inl rfl))) fun n hn => hf _ ((placeN_fst _ _ _ _ _ _).2 (.inr (.inr ⟨n, hn, rfl⟩)))
  have fQ : upF φ (placeN q fq D fd L) q.res = fq := by simp [placeN, upF]
  have cases3 : ∀ n, Res.t n ∈ (placeN q fq D fd L).map (·.1) → v' (.t n) = .nope ∨ ∃ tv, v' (.t n) = .t [] tv ∧ RepTV E w' tm' β (upF φ (placeN q fq D fd L)) v' [] (tm' n) (upF φ (placeN q fq D fd L) (.t n)) tv := by
    intro n hn
    rw [placeN_fst] at hn
    rcases hn with e | ⟨d, hd, e⟩ | ⟨m, hm, e⟩
    · cases q with
      | b m => simp [Rt.res] at e
      | t m =>
        simp [Rt.res] at e
        subst e
        obtain ⟨c, e1, e2⟩ := hrq
        refine .inr ⟨_, tQ n rfl, [tm' n], ?_, by simp⟩
        have : upF φ (placeN (.t n) fq D fd L) (.t n) = fq := fQ
        rw [this, e1]
        exact e2
    · simp at e
      subst e
      have hd0 := hd
      obtain ⟨a, ds, e⟩ := hd
      refine .inr ⟨_, tD n a ds e, ?_⟩
      have : upF φ (placeN q fq D fd L) (.t n) = fd := by
        have := (hqD n hd0).1
        subst e
        cases q with
        | b m => simp [placeN, upF, Rt.res]
        | t m =>
          have hne : n ≠ m := fun e => this (by rw [e])
          simp [placeN, upF, Rt.res, hne]
      rw [this]
      exact hrd n a ds e
    · simp at e
      subst e
      exact .inl (tL n hm)
  refine h.step stp ?_ ?_ ?_ ?_
  · intro n st tv hn hv p hp
    rcases cases3 n hn with e | ⟨tv', e, _⟩
    · rw [e] at hv; simp at hv
    · rw [e] at hv; simp at hv; obtain ⟨rfl, _⟩ := hv; simp at hp
  · intro n st tv hn hv _ p hp
    rcases cases3 n hn with e | ⟨tv', e, _⟩
    · rw [e] at hv; simp at hv
    · rw [e] at hv; simp at hv; obtain ⟨rfl, _⟩ := hv; simp at hp
  · intro n st tv hn hv _
    rcases cases3 n hn with e | ⟨tv', e, e2⟩
    · rw [e] at hv; simp at hv
    · rw [e] at hv; simp at hv; obtain ⟨rfl, rfl⟩ := hv; exact e2
  · intro n ds hn hv
    rw [placeN_fst] at hn
    rcases hn with e | ⟨d, _, e⟩ | ⟨m, _, e⟩
    · cases q with
      | t m => simp [Rt.res] at e
      | b m =>
        simp [Rt.res] at e
        subst e
        rw [bQ n rfl] at hv
        simp at hv
        subst hv
        have : upF φ (placeN (.b n) fq D fd L) (.b n) = fq := fQ
        rw [this]
        exact hrq
    · simp at e
    · simp at e
end
end Go.Fw
namespace Go.Fw
open Go

section
variable {P : Program} {E : Env} {v : Res → Val} {o : Oper} {a : Act} {w : World} {β : Nat → Nat} {φ : Res → Foot}

theorem upF_zero {N : List (Res × Foot)} {b : Nat} (hN : ∀ x ∈ N, x.2 b ≠ 0 → ∃ r, φ r b ≠ 0) (hb : ∀ r, φ r b = 0) (r : Res) : upF φ N r b = 0 := by
  induction N with
  | nil => exact hb r
  | cons x N ih =>
    obtain ⟨s, f⟩ := x
    rw [upF]
    split
    · exact Classical.byContradiction fun e => by obtain ⟨r', h1⟩ := hN (s, f) (by simp) e; exact h1 (hb r')
    · exact ih (fun y hy => hN y (by simp [hy]))

theorem RootIs.weak {Xs Xb Xs' Xb' : Nat → Prop} {tm : Nat → Value} {q : Rt} {cs : List AC} {f : Foot} (h : RootIs w Xs Xb tm β cs f q) (hs : ∀ b, Xs b → Xs' b) (hb : ∀ b, Xb b → Xb' b) : RootIs w Xs' Xb' tm β cs f q := by
  cases q with
  | b n => obtain ⟨vals, ψ, h1, h2, h3, h4⟩ := h; exact ⟨vals, ψ, h1, h2, h3.weak hs hb, h4⟩
  | t n => obtain ⟨c, h1, h2⟩ := h; exact ⟨c, h1, h2.weak hs hb⟩
theorem RootIs.tm {Xs Xb : Nat → Prop} {tm tm' : Nat → Value} {q : Rt} {cs : List AC} {f : Foot} (h : RootIs w Xs Xb tm β cs f q) (ht : ∀ n, q = .t n → tm' n = tm n) : RootIs w Xs Xb tm' β cs f q := by
  cases q with
  | b n => exact h
  | t n => obtain ⟨c, h1, h2⟩ := h; exact ⟨c, h1, by rw [ht n rfl]; exact h2⟩
theorem RootIs.keep {Xs Xb : Nat → Prop} {tm : Nat → Value} {q : Rt} {cs : List AC} {f : Foot} (h : RootIs w Xs Xb tm β cs f q) (n : Nat) (hq : q = .b n) : f (β n) ≠ 0 := by
  subst hq
  obtain ⟨vals, ψ, h1, h2, h3, h4⟩ := h
  rw [h4]; simp

theorem gone_rep {Xs X : Nat → Prop} : ∀ {vs : List Value}, (∀ u ∈ vs, u.oneCell' = true) → RepL w Xs X (List.replicate vs.length .gone) vs (fun _ => 0)
  | [], _ => .nil
  | u :: vs, h => by
    rw [List.length_cons, List.replicate_succ]
    exact .sc (h u (by simp)) (gone_rep fun u hu => h u (by simp [hu]))

/-- A load that takes what it loads out of its place, or has it held by all from now on. -/
theorem loadm_sound {Γ : Gam} (h : RelW E v (tmv a) w β φ) (hC : ∀ b, E.C b → b < E.w0.heap.size) {d p n : Nat} {rs : List Rt} {r : Option Rt} {g : Bool} {m : Lm} {t : TypeId}
    (hop : o.op = .load t (.tmp p)) (hd : o.dst = some d) (hN : d < a.tmps.size) (ht : tySize P t = some n) (hg : isAggB P t = some g) (h1 : g = false → n = 1)
    (hrs : rs.contains (.t d) = false) (hr : r ≠ some (.t d)) (hm : m = .mv ∨ m = .fz) {ws : List (Res × Val)} (hf : fop Γ v (.load d p rs r n g m) = some ws) : OpSound P E (appl v ws) o a w := by
  by_cases hvw : ∃ st cs, v (.t p) = .t st (.view cs)
  · obtain ⟨st, cs, hv⟩ := hvw
    have : fop Γ v (.load d p rs r n g .cp) = some ws := by rw [← hf]; simp only [fop, hv]
    exact load_sound h hC hop hd hN ht hg h1 hrs hr (by simp) this
  simp only [fop] at hf
  split at hf
  · rename_i st cs hv; exact absurd ⟨st, cs, hv⟩ hvw
  · rename_i st q path off hv
    split at hf <;> try (simp at hf; done)
    rename_i hc
    simp only [Bool.and_eq_true, beq_iff_eq] at hc
    obtain ⟨hst, hrq⟩ := hc
    obtain ⟨cs, hcs, hf2⟩ := ob_some hf
    obtain ⟨xs, hxs, hf3⟩ := ob_some hf2
    clear hf hf2
    try dsimp only at hf3
    split at hf3 <;> try (simp at hf3; done)
    rename_i hle
    by_cases hno : noOwnL (xs.take n) = true
    · rw [if_pos hno] at hf3
      have : fop Γ v (.load d p rs r n g .cp) = some ws := by
        simp only [fop, hv, hst, hrq, hcs, hxs, ob]
        simp [hle, hno]
        simpa using hf3
      exact load_sound h hC hop hd hN ht hg h1 hrs hr (by simp) this
    rw [if_neg hno] at hf3
    obtain ⟨k1, k2⟩ := stOk_spec hst
    obtain ⟨⟨r0, r1, b, o', e, hreach⟩, k3⟩ := h.slotRep hv k1
    have hqd : q ≠ .t d := fun e => hr (by rw [hrq, e])
    -- both ways at once: 'new' is what is left in the place, 'got' what comes to the slot
    have main : ∀ (new got : List AC) (cs' : List AC), new.length = n → setAt cs path off new = some cs' →
        (∀ (Xs' Xb' : Nat → Prop) (vs : List Value) (ψ : Foot), (∀ b, XS E w φ b → Xs' b) → (∀ b, XB w φ [] b → Xb' b) → vs.length = n → RepL w (XS E w φ) (XB w φ []) (xs.take n) vs ψ →
          (m = .fz → ∀ b, ψ b ≠ 0 → Xs' b) → RepL w Xs' Xb' new vs (fun _ => 0) ∧ RepL w Xs' Xb' got vs (if m = .fz then fun _ => 0 else ψ)) →
        OpSound P E (appl v (putC v q cs' ++ putT v d [] (.pl g got))) o a w := by
      intro new got cs' hnl hset hboth next Q hn
      obtain ⟨vs, ψ, s1, s2, s3, s4, s5⟩ := (h.root hcs).swap hreach hxs hset
      rw [hnl] at s2 s3
      obtain ⟨u, hrun, hu⟩ := loadAt_run (P := P) ht hg h1 s1 s2
      have hev : a.eval (.tmp p) = .pointer (some ⟨b, o', none⟩) := e
      have hdq := fun x hx => h.dom q.res x hx
      -- the footprints
      let fd : Foot := if m = .fz then fun _ => 0 else ψ
      have hfd : ∀ x, fd x ≤ ψ x := fun x => by show (if m = .fz then fun _ => 0 else ψ) x ≤ ψ x; split <;> simp
      refine wp_of next Q hd hN (u := u) (w' := w) (by simp [execOp, hop, hev, hrun]) ?_ hn
      intro tm' htm
      -- first, what it is with the elder sets: only for the footprint
      obtain ⟨f0, _, f2⟩ := s5 (fun b => XS E w φ b ∨ ψ b ≠ 0) (fun b => XB w φ [] b) _ (fun b hb => .inl hb) (fun _ hb => hb)
        (hboth (fun b => XS E w φ b ∨ ψ b ≠ 0) (fun b => XB w φ [] b) vs ψ (fun b hb => .inl hb) (fun _ hb => hb) s2 s3 (fun _ b hb => .inr hb)).1
      have hzero : ∀ b, (∀ r, φ r b = 0) → ∀ r, upF φ (placeN q f0 (some (d, g, got)) fd []) r b = 0 := fun b hb r => upF_zero (fun x hx hx0 => by
        refine ⟨q.res, ?_⟩
        rcases placeN_mem hx with rfl | ⟨d', _, rfl⟩ | ⟨n', hn', rfl⟩
        · have := f2 b; dsimp only at hx0; omega
        · have := hfd b; have := s4 b; dsimp only at hx0; omega
        · simp at hn') hb r
      have monoS : ∀ b, XS E w φ b → XS E w (upF φ (placeN q f0 (some (d, g, got)) fd [])) b := fun b hb => ⟨hb.1, hzero b hb.2.1, hb.2.2⟩
      have monoB : ∀ b, XB w φ [] b → XB w (upF φ (placeN q f0 (some (d, g, got)) fd [])) [] b := fun b hb =>
        ⟨hb.1, fun r hr => absurd (hzero b (fun r' => Classical.byContradiction fun e => by obtain ⟨_, h1, _⟩ := hb.2 r' e; simp at h1) r) hr⟩
      have frzS : m = .fz → ∀ b, ψ b ≠ 0 → XS E w (upF φ (placeN q f0 (some (d, g, got)) fd [])) b := fun hm0 b hb => by
        have hq0 : φ q.res b ≠ 0 := by have := s4 b; omega
        refine ⟨(hdq b hq0).1, fun r => ?_, (hdq b hq0).2.1⟩
        by_cases hr : r ∈ (placeN q f0 (some (d, g, got)) fd []).map (·.1)
        · obtain ⟨f, g1, g2⟩ := upF_mem (φ := φ) hr
          rw [g2]
          rcases placeN_mem g1 with e | ⟨d', _, e⟩ | ⟨n', hn', _⟩
          · simp only [Prod.mk.injEq] at e
            rw [e.2]
            have := f2 b
            have := h.le1 q.res b
            omega
          · simp only [Prod.mk.injEq] at e
            rw [e.2]
            show (if m = .fz then fun _ => 0 else ψ) b = 0
            rw [if_pos hm0]
          · simp at hn'
        · rw [upF_not hr]
          refine Classical.byContradiction fun e => hr ?_
          have := h.uniq r q.res b e hq0
          rw [placeN_fst]
          exact .inl this
      obtain ⟨b1, b2⟩ := hboth (XS E w (upF φ (placeN q f0 (some (d, g, got)) fd []))) (XB w (upF φ (placeN q f0 (some (d, g, got)) fd [])) []) vs ψ monoS monoB s2 s3 frzS
      obtain ⟨f1, q1, q2⟩ := s5 _ _ _ monoS monoB b1
      have hf01 : f1 = f0 := funext fun x => by have := q2 x; have := f2 x; omega
      subst hf01
      have key := h.place (w' := w) (tm' := tm') hC hcs (setAt_len _ hset) (L := []) (D := some (d, g, got)) (by simp) (by
          rintro d' ⟨a', c', e'⟩
          simp at e'
          obtain ⟨rfl, _, _⟩ := e'
          exact ⟨hqd, by simp⟩) (fq := f1) (fd := fd) (fun x => by have := f2 x; have := h.le1 q.res x; omega) (fun x => by have := hfd x; have := s4 x; have := h.le1 q.res x; omega)
        (fun x hx => by have := f2 x; have := hfd x; have := h.le1 q.res x; omega) (fun x hx => .inl (by have := f2 x; omega)) (fun x hx => .inl (by have := hfd x; have := s4 x; omega)) (fun n hn => q1.keep n hn)
        (fun _ _ _ _ => rfl) rfl rfl rfl (Nat.le_refl _) (fun n hn => by rw [htm, if_neg (fun e => hn ⟨g, got, by rw [e]⟩)]) (q1.tm (fun n e => by rw [htm, if_neg (fun e' => hqd (by rw [e, e']))]))
        (fun d' a' ds e' => by
          simp at e'
          obtain ⟨rfl, rfl, rfl⟩ := e'
          rw [htm, if_pos rfl]
          exact ⟨vs, b2, hu⟩)
      have e2 : putC v q cs' ++ (DP.ws v (some (d, g, got)) ++ dropL v []) = putC v q cs' ++ putT v d [] (.pl g got) := by simp [DP.ws, dropL]
      rw [e2] at key
      exact ⟨β, _, key⟩
    rcases hm with rfl | rfl
    · simp only at hf3
      obtain ⟨cs', hset, hf4⟩ := ob_some hf3
      simp only [Option.some.injEq] at hf4
      subst hf4
      refine main _ _ _ (by simp) hset fun Xs' Xb' vs ψ hs hb hl hrep _ => ⟨?_, by simpa using hrep.weak hs hb⟩
      subst hl
      exact gone_rep hrep.one
    · simp only at hf3
      obtain ⟨cs', hset, hf4⟩ := ob_some hf3
      simp only [Option.some.injEq] at hf4
      subst hf4
      refine main _ _ _ (by rw [frzL_length, List.length_take, Nat.min_eq_left hle]) hset fun Xs' Xb' vs ψ hs hb hl hrep hfz => ?_
      have := hrep.frz Xb' hs (hfz rfl)
      exact ⟨this, by simpa using this⟩
  · simp at hf

theorem storeAt_run {t : TypeId} {n : Nat} (ht : tySize P t = some n) {b o : Nat} {vals : List Value} {u : Value} (hu : u.cells = vals.toArray) (hl : vals.length = n) (ha : Avail w b o vals.length) (h1 : ∀ u ∈ vals, u.oneCell' = true) :
    (Instr.storeAt t (.pointer (some ⟨b, o, none⟩)) u).run P w = .ok () (w.setCells b o vals) := by
  have hst := run_storeCells_cells (P := P) b o vals 0 w (fun j hj => by simpa using (ha.1 j hj).1) (fun j hj => by simpa using (ha.1 j hj).2) h1
  obtain ⟨info, hi, hs⟩ := Option.map_eq_some_iff.1 ht
  simp only [Nat.add_zero] at hst
  simp [Instr.storeAt, Instr.sureAddr, storeVar, sizeOf, typeInfo, hi, hu, hl, hs, hst]

theorem store_sound {Γ : Gam} (h : RelW E v (tmv a) w β φ) (hC : ∀ b, E.C b → b < E.w0.heap.size) {p n : Nat} {rs : List Rt} {q : Rt} {x : Opr} {y : Operand} {t : TypeId}
    (hop : o.op = .store t (.tmp p) y) (hd : o.dst = none) (ht : tySize P t = some n) (hxy : oprOk x y = true) (hq : ∀ k ∈ oprL x, q ≠ .t k)
    {ws : List (Res × Val)} (hf : fop Γ v (.store p rs q n x) = some ws) : OpSound P E (appl v ws) o a w := by
  simp only [fop] at hf
  split at hf <;> try (simp at hf; done)
  rename_i st q' path off hv
  split at hf <;> try (simp at hf; done)
  rename_i hc
  simp only [Bool.and_eq_true, decide_eq_true_eq] at hc
  obtain ⟨hst, rfl⟩ := hc
  obtain ⟨⟨st2, tv, ws1⟩, hx, hf2⟩ := ob_some hf
  try dsimp only at hf2
  split at hf2 <;> try (simp at hf2; done)
  rename_i _ g xs ws2 e1
  simp only [Prod.mk.injEq] at e1
  obtain ⟨rfl, rfl, rfl⟩ := e1
  split at hf2 <;> try (simp at hf2; done)
  rename_i hxl
  obtain ⟨cs, hcs, hf3⟩ := ob_some hf2
  obtain ⟨cs', hset, hf4⟩ := ob_some hf3
  simp only [Option.some.injEq] at hf4
  subst hf4
  clear hf hf2 hf3
  obtain ⟨k1, k2⟩ := stOk_spec hst
  obtain ⟨⟨r0, r1, b, o', e, hreach⟩, k3⟩ := h.slotRep hv k1
  obtain ⟨rfl, f, hi, _⟩ := opr_sound h hxy hx
  obtain ⟨vals, g1, g2⟩ := hi.rep
  have hcells := cells_of g1 g2
  have hvl : vals.length = n := by rw [g1.length]; exact hxl
  have dis : ∀ z, f z ≠ 0 → φ q'.res z = 0 := fun z hz => Classical.byContradiction fun hz' => by
    obtain ⟨k, hk, hk2⟩ := hi.src z hz
    have := h.uniq _ _ z hk2 hz'
    exact hq k hk (by cases q' <;> simp [Rt.res] at this; rw [this])
  have hsum : ∀ z, φ q'.res z + f z ≤ 1 := fun z => by
    have := h.le1 q'.res z
    have := hi.le1 z
    by_cases hz : f z = 0
    · omega
    · have := dis z hz; omega
  obtain ⟨fq, w1, w2, w3, w4, w5⟩ := (h.root hcs).write hreach hset g1 hsum (fun z hz => ⟨fun hx => hz (hx.2.1 _), fun hx => by obtain ⟨_, h1, _⟩ := hx.2 _ hz; simp at h1⟩)
  have hrun := storeAt_run (P := P) ht hcells hvl w4 g1.one
  have hev : a.eval (.tmp p) = .pointer (some ⟨b, o', none⟩) := e
  intro next Q hn
  unfold Oper.wp
  have hex : (execOp a.eval o).run P w = .ok .skip (w.setCells b o' vals) := by simp [execOp, hop, hev, hrun]
  rw [hex, Oper.upon_skip, hd]
  refine hn _ _ ⟨?_, rfl, rfl⟩ (Wrote.refl _ _)
  have hzero : ∀ z, (∀ r, φ r z = 0) → ∀ r, upF φ (placeN q' fq none (fun _ => 0) (oprL x)) r z = 0 := fun z hz r => upF_zero (fun y hy hy0 => by
    rcases placeN_mem hy with rfl | ⟨d', hd', rfl⟩ | ⟨n', hn', rfl⟩
    · dsimp only at hy0
      have := w2 z
      by_cases h0 : φ q'.res z = 0
      · obtain ⟨k, _, hk2⟩ := hi.src z (by omega); exact ⟨_, hk2⟩
      · exact ⟨_, h0⟩
    · exact absurd rfl hy0
    · exact absurd rfl hy0) hz r
  have hsz : (w.setCells b o' vals).heap.size = w.heap.size := size_setCells _ _ _
  have monoS : ∀ z, XS E w φ z → XS E (w.setCells b o' vals) (upF φ (placeN q' fq none (fun _ => 0) (oprL x))) z := fun z hz => ⟨by rw [hsz]; exact hz.1, hzero z hz.2.1, hz.2.2⟩
  have monoB : ∀ z, XB w φ [] z → XB (w.setCells b o' vals) (upF φ (placeN q' fq none (fun _ => 0) (oprL x))) [] z := fun z hz =>
    ⟨by rw [hsz]; exact hz.1, fun r hr => absurd (hzero z (fun r' => Classical.byContradiction fun e => by obtain ⟨_, h1, _⟩ := hz.2 r' e; simp at h1) r) hr⟩
  have key := h.place (w' := w.setCells b o' vals) (tm' := tmv a) hC hcs (setAt_len _ hset) (L := oprL x) (D := none) hq (by rintro d ⟨_, _, e⟩; simp at e) (fq := fq) (fd := fun _ => 0)
    (fun z => by have := w2 z; have := hsum z; omega) (by simp) (by simp) (fun z hz => by
      have := w2 z
      by_cases h0 : φ q'.res z = 0
      · exact .inr (hi.src z (by omega))
      · exact .inl h0) (by simp) (fun n hn => w5 n hn) (fun z hz h0 hL => heap_setCells (fun e => w3 (by rw [← e]; exact h0)) _ _ _) (os_setCells _ _ _).1 (os_setCells _ _ _).2.1 (os_setCells _ _ _).2.2 (by rw [hsz]; exact Nat.le_refl _)
    (fun _ _ => rfl) (w1.weak monoS monoB) (by simp)
  have e2 : putC v q' cs' ++ (DP.ws v none ++ dropL v (oprL x)) = putC v q' cs' ++ dropL v (oprL x) := by simp [DP.ws]
  rw [e2] at key
  exact ⟨β, _, key⟩
end
end Go.Fw
