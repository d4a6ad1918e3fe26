/- The framework, part Ro: a slice that is given to a callee so that it comes back turned: its place, and the call. Conditions: none. -/
import Derived.Test.YtjldolmokfnkoaaGreatDoorFwRm
namespace Go.Fw
open Go

/-- At a place, other cells are read of later memory. -/
def Swap2 (w : World) (Xs Xb : Nat → Prop) (vals : List Value) (φ : Foot) (b' o' : Nat) (xs new cs' : List AC) : Prop :=
  ∃ vs ψ, Cells w b' o' vs ∧ vs.length = new.length ∧ RepL w Xs Xb (xs.take new.length) vs ψ ∧ (∀ x, ψ x ≤ φ x) ∧
    ∀ (w' : World) (Xs' Xb' : Nat → Prop) (ψ' : Foot), w.heap.size ≤ w'.heap.size → (∀ b, Xs b → Xs' b ∧ w'.heap[b]? = w.heap[b]?) → (∀ b, Xb b → Xb' b ∧ w'.heap[b]? = w.heap[b]?) →
      (∀ x, φ x - ψ x ≠ 0 → w'.heap[x]? = w.heap[x]?) → RepL w' Xs' Xb' new vs ψ' → ∃ φ', RepL w' Xs' Xb' cs' vals φ' ∧ ∀ x, φ' x + ψ x = φ x + ψ' x

theorem row_swap2 {w : World} {Xs Xb : Nat → Prop} {cs : List AC} {vals : List Value} {φ : Foot} (hr : RepL w Xs Xb cs vals φ) {k i e s so len cap : Nat} {rows : List (List AC)} {r r' : List AC}
    (hk : cs[k]? = some (.sl .own e rows)) (hv : vals[k]? = some (.slice (some ⟨s, so, none⟩) len cap)) (hri : rows[i]? = some r) (hl : r'.length = r.length) {b' o' : Nat} {xs new : List AC}
    (ih : ∀ vals φ, Cells w s (so + i * e) vals → RepL w Xs Xb r vals φ → Swap2 w Xs Xb vals φ b' o' xs new r') : Swap2 w Xs Xb vals φ b' o' xs new (cs.set k (.sl .own e (rows.set i r'))) := by
  obtain ⟨vs, χ, c1, c2, v1, v2, φ1, φ2, rfl, e1, rfl, e2, g1, g2, r1, r2, r3, r4, r5, r6, r7, r8, r9⟩ := hr.at_own hk hv
  obtain ⟨hrow, hi⟩ := row_split hri
  have hfl : rows.flatten = (rows.take i).flatten ++ (r ++ (rows.drop (i + 1)).flatten) := by conv => lhs; rw [hrow]; simp
  rw [hfl] at r8
  obtain ⟨u1, u2, ψ1, ψ2, rfl, k1, k2, ks⟩ := RepL.split _ _ r8
  obtain ⟨u2, u3, ψ3, ψ4, rfl, k3, k4, ks'⟩ := RepL.split _ _ k2
  have hlen : u1.length = i * e := by
    rw [k1.length, flatten_len (fun q hq => r4 q (List.mem_of_mem_take hq)), List.length_take, Nat.min_eq_left (by omega)]
  have hcs := r7
  rw [Cells.app, Cells.app, hlen] at r7
  obtain ⟨ws, ψ, q1, q2, q3, q4, q5⟩ := ih _ _ r7.2.1 k3
  have tot : ∀ x, φ x = φ1 x + ((if x = s then 1 else 0) + (ψ1 x + (ψ3 x + ψ4 x))) + φ2 x := fun x => by rw [r9 x, ks x, ks' x]
  refine ⟨ws, ψ, q1, q2, q3, fun x => by have := q4 x; have := tot x; omega, fun w' Xs' Xb' ψ' hz hs hb hf hn => ?_⟩
  have same : ∀ x, φ1 x ≠ 0 ∨ ψ1 x ≠ 0 ∨ ψ4 x ≠ 0 ∨ φ2 x ≠ 0 ∨ x = s ∨ ψ3 x - ψ x ≠ 0 → w'.heap[x]? = w.heap[x]? := fun x hx => hf x (by
    have h1 := tot x
    have h2 := q4 x
    rcases hx with h | h | h | h | h | h
    · omega
    · omega
    · omega
    · omega
    · rw [if_pos h] at h1; omega
    · omega)
  obtain ⟨φ', p1, p2⟩ := q5 w' Xs' Xb' ψ' hz hs hb (fun x hx => same x (by simp [hx])) hn
  have hset2 : (rows.set i r').flatten = (rows.take i).flatten ++ (r' ++ (rows.drop (i + 1)).flatten) := by
    rw [List.set_eq_take_append_cons_drop, if_pos hi]; simp
  have hre : r.length = e := r4 r (List.mem_of_getElem? hri)
  have newrow : RepL w' Xs' Xb' (rows.set i r').flatten (u1 ++ (u2 ++ u3)) (fun x => ψ1 x + (φ' x + ψ4 x)) := by
    rw [hset2]
    exact (k1.frame hz hs hb fun x hx => same x (by simp [hx])).append (p1.append (k4.frame hz hs hb fun x hx => same x (by simp [hx])))
  have hss := same s (by simp)
  have own' := RepL.own (rows := rows.set i r') (len := len) (cap := cap) (by simp [r1]) r2 r3 (fun q hq => by
      rcases List.mem_or_eq_of_mem_set hq with h | h
      · exact r4 q h
      · rw [h, hl, hre]) (Nat.lt_of_lt_of_le r5 hz) (r6.same hss) (hcs.same hss) newrow (g2.frame hz hs hb fun x hx => same x (by simp [hx]))
  have hset3 : (c1 ++ AC.sl .own e rows :: c2).set k (.sl .own e (rows.set i r')) = c1 ++ .sl .own e (rows.set i r') :: c2 := by
    rw [← e1, List.set_append_right _ _ (Nat.le_refl _)]; simp
  refine ⟨_, by rw [hset3]; exact (g1.frame hz hs hb fun x hx => same x (by simp [hx])).append own', fun x => ?_⟩
  have h1 := tot x
  have h2 := p2 x
  omega

theorem along_swap2 {w : World} {Xs Xb : Nat → Prop} {own : Nat → Prop} {new : List AC} {b' o' : Nat} : ∀ (p : Path) {cs cs' xs : List AC} {off b o : Nat} {vals : List Value} {φ : Foot},
    Cells w b o vals → RepL w Xs Xb cs vals φ → Along w own b o p off b' o' → cellsAt cs p off = some xs → setAt cs p off new = some cs' → Swap2 w Xs Xb vals φ b' o' xs new cs'
  | [], cs, cs', xs, off, b, o, vals, φ, hc, hr, ⟨_, e1, e2⟩, hx, hset => by
    subst e1 e2
    simp only [setAt] at hset
    split at hset
    case isFalse => simp at hset
    rename_i hle
    simp only [Option.some.injEq] at hset
    subst hset
    simp only [cellsAt, Option.some.injEq] at hx
    subst hx
    have h' : RepL w Xs Xb (cs.take off ++ ((cs.drop off).take new.length ++ cs.drop (off + new.length))) vals φ := by
      rw [← List.drop_drop, List.take_append_drop, List.take_append_drop]; exact hr
    obtain ⟨v1, v2, φ1, φ2, rfl, h1, h2, hs⟩ := RepL.split _ _ h'
    obtain ⟨v2, v3, φ3, φ4, rfl, h3, h4, hs'⟩ := RepL.split _ _ h2
    have l1 : v1.length = off := by rw [h1.length, List.length_take]; omega
    have l2 : v2.length = new.length := by rw [h3.length, List.length_take, List.length_drop]; omega
    rw [Cells.app, Cells.app, l1] at hc
    refine ⟨v2, φ3, hc.2.1, l2, h3, fun x => by have := hs x; have := hs' x; omega, fun w' Xs' Xb' ψ' hz hs1 hb1 hf hn =>
      ⟨_, (h1.frame hz hs1 hb1 fun x hx => hf x (by have := hs x; have := hs' x; omega)).append (hn.append (h4.frame hz hs1 hb1 fun x hx => hf x (by have := hs x; have := hs' x; omega))), fun x => ?_⟩⟩
    have := hs x
    have := hs' x
    omega
  | (k, i, e) :: p, cs, cs', xs, off, b, o, vals, φ, hc, hr, ⟨_, s, so, len, cap, hcell, hal⟩, hx, hset => by
    obtain ⟨rows, r, r', hk, hri, hset1, rfl⟩ := setAt_cons hset
    obtain ⟨rows2, r2, hk2, hri2, hx1⟩ := cellsAt_cons hx
    rw [hk] at hk2
    simp only [Option.some.injEq, AC.sl.injEq, true_and] at hk2
    subst hk2
    rw [hri] at hri2
    simp only [Option.some.injEq] at hri2
    subst hri2
    exact row_swap2 hr hk (hr.at_val hc hk hcell) hri (setAt_len p hset1) fun vals φ hc1 hr1 => along_swap2 p hc1 hr1 hal hx1 hset1

section
variable {E : Env} {v : Res → Val} {tm : Nat → Value} {w : World} {β : Nat → Nat} {φ : Res → Foot}

/-- What a slot's value is another name of, or the slot itself. -/
theorem io_swap (h : RelW E v tm w β φ) {n : Nat} {rs : List Rt} {r : Option Rt} {q : Rt} {path : Path} {off : Nat} (hp : ioPlace v n rs r = some (q, path, off)) {cs : List AC} (hc : content v q = some cs) {c : AC} {rest : List AC}
    (hx : cellsAt cs path off = some (c :: rest)) {c' : AC} {cs' : List AC} (hs : setAt cs path off [c'] = some cs') :
    ∃ ψ, RepL w (XS E w φ) (XB w φ []) [c] [tm n] ψ ∧ (∀ x, ψ x ≤ φ q.res x) ∧ (∀ m, q = .b m → φ q.res (β m) - ψ (β m) ≠ 0) ∧
      ∀ (w' : World) (Xs' Xb' : Nat → Prop) (g : Foot), w.heap.size ≤ w'.heap.size → (∀ b, XS E w φ b → Xs' b ∧ w'.heap[b]? = w.heap[b]?) → (∀ b, XB w φ [] b → Xb' b ∧ w'.heap[b]? = w.heap[b]?) →
        (∀ x, φ q.res x - ψ x ≠ 0 → w'.heap[x]? = w.heap[x]?) → RepL w' Xs' Xb' [c'] [tm n] g → ∃ f1, RootIs w' Xs' Xb' tm β cs' f1 q ∧ ∀ x, f1 x + ψ x = φ q.res x + g x := by
  have whole : ∀ s, q = .t s → path = [] → off = 0 → tm n = tm s → ∃ ψ, RepL w (XS E w φ) (XB w φ []) [c] [tm n] ψ ∧ (∀ x, ψ x ≤ φ q.res x) ∧ (∀ m, q = .b m → φ q.res (β m) - ψ (β m) ≠ 0) ∧
      ∀ (w' : World) (Xs' Xb' : Nat → Prop) (g : Foot), w.heap.size ≤ w'.heap.size → (∀ b, XS E w φ b → Xs' b ∧ w'.heap[b]? = w.heap[b]?) → (∀ b, XB w φ [] b → Xb' b ∧ w'.heap[b]? = w.heap[b]?) →
        (∀ x, φ q.res x - ψ x ≠ 0 → w'.heap[x]? = w.heap[x]?) → RepL w' Xs' Xb' [c'] [tm n] g → ∃ f1, RootIs w' Xs' Xb' tm β cs' f1 q ∧ ∀ x, f1 x + ψ x = φ q.res x + g x := by
    rintro s rfl rfl rfl hu
    simp only [content] at hc
    split at hc <;> simp only [Option.some.injEq, reduceCtorEq] at hc
    rename_i c0 hv
    subst hc
    simp only [cellsAt, List.drop_zero, Option.some.injEq, List.cons.injEq] at hx
    obtain ⟨rfl, rfl⟩ := hx
    simp [setAt] at hs
    subst hs
    obtain ⟨vals, g1, g2⟩ := h.ent s _ _ hv (by intro p hp; simp at hp)
    simp only [Bool.false_eq_true, if_false] at g2
    subst g2
    rw [hu]
    exact ⟨_, g1, fun x => Nat.le_refl _, fun m e => by simp at e, fun w' Xs' Xb' g _ _ _ _ hn => ⟨g, ⟨c', rfl, hn⟩, fun x => Nat.add_comm _ _⟩⟩
  have placed : (∃ b o, Reach w tm β (fun x => φ q.res x ≠ 0) q path off b o ∧ w.cell? ⟨b, o, none⟩ = some (tm n)) → ∃ ψ, RepL w (XS E w φ) (XB w φ []) [c] [tm n] ψ ∧ (∀ x, ψ x ≤ φ q.res x) ∧ (∀ m, q = .b m → φ q.res (β m) - ψ (β m) ≠ 0) ∧
      ∀ (w' : World) (Xs' Xb' : Nat → Prop) (g : Foot), w.heap.size ≤ w'.heap.size → (∀ b, XS E w φ b → Xs' b ∧ w'.heap[b]? = w.heap[b]?) → (∀ b, XB w φ [] b → Xb' b ∧ w'.heap[b]? = w.heap[b]?) →
        (∀ x, φ q.res x - ψ x ≠ 0 → w'.heap[x]? = w.heap[x]?) → RepL w' Xs' Xb' [c'] [tm n] g → ∃ f1, RootIs w' Xs' Xb' tm β cs' f1 q ∧ ∀ x, f1 x + ψ x = φ q.res x + g x := by
    rintro ⟨b, o, hr, hu⟩
    have hroot := h.root hc
    have one : ∀ {vs : List Value} {ψ : Foot}, Cells w b o vs → vs.length = [c'].length → RepL w (XS E w φ) (XB w φ []) ((c :: rest).take [c'].length) vs ψ → vs = [tm n] ∧ RepL w (XS E w φ) (XB w φ []) [c] [tm n] ψ := by
      intro vs ψ k1 k2 k3
      match vs, k2 with
      | [u], _ =>
        have := k1 0 (by simp)
        simp [hu] at this
        subst this
        exact ⟨rfl, by simpa using k3⟩
    cases q with
    | b m =>
      obtain ⟨vals, χ, h1, h2, h3, h4⟩ := hroot
      obtain ⟨vs, ψ, k1, k2, k3, k4, k5⟩ := along_swap2 path h1 h3 hr hx hs
      obtain ⟨rfl, k6⟩ := one k1 k2 k3
      have hle := fun x => h.le1 (Rt.b m).res x
      refine ⟨ψ, k6, fun x => by have := k4 x; have := h4 x; omega, fun m' e => ?_, fun w' Xs' Xb' g hz a1 a2 hf hn => ?_⟩
      · simp only [Rt.b.injEq] at e
        subst e
        have h5 := k4 (β m)
        have h6 := h4 (β m)
        have h7 := hle (β m)
        simp only [if_true] at h6
        omega
      · obtain ⟨φ', m1, m2⟩ := k5 w' Xs' Xb' g hz a1 a2 (fun x hx => hf x (by have := k4 x; have := h4 x; omega)) hn
        have hβ := hf (β m) (by
          have h5 := k4 (β m)
          have h6 := h4 (β m)
          have h7 := hle (β m)
          simp only [if_true] at h6
          omega)
        exact ⟨fun x => (if x = β m then 1 else 0) + φ' x, ⟨vals, φ', h1.same hβ, h2.same hβ, m1, fun _ => rfl⟩, fun x => by have := m2 x; have := h4 x; dsimp only; omega⟩
    | t s =>
      obtain ⟨c0, rfl, h1⟩ := hroot
      cases path with
      | nil => exact hr.elim
      | cons y p =>
        obtain ⟨k, i, e⟩ := y
        obtain ⟨rfl, t, to, len, cap, htm, hal⟩ := hr
        obtain ⟨rows, r0, r', hk, hri, hset1, rfl⟩ := setAt_cons hs
        obtain ⟨rows2, r2, hk2, hri2, hx1⟩ := cellsAt_cons hx
        rw [hk] at hk2
        simp only [Option.some.injEq, AC.sl.injEq, true_and] at hk2
        subst hk2
        rw [hri] at hri2
        simp only [Option.some.injEq] at hri2
        subst hri2
        obtain ⟨vs, ψ, k1, k2, k3, k4, k5⟩ := row_swap2 h1 hk (show [tm s][0]? = some (.slice (some ⟨t, to, none⟩) len cap) by simp [htm]) hri (setAt_len p hset1) fun vals φ hc1 hr1 => along_swap2 p hc1 hr1 hal hx1 hset1
        obtain ⟨rfl, k6⟩ := one k1 k2 k3
        refine ⟨ψ, k6, k4, fun m' e => by simp at e, fun w' Xs' Xb' g hz a1 a2 hf hn => ?_⟩
        obtain ⟨φ', m1, m2⟩ := k5 w' Xs' Xb' g hz a1 a2 hf hn
        simp only [List.set_cons_zero] at m1 ⊢
        exact ⟨φ', ⟨_, rfl, m1⟩, m2⟩
  unfold ioPlace at hp
  split at hp <;> try (simp at hp; done)
  · split at hp <;> simp only [Option.some.injEq, Prod.mk.injEq, reduceCtorEq] at hp
    obtain ⟨rfl, rfl, rfl⟩ := hp
    exact whole n rfl rfl rfl rfl
  · rename_i st q0 p0 off0 hv
    split at hp <;> simp only [Option.some.injEq, Prod.mk.injEq, reduceCtorEq] at hp
    rename_i hst
    obtain ⟨rfl, rfl, rfl⟩ := hp
    simp only [Bool.and_eq_true, beq_iff_eq] at hst
    obtain ⟨h0, h1, h2⟩ := h.ent n _ _ hv (stOk_spec hst.1).1
    split at h2
    · rename_i s
      exact whole s rfl rfl h2.1 h2.2
    · exact placed h2

theorem ioPlace_root {n : Nat} {rs : List Rt} {r : Option Rt} {q : Rt} {path : Path} {off : Nat} (hp : ioPlace v n rs r = some (q, path, off)) : q = ioRoot n r := by
  unfold ioPlace at hp
  split at hp <;> try (simp at hp; done)
  · split at hp <;> simp only [Option.some.injEq, Prod.mk.injEq, reduceCtorEq] at hp
    rename_i e
    cases r with
    | none => exact hp.1.symm
    | some q => simp at e
  · split at hp <;> simp only [Option.some.injEq, Prod.mk.injEq, reduceCtorEq] at hp
    rename_i hst
    simp only [Bool.and_eq_true, beq_iff_eq] at hst
    rw [hst.2]
    exact hp.1.symm

theorem appl_putC' (v v0 : Res → Val) {q : Rt} {cs : List AC} (hq : ∀ n, q = .t n → ∃ c, cs = [c]) :
    (∀ n, appl v0 (putC v q cs) (.t n) = if q = .t n then .t [] (.pl false cs) else v0 (.t n)) ∧ (∀ n, appl v0 (putC v q cs) (.b n) = if q = .b n then .b cs else v0 (.b n)) ∧
      (∀ r, appl v0 (putC v q cs) (.v r) = if r = q then .v (ver v q + 1) else v0 (.v r)) := by
  cases q with
  | b m =>
    refine ⟨fun n => ?_, fun n => ?_, fun r => ?_⟩ <;> simp [putC, appl, nrm]
    · by_cases e : n = m <;> simp [e] <;> exact fun e' => absurd e'.symm e
  | t m =>
    obtain ⟨c, rfl⟩ := hq m rfl
    refine ⟨fun n => ?_, fun n => ?_, fun r => ?_⟩ <;> simp [putC, appl, nrm]
    · by_cases e : n = m <;> simp [e] <;> exact fun e' => absurd e'.symm e

/-- What comes back from such a call, put in its places. -/
theorem callio_step (h : RelW E v tm w β φ) (hC : ∀ b, E.C b → b < E.w0.heap.size) {d : Nat} {L : List Nat} {q : Rt} {cs' : List AC} {ag : Bool} {rcs : List AC} {C : Nat → Prop} {φc ψ f0 g : Foot}
    (hdL : d ∉ L) (hq : ∀ s, q = .t s → s ≠ d ∧ s ∉ L) (hcs : ∀ n, q = .t n → ∃ c, cs' = [c])
    (hψ : ∀ x, ψ x ≤ φ q.res x) (hkeep : ∀ m, q = .b m → φ q.res (β m) - ψ (β m) ≠ 0) (hCd : ∀ x, C x ↔ E.C x ∨ (∃ s, ¬ ((∃ n ∈ L, s = .t n) ∨ s = q.res) ∧ φ s x ≠ 0) ∨ φ q.res x - ψ x ≠ 0)
    (hφc : ∀ x, φc x ≠ 0 → ψ x ≠ 0 ∨ ∃ n ∈ L, φ (.t n) x ≠ 0) {u : Value} {w' : World} (o1 : ∀ x, f0 x + g x ≤ 1) (o2 : ∀ x, f0 x + g x ≠ 0 → x < w'.heap.size ∧ ¬ C x ∧ (w.heap.size ≤ x ∨ φc x ≠ 0))
    (o3 : RepPl w' (AXs w' C (fun x => f0 x + g x)) (fun _ => False) ag rcs u f0) (o5 : w'.os = w.os) (o6 : w'.tape = w.tape) (o7 : w'.output = w.output) (o8 : w.heap.size ≤ w'.heap.size)
    (o9 : ∀ x, x < w.heap.size → φc x = 0 → w'.heap[x]? = w.heap[x]?)
    (s4 : ∀ (Xs' Xb' : Nat → Prop), w.heap.size ≤ w'.heap.size → (∀ b, XS E w φ b → Xs' b ∧ w'.heap[b]? = w.heap[b]?) → (∀ b, XB w φ [] b → Xb' b ∧ w'.heap[b]? = w.heap[b]?) →
      (∀ x, φ q.res x - ψ x ≠ 0 → w'.heap[x]? = w.heap[x]?) → (∀ b, AXs w' C (fun x => f0 x + g x) b → Xs' b) → ∃ f1, RootIs w' Xs' Xb' tm β cs' f1 q ∧ ∀ x, f1 x + ψ x = φ q.res x + g x)
    {tm' : Nat → Value} (htm : ∀ n, tm' n = if n = d then u else tm n) : ∃ β' φ', RelW E (appl v (putT v d [] (.pl ag rcs) ++ (dropL v L ++ putC v q cs'))) tm' w' β' φ' := by
  -- blocks that nobody owns, and those of the place's root but for what was passed, are as they were
  have free : ∀ b, (∀ r, φ r b = 0) → φc b = 0 := fun b hb => Classical.byContradiction fun e => by
    rcases hφc b e with k | ⟨n, _, k⟩
    · have := hψ b; have := hb q.res; omega
    · exact k (hb _)
  have rest : ∀ x, φ q.res x - ψ x ≠ 0 → φc x = 0 := fun x hx => Classical.byContradiction fun e => by
    have hle := h.le1 q.res x
    rcases hφc x e with k | ⟨n, hn, k⟩
    · omega
    · have := h.uniq _ _ x k (show φ q.res x ≠ 0 by omega)
      cases q with
      | b m => simp [Rt.res] at this
      | t s => simp [Rt.res] at this; exact (hq s rfl).2 (this ▸ hn)
  have hqL : ¬ ∃ n ∈ L, q.res = .t n := by
    rintro ⟨n, hn, e⟩
    cases q with
    | b m => simp [Rt.res] at e
    | t s => simp [Rt.res] at e; exact (hq s rfl).2 (e ▸ hn)
  have hqd : q.res ≠ .t d := by
    intro e
    cases q with
    | b m => simp [Rt.res] at e
    | t s => simp [Rt.res] at e; exact (hq s rfl).1 e
  obtain ⟨f1, R1, R2⟩ := s4 (fun b => XS E w φ b ∨ AXs w' C (fun x => f0 x + g x) b) (fun b => XB w φ [] b) o8 (fun b hb => ⟨.inl hb, o9 b hb.1 (free b hb.2.1)⟩)
    (fun b hb => ⟨hb, o9 b hb.1 (free b fun r => Classical.byContradiction fun e => by obtain ⟨_, k, _⟩ := hb.2 r e; simp at k)⟩)
    (fun x hx => o9 x (h.dom q.res x (by omega)).1 (rest x hx)) (fun b hb => .inr hb)
  have f1eq : ∀ x, f1 x = (φ q.res x - ψ x) + g x := fun x => by have := R2 x; have := hψ x; omega
  generalize hv' : appl v (putT v d [] (.pl ag rcs) ++ (dropL v L ++ putC v q cs')) = v'
  rw [appl_append, appl_append] at hv'
  obtain ⟨t1, t2, t3⟩ := appl_putT v v d [] (.pl ag rcs)
  obtain ⟨l1, l2, l3⟩ := appl_dropL v L (appl v (putT v d [] (.pl ag rcs)))
  obtain ⟨c1, c2, c3⟩ := appl_putC' v (appl (appl v (putT v d [] (.pl ag rcs))) (dropL v L)) hcs
  rw [hv'] at c1 c2 c3
  have vT : ∀ m, v' (.t m) = if q = .t m then .t [] (.pl false cs') else if m ∈ L then .nope else if m = d then .t [] (.pl ag rcs) else v (.t m) := fun m => by rw [c1, l1, t1]
  have vB : ∀ m, v' (.b m) = if q = .b m then .b cs' else v (.b m) := fun m => by rw [c2, l2, t2]
  have verV : ∀ s, ver v' s = if s = q then ver v s + 1 else if ∃ n ∈ L, s = .t n then ver v s + 1 else if s = .t d ∧ isNope (v (.t d)) = false then ver v s + 1 else ver v s := by
    intro s
    have hu := c3 s
    rw [l3, t3] at hu
    have of : ∀ k, v' (.v s) = .v k → ver v' s = k := fun k hk => by unfold ver; rw [hk]
    by_cases c1 : s = q
    · rw [if_pos c1] at hu ⊢; rw [of _ hu, c1]
    · rw [if_neg c1] at hu ⊢
      by_cases c2 : ∃ n ∈ L, s = .t n
      · rw [if_pos c2] at hu ⊢; exact of _ hu
      · rw [if_neg c2] at hu ⊢
        by_cases c3 : s = .t d ∧ isNope (v (.t d)) = false
        · rw [if_pos c3] at hu ⊢; rw [of _ hu, c3.1]
        · rw [if_neg c3] at hu ⊢; unfold ver; rw [hu]
  let φ' : Res → Foot := fun r => if r = q.res then f1 else match r with
    | .t n => if n = d then f0 else if n ∈ L then fun _ => 0 else φ (.t n)
    | r => φ r
  let W : Res → Prop := fun r => r = .t d ∨ (∃ n ∈ L, r = .t n) ∨ r = q.res
  have φq : φ' q.res = f1 := if_pos rfl
  have φd : φ' (.t d) = f0 := by simp only [φ', if_neg (fun e : Res.t d = q.res => hqd e.symm), if_true]
  have φL : ∀ n, n ∈ L → φ' (.t n) = fun _ => 0 := fun n hn => by
    simp only [φ', if_neg (fun e : Res.t n = q.res => hqL ⟨n, hn, e.symm⟩), if_neg (fun e : n = d => hdL (e ▸ hn)), if_pos hn]
  have φo : ∀ r, ¬ W r → φ' r = φ r := fun r hr => by
    have h1 : r ≠ q.res := fun e => hr (.inr (.inr e))
    cases r with
    | t n =>
      have h2 : n ≠ d := fun e => hr (.inl (by rw [e]))
      have h3 : n ∉ L := fun e => hr (.inr (.inl ⟨n, e, rfl⟩))
      simp only [φ', if_neg h1, if_neg h2, if_neg h3]
    | b n => simp only [φ', if_neg h1]
    | v n => simp only [φ', if_neg h1]
  have inW : ∀ r x, W r → φ' r x ≠ 0 → (f0 x + g x ≠ 0) ∨ (r = q.res ∧ φ q.res x - ψ x ≠ 0) := by
    rintro r x (rfl | ⟨n, hn, rfl⟩ | rfl) hx
    · rw [φd] at hx; exact .inl (by omega)
    · rw [φL n hn] at hx; exact absurd rfl hx
    · rw [φq, f1eq] at hx
      by_cases e : g x = 0
      · exact .inr ⟨rfl, by omega⟩
      · exact .inl (by omega)
  have notC : ∀ x, f0 x + g x ≠ 0 → φ q.res x - ψ x = 0 ∧ (∀ s, ¬ W s → φ s x = 0) := fun x hx => by
    have hc := (o2 x hx).2.1
    rw [hCd] at hc
    refine ⟨Classical.byContradiction fun e => hc (.inr (.inr e)), fun s hs => Classical.byContradiction fun e => hc (.inr (.inl ⟨s, ?_, e⟩))⟩
    rintro (⟨n, hn, e1⟩ | e1)
    · exact hs (.inr (.inl ⟨n, hn, e1⟩))
    · exact hs (.inr (.inr e1))
  have nobody : ∀ x, x < w.heap.size → (∀ r, φ r x = 0) → ∀ r, φ' r x = 0 := fun x hx hz r => Classical.byContradiction fun e => by
    by_cases hr : W r
    · rcases inW r x hr e with k | ⟨_, k⟩
      · rcases (o2 x k).2.2 with k2 | k2
        · omega
        · exact k2 (free x hz)
      · have := hz q.res; omega
    · rw [φo r hr] at e; exact e (hz r)
  have monoS : ∀ x, AXs w' C (fun x => f0 x + g x) x → XS E w' φ' x := by
    rintro x ⟨k1, k2, k3⟩
    simp only at k2
    rw [hCd] at k3
    refine ⟨k1, fun r => Classical.byContradiction fun e => ?_, fun hc => k3 (.inl hc)⟩
    by_cases hr : W r
    · rcases inW r x hr e with k | ⟨_, k⟩
      · exact k k2
      · exact k3 (.inr (.inr k))
    · rw [φo r hr] at e
      refine k3 (.inr (.inl ⟨r, ?_, e⟩))
      rintro (⟨n, hn, e1⟩ | e1)
      · exact hr (.inr (.inl ⟨n, hn, e1⟩))
      · exact hr (.inr (.inr e1))
  have monoS2 : ∀ x, (XS E w φ x ∨ AXs w' C (fun x => f0 x + g x) x) → XS E w' φ' x := by
    rintro x (hx | hx)
    · exact ⟨by have := hx.1; omega, nobody x hx.1 hx.2.1, hx.2.2⟩
    · exact monoS x hx
  have monoB : ∀ x, XB w φ [] x → XB w' φ' [] x := fun x hx => ⟨by have := hx.1; omega, fun r hr => absurd (nobody x hx.1 (fun s => Classical.byContradiction fun e => by obtain ⟨_, k, _⟩ := hx.2 s e; simp at k) r) hr⟩
  have R3 := R1.weak monoS2 monoB
  have htq : ∀ n, q = .t n → tm' n = tm n := fun n e => by rw [htm, if_neg (hq n e).1]
  have R4 := R3.tm htq
  refine ⟨β, φ', h.multi hC W ?_ ?_ ?_ ?_ φo ?_ ?_ ?_ (fun _ _ => rfl) ?_ ?_ o5 o6 o7 o8 ?_ ?_⟩
  · -- at most once
    intro r hr x
    refine Classical.byContradiction fun e => ?_
    have hne : φ' r x ≠ 0 := by omega
    have h1 := o1 x
    have hle := h.le1 q.res x
    rcases hr with rfl | ⟨n, hn, rfl⟩ | rfl
    · rw [φd] at e; omega
    · rw [φL n hn] at e; simp at e
    · rw [φq, f1eq] at e
      by_cases hg : g x = 0
      · omega
      · have := (notC x (by omega)).1; omega
  · -- disjoint
    intro r s x hr hs h1 h2
    refine Classical.byContradiction fun hne => ?_
    have k1 := o1 x
    have noL : ∀ n, n ∈ L → φ' (.t n) x = 0 := fun n hn => by rw [φL n hn]
    have two : φ' (.t d) x ≠ 0 → φ' q.res x ≠ 0 → False := fun a1 a2 => by
      rw [φd] at a1
      rw [φq, f1eq] at a2
      have := (notC x (by omega)).1
      omega
    rcases hr with rfl | ⟨n, hn, rfl⟩ | rfl <;> rcases hs with rfl | ⟨m, hm, rfl⟩ | rfl
    · exact hne rfl
    · exact h2 (noL m hm)
    · exact two h1 h2
    · exact h1 (noL n hn)
    · exact h1 (noL n hn)
    · exact h1 (noL n hn)
    · exact two h2 h1
    · exact h2 (noL m hm)
    · exact hne rfl
  · -- whence
    intro r x hr hx
    rcases inW r x hr hx with k | ⟨_, k⟩
    · obtain ⟨k1, _, k3⟩ := o2 x k
      rcases k3 with k3 | k3
      · exact .inr ⟨k3, k1⟩
      · rcases hφc x k3 with k4 | ⟨n, hn, k4⟩
        · exact .inl ⟨q.res, .inr (.inr rfl), by have := hψ x; omega⟩
        · exact .inl ⟨.t n, .inr (.inl ⟨n, hn, rfl⟩), k4⟩
    · exact .inl ⟨q.res, .inr (.inr rfl), by omega⟩
  · -- the others
    intro r hr0 hr
    refine ⟨?_, φo r hr⟩
    have h1 : r ≠ q.res := fun e => hr (.inr (.inr e))
    cases r with
    | v s => exact absurd rfl (hr0 s)
    | t n =>
      rw [vT, if_neg (fun e => h1 (by rw [e]; rfl)), if_neg (fun e => hr (.inr (.inl ⟨n, e, rfl⟩))), if_neg (fun e => hr (.inl (by rw [e])))]
    | b n => rw [vB, if_neg (fun e => h1 (by rw [e]; rfl))]
  · intro s
    rw [verV]
    split
    · omega
    · split
      · omega
      · split <;> omega
  · intro s hs hf
    rw [verV]
    by_cases e1 : s = q
    · rw [if_pos e1]; omega
    · rw [if_neg e1]
      have hsq : s.res ≠ q.res := fun e => e1 (by cases s <;> cases q <;> simp [Rt.res] at e <;> rw [e])
      rcases hs with hs | ⟨n, hn, hs⟩ | hs
      · cases s with
        | b m => simp [Rt.res] at hs
        | t m =>
          simp [Rt.res] at hs
          subst hs
          rw [if_neg (by rintro ⟨k, hk, e⟩; simp at e; exact hdL (e ▸ hk)), if_pos ⟨rfl, hf⟩]
          omega
      · cases s with
        | b m => simp [Rt.res] at hs
        | t m => simp [Rt.res] at hs; subst hs; rw [if_pos ⟨m, hn, rfl⟩]; omega
      · exact absurd hs hsq
  · intro n hn
    rw [htm, if_neg (fun e => hn (.inl (by rw [e])))]
  · -- boxes stay where they are
    intro n hn hf
    have hqb : q = .b n := by
      rcases hn with e | ⟨m, _, e⟩ | e
      · simp at e
      · simp at e
      · cases q with
        | b m => simp [Rt.res] at e; rw [e]
        | t m => simp [Rt.res] at e
    refine ⟨rfl, ?_, by rw [vB, if_pos hqb]; rfl⟩
    have e1 : Res.b n = q.res := by rw [hqb]; rfl
    rw [e1, φq]
    have := f1eq (β n)
    have := hkeep n hqb
    omega
  · -- memory
    intro x hx hz
    refine o9 x hx (Classical.byContradiction fun e => ?_)
    rcases hφc x e with k | ⟨n, hn, k⟩
    · have := hz q.res (.inr (.inr rfl)); have := hψ x; omega
    · exact k (hz (.t n) (.inr (.inl ⟨n, hn, rfl⟩)))
  · -- slots
    intro n hn
    rw [vT]
    by_cases e0 : q = .t n
    · rw [if_pos e0]
      refine .inr ⟨_, rfl, ?_⟩
      subst e0
      obtain ⟨c0, rfl, hr⟩ := R4
      have : φ' (.t n) = f1 := φq
      rw [this]
      exact ⟨[tm' n], hr, by simp⟩
    · rw [if_neg e0]
      by_cases hL : n ∈ L
      · exact .inl (by rw [if_pos hL])
      · rw [if_neg hL]
        have e : n = d := by
          rcases hn with e | ⟨m, hm, e⟩ | e
          · simpa using e
          · simp at e; exact absurd hm (e ▸ hL)
          · cases q with
            | b m => simp [Rt.res] at e
            | t m => simp [Rt.res] at e; exact absurd (by rw [e]) e0
        subst e
        rw [if_pos rfl]
        refine .inr ⟨_, rfl, ?_⟩
        rw [htm, if_pos rfl, φd]
        obtain ⟨vals, r1, r2⟩ := o3
        exact ⟨vals, r1.weak monoS (fun _ h => h.elim), r2⟩
  · -- boxes
    intro n ds hn hv
    have hqb : q = .b n := by
      rcases hn with e | ⟨m, _, e⟩ | e
      · simp at e
      · simp at e
      · cases q with
        | b m => simp [Rt.res] at e; rw [e]
        | t m => simp [Rt.res] at e
    rw [vB, if_pos hqb] at hv
    simp at hv
    subst hv
    subst hqb
    have : φ' (.b n) = f1 := φq
    rw [this]
    exact R4

theorem back_nil {w' : World} {Xs : Nat → Prop} {es : List (List AC)} {gs : List Foot} (h : Back w' Xs β [] es gs) : es = [] ∧ gs = [] := by cases h; exact ⟨rfl, rfl⟩
end

section
variable {P : Program} {E : Env} {v : Res → Val} {o : Oper} {a : Act} {w : World} {β : Nat → Nat} {φ : Res → Foot}

/-- A call whose first argument is a slice that comes back turned. -/
theorem callio_sound {Γ : Gam} (hΓ : SatE P E Γ) (h : RelW E v (tmv a) w β φ) (hC : ∀ b, E.C b → b < E.w0.heap.size) {d : Nat} {f : FuncId} {n : Nat} {rs : List Rt} {r : Option Rt} {as : List Arg} {fn : Func} {c0 : Code} {ys : Array Operand} {ys' : List Operand}
    {ts : Array TypeId} (hop : o.op = .call { callee := .value (.func f), args := ys, argTypes := ts }) (hys : ys.toList = .tmp n :: ys') (hd : o.dst = some d) (hN : d < a.tmps.size)
    (hfn : P.funcs[f]? = some fn) (hname : (fn.name == "runtime.NumGoroutine") = false) (hb : fn.body = some c0) (hok : argsOk as ys' = true) (hnd : (argsL as).Nodup) (hdL : d ∉ argsL as)
    (hq : ∀ s, ioRoot n r = .t s → s ≠ d ∧ s ∉ argsL as) (hR : argsR as = []) {ws : List (Res × Val)} (hf : fop Γ v (.callio d f n rs r as) = some ws) : OpSound P E (appl v ws) o a w := by
  obtain ⟨⟨q, path, off⟩, p1, hf1⟩ := ob_some hf
  obtain ⟨cs, p2, hf2⟩ := ob_some hf1
  obtain ⟨xs, p3, hf3⟩ := ob_some hf2
  try dsimp only at hf3
  split at hf3 <;> try (simp at hf3; done)
  rename_i c rest
  obtain ⟨⟨ps, ws1, bs⟩, p4, hf4⟩ := ob_some hf3
  try dsimp only at hf4
  split at hf4 <;> try (simp at hf4; done)
  rename_i hbs
  simp only [List.isEmpty_iff] at hbs
  subst hbs
  obtain ⟨out, p5, hf5⟩ := ob_some hf4
  try dsimp only at hf5
  split at hf5 <;> try (simp at hf5; done)
  rename_i ag rcs c' e1 e2
  obtain ⟨cs', p6, hf6⟩ := ob_some hf5
  simp only [Option.some.injEq] at hf6
  subst hf6
  clear hf hf1 hf2 hf3 hf4 hf5
  obtain ⟨ψ, s1, s2, s3, s4⟩ := io_swap h p1 p2 p3 p6
  have hqr := ioPlace_root p1
  have hq' : ∀ s, q = .t s → s ≠ d ∧ s ∉ argsL as := fun s e => hq s (hqr ▸ e)
  let φc : Foot := fun x => ψ x + passF φ as x
  let K : Res → Prop := fun s => Passed as s ∨ s = q.res
  let C : Nat → Prop := fun x => E.C x ∨ (∃ s, ¬ K s ∧ φ s x ≠ 0) ∨ φ q.res x - ψ x ≠ 0
  have pz : ∀ b, (∀ s, φ s b ≠ 0 → ¬ K s) → φc b = 0 := fun b hb => Classical.byContradiction fun e => by
    by_cases h0 : ψ b = 0
    · obtain ⟨s, k1, k2⟩ := passF_src (φ := φ) (as := as) (z := b) (by simp only [φc] at e; omega)
      exact hb s k2 (.inl k1)
    · exact hb q.res (by have := s2 b; omega) (.inr rfl)
  have xs1 : ∀ b, XS E w φ b → AXs w C φc b := fun b hb => ⟨hb.1, pz b (fun s hs => absurd (hb.2.1 s) hs), fun hc => by
    rcases hc with hc | ⟨s, _, hs⟩ | hc
    · exact hb.2.2 hc
    · exact hs (hb.2.1 s)
    · have := hb.2.1 q.res; omega⟩
  have xb1 : ∀ b, XB w φ [] b → AXb w φc b := fun b hb => ⟨hb.1, pz b (fun s hs => by obtain ⟨_, k, _⟩ := hb.2 s hs; simp at k)⟩
  obtain ⟨a1, a2, a3, a4, a5⟩ := args_sound h (Xs := AXs w C φc) (Xb := AXb w φc) (K := K) xs1 (fun b hb hr => ⟨hb, pz b hr⟩) hok (by rw [hR]; simp) p4
  have hPL : ∀ s, Passed as s ↔ ∃ n ∈ argsL as, s = .t n := fun s => by
    unfold Passed
    rw [← a2]
    simp
  have hqP : ¬ Passed as q.res := by
    rw [hPL]
    rintro ⟨m, hm, e⟩
    cases q with
    | b k => simp [Rt.res] at e
    | t k => simp [Rt.res] at e; exact (hq' k rfl).2 (e ▸ hm)
  have split2 : ∀ x, ψ x ≠ 0 → passF φ as x = 0 := fun x hx => Classical.byContradiction fun e => by
    obtain ⟨s, k1, k2⟩ := passF_src e
    have := h.uniq _ _ x k2 (show φ q.res x ≠ 0 by have := s2 x; omega)
    exact hqP (this ▸ k1)
  have hin : CallIn w C (.io c :: ps) (tmv a n :: ys'.map a.eval) φc := by
    refine ⟨fun x => ?_, fun x hx => ?_, fun x hx => ?_, ?_⟩
    · have h1 := passF_le1 h hnd (a2 ▸ a3) x
      have h2 := h.le1 q.res x
      have h3 := s2 x
      by_cases h0 : ψ x = 0
      · simp only [φc]; omega
      · have := split2 x h0; simp only [φc]; omega
    · by_cases h0 : ψ x = 0
      · obtain ⟨s, k1, k2⟩ := passF_src (φ := φ) (as := as) (z := x) (by simp only [φc] at hx; omega)
        refine ⟨(h.dom s x k2).1, fun hc => ?_⟩
        rcases hc with hc | ⟨t, ht, ht2⟩ | hc
        · exact (h.dom s x k2).2.1 hc
        · exact ht (.inl (h.uniq s t x k2 ht2 ▸ k1))
        · exact hqP (h.uniq s q.res x k2 (by omega) ▸ k1)
      · have hφ : φ q.res x ≠ 0 := by have := s2 x; omega
        refine ⟨(h.dom _ x hφ).1, fun hc => ?_⟩
        rcases hc with hc | ⟨t, ht, ht2⟩ | hc
        · exact (h.dom _ x hφ).2.1 hc
        · exact ht (.inr (h.uniq q.res t x hφ ht2).symm)
        · have := h.le1 q.res x; omega
    · rcases hx with hc | ⟨s, hs, hs2⟩ | hc
      · exact Nat.lt_of_lt_of_le (hC x hc) h.size
      · exact (h.dom s x hs2).1
      · exact (h.dom q.res x (by omega)).1
    · exact ArgsRel.cons (p := .io c) (f := ψ) ⟨[tmv a n], s1.weak xs1 xb1, by simp⟩ a5
  have hcall := hΓ f (.io c :: ps) out p5 w C _ _ hin h.size (fun x hx hm => ⟨Classical.byContradiction fun e => by
    have : ∃ s, φ s x ≠ 0 := by
      by_cases h0 : ψ x = 0
      · obtain ⟨s, k1, k2⟩ := passF_src (φ := φ) (as := as) (z := x) (by simp only [φc] at e; omega)
        exact ⟨s, k2⟩
      · exact ⟨q.res, by have := s2 x; omega⟩
    obtain ⟨s, k2⟩ := this
    rcases (h.dom s x k2).2.2 with k3 | k3
    · omega
    · exact hm k3, h.old x hx hm⟩)
  intro next Q hn
  unfold Oper.wp
  have hys2 : (tmv a n :: ys'.map a.eval).toArray = ys.map a.eval := by
    apply Array.ext'
    simp only [Array.toList_map, hys, List.map_cons]
    rfl
  rw [call_run hfn hname hb hop w, Oper.upon_enter, ← hys2]
  refine Calls.mono hcall fun e w' he => ?_
  cases e with
  | panicked ch => exact he.elim
  | outgrown => exact he.elim
  | returned u =>
    simp only at he ⊢
    rw [hd]
    refine hn _ _ (Good.put hN fun tm' htm => ?_) (Wrote.put hd u)
    obtain ⟨f0, gs, o1, o2, o3, o4, o5, o6, o7, o8, o9⟩ := he
    rw [e2] at o4
    cases o4 with
    | other hp _ => simp at hp
    | @io _ _ _ _ _ _ gs g hr t =>
      obtain ⟨_, rfl⟩ := back_nil (boxes_back h hok p4 t)
      have et : ∀ x, tot [g] x = g x := fun x => by simp [tot]
      have eF : (fun x => f0 x + tot [g] x) = fun x => f0 x + g x := funext fun x => by rw [et]
      rw [eF] at hr
      rw [e1] at o3
      subst a1
      have o3' : RepPl w' (AXs w' C (fun x => f0 x + g x)) (fun _ => False) ag rcs u f0 := by rw [← eF]; exact o3
      have hcs : ∀ m, q = .t m → ∃ c, cs' = [c] := fun m e => by
        subst e
        simp only [content] at p2
        split at p2 <;> simp only [Option.some.injEq, reduceCtorEq] at p2
        subst p2
        have := setAt_len _ p6
        match cs', this with
        | [x], _ => exact ⟨x, rfl⟩
      refine callio_step (C := C) (φc := φc) (ψ := ψ) (f0 := f0) (g := g) (w' := w') h hC hdL hq' hcs s2 s3 (fun x => ?_) (fun x hx => ?_) (fun x => by have := o1 x; rw [et] at this; exact this)
        (fun x hx => o2 x (by rw [et]; exact hx)) o3' o5 o6 o7 o8 o9 (fun Xs' Xb' z1 z2 z3 z4 z5 => s4 w' Xs' Xb' g z1 z2 z3 z4 (hr.weak z5 (fun _ h => h.elim))) htm
      · simp only [C, K, hPL]
      · by_cases h0 : ψ x = 0
        · obtain ⟨s, k1, k2⟩ := passF_src (φ := φ) (as := as) (z := x) (by simp only [φc] at hx; omega)
          obtain ⟨m, hm, rfl⟩ := (hPL s).1 k1
          exact .inr ⟨m, hm, k2⟩
        · exact .inl h0
end
end Go.Fw
