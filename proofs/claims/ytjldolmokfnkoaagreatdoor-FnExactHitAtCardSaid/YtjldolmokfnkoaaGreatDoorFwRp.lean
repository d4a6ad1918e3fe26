/- The framework, part Rp: another name of a row that stays while the row is moved and while its cells are written. Conditions: none. -/
import Derived.Test.YtjldolmokfnkoaaGreatDoorFwRo
namespace Go.Fw
open Go

/-- Through headers that are as they were. -/
theorem Along.stay {w w' : World} {own : Nat → Prop} (hw : ∀ b o x l c, w.cell? ⟨b, o, none⟩ = some (.slice x l c) → w'.cell? ⟨b, o, none⟩ = some (.slice x l c)) : ∀ {p : Path} {b o off b' o' : Nat},
    Along w own b o p off b' o' → Along w' (fun _ => True) b o p off b' o'
  | [], _, _, _, _, _, ⟨_, h2, h3⟩ => ⟨trivial, h2, h3⟩
  | _ :: _, _, _, _, _, _, ⟨_, s, so, len, cap, h2, h3⟩ => ⟨trivial, s, so, len, cap, hw _ _ _ _ _ h2, Along.stay hw h3⟩
theorem Reach.stay {w w' : World} {tm tm' : Nat → Value} {β β' : Nat → Nat} {own : Nat → Prop} (hw : ∀ b o x l c, w.cell? ⟨b, o, none⟩ = some (.slice x l c) → w'.cell? ⟨b, o, none⟩ = some (.slice x l c)) {r r' : Rt} {p : Path} {off b o : Nat}
    (hb : ∀ n, r = .b n → r' = .b n ∧ β' n = β n) (ht : ∀ n, r = .t n → ∃ n', r' = .t n' ∧ tm' n' = tm n) (hr : Reach w tm β own r p off b o) : Reach w' tm' β' (fun _ => True) r' p off b o := by
  cases r with
  | b n =>
    obtain ⟨rfl, e⟩ := hb n rfl
    simp only [Reach] at *
    rw [e]
    exact hr.stay hw
  | t n =>
    obtain ⟨n', rfl, e⟩ := ht n rfl
    cases p with
    | nil => exact hr
    | cons x p =>
      obtain ⟨h0, s, so, len, cap, h1, h2⟩ := hr
      exact ⟨h0, s, so, len, cap, e.trans h1, h2.stay hw⟩

theorem row_at {w : World} {Xs Xb : Nat → Prop} {cs : List AC} {vals : List Value} {φ : Foot} (hr : RepL w Xs Xb cs vals φ) {k i e s so len cap : Nat} {rows : List (List AC)} {r : List AC}
    (hk : cs[k]? = some (.sl .own e rows)) (hv : vals[k]? = some (.slice (some ⟨s, so, none⟩) len cap)) (hri : rows[i]? = some r) :
    ∃ vs ψ, Cells w s (so + i * e) vs ∧ RepL w Xs Xb r vs ψ ∧ φ s ≠ 0 ∧ ∀ x, ψ x ≠ 0 → φ x ≠ 0 := by
  obtain ⟨vs, χ, c1, c2, v1, v2, φ1, φ2, rfl, e1, rfl, e2, g1, g2, r1, r2, r3, r4, r5, r6, r7, r8, r9⟩ := hr.at_own hk hv
  obtain ⟨hrow, hi⟩ := row_split hri
  have hfl : rows.flatten = (rows.take i).flatten ++ (r ++ (rows.drop (i + 1)).flatten) := by conv => lhs; rw [hrow]; simp
  rw [hfl] at r8
  obtain ⟨u1, u2, ψ1, ψ2, rfl, k1, k2, ks⟩ := RepL.split _ _ r8
  obtain ⟨u2, u3, ψ3, ψ4, rfl, k3, k4, ks'⟩ := RepL.split _ _ k2
  have hlen : u1.length = i * e := by
    rw [k1.length, flatten_len (fun q hq => r4 q (List.mem_of_mem_take hq)), List.length_take, Nat.min_eq_left (by omega)]
  rw [Cells.app, Cells.app, hlen] at r7
  refine ⟨u2, ψ3, r7.2.1, k3, by have := r9 s; simp at this; omega, fun x hx => ?_⟩
  have h1 := r9 x
  have h2 := ks x
  have h3 := ks' x
  omega

/-- What lies on the way to a place is the root's own. -/
theorem along_own {w : World} {Xs Xb own : Nat → Prop} : ∀ (p : Path) {cs xs : List AC} {off b o b' o' : Nat} {vals : List Value} {φ : Foot}, own b → (∀ x, φ x ≠ 0 → own x) → Cells w b o vals → RepL w Xs Xb cs vals φ →
    Along w (fun _ => True) b o p off b' o' → cellsAt cs p off = some xs → Along w own b o p off b' o'
  | [], _, _, _, _, _, _, _, _, _, hb, _, _, _, ⟨_, h2, h3⟩, _ => ⟨hb, h2, h3⟩
  | (k, i, e) :: p, _, _, _, _, _, _, _, _, _, hb, ho, hc, hr, ⟨_, s, so, len, cap, hcell, hal⟩, hx => by
    obtain ⟨rows, r, hk, hri, hx1⟩ := cellsAt_cons hx
    obtain ⟨vs, ψ, h1, h2, h3, h4⟩ := row_at hr hk (hr.at_val hc hk hcell) hri
    exact ⟨hb, s, so, len, cap, hcell, along_own p (ho s h3) (fun x hx => ho x (h4 x hx)) h1 h2 hal hx1⟩

theorem reach_own {w : World} {Xs Xb : Nat → Prop} {tm : Nat → Value} {β : Nat → Nat} {cs xs : List AC} {f : Foot} {q : Rt} (hq : RootIs w Xs Xb tm β cs f q) {p : Path} {off b o : Nat} (hr : Reach w tm β (fun _ => True) q p off b o)
    (hx : cellsAt cs p off = some xs) : Reach w tm β (fun x => f x ≠ 0) q p off b o := by
  cases q with
  | b n =>
    obtain ⟨vals, ψ, h1, _, h3, h4⟩ := hq
    exact along_own p (by rw [h4]; simp) (fun x hx => by rw [h4]; omega) h1 h3 hr hx
  | t n =>
    obtain ⟨c, rfl, h1⟩ := hq
    cases p with
    | nil => exact hr.elim
    | cons y p =>
      obtain ⟨k, i, e⟩ := y
      obtain ⟨rfl, s, so, len, cap, htm, hal⟩ := hr
      obtain ⟨rows, r, hk, hri, hx1⟩ := cellsAt_cons hx
      obtain ⟨vs, ψ, k1, k2, k3, k4⟩ := row_at h1 hk (show [tm n][0]? = some (.slice (some ⟨s, so, none⟩) len cap) by simp [htm]) hri
      exact ⟨rfl, s, so, len, cap, htm, along_own p k3 k4 k1 k2 hal hx1⟩

section
variable {P : Program} {E : Env} {v : Res → Val} {o : Oper} {a : Act} {w : World} {β : Nat → Nat} {φ : Res → Foot}

/-- A slot becomes another name of a place. -/
theorem RelW.name {tm : Nat → Value} (h : RelW E v tm w β φ) (hC : ∀ b, E.C b → b < E.w0.heap.size) {k : Nat} {q : Rt} {p : Path} {off : Nat} (hqk : q ≠ .t k) (hq : isNope (v q.res) = false)
    (hp : (∃ s, q = .t s ∧ p = [] ∧ off = 0 ∧ tm k = tm s) ∨ ((∀ s, q = .t s → p ≠ []) ∧ ∃ b o, Reach w tm β (fun x => φ q.res x ≠ 0) q p off b o ∧ w.cell? ⟨b, o, none⟩ = some (tm k))) :
    ∃ φ', RelW E (appl v (putN v k q p off)) tm w β φ' := by
  obtain ⟨φ', h'⟩ := h.putV (w' := w) (tm' := tm) hC (d := k) (st := [(q, ver v q)]) (tv := .ali q p off) (L := []) (by simp) (.refl w) (f := fun _ => 0) (by simp) (by simp) (u := tm k)
    (fun n => by by_cases e : n = k <;> simp [e]) (by intro p hp; simp at hp; subst hp; exact ⟨hqk, by simp⟩) (by intro p hp; simp at hp; subst hp; rfl) (by intro p hp; simp at hp; subst hp; exact hq)
    ⟨hq, ⟨(q, ver v q), by simp, rfl⟩, by
      rcases hp with ⟨s, rfl, rfl, h1, h2⟩ | ⟨h1, h2⟩
      · exact ⟨h1, h2⟩
      · cases p with
        | nil =>
          cases q with
          | t s => exact absurd rfl (h1 s rfl)
          | b s => exact h2
        | cons y p => cases q <;> exact h2⟩
  exact ⟨φ', by simpa [putN, dropL] using h'⟩

/-- What a slot that is known as another name of a slot's row says. -/
theorem named_spec {tm : Nat → Value} (h : RelW E v tm w β φ) {s k : Nat} {ks : List Rt} {p : Path} {off : Nat} (hn : named v s k ks = some (p, off)) :
    (p = [] ∧ off = 0 ∧ tm k = tm s) ∨ (p ≠ [] ∧ ∃ b o, Reach w tm β (fun x => φ (.t s) x ≠ 0) (.t s) p off b o ∧ w.cell? ⟨b, o, none⟩ = some (tm k)) := by
  unfold named at hn
  split at hn
  · rename_i e
    simp only [Option.some.injEq, Prod.mk.injEq] at hn
    exact .inl ⟨hn.1.symm, hn.2.symm, by rw [e]⟩
  · split at hn <;> try (simp at hn; done)
    rename_i st q p' off' hv
    split at hn <;> simp only [Option.some.injEq, Prod.mk.injEq, reduceCtorEq] at hn
    rename_i hc
    obtain ⟨rfl, rfl⟩ := hn
    simp only [Bool.and_eq_true, decide_eq_true_eq] at hc
    obtain ⟨hst, rfl⟩ := hc
    obtain ⟨_, _, h2⟩ := h.ent k _ _ hv (stOk_spec hst).1
    cases p' with
    | nil => exact .inl ⟨rfl, h2.1, h2.2⟩
    | cons y p' => exact .inr ⟨by simp, h2⟩

theorem mova_sound {Γ : Gam} (h : RelW E v (tmv a) w β φ) (hC : ∀ b, E.C b → b < E.w0.heap.size) {d s k : Nat} {ks : List Rt} (hop : o.op = .move (.tmp s) ∨ o.op = .assign (.tmp s)) (hd : o.dst = some d) (hN : d < a.tmps.size)
    (hdk : d ≠ k) {ws : List (Res × Val)} (hf : fop Γ v (.mova d s k ks) = some ws) : OpSound P E (appl v ws) o a w := by
  simp only [fop] at hf
  split at hf <;> try (simp at hf; done)
  rename_i c hv
  split at hf <;> try (simp at hf; done)
  rename_i hds
  simp only [not_or] at hds
  obtain ⟨⟨p, off⟩, hn, hf2⟩ := ob_some hf
  try dsimp only at hf2
  split at hf2 <;> simp only [Option.some.injEq, reduceCtorEq] at hf2
  rename_i hfit
  subst hf2
  have hnm := named_spec h hn
  intro next Q hnx
  refine wp_val hd (u := tmv a s) (w' := w) (by rcases hop with e | e <;> simp [execOp, e, Act.eval, tmv]) (hnx _ _ (Good.put hN fun tm' htm => ?_) (Wrote.put hd _))
  obtain ⟨vals, g1, g2⟩ := h.ent s _ _ hv (by intro p hp; simp at hp)
  simp only [Bool.false_eq_true, if_false] at g2
  subst g2
  obtain ⟨φ1, h1⟩ := h.putV (w' := w) (tm' := tm') hC (d := d) (st := []) (tv := .pl false [c]) (L := [s]) (by simpa using hds.1) (.refl w) (f := φ (.t s)) (h.le1 _) (fun b hb => ⟨s, by simp, hb⟩) htm
    (by simp) (by intro p hp; simp at hp) (by simp) ⟨[tmv a s], g1, by simp⟩
  have ew : putT v d [] (.pl false [c]) ++ dropL v [s] = putT v d [] (.pl false [c]) ++ dropT v s := by simp [dropL]
  rw [ew] at h1
  generalize hv1 : appl v (putT v d [] (.pl false [c]) ++ dropT v s) = v1 at h1
  have hd1 : v1 (.t d) = .t [] (.pl false [c]) := by
    rw [← hv1, appl_append]
    have := (appl_dropL v [s] (appl v (putT v d [] (.pl false [c])))).1 d
    simp only [dropL, List.append_nil] at this
    rw [this, if_neg (by simpa using hds.1)]
    exact ((appl_putT v v d [] _).1 d).trans (if_pos rfl)
  have hcd : content v1 (.t d) = some [c] := by simp only [content, hd1]
  have hroot := h1.root hcd
  have tk : tm' k = tmv a k := by rw [htm, if_neg (Ne.symm hdk)]
  have td : tm' d = tmv a s := by rw [htm, if_pos rfl]
  obtain ⟨φ2, h2⟩ := h1.name hC (k := k) (q := .t d) (p := p) (off := off) (by simpa using hdk) (by simp [Rt.res, hd1, isNope]) (by
    rcases hnm with ⟨rfl, rfl, e⟩ | ⟨hp, b, o', hr, hcell⟩
    · exact .inl ⟨d, rfl, rfl, rfl, by rw [tk, td]; exact e⟩
    · cases p with
      | nil => exact absurd rfl hp
      | cons y p =>
        simp only [nameFits, List.isEmpty_cons, Bool.false_and, Bool.false_or] at hfit
        obtain ⟨xs, hxs⟩ := Option.isSome_iff_exists.1 hfit
        refine .inr ⟨by simp, b, o', reach_own hroot (hr.stay (r' := .t d) (fun _ _ _ _ _ h => h) (fun n e => by simp at e) (fun n e => ⟨d, rfl, by simp at e; subst e; exact td⟩)) hxs, by rw [tk]; exact hcell⟩)
  rw [appl_append, hv1]
  exact ⟨β, φ2, h2⟩

theorem mkrowa_sound {Γ : Gam} (h : RelW E v (tmv a) w β φ) (hC : ∀ b, E.C b → b < E.w0.heap.size) {d s k by_ : Nat} {ks : List Rt} {z : List AC} {t el : TypeId}
    (hop : o.op = .buildSlice t 1 #[(0, .tmp s)]) (hd : o.dst = some d) (hN : d < a.tmps.size) (ht : rowTy P t = some (el, 1, by_)) (hz : zeroOk P el z = true)
    (hdk : d ≠ k) {ws : List (Res × Val)} (hf : fop Γ v (.mkrowa d s k ks z) = some ws) : OpSound P E (appl v ws) o a w := by
  simp only [fop] at hf
  split at hf <;> try (simp at hf; done)
  rename_i e rows hv
  split at hf <;> try (simp at hf; done)
  rename_i hds
  simp only [not_or] at hds
  obtain ⟨⟨p, off⟩, hn, hf2⟩ := ob_some hf
  try dsimp only at hf2
  split at hf2 <;> simp only [Option.some.injEq, reduceCtorEq] at hf2
  rename_i _ e1
  simp only [Prod.mk.injEq] at e1
  obtain ⟨rfl, rfl⟩ := e1
  subst hf2
  have hks : tmv a k = tmv a s := by
    rcases named_spec h hn with ⟨_, _, e⟩ | ⟨hp, _⟩
    · exact e
    · exact absurd rfl hp
  obtain ⟨vals, g1, g2⟩ := h.ent s _ _ hv (by intro p hp; simp at hp)
  simp only [Bool.false_eq_true, if_false] at g2
  subst g2
  obtain ⟨ad, cp, hu⟩ := slice_val g1
  obtain ⟨i, zz, t1, t2, t3, t4, t5, t6, t7⟩ := rowTy_spec ht
  have hrep := (zeroOk_info (P := P) hz t2 t5 (XS E w φ) (XB w φ []) w)
  have hev : a.eval (.tmp s) = tmv a s := rfl
  intro next Q hnx
  refine wp_of next Q hd hN (u := .slice (some ⟨w.heap.size, 0, none⟩) 1 1) (w' := w.alloc (.cells #[tmv a s] el)) ?_ ?_ hnx
  · simp only [execOp, hop, Sem.run_bind]
    have hk : ∀ zs : Array Value, zs.size = 1 → Instr.fill (fun j => some (j, 1)) zs [(0, tmv a s)] = some #[tmv a s] := by
      intro zs hzs
      match zs, hzs with
      | ⟨[z0]⟩, _ => rw [hu]; simp [Instr.fill, Value.cells]
    simp [Instr.buildSlice, run_underlying t1, sizeOf, typeInfo, t2, t3, zeroValue, t5, newRow, hev, hk]
  · intro tm' htm
    have ew : putT v d [] (.pl false [.sl .own 1 [[.sl .own e rows]]]) ++ dropL v [s] = putT v d [] (.pl false [.sl .own 1 [[.sl .own e rows]]]) ++ dropT v s := by simp [dropL]
    obtain ⟨β1, φ1, h1⟩ := h.rowed hC (d := d) (L := [s]) (by simpa using hds.1) (.refl w) (vals := [tmv a s]) (rest := []) (t := el) (fr := (0, 0)) (w' := w.alloc (.cells #[tmv a s] el)) (by simp)
      (e := 1) (cap := 1) (len := 1) (rows := [[.sl .own e rows]]) (f := φ (.t s)) (h.le1 _) (fun b hb => ⟨s, by simp, hb⟩) (by simpa using g1) rfl ⟨Nat.le_refl _, by decide⟩ (by decide) (by simp) (by simp) (.inr rfl) (.inr rfl) htm
    rw [ew] at h1
    generalize hv1 : appl v (putT v d [] (.pl false [.sl .own 1 [[.sl .own e rows]]]) ++ dropT v s) = v1 at h1
    have hd1 : v1 (.t d) = .t [] (.pl false [.sl .own 1 [[.sl .own e rows]]]) := by
      rw [← hv1, appl_append]
      have := (appl_dropL v [s] (appl v (putT v d [] (.pl false [.sl .own 1 [[.sl .own e rows]]])))).1 d
      simp only [dropL, List.append_nil] at this
      rw [this, if_neg (by simpa using hds.1)]
      exact ((appl_putT v v d [] _).1 d).trans (if_pos rfl)
    have hcd : content v1 (.t d) = some [.sl .own 1 [[.sl .own e rows]]] := by simp only [content, hd1]
    have hroot := h1.root hcd
    have tk : tm' k = tmv a s := by rw [htm, if_neg (Ne.symm hdk)]; exact hks
    have td : tm' d = .slice (some ⟨w.heap.size, 0, none⟩) 1 1 := by rw [htm, if_pos rfl]
    have hcell : (w.alloc (.cells #[tmv a s] el)).cell? ⟨w.heap.size, 0, none⟩ = some (tmv a s) := by
      simp
    obtain ⟨φ2, h2⟩ := h1.name hC (k := k) (q := .t d) (p := [(0, 0, 1)]) (off := 0) (by simpa using hdk) (by simp [Rt.res, hd1, isNope])
      (.inr ⟨by simp, w.heap.size, 0, reach_own hroot (xs := [.sl .own e rows]) ⟨rfl, w.heap.size, 0, 1, 1, td, trivial, rfl, rfl⟩ (by simp [cellsAt]), by rw [tk]; exact hcell⟩)
    rw [appl_append, hv1]
    exact ⟨β1, φ2, h2⟩

theorem storea_sound {Γ : Gam} (h : RelW E v (tmv a) w β φ) (hC : ∀ b, E.C b → b < E.w0.heap.size) {p k : Nat} {rs ks : List Rt} {q : Rt} {x : Opr} {y : Operand} {t : TypeId}
    (hop : o.op = .store t (.tmp p) y) (hd : o.dst = none) (ht : tySize P t = some 1) (hxy : oprOk x y = true)
    {ws : List (Res × Val)} (hf : fop Γ v (.storea p rs q x k ks) = some ws) : OpSound P E (appl v ws) o a w := by
  simp only [fop] at hf
  split at hf <;> try (simp at hf; done)
  rename_i st q' path off hv
  split at hf <;> try (simp at hf; done)
  rename_i hc
  simp only [Bool.and_eq_true, decide_eq_true_eq] at hc
  obtain ⟨⟨hst, rfl⟩, hqk⟩ := hc
  split at hf <;> try (simp at hf; done)
  rename_i st2 q2 p2 off2 hvk
  split at hf <;> try (simp at hf; done)
  rename_i hc2
  simp only [Bool.and_eq_true, decide_eq_true_eq, Bool.not_eq_true', List.isEmpty_eq_false_iff] at hc2
  obtain ⟨⟨hst2, rfl⟩, hp2⟩ := hc2
  obtain ⟨c0, hx, hf1⟩ := ob_some hf
  try dsimp only at hf1
  split at hf1 <;> try (simp at hf1; done)
  rename_i kd c
  obtain ⟨cs, hcs, hf2⟩ := ob_some hf1
  obtain ⟨xs, hxs, hf3⟩ := ob_some hf2
  try dsimp only at hf3
  split at hf3 <;> try (simp at hf3; done)
  rename_i hi1
  obtain ⟨ys, hys, hf4⟩ := ob_some hf3
  try dsimp only at hf4
  split at hf4 <;> try (simp at hf4; done)
  rename_i hr1
  obtain ⟨cs', hset, hf5⟩ := ob_some hf4
  obtain ⟨zs, hzs, hf6⟩ := ob_some hf5
  simp only [Option.some.injEq] at hf6
  subst hf6
  clear hf hf1 hf2 hf3 hf4 hf5
  obtain ⟨k1, k2⟩ := stOk_spec hst
  obtain ⟨⟨r0, r1, b', o', e, hreach⟩, k3⟩ := h.slotRep hv k1
  have hal := (h.slotRep hvk (stOk_spec hst2).1).1
  have hsc := sca_val h hxy hx rfl
  simp only [Scal] at hsc
  -- what is written over is a number
  obtain ⟨vs, ψ, c1, c2, _⟩ := content_at h hcs hreach hxs
  have hold : ∃ kd' n', w.cell? ⟨b', o', none⟩ = some (.int kd' n') := by
    match xs, hi1 with
    | .int kd' n' :: _, _ =>
      obtain ⟨u, us, ψ1, ψ2, rfl, d1, _, _⟩ := c2.uncons
      have := d1.scal rfl
      simp only [Scal] at this
      have h0 := c1 0 (by simp)
      simp at h0
      exact ⟨kd', n', by rw [h0, this]⟩
  obtain ⟨kd', n', hold⟩ := hold
  -- the other name's value is a slice
  have hsl : ∃ ad l cp, tmv a k = .slice ad l cp := by
    match ys, hr1 with
    | .sl .own e rows :: _, _ =>
      obtain ⟨ψ', d1, _⟩ := alias_at h hcs hal hys
      obtain ⟨ad, cp, hu⟩ := slice_val d1
      exact ⟨ad, _, cp, hu⟩
  obtain ⟨ad, l, cp, hsl⟩ := hsl
  obtain ⟨fq, w1, w2, w3, w4, w5⟩ := (h.root hcs).write hreach hset (nvals := [.int kd c]) (ψ := fun _ => 0) (.sc rfl .nil) (fun z => by have := h.le1 q2.res z; simpa using this)
    (fun z hz => ⟨fun hx => hz (hx.2.1 _), fun hx => by obtain ⟨_, h1, _⟩ := hx.2 _ hz; simp at h1⟩)
  have hrun := storeAt_run (P := P) ht (vals := [.int kd c]) (u := .int kd c) rfl rfl w4 (by simp [Value.oneCell'])
  have hev : a.eval (.tmp p) = .pointer (some ⟨b', o', none⟩) := e
  intro next Q hn
  unfold Oper.wp
  have hex : (execOp a.eval o).run P w = .ok .skip (w.setCells b' o' [.int kd c]) := by simp [execOp, hop, hev, hsc, hrun]
  rw [hex, Oper.upon_skip, hd]
  refine hn _ _ ⟨?_, rfl, rfl⟩ (Wrote.refl _ _)
  have hzero : ∀ z, (∀ r, φ r z = 0) → ∀ r, upF φ (placeN q2 fq none (fun _ => 0) []) r z = 0 := fun z hz r => upF_zero (fun y hy hy0 => by
    rcases placeN_mem hy with rfl | ⟨d', hd', rfl⟩ | ⟨n', hn', rfl⟩
    · dsimp only at hy0
      have := w2 z
      exact ⟨_, show φ q2.res z ≠ 0 by omega⟩
    · exact absurd rfl hy0
    · exact absurd rfl hy0) hz r
  have hsz : (w.setCells b' o' [.int kd c]).heap.size = w.heap.size := size_setCells _ _ _
  have monoS : ∀ z, XS E w φ z → XS E (w.setCells b' o' [.int kd c]) (upF φ (placeN q2 fq none (fun _ => 0) [])) z := fun z hz => ⟨by rw [hsz]; exact hz.1, hzero z hz.2.1, hz.2.2⟩
  have monoB : ∀ z, XB w φ [] z → XB (w.setCells b' o' [.int kd c]) (upF φ (placeN q2 fq none (fun _ => 0) [])) [] z := fun z hz =>
    ⟨by rw [hsz]; exact hz.1, fun r hr => absurd (hzero z (fun r' => Classical.byContradiction fun e => by obtain ⟨_, h1, _⟩ := hz.2 r' e; simp at h1) r) hr⟩
  have key := h.place (w' := w.setCells b' o' [.int kd c]) (tm' := tmv a) hC hcs (setAt_len _ hset) (L := []) (D := none) (by simp) (by rintro d ⟨_, _, e⟩; simp at e) (fq := fq) (fd := fun _ => 0)
    (fun z => by have h5 : fq z ≤ φ q2.res z + 0 := w2 z; have := h.le1 q2.res z; omega) (by simp) (by simp) (fun z hz => by
      have h5 : fq z ≤ φ q2.res z + 0 := w2 z
      exact .inl (by omega)) (by simp) (fun n hn => w5 n hn) (fun z hz h0 hL => heap_setCells (fun e => w3 (by rw [← e]; exact h0)) _ _ _) (os_setCells _ _ _).1 (os_setCells _ _ _).2.1 (os_setCells _ _ _).2.2 (by rw [hsz]; exact Nat.le_refl _)
    (fun _ _ => rfl) (w1.weak monoS monoB) (by simp)
  have e2 : putC v q2 cs' ++ (DP.ws v none ++ dropL v []) = putC v q2 cs' := by simp [DP.ws, dropL]
  rw [e2] at key
  have fQ : upF φ (placeN q2 fq none (fun _ => 0) []) q2.res = fq := by simp [placeN, upF]
  generalize upF φ (placeN q2 fq none (fun _ => 0) []) = φ1 at key fQ
  -- headers are as they were
  have stay : ∀ b2 o2 x l c2, w.cell? ⟨b2, o2, none⟩ = some (.slice x l c2) → (w.setCells b' o' [.int kd c]).cell? ⟨b2, o2, none⟩ = some (.slice x l c2) := by
    intro b2 o2 x l c2 hcell
    by_cases hh : b2 = b' ∧ o2 = o'
    · obtain ⟨rfl, rfl⟩ := hh
      rw [hold] at hcell
      simp at hcell
    · rw [World.cell?_setCells_out _ _ _ _ _ (fun h1 _ => by simp at h1 ⊢; omega)]
      exact hcell
  have hone : ∀ n, q2 = .t n → ∃ c, cs' = [c] := by
    intro n e
    subst e
    have hl := setAt_len _ hset
    simp only [content] at hcs
    split at hcs <;> simp only [Option.some.injEq, reduceCtorEq] at hcs
    subst hcs
    match cs', hl with
    | [c], _ => exact ⟨c, rfl⟩
  obtain ⟨a1, a2, a3⟩ := appl_putC v hone
  have hqn : isNope (appl v (putC v q2 cs') q2.res) = false := by
    cases q2 with
    | b n => rw [show (Rt.b n).res = Res.b n from rfl, a2, if_pos rfl]; rfl
    | t n => rw [show (Rt.t n).res = Res.t n from rfl, a1, if_pos rfl]; rfl
  have hname : ∃ b2 o2, Reach w (tmv a) β (fun x => φ q2.res x ≠ 0) q2 p2 off2 b2 o2 ∧ w.cell? ⟨b2, o2, none⟩ = some (tmv a k) := by
    obtain ⟨_, _, h2⟩ := hal
    cases p2 with
    | nil => exact absurd rfl hp2
    | cons y p2 => cases q2 <;> exact h2
  obtain ⟨b2, o2, hr2, hc2⟩ := hname
  have hr3 := reach_own w1 (hr2.stay (tm' := tmv a) (β' := β) (r' := q2) stay (fun n e => ⟨e, rfl⟩) (fun n e => ⟨n, e, rfl⟩)) hzs
  rw [hsl] at hc2
  obtain ⟨φ2, h2⟩ := key.name hC (k := k) (q := q2) (p := p2) (off := off2) hqk hqn (.inr ⟨fun _ _ => hp2, b2, o2, by rw [fQ]; exact hr3, by rw [hsl]; exact stay _ _ _ _ _ hc2⟩)
  rw [appl_append]
  exact ⟨β, φ2, h2⟩

/-- What another name leads to is held by all from now on. -/
theorem RelW.frzAt {tm : Nat → Value} (h : RelW E v tm w β φ) (hC : ∀ b, E.C b → b < E.w0.heap.size) {k : Nat} {q : Rt} {p : Path} {off : Nat} {cs rest cs' : List AC} {c : AC} (hqk : q ≠ .t k) (hcs : content v q = some cs)
    (hx : cellsAt cs p off = some (c :: rest)) (hset : setAt cs p off [c.frz] = some cs') (hpl : ∃ b o, Reach w tm β (fun x => φ q.res x ≠ 0) q p off b o ∧ w.cell? ⟨b, o, none⟩ = some (tm k)) :
    ∃ φ', RelW E (appl v (putC v q cs' ++ putT v k [] (.pl false [c.frz]))) tm w β φ' := by
  obtain ⟨b, o', hreach, hcell⟩ := hpl
  obtain ⟨vs, ψ, s1, s2, s3, s4, s5⟩ := (h.root hcs).swap hreach hx hset
  have hvs : vs = [tm k] := by
    match vs, s2 with
    | [u], _ =>
      have := s1 0 (by simp)
      simp [hcell] at this
      rw [this]
  subst hvs
  simp only [List.length_cons, List.length_nil, Nat.zero_add, List.take_succ_cons, List.take_zero] at s3
  have hdq := fun x hx => h.dom q.res x hx
  have both : ∀ (Xs' Xb' : Nat → Prop), (∀ b, XS E w φ b → Xs' b) → (∀ b, ψ b ≠ 0 → Xs' b) → RepL w Xs' Xb' [c.frz] [tm k] (fun _ => 0) := fun Xs' Xb' hs hz => s3.frz Xb' hs hz
  obtain ⟨f0, _, f2⟩ := s5 (fun b => XS E w φ b ∨ ψ b ≠ 0) (fun b => XB w φ [] b) (fun _ => 0) (fun b hb => .inl hb) (fun _ hb => hb) (both _ _ (fun b hb => .inl hb) (fun b hb => .inr hb))
  have hzero : ∀ b, (∀ r, φ r b = 0) → ∀ r, upF φ (placeN q f0 (some (k, false, [c.frz])) (fun _ => 0) []) r b = 0 := fun b hb r => upF_zero (fun x hx hx0 => by
    refine ⟨q.res, ?_⟩
    rcases placeN_mem hx with rfl | ⟨d', _, rfl⟩ | ⟨n', hn', rfl⟩
    · have := f2 b; dsimp only at hx0; omega
    · exact absurd rfl hx0
    · simp at hn') hb r
  have monoS : ∀ b, XS E w φ b → XS E w (upF φ (placeN q f0 (some (k, false, [c.frz])) (fun _ => 0) [])) b := fun b hb => ⟨hb.1, hzero b hb.2.1, hb.2.2⟩
  have monoB : ∀ b, XB w φ [] b → XB w (upF φ (placeN q f0 (some (k, false, [c.frz])) (fun _ => 0) [])) [] b := fun b hb =>
    ⟨hb.1, fun r hr => absurd (hzero b (fun r' => Classical.byContradiction fun e => by obtain ⟨_, h1, _⟩ := hb.2 r' e; simp at h1) r) hr⟩
  have frzS : ∀ b, ψ b ≠ 0 → XS E w (upF φ (placeN q f0 (some (k, false, [c.frz])) (fun _ => 0) [])) b := fun b hb => by
    have hq0 : φ q.res b ≠ 0 := by have := s4 b; omega
    refine ⟨(hdq b hq0).1, fun r => ?_, (hdq b hq0).2.1⟩
    by_cases hr : r ∈ (placeN q f0 (some (k, false, [c.frz])) (fun _ => 0) []).map (·.1)
    · obtain ⟨f, g1, g2⟩ := upF_mem (φ := φ) hr
      rw [g2]
      rcases placeN_mem g1 with e | ⟨d', _, e⟩ | ⟨n', hn', _⟩
      · simp only [Prod.mk.injEq] at e
        rw [e.2]
        have := f2 b
        have := h.le1 q.res b
        omega
      · simp only [Prod.mk.injEq] at e
        rw [e.2]
      · simp at hn'
    · rw [upF_not hr]
      refine Classical.byContradiction fun e => hr ?_
      have := h.uniq r q.res b e hq0
      rw [placeN_fst]
      exact .inl this
  have b1 := both _ (XB w (upF φ (placeN q f0 (some (k, false, [c.frz])) (fun _ => 0) [])) []) monoS frzS
  obtain ⟨f1, q1, q2⟩ := s5 _ _ _ monoS monoB b1
  have hf01 : f1 = f0 := funext fun x => by have := q2 x; have := f2 x; omega
  subst hf01
  have key := h.place (w' := w) (tm' := tm) hC hcs (setAt_len _ hset) (L := []) (D := some (k, false, [c.frz])) (by simp) (by
      rintro d' ⟨a', c', e'⟩
      simp at e'
      obtain ⟨rfl, _, _⟩ := e'
      exact ⟨hqk, by simp⟩) (fq := f1) (fd := fun _ => 0) (fun x => by have := f2 x; have := h.le1 q.res x; omega) (by simp) (by simp) (fun x hx => .inl (by have := f2 x; omega)) (by simp) (fun n hn => q1.keep n hn)
    (fun _ _ _ _ => rfl) rfl rfl rfl (Nat.le_refl _) (fun _ _ => rfl) q1
    (fun d' a' ds e' => by
      simp at e'
      obtain ⟨rfl, rfl, rfl⟩ := e'
      exact ⟨[tm k], b1, by simp⟩)
  have e2 : putC v q cs' ++ (DP.ws v (some (k, false, [c.frz])) ++ dropL v []) = putC v q cs' ++ putT v k [] (.pl false [c.frz]) := by simp [DP.ws, dropL]
  rw [e2] at key
  exact ⟨_, key⟩
end
end Go.Fw
