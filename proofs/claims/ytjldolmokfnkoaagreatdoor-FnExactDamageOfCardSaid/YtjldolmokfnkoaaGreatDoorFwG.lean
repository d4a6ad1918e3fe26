/- The framework, part G: lengths, comparisons, rows and loads. Conditions: none. -/
import Derived.Test.YtjldolmokfnkoaaGreatDoorFwF
namespace Go.Fw
open Go

section
variable {P : Program} {E : Env} {v : Res → Val} {o : Oper} {a : Act} {w : World} {β : Nat → Nat} {φ : Res → Foot}

theorem XS_XB {st : Stamps} (b : Nat) (hb : XS E w φ b) : XB w φ st b := ⟨hb.1, fun r hr => absurd (hb.2.1 r) hr⟩

/-- A place's content: what the root holds, where its cells lie. -/
theorem content_at {tm : Nat → Value} (h : RelW E v tm w β φ) {r : Rt} {cs xs : List AC} (hc : content v r = some cs) {p : Path} {off b o : Nat} (hr : Reach w tm β (fun x => φ r.res x ≠ 0) r p off b o)
    (hx : cellsAt cs p off = some xs) : ∃ vs ψ, Cells w b o vs ∧ RepL w (XS E w φ) (XB w φ []) xs vs ψ ∧ (∀ x, ψ x ≤ φ r.res x) := by
  cases r with
  | b n =>
    simp only [content] at hc
    split at hc <;> simp only [Option.some.injEq, reduceCtorEq] at hc
    rename_i cs' hv
    subst hc
    obtain ⟨vals, ψ, h1, h2, h3, h4⟩ := h.box n _ hv
    obtain ⟨vs, χ, k1, k2, k3⟩ := along_read p h1 h3 hr hx
    exact ⟨vs, χ, k1, k2, fun x => by have := k3 x; have := h4 x; simp only [Rt.res]; omega⟩
  | t n =>
    simp only [content] at hc
    split at hc <;> simp only [Option.some.injEq, reduceCtorEq] at hc
    rename_i c hv
    subst hc
    obtain ⟨vals, h1, h2⟩ := h.ent n _ _ hv (by intro p hp; simp at hp)
    simp only [Bool.false_eq_true, if_false] at h2
    subst h2
    cases p with
    | nil => exact hr.elim
    | cons q p =>
      obtain ⟨k, i, e⟩ := q
      obtain ⟨hk, s, so, len, cap, htm, hal⟩ := hr
      subst hk
      obtain ⟨rows, r, g1, g2, g3⟩ := cellsAt_cons hx
      simp at g1
      subst g1
      rw [htm] at h1
      obtain ⟨vs, ψ, c1, c2, v1, v2, φ1, φ2, e0, e1, e2, e3, _, _, r1, r2, r3, r4, r5, r6, r7, r8, r9⟩ := h1.at_own (k := 0) rfl rfl
      obtain ⟨hrow, hi⟩ := row_split g2
      have hfl : rows.flatten = (rows.take i).flatten ++ (r ++ (rows.drop (i + 1)).flatten) := by conv => lhs; rw [hrow]; simp
      rw [hfl] at r8
      obtain ⟨u1, u2, ψ1, ψ2, rfl, k1, k2, ks⟩ := RepL.split _ _ r8
      obtain ⟨u2, u3, ψ3, ψ4, rfl, k3, k4, ks'⟩ := RepL.split _ _ k2
      have hlen : u1.length = i * e := by
        rw [k1.length, flatten_len (fun q hq => r4 q (List.mem_of_mem_take hq)), List.length_take, Nat.min_eq_left (by omega)]
      rw [Cells.app, Cells.app, hlen] at r7
      obtain ⟨vs', ψ', q1, q2, q3⟩ := along_read p r7.2.1 k3 hal g3
      exact ⟨vs', ψ', q1, q2, fun x => by have := q3 x; have := ks x; have := ks' x; have := r9 x; simp only [Rt.res]; omega⟩

theorem Along.snoc {w : World} {own : Nat → Prop} {s so len cap i e : Nat} (hs : own s) : ∀ {p : Path} {b o off b' o' : Nat}, Along w own b o p off b' o' → w.cell? ⟨b', o', none⟩ = some (.slice (some ⟨s, so, none⟩) len cap) →
    Along w own b o (p ++ [(off, i, e)]) 0 s (so + i * e)
  | [], b, o, off, b', o', ⟨h1, h2, h3⟩, hc => by
    subst h2 h3
    exact ⟨h1, s, so, len, cap, hc, hs, rfl, by simp⟩
  | _ :: _, _, _, _, _, _, ⟨h1, s', so', len', cap', h2, h3⟩, hc => ⟨h1, s', so', len', cap', h2, h3.snoc hs hc⟩
theorem Reach.snoc {w : World} {tm : Nat → Value} {β : Nat → Nat} {own : Nat → Prop} {r : Rt} {p : Path} {off b o s so len cap i e : Nat} (h : Reach w tm β own r p off b o)
    (hc : w.cell? ⟨b, o, none⟩ = some (.slice (some ⟨s, so, none⟩) len cap)) (hs : own s) : Reach w tm β own r (p ++ [(off, i, e)]) 0 s (so + i * e) := by
  cases r with
  | b n => exact Along.snoc hs h hc
  | t n =>
    cases p with
    | nil => exact h.elim
    | cons x p => obtain ⟨h0, s', so', len', cap', h1, h2⟩ := h; exact ⟨h0, s', so', len', cap', h1, h2.snoc hs hc⟩

/-- An alias's cell: the value in the slot is what the place holds. -/
theorem alias_at {tm : Nat → Value} (h : RelW E v tm w β φ) {r : Rt} {cs : List AC} (hc : content v r = some cs) {p : Path} {off : Nat} {st : Stamps} {u : Value} {f : Foot} (hr : RepTV E w tm β φ v st u f (.ali r p off))
    {c : AC} {rest : List AC} (hx : cellsAt cs p off = some (c :: rest)) : ∃ ψ, RepL w (XS E w φ) (XB w φ []) [c] [u] ψ ∧ (∀ x, ψ x ≤ φ r.res x) := by
  obtain ⟨h0, h1, h2⟩ := hr
  have go : (∃ b o, Reach w tm β (fun x => φ r.res x ≠ 0) r p off b o ∧ w.cell? ⟨b, o, none⟩ = some u) → ∃ ψ, RepL w (XS E w φ) (XB w φ []) [c] [u] ψ ∧ (∀ x, ψ x ≤ φ r.res x) := by
    rintro ⟨b, o, hr, hu⟩
    obtain ⟨vs, ψ, k1, k2, k3⟩ := content_at h hc hr hx
    obtain ⟨u', us, ψ1, ψ2, rfl, g1, _, gs⟩ := k2.uncons
    have := k1 0 (by simp)
    simp [hu] at this
    subst this
    exact ⟨ψ1, g1, fun x => by have := k3 x; have := gs x; omega⟩
  split at h2
  · rename_i s
    obtain ⟨rfl, rfl⟩ := h2
    simp only [content] at hc
    split at hc <;> simp only [Option.some.injEq, reduceCtorEq] at hc
    rename_i c' hv
    subst hc
    simp only [cellsAt, List.drop_zero, Option.some.injEq, List.cons.injEq] at hx
    obtain ⟨rfl, _⟩ := hx
    obtain ⟨vals, g1, g2⟩ := h.ent s _ _ hv (by intro p hp; simp at hp)
    simp only [Bool.false_eq_true, if_false] at g2
    subst g2
    exact ⟨_, g1, fun x => Nat.le_refl _⟩
  · exact go h2

/-- A slice that is read: the value is a slice of as many elements. -/
theorem slice_val {Xs X : Nat → Prop} {m : Md} {e : Nat} {rows : List (List AC)} {u : Value} {f : Foot} (h : RepL w Xs X [.sl m e rows] [u] f) : ∃ (b : Option Addr) (c : Nat), u = .slice b rows.length c := by
  cases h with
  | sc h => cases rows <;> simp [Scal] at h; obtain ⟨x, h⟩ := h.from; exact ⟨x, 0, h⟩
  | own hl => subst hl; exact ⟨_, _, rfl⟩
  | sh hl => subst hl; exact ⟨_, _, rfl⟩
  | bor hl => subst hl; exact ⟨_, _, rfl⟩

theorem rdSl_sound (h : RelW E v (tmv a) w β φ) {x : Opr} {y : Operand} {r : Option Rt} (hxy : oprOk x y = true) {m : Md} {e : Nat} {rows : List (List AC)} {st : Stamps} (hx : rdSl v x r = some (m, e, rows, st)) :
    ∃ f, RepL w (XS E w φ) (XB w φ st) [.sl m e rows] [a.eval y] f ∧ Live v st ∧ (∀ p ∈ st, isNope (v p.1.res) = false) ∧ (∀ p ∈ st, p.1 ∈ oprR x) := by
  cases x with
  | p n rs q => simp [rdSl] at hx
  | c c =>
    cases y <;> simp [oprOk] at hxy
    cases c <;> simp only [rdSl, Option.some.injEq, Prod.mk.injEq, reduceCtorEq] at hx
    obtain ⟨rfl, rfl, rfl, rfl⟩ := hx
    exact ⟨fun _ => 0, .sc (constOk_scal hxy) .nil, by intro p hp; simp at hp, by simp, by simp⟩
  | m n =>
    cases y <;> simp [oprOk] at hxy
    subst hxy
    simp only [rdSl] at hx
    split at hx <;> simp only [Option.some.injEq, Prod.mk.injEq, reduceCtorEq] at hx
    rename_i m' e' rows' hv
    obtain ⟨rfl, rfl, rfl, rfl⟩ := hx
    obtain ⟨vals, g1, g2⟩ := h.ent n _ _ hv (by intro p hp; simp at hp)
    simp only [Bool.false_eq_true, if_false] at g2
    subst g2
    exact ⟨_, g1, by intro p hp; simp at hp, by simp, by simp⟩
  | t n rs =>
    cases y <;> simp [oprOk] at hxy
    subst hxy
    simp only [rdSl] at hx
    split at hx
    · rename_i st' m' e' rows' hv
      split at hx <;> simp only [Option.some.injEq, Prod.mk.injEq, reduceCtorEq] at hx
      rename_i hst
      obtain ⟨rfl, rfl, rfl, rfl⟩ := hx
      simp only [Bool.and_eq_true] at hst
      obtain ⟨k1, k2⟩ := stOk_spec hst.1
      obtain ⟨vals, g1, g2⟩ := h.ent n _ _ hv k1
      simp only [Bool.false_eq_true, if_false] at g2
      subst g2
      exact ⟨_, g1, k1, h.here n _ _ hv k1, k2⟩
    · rename_i st' q path off hv
      split at hx
      · rename_i hst
        simp only [Bool.and_eq_true] at hst
        obtain ⟨k1, k2⟩ := stOk_spec hst.1
        obtain ⟨cs, hc, hx⟩ := ob_some hx
        obtain ⟨xs, hxs, hx⟩ := ob_some hx
        try dsimp only at hx
        split at hx <;> simp only [Option.some.injEq, Prod.mk.injEq, reduceCtorEq] at hx
        obtain ⟨rfl, rfl, rfl, rfl⟩ := hx
        have hrep := h.ent n _ _ hv k1
        obtain ⟨ψ, g1, _⟩ := alias_at h hc hrep hxs
        exact ⟨ψ, g1.weak (fun _ h => h) (fun b hb => ⟨hb.1, fun r hr => absurd (hb.2 r hr) (by simp)⟩), k1, h.here n _ _ hv k1, k2⟩
      · simp at hx
    · simp at hx

/-- A row that is read where it is held alone: its root is present and owns what is read. -/
theorem rdSl_own {a : Act} (h : RelW E v (tmv a) w β φ) {n : Nat} {rs : List Rt} {r : Option Rt} {e : Nat} {rows : List (List AC)} {st : Stamps} (hx : rdSl v (.t n rs) r = some (.own, e, rows, st)) :
    ∃ q f, r = some q ∧ isNope (v q.res) = false ∧ RepL w (XS E w φ) (XB w φ st) [.sl .own e rows] [tmv a n] f ∧ (∀ b, f b ≤ φ q.res b) ∧ Live v st ∧ (∀ p ∈ st, isNope (v p.1.res) = false) ∧ (∀ p ∈ st, p.1 ∈ rs) := by
  simp only [rdSl] at hx
  split at hx
  · rename_i st' m' e' rows' hv
    split at hx <;> simp only [Option.some.injEq, Prod.mk.injEq, reduceCtorEq] at hx
    rename_i hst
    obtain ⟨rfl, rfl, rfl, rfl⟩ := hx
    simp only [Bool.and_eq_true, Bool.or_eq_true, decide_eq_true_eq, beq_iff_eq, ne_eq, not_true_eq_false, false_or] at hst
    obtain ⟨k1, k2⟩ := stOk_spec hst.1
    obtain ⟨vals, g1, g2⟩ := h.ent n _ _ hv k1
    simp only [Bool.false_eq_true, if_false] at g2
    subst g2
    exact ⟨_, _, hst.2, by simp [Rt.res, hv, isNope], g1, fun b => Nat.le_refl _, k1, h.here n _ _ hv k1, k2⟩
  · rename_i st' q path off hv
    split at hx
    · rename_i hst
      simp only [Bool.and_eq_true, beq_iff_eq] at hst
      obtain ⟨k1, k2⟩ := stOk_spec hst.1
      obtain ⟨cs, hc, hx1⟩ := ob_some hx
      obtain ⟨xs, hxs, hx2⟩ := ob_some hx1
      try dsimp only at hx2
      split at hx2 <;> simp only [Option.some.injEq, Prod.mk.injEq, reduceCtorEq] at hx2
      obtain ⟨_, rfl, rfl, rfl⟩ := hx2
      have hrep := h.ent n _ _ hv k1
      obtain ⟨ψ, g1, g2⟩ := alias_at h hc hrep hxs
      exact ⟨q, ψ, hst.2, hrep.1, g1.weak (fun _ h => h) (fun b hb => ⟨hb.1, fun r hr => absurd (hb.2 r hr) (by simp)⟩), g2, k1, h.here n _ _ hv k1, k2⟩
    · simp at hx
  · simp at hx

theorem len_sound {Γ : Gam} (h : RelW E v (tmv a) w β φ) (hC : ∀ b, E.C b → b < E.w0.heap.size) {d : Nat} {x : Opr} {r : Option Rt} {y : Operand} {t el : TypeId}
    (hop : o.op = .call { callee := .builtin .len, args := #[y], argTypes := #[t] }) (hd : o.dst = some d) (hN : d < a.tmps.size) (ht : P.underlying t = some (.slice el))
    (hxy : oprOk x y = true) {ws : List (Res × Val)} (hf : fop Γ v (.len d x r) = some ws) : OpSound P E (appl v ws) o a w := by
  obtain ⟨⟨m, e, rows, st⟩, hx, h2⟩ := ob_some hf
  simp only [Option.some.injEq] at h2
  subst h2
  obtain ⟨f, g1, _⟩ := rdSl_sound h hxy hx
  obtain ⟨b, c, hu⟩ := slice_val g1
  refine .plain h hC hd hN (u := .int .i64 rows.length) ?_ rfl
  simp [execOp, hop, resolve, invoke, builtin, Builtin.len_, hu, run_underlying ht, goInt]

theorem slen_sound {Γ : Gam} (h : RelW E v (tmv a) w β φ) (hC : ∀ b, E.C b → b < E.w0.heap.size) {d : Nat} {x : Opr} {y : Operand} {t : TypeId}
    (hop : o.op = .call { callee := .builtin .len, args := #[y], argTypes := #[t] }) (hd : o.dst = some d) (hN : d < a.tmps.size) (ht : P.underlying t = some .string)
    (hxy : oprOk x y = true) {ws : List (Res × Val)} (hf : fop Γ v (.slen d x) = some ws) : OpSound P E (appl v ws) o a w := by
  obtain ⟨c, h1, h2⟩ := ob_some hf
  try dsimp only at h2
  split at h2 <;> simp only [Option.some.injEq, reduceCtorEq] at h2
  subst h2
  have hz := sca_val h hxy h1 rfl
  simp only [Scal] at hz
  rename_i s
  refine .plain h hC hd hN (u := .int .i64 s.length) ?_ rfl
  have hs : (⟨s.toArray⟩ : ByteArray).size = s.length := rfl
  simp [execOp, hop, resolve, invoke, builtin, Builtin.len_, hz, run_underlying ht, goInt, hs]

theorem iad_sound {Γ : Gam} (h : RelW E v (tmv a) w β φ) (hC : ∀ b, E.C b → b < E.w0.heap.size) {d x e : Nat} {rs : List Rt} {r : Option Rt} {i : Opr} {j : Operand} {t el : TypeId}
    (hop : o.op = .indexAddr t (.tmp x) j) (hd : o.dst = some d) (hN : d < a.tmps.size) (ht : P.underlying t = some (.slice el)) (he : (P.info? el).map (·.size) = some e)
    (hij : oprOk i j = true) (hrs : rs.contains (.t d) = false) (hr : r ≠ some (.t d)) {ws : List (Res × Val)} (hf : fop Γ v (.iad d x rs r i e) = some ws) : OpSound P E (appl v ws) o a w := by
  obtain ⟨c, h1, h2⟩ := ob_some hf
  try dsimp only at h2
  split at h2 <;> try (simp at h2; done)
  rename_i k n
  have hz := sca_val h hij h1 rfl
  simp only [Scal] at hz
  obtain ⟨info, hinfo, hsz⟩ := Option.map_eq_some_iff.1 he
  have run : ∀ s so len cap, tmv a x = .slice (some ⟨s, so, none⟩) len cap → 0 ≤ n → n < len → (execOp a.eval o).run P w = .ok (.value (.pointer (some ⟨s, so + n.toNat * e, none⟩))) w := by
    intro s so len cap hu h0 hl
    have hu' : a.eval (.tmp x) = .slice (some ⟨s, so, none⟩) len cap := hu
    simp [execOp, hop, hu', hz, Instr.indexAt, asIntOf, run_underlying ht, h0, hl, sizeOf, typeInfo, hinfo, hsz, Addr.add_lit]
  split at h2
  · rename_i st m e' rows hv
    split at h2
    · -- lent, or held by all
      rename_i hc
      simp only [Bool.and_eq_true, decide_eq_true_eq] at hc
      obtain ⟨⟨⟨hst, hm⟩, he'⟩, h0⟩ := hc
      subst he'
      split at h2 <;> simp only [Option.some.injEq, reduceCtorEq] at h2
      rename_i row hrow
      subst h2
      obtain ⟨k1, k2⟩ := stOk_spec hst
      obtain ⟨⟨vals, g1, g2⟩, k3⟩ := h.slotRep hv k1
      simp only [Bool.false_eq_true, if_false] at g2
      subst g2
      obtain ⟨hri, hlt⟩ := row_split hrow
      have key : ∃ s so len cap vs, tmv a x = .slice (some ⟨s, so, none⟩) len cap ∧ rows.length = len ∧ (∀ r ∈ rows, r.length = e') ∧ XB w φ st s ∧ Cells w s so vs ∧ RepL w (XS E w φ) (XB w φ st) (if m = .sh then rows.flatten else brwL rows.flatten) vs (fun _ => 0) := by
        generalize tmv a x = u at g1
        generalize φ (.t x) = f at g1
        cases g1 with
        | sc hs => cases rows <;> simp [Scal] at hs; simp at hlt
        | own => exact absurd rfl hm
        | sh hl _ _ hr hX hcv hh t => exact ⟨_, _, _, _, _, rfl, hl, hr, XS_XB _ hX, hcv, by simpa using hh.weak (fun _ h => h) XS_XB⟩
        | bor hl _ _ hr hX hcv hh t => exact ⟨_, _, _, _, _, rfl, hl, hr, hX, hcv, by simpa using hh.brw _ (fun _ h => h) (fun _ h => h) (fun _ h => absurd rfl h)⟩
      obtain ⟨s, so, len, cap, vs, hu, hl, hr4, hX, hcv, hh⟩ := key
      have hfl : (if m = .sh then rows.flatten else brwL rows.flatten) = (if m = .sh then (rows.take n.toNat).flatten else brwL (rows.take n.toNat).flatten) ++
          ((if m = .sh then row else brwL row) ++ (if m = .sh then (rows.drop (n.toNat + 1)).flatten else brwL (rows.drop (n.toNat + 1)).flatten)) := by
        have : rows.flatten = (rows.take n.toNat).flatten ++ (row ++ (rows.drop (n.toNat + 1)).flatten) := by conv => lhs; rw [hri]; simp
        rw [this]
        split <;> simp [brwL_append]
      rw [hfl] at hh
      obtain ⟨u1, u2, ψ1, ψ2, rfl, q1, q2, qs⟩ := RepL.split _ _ hh
      obtain ⟨u2, u3, ψ3, ψ4, rfl, q3, q4, qs'⟩ := RepL.split _ _ q2
      have hlen : u1.length = n.toNat * e' := by
        have hfl2 := flatten_len (fun q hq => hr4 q (List.mem_of_mem_take (i := n.toNat) hq))
        rw [List.length_take, Nat.min_eq_left (by omega)] at hfl2
        rw [q1.length]
        split
        · exact hfl2
        · rw [brwL_length]; exact hfl2
      rw [Cells.app, Cells.app, hlen] at hcv
      have := OpSound.val (P := P) (tv := .view (if m = .sh then row else brwL row)) h hC hd hN (run s so len cap hu h0 (by omega)) (.refl w) (L := []) (by simp) (f := fun _ => 0) (by simp) (by simp) (slot_stamps k2 hrs) k1 k3
        ⟨s, _, u2, rfl, hX, hcv.2.1, q3.cast (fun x => by have := qs x; have := qs' x; omega)⟩
      simpa [dropL] using this
    · split at h2 <;> try (simp at h2; done)
      rename_i hc
      simp only [Bool.and_eq_true, decide_eq_true_eq, beq_iff_eq] at hc
      obtain ⟨⟨⟨⟨⟨hst, hm⟩, he'⟩, h0⟩, hrx⟩, hdx⟩ := hc
      subst he' hm
      split at h2 <;> simp only [Option.some.injEq, reduceCtorEq] at h2
      rename_i row hrow
      subst h2
      obtain ⟨k1, k2⟩ := stOk_spec hst
      obtain ⟨⟨vals, g1, g2⟩, k3⟩ := h.slotRep hv k1
      simp only [Bool.false_eq_true, if_false] at g2
      subst g2
      obtain ⟨hri, hlt⟩ := row_split hrow
      have key : ∃ s so len cap, tmv a x = .slice (some ⟨s, so, none⟩) len cap ∧ rows.length = len ∧ φ (.t x) s ≠ 0 := by
        generalize hf : φ (.t x) = f at g1
        generalize tmv a x = u at g1
        cases g1 with
        | sc hs => cases rows <;> simp [Scal] at hs; simp at hlt
        | own hl => exact ⟨_, _, _, _, rfl, hl, by simp⟩
      obtain ⟨s, so, len, cap, hu, hl, hown⟩ := key
      have := OpSound.val (P := P) (tv := .ptr (.t x) [(0, n.toNat, e')] 0) (st := [(.t x, ver v (.t x))]) h hC hd hN (run s so len cap hu h0 (by omega)) (.refl w) (L := []) (by simp) (f := fun _ => 0) (by simp) (by simp)
        (by intro p hp; simp at hp; subst hp; simp; exact fun e => hdx e.symm) (by intro p hp; simp at hp; subst hp; rfl) (by intro p hp; simp at hp; subst hp; simp [Rt.res, hv, isNope])
        ⟨by simp [Rt.res, hv, isNope], .inr ⟨(.t x, ver v (.t x)), by simp, rfl⟩, s, _, rfl, rfl, s, so, len, cap, hu, hown, rfl, by simp⟩
      simpa [dropL] using this
  · rename_i st q path off hv
    split at h2 <;> try (simp at h2; done)
    rename_i hc
    simp only [Bool.and_eq_true, decide_eq_true_eq, beq_iff_eq] at hc
    obtain ⟨⟨hst, hrq⟩, h0⟩ := hc
    obtain ⟨cs, hcs, h2⟩ := ob_some h2
    obtain ⟨xs, hxs, h2⟩ := ob_some h2
    try dsimp only at h2
    split at h2 <;> try (simp at h2; done)
    rename_i e' rows rest
    split at h2 <;> try (simp at h2; done)
    rename_i he'
    subst he'
    split at h2 <;> simp only [Option.some.injEq, reduceCtorEq] at h2
    rename_i row hrow
    subst h2
    obtain ⟨k1, k2⟩ := stOk_spec hst
    obtain ⟨hrep, k3⟩ := h.slotRep hv k1
    obtain ⟨ψ, g1, g2⟩ := alias_at h hcs hrep hxs
    obtain ⟨hri, hlt⟩ := row_split hrow
    have key : ∃ s so len cap, tmv a x = .slice (some ⟨s, so, none⟩) len cap ∧ rows.length = len ∧ φ q.res s ≠ 0 := by
      generalize tmv a x = u at g1
      cases g1 with
      | sc hs => cases rows <;> simp [Scal] at hs; simp at hlt
      | @own _ _ e b o' len cap rows vals φ1 cs' vs' ψ1 hl =>
        refine ⟨_, _, _, _, rfl, hl, ?_⟩
        have := g2 b
        simp at this
        omega
    obtain ⟨s, so, len, cap, hu, hl, hown⟩ := key
    obtain ⟨r0, ⟨p0, hp0, hpq⟩, r2⟩ := hrep
    have reach : Reach w (tmv a) β (fun x => φ q.res x ≠ 0) q (path ++ [(off, n.toNat, e')]) 0 s (so + n.toNat * e') := by
      split at r2
      · rename_i s'
        obtain ⟨rfl, hs'⟩ := r2
        exact ⟨rfl, s, so, len, cap, by rw [← hs']; exact hu, hown, rfl, by simp⟩
      · obtain ⟨b, o', hr1, hr2⟩ := r2
        rw [hu] at hr2
        exact hr1.snoc hr2 hown
    have := OpSound.val (P := P) (tv := .ptr q (path ++ [(off, n.toNat, e')]) 0) (st := [(q, ver v q)]) h hC hd hN (run s so len cap hu h0 (by omega)) (.refl w) (L := []) (by simp) (f := fun _ => 0) (by simp) (by simp)
      (by intro p hp; simp at hp; subst hp; simp; exact fun e => hr (by rw [hrq, e])) (by intro p hp; simp at hp; subst hp; rfl) (by intro p hp; simp at hp; subst hp; exact r0)
      ⟨r0, .inr ⟨(q, ver v q), by simp, rfl⟩, s, _, rfl, reach⟩
    simpa [dropL] using this
  · simp at h2

theorem flat_rep : ∀ {cs : List AC} {vs : List Value} {f : Foot} {Xs X : Nat → Prop}, RepL w Xs X cs vs f → cs.all AC.flat = true → ∀ Xs' X', RepL w Xs' X' cs vs (fun _ => 0) := by
  intro cs vs f Xs X h
  induction h with
  | nil => intros; exact .nil
  | sc h t ih => intro ha Xs' X'; simp at ha; exact .sc h (ih (by simpa using ha.2) Xs' X')
  | own => intro ha; simp [AC.flat] at ha
  | sh => intro ha; simp [AC.flat] at ha
  | bor => intro ha; simp [AC.flat] at ha
  | refOwn => intro ha; simp [AC.flat] at ha
  | refSh => intro ha; simp [AC.flat] at ha
  | refBor => intro ha; simp [AC.flat] at ha

def tySize (P : Program) (t : TypeId) : Option Nat := (P.info? t).map (·.size)
def aggD : TypeDesc → Bool
  | .struct _ => true
  | .array _ _ => true
  | _ => false
def isAggB (P : Program) (t : TypeId) : Option Bool := (P.underlying t).map aggD
theorem isAgg_run {P : Program} {t : TypeId} {g : Bool} (h : isAggB P t = some g) (w : World) : (isAgg t).run P w = .ok g w := by
  obtain ⟨d, hd, rfl⟩ := Option.map_eq_some_iff.1 h
  cases d <;> simp [isAgg, run_underlying hd, aggD]

theorem loadAt_run {t : TypeId} {n : Nat} {g : Bool} (ht : tySize P t = some n) (hg : isAggB P t = some g) (h1 : g = false → n = 1) {b o : Nat} {vs : List Value} (hc : Cells w b o vs) (hl : vs.length = n) :
    ∃ u, (Instr.loadAt t (.pointer (some ⟨b, o, none⟩))).run P w = .ok u w ∧ (if g then u = .agg vs.toArray else vs = [u]) := by
  obtain ⟨info, hi, hs⟩ := Option.map_eq_some_iff.1 ht
  have hload : (loadCells ⟨b, o, none⟩ vs.length).run P w = .ok vs.toArray w := run_loadCells_list w ⟨b, o, none⟩ vs (fun j u hj => by
    obtain ⟨hlt, e⟩ := List.getElem?_eq_some_iff.1 hj
    rw [Addr.add_lit, ← e]; exact hc j hlt)
  have hagg := isAgg_run hg w
  cases g with
  | true =>
    refine ⟨.agg vs.toArray, ?_, by simp⟩
    simp [Instr.loadAt, Instr.sureAddr, loadVar, hagg, sizeOf, typeInfo, hi, hs, ← hl, hload]
  | false =>
    have hn := h1 rfl
    obtain ⟨u, rfl⟩ : ∃ u, vs = [u] := by
      match vs, hl with
      | [u], _ => exact ⟨u, rfl⟩
      | [], hl => simp at hl; omega
      | _ :: _ :: _, hl => simp at hl; omega
    have hcell := hc 0 (by simp)
    simp at hcell
    refine ⟨u, ?_, by simp⟩
    simp [Instr.loadAt, Instr.sureAddr, loadVar, hagg, load, Sem.run, hcell]

theorem Cells.take {b o : Nat} {vs : List Value} (h : Cells w b o vs) (n : Nat) : Cells w b o (vs.take n) := by
  rw [← List.take_append_drop n vs] at h
  exact (Cells.app.1 h).1
theorem RepL.take {Xs X : Nat → Prop} {cs : List AC} {vs : List Value} {f : Foot} (h : RepL w Xs X cs vs f) (n : Nat) : ∃ g, RepL w Xs X (cs.take n) (vs.take n) g ∧ ∀ x, g x ≤ f x := by
  have h' : RepL w Xs X (cs.take n ++ cs.drop n) vs f := by rw [List.take_append_drop]; exact h
  obtain ⟨v1, v2, φ1, φ2, rfl, e1, e2, hs⟩ := RepL.split _ _ h'
  refine ⟨φ1, ?_, fun x => by have := hs x; omega⟩
  have l1 := e1.length
  have l2 := e2.length
  rw [List.length_take] at l1
  rw [List.length_drop] at l2
  have : (v1 ++ v2).take n = v1 := by
    by_cases hn : n ≤ cs.length
    · rw [List.take_append_of_le_length (by omega), List.take_of_length_le (by omega)]
    · have : v2 = [] := List.eq_nil_of_length_eq_zero (by omega)
      subst this
      rw [List.append_nil, List.take_of_length_le (by omega)]
  rw [this]
  exact e1

/-- The loads that leave memory's readings as they are. -/
theorem load_sound {Γ : Gam} (h : RelW E v (tmv a) w β φ) (hC : ∀ b, E.C b → b < E.w0.heap.size) {d p n : Nat} {rs : List Rt} {r : Option Rt} {g : Bool} {m : Lm} {t : TypeId}
    (hop : o.op = .load t (.tmp p)) (hd : o.dst = some d) (hN : d < a.tmps.size) (ht : tySize P t = some n) (hg : isAggB P t = some g) (h1 : g = false → n = 1)
    (hrs : rs.contains (.t d) = false) (hr : r ≠ some (.t d)) (hm : m ≠ .mv ∧ m ≠ .fz) {ws : List (Res × Val)} (hf : fop Γ v (.load d p rs r n g m) = some ws) : OpSound P E (appl v ws) o a w := by
  simp only [fop] at hf
  have run : ∀ b o' vs, tmv a p = .pointer (some ⟨b, o', none⟩) → Cells w b o' vs → vs.length = n → ∃ u, (execOp a.eval o).run P w = .ok (.value u) w ∧ (if g then u = .agg vs.toArray else vs = [u]) := by
    intro b o' vs e hc hl
    have : a.eval (.tmp p) = .pointer (some ⟨b, o', none⟩) := e
    obtain ⟨u, h2, h3⟩ := loadAt_run (P := P) ht hg h1 hc hl
    exact ⟨u, by simp [execOp, hop, this, h2], h3⟩
  split at hf
  · rename_i st cs hv
    split at hf <;> simp only [Option.some.injEq, reduceCtorEq] at hf
    rename_i hc
    subst hf
    simp only [Bool.and_eq_true, decide_eq_true_eq] at hc
    obtain ⟨⟨hst, hle⟩, hno⟩ := hc
    obtain ⟨k1, k2⟩ := stOk_spec hst
    obtain ⟨⟨b, o', vs, e, g1, g2, g3⟩, k3⟩ := h.slotRep hv k1
    obtain ⟨f, q1, q2⟩ := g3.take n
    obtain ⟨u, hrun, hu⟩ := run b o' (vs.take n) e (g2.take n) (by rw [List.length_take, g3.length]; omega)
    by_cases hfl : (cs.take n).all AC.flat = true
    · rw [if_pos hfl]
      have := OpSound.val (P := P) (tv := .pl g (cs.take n)) (st := []) h hC hd hN hrun (.refl w) (L := []) (by simp) (f := fun _ => 0) (by simp) (by simp) (by simp) (by intro p hp; simp at hp) (by simp)
        ⟨vs.take n, flat_rep q1 hfl _ _, hu⟩
      simpa only [dropL, List.append_nil] using this
    · rw [if_neg hfl]
      have := OpSound.val (P := P) (tv := .pl g (cs.take n)) h hC hd hN hrun (.refl w) (L := []) (by simp) (f := fun _ => 0) (by simp) (by simp) (slot_stamps k2 hrs) k1 k3
        ⟨vs.take n, q1.cast (fun x => Nat.eq_zero_of_le_zero (q2 x)), hu⟩
      simpa only [dropL, List.append_nil] using this
  · rename_i st q path off hv
    split at hf <;> try (simp at hf; done)
    rename_i hc
    simp only [Bool.and_eq_true, beq_iff_eq] at hc
    obtain ⟨hst, hrq⟩ := hc
    obtain ⟨cs, hcs, hf2⟩ := ob_some hf
    obtain ⟨xs, hxs, hf3⟩ := ob_some hf2
    clear hf hf2
    try dsimp only at hf3
    split at hf3 <;> try (simp at hf3; done)
    rename_i hle
    obtain ⟨k1, k2⟩ := stOk_spec hst
    obtain ⟨⟨r0, r1, b, o', e, hreach⟩, k3⟩ := h.slotRep hv k1
    obtain ⟨vs, ψ, g1, g2, g3⟩ := content_at h hcs hreach hxs
    obtain ⟨f, q1, q2⟩ := g2.take n
    obtain ⟨u, hrun, hu⟩ := run b o' (vs.take n) e (g1.take n) (by rw [List.length_take, g2.length]; omega)
    have hqd : q ≠ .t d := fun e => hr (by rw [hrq, e])
    have hst1 : ∀ p ∈ [(q, ver v q)], p.1 ≠ .t d ∧ ∀ n ∈ ([] : List Nat), p.1 ≠ .t n := by intro p hp; simp at hp; subst hp; simp [hqd]
    have hlive1 : Live v [(q, ver v q)] := by intro p hp; simp at hp; subst hp; rfl
    have hh1 : ∀ p ∈ [(q, ver v q)], isNope (v p.1.res) = false := by intro p hp; simp at hp; subst hp; exact r0
    by_cases hno : noOwnL (xs.take n) = true
    · rw [if_pos hno] at hf3
      simp only [Option.some.injEq] at hf3
      subst hf3
      have := OpSound.val (P := P) (tv := .pl g (xs.take n)) (st := []) h hC hd hN hrun (.refl w) (L := []) (by simp) (f := fun _ => 0) (by simp) (by simp) (by simp) (by intro p hp; simp at hp) (by simp)
        ⟨vs.take n, q1.cast (q1.foot0 hno), hu⟩
      simpa [dropL] using this
    rw [if_neg hno] at hf3
    cases m with
    | cp => simp at hf3
    | bo =>
      simp only [Option.some.injEq] at hf3
      subst hf3
      have := OpSound.val (P := P) (tv := .pl g (brwL (xs.take n))) h hC hd hN hrun (.refl w) (L := []) (by simp) (f := fun _ => 0) (by simp) (by simp) hst1 hlive1 hh1
        ⟨vs.take n, q1.brw _ (fun b hb => XS_XB b hb) (fun b hb => ⟨hb.1, fun s hs => absurd (hb.2 s hs) (by simp)⟩)
          (fun b hb => by
            have h2 : φ q.res b ≠ 0 := by have := q2 b; have := g3 b; omega
            exact ⟨(h.dom _ _ h2).1, fun s hs => ⟨(q, ver v q), by simp, h.uniq _ _ b h2 hs⟩⟩), hu⟩
      simpa [dropL] using this
    | al =>
      simp only at hf3
      split at hf3 <;> simp only [Option.some.injEq, reduceCtorEq] at hf3
      rename_i hng
      obtain ⟨rfl, rfl⟩ := hng
      subst hf3
      simp only [Bool.false_eq_true, if_false] at hu
      have hcell : w.cell? ⟨b, o', none⟩ = some u := by
        have h3 := (g1.take 1)
        rw [hu] at h3
        have := h3 0 (by simp)
        simpa using this
      have := OpSound.val (P := P) (tv := .ali q path off) h hC hd hN hrun (.refl w) (L := []) (by simp) (f := fun _ => 0) (by simp) (by simp) hst1 hlive1 hh1
        ⟨r0, ⟨(q, ver v q), by simp, rfl⟩, by
          split
          · rename_i s; exact hreach.elim
          · exact ⟨b, o', hreach, hcell⟩⟩
      simpa [dropL] using this
    | mv => exact absurd rfl hm.1
    | fz => exact absurd rfl hm.2
  · simp at hf
end
end Go.Fw
