/- The framework, part I: parts of values, slices of slices and of strings, new values and boxes. The framework, part J: structs and rows that are built. Conditions: none. -/
import Derived.Test.YtjldolmokfnkoaaGreatDoorFwH
import Derived.Laws.Tables
namespace Go.Fw
open Go

def optOk : Option Opr → Option Operand → Bool
  | none, none => true
  | some x, some y => oprOk x y
  | _, _ => false

section
variable {P : Program} {E : Env} {v : Res → Val} {o : Oper} {a : Act} {w : World} {β : Nat → Nat} {φ : Res → Foot}

def fieldIs (P : Program) (s : TypeId) (f : Nat) : Option (Nat × Nat × Bool) :=
  match P.underlying s with
  | some (.struct fs) => match fs[f]? with
    | some fd => match tySize P fd.type, isAggB P fd.type with
      | some n, some g => some (fd.offset, n, g)
      | _, _ => none
    | none => none
  | _ => none

theorem RepL.sub {Xs X : Nat → Prop} {cs : List AC} {vs : List Value} {f : Foot} (h : RepL w Xs X cs vs f) (k n : Nat) : ∃ g, RepL w Xs X ((cs.drop k).take n) ((vs.drop k).take n) g ∧ ∀ x, g x ≤ f x := by
  have h' : RepL w Xs X (cs.take k ++ cs.drop k) vs f := by rw [List.take_append_drop]; exact h
  obtain ⟨v1, v2, φ1, φ2, rfl, e1, e2, hs⟩ := RepL.split _ _ h'
  have l1 := e1.length
  have l2 := e2.length
  rw [List.length_take] at l1
  rw [List.length_drop] at l2
  have : (v1 ++ v2).drop k = v2 := by
    by_cases hk : k ≤ cs.length
    · rw [List.drop_append_of_le_length (by omega), List.drop_of_length_le (by omega)]; rfl
    · have : v2 = [] := List.eq_nil_of_length_eq_zero (by omega)
      subst this
      rw [List.append_nil, List.drop_of_length_le (by omega)]
  rw [this]
  obtain ⟨g, g1, g2⟩ := e2.take n
  exact ⟨g, g1, fun x => by have := g2 x; have := hs x; omega⟩

theorem fld_sound {Γ : Gam} (h : RelW E v (tmv a) w β φ) (hC : ∀ b, E.C b → b < E.w0.heap.size) {d k n f : Nat} {g : Bool} {x : Opr} {y : Operand} {s : TypeId} (hop : o.op = .field s y f) (hd : o.dst = some d) (hN : d < a.tmps.size)
    (hfi : fieldIs P s f = some (k, n, g)) (h1 : g = false → n = 1) (hxy : oprOk x y = true) (hsep : sep d x = true) (hL : oprL x = [])
    {ws : List (Res × Val)} (hf : fop Γ v (.fld d x k n g) = some ws) : OpSound P E (appl v ws) o a w := by
  obtain ⟨⟨st, tv, ws1⟩, h2, h3⟩ := ob_some hf
  try dsimp only at h3
  split at h3 <;> try (simp at h3; done)
  rename_i _ st1 cs e1
  simp only [Prod.mk.injEq] at e1
  obtain ⟨rfl, rfl, rfl⟩ := e1
  split at h3 <;> simp only [Option.some.injEq, reduceCtorEq] at h3
  rename_i hle
  subst h3
  obtain ⟨_, f1, i1, i2⟩ := opr_sound h hxy h2
  obtain ⟨us, r1, hu⟩ := i1.rep
  simp only [if_true] at hu
  unfold fieldIs at hfi
  split at hfi <;> try (simp at hfi; done)
  rename_i fs hs
  split at hfi <;> try (simp at hfi; done)
  rename_i fd hfd
  split at hfi <;> simp only [Option.some.injEq, Prod.mk.injEq, reduceCtorEq] at hfi
  rename_i n' g' hn hg
  obtain ⟨rfl, rfl, rfl⟩ := hfi
  have hl := r1.length
  have hp := part_run (P := P) hn hg h1 us fd.offset (by omega) w
  obtain ⟨q, q1, q2⟩ := r1.sub fd.offset n'
  have hq : (if g' then mkv g' ((us.drop fd.offset).take n') = .agg ((us.drop fd.offset).take n').toArray else (us.drop fd.offset).take n' = [mkv g' ((us.drop fd.offset).take n')]) := by
    cases g' with
    | true => simp [mkv]
    | false =>
      have e := h1 rfl
      subst e
      simp only [mkv, Bool.false_eq_true, if_false]
      have hlt : fd.offset < us.length := by omega
      rw [List.drop_eq_getElem_cons hlt]
      rfl
  have f0 := i2 hL
  subst f0
  by_cases hfl : ((cs.drop fd.offset).take n').all AC.flat = true
  · rw [if_pos hfl]
    have := OpSound.val (P := P) (tv := .pl g' ((cs.drop fd.offset).take n')) (st := []) h hC hd hN (u := mkv g' ((us.drop fd.offset).take n')) (by simp [execOp, hop, hu, Instr.field, run_underlying hs, hfd, asAgg, hp]) (.refl w) (L := []) (by simp) (f := fun _ => 0) (by simp) (by simp)
      (by simp) (by intro p hp; simp at hp) (by simp) ⟨_, flat_rep q1 hfl _ _, hq⟩
    simpa only [dropL, List.append_nil] using this
  · rw [if_neg hfl]
    have := OpSound.val (P := P) (tv := .pl g' ((cs.drop fd.offset).take n')) h hC hd hN (u := mkv g' ((us.drop fd.offset).take n')) (by simp [execOp, hop, hu, Instr.field, run_underlying hs, hfd, asAgg, hp]) (.refl w) (L := []) (by simp) (f := fun _ => 0) (by simp) (by simp)
      (by have := i1.stamps hsep; rw [hL] at this; exact this) i1.live i1.here ⟨_, q1.cast (fun x => Nat.eq_zero_of_le_zero (q2 x)), hq⟩
    simpa only [dropL, List.append_nil] using this

theorem optI_run (h : RelW E v (tmv a) w β φ) {x : Option Opr} {y : Option Operand} (hxy : optOk x y = true) {dflt : Nat} {l : Int} (hx : optI v x dflt = some l) :
    (x = none ∧ y = none ∧ l = dflt) ∨ ∃ y' k, y = some y' ∧ a.eval y' = .int k l := by
  cases x with
  | none =>
    cases y <;> simp [optOk] at hxy
    simp only [optI, Option.some.injEq] at hx
    exact .inl ⟨rfl, rfl, hx.symm⟩
  | some x =>
    cases y <;> simp [optOk] at hxy
    rename_i y
    simp only [optI] at hx
    obtain ⟨c, h1, h2⟩ := ob_some hx
    try dsimp only at h2
    split at h2 <;> simp only [Option.some.injEq, reduceCtorEq] at h2
    subst h2
    have hz := sca_val h hxy h1 rfl
    simp only [Scal] at hz
    exact .inr ⟨y, _, rfl, hz⟩

theorem bounds_run (h : RelW E v (tmv a) w β φ) {lo hi : Option Opr} {lo' hi' : Option Operand} (h1 : optOk lo lo' = true) (h2 : optOk hi hi' = true) {len cap : Nat} {l r : Int} (hl : optI v lo 0 = some l) (hr : optI v hi len = some r)
    (b1 : 0 ≤ l) (b2 : l ≤ r) (b3 : r ≤ len) (b4 : len ≤ cap) (isS : Bool) :
    (Instr.sliceBounds isS len cap (lo'.map a.eval) (hi'.map a.eval) none).run P w = .ok (l.toNat, r.toNat, cap) w := by
  rcases optI_run h h1 hl with ⟨_, rfl, rfl⟩ | ⟨y, k, rfl, ey⟩ <;> rcases optI_run h h2 hr with ⟨_, rfl, rfl⟩ | ⟨z, k', rfl, ez⟩
  · simp [Instr.sliceBounds]
  · have c : 0 ≤ r ∧ r ≤ (cap : Int) := by omega
    simp [Instr.sliceBounds, Instr.sliceBound, ez, asIntOf, c]
  · have c : 0 ≤ l ∧ l ≤ (len : Int) := by omega
    simp [Instr.sliceBounds, Instr.sliceBound, ey, asIntOf, c]
  · have c : 0 ≤ r ∧ r ≤ (cap : Int) := by omega
    have c' : 0 ≤ l ∧ l ≤ (r.toNat : Int) := by omega
    have c3 : ¬ max r 0 < l := by omega
    simp [Instr.sliceBounds, Instr.sliceBound, ey, ez, asIntOf, c, c', c3]

theorem slice_run (h : RelW E v (tmv a) w β φ) {lo hi : Option Opr} {lo' hi' : Option Operand} (h1 : optOk lo lo' = true) (h2 : optOk hi hi' = true) {len cap e : Nat} {l r : Int} (hl : optI v lo 0 = some l) (hr : optI v hi len = some r)
    (b1 : 0 ≤ l) (b2 : l ≤ r) (b3 : r ≤ len) (b4 : len ≤ cap) {t el : TypeId} (ht : P.underlying t = some (.slice el)) (he : tySize P el = some e) (b : Option Addr) :
    (Instr.sliceAt t (.slice b len cap) (lo'.map a.eval) (hi'.map a.eval) none).run P w = .ok (.slice (if cap = l.toNat then b else b.map (·.add (l.toNat * e))) (r.toNat - l.toNat) (cap - l.toNat)) w := by
  obtain ⟨info, hi', hs⟩ := Option.map_eq_some_iff.1 he
  have hb := bounds_run (P := P) h h1 h2 hl hr b1 b2 b3 b4 true
  simp [Instr.sliceAt, run_underlying ht, Instr.slice, hb, sizeOf, typeInfo, hi', hs]

theorem rows_part {rows : List (List AC)} {e l n : Nat} (hr : ∀ r ∈ rows, r.length = e) (hl : l + n ≤ rows.length) : ((rows.drop l).take n).flatten = (rows.flatten.drop (l * e)).take (n * e) := by
  have e1 : rows.flatten = (rows.take l).flatten ++ (((rows.drop l).take n).flatten ++ ((rows.drop l).drop n).flatten) := by
    rw [← List.flatten_append, List.take_append_drop, ← List.flatten_append, List.take_append_drop]
  have l1 : (rows.take l).flatten.length = l * e := by
    rw [flatten_len (fun q hq => hr q (List.mem_of_mem_take hq)), List.length_take, Nat.min_eq_left (by omega)]
  have l2 : ((rows.drop l).take n).flatten.length = n * e := by
    rw [flatten_len (fun q hq => hr q (List.mem_of_mem_drop (List.mem_of_mem_take hq))), List.length_take, List.length_drop, Nat.min_eq_left (by omega)]
  rw [e1, List.drop_left' l1, List.take_left' l2]

theorem Cells.sub {b o : Nat} {vs : List Value} (h : Cells w b o vs) (k n : Nat) (hk : k ≤ vs.length) : Cells w b (o + k) ((vs.drop k).take n) := by
  rw [← List.take_append_drop k vs, Cells.app, List.length_take, Nat.min_eq_left hk] at h
  exact h.2.take n

theorem slice_sound {Γ : Gam} (h : RelW E v (tmv a) w β φ) (hC : ∀ b, E.C b → b < E.w0.heap.size) {d e : Nat} {x : Opr} {r : Option Rt} {lo hi : Option Opr} {y : Operand} {lo' hi' : Option Operand} {t el : TypeId}
    (hop : o.op = .slice t y lo' hi' none) (hd : o.dst = some d) (hN : d < a.tmps.size) (ht : P.underlying t = some (.slice el)) (he : tySize P el = some e)
    (hxy : oprOk x y = true) (h1 : optOk lo lo' = true) (h2 : optOk hi hi' = true) (hsep : sep d x = true) (hrd : r ≠ some (.t d)) (hL : oprL x = [])
    {ws : List (Res × Val)} (hf : fop Γ v (.slice d e x r lo hi) = some ws) : OpSound P E (appl v ws) o a w := by
  obtain ⟨⟨md, e', rows, st⟩, hx, hf1⟩ := ob_some hf
  obtain ⟨l, hl, hf2⟩ := ob_some hf1
  obtain ⟨q, hq, hf3⟩ := ob_some hf2
  clear hf hf1 hf2
  try dsimp only at hf3
  split at hf3 <;> try (simp at hf3; done)
  rename_i hb
  obtain ⟨rfl, b1, b2, b3⟩ := hb
  have hlen : ((rows.drop l.toNat).take (q.toNat - l.toNat)).length = q.toNat - l.toNat := by rw [List.length_take, List.length_drop]; omega
  -- what the operation yields
  have run : ∀ b cap, a.eval y = .slice b rows.length cap → rows.length ≤ cap → (execOp a.eval o).run P w = .ok (.value (.slice (if cap = l.toNat then b else b.map (·.add (l.toNat * e'))) (q.toNat - l.toNat) (cap - l.toNat))) w := by
    intro b cap hu hcap
    have := slice_run (P := P) h h1 h2 hl hq b1 b2 b3 hcap ht he b
    simp [execOp, hop, hu, this]
  -- where rows lie, a part of them lies
  have base : ∀ {b o : Nat} {vs : List Value} {cap : Nat}, (∀ r ∈ rows, r.length = e') → Cells w b o vs → vs.length = rows.flatten.length → rows.length ≤ cap →
      ∃ o' , (if cap = l.toNat then (some ⟨b, o, none⟩ : Option Addr) else (some (⟨b, o, none⟩ : Addr)).map (·.add (l.toNat * e'))) = some ⟨b, o', none⟩ ∧ Cells w b o' ((vs.drop (l.toNat * e')).take ((q.toNat - l.toNat) * e')) := by
    intro b o vs cap hr hcv hvl hcap
    rw [flatten_len hr] at hvl
    by_cases hcl : cap = l.toNat
    · refine ⟨o, by simp [hcl], ?_⟩
      have : q.toNat - l.toNat = 0 := by omega
      rw [this, Nat.zero_mul, List.take_zero]
      intro j hj; simp at hj
    · refine ⟨o + l.toNat * e', by simp [hcl, Addr.add_lit], hcv.sub _ _ ?_⟩
      rw [hvl]
      exact Nat.mul_le_mul_right _ (by omega)
  by_cases hown : md = .own
  · subst hown
    simp only [if_true] at hf3
    · cases x with
      | p n rs q => simp [rdSl] at hx
      | t n rs =>
        cases y <;> simp [oprOk] at hxy
        subst hxy
        obtain ⟨p, f, rfl, p1, g1, g2, k1, k2, k3⟩ := rdSl_own h hx
        simp only [Option.some.injEq] at hf3
        subst hf3
        have hst : ∀ x ∈ (p, ver v p) :: st, x.1 ≠ .t d ∧ ∀ n ∈ ([] : List Nat), x.1 ≠ .t n := by
          intro x hx
          rcases List.mem_cons.1 hx with rfl | hx
          · exact ⟨fun e => hrd (by rw [← e]), by simp⟩
          · exact ⟨fun e => (sep_spec hsep).2 (by rw [← e]; exact k3 _ hx), by simp⟩
        have hlv : Live v ((p, ver v p) :: st) := by
          intro x hx
          rcases List.mem_cons.1 hx with rfl | hx
          · rfl
          · exact k1 _ hx
        have hhr : ∀ x ∈ (p, ver v p) :: st, isNope (v x.1.res) = false := by
          intro x hx
          rcases List.mem_cons.1 hx with rfl | hx
          · exact p1
          · exact k2 _ hx
        have main : ∃ u, (execOp a.eval o).run P w = .ok (.value u) w ∧ RepL w (XS E w φ) (XB w φ ((p, ver v p) :: st)) [.sl .bor e' (brwLL ((rows.drop l.toNat).take (q.toNat - l.toNat)))] [u] (fun _ => 0) := by
          have hu0 : a.eval (.tmp n) = tmv a n := rfl
          rw [hu0] at run
          generalize tmv a n = u0 at g1 run
          cases g1 with
          | sc hs =>
            cases rows <;> simp [Scal] at hs
            subst hs
            have r0 := run none 0 rfl (by simp)
            refine ⟨_, r0, ?_⟩
            simp at b3
            have : q.toNat - l.toNat = 0 := by omega
            simp [this, brwLL]
            exact .sc (Emp.nil _) .nil
          | @own _ _ _ b o' len cap _ vals f1 _ _ f2 hl' hc he' hr hbs ha hcv hh t =>
            subst hl'
            obtain ⟨o2, e1, e2⟩ := base hr hcv hh.length hc.1
            refine ⟨_, run _ cap rfl hc.1, ?_⟩
            rw [e1]
            obtain ⟨f3, r1, r2⟩ := hh.sub (l.toNat * e') ((q.toNat - l.toNat) * e')
            rw [← rows_part hr (by omega)] at r1
            refine .bor (by rw [brwLL_map, List.length_map, hlen]) (by omega) he' ?_ ?_ e2 ?_ .nil
            · intro r' hr'
              rw [brwLL_map] at hr'
              obtain ⟨z, hz, rfl⟩ := List.mem_map.1 hr'
              rw [brwL_length]
              exact hr z (List.mem_of_mem_drop (List.mem_of_mem_take hz))
            · have h3 := g2 b
              simp at h3
              have h4 : φ p.res b ≠ 0 := by omega
              exact ⟨(h.dom _ _ h4).1, fun s hs => ⟨(p, ver v p), by simp, h.uniq _ _ b h4 hs⟩⟩
            · rw [brwLL_flatten]
              refine r1.brw _ (fun b hb => XS_XB b hb) (fun b hb => ⟨hb.1, fun s hs => ?_⟩) (fun b hb => ?_)
              · obtain ⟨z, hz, hz2⟩ := hb.2 s hs
                exact ⟨z, by simp [hz], hz2⟩
              · have h3 := g2 b
                have h5 := r2 b
                dsimp only at h3
                have h4 : φ p.res b ≠ 0 := by omega
                exact ⟨(h.dom _ _ h4).1, fun s hs => ⟨(p, ver v p), by simp, h.uniq _ _ b h4 hs⟩⟩
        obtain ⟨u, hrun, hrep⟩ := main
        have := OpSound.val (P := P) (tv := .pl false [.sl .bor e' (brwLL ((rows.drop l.toNat).take (q.toNat - l.toNat)))]) h hC hd hN hrun (.refl w) (L := []) (by simp) (f := fun _ => 0) (by simp) (by simp) hst hlv hhr ⟨[u], hrep, by simp⟩
        simpa [dropL] using this
      | m n => simp [oprL] at hL
      | c c => simp at hf3
  · rw [if_neg hown] at hf3
    simp only [Option.some.injEq] at hf3
    subst hf3
    obtain ⟨f, g1, k1, k2, k3⟩ := rdSl_sound h hxy hx
    have hst : ∀ x ∈ st, x.1 ≠ .t d ∧ ∀ n ∈ ([] : List Nat), x.1 ≠ .t n := fun x hx => ⟨fun e => (sep_spec hsep).2 (by rw [← e]; exact k3 _ hx), by simp⟩
    have main : ∃ u, (execOp a.eval o).run P w = .ok (.value u) w ∧ RepL w (XS E w φ) (XB w φ st) [.sl md e' ((rows.drop l.toNat).take (q.toNat - l.toNat))] [u] (fun _ => 0) := by
      generalize a.eval y = u0 at g1 run
      cases g1 with
      | sc hs =>
        cases rows <;> simp [Scal] at hs
        have hs0 := hs
        obtain ⟨bo, rfl⟩ := hs.from
        have r0 := run bo 0 rfl (by simp)
        refine ⟨_, r0, ?_⟩
        simp at b3
        have l0 : l.toNat = 0 := by omega
        have q0 : q.toNat = 0 := by omega
        simp only [l0, q0, Nat.sub_self, if_true, List.drop_zero, List.take_nil]
        exact .sc hs0 .nil
      | own => exact absurd rfl hown
      | sh hl' hc he' hr hX hcv hh t =>
        subst hl'
        obtain ⟨o2, e1, e2⟩ := base hr hcv hh.length hc
        refine ⟨_, run _ _ rfl hc, ?_⟩
        rw [e1]
        obtain ⟨f3, r1, r2⟩ := hh.sub (l.toNat * e') ((q.toNat - l.toNat) * e')
        rw [← rows_part hr (by omega)] at r1
        exact .sh hlen (by omega) he' (fun r' hr' => hr r' (List.mem_of_mem_drop (List.mem_of_mem_take hr'))) hX e2 (r1.cast (fun x => Nat.eq_zero_of_le_zero (r2 x))) .nil
      | bor hl' hc he' hr hX hcv hh t =>
        subst hl'
        obtain ⟨o2, e1, e2⟩ := base hr hcv hh.length hc
        refine ⟨_, run _ _ rfl hc, ?_⟩
        rw [e1]
        obtain ⟨f3, r1, r2⟩ := hh.sub (l.toNat * e') ((q.toNat - l.toNat) * e')
        rw [← rows_part hr (by omega)] at r1
        exact .bor hlen (by omega) he' (fun r' hr' => hr r' (List.mem_of_mem_drop (List.mem_of_mem_take hr'))) hX e2 (r1.cast (fun x => Nat.eq_zero_of_le_zero (r2 x))) .nil
    obtain ⟨u, hrun, hrep⟩ := main
    have := OpSound.val (P := P) (tv := .pl false [.sl md e' ((rows.drop l.toNat).take (q.toNat - l.toNat))]) h hC hd hN hrun (.refl w) (L := []) (by simp) (f := fun _ => 0) (by simp) (by simp) hst k1 k2 ⟨[u], hrep, by simp⟩
    simpa [dropL] using this

theorem ssub_sound {Γ : Gam} (h : RelW E v (tmv a) w β φ) (hC : ∀ b, E.C b → b < E.w0.heap.size) {d : Nat} {x : Opr} {lo hi : Option Opr} {y : Operand} {lo' hi' : Option Operand} {t : TypeId}
    (hop : o.op = .slice t y lo' hi' none) (hd : o.dst = some d) (hN : d < a.tmps.size) (ht : P.underlying t = some .string)
    (hxy : oprOk x y = true) (h1 : optOk lo lo' = true) (h2 : optOk hi hi' = true) {ws : List (Res × Val)} (hf : fop Γ v (.ssub d x lo hi) = some ws) : OpSound P E (appl v ws) o a w := by
  obtain ⟨c, hc, hf1⟩ := ob_some hf
  try dsimp only at hf1
  split at hf1 <;> try (simp at hf1; done)
  rename_i s
  obtain ⟨l, hl, hf2⟩ := ob_some hf1
  obtain ⟨q, hq, hf3⟩ := ob_some hf2
  try dsimp only at hf3
  split at hf3 <;> simp only [Option.some.injEq, reduceCtorEq] at hf3
  rename_i hb
  subst hf3
  obtain ⟨b1, b2, b3⟩ := hb
  have hz := sca_val h hxy hc rfl
  simp only [Scal] at hz
  have sz : (⟨s.toArray⟩ : ByteArray).size = s.length := rfl
  have hbr := bounds_run (P := P) (cap := s.length) h h1 h2 hl hq b1 b2 b3 (Nat.le_refl _) false
  have hex : (⟨s.toArray⟩ : ByteArray).extract l.toNat q.toNat = ⟨((s.drop l.toNat).take (q.toNat - l.toNat)).toArray⟩ := by
    ext1
    simp [List.extract_eq_take_drop]
  refine .plain h hC hd hN (u := .string ⟨((s.drop l.toNat).take (q.toNat - l.toNat)).toArray⟩) ?_ rfl
  simp [execOp, hop, hz, Instr.sliceAt, run_underlying ht, Instr.slice, sz, hbr, hex]

/-! ### What makes memory -/

theorem heap_alloc (w : World) (ob : Obj) {b : Nat} (h : b < w.heap.size) : (w.alloc ob).heap[b]? = w.heap[b]? := by
  show (w.heap.push ob)[b]? = _
  rw [Array.getElem?_push, if_neg (by omega)]
theorem cells_new (w : World) (vals : List Value) (t : TypeId) : Cells (w.alloc (.cells vals.toArray t)) w.heap.size 0 vals := fun j hj => by
  rw [World.cell?_alloc_new]; simp [hj]
theorem avail_new (w : World) (vals : List Value) (t : TypeId) (n : Nat) (hn : n ≤ vals.length) : Avail (w.alloc (.cells vals.toArray t)) w.heap.size 0 n :=
  ⟨fun j hj => by rw [World.cell?_alloc_new, World.frozen?_alloc_new]; simp; omega, .inr fun k => by rw [World.frozen?_alloc_new]⟩

/-- The step that makes a box of a slot's own: the pointer in the slot, the cells behind it. -/
theorem RelW.boxed (h : RelW E v (tmv a) w β φ) (hC : ∀ b, E.C b → b < E.w0.heap.size) {d : Nat} (hnb : v (.b d) = .nope) {L : List Nat} (hdL : d ∉ L) {w1 w' : World} (hw1 : Still w w1) {vals : List Value} {t : TypeId} (hw : w' = w1.alloc (.cells vals.toArray t))
    {cs : List AC} {f : Foot} (hf1 : ∀ b, f b ≤ 1) (hsrc : ∀ b, f b ≠ 0 → ∃ n ∈ L, φ (.t n) b ≠ 0) (hrep : RepL w (XS E w φ) (XB w φ []) cs vals f)
    {tm' : Nat → Value} (htm : ∀ n, tm' n = if n = d then .pointer (some ⟨w.heap.size, 0, none⟩) else tmv a n) :
    ∃ β' φ', RelW E (appl v (putT v d [] (.ptr (.b d) [] 0) ++ (.b d, .b cs) :: dropL v L)) tm' w' β' φ' := by
  obtain ⟨e1, e2, e3, e4⟩ := hw1
  have hsz : w1.heap.size = w.heap.size := by rw [e1]
  have hp := PutD.of v d [] (.ptr (.b d) [] 0) L hdL
  -- the valuation
  have hv : ∀ r, appl v (putT v d [] (.ptr (.b d) [] 0) ++ (.b d, .b cs) :: dropL v L) r = if r = .b d then .b cs else appl v (putT v d [] (.ptr (.b d) [] 0) ++ dropL v L) r := by
    intro r
    rw [appl_append, appl_append, appl]
    have h1 := appl_dropL v L (fun x => if x = .b d then nrm (.b d) (.b cs) else appl v (putT v d [] (.ptr (.b d) [] 0)) x)
    have h2 := appl_dropL v L (appl v (putT v d [] (.ptr (.b d) [] 0)))
    cases r with
    | t n => rw [h1.1, h2.1]; simp
    | b n => rw [h1.2.1, h2.2.1]; by_cases e : n = d <;> simp [e, nrm]
    | v q => rw [h1.2.2, h2.2.2]; simp
  generalize appl v (putT v d [] (.ptr (.b d) [] 0) ++ (.b d, .b cs) :: dropL v L) = v' at hv
  have hver : ∀ q, ver v' q = ver (appl v (putT v d [] (.ptr (.b d) [] 0) ++ dropL v L)) q := fun q => by unfold ver; rw [hv]; simp
  let g : Foot := fun x => (if x = w.heap.size then 1 else 0) + f x
  let N : List (Res × Foot) := (.b d, g) :: slotN (fun _ => 0) d L
  have hN : ∀ r, r ∈ N.map (·.1) ↔ r = .b d ∨ r = .t d ∨ ∃ n ∈ L, r = .t n := fun r => by
    show r ∈ (Res.b d :: (slotN _ d L).map (·.1)) ↔ _
    rw [List.mem_cons, slotN_fst]
  have hfs : ∀ b, f b ≠ 0 → b < w.heap.size := fun b hb => by obtain ⟨n, _, h2⟩ := hsrc b hb; exact (h.dom _ b h2).1
  have hg1 : ∀ b, g b ≤ 1 := fun b => by
    show (if b = w.heap.size then 1 else 0) + f b ≤ 1
    have := hf1 b
    by_cases e : b = w.heap.size
    · have : f b = 0 := Classical.byContradiction fun h => by have := hfs b h; omega
      simp [e] at *; omega
    · simp [e]; exact this
  have memN : ∀ x ∈ N, x = (.b d, g) ∨ x.2 = fun _ => 0 := by
    intro x hx
    rcases List.mem_cons.1 hx with e | hx
    · exact .inl e
    · simp only [slotN, List.mem_cons, List.mem_map] at hx
      rcases hx with rfl | ⟨n, _, rfl⟩ <;> exact .inr rfl
  have stp : Stp E v v' (tmv a) tm' w w' β (fun n => if n = d then w.heap.size else β n) φ (upF φ N) (· ∈ N.map (·.1)) := by
    refine Stp.of h hC N ?_ ?_ ?_ ?_ ?_ ?_ ?_ ?_ ?_ ?_ ?_ ?_ ?_ ?_
    · intro x hx b
      rcases memN x hx with rfl | e
      · exact hg1 b
      · rw [e]; exact Nat.zero_le _
    · intro x hx y hy hne b hb
      rcases memN x hx with rfl | e
      · rcases memN y hy with rfl | e
        · exact absurd rfl hne
        · rw [e]
      · rw [e] at hb; exact absurd rfl hb
    · intro x hx b hb
      rcases memN x hx with rfl | e
      · have hb' : (if b = w.heap.size then 1 else 0) + f b ≠ 0 := hb
        by_cases e : b = w.heap.size
        · right; subst e; rw [hw]; simp [hsz]
        · left
          simp [e] at hb'
          obtain ⟨n, h1, h2⟩ := hsrc b hb'
          exact ⟨.t n, (hN _).2 (.inr (.inr ⟨n, h1, rfl⟩)), h2⟩
      · rw [e] at hb; exact absurd rfl hb
    · intro r hq hr
      rw [hN] at hr
      rw [hv, if_neg (fun e => hr (.inl e))]
      exact hp.same r hq (fun e => hr (.inr (.inl e))) (fun n hn e => hr (.inr (.inr ⟨n, hn, e⟩)))
    · intro q; rw [hver]; exact hp.vers q
    · intro q hq hf
      rw [hN] at hq
      rw [hver]
      cases q with
      | b m =>
        simp [Rt.res] at hq
        subst hq
        simp [Rt.res, hnb, isNope] at hf
      | t m =>
        simp [Rt.res] at hq
        rcases hq with rfl | hm
        · exact hp.bump1 hf
        · exact hp.bump2 _ hm
    · intro n hn
      rw [hN] at hn
      rw [htm, if_neg (fun e => hn (.inr (.inl (by rw [e]))))]
    · intro n hn
      rw [hN] at hn
      exact if_neg (fun e => hn (.inl (by rw [e])))
    · intro n hn hf
      rw [hN] at hn
      simp at hn
      subst hn
      simp [hnb, isNope] at hf
    · intro b hb _
      rw [hw, heap_alloc _ _ (by omega), e1]
    · rw [hw]; exact e2
    · rw [hw]; exact e3
    · rw [hw]; exact e4
    · rw [hw]; simp; omega
  refine ⟨_, _, h.step stp ?_ ?_ ?_ ?_⟩
  · intro n st tv hn hv' p hp'
    rw [hN] at hn
    rw [hv] at hv'
    simp only [reduceCtorEq, if_false, false_or, Res.t.injEq, exists_eq_right'] at hn hv'
    rcases hn with rfl | hm
    · rw [hp.here] at hv'; simp at hv'; obtain ⟨rfl, rfl⟩ := hv'; simp at hp'
    · rw [hp.gone n hm] at hv'; simp at hv'
  · intro n st tv hn hv' _ p hp'
    rw [hN] at hn
    rw [hv] at hv'
    simp only [reduceCtorEq, if_false, false_or, Res.t.injEq, exists_eq_right'] at hn hv'
    rcases hn with rfl | hm
    · rw [hp.here] at hv'; simp at hv'; obtain ⟨rfl, rfl⟩ := hv'; simp at hp'
    · rw [hp.gone n hm] at hv'; simp at hv'
  · intro n st tv hn hv' _
    rw [hN] at hn
    rw [hv] at hv'
    simp only [reduceCtorEq, if_false, false_or, Res.t.injEq, exists_eq_right'] at hn hv'
    rcases hn with rfl | hm
    · rw [hp.here] at hv'
      simp at hv'
      obtain ⟨rfl, rfl⟩ := hv'
      refine ⟨by simp [Rt.res, hv, isNope], .inl rfl, w.heap.size, 0, by rw [htm, if_pos rfl], ?_⟩
      simp [Reach, Along, N, upF, g, Rt.res]
    · rw [hp.gone n hm] at hv'; simp at hv'
  · intro n cs' hn hv'
    rw [hN] at hn
    simp at hn
    subst hn
    rw [hv] at hv'
    simp at hv'
    subst hv'
    simp only [if_true]
    refine ⟨vals, f, by rw [hw, ← hsz]; exact cells_new _ _ _, by rw [hw, ← hsz]; exact avail_new _ _ _ _ (Nat.le_refl _), ?_, fun x => by simp [N, upF, g]⟩
    refine hrep.frame stp.size stp.xs (stp.xb (by simp)) (fun b hb => ?_)
    rw [hw, heap_alloc _ _ (by have := hfs b hb; omega), e1]

theorem wp_of (next : Act → World → Prop) (Q : Exit → Act → World → Prop) {d : Nat} {v' : Res → Val} (hd : o.dst = some d) (hN : d < a.tmps.size) {u : Value} {w' : World} (hrun : (execOp a.eval o).run P w = .ok (.value u) w')
    (hrel : ∀ tm', (∀ n, tm' n = if n = d then u else tmv a n) → ∃ β φ, RelW E v' tm' w' β φ) (hn : ∀ a' w', Good E v' a a' w' → Wrote o a a' → next a' w') : o.wp P a w next Q :=
  wp_val hd hrun (hn _ _ (Good.put hN hrel) (Wrote.put hd u))

/-- Zero values. -/
def zeroOk (P : Program) (t : TypeId) (cs : List AC) : Bool :=
  match (P.info? t).bind (·.zero) with
  | some z => z.cells.toList.length == cs.length && (z.cells.toList.zip cs).all fun (u, c) => constOk c u
  | none => false
theorem zeroOk_spec {t : TypeId} {cs : List AC} (h : zeroOk P t cs = true) (Xs X : Nat → Prop) (w : World) : ∃ z, (zeroValue t).run P w = .ok z w ∧ RepL w Xs X cs z.cells.toList (fun _ => 0) := by
  unfold zeroOk at h
  split at h
  · rename_i z hz
    obtain ⟨i, hi, hz⟩ := Option.bind_eq_some_iff.1 hz
    refine ⟨z, by simp [zeroValue, typeInfo, hi, hz], ?_⟩
    simp only [Bool.and_eq_true, beq_iff_eq] at h
    obtain ⟨h1, h2⟩ := h
    generalize z.cells.toList = us at h1 h2
    induction us generalizing cs with
    | nil =>
      cases cs with
      | nil => exact .nil
      | cons => simp at h1
    | cons u us ih =>
      cases cs with
      | nil => simp at h1
      | cons c cs =>
        simp at h1 h2
        exact .sc (constOk_scal h2.1) (ih h1 (by simpa using h2.2))
  · simp at h

theorem alloc_sound {Γ : Gam} (h : RelW E v (tmv a) w β φ) (hC : ∀ b, E.C b → b < E.w0.heap.size) {d : Nat} {cs : List AC} {t : TypeId} (hop : o.op = .alloc t) (hd : o.dst = some d) (hN : d < a.tmps.size)
    (hz : zeroOk P t cs = true) {ws : List (Res × Val)} (hf : fop Γ v (.alloc d cs) = some ws) : OpSound P E (appl v ws) o a w := by
  simp only [fop] at hf
  split at hf <;> simp only [Option.some.injEq, reduceCtorEq] at hf
  rename_i hnb
  subst hf
  intro next Q hn
  obtain ⟨z, hzr, hrep⟩ := zeroOk_spec (P := P) hz (XS E w φ) (XB w φ []) w
  refine wp_of (w' := w.alloc (.cells z.cells t)) next Q hd hN (u := .pointer (some ⟨w.heap.size, 0, none⟩)) ?_ ?_ hn
  · simp [execOp, hop, Instr.alloc, hzr, newVar, newRow, newObj]
    rfl
  · intro tm' htm
    obtain ⟨β', φ', hr⟩ := h.boxed hC hnb (L := []) (by simp) (.refl w) (vals := z.cells.toList) (t := t) (w' := w.alloc (.cells z.cells t)) (by simp) (f := fun _ => 0) (by simp) (by simp) hrep htm
    exact ⟨β', φ', by simpa [dropL] using hr⟩

theorem box_sound {Γ : Gam} (h : RelW E v (tmv a) w β φ) (hC : ∀ b, E.C b → b < E.w0.heap.size) {d : Nat} {x : Opr} {y : Operand} {t : TypeId} (hop : o.op = .box t y) (hd : o.dst = some d) (hN : d < a.tmps.size)
    (hxy : oprOk x y = true) (hsep : sep d x = true) {ws : List (Res × Val)} (hf : fop Γ v (.box d x) = some ws) : OpSound P E (appl v ws) o a w := by
  simp only [fop] at hf
  split at hf <;> try (simp at hf; done)
  rename_i hnb
  obtain ⟨⟨st, tv, ws1⟩, h1, h2⟩ := ob_some hf
  try dsimp only at h2
  split at h2 <;> simp only [Option.some.injEq, reduceCtorEq] at h2
  rename_i _ g cs ws2 e1
  subst h2
  simp only [Prod.mk.injEq] at e1
  obtain ⟨rfl, rfl, rfl⟩ := e1
  obtain ⟨rfl, f, i1, _⟩ := opr_sound h hxy h1
  obtain ⟨vals, r1, hu⟩ := i1.rep
  intro next Q hn
  have hcells : (a.eval y).cells = vals.toArray := by
    cases g with
    | true => simp at hu; rw [hu]; rfl
    | false =>
      simp at hu
      subst hu
      have := r1.one (a.eval y) (by simp)
      cases hy : a.eval y <;> simp_all [Value.cells, Value.oneCell']
  refine wp_of (w' := w.alloc (.cells vals.toArray t)) next Q hd hN (u := .pointer (some ⟨w.heap.size, 0, none⟩)) ?_ ?_ hn
  · simp [execOp, hop, Instr.box, newVar, newRow, newObj, hcells]
    rfl
  · intro tm' htm
    exact h.boxed hC hnb (sep_spec hsep).1 (.refl w) rfl i1.le1 i1.src r1 htm
end
end Go.Fw
namespace Go.Fw
open Go

section
variable {P : Program} {E : Env} {v : Res → Val} {o : Oper} {a : Act} {w : World} {β : Nat → Nat} {φ : Res → Foot}

theorem dropL_append (v : Res → Val) (A B : List Nat) : dropL v (A ++ B) = dropL v A ++ dropL v B := by
  induction A with
  | nil => rfl
  | cons n A ih => simp [dropL, ih]

def oprsL : List (Nat × Nat × Opr) → List Nat
  | [] => []
  | (_, _, x) :: ps => oprL x ++ oprsL ps
def oprsR : List (Nat × Nat × Opr) → List Rt
  | [] => []
  | (_, _, x) :: ps => oprR x ++ oprsR ps
def psOk (place : Nat → Option (Nat × Nat)) : List (Nat × Nat × Opr) → List (Nat × Operand) → Bool
  | [], [] => true
  | (o, n, x) :: ps, (i, y) :: qs => oprOk x y && place i == some (o, n) && psOk place ps qs
  | _, _ => false

theorem fill_step (zv vals : List Value) (off : Nat) (hl : off + vals.length ≤ zv.length) :
    ((vals.toArray.zipIdx.foldl (fun cs (x : Value × Nat) => cs.setIfInBounds (off + x.2) x.1) zv.toArray)) = (zv.take off ++ (vals ++ zv.drop (off + vals.length))).toArray := by
  suffices H : ∀ (vs : List Value) (k : Nat) (z : List Value), off + k + vs.length ≤ z.length →
      ((vs.zipIdx k).foldl (fun cs (x : Value × Nat) => cs.setIfInBounds (off + x.2) x.1) z.toArray) = (z.take (off + k) ++ (vs ++ z.drop (off + k + vs.length))).toArray by
    have := H vals 0 zv (by omega)
    simpa [← Array.foldl_toList] using this
  intro vs
  induction vs with
  | nil => intro k z hz; simp
  | cons u vs ih =>
    intro k z hz
    simp only [List.zipIdx_cons, List.foldl_cons, List.length_cons] at *
    rw [List.setIfInBounds_toArray, ih (k + 1) _ (by simp; omega)]
    congr 1
    have h1 : off + k < z.length := by omega
    rw [show off + (k + 1) = off + k + 1 by omega, List.set_eq_take_append_cons_drop, if_pos h1, List.take_append, List.drop_append]
    simp only [List.length_take, Nat.min_eq_left (Nat.le_of_lt h1)]
    rw [List.take_of_length_le (by simp; omega), show off + k + 1 - (off + k) = 1 by omega]
    simp only [List.take_succ_cons, List.take_zero, List.append_assoc, List.singleton_append]
    rw [List.drop_of_length_le (by simp; omega), show off + k + 1 + vs.length - (off + k) = vs.length + 1 by omega]
    simp only [List.drop_succ_cons, List.nil_append, List.drop_drop, List.cons_append]
    rw [show off + k + 1 + vs.length = off + k + (vs.length + 1) by omega]

theorem cells_of {Xs X : Nat → Prop} {g : Bool} {cs : List AC} {vals : List Value} {u : Value} {f : Foot} (h : RepL w Xs X cs vals f) (hu : if g then u = .agg vals.toArray else vals = [u]) : u.cells = vals.toArray := by
  cases g with
  | true => simp at hu; rw [hu]; rfl
  | false =>
    simp at hu
    subst hu
    have := h.one u (by simp)
    cases u <;> simp_all [Value.cells, Value.oneCell']

theorem XB_mono {st st' : Stamps} (h : ∀ p ∈ st, p ∈ st') (b : Nat) (hb : XB w φ st b) : XB w φ st' b := ⟨hb.1, fun r hr => let ⟨p, hp, e⟩ := hb.2 r hr; ⟨p, h p hp, e⟩⟩

/-- Parts that are put over zero cells. -/
theorem parts_sound (h : RelW E v (tmv a) w β φ) (place : Nat → Option (Nat × Nat)) : ∀ {ps : List (Nat × Nat × Opr)} {qs : List (Nat × Operand)}, psOk place ps qs = true → (oprsL ps).Nodup →
    ∀ {st : Stamps} {ps' : List (Nat × List AC)} {ws : List (Res × Val)}, oprs v ps = some (st, ps', ws) →
    ws = dropL v (oprsL ps) ∧ Live v st ∧ (∀ p ∈ st, isNope (v p.1.res) = false) ∧ (∀ p ∈ st, p.1 ∈ oprsR ps) ∧
      ∃ F : Foot, (∀ b, F b ≤ 1) ∧ (∀ b, F b ≠ 0 → ∃ n ∈ oprsL ps, φ (.t n) b ≠ 0) ∧
        ∀ (stA : Stamps), (∀ p ∈ st, p ∈ stA) → ∀ {z cs : List AC} {zv : List Value} {g : Foot}, RepL w (XS E w φ) (XB w φ stA) z zv g → fillP z ps' = some cs →
          ∃ zv' f, Instr.fill place zv.toArray (qs.map fun x => (x.1, a.eval x.2)) = some zv'.toArray ∧ RepL w (XS E w φ) (XB w φ stA) cs zv' f ∧ (∀ b, f b ≤ g b + F b)
  | [], [], _, _, st, ps', ws, he => by
    simp only [oprs, Option.some.injEq, Prod.mk.injEq] at he
    obtain ⟨rfl, rfl, rfl⟩ := he
    refine ⟨rfl, by intro p hp; simp at hp, by simp, by simp, fun _ => 0, by simp, by simp, fun stA _ z cs zv g hz hf => ?_⟩
    simp only [fillP, Option.some.injEq] at hf
    subst hf
    exact ⟨zv, g, rfl, hz, fun b => by omega⟩
  | (off, n, x) :: ps, (i, y) :: qs, hok, hnd, st, ps', ws, he => by
    simp only [psOk, Bool.and_eq_true, beq_iff_eq] at hok
    obtain ⟨⟨hxy, hpl⟩, hok⟩ := hok
    simp only [oprs] at he
    obtain ⟨⟨s1, tv, w1⟩, h1, he1⟩ := ob_some he
    try dsimp only at he1
    split at he1 <;> try (simp at he1; done)
    rename_i _ s2 gg cs0 w2 e1
    simp only [Prod.mk.injEq] at e1
    obtain ⟨rfl, rfl, rfl⟩ := e1
    split at he1 <;> try (simp at he1; done)
    rename_i hlen
    obtain ⟨⟨s3, ps3, w3⟩, h3, he2⟩ := ob_some he1
    simp only [Option.some.injEq, Prod.mk.injEq] at he2
    obtain ⟨rfl, rfl, rfl⟩ := he2
    simp only [oprsL] at hnd
    rw [List.nodup_append] at hnd
    obtain ⟨hn1, hn2, hn3⟩ := hnd
    obtain ⟨rfl, f0, i0, _⟩ := opr_sound h hxy h1
    obtain ⟨rfl, l3, g3, r3, F, F1, F2, F3⟩ := parts_sound h place hok hn2 h3
    have dis : ∀ b, f0 b ≠ 0 → F b = 0 := fun b hb => Classical.byContradiction fun hF => by
      obtain ⟨n1, m1, k1⟩ := i0.src b hb
      obtain ⟨n2, m2, k2⟩ := F2 b hF
      have := h.uniq _ _ b k1 k2
      simp at this
      exact hn3 n1 m1 n2 m2 this
    refine ⟨by rw [oprsL, dropL_append], ?_, ?_, ?_, fun b => f0 b + F b, fun b => ?_, fun b hb => ?_, ?_⟩
    · intro p hp
      rcases List.mem_append.1 hp with hp | hp
      · exact i0.live p hp
      · exact l3 p hp
    · intro p hp
      rcases List.mem_append.1 hp with hp | hp
      · exact i0.here p hp
      · exact g3 p hp
    · intro p hp
      rw [oprsR, List.mem_append]
      rcases List.mem_append.1 hp with hp | hp
      · exact .inl (i0.root p hp)
      · exact .inr (r3 p hp)
    · have := i0.le1 b
      have := F1 b
      by_cases hb : f0 b = 0
      · simp only [hb]; omega
      · have := dis b hb; simp only; omega
    · simp only at hb
      rw [oprsL]
      by_cases h0 : f0 b = 0
      · obtain ⟨n2, m2, k2⟩ := F2 b (by omega)
        exact ⟨n2, List.mem_append.2 (.inr m2), k2⟩
      · obtain ⟨n1, m1, k1⟩ := i0.src b h0
        exact ⟨n1, List.mem_append.2 (.inl m1), k1⟩
    · intro stA hA z cs zv g hz hf
      simp only [fillP] at hf
      split at hf <;> try (simp at hf; done)
      rename_i hle
      obtain ⟨us, q1, q2⟩ := i0.rep
      have hc := cells_of q1 q2
      have ul := q1.length
      have zl := hz.length
      -- the cells of z around the part
      have hz' : RepL w (XS E w φ) (XB w φ stA) (z.take off ++ ((z.drop off).take cs0.length ++ z.drop (off + cs0.length))) zv g := by
        rw [← List.drop_drop, List.take_append_drop, List.take_append_drop]; exact hz
      obtain ⟨v1, v2, φ1, φ2, rfl, e1, e2, es⟩ := RepL.split _ _ hz'
      obtain ⟨v2, v3, φ3, φ4, rfl, e3, e4, es'⟩ := RepL.split _ _ e2
      have l1 : v1.length = off := by rw [e1.length, List.length_take]; omega
      have l2 : v2.length = cs0.length := by rw [e3.length, List.length_take, List.length_drop]; omega
      have step : ∀ rest, Instr.fill place (v1 ++ (v2 ++ v3)).toArray ((i, a.eval y) :: rest) = Instr.fill place (v1 ++ (us ++ v3)).toArray rest := by
        intro rest
        simp only [Instr.fill, hpl, hc]
        have hsz : ¬ (us.toArray.size ≠ n ∨ off + us.toArray.size > (v1 ++ (v2 ++ v3)).toArray.size) := by
          simp only [List.size_toArray]
          omega
        rw [if_neg (by simpa using hsz)]
        congr 1
        have := fill_step (v1 ++ (v2 ++ v3)) us off (by simp; omega)
        rw [this, List.take_left' l1, ← List.append_assoc v1 v2 v3, List.drop_left' (by simp; omega)]
      have q1' : RepL w (XS E w φ) (XB w φ stA) cs0 us f0 := q1.weak (fun _ h => h) (XB_mono fun p hp => hA p (List.mem_append.2 (.inl hp)))
      obtain ⟨zv', f, k1, k2, k3⟩ := F3 stA (fun p hp => hA p (List.mem_append.2 (.inr hp))) (e1.append (q1'.append e4)) hf
      refine ⟨zv', f, ?_, k2, fun b => ?_⟩
      · rw [List.map_cons, step]; exact k1
      · have := k3 b; have := es b; have := es' b; dsimp only at *; omega

def structPlaces (P : Program) (t : TypeId) : Option (List (Nat × Nat)) :=
  match P.underlying t with
  | some (.struct fs) => fs.toList.mapM (fun f => (P.info? f.type).map fun i => (f.offset, i.size))
  | _ => none

theorem build_sound {Γ : Gam} (h : RelW E v (tmv a) w β φ) (hC : ∀ b, E.C b → b < E.w0.heap.size) {d : Nat} {z : List AC} {ps : List (Nat × Nat × Opr)} {qs : Array (Nat × Operand)} {t : TypeId} {pl : List (Nat × Nat)}
    (hop : o.op = .build t qs) (hd : o.dst = some d) (hN : d < a.tmps.size) (hz : zeroOk P t z = true) (hpl : structPlaces P t = some pl) (hps : psOk (pl.toArray[·]?) ps qs.toList = true)
    (hnd : (oprsL ps).Nodup) (hdL : d ∉ oprsL ps) (hdR : .t d ∉ oprsR ps) (hRL : ∀ n ∈ oprsL ps, .t n ∉ oprsR ps) {ws : List (Res × Val)} (hf : fop Γ v (.build d z ps) = some ws) : OpSound P E (appl v ws) o a w := by
  obtain ⟨⟨st, ps', ws1⟩, h1, hf1⟩ := ob_some hf
  obtain ⟨cs, h2, hf2⟩ := ob_some hf1
  simp only [Option.some.injEq] at hf2
  subst hf2
  obtain ⟨rfl, l3, g3, r3, F, F1, F2, F3⟩ := parts_sound h _ hps hnd h1
  obtain ⟨zz, hzr, hrep⟩ := zeroOk_spec (P := P) hz (XS E w φ) (XB w φ st) w
  obtain ⟨zv', f, k1, k2, k3⟩ := F3 st (fun _ h => h) hrep h2
  have hbuilt : P.built t (qs.map fun (i, x) => (i, a.eval x)).toList = some zv'.toArray := by
    unfold structPlaces at hpl
    split at hpl <;> try (simp at hpl; done)
    rename_i fs hu
    unfold zeroValue typeInfo at hzr
    simp only [Sem.run_bind, run_program] at hzr
    cases hi : P.info? t with
    | none => simp [hi] at hzr
    | some it =>
      simp only [hi, Sem.run_pure, Result.andThen_ok] at hzr
      cases hiz : it.zero with
      | none => simp [hiz] at hzr
      | some z0 =>
        simp [hiz] at hzr
        subst hzr
        simp only [Program.built, hi, hu, hiz, hpl]
        simpa using k1
  have hrun := run_build (P := P) w t (qs.map fun (i, x) => (i, a.eval x)) zv'.toArray hbuilt
  refine .val h hC hd hN (u := .agg zv'.toArray) (by simp only [execOp, hop, Sem.run_bind, hrun]; rfl) (.refl w) hdL (f := f) (fun b => by have := k3 b; have := F1 b; omega) (fun b hb => F2 b (by have := k3 b; omega)) ?_ l3 g3 ⟨zv', k2, by simp⟩
  intro p hp
  have := r3 p hp
  exact ⟨fun e => hdR (e ▸ this), fun n hn e => hRL n hn (e ▸ this)⟩
end
end Go.Fw
