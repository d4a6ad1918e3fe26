/- The framework, part O: loads that take or freeze what they load, and stores. Conditions: none. -/
import Derived.Test.YtmbkipogmaimaaaGreatDoorFwN
namespace Go.Fw
open Go

section
variable {P : Program} {E : Env} {v : Res → Val} {o : Oper} {a : Act} {w : World} {β : Nat → Nat} {φ : Res → Foot}

theorem upF_zero {N : List (Res × Foot)} {b : Nat} (hN : ∀ x ∈ N, x.2 b ≠ 0 → ∃ r, φ r b ≠ 0) (hb : ∀ r, φ r b = 0) (r : Res) : upF φ N r b = 0 := by
  induction N with
  | nil => exact hb r
  | cons x N ih =>
    obtain ⟨s, f⟩ := x
    rw [upF]
    split
    · exact Classical.byContradiction fun e => by obtain ⟨r', h1⟩ := hN (s, f) (by simp) e; exact h1 (hb r')
    · exact ih (fun y hy => hN y (by simp [hy]))

theorem RootIs.weak {Xs Xb Xs' Xb' : Nat → Prop} {tm : Nat → Value} {q : Rt} {cs : List AC} {f : Foot} (h : RootIs w Xs Xb tm β cs f q) (hs : ∀ b, Xs b → Xs' b) (hb : ∀ b, Xb b → Xb' b) : RootIs w Xs' Xb' tm β cs f q := by
  cases q with
  | b n => obtain ⟨vals, ψ, h1, h2, h3, h4⟩ := h; exact ⟨vals, ψ, h1, h2, h3.weak hs hb, h4⟩
  | t n => obtain ⟨c, h1, h2⟩ := h; exact ⟨c, h1, h2.weak hs hb⟩
theorem RootIs.tm {Xs Xb : Nat → Prop} {tm tm' : Nat → Value} {q : Rt} {cs : List AC} {f : Foot} (h : RootIs w Xs Xb tm β cs f q) (ht : ∀ n, q = .t n → tm' n = tm n) : RootIs w Xs Xb tm' β cs f q := by
  cases q with
  | b n => exact h
  | t n => obtain ⟨c, h1, h2⟩ := h; exact ⟨c, h1, by rw [ht n rfl]; exact h2⟩
theorem RootIs.keep {Xs Xb : Nat → Prop} {tm : Nat → Value} {q : Rt} {cs : List AC} {f : Foot} (h : RootIs w Xs Xb tm β cs f q) (n : Nat) (hq : q = .b n) : f (β n) ≠ 0 := by
  subst hq
  obtain ⟨vals, ψ, h1, h2, h3, h4⟩ := h
  rw [h4]; simp

theorem gone_rep {Xs X : Nat → Prop} : ∀ {vs : List Value}, (∀ u ∈ vs, u.oneCell' = true) → RepL w Xs X (List.replicate vs.length .gone) vs (fun _ => 0)
  | [], _ => .nil
  | u :: vs, h => by
    rw [List.length_cons, List.replicate_succ]
    exact .sc (h u (by simp)) (gone_rep fun u hu => h u (by simp [hu]))

/-- A load that takes what it loads out of its place, or has it held by all from now on. -/
theorem loadm_sound {Γ : Gam} (h : RelW E v (tmv a) w β φ) (hC : ∀ b, E.C b → b < E.w0.heap.size) {d p n : Nat} {rs : List Rt} {r : Option Rt} {g : Bool} {m : Lm} {t : TypeId}
    (hop : o.op = .load t (.tmp p)) (hd : o.dst = some d) (hN : d < a.tmps.size) (ht : tySize P t = some n) (hg : isAggB P t = some g) (h1 : g = false → n = 1)
    (hrs : rs.contains (.t d) = false) (hr : r ≠ some (.t d)) (hm : m = .mv ∨ m = .fz) {ws : List (Res × Val)} (hf : fop Γ v (.load d p rs r n g m) = some ws) : OpSound P E (appl v ws) o a w := by
  by_cases hvw : ∃ st cs, v (.t p) = .t st (.view cs)
  · obtain ⟨st, cs, hv⟩ := hvw
    have : fop Γ v (.load d p rs r n g .cp) = some ws := by rw [← hf]; simp only [fop, hv]
    exact load_sound h hC hop hd hN ht hg h1 hrs hr (by simp) this
  simp only [fop] at hf
  split at hf
  · rename_i st cs hv; exact absurd ⟨st, cs, hv⟩ hvw
  · rename_i st q path off hv
    split at hf <;> try (simp at hf; done)
    rename_i hc
    simp only [Bool.and_eq_true, beq_iff_eq] at hc
    obtain ⟨hst, hrq⟩ := hc
    obtain ⟨cs, hcs, hf2⟩ := ob_some hf
    obtain ⟨xs, hxs, hf3⟩ := ob_some hf2
    clear hf hf2
    try dsimp only at hf3
    split at hf3 <;> try (simp at hf3; done)
    rename_i hle
    by_cases hno : noOwnL (xs.take n) = true
    · rw [if_pos hno] at hf3
      have : fop Γ v (.load d p rs r n g .cp) = some ws := by
        simp only [fop, hv, hst, hrq, hcs, hxs, ob]
        simp [hle, hno]
        simpa using hf3
      exact load_sound h hC hop hd hN ht hg h1 hrs hr (by simp) this
    rw [if_neg hno] at hf3
    obtain ⟨k1, k2⟩ := stOk_spec hst
    obtain ⟨⟨r0, r1, b, o', e, hreach⟩, k3⟩ := h.slotRep hv k1
    have hqd : q ≠ .t d := fun e => hr (by rw [hrq, e])
    -- both ways at once: 'new' is what is left in the place, 'got' what comes to the slot
    have main : ∀ (new got : List AC) (cs' : List AC), new.length = n → setAt cs path off new = some cs' →
        (∀ (Xs' Xb' : Nat → Prop) (vs : List Value) (ψ : Foot), (∀ b, XS E w φ b → Xs' b) → (∀ b, XB w φ [] b → Xb' b) → vs.length = n → RepL w (XS E w φ) (XB w φ []) (xs.take n) vs ψ →
          (m = .fz → ∀ b, ψ b ≠ 0 → Xs' b) → RepL w Xs' Xb' new vs (fun _ => 0) ∧ RepL w Xs' Xb' got vs (if m = .fz then fun _ => 0 else ψ)) →
        OpSound P E (appl v (putC v q cs' ++ putT v d [] (.pl g got))) o a w := by
      intro new got cs' hnl hset hboth next Q hn
      obtain ⟨vs, ψ, s1, s2, s3, s4, s5⟩ := (h.root hcs).swap hreach hxs hset
      rw [hnl] at s2 s3
      obtain ⟨u, hrun, hu⟩ := loadAt_run (P := P) ht hg h1 s1 s2
      have hev : a.eval (.tmp p) = .pointer (some ⟨b, o', none⟩) := e
      have hdq := fun x hx => h.dom q.res x hx
      -- the footprints
      let fd : Foot := if m = .fz then fun _ => 0 else ψ
      have hfd : ∀ x, fd x ≤ ψ x := fun x => by show (if m = .fz then fun _ => 0 else ψ) x ≤ ψ x; split <;> simp
      refine wp_of next Q hd hN (u := u) (w' := w) (by simp [execOp, hop, hev, hrun]) ?_ hn
      intro tm' htm
      -- first, what it is with the elder sets: only for the footprint
      obtain ⟨f0, _, f2⟩ := s5 (fun b => XS E w φ b ∨ ψ b ≠ 0) (fun b => XB w φ [] b) _ (fun b hb => .inl hb) (fun _ hb => hb)
        (hboth (fun b => XS E w φ b ∨ ψ b ≠ 0) (fun b => XB w φ [] b) vs ψ (fun b hb => .inl hb) (fun _ hb => hb) s2 s3 (fun _ b hb => .inr hb)).1
      have hzero : ∀ b, (∀ r, φ r b = 0) → ∀ r, upF φ (placeN q f0 (some (d, g, got)) fd []) r b = 0 := fun b hb r => upF_zero (fun x hx hx0 => by
        refine ⟨q.res, ?_⟩
        rcases placeN_mem hx with rfl | ⟨d', _, rfl⟩ | ⟨n', hn', rfl⟩
        · have := f2 b; dsimp only at hx0; omega
        · have := hfd b; have := s4 b; dsimp only at hx0; omega
        · simp at hn') hb r
      have monoS : ∀ b, XS E w φ b → XS E w (upF φ (placeN q f0 (some (d, g, got)) fd [])) b := fun b hb => ⟨hb.1, hzero b hb.2.1, hb.2.2⟩
      have monoB : ∀ b, XB w φ [] b → XB w (upF φ (placeN q f0 (some (d, g, got)) fd [])) [] b := fun b hb =>
        ⟨hb.1, fun r hr => absurd (hzero b (fun r' => Classical.byContradiction fun e => by obtain ⟨_, h1, _⟩ := hb.2 r' e; simp at h1) r) hr⟩
      have frzS : m = .fz → ∀ b, ψ b ≠ 0 → XS E w (upF φ (placeN q f0 (some (d, g, got)) fd [])) b := fun hm0 b hb => by
        have hq0 : φ q.res b ≠ 0 := by have := s4 b; omega
        refine ⟨(hdq b hq0).1, fun r => ?_, (hdq b hq0).2.1⟩
        by_cases hr : r ∈ (placeN q f0 (some (d, g, got)) fd []).map (·.1)
        · obtain ⟨f, g1, g2⟩ := upF_mem (φ := φ) hr
          rw [g2]
          rcases placeN_mem g1 with e | ⟨d', _, e⟩ | ⟨n', hn', _⟩
          · simp only [Prod.mk.injEq] at e
            rw [e.2]
            have := f2 b
            have := h.le1 q.res b
            omega
          · simp only [Prod.mk.injEq] at e
            rw [e.2]
            show (if m = .fz then fun _ => 0 else ψ) b = 0
            rw [if_pos hm0]
          · simp at hn'
        · rw [upF_not hr]
          refine Classical.byContradiction fun e => hr ?_
          have := h.uniq r q.res b e hq0
          rw [placeN_fst]
          exact .inl this
      obtain ⟨b1, b2⟩ := hboth (XS E w (upF φ (placeN q f0 (some (d, g, got)) fd []))) (XB w (upF φ (placeN q f0 (some (d, g, got)) fd [])) []) vs ψ monoS monoB s2 s3 frzS
      obtain ⟨f1, q1, q2⟩ := s5 _ _ _ monoS monoB b1
      have hf01 : f1 = f0 := funext fun x => by have := q2 x; have := f2 x; omega
      subst hf01
      have key := h.place (w' := w) (tm' := tm') hC hcs (setAt_len _ hset) (L := []) (D := some (d, g, got)) (by simp) (by
          rintro d' ⟨a', c', e'⟩
          simp at e'
          obtain ⟨rfl, _, _⟩ := e'
          exact ⟨hqd, by simp⟩) (fq := f1) (fd := fd) (fun x => by have := f2 x; have := h.le1 q.res x; omega) (fun x => by have := hfd x; have := s4 x; have := h.le1 q.res x; omega)
        (fun x hx => by have := f2 x; have := hfd x; have := h.le1 q.res x; omega) (fun x hx => .inl (by have := f2 x; omega)) (fun x hx => .inl (by have := hfd x; have := s4 x; omega)) (fun n hn => q1.keep n hn)
        (fun _ _ _ _ => rfl) rfl rfl rfl (Nat.le_refl _) (fun n hn => by rw [htm, if_neg (fun e => hn ⟨g, got, by rw [e]⟩)]) (q1.tm (fun n e => by rw [htm, if_neg (fun e' => hqd (by rw [e, e']))]))
        (fun d' a' ds e' => by
          simp at e'
          obtain ⟨rfl, rfl, rfl⟩ := e'
          rw [htm, if_pos rfl]
          exact ⟨vs, b2, hu⟩)
      have e2 : putC v q cs' ++ (DP.ws v (some (d, g, got)) ++ dropL v []) = putC v q cs' ++ putT v d [] (.pl g got) := by simp [DP.ws, dropL]
      rw [e2] at key
      exact ⟨β, _, key⟩
    rcases hm with rfl | rfl
    · simp only at hf3
      obtain ⟨cs', hset, hf4⟩ := ob_some hf3
      simp only [Option.some.injEq] at hf4
      subst hf4
      refine main _ _ _ (by simp) hset fun Xs' Xb' vs ψ hs hb hl hrep _ => ⟨?_, by simpa using hrep.weak hs hb⟩
      subst hl
      exact gone_rep hrep.one
    · simp only at hf3
      obtain ⟨cs', hset, hf4⟩ := ob_some hf3
      simp only [Option.some.injEq] at hf4
      subst hf4
      refine main _ _ _ (by rw [frzL_length, List.length_take, Nat.min_eq_left hle]) hset fun Xs' Xb' vs ψ hs hb hl hrep hfz => ?_
      have := hrep.frz Xb' hs (hfz rfl)
      exact ⟨this, by simpa using this⟩
  · simp at hf

theorem storeAt_run {t : TypeId} {n : Nat} (ht : tySize P t = some n) {b o : Nat} {vals : List Value} {u : Value} (hu : u.cells = vals.toArray) (hl : vals.length = n) (ha : Avail w b o vals.length) (h1 : ∀ u ∈ vals, u.oneCell' = true) :
    (Instr.storeAt t (.pointer (some ⟨b, o, none⟩)) u).run P w = .ok () (w.setCells b o vals) := by
  have hst := run_storeCells_cells (P := P) b o vals 0 w (fun j hj => by simpa using (ha j hj).1) (fun j hj => by simpa using (ha j hj).2) h1
  obtain ⟨info, hi, hs⟩ := Option.map_eq_some_iff.1 ht
  simp only [Nat.add_zero] at hst
  simp [Instr.storeAt, Instr.sureAddr, storeVar, sizeOf, typeInfo, hi, hu, hl, hs, hst]

theorem store_sound {Γ : Gam} (h : RelW E v (tmv a) w β φ) (hC : ∀ b, E.C b → b < E.w0.heap.size) {p n : Nat} {rs : List Rt} {q : Rt} {x : Opr} {y : Operand} {t : TypeId}
    (hop : o.op = .store t (.tmp p) y) (hd : o.dst = none) (ht : tySize P t = some n) (hxy : oprOk x y = true) (hq : ∀ k ∈ oprL x, q ≠ .t k)
    {ws : List (Res × Val)} (hf : fop Γ v (.store p rs q n x) = some ws) : OpSound P E (appl v ws) o a w := by
  simp only [fop] at hf
  split at hf <;> try (simp at hf; done)
  rename_i st q' path off hv
  split at hf <;> try (simp at hf; done)
  rename_i hc
  simp only [Bool.and_eq_true, decide_eq_true_eq] at hc
  obtain ⟨hst, rfl⟩ := hc
  obtain ⟨⟨st2, tv, ws1⟩, hx, hf2⟩ := ob_some hf
  try dsimp only at hf2
  split at hf2 <;> try (simp at hf2; done)
  rename_i _ g xs ws2 e1
  simp only [Prod.mk.injEq] at e1
  obtain ⟨rfl, rfl, rfl⟩ := e1
  split at hf2 <;> try (simp at hf2; done)
  rename_i hxl
  obtain ⟨cs, hcs, hf3⟩ := ob_some hf2
  obtain ⟨cs', hset, hf4⟩ := ob_some hf3
  simp only [Option.some.injEq] at hf4
  subst hf4
  clear hf hf2 hf3
  obtain ⟨k1, k2⟩ := stOk_spec hst
  obtain ⟨⟨r0, r1, b, o', e, hreach⟩, k3⟩ := h.slotRep hv k1
  obtain ⟨rfl, f, hi, _⟩ := opr_sound h hxy hx
  obtain ⟨vals, g1, g2⟩ := hi.rep
  have hcells := cells_of g1 g2
  have hvl : vals.length = n := by rw [g1.length]; exact hxl
  have dis : ∀ z, f z ≠ 0 → φ q'.res z = 0 := fun z hz => Classical.byContradiction fun hz' => by
    obtain ⟨k, hk, hk2⟩ := hi.src z hz
    have := h.uniq _ _ z hk2 hz'
    exact hq k hk (by cases q' <;> simp [Rt.res] at this; rw [this])
  have hsum : ∀ z, φ q'.res z + f z ≤ 1 := fun z => by
    have := h.le1 q'.res z
    have := hi.le1 z
    by_cases hz : f z = 0
    · omega
    · have := dis z hz; omega
  obtain ⟨fq, w1, w2, w3, w4, w5⟩ := (h.root hcs).write hreach hset g1 hsum (fun z hz => ⟨fun hx => hz (hx.2.1 _), fun hx => by obtain ⟨_, h1, _⟩ := hx.2 _ hz; simp at h1⟩)
  have hrun := storeAt_run (P := P) ht hcells hvl w4 g1.one
  have hev : a.eval (.tmp p) = .pointer (some ⟨b, o', none⟩) := e
  intro next Q hn
  unfold Oper.wp
  have hex : (execOp a.eval o).run P w = .ok .skip (w.setCells b o' vals) := by simp [execOp, hop, hev, hrun]
  rw [hex, Oper.upon_skip, hd]
  refine hn _ _ ⟨?_, rfl, rfl⟩
  have hzero : ∀ z, (∀ r, φ r z = 0) → ∀ r, upF φ (placeN q' fq none (fun _ => 0) (oprL x)) r z = 0 := fun z hz r => upF_zero (fun y hy hy0 => by
    rcases placeN_mem hy with rfl | ⟨d', hd', rfl⟩ | ⟨n', hn', rfl⟩
    · dsimp only at hy0
      have := w2 z
      by_cases h0 : φ q'.res z = 0
      · obtain ⟨k, _, hk2⟩ := hi.src z (by omega); exact ⟨_, hk2⟩
      · exact ⟨_, h0⟩
    · exact absurd rfl hy0
    · exact absurd rfl hy0) hz r
  have hsz : (w.setCells b o' vals).heap.size = w.heap.size := size_setCells _ _ _
  have monoS : ∀ z, XS E w φ z → XS E (w.setCells b o' vals) (upF φ (placeN q' fq none (fun _ => 0) (oprL x))) z := fun z hz => ⟨by rw [hsz]; exact hz.1, hzero z hz.2.1, hz.2.2⟩
  have monoB : ∀ z, XB w φ [] z → XB (w.setCells b o' vals) (upF φ (placeN q' fq none (fun _ => 0) (oprL x))) [] z := fun z hz =>
    ⟨by rw [hsz]; exact hz.1, fun r hr => absurd (hzero z (fun r' => Classical.byContradiction fun e => by obtain ⟨_, h1, _⟩ := hz.2 r' e; simp at h1) r) hr⟩
  have key := h.place (w' := w.setCells b o' vals) (tm' := tmv a) hC hcs (setAt_len _ hset) (L := oprL x) (D := none) hq (by rintro d ⟨_, _, e⟩; simp at e) (fq := fq) (fd := fun _ => 0)
    (fun z => by have := w2 z; have := hsum z; omega) (by simp) (by simp) (fun z hz => by
      have := w2 z
      by_cases h0 : φ q'.res z = 0
      · exact .inr (hi.src z (by omega))
      · exact .inl h0) (by simp) (fun n hn => w5 n hn) (fun z hz h0 hL => heap_setCells (fun e => w3 (by rw [← e]; exact h0)) _ _ _) (os_setCells _ _ _).1 (os_setCells _ _ _).2.1 (os_setCells _ _ _).2.2 (by rw [hsz]; exact Nat.le_refl _)
    (fun _ _ => rfl) (w1.weak monoS monoB) (by simp)
  have e2 : putC v q' cs' ++ (DP.ws v none ++ dropL v (oprL x)) = putC v q' cs' ++ dropL v (oprL x) := by simp [DP.ws]
  rw [e2] at key
  exact ⟨β, _, key⟩
end
end Go.Fw
