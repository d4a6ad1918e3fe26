/- Plain laws of painting, part D: the reference paints a tree. Plain laws of painting, part F: the rows of a screen as texts, by both. Plain laws of painting, part G: the box of what looks different, by both, and the law FnExactDamageOf. Conditions: none. -/
import Derived.Test.YtjldolmokfnkoaaGreatDoorPnE
namespace Go.Fw.Law
open Go Go.Fw

def Cp (W H : Nat) (s : List Int × List Int) (F : Pic) : Prop := s.1.length = W * H ∧ s.2.length = W * H ∧ ∀ x y : Nat, x < W → y < H → s.1[y * W + x]? = some (F x y).1 ∧ s.2[y * W + x]? = some (F x y).2

theorem flat_inj {W x y x' y' : Nat} (hx : x < W) (hx' : x' < W) (h : y * W + x = y' * W + x') : x = x' ∧ y = y' := by
  have : y = y' := by
    rcases Nat.lt_trichotomy y y' with h1 | h1 | h1
    · have := Nat.mul_le_mul_right W (show y + 1 ≤ y' from h1)
      rw [Nat.succ_mul] at this
      omega
    · exact h1
    · have := Nat.mul_le_mul_right W (show y' + 1 ≤ y from h1)
      rw [Nat.succ_mul] at this
      omega
  subst this
  exact ⟨by omega, rfl⟩

theorem holds_ok {b : TBox} (hb : Bd b) (x y : Int) : spec_holds b x y = some (decide (inR b x y)) := by
  refine spec_holds_of _ _ _ ?_
  obtain ⟨⟨b1, b2⟩, ⟨b3, b4⟩, ⟨b5, b6⟩, b7, b8⟩ := hb
  rw [w64_id (x := b.Left + b.Wide) (by omega) (by omega), w64_id (x := b.Top + b.High) (by omega) (by omega)]
  simp only [inR]
  by_cases h1 : b.Left ≤ x <;> by_cases h2 : x < b.Left + b.Wide <;> by_cases h3 : b.Top ≤ y <;> by_cases h4 : y < b.Top + b.High <;> simp [h1, h2, h3, h4]

theorem meet_ok {b c : TBox} (hb : Bd b) (hc : Bd c) : spec_meet c b = some (meetB c b) := by
  refine spec_meet_of _ _ ?_
  obtain ⟨⟨b1, b2⟩, ⟨b3, b4⟩, ⟨b5, b6⟩, b7, b8⟩ := hb
  obtain ⟨⟨c1, c2⟩, ⟨c3, c4⟩, ⟨c5, c6⟩, c7, c8⟩ := hc
  rw [w64_id (x := b.Left + b.Wide) (by omega) (by omega), w64_id (x := c.Left + c.Wide) (by omega) (by omega), w64_id (x := b.Top + b.High) (by omega) (by omega), w64_id (x := c.Top + c.High) (by omega) (by omega),
    w64_id (x := min (c.Left + c.Wide) (b.Left + b.Wide) - max c.Left b.Left) (by omega) (by omega), w64_id (x := min (c.Top + c.High) (b.Top + b.High) - max c.Top b.Top) (by omega) (by omega)]
  rfl

theorem markOf_ok (m : Int) (h : 0 ≤ m) : spec_markOf m = some (byteAt m) := by
  refine spec_markOf_of _ ?_
  have hm9 := Int.tmod_lt_of_pos m (show (0 : Int) < 9 by decide)
  have hm0 := Int.tmod_nonneg (9 : Int) h
  have hlt : (m.tmod 9).toNat < ([46, 58, 45, 61, 43, 42, 35, 37, 64] : Str).length := by show _ < 9; omega
  simp only [rdx_int hm0 hlt, Option.bind_some, byteAt]
  rw [List.getD_eq_getElem?_getD, List.getElem?_eq_getElem hlt]; rfl

section
variable {W H : Nat} (hW : W ≤ 60) (hH : H ≤ 30) {see : TBox} (hc : Ck W H see) (rs : List TRule) (B : List TBox)
include hW hH hc

theorem cell_ok {s : List Int × List Int} {F : Pic} (hs : Cp W H s F) (at_ x y b p : Int) :
    ∃ s', Cp W H s' (if inR see x y then upd F x y (b, p) else F) ∧ spec_painter_cell ⟨rs, B, at_, W, H, s.1, s.2⟩ see x y b p = some ⟨rs, B, at_, W, H, s'.1, s'.2⟩ := by
  by_cases hin : inR see x y
  · have hc' := hc
    obtain ⟨⟨⟨c1, c2⟩, ⟨c3, c4⟩, ⟨c5, c6⟩, c7, c8⟩, c9, c10⟩ := hc'
    have hr := hin
    simp only [inR] at hr
    obtain ⟨xn, rfl⟩ := Int.eq_ofNat_of_zero_le (show 0 ≤ x by omega)
    obtain ⟨yn, rfl⟩ := Int.eq_ofNat_of_zero_le (show 0 ≤ y by omega)
    have hx : xn < W := by omega
    have hy : yn < H := by omega
    obtain ⟨l1, l2, hcell⟩ := hs
    obtain ⟨e1, e2⟩ := hcell xn yn hx hy
    have hm : yn * W ≤ 30 * 60 := Nat.mul_le_mul (by omega) hW
    have eI : w64 (w64 ((yn : Int) * (W : Int)) + (xn : Int)) = ((yn * W + xn : Nat) : Int) := by
      rw [show (yn : Int) * (W : Int) = ((yn * W : Nat) : Int) by simp, w64_id (x := ((yn * W : Nat) : Int)) (by omega) (by omega), w64_id (by omega) (by omega)]; omega
    have b1 : yn * W + xn < s.1.length := by
      refine Nat.lt_of_not_le fun h => ?_
      rw [List.getElem?_eq_none h] at e1; simp at e1
    have b2 : yn * W + xn < s.2.length := by
      refine Nat.lt_of_not_le fun h => ?_
      rw [List.getElem?_eq_none h] at e2; simp at e2
    refine ⟨(s.1.set (yn * W + xn) b, s.2.set (yn * W + xn) p), ⟨by simp [l1], by simp [l2], fun x y hx' hy' => ?_⟩, spec_painter_cell_of _ _ _ _ _ _ ?_⟩
    · rw [if_pos hin]
      by_cases e : x = xn ∧ y = yn
      · obtain ⟨rfl, rfl⟩ := e
        simp [upd, b1, b2]
      · have hne : yn * W + xn ≠ y * W + x := fun h => e (by have := flat_inj hx hx' h; exact ⟨this.1.symm, this.2.symm⟩)
        rw [List.getElem?_set_ne hne, List.getElem?_set_ne hne]
        simp only [upd]
        rw [if_neg (by omega)]
        exact hcell x y hx' hy'
    · simp only [holds_ok hc.1, Option.bind_some, decide_eq_true hin, if_true, eI, rdx_q e1, rdx_q e2, Int.toNat_natCast]
  · refine ⟨s, by rw [if_neg hin]; exact hs, spec_painter_cell_of _ _ _ _ _ _ ?_⟩
    simp only [holds_ok hc.1, Option.bind_some, decide_eq_false hin, Bool.false_eq_true, if_false]
end

theorem idx_iff {box : TBox} (hw : 0 < box.Wide) {x y i : Int} (_hi : 0 ≤ i) (h : inR box x y) : idx box x y = i ↔ x = box.Left + i % box.Wide ∧ y = box.Top + i / box.Wide := by
  simp only [inR] at h
  have e1 := Int.mul_ediv_add_emod i box.Wide
  have e2 := Int.emod_nonneg i (show box.Wide ≠ 0 by omega)
  have e3 := Int.emod_lt_of_pos i hw
  unfold idx
  constructor
  · intro e
    have h1 : i = (x - box.Left) + box.Wide * (y - box.Top) := by rw [Int.mul_comm]; omega
    have h2 : i % box.Wide = x - box.Left := by rw [h1, Int.add_mul_emod_self_left, Int.emod_eq_of_lt (by omega) (by omega)]
    have h3 : i / box.Wide = y - box.Top := by rw [h1, Int.add_mul_ediv_left _ _ (by omega), Int.ediv_eq_zero_of_lt (by omega) (by omega)]; omega
    omega
  · rintro ⟨h1, h2⟩
    rw [show y - box.Top = i / box.Wide by omega, Int.mul_comm]
    omega

theorem nodesL_ln : ∀ ts : List TTree, ts.length ≤ nodesL ts := by
  intro ts
  induction ts with
  | nil => simp
  | cons a ts ih => have := nodes_eq a; rw [nodesL, List.length_cons]; omega

def SpOk (f : TPainter → TTree → List Int → List Int → TBox → Option TPainter) (W H : Nat) (rs : List TRule) (t : TTree) : Prop := ∀ (above inn : List Int) (clip : TBox) (B : List TBox) (a : Nat) (s : List Int × List Int) (F : Pic), inn.length = 5 → above.length + depth t ≤ 1000 → 0 ≤ inn.gd 4 → inn.gd 4 ≤ 60 →
  Ck W H clip → (∀ b ∈ B, Bd b) → a + nodes t ≤ B.length → B.length ≤ 1000 → Cp W H s F →
  ∃ s', Cp W H s' (pnt rs B t above (inn.gd 4) clip a F) ∧ f ⟨rs, B, a, W, H, s.1, s.2⟩ t above inn clip = some ⟨rs, B, ((a + nodes t : Nat) : Int), W, H, s'.1, s'.2⟩

section
variable {W H : Nat} (hW : W ≤ 60) (hH : H ≤ 30) {box see : TBox} (hb : Bd box) (hc : Ck W H see) (hin : ∀ x y, inR see x y → inR box x y) (rs : List TRule) (B : List TBox) (t : TTree) (a at_ : Int)

include hW hH hb hc hin in
theorem text_v_ok (hl : t.Text.length ≤ 12) : ∀ i, i ≤ t.Text.length → ∀ (s : List Int × List Int) (F : Pic), Cp W H s F →
    ∃ s', Cp W H s' (fun x y => if inR see x y ∧ (i : Int) ≤ idx box x y ∧ idx box x y < t.Text.length then (((t.Text.getD (idx box x y).toNat 0).toNat : Int), a) else F x y) ∧
      spec_painter_part_v_b1 a i ⟨rs, B, at_, W, H, s.1, s.2⟩ t see box = some ⟨rs, B, at_, W, H, s'.1, s'.2⟩ := by
  have hb' := hb
  obtain ⟨⟨b1, b2⟩, ⟨b3, b4⟩, ⟨b5, b6⟩, b7, b8⟩ := hb'
  refine upto _ ?_ ?_
  · intro s F hF
    refine ⟨s, (congrArg (Cp W H s) ?_).mp hF, spec_painter_part_v_b1_of _ _ _ _ _ _ (by simp)⟩
    funext x y
    rw [if_neg (by omega)]
  · intro i hi ih s F hF
    by_cases hw : 0 < box.Wide
    · have ei : w64 ((i : Int) + 1) = ((i + 1 : Nat) : Int) := w64s (by omega)
      have q1 : (i : Int).tmod box.Wide = (i : Int) % box.Wide := Int.tmod_eq_emod_of_nonneg (by omega)
      have q2 : (i : Int).tdiv box.Wide = (i : Int) / box.Wide := Int.tdiv_eq_ediv_of_nonneg (by omega)
      have e2 := Int.emod_nonneg (i : Int) (show box.Wide ≠ 0 by omega)
      have e3 := Int.emod_lt_of_pos (i : Int) hw
      have e4 : 0 ≤ (i : Int) / box.Wide := Int.ediv_nonneg (by omega) (by omega)
      have e5 : (i : Int) / box.Wide ≤ i := Int.ediv_le_self _ (by omega)
      have eX : w64 (box.Left + (i : Int) % box.Wide) = box.Left + (i : Int) % box.Wide := w64_id (by omega) (by omega)
      have eY : w64 (box.Top + w64 ((i : Int) / box.Wide)) = box.Top + (i : Int) / box.Wide := by rw [w64_id (x := (i : Int) / box.Wide) (by omega) (by omega), w64_id (by omega) (by omega)]
      obtain ⟨s1, p1, p2⟩ := cell_ok hW hH hc rs B hF at_ (box.Left + (i : Int) % box.Wide) (box.Top + (i : Int) / box.Wide) (t.Text[i].toNat : Int) a
      obtain ⟨s2, p3, p4⟩ := ih s1 _ p1
      refine ⟨s2, (congrArg (Cp W H s2) ?_).mp p3, spec_painter_part_v_b1_of _ _ _ _ _ _ ?_⟩
      · funext x y
        by_cases hxy : inR see x y
        · have hbx := hin x y hxy
          have hiff := idx_iff hw (show 0 ≤ (i : Int) by omega) hbx
          by_cases e : idx box x y = i
          · have e' := hiff.1 e
            rw [if_neg (by omega), ← e'.1, ← e'.2, if_pos hxy, if_pos ⟨hxy, by omega, by omega⟩]
            simp only [upd, and_self, if_true]
            rw [e, Int.toNat_natCast, List.getD_eq_getElem?_getD, List.getElem?_eq_getElem hi]
            rfl
          · have h2 : ¬ (x = box.Left + (i : Int) % box.Wide ∧ y = box.Top + (i : Int) / box.Wide) := fun h => e (hiff.2 h)
            have h3 : (if inR see (box.Left + (i : Int) % box.Wide) (box.Top + (i : Int) / box.Wide) then upd F (box.Left + (i : Int) % box.Wide) (box.Top + (i : Int) / box.Wide) ((t.Text[i].toNat : Int), a) else F) x y = F x y := by
              split
              · simp only [upd]; rw [if_neg h2]
              · rfl
            rw [h3]
            by_cases h4 : (i : Int) ≤ idx box x y ∧ idx box x y < t.Text.length
            · rw [if_pos ⟨hxy, by omega, h4.2⟩, if_pos ⟨hxy, h4⟩]
            · rw [if_neg (fun h => h4 ⟨by omega, h.2.2⟩), if_neg (fun h => h4 h.2)]
        · have h3 : (if inR see (box.Left + (i : Int) % box.Wide) (box.Top + (i : Int) / box.Wide) then upd F (box.Left + (i : Int) % box.Wide) (box.Top + (i : Int) / box.Wide) ((t.Text[i].toNat : Int), a) else F) x y = F x y := by
            split
            · rename_i hh
              simp only [upd]
              rw [if_neg (fun h => hxy (by rw [h.1, h.2]; exact hh))]
            · rfl
          rw [h3, if_neg (fun h => hxy h.1), if_neg (fun h => hxy h.1)]
      · simp only [dlt hi, if_true, decide_eq_true hw, show ¬ box.Wide = 0 by omega, not_false_eq_true, rdx_nat hi, Option.bind_some, q1, q2, eX, eY, p2, ei, p4]
    · refine ⟨s, (congrArg (Cp W H s) ?_).mp hF, spec_painter_part_v_b1_of _ _ _ _ _ _ ?_⟩
      · funext x y
        rw [if_neg]
        rintro ⟨h1, _⟩
        have := hin x y h1
        simp only [inR] at this
        omega
      · simp only [dlt hi, if_true, decide_eq_false hw, Bool.false_eq_true, if_false]

include hW hH hc in
theorem mark_v_ok (ht : ¬ t.Tag = -1) (x2 : List Int) (o : List Int) (ho : o.length = 5) (hm : 0 < o.gd 4) {s : List Int × List Int} {F : Pic} (hs : Cp W H s F) :
    ∃ s', Cp W H s' (oneF t (o.gd 4) box see a F) ∧ ∀ r, spec_painter_part_v_b3 x2 o 0 ⟨rs, B, at_, W, H, s'.1, s'.2⟩ t see = some r → spec_painter_part_v_b2 x2 o a see.Top ⟨rs, B, at_, W, H, s.1, s.2⟩ t see = some r := by
  have hc' := hc
  obtain ⟨⟨⟨c1, c2⟩, ⟨c3, c4⟩, ⟨c5, c6⟩, c7, c8⟩, c9, c10⟩ := hc'
  obtain ⟨w, hw⟩ := Int.eq_ofNat_of_zero_le c5
  obtain ⟨h, hh⟩ := Int.eq_ofNat_of_zero_le c7
  have eW : w64 (see.Left + see.Wide) = see.Left + w := by rw [w64_id (by omega) (by omega), hw]
  have eH : w64 (see.Top + see.High) = see.Top + h := by rw [w64_id (by omega) (by omega), hh]
  have d4 := getD4 ho 4 (by omega)
  rw [show ((4 : Nat) : Int) = 4 from rfl] at d4
  have key := loopY (C := Cp W H) (Tp := see.Top) (L := see.Left) (a := a) (h := h) (w := w) (G := val t (o.gd 4) box) (loop := fun y s => spec_painter_part_v_b2 x2 o a y ⟨rs, B, at_, W, H, s.1, s.2⟩ t see)
    (next := fun s => spec_painter_part_v_b3 x2 o 0 ⟨rs, B, at_, W, H, s.1, s.2⟩ t see) ?_ ?_ 0 (by omega) s F hs
  · obtain ⟨s', k1, k2⟩ := key
    refine ⟨s', ?_, fun r hr => by simpa using k2 r hr⟩
    refine (congrArg (Cp W H s') ?_).mp k1
    funext x y
    unfold oneF
    by_cases e : inR see x y
    · rw [if_pos e]; unfold inR at e; rw [if_pos (by omega)]
    · rw [if_neg e]; unfold inR at e; rw [if_neg (by omega)]
  · intro s r hr
    refine spec_painter_part_v_b2_of _ _ _ _ _ _ _ ?_
    rw [eH, decide_eq_false (by omega)]
    simpa using hr
  · intro j hj s F hF
    have key := loopX (C := Cp W H) (y := see.Top + j) (L := see.Left) (a := a) (w := w) (G := fun x => val t (o.gd 4) box x (see.Top + j)) (loop := fun x s => spec_painter_part_v_b4 x2 o a (see.Top + j) x ⟨rs, B, at_, W, H, s.1, s.2⟩ t see)
      (next := fun s => spec_painter_part_v_b2 x2 o a (see.Top + j + 1) ⟨rs, B, at_, W, H, s.1, s.2⟩ t see) ?_ ?_ 0 (by omega) s F hF
    · obtain ⟨s', k1, k2⟩ := key
      refine ⟨s', ?_, fun r hr => ?_⟩
      · refine (congrArg (Cp W H s') ?_).mp k1
        funext x y
        by_cases e : y = see.Top + j ∧ see.Left ≤ x ∧ x < see.Left + w
        · rw [if_pos e, if_pos (by omega), e.1]
        · rw [if_neg e, if_neg (by omega)]
      · refine spec_painter_part_v_b2_of _ _ _ _ _ _ _ ?_
        rw [eH, decide_eq_true (by omega)]
        simpa using k2 r hr
    · intro s r hr
      refine spec_painter_part_v_b4_of _ _ _ _ _ _ _ _ ?_
      rw [eW, decide_eq_false (by omega), w64_id (x := see.Top + j + 1) (by omega) (by omega)]
      simpa using hr
    · intro k hk s F hF
      have hin' : inR see (see.Left + k) (see.Top + j) := by unfold inR; omega
      have eW' : decide (see.Left + k < w64 (see.Left + see.Wide)) = true := by rw [eW]; exact decide_eq_true (by omega)
      have e1 : w64 (see.Left + k + 1) = see.Left + k + 1 := w64_id (by omega) (by omega)
      obtain ⟨s', p1, p2⟩ := cell_ok hW hH hc rs B hF at_ (see.Left + k) (see.Top + j) (byteAt (o.gd 4)) a
      rw [if_pos hin'] at p1
      refine ⟨s', ?_, fun r hr => ?_⟩
      · refine (congrArg (Cp W H s') ?_).mp p1
        funext x y
        unfold upd
        by_cases e : x = see.Left + k ∧ y = see.Top + j
        · rw [if_pos e, if_pos e]
          simp only [val, ht, if_false, show ¬ o.gd 4 = 0 by omega, ov]
        · rw [if_neg e, if_neg e]
      · refine spec_painter_part_v_b4_of _ _ _ _ _ _ _ _ ?_
        simp only [eW', if_true, d4, Option.bind_some, markOf_ok (o.gd 4) (by omega), p2, e1]
        exact hr
end

theorem kids_v_sp {W H : Nat} (rs : List TRule) (t : TTree) (ih : ∀ k ∈ t.Kids, SpOk spec_painter_part_v W H rs k) (above o : List Int) (ho : o.length = 5) (h0 : 0 ≤ o.gd 4) (h1 : o.gd 4 ≤ 60) (hd : above.length + 1 + depthL t.Kids ≤ 1000) (see : TBox) (hc : Ck W H see) (B : List TBox) (hB : ∀ b ∈ B, Bd b) (hl : B.length ≤ 1000) (hkl : t.Kids.length ≤ 1000) :
    ∀ k, k ≤ t.Kids.length → ∀ (a : Nat) (s : List Int × List Int) (F : Pic), a + nodesL (t.Kids.drop k) ≤ B.length → Cp W H s F →
      ∃ s', Cp W H s' (pntL rs B (t.Kids.drop k) (above ++ [t.Tag]) (o.gd 4) see a F) ∧ spec_painter_part_v_b3 above o k ⟨rs, B, a, W, H, s.1, s.2⟩ t see = some ⟨rs, B, ((a + nodesL (t.Kids.drop k) : Nat) : Int), W, H, s'.1, s'.2⟩ := by
  refine upto _ ?_ ?_
  · intro a s F _ hF
    refine ⟨s, by simpa [pntL] using hF, spec_painter_part_v_b3_of _ _ _ _ _ _ (by simp [nodesL])⟩
  · intro k hk ihk a s F ha hF
    rw [drop_at hk, nodesL] at ha
    have hdk := depth_kid t.Kids _ (List.getElem_mem hk)
    obtain ⟨s1, p1, p2⟩ := ih t.Kids[k] (List.getElem_mem hk) (above ++ [t.Tag]) o see B a s F ho (by simp; omega) h0 h1 hc hB (by omega) hl hF
    obtain ⟨s2, q1, q2⟩ := ihk (a + nodes t.Kids[k]) s1 _ (by omega) p1
    refine ⟨s2, by rw [drop_at hk, pntL]; exact q1, spec_painter_part_v_b3_of _ _ _ _ _ _ ?_⟩
    rw [dlt hk, if_pos rfl, rdx_nat hk, Option.bind_some, if_pos (apN 8 ([] : List Int) above (by omega) (by simp) (by omega)), if_pos (apN 8 above [t.Tag] (by omega) (by omega) (by simp)), p2, Option.bind_some, w64s (show (k : Int) + 1 < 9223372036854775808 by omega), q2]
    rw [drop_at hk, nodesL, Nat.add_assoc]

theorem part_v_sp {W H : Nat} (hW : W ≤ 60) (hH : H ≤ 30) (rs : List TRule) (hm : Rm rs) (hg : Gv rs) (t : TTree) (hv : Va t) (hn1 : nodes t ≤ 1000) (ihk : ∀ k ∈ t.Kids, SpOk spec_painter_part_v W H rs k) : SpOk spec_painter_part_v W H rs t := by
  intro above inn clip B a s F hi5 hd m0 m1 hc hB ha hl hF
  have hn := nodes_eq t
  have hdq := depth_eq t
  have hkl : t.Kids.length ≤ 1000 := by have := nodesL_ln t.Kids; omega
  have ha' : a < B.length := by omega
  have hbx : B.getD a default = B[a] := by rw [List.getD_eq_getElem?_getD, List.getElem?_eq_getElem ha']; rfl
  have hb : Bd B[a] := hB _ (List.getElem_mem ha')
  have hsee := meet_ck hc hb
  have hin : ∀ x y, inR (meetB clip B[a]) x y → inR B[a] x y := fun x y h => meet_in h
  have hlo := looksOf_ok5 rs hm hg t hv.lk above (by omega) inn hi5
  generalize ho : own rs t above (inn.gd 4) = o at hlo
  have ho5 : o.length = 5 := by rw [← ho]; exact own_len _ _ _ _
  have o4 : 0 ≤ o.gd 4 ∧ o.gd 4 ≤ 60 := by rw [← ho]; exact own_range hg t above (inn.gd 4) m0 m1 4
  have d4 := getD4 ho5 4 (by omega)
  rw [show ((4 : Nat) : Int) = 4 from rfl] at d4
  have e1 : w64 ((a : Int) + 1) = ((a + 1 : Nat) : Int) := w64s (by omega)
  by_cases h : t.Tag = -1
  · obtain ⟨s1, p1, p2⟩ := text_v_ok hW hH hb hsee hin rs B t a ((a + 1 : Nat) : Int) hv.tx 0 (by omega) s F hF
    refine ⟨s1, ?_, spec_painter_part_v_of _ _ _ _ _ ?_⟩
    · rw [pnt_eq, hbx, ho, hv.nk h, pntL]
      refine (congrArg (Cp W H s1) ?_).mp p1
      funext x y
      unfold oneF
      by_cases e : inR (meetB clip B[a]) x y
      · have i3 := (idx_range hb hin e).2.2
        rw [if_pos e]
        simp only [val, h, if_true]
        by_cases e2 : idx B[a] x y < t.Text.length
        · rw [if_pos ⟨e, by omega, e2⟩, if_pos e2]; rfl
        · rw [if_neg (fun h => e2 h.2.2), if_neg e2]; rfl
      · rw [if_neg (fun h => e h.1), if_neg e]
    · rw [show ((0 : Nat) : Int) = 0 from rfl] at p2
      simp only [hlo, rdx_nat ha', meet_ok hb hc.1, Option.bind_some, decide_eq_true (show t.Tag < 0 by omega), if_true, e1, p2]
      rw [hn, hv.nk h]
      simp [nodesL]
  · have ht0 : ¬ t.Tag < 0 := by have := hv.lk.tag; omega
    have fin : ∀ s1, Cp W H s1 (oneF t (o.gd 4) B[a] (meetB clip B[a]) a F) → ∃ s', Cp W H s' (pnt rs B t above (inn.gd 4) clip a F) ∧ spec_painter_part_v_b3 above o 0 ⟨rs, B, ((a + 1 : Nat) : Int), W, H, s1.1, s1.2⟩ t (meetB clip B[a]) = some ⟨rs, B, ((a + nodes t : Nat) : Int), W, H, s'.1, s'.2⟩ := by
      intro s1 hs1
      obtain ⟨s', q1, q2⟩ := kids_v_sp rs t ihk above o ho5 o4.1 o4.2 (by omega) (meetB clip B[a]) hsee B hB hl hkl 0 (by omega) (a + 1) s1 _ (by rw [List.drop_zero]; omega) hs1
      rw [List.drop_zero] at q1 q2
      refine ⟨s', by rw [pnt_eq, hbx, ho]; exact q1, ?_⟩
      rw [show ((0 : Nat) : Int) = 0 from rfl] at q2
      rw [q2, hn, Nat.add_assoc]
    by_cases h4 : 0 < o.gd 4
    · obtain ⟨s1, p1, p2⟩ := mark_v_ok (box := B[a]) hW hH hsee rs B t a ((a + 1 : Nat) : Int) h above o ho5 h4 hF
      obtain ⟨s', q1, q2⟩ := fin s1 p1
      refine ⟨s', q1, spec_painter_part_v_of _ _ _ _ _ ?_⟩
      simp only [hlo, rdx_nat ha', meet_ok hb hc.1, Option.bind_some, decide_eq_false ht0, d4, decide_eq_true h4, Bool.false_eq_true, if_false, if_true, e1]
      exact p2 _ q2
    · obtain ⟨s', q1, q2⟩ := fin s (by rw [show o.gd 4 = 0 by omega, oneF_zero h]; exact hF)
      refine ⟨s', q1, spec_painter_part_v_of _ _ _ _ _ ?_⟩
      simp only [hlo, rdx_nat ha', meet_ok hb hc.1, Option.bind_some, decide_eq_false ht0, d4, decide_eq_false h4, Bool.false_eq_true, if_false, e1]
      exact q2

section
variable {W H : Nat} (hW : W ≤ 60) (hH : H ≤ 30) {box see : TBox} (hb : Bd box) (hc : Ck W H see) (hin : ∀ x y, inR see x y → inR box x y) (rs : List TRule) (B : List TBox) (t : TTree) (a at_ : Int)

include hW hH hb hc hin in
theorem textN_ok (hl : t.Text.length ≤ 12) : ∀ i, i ≤ t.Text.length → ∀ (s : List Int × List Int) (F : Pic), Cp W H s F →
    ∃ s', Cp W H s' (fun x y => if inR see x y ∧ (i : Int) ≤ idx box x y ∧ idx box x y < t.Text.length then (((t.Text.getD (idx box x y).toNat 0).toNat : Int), a) else F x y) ∧
      spec_painter_part_b1 a i ⟨rs, B, at_, W, H, s.1, s.2⟩ t see box = some ⟨rs, B, at_, W, H, s'.1, s'.2⟩ := by
  have hb' := hb
  obtain ⟨⟨b1, b2⟩, ⟨b3, b4⟩, ⟨b5, b6⟩, b7, b8⟩ := hb'
  refine upto _ ?_ ?_
  · intro s F hF
    refine ⟨s, (congrArg (Cp W H s) ?_).mp hF, spec_painter_part_b1_of _ _ _ _ _ _ (by simp)⟩
    funext x y
    rw [if_neg (by omega)]
  · intro i hi ih s F hF
    by_cases hw : 0 < box.Wide
    · have ei : w64 ((i : Int) + 1) = ((i + 1 : Nat) : Int) := w64s (by omega)
      have q1 : (i : Int).tmod box.Wide = (i : Int) % box.Wide := Int.tmod_eq_emod_of_nonneg (by omega)
      have q2 : (i : Int).tdiv box.Wide = (i : Int) / box.Wide := Int.tdiv_eq_ediv_of_nonneg (by omega)
      have e2 := Int.emod_nonneg (i : Int) (show box.Wide ≠ 0 by omega)
      have e3 := Int.emod_lt_of_pos (i : Int) hw
      have e4 : 0 ≤ (i : Int) / box.Wide := Int.ediv_nonneg (by omega) (by omega)
      have e5 : (i : Int) / box.Wide ≤ i := Int.ediv_le_self _ (by omega)
      have eX : w64 (box.Left + (i : Int) % box.Wide) = box.Left + (i : Int) % box.Wide := w64_id (by omega) (by omega)
      have eY : w64 (box.Top + w64 ((i : Int) / box.Wide)) = box.Top + (i : Int) / box.Wide := by rw [w64_id (x := (i : Int) / box.Wide) (by omega) (by omega), w64_id (by omega) (by omega)]
      obtain ⟨s1, p1, p2⟩ := cell_ok hW hH hc rs B hF at_ (box.Left + (i : Int) % box.Wide) (box.Top + (i : Int) / box.Wide) (t.Text[i].toNat : Int) a
      obtain ⟨s2, p3, p4⟩ := ih s1 _ p1
      refine ⟨s2, (congrArg (Cp W H s2) ?_).mp p3, spec_painter_part_b1_of _ _ _ _ _ _ ?_⟩
      · funext x y
        by_cases hxy : inR see x y
        · have hbx := hin x y hxy
          have hiff := idx_iff hw (show 0 ≤ (i : Int) by omega) hbx
          by_cases e : idx box x y = i
          · have e' := hiff.1 e
            rw [if_neg (by omega), ← e'.1, ← e'.2, if_pos hxy, if_pos ⟨hxy, by omega, by omega⟩]
            simp only [upd, and_self, if_true]
            rw [e, Int.toNat_natCast, List.getD_eq_getElem?_getD, List.getElem?_eq_getElem hi]
            rfl
          · have h2 : ¬ (x = box.Left + (i : Int) % box.Wide ∧ y = box.Top + (i : Int) / box.Wide) := fun h => e (hiff.2 h)
            have h3 : (if inR see (box.Left + (i : Int) % box.Wide) (box.Top + (i : Int) / box.Wide) then upd F (box.Left + (i : Int) % box.Wide) (box.Top + (i : Int) / box.Wide) ((t.Text[i].toNat : Int), a) else F) x y = F x y := by
              split
              · simp only [upd]; rw [if_neg h2]
              · rfl
            rw [h3]
            by_cases h4 : (i : Int) ≤ idx box x y ∧ idx box x y < t.Text.length
            · rw [if_pos ⟨hxy, by omega, h4.2⟩, if_pos ⟨hxy, h4⟩]
            · rw [if_neg (fun h => h4 ⟨by omega, h.2.2⟩), if_neg (fun h => h4 h.2)]
        · have h3 : (if inR see (box.Left + (i : Int) % box.Wide) (box.Top + (i : Int) / box.Wide) then upd F (box.Left + (i : Int) % box.Wide) (box.Top + (i : Int) / box.Wide) ((t.Text[i].toNat : Int), a) else F) x y = F x y := by
            split
            · rename_i hh
              simp only [upd]
              rw [if_neg (fun h => hxy (by rw [h.1, h.2]; exact hh))]
            · rfl
          rw [h3, if_neg (fun h => hxy h.1), if_neg (fun h => hxy h.1)]
      · simp only [dlt hi, if_true, decide_eq_true hw, show ¬ box.Wide = 0 by omega, not_false_eq_true, rdx_nat hi, Option.bind_some, q1, q2, eX, eY, p2, ei, p4]
    · refine ⟨s, (congrArg (Cp W H s) ?_).mp hF, spec_painter_part_b1_of _ _ _ _ _ _ ?_⟩
      · funext x y
        rw [if_neg]
        rintro ⟨h1, _⟩
        have := hin x y h1
        simp only [inR] at this
        omega
      · simp only [dlt hi, if_true, decide_eq_false hw, Bool.false_eq_true, if_false]

include hW hH hc in
theorem markN_ok (ht : ¬ t.Tag = -1) (x2 : List Int) (o : List Int) (ho : o.length = 5) (hm : 0 < o.gd 4) {s : List Int × List Int} {F : Pic} (hs : Cp W H s F) :
    ∃ s', Cp W H s' (oneF t (o.gd 4) box see a F) ∧ ∀ r, spec_painter_part_b3 x2 o 0 ⟨rs, B, at_, W, H, s'.1, s'.2⟩ t see = some r → spec_painter_part_b2 x2 o a see.Top ⟨rs, B, at_, W, H, s.1, s.2⟩ t see = some r := by
  have hc' := hc
  obtain ⟨⟨⟨c1, c2⟩, ⟨c3, c4⟩, ⟨c5, c6⟩, c7, c8⟩, c9, c10⟩ := hc'
  obtain ⟨w, hw⟩ := Int.eq_ofNat_of_zero_le c5
  obtain ⟨h, hh⟩ := Int.eq_ofNat_of_zero_le c7
  have eW : w64 (see.Left + see.Wide) = see.Left + w := by rw [w64_id (by omega) (by omega), hw]
  have eH : w64 (see.Top + see.High) = see.Top + h := by rw [w64_id (by omega) (by omega), hh]
  have d4 := getD4 ho 4 (by omega)
  rw [show ((4 : Nat) : Int) = 4 from rfl] at d4
  have key := loopY (C := Cp W H) (Tp := see.Top) (L := see.Left) (a := a) (h := h) (w := w) (G := val t (o.gd 4) box) (loop := fun y s => spec_painter_part_b2 x2 o a y ⟨rs, B, at_, W, H, s.1, s.2⟩ t see)
    (next := fun s => spec_painter_part_b3 x2 o 0 ⟨rs, B, at_, W, H, s.1, s.2⟩ t see) ?_ ?_ 0 (by omega) s F hs
  · obtain ⟨s', k1, k2⟩ := key
    refine ⟨s', ?_, fun r hr => by simpa using k2 r hr⟩
    refine (congrArg (Cp W H s') ?_).mp k1
    funext x y
    unfold oneF
    by_cases e : inR see x y
    · rw [if_pos e]; unfold inR at e; rw [if_pos (by omega)]
    · rw [if_neg e]; unfold inR at e; rw [if_neg (by omega)]
  · intro s r hr
    refine spec_painter_part_b2_of _ _ _ _ _ _ _ ?_
    rw [eH, decide_eq_false (by omega)]
    simpa using hr
  · intro j hj s F hF
    have key := loopX (C := Cp W H) (y := see.Top + j) (L := see.Left) (a := a) (w := w) (G := fun x => val t (o.gd 4) box x (see.Top + j)) (loop := fun x s => spec_painter_part_b4 x2 o a (see.Top + j) x ⟨rs, B, at_, W, H, s.1, s.2⟩ t see)
      (next := fun s => spec_painter_part_b2 x2 o a (see.Top + j + 1) ⟨rs, B, at_, W, H, s.1, s.2⟩ t see) ?_ ?_ 0 (by omega) s F hF
    · obtain ⟨s', k1, k2⟩ := key
      refine ⟨s', ?_, fun r hr => ?_⟩
      · refine (congrArg (Cp W H s') ?_).mp k1
        funext x y
        by_cases e : y = see.Top + j ∧ see.Left ≤ x ∧ x < see.Left + w
        · rw [if_pos e, if_pos (by omega), e.1]
        · rw [if_neg e, if_neg (by omega)]
      · refine spec_painter_part_b2_of _ _ _ _ _ _ _ ?_
        rw [eH, decide_eq_true (by omega)]
        simpa using k2 r hr
    · intro s r hr
      refine spec_painter_part_b4_of _ _ _ _ _ _ _ _ ?_
      rw [eW, decide_eq_false (by omega), w64_id (x := see.Top + j + 1) (by omega) (by omega)]
      simpa using hr
    · intro k hk s F hF
      have hin' : inR see (see.Left + k) (see.Top + j) := by unfold inR; omega
      have eW' : decide (see.Left + k < w64 (see.Left + see.Wide)) = true := by rw [eW]; exact decide_eq_true (by omega)
      have e1 : w64 (see.Left + k + 1) = see.Left + k + 1 := w64_id (by omega) (by omega)
      obtain ⟨s', p1, p2⟩ := cell_ok hW hH hc rs B hF at_ (see.Left + k) (see.Top + j) (byteAt (o.gd 4)) a
      rw [if_pos hin'] at p1
      refine ⟨s', ?_, fun r hr => ?_⟩
      · refine (congrArg (Cp W H s') ?_).mp p1
        funext x y
        unfold upd
        by_cases e : x = see.Left + k ∧ y = see.Top + j
        · rw [if_pos e, if_pos e]
          simp only [val, ht, if_false, show ¬ o.gd 4 = 0 by omega, ov]
        · rw [if_neg e, if_neg e]
      · refine spec_painter_part_b4_of _ _ _ _ _ _ _ _ ?_
        simp only [eW', if_true, d4, Option.bind_some, markOf_ok (o.gd 4) (by omega), p2, e1]
        exact hr
end

theorem kidsN_sp {W H : Nat} (rs : List TRule) (t : TTree) (ih : ∀ k ∈ t.Kids, SpOk spec_painter_part_v W H rs k) (above o : List Int) (ho : o.length = 5) (h0 : 0 ≤ o.gd 4) (h1 : o.gd 4 ≤ 60) (hd : above.length + 1 + depthL t.Kids ≤ 1000) (see : TBox) (hc : Ck W H see) (B : List TBox) (hB : ∀ b ∈ B, Bd b) (hl : B.length ≤ 1000) (hkl : t.Kids.length ≤ 1000) :
    ∀ k, k ≤ t.Kids.length → ∀ (a : Nat) (s : List Int × List Int) (F : Pic), a + nodesL (t.Kids.drop k) ≤ B.length → Cp W H s F →
      ∃ s', Cp W H s' (pntL rs B (t.Kids.drop k) (above ++ [t.Tag]) (o.gd 4) see a F) ∧ spec_painter_part_b3 above o k ⟨rs, B, a, W, H, s.1, s.2⟩ t see = some ⟨rs, B, ((a + nodesL (t.Kids.drop k) : Nat) : Int), W, H, s'.1, s'.2⟩ := by
  refine upto _ ?_ ?_
  · intro a s F _ hF
    refine ⟨s, by simpa [pntL] using hF, spec_painter_part_b3_of _ _ _ _ _ _ (by simp [nodesL])⟩
  · intro k hk ihk a s F ha hF
    rw [drop_at hk, nodesL] at ha
    have hdk := depth_kid t.Kids _ (List.getElem_mem hk)
    obtain ⟨s1, p1, p2⟩ := ih t.Kids[k] (List.getElem_mem hk) (above ++ [t.Tag]) o see B a s F ho (by simp; omega) h0 h1 hc hB (by omega) hl hF
    obtain ⟨s2, q1, q2⟩ := ihk (a + nodes t.Kids[k]) s1 _ (by omega) p1
    refine ⟨s2, by rw [drop_at hk, pntL]; exact q1, spec_painter_part_b3_of _ _ _ _ _ _ ?_⟩
    rw [dlt hk, if_pos rfl, rdx_nat hk, Option.bind_some, if_pos (apN 8 ([] : List Int) above (by omega) (by simp) (by omega)), if_pos (apN 8 above [t.Tag] (by omega) (by omega) (by simp)), p2, Option.bind_some, w64s (show (k : Int) + 1 < 9223372036854775808 by omega), q2]
    rw [drop_at hk, nodesL, Nat.add_assoc]

theorem part_sp {W H : Nat} (hW : W ≤ 60) (hH : H ≤ 30) (rs : List TRule) (hm : Rm rs) (hg : Gv rs) (t : TTree) (hv : Va t) (hn1 : nodes t ≤ 1000) (ihk : ∀ k ∈ t.Kids, SpOk spec_painter_part_v W H rs k) : SpOk spec_painter_part W H rs t := by
  intro above inn clip B a s F hi5 hd m0 m1 hc hB ha hl hF
  have hn := nodes_eq t
  have hdq := depth_eq t
  have hkl : t.Kids.length ≤ 1000 := by have := nodesL_ln t.Kids; omega
  have ha' : a < B.length := by omega
  have hbx : B.getD a default = B[a] := by rw [List.getD_eq_getElem?_getD, List.getElem?_eq_getElem ha']; rfl
  have hb : Bd B[a] := hB _ (List.getElem_mem ha')
  have hsee := meet_ck hc hb
  have hin : ∀ x y, inR (meetB clip B[a]) x y → inR B[a] x y := fun x y h => meet_in h
  have hlo := looksOf_ok5 rs hm hg t hv.lk above (by omega) inn hi5
  generalize ho : own rs t above (inn.gd 4) = o at hlo
  have ho5 : o.length = 5 := by rw [← ho]; exact own_len _ _ _ _
  have o4 : 0 ≤ o.gd 4 ∧ o.gd 4 ≤ 60 := by rw [← ho]; exact own_range hg t above (inn.gd 4) m0 m1 4
  have d4 := getD4 ho5 4 (by omega)
  rw [show ((4 : Nat) : Int) = 4 from rfl] at d4
  have e1 : w64 ((a : Int) + 1) = ((a + 1 : Nat) : Int) := w64s (by omega)
  by_cases h : t.Tag = -1
  · obtain ⟨s1, p1, p2⟩ := textN_ok hW hH hb hsee hin rs B t a ((a + 1 : Nat) : Int) hv.tx 0 (by omega) s F hF
    refine ⟨s1, ?_, spec_painter_part_of _ _ _ _ _ ?_⟩
    · rw [pnt_eq, hbx, ho, hv.nk h, pntL]
      refine (congrArg (Cp W H s1) ?_).mp p1
      funext x y
      unfold oneF
      by_cases e : inR (meetB clip B[a]) x y
      · have i3 := (idx_range hb hin e).2.2
        rw [if_pos e]
        simp only [val, h, if_true]
        by_cases e2 : idx B[a] x y < t.Text.length
        · rw [if_pos ⟨e, by omega, e2⟩, if_pos e2]; rfl
        · rw [if_neg (fun h => e2 h.2.2), if_neg e2]; rfl
      · rw [if_neg (fun h => e h.1), if_neg e]
    · rw [show ((0 : Nat) : Int) = 0 from rfl] at p2
      simp only [hlo, rdx_nat ha', meet_ok hb hc.1, Option.bind_some, decide_eq_true (show t.Tag < 0 by omega), if_true, e1, p2]
      rw [hn, hv.nk h]
      simp [nodesL]
  · have ht0 : ¬ t.Tag < 0 := by have := hv.lk.tag; omega
    have fin : ∀ s1, Cp W H s1 (oneF t (o.gd 4) B[a] (meetB clip B[a]) a F) → ∃ s', Cp W H s' (pnt rs B t above (inn.gd 4) clip a F) ∧ spec_painter_part_b3 above o 0 ⟨rs, B, ((a + 1 : Nat) : Int), W, H, s1.1, s1.2⟩ t (meetB clip B[a]) = some ⟨rs, B, ((a + nodes t : Nat) : Int), W, H, s'.1, s'.2⟩ := by
      intro s1 hs1
      obtain ⟨s', q1, q2⟩ := kidsN_sp rs t ihk above o ho5 o4.1 o4.2 (by omega) (meetB clip B[a]) hsee B hB hl hkl 0 (by omega) (a + 1) s1 _ (by rw [List.drop_zero]; omega) hs1
      rw [List.drop_zero] at q1 q2
      refine ⟨s', by rw [pnt_eq, hbx, ho]; exact q1, ?_⟩
      rw [show ((0 : Nat) : Int) = 0 from rfl] at q2
      rw [q2, hn, Nat.add_assoc]
    by_cases h4 : 0 < o.gd 4
    · obtain ⟨s1, p1, p2⟩ := markN_ok (box := B[a]) hW hH hsee rs B t a ((a + 1 : Nat) : Int) h above o ho5 h4 hF
      obtain ⟨s', q1, q2⟩ := fin s1 p1
      refine ⟨s', q1, spec_painter_part_of _ _ _ _ _ ?_⟩
      simp only [hlo, rdx_nat ha', meet_ok hb hc.1, Option.bind_some, decide_eq_false ht0, d4, decide_eq_true h4, Bool.false_eq_true, if_false, if_true, e1]
      exact p2 _ q2
    · obtain ⟨s', q1, q2⟩ := fin s (by rw [show o.gd 4 = 0 by omega, oneF_zero h]; exact hF)
      refine ⟨s', q1, spec_painter_part_of _ _ _ _ _ ?_⟩
      simp only [hlo, rdx_nat ha', meet_ok hb hc.1, Option.bind_some, decide_eq_false ht0, d4, decide_eq_false h4, Bool.false_eq_true, if_false, e1]
      exact q2

theorem part_v_all {W H : Nat} (hW : W ≤ 60) (hH : H ≤ 30) (rs : List TRule) (hm : Rm rs) (hg : Gv rs) : ∀ t, Va t → nodes t ≤ 1000 → SpOk spec_painter_part_v W H rs t := by
  refine TTree.ind ?_
  intro t ih hv hn1
  have hn := nodes_eq t
  exact part_v_sp hW hH rs hm hg t hv hn1 fun k hk => ih k hk (hv.ks k hk) (by have := nodes_kid t.Kids k hk; omega)

theorem blank_ok {W H : Nat} (hW : W ≤ 60) (hH : H ≤ 30) (x2 x3 : Int) (t : TTree) (rs : List TRule) (B : List TBox) (R : TPainter)
    (h : spec_painter_part ⟨rs, B, 0, W, H, List.replicate (W * H) 32, List.replicate (W * H) (-1)⟩ t [] [0, 0, 0, 0, 0] ⟨0, 0, x2, x3⟩ = some R) :
    ∀ k, k ≤ W * H → ∀ r q : List Int, r.length = W * H → q.length = W * H → r.take k = List.replicate k 32 → q.take k = List.replicate k (-1) → spec_painted_b1 x2 x3 k t ⟨rs, B, 0, W, H, r, q⟩ = some R := by
  have hWH : W * H ≤ 60 * 30 := Nat.mul_le_mul hW hH
  refine upto _ ?_ ?_
  · intro r q hr hq e1 e2
    rw [List.take_of_length_le (by omega)] at e1 e2
    subst e1 e2
    refine spec_painted_b1_of _ _ _ _ _ ?_
    simp only [List.length_replicate, dge, Bool.false_eq_true, if_false, h, Option.bind_some]
  · intro k hk ih r q hr hq e1 e2
    refine spec_painted_b1_of _ _ _ _ _ ?_
    simp only [hr, dlt hk, if_true, rdx_nat (show k < r.length by omega), rdx_nat (show k < q.length by omega), Option.bind_some, w64s (show (k : Int) + 1 < 9223372036854775808 by omega), Int.toNat_natCast]
    have tk : ∀ (l : List Int) (v : Int), k < l.length → l.take k = List.replicate k v → (l.set k v).take (k + 1) = List.replicate (k + 1) v := by
      intro l v hl e
      rw [take_set hl, e, List.replicate_succ']
    exact ih _ _ (by simp [hr]) (by simp [hq]) (tk r 32 (by omega) e1) (tk q (-1) (by omega) e2)

theorem painted_ok (rs : List TRule) (hm : Rm rs) (hg : Gv rs) (t : TTree) (hv : Va t) (hd : depth t ≤ 1000) (hn : nodes t ≤ 200) {W H : Nat} (hW : W ≤ 60) (hH : H ≤ 30) :
    ∃ s', Cp W H s' (screen rs t W H) ∧ spec_painted t rs W H = some ⟨rs, (lay rs t [] 0 0 0 W).2, (nodes t : Int), W, H, s'.1, s'.2⟩ := by
  have hWH : W * H ≤ 60 * 30 := Nat.mul_le_mul hW hH
  have hk := nodes_eq t
  have e2 := boxes_ok rs hm hg t hv hd (by omega) W (by omega) (by omega)
  have hll := lay_len rs t [] 0 0 0 W hv
  have hblank : Cp W H (List.replicate (W * H) 32, List.replicate (W * H) (-1)) blank := by
    refine ⟨by simp, by simp, fun x y hx hy => ?_⟩
    have : y * W + x < W * H := by
      have := Nat.mul_le_mul_right W (show y + 1 ≤ H from hy)
      rw [Nat.succ_mul, Nat.mul_comm H W] at this
      omega
    simp [this, blank]
  obtain ⟨s', p1, p2⟩ := part_sp hW hH rs hm hg t hv (by omega) (fun k hk' => part_v_all hW hH rs hm hg k (hv.ks k hk') (by have := nodes_kid t.Kids k hk'; omega)) [] [0, 0, 0, 0, 0] ⟨0, 0, W, H⟩ (lay rs t [] 0 0 0 W).2 0 _ blank rfl (by simpa using hd) (by decide) (by decide)
    (screen_ck W H hW hH) (lay_all_bd rs hg t hv hn hW) (by omega) (by omega) hblank
  refine ⟨s', p1, spec_painted_of _ _ _ _ ?_⟩
  have eWH : w64 ((W : Int) * (H : Int)) = ((W * H : Nat) : Int) := by rw [show (W : Int) * (H : Int) = ((W * H : Nat) : Int) by simp, w64_id (by omega) (by omega)]
  have := blank_ok hW hH W H t rs (lay rs t [] 0 0 0 W).2 _ (by simpa using p2) 0 (by omega) (List.replicate (W * H) 0) (List.replicate (W * H) 0) (by simp) (by simp) (by simp) (by simp)
  rw [e2, Option.bind_some, eWH, if_pos (by omega), if_pos (by omega), Int.toNat_natCast]
  simpa using this
end Go.Fw.Law
namespace Go.Fw.Law
open Go Go.Fw

theorem tos_ok : ∀ {xs : List Int}, (∀ x ∈ xs, 0 ≤ x ∧ x < 256) → tos xs = some (xs.map fun n => UInt8.ofNat n.toNat)
  | [], _ => rfl
  | n :: xs, h => by
    have e : n = ((UInt8.ofNat n.toNat).toNat : Int) := by
      have := h n (by simp)
      rw [UInt8.toNat_ofNat']
      omega
    have ih : bytesOf (xs.map eU8) = _ := tos_ok (xs := xs) fun x hx => h x (by simp [hx])
    show bytesOf ([.int .u8 n] :: xs.map eU8) = _
    rw [bytesOf, if_pos e, ih]
    rfl

/-- A picture of bytes. -/
def Byt (F : Pic) : Prop := ∀ x y, 0 ≤ (F x y).1 ∧ (F x y).1 < 256
theorem oneF_byt {t : TTree} {m : Int} {box see : TBox} {a : Int} {F : Pic} (h : Byt F) : Byt (oneF t m box see a F) := by
  intro x y
  have hu : ∀ c : UInt8, 0 ≤ (c.toNat : Int) ∧ (c.toNat : Int) < 256 := fun c => by have := c.toNat_lt; omega
  unfold oneF
  split
  · unfold val
    split
    · split
      · exact hu _
      · exact h x y
    · split
      · exact h x y
      · exact hu _
  · exact h x y
theorem pnt_byt (rs : List TRule) (B : List TBox) : ∀ t above mark clip a F, Byt F → Byt (pnt rs B t above mark clip a F) := by
  refine TTree.ind ?_
  intro t ih above mark clip a F hF
  rw [pnt_eq]
  have : ∀ (ts : List TTree), (∀ k ∈ ts, ∀ above mark clip a F, Byt F → Byt (pnt rs B k above mark clip a F)) → ∀ above mark clip a F, Byt F → Byt (pntL rs B ts above mark clip a F) := by
    intro ts
    induction ts with
    | nil => intro _ _ _ _ _ F hF; rw [pntL]; exact hF
    | cons k ts ihl => intro hk above mark clip a F hF; rw [pntL]; exact ihl (fun k hk' => hk k (by simp [hk'])) _ _ _ _ _ (hk k (by simp) _ _ _ _ _ hF)
  exact this _ ih _ _ _ _ _ (oneF_byt hF)
theorem screen_byt (rs : List TRule) (t : TTree) (W H : Nat) : Byt (screen rs t W H) := pnt_byt _ _ _ _ _ _ _ _ fun _ _ => by simp [blank]

def rowL (F : Pic) (W y : Nat) : List Int := (List.range W).map fun x : Nat => (F x y).1
def rowS (F : Pic) (W y : Nat) : Str := (rowL F W y).map fun n => UInt8.ofNat n.toNat
def rowsS (F : Pic) (W H : Nat) : List Str := (List.range H).map (rowS F W)
theorem rowS_len (F : Pic) (W y : Nat) : (rowS F W y).length = W := by simp [rowS, rowL]
theorem rowsS_len (F : Pic) (W H : Nat) : (rowsS F W H).length = H := by simp [rowsS]
theorem tos_row {F : Pic} (h : Byt F) (W y : Nat) : tos (rowL F W y) = some (rowS F W y) := tos_ok fun x hx => by
  obtain ⟨k, _, rfl⟩ := List.mem_map.1 hx
  exact h _ _
theorem rowsS_succ (F : Pic) (W k : Nat) : rowsS F W (k + 1) = rowsS F W k ++ [rowS F W k] := by simp [rowsS, List.range_succ]

theorem paint_rows {W H : Nat} (hH : H ≤ 30) {s : List (List Int) × List (List Int)} {F : Pic} (hF : Byt F) (hs : Cv W H s F) : ∀ k, k ≤ H → impl_paint_b1 (rowsS F W k) s.1 H k = some (rowsS F W H) := by
  refine upto _ (impl_paint_b1_of _ _ _ _ (by simp)) ?_
  intro k hk ih
  obtain ⟨_, _, hc⟩ := hs
  obtain ⟨r, _, e1, _, e3, _, e5⟩ := hc k hk
  have hr : r = rowL F W k := by
    apply List.ext_getElem?
    intro x
    by_cases hx : x < W
    · rw [(e5 x hx).1]; simp [rowL, hx]
    · rw [List.getElem?_eq_none (by omega), List.getElem?_eq_none (by simp [rowL]; omega)]
  refine impl_paint_b1_of _ _ _ _ ?_
  simp only [dlt hk, if_true, rdx_q e1, Option.bind_some, hr, tos_row hF, w64s (show (k : Int) + 1 < 9223372036854775808 by omega)]
  rw [if_pos (apN 16 _ _ (by omega) (by rw [rowsS_len]; omega) (by simp)), ← rowsS_succ]
  exact ih

theorem ipaint_ok (rs : List TRule) (hm : Rm rs) (hg : Gv rs) (t : TTree) (hv : Va t) (hd : depth t ≤ 1000) (hn : nodes t ≤ 200) {W H : Nat} (hW : W ≤ 60) (hH : H ≤ 30) : impl_paint t rs W H = some (rowsS (screen rs t W H) W H) := by
  obtain ⟨s, p1, p2⟩ := newCanvas_ok rs hm hg t hv hd hn hW hH
  refine impl_paint_of _ _ _ _ ?_
  have := paint_rows hH (screen_byt rs t W H) p1 0 (by omega)
  have hl : s.1.length = H := p1.1
  simp only [p2, Option.bind_some, hl]
  simpa [rowsS] using this

theorem spec_rows {W H : Nat} (hW : W ≤ 60) (hH : H ≤ 30) (rs : List TRule) (B : List TBox) (a : Int) {s : List Int × List Int} {F : Pic} (hF : Byt F) (hs : Cp W H s F) :
    ∀ k, k ≤ H → spec_painter_rows_b1 (rowsS F W k) k ⟨rs, B, a, W, H, s.1, s.2⟩ = some (rowsS F W H, ⟨rs, B, a, W, H, s.1, s.2⟩) := by
  refine upto _ (spec_painter_rows_b1_of _ _ _ (by simp)) ?_
  intro k hk ih
  obtain ⟨l1, _, hc⟩ := hs
  have hm1 : (k + 1) * W ≤ 30 * 60 := Nat.mul_le_mul (by omega) hW
  have hm2 : (k + 1) * W ≤ W * H := by rw [Nat.mul_comm W H]; exact Nat.mul_le_mul_right W hk
  have hm3 : (k + 1) * W = k * W + W := Nat.succ_mul k W
  have e1 : w64 ((k : Int) * (W : Int)) = ((k * W : Nat) : Int) := by rw [show (k : Int) * (W : Int) = ((k * W : Nat) : Int) by simp, w64_id (by omega) (by omega)]
  have e2 : w64 (((k + 1 : Nat) : Int) * (W : Int)) = (((k + 1) * W : Nat) : Int) := by rw [show ((k + 1 : Nat) : Int) * (W : Int) = (((k + 1) * W : Nat) : Int) by simp, w64_id (by omega) (by omega)]
  have hr : sub s.1 ((k * W : Nat) : Int) (((k + 1) * W : Nat) : Int) = rowL F W k := by
    unfold sub
    rw [Int.toNat_natCast, Int.toNat_natCast]
    apply List.ext_getElem?
    intro x
    by_cases hx : x < W
    · rw [List.getElem?_take, if_pos (by omega), List.getElem?_drop, (hc x k hx hk).1]; simp [rowL, hx]
    · rw [List.getElem?_eq_none (by simp; omega), List.getElem?_eq_none (by simp [rowL]; omega)]
  refine spec_painter_rows_b1_of _ _ _ ?_
  simp only [dlt hk, if_true, w64s (show (k : Int) + 1 < 9223372036854775808 by omega), e1, e2, hr, tos_row hF, Option.bind_some]
  rw [if_pos (by omega), if_pos (apN 16 _ _ (by omega) (by rw [rowsS_len]; omega) (by simp)), ← rowsS_succ]
  exact ih

theorem spaint_ok (rs : List TRule) (hm : Rm rs) (hg : Gv rs) (t : TTree) (hv : Va t) (hd : depth t ≤ 1000) (hn : nodes t ≤ 200) {W H : Nat} (hW : W ≤ 60) (hH : H ≤ 30) :
    ∃ p, spec_painted t rs W H = some p ∧ spec_painter_rows p = some (rowsS (screen rs t W H) W H, p) := by
  obtain ⟨s, p1, p2⟩ := painted_ok rs hm hg t hv hd hn hW hH
  refine ⟨_, p2, spec_painter_rows_of _ ?_⟩
  have := spec_rows hW hH rs (lay rs t [] 0 0 0 W).2 (nodes t) (screen_byt rs t W H) p1 0 (by omega)
  simpa [rowsS] using this
theorem screenB_va {t : TTree} {rs : List TRule} {w h : Int} (hl : Lm 1048576 t) (hs : screenB t rs w h = true) : Va t ∧ depth t ≤ 24 ∧ nodes t ≤ 200 ∧ Gv rs ∧ ∃ W H : Nat, w = W ∧ h = H ∧ W ≤ 60 ∧ H ≤ 30 := by
  simp only [screenB, Bool.and_eq_true] at hs
  obtain ⟨⟨⟨h1, h2⟩, h3⟩, h4⟩ := hs
  obtain ⟨hv, hd, hn⟩ := treeB_va t hl h1
  simp only [inB, Bool.and_eq_true, decide_eq_true_eq] at h3 h4
  obtain ⟨W, rfl⟩ := Int.eq_ofNat_of_zero_le h3.1
  obtain ⟨H, rfl⟩ := Int.eq_ofNat_of_zero_le h4.1
  exact ⟨hv, hd, hn, rulesB_gv rs h2, W, H, rfl, rfl, by omega, by omega⟩
end Go.Fw.Law
namespace Go.Fw.Law
open Go Go.Fw

/-- Left, top, right and bottom of what was found different. -/
abbrev Dm := Option (Int × Int × Int × Int)
def stepD (x y : Int) : Dm → Dm
  | none => some (x, y, x, y)
  | some (l, t, r, _) => some (min l x, t, max r x, y)
def dRow : Str → Str → Int → Int → Dm → Dm
  | a :: us, b :: vs, x, y, D => dRow us vs (x + 1) y (if a = b then D else stepD x y D)
  | _, _, _, _, D => D
def dRows : List Str → List Str → Int → Dm → Dm
  | a :: us, b :: vs, y, D => dRows us vs (y + 1) (dRow a b 0 y D)
  | _, _, _, D => D
def finD : Dm → TBox
  | none => ⟨0, 0, 0, 0⟩
  | some (l, t, r, b) => ⟨l, t, r - l + 1, b - t + 1⟩
def OkD (W : Nat) (y : Int) : Dm → Prop
  | none => True
  | some (l, t, r, b) => 0 ≤ l ∧ l ≤ r ∧ r < W ∧ 0 ≤ t ∧ t ≤ b ∧ b ≤ y
theorem OkD.step {W : Nat} {x y : Int} {D : Dm} (h : OkD W y D) (hx : 0 ≤ x ∧ x < W) (hy : 0 ≤ y) : OkD W y (stepD x y D) := by
  match D, h with
  | none, _ => exact ⟨hx.1, Int.le_refl _, hx.2, hy, Int.le_refl _, Int.le_refl _⟩
  | some (l, t, r, b), h => simp only [OkD, stepD] at h ⊢; omega
theorem OkD.row {W : Nat} {y : Int} (hy : 0 ≤ y) : ∀ {us vs : Str} {x : Int} {D : Dm}, 0 ≤ x → x + us.length ≤ W → OkD W y D → OkD W y (dRow us vs x y D)
  | [], _, _, D, _, _, h => by unfold dRow; exact h
  | _ :: _, [], _, D, _, _, h => by unfold dRow; exact h
  | a :: us, b :: vs, x, D, hx, hl, h => by
    rw [dRow]
    simp only [List.length_cons] at hl
    refine OkD.row hy (by omega) (by omega) ?_
    split
    · exact h
    · exact h.step ⟨hx, by omega⟩ hy
theorem OkD.le {W : Nat} {y z : Int} {D : Dm} (h : OkD W y D) (hz : y ≤ z) : OkD W z D := by
  match D, h with
  | none, _ => trivial
  | some (l, t, r, b), h => simp only [OkD] at h ⊢; omega

def pL (W : Nat) : Dm → Int | none => W | some (l, _) => l
def pT (H : Nat) : Dm → Int | none => H | some (_, t, _) => t
def pR : Dm → Int | none => -1 | some (_, _, r, _) => r
def pB : Dm → Int | none => -1 | some (_, _, _, b) => b
theorem step_prog {W H : Nat} {x y : Int} (hx : 0 ≤ x ∧ x < W) (hy : 0 ≤ y ∧ y < H) {D : Dm} (h : OkD W y D) :
    min (pL W D) x = pL W (stepD x y D) ∧ min (pT H D) y = pT H (stepD x y D) ∧ max (pR D) x = pR (stepD x y D) ∧ max (pB D) y = pB (stepD x y D) := by
  match D, h with
  | none, _ => simp only [pL, pT, pR, pB, stepD]; omega
  | some (l, t, r, b), h =>
    simp only [OkD] at h
    simp only [pL, pT, pR, pB, stepD]
    exact ⟨trivial, by omega, trivial, by omega⟩
theorem u8_eq (a b : UInt8) : decide ((a.toNat : Int) = (b.toNat : Int)) = decide (a = b) := by
  congr 1
  apply propext
  exact ⟨fun h => UInt8.toNat_inj.1 (by omega), fun h => by rw [h]⟩

section
variable {W H : Nat} (hW : W ≤ 60) (hH : H ≤ 30) {A B : List Str} (hA : A.length = H) (hB : B.length = H) (wA : ∀ s ∈ A, s.length = W) (wB : ∀ s ∈ B, s.length = W)
include hW hH hA hB wA wB

theorem row_prog (y : Nat) (hy : y < H) (Z R : TBox) : ∀ k, k ≤ W → ∀ D, OkD W y D →
    impl_DamageOf_b1 A B (pL W (dRow ((A[y]'(by omega)).drop k) ((B[y]'(by omega)).drop k) k y D)) (pT H (dRow ((A[y]'(by omega)).drop k) ((B[y]'(by omega)).drop k) k y D)) (pR (dRow ((A[y]'(by omega)).drop k) ((B[y]'(by omega)).drop k) k y D))
      (pB (dRow ((A[y]'(by omega)).drop k) ((B[y]'(by omega)).drop k) k y D)) H ((y + 1 : Nat) : Int) Z = some R →
    impl_DamageOf_b2 A B (pL W D) (pT H D) (pR D) (pB D) y H y W k Z = some R := by
  have la : (A[y]'(by omega)).length = W := wA _ (List.getElem_mem _)
  have lb : (B[y]'(by omega)).length = W := wB _ (List.getElem_mem _)
  have ra : rdx A (y : Int) = some (A[y]'(by omega)) := rdx_nat (by omega)
  have rb : rdx B (y : Int) = some (B[y]'(by omega)) := rdx_nat (by omega)
  generalize (A[y]'(by omega)) = a at la ra
  generalize (B[y]'(by omega)) = b at lb rb
  refine upto _ ?_ ?_
  · intro D _ h
    rw [List.drop_eq_nil_of_le (by omega), List.drop_eq_nil_of_le (by omega)] at h
    simp only [dRow] at h
    refine impl_DamageOf_b2_of _ _ _ _ _ _ _ _ _ _ _ _ ?_
    rw [dge]
    simp only [Bool.false_eq_true, if_false, w64s (show (y : Int) + 1 < 9223372036854775808 by omega)]
    exact h
  · intro k hk ih D hD h
    rw [drop_at (show k < a.length by omega), drop_at (show k < b.length by omega), dRow] at h
    refine impl_DamageOf_b2_of _ _ _ _ _ _ _ _ _ _ _ _ ?_
    have e1 := w64s (show (k : Int) + 1 < 9223372036854775808 by omega)
    simp only [dlt hk, if_true, ra, rb, rdx_nat (show k < a.length by omega), rdx_nat (show k < b.length by omega), Option.bind_some, u8_eq, e1]
    by_cases e : a[k] = b[k]
    · rw [if_pos e] at h
      simp only [e, decide_true, Bool.not_true, Bool.false_eq_true, if_false]
      exact ih D hD (by rw [show ((k + 1 : Nat) : Int) = (k : Int) + 1 by omega]; exact h)
    · rw [if_neg e] at h
      obtain ⟨p1, p2, p3, p4⟩ := step_prog (W := W) (H := H) (x := k) (y := y) (by omega) (by omega) hD
      simp only [decide_eq_false e, Bool.not_false, if_true, p1, p2, p3, p4]
      exact ih _ (hD.step (by omega) (by omega)) (by rw [show ((k + 1 : Nat) : Int) = (k : Int) + 1 by omega]; exact h)

theorem rows_prog (Z : TBox) : ∀ k, k ≤ H → ∀ D, OkD W k D → impl_DamageOf_b1 A B (pL W D) (pT H D) (pR D) (pB D) H k Z = some (finD (dRows (A.drop k) (B.drop k) k D)) := by
  refine upto _ ?_ ?_
  · intro D hD
    refine impl_DamageOf_b1_of _ _ _ _ _ _ _ _ _ ?_
    rw [dge, List.drop_eq_nil_of_le (by omega), List.drop_eq_nil_of_le (by omega)]
    simp only [dRows, Bool.false_eq_true, if_false]
    match D, hD with
    | none, _ => simp [pR, finD]
    | some (l, t, r, b), h =>
      simp only [OkD] at h
      simp only [pL, pT, pR, pB, finD]
      have hr0 : decide (r < 0) = false := decide_eq_false (by omega)
      show (if decide (r < 0) = true then _ else _) = _
      rw [hr0, if_neg (by simp), w64_id (x := r - l) (by omega) (by omega), w64_id (x := b - t) (by omega) (by omega), w64_id (by omega) (by omega), w64_id (by omega) (by omega)]
  · intro k hk ih D hD
    have la : (A[k]'(by omega)).length = W := wA _ (List.getElem_mem _)
    refine impl_DamageOf_b1_of _ _ _ _ _ _ _ _ _ ?_
    simp only [dlt hk, if_true, rdx_nat (show k < A.length by omega), Option.bind_some, la]
    rw [drop_at (show k < A.length by omega), drop_at (show k < B.length by omega), dRows]
    have := row_prog hW hH hA hB wA wB k hk Z _ 0 (by omega) D hD (by
      rw [List.drop_zero, List.drop_zero]
      exact ih _ ((OkD.row (by omega) (by omega) (by simp; omega) hD).le (by omega)))
    rw [show ((k + 1 : Nat) : Int) = (k : Int) + 1 by omega] at this
    exact this

theorem row_spec (y : Nat) (hy : y < H) (Z R : TBox) : ∀ k, k ≤ W → ∀ D, OkD W y D →
    spec_differs_b1 A B (dRow ((A[y]'(by omega)).drop k) ((B[y]'(by omega)).drop k) k y D).isNone ((y + 1 : Nat) : Int) Z (finD (dRow ((A[y]'(by omega)).drop k) ((B[y]'(by omega)).drop k) k y D)) = some R →
    spec_differs_b2 A B D.isNone y k Z (finD D) = some R := by
  have la : (A[y]'(by omega)).length = W := wA _ (List.getElem_mem _)
  have lb : (B[y]'(by omega)).length = W := wB _ (List.getElem_mem _)
  have ra : rdx A (y : Int) = some (A[y]'(by omega)) := rdx_nat (by omega)
  have rb : rdx B (y : Int) = some (B[y]'(by omega)) := rdx_nat (by omega)
  generalize (A[y]'(by omega)) = a at la ra
  generalize (B[y]'(by omega)) = b at lb rb
  refine upto _ ?_ ?_
  · intro D _ h
    rw [List.drop_eq_nil_of_le (by omega), List.drop_eq_nil_of_le (by omega)] at h
    simp only [dRow] at h
    refine spec_differs_b2_of _ _ _ _ _ _ _ ?_
    simp only [ra, Option.bind_some, la, dge, Bool.false_eq_true, if_false, w64s (show (y : Int) + 1 < 9223372036854775808 by omega)]
    exact h
  · intro k hk ih D hD h
    rw [drop_at (show k < a.length by omega), drop_at (show k < b.length by omega), dRow] at h
    refine spec_differs_b2_of _ _ _ _ _ _ _ ?_
    have e1 := w64s (show (k : Int) + 1 < 9223372036854775808 by omega)
    simp only [ra, rb, Option.bind_some, la, dlt hk, if_true, rdx_nat (show k < a.length by omega), rdx_nat (show k < b.length by omega), u8_eq, e1]
    by_cases e : a[k] = b[k]
    · rw [if_pos e] at h
      simp only [e, decide_true, if_true]
      exact ih D hD (by rw [show ((k + 1 : Nat) : Int) = (k : Int) + 1 by omega]; exact h)
    · rw [if_neg e] at h
      have hh := ih _ (hD.step (x := k) (by omega) (by omega)) (by rw [show ((k + 1 : Nat) : Int) = (k : Int) + 1 by omega]; exact h)
      simp only [decide_eq_false e, Bool.false_eq_true, if_false]
      match D, hD, hh with
      | none, _, hh =>
        simp only [Option.isNone_none, if_true]
        simpa [stepD, finD] using hh
      | some (l, t, r, b), hD, hh =>
        simp only [OkD] at hD
        simp only [Option.isNone_some, Bool.false_eq_true, if_false, finD]
        rw [w64_id (x := l + (r - l + 1)) (by omega) (by omega), w64s (show (y : Int) + 1 < 9223372036854775808 by omega), w64_id (x := max (l + (r - l + 1)) ((k + 1 : Nat) : Int) - min l k) (by omega) (by omega), w64_id (x := ((y + 1 : Nat) : Int) - t) (by omega) (by omega)]
        simp only [stepD, finD, Option.isNone_some] at hh
        rw [show max (l + (r - l + 1)) ((k + 1 : Nat) : Int) - min l (k : Int) = max r (k : Int) - min l (k : Int) + 1 by omega, show ((y + 1 : Nat) : Int) - t = (y : Int) - t + 1 by omega]
        exact hh

theorem rows_spec (Z : TBox) : ∀ k, k ≤ H → ∀ D, OkD W k D → spec_differs_b1 A B D.isNone k Z (finD D) = some (finD (dRows (A.drop k) (B.drop k) k D)) := by
  refine upto _ ?_ ?_
  · intro D hD
    refine spec_differs_b1_of _ _ _ _ _ _ ?_
    rw [hA, dge, List.drop_eq_nil_of_le (by omega), List.drop_eq_nil_of_le (by omega)]
    simp only [dRows, Bool.false_eq_true, if_false]
  · intro k hk ih D hD
    have la : (A[k]'(by omega)).length = W := wA _ (List.getElem_mem _)
    refine spec_differs_b1_of _ _ _ _ _ _ ?_
    rw [hA, dlt hk, if_pos rfl]
    rw [drop_at (show k < A.length by omega), drop_at (show k < B.length by omega), dRows]
    have := row_spec hW hH hA hB wA wB k hk Z _ 0 (by omega) D hD (by
      rw [List.drop_zero, List.drop_zero]
      exact ih _ ((OkD.row (by omega) (by omega) (by simp; omega) hD).le (by omega)))
    rw [show ((k + 1 : Nat) : Int) = (k : Int) + 1 by omega] at this
    exact this
end

theorem rowsS_mem {F : Pic} {W H : Nat} : ∀ s ∈ rowsS F W H, s.length = W := by
  intro s hs
  obtain ⟨y, _, rfl⟩ := List.mem_map.1 hs
  exact rowS_len _ _ _

theorem eqBox1_ok (x : TBox) : laws_eqBox x x = some true := laws_eqBox_of _ _ (by simp)

theorem DamageOf_ok (a b : TTree) (la : Lm 1048576 a) (lb : Lm 1048576 b) (rs : List TRule) (hm : Rm rs) (w h : Int) : ∃ r, spec_DamageOf a b rs w h = some r ∧ impl_DamageOf a b rs w h = some r := by
  have e1 := validScreen_ok a la rs w h
  have e2 := paintOk_ok a la rs hm w h
  have e3 := validTree_ok b lb
  have e4 := TreeOk_ok b lb
  by_cases hs : screenB a rs w h = true
  · by_cases ht : treeB b = true
    · obtain ⟨hv, hd, hn, hg, W, H, rfl, rfl, hW, hH⟩ := screenB_va la hs
      obtain ⟨hv', hd', hn'⟩ := treeB_va b lb ht
      obtain ⟨p, p1, p2⟩ := spaint_ok rs hm hg a hv (by omega) hn hW hH
      obtain ⟨q, q1, q2⟩ := spaint_ok rs hm hg b hv' (by omega) hn' hW hH
      have i1 := ipaint_ok rs hm hg a hv (by omega) hn hW hH
      have i2 := ipaint_ok rs hm hg b hv' (by omega) hn' hW hH
      have k1 := rows_prog hW hH (rowsS_len (screen rs a W H) W H) (rowsS_len (screen rs b W H) W H) rowsS_mem rowsS_mem ⟨0, 0, 0, 0⟩ 0 (by omega) none trivial
      have k2 := rows_spec hW hH (rowsS_len (screen rs a W H) W H) (rowsS_len (screen rs b W H) W H) rowsS_mem rowsS_mem ⟨0, 0, 0, 0⟩ 0 (by omega) none trivial
      refine ⟨finD (dRows (rowsS (screen rs a W H) W H) (rowsS (screen rs b W H) W H) 0 none), spec_DamageOf_of _ _ _ _ _ ?_, impl_DamageOf_of _ _ _ _ _ ?_⟩
      · have : spec_differs (rowsS (screen rs a W H) W H) (rowsS (screen rs b W H) W H) = some (finD (dRows (rowsS (screen rs a W H) W H) (rowsS (screen rs b W H) W H) 0 none)) := spec_differs_of _ _ (by simpa [finD] using k2)
        simp only [e1, hs, e3, ht, Option.bind_some, Bool.not_true, Bool.false_eq_true, if_false, p1, p2, q1, q2, this]
      · simp only [e2, hs, e4, ht, Option.bind_some, Bool.not_true, Bool.false_eq_true, if_false, i1, i2, rowsS_len]
        simpa [pL, pT, pR, pB] using k1
    · exact ⟨⟨0, 0, 0, 0⟩, spec_DamageOf_of _ _ _ _ _ (by simp [e1, hs, e3, ht]), impl_DamageOf_of _ _ _ _ _ (by simp [e2, hs, e4, ht])⟩
  · exact ⟨⟨0, 0, 0, 0⟩, spec_DamageOf_of _ _ _ _ _ (by simp [e1, hs]), impl_DamageOf_of _ _ _ _ _ (by simp [e2, hs])⟩

/-- The law: the program's damage is the reference's. -/
theorem law_DamageOf (a : TTree) (ha : Lm 9223372036854775807 a) (b : TTree) (hb : Lm 9223372036854775807 b) (rs : List TRule) (hr : rs.length ≤ 9223372036854775807) (hx : ∀ x ∈ rs, x.Val.Text.length ≤ 9223372036854775807) (w h : Int) : laws_FnExactDamageOf a b rs w h = some true := by
  obtain ⟨r1, s1, s2, s3⟩ := szTree_ok a ha 1048576 (by omega) (by omega)
  refine laws_FnExactDamageOf_of _ _ _ _ _ ?_
  rw [s1]
  by_cases h1 : r1 < 0
  · simp [h1]
  · obtain ⟨r2, t1, t2, t3⟩ := szTree_ok b hb r1 (by omega) (by omega)
    by_cases h2 : r2 < 0
    · simp [h1, t1, h2]
    · obtain ⟨r3, q1, q2, q3⟩ := szRuleS_ok rs r2 hr hx (by omega) (by omega)
      by_cases h3 : r3 < 0
      · simp [h1, t1, h2, q1, h3]
      · have la := s3 (by omega)
        have lb := t3 (by omega)
        obtain ⟨l1, l2⟩ := q3 (by omega)
        have hm : Rm rs := ⟨by omega, fun x hx' => by have := l2 x hx'; omega⟩
        obtain ⟨r, u1, u2⟩ := DamageOf_ok a b la lb rs hm w h
        simp only [Option.bind_some, decide_eq_false h1, Bool.false_eq_true, if_false, t1, decide_eq_false h2, q1, decide_eq_false h3, toTree_ok a la, toTree_ok b lb, toRuleS_ok rs hm.1, u1, u2, eqBox1_ok, Bool.not_true, eqTree_ok a la, eqTree_ok b lb, eqRuleS_ok rs hm.1]
end Go.Fw.Law
