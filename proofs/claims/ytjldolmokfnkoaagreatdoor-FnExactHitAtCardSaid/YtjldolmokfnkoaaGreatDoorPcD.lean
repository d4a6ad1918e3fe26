/- Plain laws of painting, part D: the reference paints a tree. Plain laws of painting, part E: what stands in a cell, by both, and the law FnExactHitAt. Conditions: none. -/
import Derived.Test.YtjldolmokfnkoaaGreatDoorPnE
namespace Go.Fw.Law
open Go Go.Fw

def Cp (W H : Nat) (s : List Int × List Int) (F : Pic) : Prop := s.1.length = W * H ∧ s.2.length = W * H ∧ ∀ x y : Nat, x < W → y < H → s.1[y * W + x]? = some (F x y).1 ∧ s.2[y * W + x]? = some (F x y).2

theorem flat_inj {W x y x' y' : Nat} (hx : x < W) (hx' : x' < W) (h : y * W + x = y' * W + x') : x = x' ∧ y = y' := by
  have : y = y' := by
    rcases Nat.lt_trichotomy y y' with h1 | h1 | h1
    · have := Nat.mul_le_mul_right W (show y + 1 ≤ y' from h1)
      rw [Nat.succ_mul] at this
      omega
    · exact h1
    · have := Nat.mul_le_mul_right W (show y' + 1 ≤ y from h1)
      rw [Nat.succ_mul] at this
      omega
  subst this
  exact ⟨by omega, rfl⟩

theorem holds_ok {b : TBox} (hb : Bd b) (x y : Int) : spec_holds b x y = some (decide (inR b x y)) := by
  refine spec_holds_of _ _ _ ?_
  obtain ⟨⟨b1, b2⟩, ⟨b3, b4⟩, ⟨b5, b6⟩, b7, b8⟩ := hb
  rw [w64_id (x := b.Left + b.Wide) (by omega) (by omega), w64_id (x := b.Top + b.High) (by omega) (by omega)]
  simp only [inR]
  by_cases h1 : b.Left ≤ x <;> by_cases h2 : x < b.Left + b.Wide <;> by_cases h3 : b.Top ≤ y <;> by_cases h4 : y < b.Top + b.High <;> simp [h1, h2, h3, h4]

theorem meet_ok {b c : TBox} (hb : Bd b) (hc : Bd c) : spec_meet c b = some (meetB c b) := by
  refine spec_meet_of _ _ ?_
  obtain ⟨⟨b1, b2⟩, ⟨b3, b4⟩, ⟨b5, b6⟩, b7, b8⟩ := hb
  obtain ⟨⟨c1, c2⟩, ⟨c3, c4⟩, ⟨c5, c6⟩, c7, c8⟩ := hc
  rw [w64_id (x := b.Left + b.Wide) (by omega) (by omega), w64_id (x := c.Left + c.Wide) (by omega) (by omega), w64_id (x := b.Top + b.High) (by omega) (by omega), w64_id (x := c.Top + c.High) (by omega) (by omega),
    w64_id (x := min (c.Left + c.Wide) (b.Left + b.Wide) - max c.Left b.Left) (by omega) (by omega), w64_id (x := min (c.Top + c.High) (b.Top + b.High) - max c.Top b.Top) (by omega) (by omega)]
  rfl

theorem markOf_ok (m : Int) (h : 0 ≤ m) : spec_markOf m = some (byteAt m) := by
  refine spec_markOf_of _ ?_
  have hm9 := Int.tmod_lt_of_pos m (show (0 : Int) < 9 by decide)
  have hm0 := Int.tmod_nonneg (9 : Int) h
  have hlt : (m.tmod 9).toNat < ([46, 58, 45, 61, 43, 42, 35, 37, 64] : Str).length := by show _ < 9; omega
  simp only [rdx_int hm0 hlt, Option.bind_some, byteAt]
  rw [List.getD_eq_getElem?_getD, List.getElem?_eq_getElem hlt]; rfl

section
variable {W H : Nat} (hW : W ≤ 60) (hH : H ≤ 30) {see : TBox} (hc : Ck W H see) (rs : List TRule) (B : List TBox)
include hW hH hc

theorem cell_ok {s : List Int × List Int} {F : Pic} (hs : Cp W H s F) (at_ x y b p : Int) :
    ∃ s', Cp W H s' (if inR see x y then upd F x y (b, p) else F) ∧ spec_painter_cell ⟨rs, B, at_, W, H, s.1, s.2⟩ see x y b p = some ⟨rs, B, at_, W, H, s'.1, s'.2⟩ := by
  by_cases hin : inR see x y
  · have hc' := hc
    obtain ⟨⟨⟨c1, c2⟩, ⟨c3, c4⟩, ⟨c5, c6⟩, c7, c8⟩, c9, c10⟩ := hc'
    have hr := hin
    simp only [inR] at hr
    obtain ⟨xn, rfl⟩ := Int.eq_ofNat_of_zero_le (show 0 ≤ x by omega)
    obtain ⟨yn, rfl⟩ := Int.eq_ofNat_of_zero_le (show 0 ≤ y by omega)
    have hx : xn < W := by omega
    have hy : yn < H := by omega
    obtain ⟨l1, l2, hcell⟩ := hs
    obtain ⟨e1, e2⟩ := hcell xn yn hx hy
    have hm : yn * W ≤ 30 * 60 := Nat.mul_le_mul (by omega) hW
    have eI : w64 (w64 ((yn : Int) * (W : Int)) + (xn : Int)) = ((yn * W + xn : Nat) : Int) := by
      rw [show (yn : Int) * (W : Int) = ((yn * W : Nat) : Int) by simp, w64_id (x := ((yn * W : Nat) : Int)) (by omega) (by omega), w64_id (by omega) (by omega)]; omega
    have b1 : yn * W + xn < s.1.length := by
      refine Nat.lt_of_not_le fun h => ?_
      rw [List.getElem?_eq_none h] at e1; simp at e1
    have b2 : yn * W + xn < s.2.length := by
      refine Nat.lt_of_not_le fun h => ?_
      rw [List.getElem?_eq_none h] at e2; simp at e2
    refine ⟨(s.1.set (yn * W + xn) b, s.2.set (yn * W + xn) p), ⟨by simp [l1], by simp [l2], fun x y hx' hy' => ?_⟩, spec_painter_cell_of _ _ _ _ _ _ ?_⟩
    · rw [if_pos hin]
      by_cases e : x = xn ∧ y = yn
      · obtain ⟨rfl, rfl⟩ := e
        simp [upd, b1, b2]
      · have hne : yn * W + xn ≠ y * W + x := fun h => e (by have := flat_inj hx hx' h; exact ⟨this.1.symm, this.2.symm⟩)
        rw [List.getElem?_set_ne hne, List.getElem?_set_ne hne]
        simp only [upd]
        rw [if_neg (by omega)]
        exact hcell x y hx' hy'
    · simp only [holds_ok hc.1, Option.bind_some, decide_eq_true hin, if_true, eI, rdx_q e1, rdx_q e2, Int.toNat_natCast]
  · refine ⟨s, by rw [if_neg hin]; exact hs, spec_painter_cell_of _ _ _ _ _ _ ?_⟩
    simp only [holds_ok hc.1, Option.bind_some, decide_eq_false hin, Bool.false_eq_true, if_false]
end

theorem idx_iff {box : TBox} (hw : 0 < box.Wide) {x y i : Int} (_hi : 0 ≤ i) (h : inR box x y) : idx box x y = i ↔ x = box.Left + i % box.Wide ∧ y = box.Top + i / box.Wide := by
  simp only [inR] at h
  have e1 := Int.mul_ediv_add_emod i box.Wide
  have e2 := Int.emod_nonneg i (show box.Wide ≠ 0 by omega)
  have e3 := Int.emod_lt_of_pos i hw
  unfold idx
  constructor
  · intro e
    have h1 : i = (x - box.Left) + box.Wide * (y - box.Top) := by rw [Int.mul_comm]; omega
    have h2 : i % box.Wide = x - box.Left := by rw [h1, Int.add_mul_emod_self_left, Int.emod_eq_of_lt (by omega) (by omega)]
    have h3 : i / box.Wide = y - box.Top := by rw [h1, Int.add_mul_ediv_left _ _ (by omega), Int.ediv_eq_zero_of_lt (by omega) (by omega)]; omega
    omega
  · rintro ⟨h1, h2⟩
    rw [show y - box.Top = i / box.Wide by omega, Int.mul_comm]
    omega

theorem nodesL_ln : ∀ ts : List TTree, ts.length ≤ nodesL ts := by
  intro ts
  induction ts with
  | nil => simp
  | cons a ts ih => have := nodes_eq a; rw [nodesL, List.length_cons]; omega

def SpOk (f : TPainter → TTree → List Int → List Int → TBox → Option TPainter) (W H : Nat) (rs : List TRule) (t : TTree) : Prop := ∀ (above inn : List Int) (clip : TBox) (B : List TBox) (a : Nat) (s : List Int × List Int) (F : Pic), inn.length = 5 → above.length + depth t ≤ 1000 → 0 ≤ inn.gd 4 → inn.gd 4 ≤ 60 →
  Ck W H clip → (∀ b ∈ B, Bd b) → a + nodes t ≤ B.length → B.length ≤ 1000 → Cp W H s F →
  ∃ s', Cp W H s' (pnt rs B t above (inn.gd 4) clip a F) ∧ f ⟨rs, B, a, W, H, s.1, s.2⟩ t above inn clip = some ⟨rs, B, ((a + nodes t : Nat) : Int), W, H, s'.1, s'.2⟩

section
variable {W H : Nat} (hW : W ≤ 60) (hH : H ≤ 30) {box see : TBox} (hb : Bd box) (hc : Ck W H see) (hin : ∀ x y, inR see x y → inR box x y) (rs : List TRule) (B : List TBox) (t : TTree) (a at_ : Int)

include hW hH hb hc hin in
theorem text_v_ok (hl : t.Text.length ≤ 12) : ∀ i, i ≤ t.Text.length → ∀ (s : List Int × List Int) (F : Pic), Cp W H s F →
    ∃ s', Cp W H s' (fun x y => if inR see x y ∧ (i : Int) ≤ idx box x y ∧ idx box x y < t.Text.length then (((t.Text.getD (idx box x y).toNat 0).toNat : Int), a) else F x y) ∧
      spec_painter_part_v_b1 a i ⟨rs, B, at_, W, H, s.1, s.2⟩ t see box = some ⟨rs, B, at_, W, H, s'.1, s'.2⟩ := by
  have hb' := hb
  obtain ⟨⟨b1, b2⟩, ⟨b3, b4⟩, ⟨b5, b6⟩, b7, b8⟩ := hb'
  refine upto _ ?_ ?_
  · intro s F hF
    refine ⟨s, (congrArg (Cp W H s) ?_).mp hF, spec_painter_part_v_b1_of _ _ _ _ _ _ (by simp)⟩
    funext x y
    rw [if_neg (by omega)]
  · intro i hi ih s F hF
    by_cases hw : 0 < box.Wide
    · have ei : w64 ((i : Int) + 1) = ((i + 1 : Nat) : Int) := w64s (by omega)
      have q1 : (i : Int).tmod box.Wide = (i : Int) % box.Wide := Int.tmod_eq_emod_of_nonneg (by omega)
      have q2 : (i : Int).tdiv box.Wide = (i : Int) / box.Wide := Int.tdiv_eq_ediv_of_nonneg (by omega)
      have e2 := Int.emod_nonneg (i : Int) (show box.Wide ≠ 0 by omega)
      have e3 := Int.emod_lt_of_pos (i : Int) hw
      have e4 : 0 ≤ (i : Int) / box.Wide := Int.ediv_nonneg (by omega) (by omega)
      have e5 : (i : Int) / box.Wide ≤ i := Int.ediv_le_self _ (by omega)
      have eX : w64 (box.Left + (i : Int) % box.Wide) = box.Left + (i : Int) % box.Wide := w64_id (by omega) (by omega)
      have eY : w64 (box.Top + w64 ((i : Int) / box.Wide)) = box.Top + (i : Int) / box.Wide := by rw [w64_id (x := (i : Int) / box.Wide) (by omega) (by omega), w64_id (by omega) (by omega)]
      obtain ⟨s1, p1, p2⟩ := cell_ok hW hH hc rs B hF at_ (box.Left + (i : Int) % box.Wide) (box.Top + (i : Int) / box.Wide) (t.Text[i].toNat : Int) a
      obtain ⟨s2, p3, p4⟩ := ih s1 _ p1
      refine ⟨s2, (congrArg (Cp W H s2) ?_).mp p3, spec_painter_part_v_b1_of _ _ _ _ _ _ ?_⟩
      · funext x y
        by_cases hxy : inR see x y
        · have hbx := hin x y hxy
          have hiff := idx_iff hw (show 0 ≤ (i : Int) by omega) hbx
          by_cases e : idx box x y = i
          · have e' := hiff.1 e
            rw [if_neg (by omega), ← e'.1, ← e'.2, if_pos hxy, if_pos ⟨hxy, by omega, by omega⟩]
            simp only [upd, and_self, if_true]
            rw [e, Int.toNat_natCast, List.getD_eq_getElem?_getD, List.getElem?_eq_getElem hi]
            rfl
          · have h2 : ¬ (x = box.Left + (i : Int) % box.Wide ∧ y = box.Top + (i : Int) / box.Wide) := fun h => e (hiff.2 h)
            have h3 : (if inR see (box.Left + (i : Int) % box.Wide) (box.Top + (i : Int) / box.Wide) then upd F (box.Left + (i : Int) % box.Wide) (box.Top + (i : Int) / box.Wide) ((t.Text[i].toNat : Int), a) else F) x y = F x y := by
              split
              · simp only [upd]; rw [if_neg h2]
              · rfl
            rw [h3]
            by_cases h4 : (i : Int) ≤ idx box x y ∧ idx box x y < t.Text.length
            · rw [if_pos ⟨hxy, by omega, h4.2⟩, if_pos ⟨hxy, h4⟩]
            · rw [if_neg (fun h => h4 ⟨by omega, h.2.2⟩), if_neg (fun h => h4 h.2)]
        · have h3 : (if inR see (box.Left + (i : Int) % box.Wide) (box.Top + (i : Int) / box.Wide) then upd F (box.Left + (i : Int) % box.Wide) (box.Top + (i : Int) / box.Wide) ((t.Text[i].toNat : Int), a) else F) x y = F x y := by
            split
            · rename_i hh
              simp only [upd]
              rw [if_neg (fun h => hxy (by rw [h.1, h.2]; exact hh))]
            · rfl
          rw [h3, if_neg (fun h => hxy h.1), if_neg (fun h => hxy h.1)]
      · simp only [dlt hi, if_true, decide_eq_true hw, show ¬ box.Wide = 0 by omega, not_false_eq_true, rdx_nat hi, Option.bind_some, q1, q2, eX, eY, p2, ei, p4]
    · refine ⟨s, (congrArg (Cp W H s) ?_).mp hF, spec_painter_part_v_b1_of _ _ _ _ _ _ ?_⟩
      · funext x y
        rw [if_neg]
        rintro ⟨h1, _⟩
        have := hin x y h1
        simp only [inR] at this
        omega
      · simp only [dlt hi, if_true, decide_eq_false hw, Bool.false_eq_true, if_false]

include hW hH hc in
theorem mark_v_ok (ht : ¬ t.Tag = -1) (x2 : List Int) (o : List Int) (ho : o.length = 5) (hm : 0 < o.gd 4) {s : List Int × List Int} {F : Pic} (hs : Cp W H s F) :
    ∃ s', Cp W H s' (oneF t (o.gd 4) box see a F) ∧ ∀ r, spec_painter_part_v_b3 x2 o 0 ⟨rs, B, at_, W, H, s'.1, s'.2⟩ t see = some r → spec_painter_part_v_b2 x2 o a see.Top ⟨rs, B, at_, W, H, s.1, s.2⟩ t see = some r := by
  have hc' := hc
  obtain ⟨⟨⟨c1, c2⟩, ⟨c3, c4⟩, ⟨c5, c6⟩, c7, c8⟩, c9, c10⟩ := hc'
  obtain ⟨w, hw⟩ := Int.eq_ofNat_of_zero_le c5
  obtain ⟨h, hh⟩ := Int.eq_ofNat_of_zero_le c7
  have eW : w64 (see.Left + see.Wide) = see.Left + w := by rw [w64_id (by omega) (by omega), hw]
  have eH : w64 (see.Top + see.High) = see.Top + h := by rw [w64_id (by omega) (by omega), hh]
  have d4 := getD4 ho 4 (by omega)
  rw [show ((4 : Nat) : Int) = 4 from rfl] at d4
  have key := loopY (C := Cp W H) (Tp := see.Top) (L := see.Left) (a := a) (h := h) (w := w) (G := val t (o.gd 4) box) (loop := fun y s => spec_painter_part_v_b2 x2 o a y ⟨rs, B, at_, W, H, s.1, s.2⟩ t see)
    (next := fun s => spec_painter_part_v_b3 x2 o 0 ⟨rs, B, at_, W, H, s.1, s.2⟩ t see) ?_ ?_ 0 (by omega) s F hs
  · obtain ⟨s', k1, k2⟩ := key
    refine ⟨s', ?_, fun r hr => by simpa using k2 r hr⟩
    refine (congrArg (Cp W H s') ?_).mp k1
    funext x y
    unfold oneF
    by_cases e : inR see x y
    · rw [if_pos e]; unfold inR at e; rw [if_pos (by omega)]
    · rw [if_neg e]; unfold inR at e; rw [if_neg (by omega)]
  · intro s r hr
    refine spec_painter_part_v_b2_of _ _ _ _ _ _ _ ?_
    rw [eH, decide_eq_false (by omega)]
    simpa using hr
  · intro j hj s F hF
    have key := loopX (C := Cp W H) (y := see.Top + j) (L := see.Left) (a := a) (w := w) (G := fun x => val t (o.gd 4) box x (see.Top + j)) (loop := fun x s => spec_painter_part_v_b4 x2 o a (see.Top + j) x ⟨rs, B, at_, W, H, s.1, s.2⟩ t see)
      (next := fun s => spec_painter_part_v_b2 x2 o a (see.Top + j + 1) ⟨rs, B, at_, W, H, s.1, s.2⟩ t see) ?_ ?_ 0 (by omega) s F hF
    · obtain ⟨s', k1, k2⟩ := key
      refine ⟨s', ?_, fun r hr => ?_⟩
      · refine (congrArg (Cp W H s') ?_).mp k1
        funext x y
        by_cases e : y = see.Top + j ∧ see.Left ≤ x ∧ x < see.Left + w
        · rw [if_pos e, if_pos (by omega), e.1]
        · rw [if_neg e, if_neg (by omega)]
      · refine spec_painter_part_v_b2_of _ _ _ _ _ _ _ ?_
        rw [eH, decide_eq_true (by omega)]
        simpa using k2 r hr
    · intro s r hr
      refine spec_painter_part_v_b4_of _ _ _ _ _ _ _ _ ?_
      rw [eW, decide_eq_false (by omega), w64_id (x := see.Top + j + 1) (by omega) (by omega)]
      simpa using hr
    · intro k hk s F hF
      have hin' : inR see (see.Left + k) (see.Top + j) := by unfold inR; omega
      have eW' : decide (see.Left + k < w64 (see.Left + see.Wide)) = true := by rw [eW]; exact decide_eq_true (by omega)
      have e1 : w64 (see.Left + k + 1) = see.Left + k + 1 := w64_id (by omega) (by omega)
      obtain ⟨s', p1, p2⟩ := cell_ok hW hH hc rs B hF at_ (see.Left + k) (see.Top + j) (byteAt (o.gd 4)) a
      rw [if_pos hin'] at p1
      refine ⟨s', ?_, fun r hr => ?_⟩
      · refine (congrArg (Cp W H s') ?_).mp p1
        funext x y
        unfold upd
        by_cases e : x = see.Left + k ∧ y = see.Top + j
        · rw [if_pos e, if_pos e]
          simp only [val, ht, if_false, show ¬ o.gd 4 = 0 by omega, ov]
        · rw [if_neg e, if_neg e]
      · refine spec_painter_part_v_b4_of _ _ _ _ _ _ _ _ ?_
        simp only [eW', if_true, d4, Option.bind_some, markOf_ok (o.gd 4) (by omega), p2, e1]
        exact hr
end

theorem kids_v_sp {W H : Nat} (rs : List TRule) (t : TTree) (ih : ∀ k ∈ t.Kids, SpOk spec_painter_part_v W H rs k) (above o : List Int) (ho : o.length = 5) (h0 : 0 ≤ o.gd 4) (h1 : o.gd 4 ≤ 60) (hd : above.length + 1 + depthL t.Kids ≤ 1000) (see : TBox) (hc : Ck W H see) (B : List TBox) (hB : ∀ b ∈ B, Bd b) (hl : B.length ≤ 1000) (hkl : t.Kids.length ≤ 1000) :
    ∀ k, k ≤ t.Kids.length → ∀ (a : Nat) (s : List Int × List Int) (F : Pic), a + nodesL (t.Kids.drop k) ≤ B.length → Cp W H s F →
      ∃ s', Cp W H s' (pntL rs B (t.Kids.drop k) (above ++ [t.Tag]) (o.gd 4) see a F) ∧ spec_painter_part_v_b3 above o k ⟨rs, B, a, W, H, s.1, s.2⟩ t see = some ⟨rs, B, ((a + nodesL (t.Kids.drop k) : Nat) : Int), W, H, s'.1, s'.2⟩ := by
  refine upto _ ?_ ?_
  · intro a s F _ hF
    refine ⟨s, by simpa [pntL] using hF, spec_painter_part_v_b3_of _ _ _ _ _ _ (by simp [nodesL])⟩
  · intro k hk ihk a s F ha hF
    rw [drop_at hk, nodesL] at ha
    have hdk := depth_kid t.Kids _ (List.getElem_mem hk)
    obtain ⟨s1, p1, p2⟩ := ih t.Kids[k] (List.getElem_mem hk) (above ++ [t.Tag]) o see B a s F ho (by simp; omega) h0 h1 hc hB (by omega) hl hF
    obtain ⟨s2, q1, q2⟩ := ihk (a + nodes t.Kids[k]) s1 _ (by omega) p1
    refine ⟨s2, by rw [drop_at hk, pntL]; exact q1, spec_painter_part_v_b3_of _ _ _ _ _ _ ?_⟩
    rw [dlt hk, if_pos rfl, rdx_nat hk, Option.bind_some, if_pos (apN 8 ([] : List Int) above (by omega) (by simp) (by omega)), if_pos (apN 8 above [t.Tag] (by omega) (by omega) (by simp)), p2, Option.bind_some, w64s (show (k : Int) + 1 < 9223372036854775808 by omega), q2]
    rw [drop_at hk, nodesL, Nat.add_assoc]

theorem part_v_sp {W H : Nat} (hW : W ≤ 60) (hH : H ≤ 30) (rs : List TRule) (hm : Rm rs) (hg : Gv rs) (t : TTree) (hv : Va t) (hn1 : nodes t ≤ 1000) (ihk : ∀ k ∈ t.Kids, SpOk spec_painter_part_v W H rs k) : SpOk spec_painter_part_v W H rs t := by
  intro above inn clip B a s F hi5 hd m0 m1 hc hB ha hl hF
  have hn := nodes_eq t
  have hdq := depth_eq t
  have hkl : t.Kids.length ≤ 1000 := by have := nodesL_ln t.Kids; omega
  have ha' : a < B.length := by omega
  have hbx : B.getD a default = B[a] := by rw [List.getD_eq_getElem?_getD, List.getElem?_eq_getElem ha']; rfl
  have hb : Bd B[a] := hB _ (List.getElem_mem ha')
  have hsee := meet_ck hc hb
  have hin : ∀ x y, inR (meetB clip B[a]) x y → inR B[a] x y := fun x y h => meet_in h
  have hlo := looksOf_ok5 rs hm hg t hv.lk above (by omega) inn hi5
  generalize ho : own rs t above (inn.gd 4) = o at hlo
  have ho5 : o.length = 5 := by rw [← ho]; exact own_len _ _ _ _
  have o4 : 0 ≤ o.gd 4 ∧ o.gd 4 ≤ 60 := by rw [← ho]; exact own_range hg t above (inn.gd 4) m0 m1 4
  have d4 := getD4 ho5 4 (by omega)
  rw [show ((4 : Nat) : Int) = 4 from rfl] at d4
  have e1 : w64 ((a : Int) + 1) = ((a + 1 : Nat) : Int) := w64s (by omega)
  by_cases h : t.Tag = -1
  · obtain ⟨s1, p1, p2⟩ := text_v_ok hW hH hb hsee hin rs B t a ((a + 1 : Nat) : Int) hv.tx 0 (by omega) s F hF
    refine ⟨s1, ?_, spec_painter_part_v_of _ _ _ _ _ ?_⟩
    · rw [pnt_eq, hbx, ho, hv.nk h, pntL]
      refine (congrArg (Cp W H s1) ?_).mp p1
      funext x y
      unfold oneF
      by_cases e : inR (meetB clip B[a]) x y
      · have i3 := (idx_range hb hin e).2.2
        rw [if_pos e]
        simp only [val, h, if_true]
        by_cases e2 : idx B[a] x y < t.Text.length
        · rw [if_pos ⟨e, by omega, e2⟩, if_pos e2]; rfl
        · rw [if_neg (fun h => e2 h.2.2), if_neg e2]; rfl
      · rw [if_neg (fun h => e h.1), if_neg e]
    · rw [show ((0 : Nat) : Int) = 0 from rfl] at p2
      simp only [hlo, rdx_nat ha', meet_ok hb hc.1, Option.bind_some, decide_eq_true (show t.Tag < 0 by omega), if_true, e1, p2]
      rw [hn, hv.nk h]
      simp [nodesL]
  · have ht0 : ¬ t.Tag < 0 := by have := hv.lk.tag; omega
    have fin : ∀ s1, Cp W H s1 (oneF t (o.gd 4) B[a] (meetB clip B[a]) a F) → ∃ s', Cp W H s' (pnt rs B t above (inn.gd 4) clip a F) ∧ spec_painter_part_v_b3 above o 0 ⟨rs, B, ((a + 1 : Nat) : Int), W, H, s1.1, s1.2⟩ t (meetB clip B[a]) = some ⟨rs, B, ((a + nodes t : Nat) : Int), W, H, s'.1, s'.2⟩ := by
      intro s1 hs1
      obtain ⟨s', q1, q2⟩ := kids_v_sp rs t ihk above o ho5 o4.1 o4.2 (by omega) (meetB clip B[a]) hsee B hB hl hkl 0 (by omega) (a + 1) s1 _ (by rw [List.drop_zero]; omega) hs1
      rw [List.drop_zero] at q1 q2
      refine ⟨s', by rw [pnt_eq, hbx, ho]; exact q1, ?_⟩
      rw [show ((0 : Nat) : Int) = 0 from rfl] at q2
      rw [q2, hn, Nat.add_assoc]
    by_cases h4 : 0 < o.gd 4
    · obtain ⟨s1, p1, p2⟩ := mark_v_ok (box := B[a]) hW hH hsee rs B t a ((a + 1 : Nat) : Int) h above o ho5 h4 hF
      obtain ⟨s', q1, q2⟩ := fin s1 p1
      refine ⟨s', q1, spec_painter_part_v_of _ _ _ _ _ ?_⟩
      simp only [hlo, rdx_nat ha', meet_ok hb hc.1, Option.bind_some, decide_eq_false ht0, d4, decide_eq_true h4, Bool.false_eq_true, if_false, if_true, e1]
      exact p2 _ q2
    · obtain ⟨s', q1, q2⟩ := fin s (by rw [show o.gd 4 = 0 by omega, oneF_zero h]; exact hF)
      refine ⟨s', q1, spec_painter_part_v_of _ _ _ _ _ ?_⟩
      simp only [hlo, rdx_nat ha', meet_ok hb hc.1, Option.bind_some, decide_eq_false ht0, d4, decide_eq_false h4, Bool.false_eq_true, if_false, e1]
      exact q2

section
variable {W H : Nat} (hW : W ≤ 60) (hH : H ≤ 30) {box see : TBox} (hb : Bd box) (hc : Ck W H see) (hin : ∀ x y, inR see x y → inR box x y) (rs : List TRule) (B : List TBox) (t : TTree) (a at_ : Int)

include hW hH hb hc hin in
theorem textN_ok (hl : t.Text.length ≤ 12) : ∀ i, i ≤ t.Text.length → ∀ (s : List Int × List Int) (F : Pic), Cp W H s F →
    ∃ s', Cp W H s' (fun x y => if inR see x y ∧ (i : Int) ≤ idx box x y ∧ idx box x y < t.Text.length then (((t.Text.getD (idx box x y).toNat 0).toNat : Int), a) else F x y) ∧
      spec_painter_part_b1 a i ⟨rs, B, at_, W, H, s.1, s.2⟩ t see box = some ⟨rs, B, at_, W, H, s'.1, s'.2⟩ := by
  have hb' := hb
  obtain ⟨⟨b1, b2⟩, ⟨b3, b4⟩, ⟨b5, b6⟩, b7, b8⟩ := hb'
  refine upto _ ?_ ?_
  · intro s F hF
    refine ⟨s, (congrArg (Cp W H s) ?_).mp hF, spec_painter_part_b1_of _ _ _ _ _ _ (by simp)⟩
    funext x y
    rw [if_neg (by omega)]
  · intro i hi ih s F hF
    by_cases hw : 0 < box.Wide
    · have ei : w64 ((i : Int) + 1) = ((i + 1 : Nat) : Int) := w64s (by omega)
      have q1 : (i : Int).tmod box.Wide = (i : Int) % box.Wide := Int.tmod_eq_emod_of_nonneg (by omega)
      have q2 : (i : Int).tdiv box.Wide = (i : Int) / box.Wide := Int.tdiv_eq_ediv_of_nonneg (by omega)
      have e2 := Int.emod_nonneg (i : Int) (show box.Wide ≠ 0 by omega)
      have e3 := Int.emod_lt_of_pos (i : Int) hw
      have e4 : 0 ≤ (i : Int) / box.Wide := Int.ediv_nonneg (by omega) (by omega)
      have e5 : (i : Int) / box.Wide ≤ i := Int.ediv_le_self _ (by omega)
      have eX : w64 (box.Left + (i : Int) % box.Wide) = box.Left + (i : Int) % box.Wide := w64_id (by omega) (by omega)
      have eY : w64 (box.Top + w64 ((i : Int) / box.Wide)) = box.Top + (i : Int) / box.Wide := by rw [w64_id (x := (i : Int) / box.Wide) (by omega) (by omega), w64_id (by omega) (by omega)]
      obtain ⟨s1, p1, p2⟩ := cell_ok hW hH hc rs B hF at_ (box.Left + (i : Int) % box.Wide) (box.Top + (i : Int) / box.Wide) (t.Text[i].toNat : Int) a
      obtain ⟨s2, p3, p4⟩ := ih s1 _ p1
      refine ⟨s2, (congrArg (Cp W H s2) ?_).mp p3, spec_painter_part_b1_of _ _ _ _ _ _ ?_⟩
      · funext x y
        by_cases hxy : inR see x y
        · have hbx := hin x y hxy
          have hiff := idx_iff hw (show 0 ≤ (i : Int) by omega) hbx
          by_cases e : idx box x y = i
          · have e' := hiff.1 e
            rw [if_neg (by omega), ← e'.1, ← e'.2, if_pos hxy, if_pos ⟨hxy, by omega, by omega⟩]
            simp only [upd, and_self, if_true]
            rw [e, Int.toNat_natCast, List.getD_eq_getElem?_getD, List.getElem?_eq_getElem hi]
            rfl
          · have h2 : ¬ (x = box.Left + (i : Int) % box.Wide ∧ y = box.Top + (i : Int) / box.Wide) := fun h => e (hiff.2 h)
            have h3 : (if inR see (box.Left + (i : Int) % box.Wide) (box.Top + (i : Int) / box.Wide) then upd F (box.Left + (i : Int) % box.Wide) (box.Top + (i : Int) / box.Wide) ((t.Text[i].toNat : Int), a) else F) x y = F x y := by
              split
              · simp only [upd]; rw [if_neg h2]
              · rfl
            rw [h3]
            by_cases h4 : (i : Int) ≤ idx box x y ∧ idx box x y < t.Text.length
            · rw [if_pos ⟨hxy, by omega, h4.2⟩, if_pos ⟨hxy, h4⟩]
            · rw [if_neg (fun h => h4 ⟨by omega, h.2.2⟩), if_neg (fun h => h4 h.2)]
        · have h3 : (if inR see (box.Left + (i : Int) % box.Wide) (box.Top + (i : Int) / box.Wide) then upd F (box.Left + (i : Int) % box.Wide) (box.Top + (i : Int) / box.Wide) ((t.Text[i].toNat : Int), a) else F) x y = F x y := by
            split
            · rename_i hh
              simp only [upd]
              rw [if_neg (fun h => hxy (by rw [h.1, h.2]; exact hh))]
            · rfl
          rw [h3, if_neg (fun h => hxy h.1), if_neg (fun h => hxy h.1)]
      · simp only [dlt hi, if_true, decide_eq_true hw, show ¬ box.Wide = 0 by omega, not_false_eq_true, rdx_nat hi, Option.bind_some, q1, q2, eX, eY, p2, ei, p4]
    · refine ⟨s, (congrArg (Cp W H s) ?_).mp hF, spec_painter_part_b1_of _ _ _ _ _ _ ?_⟩
      · funext x y
        rw [if_neg]
        rintro ⟨h1, _⟩
        have := hin x y h1
        simp only [inR] at this
        omega
      · simp only [dlt hi, if_true, decide_eq_false hw, Bool.false_eq_true, if_false]

include hW hH hc in
theorem markN_ok (ht : ¬ t.Tag = -1) (x2 : List Int) (o : List Int) (ho : o.length = 5) (hm : 0 < o.gd 4) {s : List Int × List Int} {F : Pic} (hs : Cp W H s F) :
    ∃ s', Cp W H s' (oneF t (o.gd 4) box see a F) ∧ ∀ r, spec_painter_part_b3 x2 o 0 ⟨rs, B, at_, W, H, s'.1, s'.2⟩ t see = some r → spec_painter_part_b2 x2 o a see.Top ⟨rs, B, at_, W, H, s.1, s.2⟩ t see = some r := by
  have hc' := hc
  obtain ⟨⟨⟨c1, c2⟩, ⟨c3, c4⟩, ⟨c5, c6⟩, c7, c8⟩, c9, c10⟩ := hc'
  obtain ⟨w, hw⟩ := Int.eq_ofNat_of_zero_le c5
  obtain ⟨h, hh⟩ := Int.eq_ofNat_of_zero_le c7
  have eW : w64 (see.Left + see.Wide) = see.Left + w := by rw [w64_id (by omega) (by omega), hw]
  have eH : w64 (see.Top + see.High) = see.Top + h := by rw [w64_id (by omega) (by omega), hh]
  have d4 := getD4 ho 4 (by omega)
  rw [show ((4 : Nat) : Int) = 4 from rfl] at d4
  have key := loopY (C := Cp W H) (Tp := see.Top) (L := see.Left) (a := a) (h := h) (w := w) (G := val t (o.gd 4) box) (loop := fun y s => spec_painter_part_b2 x2 o a y ⟨rs, B, at_, W, H, s.1, s.2⟩ t see)
    (next := fun s => spec_painter_part_b3 x2 o 0 ⟨rs, B, at_, W, H, s.1, s.2⟩ t see) ?_ ?_ 0 (by omega) s F hs
  · obtain ⟨s', k1, k2⟩ := key
    refine ⟨s', ?_, fun r hr => by simpa using k2 r hr⟩
    refine (congrArg (Cp W H s') ?_).mp k1
    funext x y
    unfold oneF
    by_cases e : inR see x y
    · rw [if_pos e]; unfold inR at e; rw [if_pos (by omega)]
    · rw [if_neg e]; unfold inR at e; rw [if_neg (by omega)]
  · intro s r hr
    refine spec_painter_part_b2_of _ _ _ _ _ _ _ ?_
    rw [eH, decide_eq_false (by omega)]
    simpa using hr
  · intro j hj s F hF
    have key := loopX (C := Cp W H) (y := see.Top + j) (L := see.Left) (a := a) (w := w) (G := fun x => val t (o.gd 4) box x (see.Top + j)) (loop := fun x s => spec_painter_part_b4 x2 o a (see.Top + j) x ⟨rs, B, at_, W, H, s.1, s.2⟩ t see)
      (next := fun s => spec_painter_part_b2 x2 o a (see.Top + j + 1) ⟨rs, B, at_, W, H, s.1, s.2⟩ t see) ?_ ?_ 0 (by omega) s F hF
    · obtain ⟨s', k1, k2⟩ := key
      refine ⟨s', ?_, fun r hr => ?_⟩
      · refine (congrArg (Cp W H s') ?_).mp k1
        funext x y
        by_cases e : y = see.Top + j ∧ see.Left ≤ x ∧ x < see.Left + w
        · rw [if_pos e, if_pos (by omega), e.1]
        · rw [if_neg e, if_neg (by omega)]
      · refine spec_painter_part_b2_of _ _ _ _ _ _ _ ?_
        rw [eH, decide_eq_true (by omega)]
        simpa using k2 r hr
    · intro s r hr
      refine spec_painter_part_b4_of _ _ _ _ _ _ _ _ ?_
      rw [eW, decide_eq_false (by omega), w64_id (x := see.Top + j + 1) (by omega) (by omega)]
      simpa using hr
    · intro k hk s F hF
      have hin' : inR see (see.Left + k) (see.Top + j) := by unfold inR; omega
      have eW' : decide (see.Left + k < w64 (see.Left + see.Wide)) = true := by rw [eW]; exact decide_eq_true (by omega)
      have e1 : w64 (see.Left + k + 1) = see.Left + k + 1 := w64_id (by omega) (by omega)
      obtain ⟨s', p1, p2⟩ := cell_ok hW hH hc rs B hF at_ (see.Left + k) (see.Top + j) (byteAt (o.gd 4)) a
      rw [if_pos hin'] at p1
      refine ⟨s', ?_, fun r hr => ?_⟩
      · refine (congrArg (Cp W H s') ?_).mp p1
        funext x y
        unfold upd
        by_cases e : x = see.Left + k ∧ y = see.Top + j
        · rw [if_pos e, if_pos e]
          simp only [val, ht, if_false, show ¬ o.gd 4 = 0 by omega, ov]
        · rw [if_neg e, if_neg e]
      · refine spec_painter_part_b4_of _ _ _ _ _ _ _ _ ?_
        simp only [eW', if_true, d4, Option.bind_some, markOf_ok (o.gd 4) (by omega), p2, e1]
        exact hr
end

theorem kidsN_sp {W H : Nat} (rs : List TRule) (t : TTree) (ih : ∀ k ∈ t.Kids, SpOk spec_painter_part_v W H rs k) (above o : List Int) (ho : o.length = 5) (h0 : 0 ≤ o.gd 4) (h1 : o.gd 4 ≤ 60) (hd : above.length + 1 + depthL t.Kids ≤ 1000) (see : TBox) (hc : Ck W H see) (B : List TBox) (hB : ∀ b ∈ B, Bd b) (hl : B.length ≤ 1000) (hkl : t.Kids.length ≤ 1000) :
    ∀ k, k ≤ t.Kids.length → ∀ (a : Nat) (s : List Int × List Int) (F : Pic), a + nodesL (t.Kids.drop k) ≤ B.length → Cp W H s F →
      ∃ s', Cp W H s' (pntL rs B (t.Kids.drop k) (above ++ [t.Tag]) (o.gd 4) see a F) ∧ spec_painter_part_b3 above o k ⟨rs, B, a, W, H, s.1, s.2⟩ t see = some ⟨rs, B, ((a + nodesL (t.Kids.drop k) : Nat) : Int), W, H, s'.1, s'.2⟩ := by
  refine upto _ ?_ ?_
  · intro a s F _ hF
    refine ⟨s, by simpa [pntL] using hF, spec_painter_part_b3_of _ _ _ _ _ _ (by simp [nodesL])⟩
  · intro k hk ihk a s F ha hF
    rw [drop_at hk, nodesL] at ha
    have hdk := depth_kid t.Kids _ (List.getElem_mem hk)
    obtain ⟨s1, p1, p2⟩ := ih t.Kids[k] (List.getElem_mem hk) (above ++ [t.Tag]) o see B a s F ho (by simp; omega) h0 h1 hc hB (by omega) hl hF
    obtain ⟨s2, q1, q2⟩ := ihk (a + nodes t.Kids[k]) s1 _ (by omega) p1
    refine ⟨s2, by rw [drop_at hk, pntL]; exact q1, spec_painter_part_b3_of _ _ _ _ _ _ ?_⟩
    rw [dlt hk, if_pos rfl, rdx_nat hk, Option.bind_some, if_pos (apN 8 ([] : List Int) above (by omega) (by simp) (by omega)), if_pos (apN 8 above [t.Tag] (by omega) (by omega) (by simp)), p2, Option.bind_some, w64s (show (k : Int) + 1 < 9223372036854775808 by omega), q2]
    rw [drop_at hk, nodesL, Nat.add_assoc]

theorem part_sp {W H : Nat} (hW : W ≤ 60) (hH : H ≤ 30) (rs : List TRule) (hm : Rm rs) (hg : Gv rs) (t : TTree) (hv : Va t) (hn1 : nodes t ≤ 1000) (ihk : ∀ k ∈ t.Kids, SpOk spec_painter_part_v W H rs k) : SpOk spec_painter_part W H rs t := by
  intro above inn clip B a s F hi5 hd m0 m1 hc hB ha hl hF
  have hn := nodes_eq t
  have hdq := depth_eq t
  have hkl : t.Kids.length ≤ 1000 := by have := nodesL_ln t.Kids; omega
  have ha' : a < B.length := by omega
  have hbx : B.getD a default = B[a] := by rw [List.getD_eq_getElem?_getD, List.getElem?_eq_getElem ha']; rfl
  have hb : Bd B[a] := hB _ (List.getElem_mem ha')
  have hsee := meet_ck hc hb
  have hin : ∀ x y, inR (meetB clip B[a]) x y → inR B[a] x y := fun x y h => meet_in h
  have hlo := looksOf_ok5 rs hm hg t hv.lk above (by omega) inn hi5
  generalize ho : own rs t above (inn.gd 4) = o at hlo
  have ho5 : o.length = 5 := by rw [← ho]; exact own_len _ _ _ _
  have o4 : 0 ≤ o.gd 4 ∧ o.gd 4 ≤ 60 := by rw [← ho]; exact own_range hg t above (inn.gd 4) m0 m1 4
  have d4 := getD4 ho5 4 (by omega)
  rw [show ((4 : Nat) : Int) = 4 from rfl] at d4
  have e1 : w64 ((a : Int) + 1) = ((a + 1 : Nat) : Int) := w64s (by omega)
  by_cases h : t.Tag = -1
  · obtain ⟨s1, p1, p2⟩ := textN_ok hW hH hb hsee hin rs B t a ((a + 1 : Nat) : Int) hv.tx 0 (by omega) s F hF
    refine ⟨s1, ?_, spec_painter_part_of _ _ _ _ _ ?_⟩
    · rw [pnt_eq, hbx, ho, hv.nk h, pntL]
      refine (congrArg (Cp W H s1) ?_).mp p1
      funext x y
      unfold oneF
      by_cases e : inR (meetB clip B[a]) x y
      · have i3 := (idx_range hb hin e).2.2
        rw [if_pos e]
        simp only [val, h, if_true]
        by_cases e2 : idx B[a] x y < t.Text.length
        · rw [if_pos ⟨e, by omega, e2⟩, if_pos e2]; rfl
        · rw [if_neg (fun h => e2 h.2.2), if_neg e2]; rfl
      · rw [if_neg (fun h => e h.1), if_neg e]
    · rw [show ((0 : Nat) : Int) = 0 from rfl] at p2
      simp only [hlo, rdx_nat ha', meet_ok hb hc.1, Option.bind_some, decide_eq_true (show t.Tag < 0 by omega), if_true, e1, p2]
      rw [hn, hv.nk h]
      simp [nodesL]
  · have ht0 : ¬ t.Tag < 0 := by have := hv.lk.tag; omega
    have fin : ∀ s1, Cp W H s1 (oneF t (o.gd 4) B[a] (meetB clip B[a]) a F) → ∃ s', Cp W H s' (pnt rs B t above (inn.gd 4) clip a F) ∧ spec_painter_part_b3 above o 0 ⟨rs, B, ((a + 1 : Nat) : Int), W, H, s1.1, s1.2⟩ t (meetB clip B[a]) = some ⟨rs, B, ((a + nodes t : Nat) : Int), W, H, s'.1, s'.2⟩ := by
      intro s1 hs1
      obtain ⟨s', q1, q2⟩ := kidsN_sp rs t ihk above o ho5 o4.1 o4.2 (by omega) (meetB clip B[a]) hsee B hB hl hkl 0 (by omega) (a + 1) s1 _ (by rw [List.drop_zero]; omega) hs1
      rw [List.drop_zero] at q1 q2
      refine ⟨s', by rw [pnt_eq, hbx, ho]; exact q1, ?_⟩
      rw [show ((0 : Nat) : Int) = 0 from rfl] at q2
      rw [q2, hn, Nat.add_assoc]
    by_cases h4 : 0 < o.gd 4
    · obtain ⟨s1, p1, p2⟩ := markN_ok (box := B[a]) hW hH hsee rs B t a ((a + 1 : Nat) : Int) h above o ho5 h4 hF
      obtain ⟨s', q1, q2⟩ := fin s1 p1
      refine ⟨s', q1, spec_painter_part_of _ _ _ _ _ ?_⟩
      simp only [hlo, rdx_nat ha', meet_ok hb hc.1, Option.bind_some, decide_eq_false ht0, d4, decide_eq_true h4, Bool.false_eq_true, if_false, if_true, e1]
      exact p2 _ q2
    · obtain ⟨s', q1, q2⟩ := fin s (by rw [show o.gd 4 = 0 by omega, oneF_zero h]; exact hF)
      refine ⟨s', q1, spec_painter_part_of _ _ _ _ _ ?_⟩
      simp only [hlo, rdx_nat ha', meet_ok hb hc.1, Option.bind_some, decide_eq_false ht0, d4, decide_eq_false h4, Bool.false_eq_true, if_false, e1]
      exact q2

theorem part_v_all {W H : Nat} (hW : W ≤ 60) (hH : H ≤ 30) (rs : List TRule) (hm : Rm rs) (hg : Gv rs) : ∀ t, Va t → nodes t ≤ 1000 → SpOk spec_painter_part_v W H rs t := by
  refine TTree.ind ?_
  intro t ih hv hn1
  have hn := nodes_eq t
  exact part_v_sp hW hH rs hm hg t hv hn1 fun k hk => ih k hk (hv.ks k hk) (by have := nodes_kid t.Kids k hk; omega)

theorem blank_ok {W H : Nat} (hW : W ≤ 60) (hH : H ≤ 30) (x2 x3 : Int) (t : TTree) (rs : List TRule) (B : List TBox) (R : TPainter)
    (h : spec_painter_part ⟨rs, B, 0, W, H, List.replicate (W * H) 32, List.replicate (W * H) (-1)⟩ t [] [0, 0, 0, 0, 0] ⟨0, 0, x2, x3⟩ = some R) :
    ∀ k, k ≤ W * H → ∀ r q : List Int, r.length = W * H → q.length = W * H → r.take k = List.replicate k 32 → q.take k = List.replicate k (-1) → spec_painted_b1 x2 x3 k t ⟨rs, B, 0, W, H, r, q⟩ = some R := by
  have hWH : W * H ≤ 60 * 30 := Nat.mul_le_mul hW hH
  refine upto _ ?_ ?_
  · intro r q hr hq e1 e2
    rw [List.take_of_length_le (by omega)] at e1 e2
    subst e1 e2
    refine spec_painted_b1_of _ _ _ _ _ ?_
    simp only [List.length_replicate, dge, Bool.false_eq_true, if_false, h, Option.bind_some]
  · intro k hk ih r q hr hq e1 e2
    refine spec_painted_b1_of _ _ _ _ _ ?_
    simp only [hr, dlt hk, if_true, rdx_nat (show k < r.length by omega), rdx_nat (show k < q.length by omega), Option.bind_some, w64s (show (k : Int) + 1 < 9223372036854775808 by omega), Int.toNat_natCast]
    have tk : ∀ (l : List Int) (v : Int), k < l.length → l.take k = List.replicate k v → (l.set k v).take (k + 1) = List.replicate (k + 1) v := by
      intro l v hl e
      rw [take_set hl, e, List.replicate_succ']
    exact ih _ _ (by simp [hr]) (by simp [hq]) (tk r 32 (by omega) e1) (tk q (-1) (by omega) e2)

theorem painted_ok (rs : List TRule) (hm : Rm rs) (hg : Gv rs) (t : TTree) (hv : Va t) (hd : depth t ≤ 1000) (hn : nodes t ≤ 200) {W H : Nat} (hW : W ≤ 60) (hH : H ≤ 30) :
    ∃ s', Cp W H s' (screen rs t W H) ∧ spec_painted t rs W H = some ⟨rs, (lay rs t [] 0 0 0 W).2, (nodes t : Int), W, H, s'.1, s'.2⟩ := by
  have hWH : W * H ≤ 60 * 30 := Nat.mul_le_mul hW hH
  have hk := nodes_eq t
  have e2 := boxes_ok rs hm hg t hv hd (by omega) W (by omega) (by omega)
  have hll := lay_len rs t [] 0 0 0 W hv
  have hblank : Cp W H (List.replicate (W * H) 32, List.replicate (W * H) (-1)) blank := by
    refine ⟨by simp, by simp, fun x y hx hy => ?_⟩
    have : y * W + x < W * H := by
      have := Nat.mul_le_mul_right W (show y + 1 ≤ H from hy)
      rw [Nat.succ_mul, Nat.mul_comm H W] at this
      omega
    simp [this, blank]
  obtain ⟨s', p1, p2⟩ := part_sp hW hH rs hm hg t hv (by omega) (fun k hk' => part_v_all hW hH rs hm hg k (hv.ks k hk') (by have := nodes_kid t.Kids k hk'; omega)) [] [0, 0, 0, 0, 0] ⟨0, 0, W, H⟩ (lay rs t [] 0 0 0 W).2 0 _ blank rfl (by simpa using hd) (by decide) (by decide)
    (screen_ck W H hW hH) (lay_all_bd rs hg t hv hn hW) (by omega) (by omega) hblank
  refine ⟨s', p1, spec_painted_of _ _ _ _ ?_⟩
  have eWH : w64 ((W : Int) * (H : Int)) = ((W * H : Nat) : Int) := by rw [show (W : Int) * (H : Int) = ((W * H : Nat) : Int) by simp, w64_id (by omega) (by omega)]
  have := blank_ok hW hH W H t rs (lay rs t [] 0 0 0 W).2 _ (by simpa using p2) 0 (by omega) (List.replicate (W * H) 0) (List.replicate (W * H) 0) (by simp) (by simp) (by simp) (by simp)
  rw [e2, Option.bind_some, eWH, if_pos (by omega), if_pos (by omega), Int.toNat_natCast]
  simpa using this
end Go.Fw.Law
namespace Go.Fw.Law
open Go Go.Fw

theorem screenB_va {t : TTree} {rs : List TRule} {w h : Int} (hl : Lm 1048576 t) (hs : screenB t rs w h = true) : Va t ∧ depth t ≤ 24 ∧ nodes t ≤ 200 ∧ Gv rs ∧ ∃ W H : Nat, w = W ∧ h = H ∧ W ≤ 60 ∧ H ≤ 30 := by
  simp only [screenB, Bool.and_eq_true] at hs
  obtain ⟨⟨⟨h1, h2⟩, h3⟩, h4⟩ := hs
  obtain ⟨hv, hd, hn⟩ := treeB_va t hl h1
  simp only [inB, Bool.and_eq_true, decide_eq_true_eq] at h3 h4
  obtain ⟨W, rfl⟩ := Int.eq_ofNat_of_zero_le h3.1
  obtain ⟨H, rfl⟩ := Int.eq_ofNat_of_zero_le h4.1
  exact ⟨hv, hd, hn, rulesB_gv rs h2, W, H, rfl, rfl, by omega, by omega⟩

theorem HitAt_ok (t : TTree) (hl : Lm 1048576 t) (rs : List TRule) (hm : Rm rs) (w h x y : Int) : ∃ r, spec_HitAt t rs w h x y = some r ∧ impl_HitAt t rs w h x y = some r := by
  have e1 := validScreen_ok t hl rs w h
  have e2 := paintOk_ok t hl rs hm w h
  by_cases hs : screenB t rs w h = true
  · obtain ⟨hv, hd, hn, hg, W, H, rfl, rfl, hW, hH⟩ := screenB_va hl hs
    have w1 : w64 ((W : Int) - 1) = (W : Int) - 1 := w64_id (by omega) (by omega)
    have w2 : w64 ((H : Int) - 1) = (H : Int) - 1 := w64_id (by omega) (by omega)
    by_cases hx : inB x 0 ((W : Int) - 1) = true
    · by_cases hy : inB y 0 ((H : Int) - 1) = true
      · have hx' := hx
        have hy' := hy
        simp only [inB, Bool.and_eq_true, decide_eq_true_eq] at hx' hy'
        obtain ⟨xn, rfl⟩ := Int.eq_ofNat_of_zero_le hx'.1
        obtain ⟨yn, rfl⟩ := Int.eq_ofNat_of_zero_le hy'.1
        have hxn : xn < W := by omega
        have hyn : yn < H := by omega
        obtain ⟨s1, ⟨_, _, c1⟩, p1⟩ := painted_ok rs hm hg t hv (by omega) hn hW hH
        obtain ⟨s2, ⟨_, _, c2⟩, p2⟩ := newCanvas_ok rs hm hg t hv (by omega) hn hW hH
        obtain ⟨_, f2⟩ := c1 xn yn hxn hyn
        obtain ⟨r, q, _, g2, _, _, g3⟩ := c2 yn hyn
        obtain ⟨_, g4⟩ := g3 xn hxn
        have hm' : yn * W ≤ 30 * 60 := Nat.mul_le_mul (by omega) hW
        have eI : w64 (w64 ((yn : Int) * (W : Int)) + (xn : Int)) = ((yn * W + xn : Nat) : Int) := by
          rw [show (yn : Int) * (W : Int) = ((yn * W : Nat) : Int) by simp, w64_id (x := ((yn * W : Nat) : Int)) (by omega) (by omega), w64_id (by omega) (by omega)]; omega
        refine ⟨(screen rs t W H xn yn).2, spec_HitAt_of _ _ _ _ _ _ ?_, impl_HitAt_of _ _ _ _ _ _ ?_⟩
        · simp only [e1, hs, Option.bind_some, Bool.not_true, Bool.false_eq_true, if_false, inRange_ok, w1, w2, hx, hy, p1, eI, rdx_q f2]
        · simp only [e2, hs, Option.bind_some, Bool.not_true, Bool.false_eq_true, if_false, within_ok, w1, w2, hx, hy, p2, rdx_q g2, rdx_q g4]
      · refine ⟨-1, spec_HitAt_of _ _ _ _ _ _ ?_, impl_HitAt_of _ _ _ _ _ _ ?_⟩
        · simp [e1, hs, inRange_ok, w1, w2, hx, hy]
        · simp [e2, hs, within_ok, w1, w2, hx, hy]
    · refine ⟨-1, spec_HitAt_of _ _ _ _ _ _ ?_, impl_HitAt_of _ _ _ _ _ _ ?_⟩
      · simp [e1, hs, inRange_ok, w1, hx]
      · simp [e2, hs, within_ok, w1, hx]
  · refine ⟨-1, spec_HitAt_of _ _ _ _ _ _ ?_, impl_HitAt_of _ _ _ _ _ _ ?_⟩
    · simp [e1, hs]
    · simp [e2, hs]

/-- The law: the program says of each cell whose it is as the reference does. -/
theorem law_HitAt (t : TTree) (ht : Lm 9223372036854775807 t) (rs : List TRule) (hr : rs.length ≤ 9223372036854775807) (hx : ∀ x ∈ rs, x.Val.Text.length ≤ 9223372036854775807) (w h x y : Int) : laws_FnExactHitAt t rs w h x y = some true := by
  obtain ⟨r1, s1, s2, s3⟩ := szTree_ok t ht 1048576 (by omega) (by omega)
  refine laws_FnExactHitAt_of _ _ _ _ _ _ ?_
  rw [s1]
  by_cases h1 : r1 < 0
  · simp [h1]
  · obtain ⟨r2, q1, q2, q3⟩ := szRuleS_ok rs r1 hr hx (by omega) (by omega)
    by_cases h2 : r2 < 0
    · simp [h1, q1, h2]
    · have la := s3 (by omega)
      obtain ⟨l1, l2⟩ := q3 (by omega)
      have hm : Rm rs := ⟨by omega, fun x hx' => by have := l2 x hx'; omega⟩
      obtain ⟨r, t1, t2⟩ := HitAt_ok t la rs hm w h x y
      simp only [Option.bind_some, decide_eq_false h1, Bool.false_eq_true, if_false, q1, decide_eq_false h2, toTree_ok t la, toRuleS_ok rs hm.1, t1, t2, decide_true, Bool.not_true, eqTree_ok t la, eqRuleS_ok rs hm.1]
end Go.Fw.Law
