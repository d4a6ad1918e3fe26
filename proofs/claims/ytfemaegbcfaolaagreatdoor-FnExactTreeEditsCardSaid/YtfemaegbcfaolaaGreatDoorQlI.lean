/- Plain laws, part I: the walk that makes and moves kids: the program and the reference go in step. Plain laws, part J: the edits of the program are the edits of the reference. Plain laws, part L: what is marked is held. Plain laws, part M: marked trees and edits are held. Plain laws, part N: a small tree has few marks. Plain laws, part O: TreeEdits is the reference's, and the law FnExactTreeEdits. Conditions: none. -/
import Derived.Test.YtfemaegbcfaolaaGreatDoorQlA
namespace Go.Fw.Law
open Go Go.Fw

def neg1 (x : Int) : Int := if x < 0 then -1 else x
theorem neg1_pos {x : Int} (h : 0 ≤ x) : neg1 x = x := by unfold neg1; rw [if_neg (by omega)]
theorem idxOf_neg1 {p : Int} (hp : 0 ≤ p) : ∀ now : List Int, (now.map neg1).idxOf p = now.idxOf p
  | [] => rfl
  | x :: xs => by
    rw [List.map_cons, List.idxOf_cons, List.idxOf_cons, idxOf_neg1 hp xs]
    have : (neg1 x == p) = (x == p) := by
      unfold neg1
      split
      · rw [Bool.eq_iff_iff]; simp; omega
      · rfl
    rw [this]
theorem mem_neg1 {p : Int} (hp : 0 ≤ p) (now : List Int) : p ∈ now.map neg1 ↔ p ∈ now := by
  rw [List.mem_map]
  constructor
  · rintro ⟨x, hx, e⟩
    unfold neg1 at e
    split at e
    · omega
    · exact e ▸ hx
  · intro h; exact ⟨p, h, neg1_pos hp⟩
/-- A place is where it was, or one ahead, when another one is gone. -/
theorem idxOf_erase {p q : Int} (hne : q ≠ p) : ∀ now : List Int, p ∈ now → (now.take (now.idxOf p) ++ now.drop (now.idxOf p + 1)).idxOf q = if now.idxOf p < now.idxOf q then now.idxOf q - 1 else now.idxOf q
  | [], h => by simp at h
  | x :: xs, h => by
    rw [List.idxOf_cons, List.idxOf_cons]
    by_cases hx : x = p
    · subst hx
      have h2 : (x == q) = false := beq_eq_false_iff_ne.2 fun e => hne e.symm
      simp [h2]
    · have h1 : (x == p) = false := by simp [hx]
      have hp : p ∈ xs := by
        rcases List.mem_cons.1 h with e | h
        · exact absurd e.symm hx
        · exact h
      have ih := idxOf_erase hne xs hp
      rw [h1]
      simp only [cond_false, List.take_succ_cons, List.drop_succ_cons, List.cons_append, List.idxOf_cons]
      by_cases hq : x = q
      · subst hq
        simp
      · have h2 : (x == q) = false := by simp [hq]
        rw [h2]
        simp only [cond_false, ih]
        split
        · rw [if_pos (by omega)]; omega
        · rw [if_neg (by omega)]
theorem mem_erase {p q : Int} (hne : q ≠ p) (now : List Int) (hq : q ∈ now) (hp : p ∈ now) : q ∈ now.take (now.idxOf p) ++ now.drop (now.idxOf p + 1) := by
  have hl := List.idxOf_lt_length_iff.2 hp
  have hg : now[now.idxOf p] = p := List.getElem_idxOf hl
  rw [← List.take_append_drop (now.idxOf p) now, drop_at hl, hg] at hq
  rcases List.mem_append.1 hq with h | h
  · exact List.mem_append.2 (.inl h)
  · rcases List.mem_cons.1 h with e | h
    · exact absurd e hne
    · exact List.mem_append.2 (.inr h)
theorem sub_erase {p : Int} (now : List Int) (_hp : p ∈ now) {x : Int} (hx : x ∈ now.take (now.idxOf p) ++ now.drop (now.idxOf p + 1)) : x ∈ now := by
  rcases List.mem_append.1 hx with h | h
  · exact List.mem_of_mem_take h
  · exact List.mem_of_mem_drop h
theorem erase_nodup {p : Int} (now : List Int) (hn : now.Nodup) (hp : p ∈ now) : (now.take (now.idxOf p) ++ now.drop (now.idxOf p + 1)).Nodup ∧ p ∉ now.take (now.idxOf p) ++ now.drop (now.idxOf p + 1) := by
  have hl := List.idxOf_lt_length_iff.2 hp
  have hg : now[now.idxOf p] = p := List.getElem_idxOf hl
  have e : now = now.take (now.idxOf p) ++ p :: now.drop (now.idxOf p + 1) := by
    conv => lhs; rw [← List.take_append_drop (now.idxOf p) now, drop_at hl, hg]
  rw [e] at hn
  generalize now.take (now.idxOf p) = l at *
  generalize now.drop (now.idxOf p + 1) = r at *
  have h1 : (p :: (l ++ r)).Nodup := (List.perm_middle.nodup_iff).1 hn
  rw [List.nodup_cons] at h1
  exact ⟨h1.2, h1.1⟩
theorem idxOf_ins {p : Int} (xs : List Int) (A : Nat) (hA : A ≤ xs.length) (hp : p ∉ xs) : (xs.take A ++ p :: xs.drop A).idxOf p = A := by
  have h : p ∉ xs.take A := fun h => hp (List.mem_of_mem_take h)
  rw [List.idxOf_append]
  simp [h, hA]
theorem ins_nodup {p : Int} (xs : List Int) (A : Nat) (hn : xs.Nodup) (hp : p ∉ xs) : (xs.take A ++ p :: xs.drop A).Nodup := by
  refine (List.perm_middle.nodup_iff).2 ?_
  rw [List.take_append_drop]
  exact List.nodup_cons.2 ⟨hp, hn⟩
theorem mem_ins {p x : Int} (xs : List Int) (A : Nat) : x ∈ xs.take A ++ p :: xs.drop A ↔ x = p ∨ x ∈ xs := by
  conv => rhs; rw [← List.take_append_drop A xs]
  simp only [List.mem_append, List.mem_cons]
  constructor
  · rintro (h | h | h) <;> simp [h]
  · rintro (h | h | h) <;> simp [h]

theorem with_ok (xs : List Int) (A : Nat) (v : Int) (hA : A ≤ xs.length) (hl : xs.length ≤ 1000000) : spec_with xs A v = some (xs.take A ++ v :: xs.drop A) := by
  refine spec_with_of _ _ _ ?_
  have h1 : apOk 8 ([] : List Int) (xs.take A) := apN _ _ _ (by omega) (by simp) (by simp; omega)
  have h2 : apOk 8 (xs.take A) [v] := apN _ _ _ (by omega) (by simp; omega) (by simp)
  have hs : sub xs (A : Int) (xs.length : Int) = xs.drop A := by simp [sub, List.take_of_length_le]
  have h3 : apOk 8 (xs.take A ++ [v]) (xs.drop A) := apN _ _ _ (by omega) (by simp; omega) (by simp; omega)
  rw [if_pos (by omega), Int.toNat_natCast, hs]
  simp [h1, h2, h3]
theorem without_ok (xs : List Int) (A : Nat) (hA : A < xs.length) (hl : xs.length ≤ 1000000) : spec_without xs A = some (xs.take A ++ xs.drop (A + 1)) := by
  refine spec_without_of _ _ ?_
  have h1 : apOk 8 ([] : List Int) (xs.take A) := apN _ _ _ (by omega) (by simp) (by simp; omega)
  have hs : sub xs ((A + 1 : Nat) : Int) (xs.length : Int) = xs.drop (A + 1) := by simp [sub, List.take_of_length_le]
  have h2 : apOk 8 (xs.take A) (xs.drop (A + 1)) := apN _ _ _ (by omega) (by simp; omega) (by simp; omega)
  rw [if_pos (by omega), Int.toNat_natCast, w64s (by omega), hs, if_pos h1, if_pos (by omega), if_pos h2]
theorem delete_ok (xs : List Int) (A : Nat) (hA : A < xs.length) : slices_Delete_int_int xs A ((A + 1 : Nat) : Int) = some (xs.take A ++ xs.drop (A + 1)) := by
  refine slices_Delete_int_int_of _ _ _ ?_
  rw [if_pos (by omega), Int.toNat_natCast, Int.toNat_natCast]
theorem insert_ok (xs : List Int) (A : Nat) (v : Int) (hA : A ≤ xs.length) (hl : xs.length ≤ 1000000) : slices_Insert_int_int xs A [v] = some (xs.take A ++ v :: xs.drop A) := by
  refine slices_Insert_int_int_of _ _ _ ?_
  rw [if_pos (by simp; omega), Int.toNat_natCast]
  rfl
theorem idxOf_notmem {p : Int} : ∀ {xs : List Int}, p ∉ xs → xs.idxOf p = xs.length
  | [], _ => rfl
  | x :: xs, h => by
    simp only [List.mem_cons, not_or] at h
    have : (x == p) = false := beq_eq_false_iff_ne.2 fun e => h.1 e.symm
    rw [List.idxOf_cons, this]
    simp [idxOf_notmem h.2]

/-- What the walk keeps. -/
structure Stay (P now : List Int) (made ahead : Int) (i : Nat) : Prop where
  nd : now.Nodup
  m1 : (-1 : Int) ∉ now
  md : made ≤ -2
  neg : ∀ x ∈ now, x < 0 → made < x
  mem : ∀ (q : Nat) (hq : q < P.length), 0 ≤ P[q] → P[q] ∈ now
  ah : ahead = -1 ∨ ahead ∈ now
  ahne : ∀ (q : Nat) (hq : q < P.length), q < i → 0 ≤ P[q] → P[q] ≠ ahead

theorem kid_walk (Q : TTree → Prop) (hQ : Q noTree) (a b : TTree) (hQk : ∀ k ∈ b.Kids, Q k) (pre : List TEdit) (hpre : pre.length ≤ 1000) (w : List Int) (hw : w.length ≤ 1048576) (hb : b.Kids.length ≤ 10000) (hc : ∀ k ∈ b.Kids, spec_copyTree k = some k ∧ impl_treeCopy k = some k) (P : List Int) (M : List Bool) (hP : P.length = b.Kids.length) (hM : M.length = b.Kids.length)
    (dist : ∀ (q q' : Nat) (hq : q < P.length) (hq' : q' < P.length), q < q' → 0 ≤ P[q] → P[q] ≠ P[q']) :
    ∀ i : Nat, i ≤ b.Kids.length → ∀ (acc : List TEdit) (now : List Int) (made ahead : Int), Stay P now made ahead i → now.length + i ≤ 100000 → acc.length + i ≤ 1000000 → -1000000 ≤ made - i →
      ∃ acc', spec_kidEdits_b3 b.Kids w acc P (now.map neg1) M (now.idxOf ahead) ((i : Int) - 1) = some acc' ∧ acc'.length ≤ acc.length + i ∧ ((∀ e ∈ acc, EOk Q e) → ∀ e ∈ acc', EOk Q e) ∧
        ∀ r, impl_edits_b7 w (pre ++ acc') P b.Kids b.Kids.length 0 a = some r → impl_edits_b5 w (pre ++ acc) P now M made ahead ((i : Int) - 1) a b = some r := by
  intro i
  induction i with
  | zero =>
    intro _ acc now made ahead _ _ _ _
    refine ⟨acc, spec_kidEdits_b3_of _ _ _ _ _ _ _ _ (by simp), by omega, fun h => h, fun r hr => impl_edits_b5_of _ _ _ _ _ _ _ _ _ _ (by simpa using hr)⟩
  | succ i ih =>
    intro hi acc now made ahead st hnl hal hmd
    have e : (((i + 1 : Nat) : Int) - 1) = (i : Int) := by omega
    have hwd : w64 ((i : Int) - 1) = (i : Int) - 1 := w64_id (by omega) (by omega)
    have hiP : i < P.length := by omega
    have hiM : i < M.length := by omega
    have hiK : i < b.Kids.length := by omega
    have hd : decide ((0 : Int) ≤ (i : Int)) = true := decide_eq_true (by omega)
    have hwap : apOk 8 ([] : List Int) w := apN _ _ _ (by omega) (by simp) hw
    have hap : ∀ ed : TEdit, apOk 160 acc [ed] := fun ed => apN _ _ _ (by omega) (by omega) (by simp)
    have hap2 : ∀ ed : TEdit, apOk 160 (pre ++ acc) [ed] := fun ed => apN _ _ _ (by omega) (by rw [List.length_append]; omega) (by simp)
    have hnm : (now.map neg1).length = now.length := by simp
    rw [e]
    -- where the program puts what comes
    have hA : now.idxOf ahead ≤ now.length := List.idxOf_le_length
    have place : ∀ r, impl_edits_b6 w (pre ++ acc) P now M made ahead i (now.idxOf ahead) a b = some r → impl_edits_b5 w (pre ++ acc) P now M made ahead i a b = some r := by
      intro r hr
      refine impl_edits_b5_of _ _ _ _ _ _ _ _ _ _ ?_
      rw [hd]
      rcases st.ah with h | h
      · subst h
        rw [idxOf_notmem st.m1] at hr
        simpa using hr
      · have hne : ahead ≠ -1 := fun e => st.m1 (e ▸ h)
        rw [Index_ok now ahead (by omega)]
        simpa [hne, idx, h] using hr
    by_cases hneg : P[i] < 0
    · -- one more
      have hmn : made ∉ now := fun h => by have := st.neg made h (by have := st.md; omega); omega
      have hma : made ≠ -1 := by have := st.md; omega
      obtain ⟨acc', s1, s2, sq, s3⟩ := ih (by omega) (acc ++ [⟨5, w, now.idxOf ahead, 0, noVal, b.Kids[i]⟩]) (now.take (now.idxOf ahead) ++ made :: now.drop (now.idxOf ahead)) (made - 1) made
        ⟨ins_nodup _ _ st.nd hmn, fun h => by rcases (mem_ins _ _).1 h with h | h; exact hma h.symm; exact st.m1 h, by have := st.md; omega,
          fun x hx h0 => by rcases (mem_ins _ _).1 hx with rfl | hx; omega; have := st.neg x hx h0; omega, fun q hq h0 => (mem_ins _ _).2 (.inr (st.mem q hq h0)), .inr ((mem_ins _ _).2 (.inl rfl)),
          fun q hq _ h0 e => by have := st.md; omega⟩ (by simp; omega) (by simp; omega) (by omega)
      rw [idxOf_ins now _ hA hmn] at s1
      have hwm : w64 (made - 1) = made - 1 := w64_id (by omega) (by have := st.md; omega)
      refine ⟨acc', spec_kidEdits_b3_of _ _ _ _ _ _ _ _ ?_, by simp at s2; omega, fun h => sq (EOk.app h ⟨hw, hQk _ (List.getElem_mem hiK)⟩), fun r hr => place r (impl_edits_b6_of _ _ _ _ _ _ _ _ _ _ _ ?_)⟩
      · rw [hd, rdx_nat hiP, rdx_nat hiK, hwd]
        have hwith := with_ok (now.map neg1) (now.idxOf ahead) (-1) (by rw [hnm]; exact hA) (by rw [hnm]; omega)
        have hmm : neg1 made = -1 := by unfold neg1; rw [if_pos (by have := st.md; omega)]
        simp only [List.map_append, List.map_take, List.map_cons, List.map_drop, hmm, noVal] at s1
        simp [hneg, hwap, (hc _ (List.getElem_mem hiK)).1, hap, hwith, s1]
      · rw [rdx_nat hiP, rdx_nat hiK, hwd, hwm]
        have hins := insert_ok now (now.idxOf ahead) made hA (by omega)
        have := s3 r hr
        simp only [noVal, ← List.append_assoc] at this
        simp [hneg, wayCopy_ok w hw, (hc _ (List.getElem_mem hiK)).2, hap2, hins, -List.append_assoc]
        exact this
    · have hp0 : 0 ≤ P[i] := by omega
      have hpm := st.mem i hiP hp0
      have hidx : idx (now.map neg1) P[i] = (now.idxOf P[i] : Int) := by rw [idx, if_pos ((mem_neg1 hp0 now).2 hpm), idxOf_neg1 hp0]
      have hidx2 : idx now P[i] = (now.idxOf P[i] : Int) := by rw [idx, if_pos hpm]
      have hix := indexOf_v_ok (now.map neg1) P[i] (by rw [hnm]; omega)
      cases hM2 : M[i] with
      | true =>
        obtain ⟨acc', s1, s2, sq, s3⟩ := ih (by omega) acc now made P[i] ⟨st.nd, st.m1, st.md, st.neg, st.mem, .inr hpm, fun q hq hqi h0 => dist q i hq hiP hqi h0⟩ (by omega) (by omega) (by omega)
        refine ⟨acc', spec_kidEdits_b3_of _ _ _ _ _ _ _ _ ?_, by omega, sq, fun r hr => place r (impl_edits_b6_of _ _ _ _ _ _ _ _ _ _ _ ?_)⟩
        · rw [hd, rdx_nat hiP, rdx_nat hiM, hwd]
          simpa [hneg, hM2, hix, hidx] using s1
        · rw [rdx_nat hiP, rdx_nat hiM, hwd]
          simpa [hneg, hM2] using s3 r hr
      | false =>
        have hne : ahead ≠ P[i] := fun e => st.ahne i hiP (by omega) hp0 e.symm
        have hpl := List.idxOf_lt_length_iff.2 hpm
        obtain ⟨en1, en2⟩ := erase_nodup now st.nd hpm
        have hto := idxOf_erase hne now hpm
        generalize hN : now.take (now.idxOf P[i]) ++ now.drop (now.idxOf P[i] + 1) = now1 at *
        have hN1 : now1.length + 1 = now.length := by rw [← hN]; simp; omega
        have hsub : ∀ x, x ∈ now1 → x ∈ now := fun x hx => sub_erase now hpm (hN ▸ hx)
        have hT : now1.idxOf ahead ≤ now1.length := List.idxOf_le_length
        obtain ⟨acc', s1, s2, sq, s3⟩ := ih (by omega) (acc ++ [⟨6, w, now.idxOf P[i], now1.idxOf ahead, noVal, noTree⟩]) (now1.take (now1.idxOf ahead) ++ P[i] :: now1.drop (now1.idxOf ahead)) made P[i]
          ⟨ins_nodup _ _ en1 en2, fun h => by rcases (mem_ins _ _).1 h with h | h; omega; exact st.m1 (hsub _ h), st.md,
            fun x hx h0 => by rcases (mem_ins _ _).1 hx with rfl | hx; omega; exact st.neg x (hsub x hx) h0,
            fun q hq h0 => (mem_ins _ _).2 (by
              by_cases hqe : P[q] = P[i]
              · exact .inl hqe
              · exact .inr (hN ▸ mem_erase hqe now (st.mem q hq h0) hpm)), .inr ((mem_ins _ _).2 (.inl rfl)),
            fun q hq hqi h0 => dist q i hq hiP hqi h0⟩ (by simp; omega) (by simp; omega) (by omega)
        rw [idxOf_ins now1 _ hT en2] at s1
        refine ⟨acc', spec_kidEdits_b3_of _ _ _ _ _ _ _ _ ?_, by simp at s2; omega, fun h => sq (EOk.app h ⟨hw, hQ⟩), fun r hr => place r (impl_edits_b6_of _ _ _ _ _ _ _ _ _ _ _ ?_)⟩
        · rw [hd, rdx_nat hiP, rdx_nat hiM]
          have hwo := without_ok (now.map neg1) (now.idxOf P[i]) (by rw [hnm]; exact hpl) (by rw [hnm]; omega)
          have hmap : (now.map neg1).take (now.idxOf P[i]) ++ (now.map neg1).drop (now.idxOf P[i] + 1) = now1.map neg1 := by rw [← hN]; simp
          rw [hmap] at hwo
          have h4 : spec_kidEdits_b4 b.Kids w acc P (now1.map neg1) M (now1.idxOf ahead) i (now.idxOf P[i]) = some acc' := by
            refine spec_kidEdits_b4_of _ _ _ _ _ _ _ _ _ ?_
            rw [rdx_nat hiP, hwd]
            have hwith := with_ok (now1.map neg1) (now1.idxOf ahead) P[i] (by simpa using hT) (by simp; omega)
            have hmm : neg1 P[i] = P[i] := neg1_pos hp0
            simp only [List.map_append, List.map_take, List.map_cons, List.map_drop, hmm, noVal, noTree] at s1
            simp [hwap, hap, hwith, s1]
          have hcmp : (decide ((now.idxOf P[i] : Int) < (now.idxOf ahead : Int)) = true → w64 ((now.idxOf ahead : Int) - 1) = (now1.idxOf ahead : Int)) ∧ (decide ((now.idxOf P[i] : Int) < (now.idxOf ahead : Int)) = false → now.idxOf ahead = now1.idxOf ahead) := by
            constructor
            · intro h
              have h' : now.idxOf P[i] < now.idxOf ahead := by simpa using h
              rw [hto, if_pos h', w64_id (by omega) (by omega)]
              omega
            · intro h
              have h' : ¬ now.idxOf P[i] < now.idxOf ahead := by simpa using h
              rw [hto, if_neg h']
          simp only [if_true, Option.bind_some, hneg, decide_false, Bool.false_eq_true, if_false, hM2, hix, hidx, hwo]
          cases hcd : decide ((now.idxOf P[i] : Int) < (now.idxOf ahead : Int))
          · simp only [Bool.false_eq_true, if_false]
            rw [hcmp.2 hcd]; exact h4
          · simp only [if_true]
            rw [hcmp.1 hcd]; exact h4
        · rw [rdx_nat hiP, rdx_nat hiM]
          have hdel := delete_ok now (now.idxOf P[i]) hpl
          rw [hN] at hdel
          have h8 : impl_edits_b8 w (pre ++ acc) P now1 M made i (now.idxOf P[i]) (now1.idxOf ahead) a b = some r := by
            refine impl_edits_b8_of _ _ _ _ _ _ _ _ _ _ _ ?_
            rw [rdx_nat hiP, hwd]
            have hins := insert_ok now1 (now1.idxOf ahead) P[i] hT (by omega)
            have := s3 r hr
            simp only [noVal, noTree, ← List.append_assoc] at this
            simp [hins, wayCopy_ok w hw, hap2, -List.append_assoc]
            exact this
          have hws : w64 ((now.idxOf P[i] : Int) + 1) = ((now.idxOf P[i] + 1 : Nat) : Int) := w64s (by omega)
          simp only [Option.bind_some, hneg, decide_false, Bool.false_eq_true, if_false, hM2, Index_ok now P[i] (by omega), hidx2, hws, hdel]
          rcases st.ah with h | h
          · subst h
            have hm1 : (-1 : Int) ∉ now1 := fun h => st.m1 (hsub _ h)
            rw [idxOf_notmem hm1] at h8
            simpa using h8
          · have hne2 : ahead ≠ -1 := fun e => st.m1 (e ▸ h)
            have hm1 : ahead ∈ now1 := hN ▸ mem_erase hne now h hpm
            rw [Index_ok now1 ahead (by omega)]
            simpa [hne2, idx, hm1] using h8
end Go.Fw.Law
namespace Go.Fw.Law
open Go Go.Fw

theorem nodes_mem : ∀ (ts : List TTree) (t : TTree), t ∈ ts → nodes t ≤ nodesL ts
  | [], t, h => by simp at h
  | x :: xs, t, h => by
    rcases List.mem_cons.1 h with rfl | h
    · simp [nodesL]
    · have := nodes_mem xs t h; simp [nodesL]; omega
theorem depth_mem : ∀ (ts : List TTree) (t : TTree), t ∈ ts → depth t ≤ depthL ts
  | [], t, h => by simp at h
  | x :: xs, t, h => by
    rcases List.mem_cons.1 h with rfl | h
    · simp [depthL]; omega
    · have := depth_mem xs t h; simp [depthL]; omega

theorem kept_filter (U : List Bool) (n : Nat) : kept U 0 n = ((List.range n).filter fun k => decide (U[k]? = some true)).map (fun k : Nat => (k : Int)) := by
  rw [kept, Nat.sub_zero, List.range_eq_range']
theorem idx_used {P : List Int} {U : List Bool} {k : Nat} (h : U[k]? = some true ↔ (k : Int) ∈ P) : (0 ≤ idx P k ↔ U[k]? = some true) ∧ (idx P k < 0 ↔ ¬ U[k]? = some true) := by
  rw [h]
  unfold idx
  by_cases hm : (k : Int) ∈ P
  · simp [hm]
  · simp [hm]
/-- The reference's edits of kids, up to the walk. -/
theorem kidEdits_walk (Ka Kb : List TTree) (w : List Int) (hw : w.length ≤ 1048576) (ha : Ka.length ≤ 10000) (hb : Kb.length ≤ 10000) (P : List Int) (U : List Bool) (M : List Bool) (hP : P.length ≤ 10000) (hU : ∀ k : Nat, U[k]? = some true ↔ (k : Int) ∈ P)
    (hM : spec_longestRise P = some M) (r : List TEdit) (hr : spec_kidEdits_b3 Kb w (gones w U Ka.length) P (kept U 0 Ka.length) M ((kept U 0 Ka.length).length : Int) ((Kb.length : Int) - 1) = some r) :
    spec_kidEdits_b1 Ka Kb w [] P [] 0 = some r := by
  have gone : ∀ j : Nat, j ≤ Ka.length → ∀ acc : List TEdit, acc.length + j ≤ 100000 → acc ++ gones w U j = gones w U Ka.length → spec_kidEdits_b2 Kb w acc P (kept U 0 Ka.length) ((j : Int) - 1) = some r := by
    intro j
    induction j with
    | zero =>
      intro _ acc _ he
      refine spec_kidEdits_b2_of _ _ _ _ _ _ ?_
      rw [hM, w64_id (show -9223372036854775808 ≤ (Kb.length : Int) - 1 by omega) (by omega)]
      simp only [gones, List.append_nil] at he
      rw [he]
      simpa using hr
    | succ j ih =>
      intro hj acc hacc he
      have e : (((j + 1 : Nat) : Int) - 1) = (j : Int) := by omega
      have hwd : w64 ((j : Int) - 1) = (j : Int) - 1 := w64_id (by omega) (by omega)
      obtain ⟨u1, u2⟩ := idx_used (hU j)
      rw [e]
      refine spec_kidEdits_b2_of _ _ _ _ _ _ ?_
      rw [decide_eq_true (show (0 : Int) ≤ (j : Int) by omega), indexOf_ok P j (by omega), hwd]
      simp only [gones] at he
      by_cases hu : U[j]? = some true
      · have := ih (by omega) acc (by omega) (by simpa [hu] using he)
        simpa [show ¬ idx P j < 0 from fun h => u2.1 h hu] using this
      · have := ih (by omega) (acc ++ [⟨4, w, j, 0, noVal, noTree⟩]) (by simp; omega) (by simpa [hu] using he)
        have hap : apOk 160 acc [(⟨4, w, j, 0, noVal, noTree⟩ : TEdit)] := apN _ _ _ (by omega) (by omega) (by simp)
        have hwap : apOk 8 ([] : List Int) w := apN _ _ _ (by omega) (by simp) hw
        simp only [noVal, noTree] at hap this
        simpa [u2.2 hu, hap, hwap] using this
  have now : ∀ k : Nat, k ≤ Ka.length → spec_kidEdits_b1 Ka Kb w [] P (kept U 0 k) k = some r := by
    refine upto _ ?_ ?_
    · refine spec_kidEdits_b1_of _ _ _ _ _ _ _ ?_
      rw [dge, w64_id (show -9223372036854775808 ≤ (Ka.length : Int) - 1 by omega) (by omega)]
      simpa using gone Ka.length (Nat.le_refl _) [] (by simp; omega) (by simp)
    · intro k hk ih
      obtain ⟨u1, u2⟩ := idx_used (hU k)
      refine spec_kidEdits_b1_of _ _ _ _ _ _ _ ?_
      rw [dlt hk, indexOf_ok P k (by omega), w64s (by omega)]
      have hkl : (kept U 0 k).length ≤ k := by
        rw [kept_filter, List.length_map]
        exact Nat.le_trans (List.length_filter_le _ _) (by simp)
      have hap : apOk 8 (kept U 0 k) [(k : Int)] := apN _ _ _ (by omega) (by omega) (by simp)
      have hs : kept U 0 (k + 1) = kept U 0 k ++ (if U[k]? = some true then [(k : Int)] else []) := by
        rw [kept_filter, kept_filter, List.range_succ, List.filter_append, List.map_append]
        by_cases hu : U[k]? = some true <;> simp [hu]
      by_cases hu : U[k]? = some true
      · rw [hs, if_pos hu] at ih
        simpa [u1.2 hu, hap] using ih
      · rw [hs, if_neg hu, List.append_nil] at ih
        simpa [show ¬ 0 ≤ idx P k from fun h => hu (u1.1 h)] using ih
  have := now 0 (by omega)
  rw [show kept U 0 0 = [] from rfl] at this
  exact this

/-- The edits of kids: the program does what the reference does. -/
theorem kids_ok (Q : TTree → Prop) (hQ : Q noTree) (a b : TTree) (hQk : ∀ k ∈ b.Kids, Q k) (w : List Int) (hw : w.length ≤ 1048576) (ha : a.Kids.length ≤ 1000) (hb : b.Kids.length ≤ 1000) (hc : ∀ k ∈ b.Kids, spec_copyTree k = some k ∧ impl_treeCopy k = some k) (pre : List TEdit) (hpre : pre.length ≤ 1000) :
    ∃ E, spec_kidEdits a.Kids b.Kids w = some E ∧ E.length ≤ a.Kids.length + b.Kids.length ∧ (∀ e ∈ E, EOk Q e) ∧
      ∀ r, impl_edits_b7 w (pre ++ E) (parts a.Kids b.Kids (List.replicate a.Kids.length false)).1 b.Kids b.Kids.length 0 a = some r → impl_edits_b1 w pre [] (List.replicate a.Kids.length false) b.Kids b.Kids.length 0 a b = some r := by
  have htk : (List.replicate a.Kids.length false).length = a.Kids.length := by simp
  obtain ⟨hPl, hUl⟩ := parts_len a.Kids b.Kids (List.replicate a.Kids.length false)
  have hused := parts_used a.Kids b.Kids (List.replicate a.Kids.length false) htk
  have hspec := parts_spec a.Kids b.Kids (List.replicate a.Kids.length false) htk
  have hpart := partners_ok a.Kids b.Kids (by omega) (by omega)
  have himpl := edits_parts a b w pre (by omega) (by omega) 0 (by omega) [] (List.replicate a.Kids.length false) rfl htk
  rw [List.drop_zero, List.nil_append] at himpl
  generalize hPe : (parts a.Kids b.Kids (List.replicate a.Kids.length false)).1 = P at *
  generalize hUe : (parts a.Kids b.Kids (List.replicate a.Kids.length false)).2 = U at *
  rw [htk] at hUl
  have hU : ∀ k : Nat, U[k]? = some true ↔ (k : Int) ∈ P := fun k => by
    rw [hused k]
    constructor
    · rintro (h | h)
      · rw [List.getElem?_replicate] at h; split at h <;> simp at h
      · exact h
    · exact .inr
  obtain ⟨M, m1, m2, m3⟩ := rise_ok P (by omega)
  have hkm : ∀ x, x ∈ kept U 0 a.Kids.length ↔ ∃ k : Nat, k < a.Kids.length ∧ U[k]? = some true ∧ (k : Int) = x := fun x => by
    rw [kept_filter]; simp [and_assoc]
  have hkl : (kept U 0 a.Kids.length).length ≤ a.Kids.length := by
    rw [kept_filter, List.length_map]
    exact Nat.le_trans (List.length_filter_le _ _) (by simp)
  have hm1 : (-1 : Int) ∉ kept U 0 a.Kids.length := fun h => by obtain ⟨k, _, _, e⟩ := (hkm _).1 h; omega
  have st : Stay P (kept U 0 a.Kids.length) (-2) (-1) b.Kids.length := by
    refine ⟨?_, hm1, by omega, fun x hx h0 => ?_, fun q hq h0 => ?_, .inl rfl, fun q hq _ h0 e => by omega⟩
    · rw [kept_filter]
      exact List.Pairwise.map _ (fun a b (h : a ≠ b) e => h (by omega)) (List.Pairwise.filter _ List.nodup_range)
    · obtain ⟨k, _, _, e⟩ := (hkm _).1 hx; omega
    · rcases hspec q hq with h1 | ⟨m, h1, _, ⟨h3, _⟩, _⟩
      · omega
      · rw [hkm]
        exact ⟨m, h3, (hU m).2 (h1 ▸ List.getElem_mem hq), h1.symm⟩
  have dist : ∀ (q q' : Nat) (hq : q < P.length) (hq' : q' < P.length), q < q' → 0 ≤ P[q] → P[q] ≠ P[q'] := by
    intro q q' hq hq' hlt h0
    rcases hspec q hq with h1 | ⟨m, h1, _, _, h5⟩
    · omega
    · rw [h1]; exact fun e => h5 q' hq' hlt e.symm
  have hgl := gones_len w U a.Kids.length
  obtain ⟨E, s1, s2, sq, s3⟩ := kid_walk Q hQ a b hQk pre hpre w hw (by omega) hc P M hPl (by omega) dist b.Kids.length (Nat.le_refl _) (gones w U a.Kids.length) (kept U 0 a.Kids.length) (-2) (-1) st (by omega) (by omega) (by omega)
  have hmap : (kept U 0 a.Kids.length).map neg1 = kept U 0 a.Kids.length := by
    conv => rhs; rw [← List.map_id (kept U 0 a.Kids.length)]
    refine List.map_congr_left fun x hx => ?_
    obtain ⟨k, _, _, e⟩ := (hkm _).1 hx
    exact neg1_pos (by omega)
  rw [hmap, idxOf_notmem hm1] at s1
  refine ⟨E, spec_kidEdits_of _ _ _ ?_, by omega, sq (gones_mem hQ w hw U _), fun r hr => himpl r ?_⟩
  · rw [hpart]
    simp only [Option.bind_some]
    exact kidEdits_walk a.Kids b.Kids w hw (by omega) (by omega) P U M (by omega) hU m1 E s1
  · have h4 := edits_gones a b w hw P U M a.Kids.length (by omega) hUl (by omega) m2 r a.Kids.length (Nat.le_refl _) pre (by omega) (s3 r hr)
    rw [kept_end, List.append_nil] at h4
    exact edits_rng a b w pre P U (by omega) r h4 0 (by omega)

/-- A tree in an edit. -/
def EQ (t : TTree) : Prop := Lm 1048576 t ∧ nodes t ≤ 200
theorem EQ_no : EQ noTree := ⟨.mk (by simp) (by simp) (by simp) (by simp) (by simp), by simp [nodes, nodesL]⟩
/-- The edits of parts. -/
theorem edits_ok : ∀ b : TTree, ∀ (a : TTree) (w : List Int), Lm 1048576 a → Lm 1048576 b → nodes a ≤ 200 → nodes b ≤ 200 → w.length + depth b ≤ 2000 → a.Tag = b.Tag → a.Key = b.Key →
    ∃ E, spec_partEdits a b w = some E ∧ impl_edits a b w = some E ∧ E.length ≤ 410 * nodes b ∧ ∀ e ∈ E, EOk EQ e := by
  refine TTree.ind ?_
  intro b ih a w hla hlb hna hnb hwd htag hkey
  have na := nodes_eq a
  have nb := nodes_eq b
  have db := depth_eq b
  have la := nodesL_len a.Kids
  have lb := nodesL_len b.Kids
  have hw : w.length ≤ 1048576 := by omega
  have hwap : apOk 8 ([] : List Int) w := apN _ _ _ (by omega) (by simp) hw
  by_cases h1 : b.Tag = -1
  · by_cases h2 : a.Text = b.Text
    · exact ⟨[], spec_partEdits_of _ _ _ (by simp [h1, h2]), impl_edits_of _ _ _ (by simp [htag, hkey, h1, h2]), by simp, by simp⟩
    · exact ⟨[⟨1, w, 0, 0, ⟨2, 0, b.Text⟩, noTree⟩], spec_partEdits_of _ _ _ (by simp [h1, h2, hwap]), impl_edits_of _ _ _ (by simp [htag, hkey, h1, h2, wayCopy_ok w hw]), by simp; omega, fun e he => by rw [List.mem_singleton] at he; rw [he]; exact ⟨hw, EQ_no⟩⟩
  · obtain ⟨E1, p1, p2, p3, pq⟩ := propEdits_ok EQ EQ_no a b w hw hla.ps hlb.ps
    obtain ⟨E2, k1, k2, kq, k3⟩ := kids_ok EQ EQ_no a b (fun k hk => ⟨hlb.ks k hk, by have := nodes_mem b.Kids k hk; omega⟩) w hw (by omega) (by omega) (fun k hk => ⟨copyTree_ok k (hlb.ks k hk), treeCopy_ok k (hlb.ks k hk)⟩) E1 (by omega)
    have htk : (List.replicate a.Kids.length false).length = a.Kids.length := by simp
    have hpart := partners_ok a.Kids b.Kids (by omega) (by omega)
    obtain ⟨hPl, _⟩ := parts_len a.Kids b.Kids (List.replicate a.Kids.length false)
    have hspec := parts_spec a.Kids b.Kids (List.replicate a.Kids.length false) htk
    generalize (parts a.Kids b.Kids (List.replicate a.Kids.length false)).1 = P at *
    have loop : ∀ k : Nat, k ≤ b.Kids.length → ∀ acc : List TEdit, acc.length + 410 * nodesL (b.Kids.drop k) ≤ 410 * 200 → ∃ E, spec_partEdits_b1 w acc P k a b = some E ∧ impl_edits_b7 w acc P b.Kids b.Kids.length k a = some E ∧ E.length ≤ acc.length + 410 * nodesL (b.Kids.drop k) ∧ ((∀ e ∈ acc, EOk EQ e) → ∀ e ∈ E, EOk EQ e) := by
      refine upto _ ?_ ?_
      · intro acc _
        exact ⟨acc, spec_partEdits_b1_of _ _ _ _ _ _ (by simp), impl_edits_b7_of _ _ _ _ _ _ _ (by simp), by omega, fun h => h⟩
      · intro k hk ihk acc hacc
        rw [drop_at hk, nodesL] at hacc ⊢
        have hkP : k < P.length := by omega
        have hws : w64 ((k : Int) + 1) = ((k + 1 : Nat) : Int) := w64s (by omega)
        rcases hspec k hkP with q1 | ⟨m, q1, _, ⟨q3, _, q4, q5⟩, _⟩
        · obtain ⟨E, e1, e2, e3, eq⟩ := ihk acc (by omega)
          refine ⟨E, spec_partEdits_b1_of _ _ _ _ _ _ ?_, impl_edits_b7_of _ _ _ _ _ _ _ ?_, by omega, eq⟩
          · rw [dlt hk, rdx_nat hkP, hws]; simpa [q1] using e1
          · rw [dlt hk, rdx_nat hkP, rdx_nat hk, hws]; simpa [q1] using e2
        · have n1 := nodes_mem a.Kids a.Kids[m] (List.getElem_mem q3)
          have n2 := nodes_mem b.Kids b.Kids[k] (List.getElem_mem hk)
          have d2 := depth_mem b.Kids b.Kids[k] (List.getElem_mem hk)
          obtain ⟨E3, f1, f2, f3, fq⟩ := ih b.Kids[k] (List.getElem_mem hk) a.Kids[m] (w ++ [(k : Int)]) (hla.ks _ (List.getElem_mem q3)) (hlb.ks _ (List.getElem_mem hk)) (by omega) (by omega) (by simp; omega) q4 q5
          obtain ⟨E, e1, e2, e3, eq⟩ := ihk (acc ++ E3) (by simp; omega)
          have hap : apOk 160 acc E3 := apN _ _ _ (by omega) (by omega) (by omega)
          have hap2 : apOk 8 w [(k : Int)] := apN _ _ _ (by omega) hw (by simp)
          have hmore : impl_wayMore w k = some (w ++ [(k : Int)]) := impl_wayMore_of _ _ (by simp [hwap, hap2])
          refine ⟨E, spec_partEdits_b1_of _ _ _ _ _ _ ?_, impl_edits_b7_of _ _ _ _ _ _ _ ?_, by simp at e3; omega, fun h => eq (EOk.both h fq)⟩
          · rw [dlt hk, rdx_nat hkP, rdx_nat hk, hws]
            simp only [q1, if_true, Option.bind_some]
            rw [decide_eq_true (show (0 : Int) ≤ (m : Int) by omega), rdx_nat q3]
            simp only [if_true, Option.bind_some, hwap, hap2, f1, hap]
            exact e1
          · rw [dlt hk, rdx_nat hkP, rdx_nat hk, hws]
            simp only [q1, if_true, Option.bind_some]
            rw [decide_eq_true (show (0 : Int) ≤ (m : Int) by omega), rdx_nat q3]
            simp only [if_true, Option.bind_some, hmore, f2, hap]
            exact e2
    obtain ⟨E, e1, e2, e3, eq⟩ := loop 0 (by omega) (E1 ++ E2) (by rw [List.drop_zero, List.length_append]; omega)
    rw [List.drop_zero, List.length_append] at e3
    have hap : apOk 160 E1 E2 := apN _ _ _ (by omega) (by omega) (by omega)
    refine ⟨E, spec_partEdits_of _ _ _ ?_, impl_edits_of _ _ _ ?_, by omega, eq (EOk.both pq kq)⟩
    · rw [decide_eq_false h1, p1, k1, hpart]
      simp only [Bool.false_eq_true, if_false, Option.bind_some, if_pos hap]
      exact e1
    · rw [decide_eq_true htag, decide_eq_true hkey, decide_eq_false (show ¬ a.Tag = -1 from fun h => h1 (htag ▸ h)), p2]
      simp only [Bool.not_true, Bool.false_eq_true, if_false, Option.bind_some]
      rw [if_pos (len_ok (show a.Kids.length ≤ 1048576 by omega) 1 (.inl rfl))]
      exact k3 E e2

/-- The edits of trees. -/
theorem trees_ok (a b : TTree) (hla : Lm 1048576 a) (hlb : Lm 1048576 b) (ha : treeB a = true) (hb : treeB b = true) : ∃ E, spec_treeEdits a b = some E ∧ impl_edits a b [] = some E ∧ E.length ≤ 410 * 200 ∧ ∀ e ∈ E, EOk EQ e := by
  simp only [treeB, Bool.and_eq_true, decide_eq_true_eq] at ha hb
  have hw := wayCopy_ok [] (by simp)
  have c1 := copyTree_ok b hlb
  have c2 := treeCopy_ok b hlb
  by_cases h1 : a.Tag = b.Tag
  · by_cases h2 : a.Key = b.Key
    · obtain ⟨E, e1, e2, e3, eq⟩ := edits_ok b a [] hla hlb ha.1.2 hb.1.2 (by have := hb.1.1; simp; omega) h1 h2
      exact ⟨E, spec_treeEdits_of _ _ (by simp [h1, h2, e1]), e2, by have := hb.1.2; omega, eq⟩
    · exact ⟨[⟨0, [], 0, 0, noVal, b⟩], spec_treeEdits_of _ _ (by simp [h1, h2, c1]), impl_edits_of _ _ _ (by simp [h1, h2, hw, c2]), by simp, fun e he => by rw [List.mem_singleton] at he; rw [he]; exact ⟨by simp, hlb, hb.1.2⟩⟩
  · exact ⟨[⟨0, [], 0, 0, noVal, b⟩], spec_treeEdits_of _ _ (by simp [h1, c1]), impl_edits_of _ _ _ (by simp [h1, hw, c2]), by simp, fun e he => by rw [List.mem_singleton] at he; rw [he]; exact ⟨by simp, hlb, hb.1.2⟩⟩
end Go.Fw.Law
namespace Go.Fw.Law
open Go Go.Fw

theorem wk1 {x : Int} (h0 : 0 ≤ x) (h1 : x < 4611686018427387904) : w64 (x + 1) = x + 1 := w64_id (by omega) (by omega)
theorem tos1 (n : Int) (h0 : 0 ≤ n) (h1 : n < 256) : ∃ c, tos [n] = some [c] := by
  have e : n = ((UInt8.ofNat n.toNat).toNat : Int) := by
    rw [UInt8.toNat_ofNat']
    omega
  exact ⟨UInt8.ofNat n.toNat, by simp only [tos, List.map_cons, List.map_nil, eU8, bytesOf, ob]; rw [if_pos e]⟩
theorem digit (x : Int) (h : 0 ≤ x) : ∃ c, tos [IntKind.wrap .u8 (w64 (48 + (x.tmod 10)))] = some [c] := by
  have h1 : 0 ≤ x.tmod 10 ∧ x.tmod 10 < 10 := ⟨Int.tmod_nonneg _ h, Int.tmod_lt_of_pos _ (by omega)⟩
  generalize x.tmod 10 = d at h1
  have : d = 0 ∨ d = 1 ∨ d = 2 ∨ d = 3 ∨ d = 4 ∨ d = 5 ∨ d = 6 ∨ d = 7 ∨ d = 8 ∨ d = 9 := by omega
  rcases this with rfl | rfl | rfl | rfl | rfl | rfl | rfl | rfl | rfl | rfl <;> exact ⟨_, by rfl⟩
theorem markText_end (s : Str) (h : s.length ≤ 4611686018427387904) : laws_markText_b1 0 s = some ([109] ++ s) := laws_markText_b1_of _ _ (by
  rw [decide_eq_false (show ¬ (0 : Int) < 0 by omega)]
  simp only [Bool.false_eq_true, if_false]
  exact if_pos (by rw [List.length_singleton]; omega))
theorem markText_loop : ∀ (n : Nat) (x : Int), x.toNat ≤ n → 0 ≤ x → x < 4611686018427387904 → ∀ s : Str, s.length + x.toNat ≤ 4611686018427387904 → ∃ t, laws_markText_b1 x s = some t := by
  intro n
  induction n with
  | zero =>
    intro x hn h0 h1 s hs
    have : x = 0 := by omega
    subst this
    exact ⟨_, markText_end s (by omega)⟩
  | succ n ih =>
    intro x hn h0 h1 s hs
    by_cases hx : 0 < x
    · obtain ⟨c, hc⟩ := digit x h0
      have hd : x.tdiv 10 = x / 10 := Int.tdiv_eq_ediv_of_nonneg h0
      have h2 : x / 10 < x := by omega
      have h3 : 0 ≤ x / 10 := by omega
      obtain ⟨t, ht⟩ := ih (x / 10) (by omega) h3 (by omega) ([c] ++ s) (by simp; omega)
      refine ⟨t, laws_markText_b1_of _ _ ?_⟩
      rw [decide_eq_true hx, hd, w64_id (show -9223372036854775808 ≤ x / 10 by omega) (by omega)]
      simp only [if_true, hc, Option.bind_some]
      rw [if_pos (by simp; omega)]
      exact ht
    · have : x = 0 := by omega
      subst this
      exact ⟨_, markText_end s (by omega)⟩
theorem markText_ok (k : Int) (h0 : 0 ≤ k) (h1 : k < 4611686018427387904) : ∃ t, laws_markText k = some t := by
  by_cases h : k ≤ 0
  · exact ⟨[109, 48], laws_markText_of _ (by simp [h])⟩
  · obtain ⟨t, ht⟩ := markText_loop k.toNat k (Nat.le_refl _) h0 h1 [] (by simp; omega)
    exact ⟨t, laws_markText_of _ (by simp [h, ht])⟩

theorem rdx_set {α : Type} {xs : List α} {j : Nat} (h : j < xs.length) (a : α) : rdx (xs.set j a) (j : Int) = some a := by
  rw [rdx_nat (by simpa using h)]
  simp
theorem rdx_at {α : Type} {xs : List α} {j : Nat} {a : α} (h : xs[j]? = some a) : rdx xs (j : Int) = some a := by
  obtain ⟨hl, e⟩ := List.getElem?_eq_some_iff.1 h
  rw [rdx_nat hl, e]

theorem markIntS_loop (n : Nat) (hn : n ≤ 1048576) : ∀ j, j ≤ n → ∀ (zs : List Int) (k : Int), zs.length = n → 0 ≤ k → k + ((n - j : Nat) : Int) < 4611686018427387904 →
    ∃ zs', laws_markIntS_b1 zs k j = some (k + ((n - j : Nat) : Int), zs') ∧ zs'.length = n ∧ (∀ i, i < j → zs'[i]? = zs[i]?) ∧ laws_heldIntS_b1 zs' k j = some (k + ((n - j : Nat) : Int)) := by
  refine upto _ ?_ ?_
  · intro zs k hl _ _
    exact ⟨zs, laws_markIntS_b1_of _ _ _ (by simp [hl]), hl, fun _ _ => rfl, laws_heldIntS_b1_of _ _ _ (by simp [hl])⟩
  · intro j hj ih zs k hl h0 h1
    have hj' : j < zs.length := by omega
    obtain ⟨zs', a1, a2, a3, a4⟩ := ih (zs.set j k) (k + 1) (by simpa using hl) (by omega) (by omega)
    have e : k + 1 + ((n - (j + 1) : Nat) : Int) = k + ((n - j : Nat) : Int) := by omega
    rw [e] at a1 a4
    have hz : zs'[j]? = some k := by rw [a3 j (by omega)]; simp [hj']
    refine ⟨zs', laws_markIntS_b1_of _ _ _ ?_, a2, fun i hi => ?_, laws_heldIntS_b1_of _ _ _ ?_⟩
    · rw [dlt hj', rdx_nat hj', w64s (by omega), wk1 h0 (by omega)]
      simpa using a1
    · rw [a3 i (by omega), List.getElem?_set_ne (by omega)]
    · rw [dlt (by omega), rdx_at hz, w64s (by omega), wk1 h0 (by omega)]
      simpa using a4
theorem markIntS_ok (zs : List Int) (hn : zs.length ≤ 1048576) (k : Int) (h0 : 0 ≤ k) (h1 : k + (zs.length : Int) < 4611686018427387904) :
    ∃ zs', laws_markIntS zs k = some (k + (zs.length : Int), zs') ∧ laws_heldIntS zs' k = some (k + (zs.length : Int)) := by
  obtain ⟨zs', a1, a2, _, a4⟩ := markIntS_loop zs.length hn 0 (by omega) zs k rfl h0 (by simpa using h1)
  exact ⟨zs', laws_markIntS_of _ _ (by simpa using a1), laws_heldIntS_of _ _ (by simpa using a4)⟩

theorem markPropS_loop (n : Nat) (hn : n ≤ 1048576) : ∀ j, j ≤ n → ∀ (zs : List TProp) (k : Int), zs.length = n → 0 ≤ k → k + 4 * ((n - j : Nat) : Int) < 4611686018427387904 →
    ∃ zs', laws_markPropS_b1 zs k j = some (k + 4 * ((n - j : Nat) : Int), zs') ∧ zs'.length = n ∧ (∀ i, i < j → zs'[i]? = zs[i]?) ∧ laws_heldPropS_b1 zs' k j = some (k + 4 * ((n - j : Nat) : Int)) := by
  refine upto _ ?_ ?_
  · intro zs k hl _ _
    exact ⟨zs, laws_markPropS_b1_of _ _ _ (by simp [hl]), hl, fun _ _ => rfl, laws_heldPropS_b1_of _ _ _ (by simp [hl])⟩
  · intro j hj ih zs k hl h0 h1
    have hj' : j < zs.length := by omega
    obtain ⟨t, ht⟩ := markText_ok (k + 1 + 1 + 1) (by omega) (by omega)
    obtain ⟨zs', a1, a2, a3, a4⟩ := ih (zs.set j ⟨k, ⟨k + 1, k + 1 + 1, t⟩⟩) (k + 1 + 1 + 1 + 1) (by simpa using hl) (by omega) (by omega)
    have e : k + 1 + 1 + 1 + 1 + 4 * ((n - (j + 1) : Nat) : Int) = k + 4 * ((n - j : Nat) : Int) := by omega
    rw [e] at a1 a4
    have hz : zs'[j]? = some ⟨k, ⟨k + 1, k + 1 + 1, t⟩⟩ := by rw [a3 j (by omega)]; simp [hj']
    refine ⟨zs', laws_markPropS_b1_of _ _ _ ?_, a2, fun i hi => ?_, laws_heldPropS_b1_of _ _ _ ?_⟩
    · rw [dlt hj', rdx_nat hj', w64s (by omega), wk1 h0 (by omega), wk1 (x := k + 1) (by omega) (by omega), wk1 (x := k + 1 + 1) (by omega) (by omega), wk1 (x := k + 1 + 1 + 1) (by omega) (by omega)]
      simp only [if_true, Option.bind_some, Int.toNat_natCast, List.set_set, rdx_set hj', ht]
      exact a1
    · rw [a3 i (by omega), List.getElem?_set_ne (by omega)]
    · rw [dlt (by omega), rdx_at hz, w64s (by omega), wk1 h0 (by omega), wk1 (x := k + 1) (by omega) (by omega), wk1 (x := k + 1 + 1) (by omega) (by omega), wk1 (x := k + 1 + 1 + 1) (by omega) (by omega)]
      simp only [if_true, Option.bind_some, ht, decide_true, Bool.not_true, Bool.false_eq_true, if_false]
      exact a4
theorem markPropS_ok (zs : List TProp) (hn : zs.length ≤ 1048576) (k : Int) (h0 : 0 ≤ k) (h1 : k + 4 * (zs.length : Int) < 4611686018427387904) :
    ∃ zs', laws_markPropS zs k = some (k + 4 * (zs.length : Int), zs') ∧ laws_heldPropS zs' k = some (k + 4 * (zs.length : Int)) := by
  obtain ⟨zs', a1, a2, _, a4⟩ := markPropS_loop zs.length hn 0 (by omega) zs k rfl h0 (by simpa using h1)
  exact ⟨zs', laws_markPropS_of _ _ (by simpa using a1), laws_heldPropS_of _ _ (by simpa using a4)⟩
end Go.Fw.Law
namespace Go.Fw.Law
open Go Go.Fw

mutual
def cnt : TTree → Nat
  | ⟨_, _, _, ps, ks⟩ => 3 + 4 * ps.length + cntL ks
def cntL : List TTree → Nat
  | [] => 0
  | t :: ts => cnt t + cntL ts
end
theorem cnt_eq (t : TTree) : cnt t = 3 + 4 * t.Props.length + cntL t.Kids := by cases t; rw [cnt]

theorem markTreeS_loop (ts : List TTree) (hn : ts.length ≤ 1048576) (hp : ∀ t ∈ ts, t.Props.length ≤ 1048576)
    (ih0 : ∀ t ∈ ts, ∀ k : Int, 0 ≤ k → k + (cntL t.Kids : Int) < 4611686018427387904 → ∃ ks', laws_markTreeS t.Kids k = some (k + (cntL t.Kids : Int), ks') ∧ laws_heldTreeS ks' k = some (k + (cntL t.Kids : Int))) :
    ∀ j, j ≤ ts.length → ∀ (zs : List TTree) (k : Int), zs.length = ts.length → (∀ i, j ≤ i → zs[i]? = ts[i]?) → 0 ≤ k → k + (cntL (ts.drop j) : Int) < 4611686018427387904 →
      ∃ zs', laws_markTreeS_b1 zs k j = some (k + (cntL (ts.drop j) : Int), zs') ∧ zs'.length = ts.length ∧ (∀ i, i < j → zs'[i]? = zs[i]?) ∧ laws_heldTreeS_b1 zs' k j = some (k + (cntL (ts.drop j) : Int)) := by
  refine upto _ ?_ ?_
  · intro zs k hl _ _ _
    rw [List.drop_length]
    exact ⟨zs, laws_markTreeS_b1_of _ _ _ (by simp [hl, cntL]), hl, fun _ _ => rfl, laws_heldTreeS_b1_of _ _ _ (by simp [hl, cntL])⟩
  · intro j hj ih zs k hl hz h0 h1
    rw [drop_at hj, cntL, cnt_eq] at h1 ⊢
    have hj' : j < zs.length := by omega
    have hzt : zs[j] = ts[j] := by
      have := hz j (Nat.le_refl _)
      rw [List.getElem?_eq_getElem hj', List.getElem?_eq_getElem hj] at this
      exact Option.some.inj this
    have hm : ts[j] ∈ ts := List.getElem_mem hj
    have hpl := hp _ hm
    generalize ts[j] = t at *
    obtain ⟨x, hx⟩ := markText_ok (k + 1 + 1) (by omega) (by omega)
    obtain ⟨ps', p1, p2⟩ := markPropS_ok t.Props hpl (k + 1 + 1 + 1) (by omega) (by omega)
    obtain ⟨ks', q1, q2⟩ := ih0 t hm (k + 1 + 1 + 1 + 4 * (t.Props.length : Int)) (by omega) (by omega)
    obtain ⟨zs', a1, a2, a3, a4⟩ := ih (zs.set j ⟨k, k + 1, x, ps', ks'⟩) (k + 1 + 1 + 1 + 4 * (t.Props.length : Int) + (cntL t.Kids : Int)) (by simpa using hl) (fun i hi => by rw [List.getElem?_set_ne (by omega)]; exact hz i (by omega)) (by omega) (by omega)
    have e : k + 1 + 1 + 1 + 4 * (t.Props.length : Int) + (cntL t.Kids : Int) + (cntL (ts.drop (j + 1)) : Int) = k + ((3 + 4 * t.Props.length + cntL t.Kids + cntL (ts.drop (j + 1)) : Nat) : Int) := by omega
    rw [e] at a1 a4
    have hz' : zs'[j]? = some ⟨k, k + 1, x, ps', ks'⟩ := by rw [a3 j (by omega)]; simp [hj']
    refine ⟨zs', laws_markTreeS_b1_of _ _ _ ?_, a2, fun i hi => ?_, laws_heldTreeS_b1_of _ _ _ ?_⟩
    · rw [dlt hj', rdx_nat hj', w64s (by omega), wk1 h0 (by omega), wk1 (x := k + 1) (by omega) (by omega), wk1 (x := k + 1 + 1) (by omega) (by omega), hzt]
      simp only [if_true, Option.bind_some, Int.toNat_natCast, List.set_set, rdx_set hj', hx, p1, q1]
      exact a1
    · rw [a3 i (by omega), List.getElem?_set_ne (by omega)]
    · rw [dlt (by omega), rdx_at hz', w64s (by omega), wk1 h0 (by omega), wk1 (x := k + 1) (by omega) (by omega), wk1 (x := k + 1 + 1) (by omega) (by omega)]
      simp only [if_true, Option.bind_some, hx, decide_true, Bool.not_true, Bool.false_eq_true, if_false, p2, q2]
      rw [decide_eq_false (show ¬ k + 1 + 1 + 1 + 4 * (t.Props.length : Int) < 0 by omega), decide_eq_false (show ¬ k + 1 + 1 + 1 + 4 * (t.Props.length : Int) + (cntL t.Kids : Int) < 0 by omega)]
      simp only [Bool.false_eq_true, if_false]
      exact a4
theorem markTreeS_ok : ∀ t, Lm 1048576 t → ∀ k : Int, 0 ≤ k → k + (cntL t.Kids : Int) < 4611686018427387904 → ∃ ks', laws_markTreeS t.Kids k = some (k + (cntL t.Kids : Int), ks') ∧ laws_heldTreeS ks' k = some (k + (cntL t.Kids : Int)) := by
  refine TTree.ind ?_
  intro t ih hl k h0 h1
  obtain ⟨zs', a1, _, _, a4⟩ := markTreeS_loop t.Kids hl.kl (fun u hu => (hl.ks u hu).ps) (fun u hu => ih u hu (hl.ks u hu)) 0 (by omega) t.Kids k rfl (fun _ _ => rfl) h0 (by simpa using h1)
  exact ⟨zs', laws_markTreeS_of _ _ (by simpa using a1), laws_heldTreeS_of _ _ (by simpa using a4)⟩
theorem markTree_ok (t : TTree) (hl : Lm 1048576 t) (k : Int) (h0 : 0 ≤ k) (h1 : k + 4 * (t.Props.length : Int) + (cntL t.Kids : Int) < 4611686018427387904) : laws_markTree t k = some (k + 4 * (t.Props.length : Int) + (cntL t.Kids : Int)) := by
  obtain ⟨ps', p1, _⟩ := markPropS_ok t.Props hl.ps k h0 (by omega)
  obtain ⟨ks', q1, _⟩ := markTreeS_ok t hl (k + 4 * (t.Props.length : Int)) (by omega) (by omega)
  exact laws_markTree_of _ _ (by simp [p1, q1])

/-- The marks of an edit. -/
def cntE (e : TEdit) : Nat := 9 + e.Way.length + 4 * e.Tree.Props.length + cntL e.Tree.Kids
def cntEs : List TEdit → Nat
  | [] => 0
  | e :: es => cntE e + cntEs es

theorem markEditS_loop (es : List TEdit) (hn : es.length ≤ 1048576) (hw : ∀ e ∈ es, e.Way.length ≤ 1048576) (ht : ∀ e ∈ es, Lm 1048576 e.Tree) :
    ∀ j, j ≤ es.length → ∀ (zs : List TEdit) (k : Int), zs.length = es.length → (∀ i, j ≤ i → zs[i]? = es[i]?) → 0 ≤ k → k + (cntEs (es.drop j) : Int) < 4611686018427387904 →
      ∃ zs', laws_markEditS_b1 zs k j = some (k + (cntEs (es.drop j) : Int), zs') ∧ zs'.length = es.length ∧ (∀ i, i < j → zs'[i]? = zs[i]?) ∧ laws_heldEditS_b1 zs' k j = some (k + (cntEs (es.drop j) : Int)) := by
  refine upto _ ?_ ?_
  · intro zs k hl _ _ _
    rw [List.drop_length]
    exact ⟨zs, laws_markEditS_b1_of _ _ _ (by simp [hl, cntEs]), hl, fun _ _ => rfl, laws_heldEditS_b1_of _ _ _ (by simp [hl, cntEs])⟩
  · intro j hj ih zs k hl hz h0 h1
    rw [drop_at hj, cntEs, cntE] at h1 ⊢
    have hj' : j < zs.length := by omega
    have hzt : zs[j] = es[j] := by
      have := hz j (Nat.le_refl _)
      rw [List.getElem?_eq_getElem hj', List.getElem?_eq_getElem hj] at this
      exact Option.some.inj this
    have hm : es[j] ∈ es := List.getElem_mem hj
    have hwl := hw _ hm
    have htl := ht _ hm
    generalize es[j] = t at *
    obtain ⟨ws', w1, w2⟩ := markIntS_ok t.Way hwl (k + 1) (by omega) (by omega)
    generalize hm' : k + 1 + (t.Way.length : Int) = m at w1 w2
    obtain ⟨x, hx⟩ := markText_ok (m + 1 + 1 + 1 + 1) (by omega) (by omega)
    obtain ⟨y, hy⟩ := markText_ok (m + 1 + 1 + 1 + 1 + 1 + 1 + 1) (by omega) (by omega)
    obtain ⟨ps', p1, p2⟩ := markPropS_ok t.Tree.Props htl.ps (m + 1 + 1 + 1 + 1 + 1 + 1 + 1 + 1) (by omega) (by omega)
    obtain ⟨ks', q1, q2⟩ := markTreeS_ok t.Tree htl (m + 1 + 1 + 1 + 1 + 1 + 1 + 1 + 1 + 4 * (t.Tree.Props.length : Int)) (by omega) (by omega)
    obtain ⟨zs', a1, a2, a3, a4⟩ := ih (zs.set j ⟨k, ws', m, m + 1, ⟨m + 1 + 1, m + 1 + 1 + 1, x⟩, ⟨m + 1 + 1 + 1 + 1 + 1, m + 1 + 1 + 1 + 1 + 1 + 1, y, ps', ks'⟩⟩) (m + 1 + 1 + 1 + 1 + 1 + 1 + 1 + 1 + 4 * (t.Tree.Props.length : Int) + (cntL t.Tree.Kids : Int))
      (by simpa using hl) (fun i hi => by rw [List.getElem?_set_ne (by omega)]; exact hz i (by omega)) (by omega) (by omega)
    have e : m + 1 + 1 + 1 + 1 + 1 + 1 + 1 + 1 + 4 * (t.Tree.Props.length : Int) + (cntL t.Tree.Kids : Int) + (cntEs (es.drop (j + 1)) : Int) = k + ((9 + t.Way.length + 4 * t.Tree.Props.length + cntL t.Tree.Kids + cntEs (es.drop (j + 1)) : Nat) : Int) := by omega
    rw [e] at a1 a4
    have hz' : zs'[j]? = some ⟨k, ws', m, m + 1, ⟨m + 1 + 1, m + 1 + 1 + 1, x⟩, ⟨m + 1 + 1 + 1 + 1 + 1, m + 1 + 1 + 1 + 1 + 1 + 1, y, ps', ks'⟩⟩ := by rw [a3 j (by omega)]; simp [hj']
    have g0 := wk1 (x := k) h0 (by omega)
    have g1 := wk1 (x := m) (by omega) (by omega)
    have g2 := wk1 (x := m + 1) (by omega) (by omega)
    have g3 := wk1 (x := m + 1 + 1) (by omega) (by omega)
    have g4 := wk1 (x := m + 1 + 1 + 1) (by omega) (by omega)
    have g5 := wk1 (x := m + 1 + 1 + 1 + 1) (by omega) (by omega)
    have g6 := wk1 (x := m + 1 + 1 + 1 + 1 + 1) (by omega) (by omega)
    have g7 := wk1 (x := m + 1 + 1 + 1 + 1 + 1 + 1) (by omega) (by omega)
    have g8 := wk1 (x := m + 1 + 1 + 1 + 1 + 1 + 1 + 1) (by omega) (by omega)
    refine ⟨zs', laws_markEditS_b1_of _ _ _ ?_, a2, fun i hi => ?_, laws_heldEditS_b1_of _ _ _ ?_⟩
    · rw [dlt hj', rdx_nat hj', w64s (by omega), hzt]
      simp only [if_true, Option.bind_some, Int.toNat_natCast, List.set_set, rdx_set hj', g0, w1, g1, g2, g3, g4, g5, g6, g7, g8, hx, hy, p1, q1]
      exact a1
    · rw [a3 i (by omega), List.getElem?_set_ne (by omega)]
    · rw [dlt (by omega), rdx_at hz', w64s (by omega)]
      have n1 : decide (m < 0) = false := decide_eq_false (by omega)
      have n2 : decide (m + 1 + 1 + 1 + 1 + 1 + 1 + 1 + 1 + 4 * (t.Tree.Props.length : Int) < 0) = false := decide_eq_false (by omega)
      have n3 : decide (m + 1 + 1 + 1 + 1 + 1 + 1 + 1 + 1 + 4 * (t.Tree.Props.length : Int) + (cntL t.Tree.Kids : Int) < 0) = false := decide_eq_false (by omega)
      simp only [if_true, Option.bind_some, g0, w2, g1, g2, g3, g4, g5, g6, g7, g8, hx, hy, decide_true, Bool.not_true, Bool.false_eq_true, if_false, p2, q2, n1, n2, n3]
      exact a4
theorem markEditS_ok (es : List TEdit) (hn : es.length ≤ 1048576) (hw : ∀ e ∈ es, e.Way.length ≤ 1048576) (ht : ∀ e ∈ es, Lm 1048576 e.Tree) (hc : (cntEs es : Int) < 1000000000000000000) :
    ∃ zs', laws_markEditS es 1 = some (1 + (cntEs es : Int), zs') ∧ laws_heldEditS zs' 1 = some (1 + (cntEs es : Int)) := by
  obtain ⟨zs', a1, _, _, a4⟩ := markEditS_loop es hn hw ht 0 (by omega) es 1 rfl (fun _ _ => rfl) (by omega) (by simp; omega)
  exact ⟨zs', laws_markEditS_of _ _ (by simpa using a1), laws_heldEditS_of _ _ (by simpa using a4)⟩

/-- Edits are like themselves. -/
theorem eqIntS_ok (xs : List Int) (hl : xs.length ≤ 1048576) : laws_eqIntS xs xs = some true := by
  have h : ∀ k, k ≤ xs.length → laws_eqIntS_b1 xs xs k = some true := by
    refine upto _ (laws_eqIntS_b1_of _ _ _ (by simp)) ?_
    intro k hk ih
    exact laws_eqIntS_b1_of _ _ _ (by simpa [hk, rdx_nat hk, w64s (show (k : Int) + 1 < 9223372036854775808 by omega)] using ih)
  exact laws_eqIntS_of _ _ (by simpa using h 0 (by omega))
theorem eqEdit_ok (e : TEdit) (hw : e.Way.length ≤ 1048576) (ht : Lm 1048576 e.Tree) : laws_eqEdit e e = some true :=
  laws_eqEdit_of _ _ (by simp [eqIntS_ok _ hw, eqValue_ok, eqTree_ok _ ht])
theorem eqEditS_ok (es : List TEdit) (hl : es.length ≤ 1048576) (hw : ∀ e ∈ es, e.Way.length ≤ 1048576) (ht : ∀ e ∈ es, Lm 1048576 e.Tree) : laws_eqEditS es es = some true := by
  have h : ∀ k, k ≤ es.length → laws_eqEditS_b1 es es k = some true := by
    refine upto _ (laws_eqEditS_b1_of _ _ _ (by simp)) ?_
    intro k hk ih
    exact laws_eqEditS_b1_of _ _ _ (by simpa [hk, rdx_nat hk, eqEdit_ok _ (hw _ (List.getElem_mem hk)) (ht _ (List.getElem_mem hk)), w64s (show (k : Int) + 1 < 9223372036854775808 by omega)] using ih)
  exact laws_eqEditS_of _ _ (by simpa using h 0 (by omega))
end Go.Fw.Law
namespace Go.Fw.Law
open Go Go.Fw

mutual
def wt : TTree → Nat
  | ⟨_, _, _, ps, ks⟩ => ps.length + ks.length + wtL ks
def wtL : List TTree → Nat
  | [] => 0
  | t :: ts => wt t + wtL ts
end
theorem wt_eq (t : TTree) : wt t = t.Props.length + t.Kids.length + wtL t.Kids := by cases t; rw [wt]
theorem cntL_wt (ts : List TTree) (h : ∀ t ∈ ts, 4 * t.Props.length + cntL t.Kids ≤ 4 * wt t) : cntL ts ≤ 4 * (ts.length + wtL ts) := by
  induction ts with
  | nil => simp [cntL]
  | cons t ts ih =>
    have h1 := h t (by simp)
    have h2 := ih fun u hu => h u (by simp [hu])
    rw [cntL, cnt_eq, wtL, List.length_cons]
    omega
theorem cnt_wt : ∀ t : TTree, 4 * t.Props.length + cntL t.Kids ≤ 4 * wt t := by
  refine TTree.ind ?_
  intro t ih
  have := cntL_wt t.Kids ih
  rw [wt_eq]
  omega

theorem szPropS_wt (xs : List TProp) (n : Int) (hl : xs.length ≤ 9223372036854775807) (hx : ∀ p ∈ xs, p.Val.Text.length ≤ 9223372036854775807) (h0 : 0 ≤ n) (h1 : n ≤ 1048576) :
    ∃ r, laws_szPropS xs n = some r ∧ r ≤ n ∧ (0 ≤ r → ((xs.length : Int) + r ≤ n) ∧ ∀ p ∈ xs, (p.Val.Text.length : Int) ≤ 1048576) := by
  have hw : w64 (n - (xs.length : Int)) = n - xs.length := w64_id (by omega) (by omega)
  by_cases h : n - (xs.length : Int) < 0
  · exact ⟨-1, laws_szPropS_of _ _ (by simp [hw, h]), by omega, by omega⟩
  · obtain ⟨r, e1, e2, e3⟩ := szPropS_loop xs hl hx 0 (by omega) (n - xs.length) (by omega) (by omega)
    exact ⟨r, laws_szPropS_of _ _ (by simpa [hw, h] using e1), by omega, fun hr => ⟨by omega, by simpa using e3 hr⟩⟩
theorem szTreeS_wt (xs : List TTree) (hl : xs.length ≤ 9223372036854775807)
    (hx : ∀ t ∈ xs, ∀ n : Int, 0 ≤ n → n ≤ 1048576 → ∃ r, laws_szTree t n = some r ∧ r ≤ n ∧ (0 ≤ r → Lm 1048576 t ∧ (wt t : Int) + r ≤ n)) : ∀ k, k ≤ xs.length → ∀ n : Int, 0 ≤ n → n ≤ 1048576 →
    ∃ r, laws_szTreeS_b1 xs n k = some r ∧ r ≤ n ∧ (0 ≤ r → (∀ t ∈ xs.drop k, Lm 1048576 t) ∧ (wtL (xs.drop k) : Int) + r ≤ n) := by
  refine upto _ ?_ ?_
  · intro n h0 h1
    exact ⟨n, laws_szTreeS_b1_of _ _ _ (by simp), by omega, by simp [wtL]⟩
  · intro k hk ih n h0 h1
    obtain ⟨r, e1, e2, e3⟩ := hx xs[k] (List.getElem_mem hk) n h0 h1
    by_cases h : r < 0
    · exact ⟨-1, laws_szTreeS_b1_of _ _ _ (by simp [hk, rdx_nat hk, e1, h]), by omega, by omega⟩
    · obtain ⟨s, f1, f2, f3⟩ := ih r (by omega) (by omega)
      refine ⟨s, laws_szTreeS_b1_of _ _ _ (by simpa [hk, rdx_nat hk, e1, h, w64s (show (k : Int) + 1 < 9223372036854775808 by omega)] using f1), by omega, fun hs => ?_⟩
      obtain ⟨g1, g2⟩ := e3 (by omega)
      obtain ⟨g3, g4⟩ := f3 hs
      rw [drop_at hk, wtL]
      refine ⟨fun p hp => ?_, by omega⟩
      rcases List.mem_cons.1 hp with rfl | hp
      · exact g1
      · exact g3 p hp
theorem szTree_wt : ∀ t, Lm 9223372036854775807 t → ∀ n : Int, 0 ≤ n → n ≤ 1048576 → ∃ r, laws_szTree t n = some r ∧ r ≤ n ∧ (0 ≤ r → Lm 1048576 t ∧ (wt t : Int) + r ≤ n) := by
  refine TTree.ind ?_
  intro t ih hl n h0 h1
  have hw : w64 (n - (t.Text.length : Int)) = n - t.Text.length := w64_id (by have := hl.tx; omega) (by omega)
  by_cases h : n - (t.Text.length : Int) < 0
  · exact ⟨-1, laws_szTree_of _ _ (by simp [hw, h]), by omega, by omega⟩
  · obtain ⟨r, e1, e2, e3⟩ := szPropS_wt t.Props (n - t.Text.length) hl.ps hl.pt (by omega) (by omega)
    by_cases hr : r < 0
    · exact ⟨-1, laws_szTree_of _ _ (by simp [hw, h, e1, hr]), by omega, by omega⟩
    · have hs : ∃ s, laws_szTreeS t.Kids r = some s ∧ s ≤ r ∧ (0 ≤ s → (∀ k ∈ t.Kids, Lm 1048576 k) ∧ (t.Kids.length : Int) + wtL t.Kids + s ≤ r) := by
        have hkl := hl.kl
        have hw2 : w64 (r - (t.Kids.length : Int)) = r - t.Kids.length := w64_id (by omega) (by omega)
        by_cases h2 : r - (t.Kids.length : Int) < 0
        · exact ⟨-1, laws_szTreeS_of _ _ (by simp [hw2, h2]), by omega, by omega⟩
        · obtain ⟨s, f1, f2, f3⟩ := szTreeS_wt t.Kids hkl (fun k hk => ih k hk (hl.ks k hk)) 0 (by omega) (r - t.Kids.length) (by omega) (by omega)
          rw [List.drop_zero] at f3
          exact ⟨s, laws_szTreeS_of _ _ (by simpa [hw2, h2] using f1), by omega, fun hs => ⟨(f3 hs).1, by have := (f3 hs).2; omega⟩⟩
      obtain ⟨s, f1, f2, f3⟩ := hs
      obtain ⟨g1, g2⟩ := e3 (by omega)
      by_cases hs : s < 0
      · exact ⟨-1, laws_szTree_of _ _ (by simp [hw, h, e1, hr, f1, hs]), by omega, by omega⟩
      · obtain ⟨g3, g4⟩ := f3 (by omega)
        refine ⟨s, laws_szTree_of _ _ (by simp [hw, h, e1, hr, f1, hs]), by omega, fun _ => ⟨.mk (by omega) (by omega) (fun p hp => by have := g2 p hp; omega) (by omega) g3, ?_⟩⟩
        rw [wt_eq]
        omega
end Go.Fw.Law
namespace Go.Fw.Law
open Go Go.Fw

theorem cntL_le (ts : List TTree) (h : ∀ t ∈ ts, cnt t ≤ nodes t * 4194307) : cntL ts ≤ nodesL ts * 4194307 := by
  induction ts with
  | nil => simp [cntL]
  | cons t ts ih =>
    have h1 := h t (by simp)
    have h2 := ih fun u hu => h u (by simp [hu])
    rw [cntL, nodesL, Nat.add_mul]
    omega
theorem cnt_le : ∀ t : TTree, Lm 1048576 t → cnt t ≤ nodes t * 4194307 := by
  refine TTree.ind ?_
  intro t ih hl
  have h1 := cntL_le t.Kids fun u hu => ih u hu (hl.ks u hu)
  have h2 := hl.ps
  rw [cnt_eq, nodes_eq, Nat.add_mul]
  omega
theorem cntE_le (e : TEdit) (h : EOk EQ e) : cntE e ≤ 1000000000 := by
  obtain ⟨h1, h2, h3⟩ := h
  have h4 := cnt_le e.Tree h2
  rw [cnt_eq] at h4
  have h5 : nodes e.Tree * 4194307 ≤ 200 * 4194307 := Nat.mul_le_mul_right _ h3
  unfold cntE
  omega
theorem cntEs_le : ∀ (es : List TEdit), (∀ e ∈ es, EOk EQ e) → cntEs es ≤ es.length * 1000000000
  | [], _ => by simp [cntEs]
  | e :: es, h => by
    have h1 := cntE_le e (h e (by simp))
    have h2 := cntEs_le es fun u hu => h u (by simp [hu])
    rw [cntEs, List.length_cons, Nat.add_mul]
    omega

theorem TreeEdits_ok (a b : TTree) (hla : Lm 1048576 a) (hlb : Lm 1048576 b) : ∃ E, spec_TreeEdits a b = some E ∧ impl_TreeEdits a b = some E ∧ E.length ≤ 410 * 200 ∧ ∀ e ∈ E, EOk EQ e := by
  have va := validTree_ok a hla
  have vb := validTree_ok b hlb
  have ta := TreeOk_ok a hla
  have tb := TreeOk_ok b hlb
  by_cases ha : treeB a = true
  · by_cases hb : treeB b = true
    · obtain ⟨E, e1, e2, e3, e4⟩ := trees_ok a b hla hlb ha hb
      exact ⟨E, spec_TreeEdits_of _ _ (by simp [va, vb, ha, hb, e1]), impl_TreeEdits_of _ _ (by simp [ta, tb, ha, hb, e2]), e3, e4⟩
    · exact ⟨[], spec_TreeEdits_of _ _ (by simp [va, vb, ha, hb]), impl_TreeEdits_of _ _ (by simp [ta, tb, ha, hb]), by simp, by simp⟩
  · exact ⟨[], spec_TreeEdits_of _ _ (by simp [va, ha]), impl_TreeEdits_of _ _ (by simp [ta, ha]), by simp, by simp⟩

/-- The law: the program's edits are the reference's at all trees, and they share nothing with what was given. -/
theorem law_TreeEdits (a b : TTree) (ha : Lm 9223372036854775807 a) (hb : Lm 9223372036854775807 b) : laws_FnExactTreeEdits a b = some true := by
  obtain ⟨r1, s1, s2, s3⟩ := szTree_wt a ha 1048576 (by omega) (by omega)
  refine laws_FnExactTreeEdits_of _ _ ?_
  rw [s1]
  by_cases h1 : r1 < 0
  · simp [h1]
  · obtain ⟨r2, q1, q2, q3⟩ := szTree_wt b hb r1 (by omega) (by omega)
    by_cases h2 : r2 < 0
    · simp [h1, q1, h2]
    · obtain ⟨la, wa⟩ := s3 (by omega)
      obtain ⟨lb, wb⟩ := q3 (by omega)
      obtain ⟨E, t1, t2, t3, t4⟩ := TreeEdits_ok a b la lb
      have ca := cnt_wt a
      have cb := cnt_wt b
      have ma := markTree_ok a la 1 (by omega) (by omega)
      have mb := markTree_ok b lb (1 + 4 * (a.Props.length : Int) + (cntL a.Kids : Int)) (by omega) (by omega)
      have hE := cntEs_le E t4
      obtain ⟨E', m1, m2⟩ := markEditS_ok E (by omega) (fun e he => (t4 e he).1) (fun e he => (t4 e he).2.1) (by omega)
      have eqE := eqEditS_ok E (by omega) (fun e he => (t4 e he).1) (fun e he => (t4 e he).2.1)
      have n1 : decide (1 + 4 * (a.Props.length : Int) + (cntL a.Kids : Int) + 4 * (b.Props.length : Int) + (cntL b.Kids : Int) < 0) = false := decide_eq_false (by omega)
      have n2 : decide (1 + (cntEs E : Int) < 0) = false := decide_eq_false (by omega)
      simp only [Option.bind_some, decide_eq_false h1, Bool.false_eq_true, if_false, q1, decide_eq_false h2, toTree_ok a la, toTree_ok b lb, t1, t2, eqE, Bool.not_true, eqTree_v_ok a la, eqTree_v_ok b lb, ma, mb, n1, m1, m2, n2, decide_true]
end Go.Fw.Law
