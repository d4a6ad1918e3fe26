/- The framework, part X: regions whose order is drawn. Conditions: none. -/
import Derived.Test.YtmbkipogmaimaaaGreatDoorFwW
namespace Go.Fw
open Go

def overlap (A B : List Res) : Bool := A.any fun r => B.contains r
def conflict (x y : ROp) : Bool := overlap (rwr x) (rrd y ++ rwr y) || overlap (rrd x) (rwr y)
def afterOf (o : Oper) : List Nat := (o.after.toList.filter (Region.binds .any)).map (·.on)
def ordOk (rs : List ROp) (A : List (List Nat)) : Nat → List ROp → Bool
  | _, [] => true
  | j, y :: ys => ((rs.take j).zipIdx.all fun (x, i) => !conflict x y || (A.getD j []).contains i) && ordOk rs A (j + 1) ys
def belowOk : Nat → List (List Nat) → Bool
  | _, [] => true
  | j, ts :: rest => ts.all (fun t => decide (t < j)) && belowOk (j + 1) rest
def drawOk (ops : Array Oper) (rs : List ROp) : Bool :=
  belowOk 0 (ops.toList.map afterOf) && ordOk rs (closeA [] (ops.toList.map afterOf)) 0 rs

theorem belowOk_spec : ∀ (j : Nat) (l : List (List Nat)), belowOk j l = true → ∀ k, k < l.length → ∀ t ∈ l.getD k [], t < j + k
  | j, [], _, k, hk, _, _ => by simp at hk
  | j, ts :: rest, h, k, hk, t, ht => by
    simp only [belowOk, Bool.and_eq_true, List.all_eq_true, decide_eq_true_eq] at h
    cases k with
    | zero => simp at ht; have := h.1 t ht; omega
    | succ k =>
      simp at hk ht
      have := belowOk_spec (j + 1) rest h.2 k hk t (by simpa [List.getD] using ht)
      omega

theorem ordOk_spec {rs : List ROp} {A : List (List Nat)} : ∀ (j : Nat) (l : List ROp), l = rs.drop j → ordOk rs A j l = true → ∀ k, j ≤ k → ∀ (hk : k < rs.length), ∀ i (hi : i < k), conflict (rs[i]'(by omega)) rs[k] = true → i ∈ A.getD k []
  | j, [], hl, _, k, hjk, hk, i, hi, _ => by
    have := congrArg List.length hl
    simp at this
    omega
  | j, y :: ys, hl, h, k, hjk, hk, i, hi, hc => by
    simp only [ordOk, Bool.and_eq_true] at h
    have hj : j < rs.length := by
      have := congrArg List.length hl
      simp at this
      omega
    have hcons : rs.drop j = rs[j] :: rs.drop (j + 1) := List.drop_eq_getElem_cons hj
    rw [hcons] at hl
    simp only [List.cons.injEq] at hl
    obtain ⟨rfl, hl⟩ := hl
    rcases Nat.eq_or_lt_of_le hjk with rfl | hlt
    · have h1 := List.all_eq_true.1 h.1 (rs[i]'(by omega), i) (by
        rw [List.mem_zipIdx_iff_getElem?]
        simp [hi])
      simp only [hc, Bool.not_true, Bool.false_or] at h1
      simpa using h1
    · exact ordOk_spec (j + 1) ys hl h.2 k hlt hk i hi hc

theorem conflict_spec {x y : ROp} (h : ∃ r, (r ∈ rwr x ∧ (r ∈ rrd y ∨ r ∈ rwr y)) ∨ (r ∈ rrd x ∧ r ∈ rwr y)) : conflict x y = true := by
  obtain ⟨r, h | h⟩ := h
  · simp only [conflict, overlap, Bool.or_eq_true, List.any_eq_true]
    exact .inl ⟨r, h.1, by simpa using h.2⟩
  · simp only [conflict, overlap, Bool.or_eq_true, List.any_eq_true]
    exact .inr ⟨r, h.1, by simpa using h.2⟩

theorem evR_trace {Γ : Gam} : ∀ {rs : List ROp} {σ σ' : ASt}, evR Γ rs σ = some σ' → ∃ (vi : Nat → Res → Val) (ws : Nat → List (Res × Val)), vi 0 = σ.val ∧ vi rs.length = σ'.val ∧
    ∀ i (h : i < rs.length), rop Γ (vi i) rs[i] = some (ws i) ∧ vi (i + 1) = appl (vi i) (ws i)
  | [], σ, σ', h => by
    simp only [evR, Option.some.injEq] at h
    subst h
    exact ⟨fun _ => σ.val, fun _ => [], rfl, rfl, fun i h => by simp at h⟩
  | r :: rs, σ, σ', h => by
    obtain ⟨w0, h1, h2⟩ := ob_some h
    obtain ⟨vi, ws, k1, k2, k3⟩ := evR_trace h2
    refine ⟨fun i => match i with | 0 => σ.val | i + 1 => vi i, fun i => match i with | 0 => w0 | i + 1 => ws i, rfl, k2, fun i hi => ?_⟩
    cases i with
    | zero => exact ⟨h1, by show vi 0 = _; rw [k1, val_puts]⟩
    | succ i => exact k3 i (by simpa using hi)

section
variable {P : Program} {E : Env}

theorem mregion_at {N : Nat} {all : Array Oper} : ∀ {rs : List ROp} {os : List Oper}, mregion P N all rs os = true → rs.length = os.length ∧ ∀ i (h : i < rs.length) (h' : i < os.length), mrop P N all rs[i] os[i] = true
  | [], [], _ => ⟨rfl, fun i h => by simp at h⟩
  | [], _ :: _, h => by simp [mregion] at h
  | _ :: _, [], h => by simp [mregion] at h
  | r :: rs, o :: os, h => by
    simp only [mregion, Bool.and_eq_true] at h
    obtain ⟨h1, h2⟩ := mregion_at h.2
    refine ⟨by simp [h1], fun i hi hi' => ?_⟩
    cases i with
    | zero => exact h.1
    | succ i => exact h2 i (by simpa using hi) (by simpa using hi')

def unlisted (n : Nat) (listed : Array Bool) : Nat := (List.range n).countP fun i => !listed.getD i true

theorem unlisted_set {n : Nat} {listed : Array Bool} {i : Nat} (hin : i < n) (hls : listed.size = n) (hnl : listed.getD i true = false) : unlisted n (listed.setIfInBounds i true) < unlisted n listed := by
  have hset : ∀ j, (listed.setIfInBounds i true).getD j true = (if j = i then true else listed.getD j true) := by
    intro j
    rw [Array.getD_eq_getD_getElem?, Array.getElem?_setIfInBounds]
    by_cases e : i = j
    · subst e; simp [hls, hin]
    · simp [e, Ne.symm e, Array.getD_eq_getD_getElem?]
  unfold unlisted
  obtain ⟨l1, l2, hl⟩ := List.append_of_mem (show i ∈ List.range n by simpa using hin)
  have h1 : ∀ l : List Nat, l.countP (fun j => !(listed.setIfInBounds i true).getD j true) ≤ l.countP fun j => !listed.getD j true := fun l =>
    List.countP_mono_left fun j _ hj => by
      rw [hset] at hj
      split at hj
      · simp at hj
      · exact hj
  rw [hl, List.countP_append, List.countP_append, List.countP_cons, List.countP_cons]
  have k1 := h1 l1
  have k2 := h1 l2
  have e1 : (!(listed.setIfInBounds i true).getD i true) = false := by rw [hset, if_pos rfl]; rfl
  have e2 : (!listed.getD i true) = true := by rw [hnl]; rfl
  rw [e1, e2]
  simp only [Bool.false_eq_true, if_false, if_true]
  omega

set_option maxHeartbeats 1000000 in
theorem region_any {Γ : Gam} (hΓ : Sat P Γ) (hC : ∀ b, E.C b → b < E.w0.heap.size) {N : Nat} {ops : Array Oper} {Q : Exit → Act → World → Prop} {rs : List ROp} (hm : mregion P N ops rs ops.toList = true) (hd : drawOk ops rs = true)
    {σ σ' : ASt} {s : Nat} {ds : List Deferred} (he : evR Γ rs σ = some σ') (hN : N ≤ s) (hq : ∀ a' w', Rel E σ'.val a' w' → a'.tmps.size = s → a'.defers = ds → Q .normal a' w') :
    ∀ {a : Act} {w : World}, Rel E σ.val a w → a.tmps.size = s → a.defers = ds → wpAny P .any ops Q ops.size (Array.replicate ops.size false) a w := by
  obtain ⟨vi, ws, h0, hn, hstep⟩ := evR_trace he
  obtain ⟨hlen, hmat⟩ := mregion_at hm
  have hln : rs.length = ops.size := by rw [hlen]; simp
  simp only [drawOk, Bool.and_eq_true] at hd
  let full := ops.toList.map afterOf
  have hfl : full.length = ops.size := by simp [full]
  let rF : Nat → List Res := fun i => match rs[i]? with | some x => rrd x | none => []
  let wF : Nat → List Res := fun i => match rs[i]? with | some x => rwr x | none => []
  let B : Nat → Nat → Prop := fun i j => i ∈ (closeA [] full).getD j []
  have hB : ∀ i j, i < j → j < ops.size → (∃ r, (r ∈ wF i ∧ (r ∈ rF j ∨ r ∈ wF j)) ∨ (r ∈ rF i ∧ r ∈ wF j)) → B i j := by
    intro i j hij hj hr
    have hj' : j < rs.length := by omega
    have hi' : i < rs.length := by omega
    refine ordOk_spec 0 rs (by simp) hd.2 j (Nat.zero_le _) hj' i hij (conflict_spec ?_)
    simpa [rF, wF, List.getElem?_eq_getElem hj', List.getElem?_eq_getElem hi'] using hr
  have hst : ∀ i, i < ops.size → vi (i + 1) = appl (vi i) (ws i) := fun i hi => (hstep i (by omega)).2
  have hwr : ∀ i, i < ops.size → Wr (ws i) (wF i) := fun i hi => by
    have := rop_wr (hstep i (by omega)).1
    simpa [wF, List.getElem?_eq_getElem (show i < rs.length by omega)] using this
  have hbel := belowOk_spec 0 full hd.1
  -- what closure gives
  have hcl : ∀ (S : Nat → Prop), (∀ k, k < full.length → S k → ∀ t ∈ full.getD k [], S t) → ∀ j, j < ops.size → (∀ t ∈ full.getD j [], S t) → ∀ i, B i j → S i := fun S hS j hj hp i hi =>
    closeA_spec full [] full rfl (fun j hj => by simp at hj) (fun j hj t ht => by have := hbel j hj t ht; omega) j (by omega) i hi hS hp
  -- all states on the way
  have main : ∀ (fuel : Nat) (listed : Array Bool), listed.size = ops.size → unlisted ops.size listed ≤ fuel → (∀ k, k < full.length → listed.getD k true = true → ∀ t ∈ full.getD k [], listed.getD t true = true) →
      ∀ (v : Res → Val) (a : Act) (w : World), Inv ops.size vi wF (fun j => j < ops.size ∧ listed.getD j true = true) v → Rel E v a w → a.tmps.size = s → a.defers = ds → wpAny P .any ops Q fuel listed a w := by
    intro fuel
    induction fuel with
    | zero =>
      intro listed hls hu hc v a w hI hR hs hdf
      have hall : ∀ j, j < ops.size → listed.getD j true = true := by
        intro j hj
        have := List.countP_eq_zero.1 (Nat.le_zero.1 hu) j (by simpa using hj)
        simpa using this
      have : Region.ready .any ops listed = [] := by
        simp only [Region.ready, List.filter_eq_nil_iff, List.mem_range]
        intro j hj
        simp [hall j hj]
      refine ⟨this, hq a w ?_ hs hdf⟩
      rw [← hn, hln, ← inv_all hI (fun j hj => ⟨hj, hall j hj⟩)]
      exact hR
    | succ fuel ih =>
      intro listed hls hu hc v a w hI hR hs hdf
      refine ⟨fun hr => ?_, fun i hi => ?_⟩
      · have hall : ∀ m, ∀ j, j < m → j < ops.size → listed.getD j true = true := by
          intro m
          induction m with
          | zero => intro j hj; omega
          | succ m ihm =>
            intro j hj hjn
            rcases Nat.lt_or_eq_of_le (Nat.le_of_lt_succ hj) with hlt | rfl
            · exact ihm j hlt hjn
            · simp only [Region.ready, List.filter_eq_nil_iff, List.mem_range] at hr
              have h1 := hr j hjn
              refine Classical.byContradiction fun hne => h1 ?_
              have hfalse : listed.getD j true = false := by simpa using hne
              simp only [hfalse, Bool.not_false, Bool.true_and, Array.getElem?_eq_getElem hjn, Option.map_some, Option.getD_some]
              rw [Array.all_eq_true_iff_forall_mem]
              intro e he
              by_cases hb : Region.binds .any e = true
              · have het : e.on ∈ full.getD j [] := by
                  have : full.getD j [] = afterOf ops[j] := by simp [full, List.getD, List.getElem?_map, Array.getElem?_toList, Array.getElem?_eq_getElem hjn]
                  rw [this]
                  simp only [afterOf, List.mem_map, List.mem_filter]
                  exact ⟨e, ⟨by simpa using he, hb⟩, rfl⟩
                have hlt := hbel j (by omega) e.on het
                have hl := ihm e.on (by omega) (by omega)
                have : listed.getD e.on false = true := by
                  rw [Array.getD_eq_getD_getElem?] at hl ⊢
                  rw [Array.getElem?_eq_getElem (by omega)] at hl ⊢
                  exact hl
                simp [this]
              · simp [hb]
        refine hq a w ?_ hs hdf
        rw [← hn, hln, ← inv_all hI (fun j hj => ⟨hj, hall (j + 1) j (by omega) hj⟩)]
        exact hR
      · simp only [Region.ready, List.mem_filter, List.mem_range, Bool.and_eq_true, Bool.not_eq_true'] at hi
        obtain ⟨hin, hnl, haf⟩ := hi
        rw [Array.getElem?_eq_getElem hin] at haf
        simp only [Option.map_some, Option.getD_some, Array.all_eq_true_iff_forall_mem, Bool.or_eq_true, Bool.not_eq_true'] at haf
        have hpre : ∀ t ∈ full.getD i [], t < ops.size ∧ listed.getD t true = true := by
          intro t ht
          have htl := hbel i (by omega) t ht
          have : full.getD i [] = afterOf ops[i] := by simp [full, List.getD, List.getElem?_map, Array.getElem?_toList, Array.getElem?_eq_getElem hin]
          rw [this] at ht
          simp only [afterOf, List.mem_map, List.mem_filter] at ht
          obtain ⟨e, ⟨he, hb⟩, rfl⟩ := ht
          rcases haf e (by simpa using he) with h | h
          · rw [hb] at h; simp at h
          · refine ⟨by omega, ?_⟩
            rw [Array.getD_eq_getD_getElem?] at h ⊢
            rw [Array.getElem?_eq_getElem (by omega)] at h ⊢
            exact h
        have hcS : ∀ k, k < full.length → (k < ops.size ∧ listed.getD k true = true) → ∀ t ∈ full.getD k [], t < ops.size ∧ listed.getD t true = true := fun k hk hS t ht =>
          ⟨by have := hbel k hk t ht; omega, hc k hk hS.2 t ht⟩
        obtain ⟨agr, hI'⟩ := inv_step (R := rF) hst hwr hB (S := fun j => j < ops.size ∧ listed.getD j true = true)
          (fun i' j hj hb hS => hcl _ hcS j hj (hcS j (by omega) hS) i' hb) hI hin (fun h => by rw [hnl] at h; simp at h) (fun j hb => hcl _ hcS i hin hpre j hb)
        have hri := hstep i (by omega)
        have agr' : Agr v (vi i) (rrd rs[i]) := by
          intro r hr
          refine agr r (List.mem_append.2 (.inl ?_))
          simpa [rF, List.getElem?_eq_getElem (show i < rs.length by omega)] using hr
        have hrop : rop Γ v rs[i] = some (ws i) := by rw [rop_congr agr']; exact hri.1
        refine rop_step hΓ hC (hmat i (by omega) (by simpa using hin)) hR (by omega) hrop (by simp) _ fun a' w' hR' hs' hd' => ?_
        have hset : ∀ j, (listed.setIfInBounds i true).getD j true = (if j = i then true else listed.getD j true) := by
          intro j
          rw [Array.getD_eq_getD_getElem?, Array.getElem?_setIfInBounds]
          by_cases e : i = j
          · subst e; simp [hls, hin]
          · simp [e, Ne.symm e, Array.getD_eq_getD_getElem?]
        refine ih (listed.setIfInBounds i true) (by simpa using hls) ?_ ?_ (appl v (ws i)) a' w' ?_ hR' (hs'.trans hs) (hd'.trans hdf)
        · -- one fewer
          have hlt := unlisted_set hin hls hnl
          omega
        · intro k hk hl t ht
          rw [hset] at hl ⊢
          by_cases e : k = i
          · subst e
            split
            · rfl
            · exact (hpre t ht).2
          · rw [if_neg e] at hl
            split
            · rfl
            · exact hc k hk hl t ht
        · have : (fun j => j < ops.size ∧ (listed.setIfInBounds i true).getD j true = true) = (fun j => (j < ops.size ∧ listed.getD j true = true) ∨ j = i) := by
            funext j
            rw [hset]
            apply propext
            by_cases e : j = i
            · subst e; simp [hin]
            · simp [e]
          rw [this]
          exact hI'
  intro a w hR hs hdf
  refine main ops.size _ (by simp) ?_ ?_ σ.val a w ?_ hR hs hdf
  · unfold unlisted
    exact Nat.le_trans List.countP_le_length (by simp)
  · intro k hk hl
    have : (Array.replicate ops.size false).getD k true = false := by
      rw [Array.getD_eq_getD_getElem?, Array.getElem?_replicate, if_pos (by omega)]; rfl
    rw [this] at hl
    simp at hl
  · have : (fun j => j < ops.size ∧ (Array.replicate ops.size false).getD j true = true) = fun _ => False := by
      funext j
      apply propext
      refine ⟨fun h => ?_, False.elim⟩
      have h2 : (Array.replicate ops.size false).getD j true = false := by
        rw [Array.getD_eq_getD_getElem?, Array.getElem?_replicate, if_pos h.1]; rfl
      rw [h2] at h
      simp at h
    rw [this]
    exact inv_zero h0.symm hst hwr
end
end Go.Fw
