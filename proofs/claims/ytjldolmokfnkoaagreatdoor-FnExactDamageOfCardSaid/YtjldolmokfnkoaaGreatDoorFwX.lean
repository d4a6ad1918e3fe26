/- The framework, part X: regions whose order is drawn. The framework, part Xp: regions whose order is drawn, where two loads take parts of one box out in either order. Conditions: none. -/
import Derived.Test.YtjldolmokfnkoaaGreatDoorFwU
namespace Go.Fw
open Go

def overlap (A B : List Res) : Bool := A.any fun r => B.contains r
def conflict (x y : ROp) : Bool := overlap (rwr x) (rrd y ++ rwr y) || overlap (rrd x) (rwr y)
def afterOf (o : Oper) : List Nat := (o.after.toList.filter (Region.binds .any)).map (·.on)
def ordOk (rs : List ROp) (A : List (List Nat)) : Nat → List ROp → Bool
  | _, [] => true
  | j, y :: ys => ((rs.take j).zipIdx.all fun (x, i) => !conflict x y || (A.getD j []).contains i) && ordOk rs A (j + 1) ys
def belowOk : Nat → List (List Nat) → Bool
  | _, [] => true
  | j, ts :: rest => ts.all (fun t => decide (t < j)) && belowOk (j + 1) rest
def drawOk (ops : Array Oper) (rs : List ROp) : Bool :=
  belowOk 0 (ops.toList.map afterOf) && ordOk rs (closeA [] (ops.toList.map afterOf)) 0 rs

theorem belowOk_spec : ∀ (j : Nat) (l : List (List Nat)), belowOk j l = true → ∀ k, k < l.length → ∀ t ∈ l.getD k [], t < j + k
  | j, [], _, k, hk, _, _ => by simp at hk
  | j, ts :: rest, h, k, hk, t, ht => by
    simp only [belowOk, Bool.and_eq_true, List.all_eq_true, decide_eq_true_eq] at h
    cases k with
    | zero => simp at ht; have := h.1 t ht; omega
    | succ k =>
      simp at hk ht
      have := belowOk_spec (j + 1) rest h.2 k hk t (by simpa [List.getD] using ht)
      omega

theorem ordOk_spec {rs : List ROp} {A : List (List Nat)} : ∀ (j : Nat) (l : List ROp), l = rs.drop j → ordOk rs A j l = true → ∀ k, j ≤ k → ∀ (hk : k < rs.length), ∀ i (hi : i < k), conflict (rs[i]'(by omega)) rs[k] = true → i ∈ A.getD k []
  | j, [], hl, _, k, hjk, hk, i, hi, _ => by
    have := congrArg List.length hl
    simp at this
    omega
  | j, y :: ys, hl, h, k, hjk, hk, i, hi, hc => by
    simp only [ordOk, Bool.and_eq_true] at h
    have hj : j < rs.length := by
      have := congrArg List.length hl
      simp at this
      omega
    have hcons : rs.drop j = rs[j] :: rs.drop (j + 1) := List.drop_eq_getElem_cons hj
    rw [hcons] at hl
    simp only [List.cons.injEq] at hl
    obtain ⟨rfl, hl⟩ := hl
    rcases Nat.eq_or_lt_of_le hjk with rfl | hlt
    · have h1 := List.all_eq_true.1 h.1 (rs[i]'(by omega), i) (by
        rw [List.mem_zipIdx_iff_getElem?]
        simp [hi])
      simp only [hc, Bool.not_true, Bool.false_or] at h1
      simpa using h1
    · exact ordOk_spec (j + 1) ys hl h.2 k hlt hk i hi hc

theorem conflict_spec {x y : ROp} (h : ∃ r, (r ∈ rwr x ∧ (r ∈ rrd y ∨ r ∈ rwr y)) ∨ (r ∈ rrd x ∧ r ∈ rwr y)) : conflict x y = true := by
  obtain ⟨r, h | h⟩ := h
  · simp only [conflict, overlap, Bool.or_eq_true, List.any_eq_true]
    exact .inl ⟨r, h.1, by simpa using h.2⟩
  · simp only [conflict, overlap, Bool.or_eq_true, List.any_eq_true]
    exact .inr ⟨r, h.1, by simpa using h.2⟩

theorem evR_trace {Γ : Gam} : ∀ {rs : List ROp} {σ σ' : ASt}, evR Γ rs σ = some σ' → ∃ (vi : Nat → Res → Val) (ws : Nat → List (Res × Val)), vi 0 = σ.val ∧ vi rs.length = σ'.val ∧
    ∀ i (h : i < rs.length), rop Γ (vi i) rs[i] = some (ws i) ∧ vi (i + 1) = appl (vi i) (ws i)
  | [], σ, σ', h => by
    simp only [evR, Option.some.injEq] at h
    subst h
    exact ⟨fun _ => σ.val, fun _ => [], rfl, rfl, fun i h => by simp at h⟩
  | r :: rs, σ, σ', h => by
    obtain ⟨w0, h1, h2⟩ := ob_some h
    obtain ⟨vi, ws, k1, k2, k3⟩ := evR_trace h2
    refine ⟨fun i => match i with | 0 => σ.val | i + 1 => vi i, fun i => match i with | 0 => w0 | i + 1 => ws i, rfl, k2, fun i hi => ?_⟩
    cases i with
    | zero => exact ⟨h1, by show vi 0 = _; rw [k1, val_puts]⟩
    | succ i => exact k3 i (by simpa using hi)

section
variable {P : Program} {E : Env}

theorem mregion_at {N : Nat} {all : Array Oper} : ∀ {rs : List ROp} {os : List Oper}, mregion P N all rs os = true → rs.length = os.length ∧ ∀ i (h : i < rs.length) (h' : i < os.length), mrop P N all rs[i] os[i] = true
  | [], [], _ => ⟨rfl, fun i h => by simp at h⟩
  | [], _ :: _, h => by simp [mregion] at h
  | _ :: _, [], h => by simp [mregion] at h
  | r :: rs, o :: os, h => by
    simp only [mregion, Bool.and_eq_true] at h
    obtain ⟨h1, h2⟩ := mregion_at h.2
    refine ⟨by simp [h1], fun i hi hi' => ?_⟩
    cases i with
    | zero => exact h.1
    | succ i => exact h2 i (by simpa using hi) (by simpa using hi')

def unlisted (n : Nat) (listed : Array Bool) : Nat := (List.range n).countP fun i => !listed.getD i true

theorem unlisted_set {n : Nat} {listed : Array Bool} {i : Nat} (hin : i < n) (hls : listed.size = n) (hnl : listed.getD i true = false) : unlisted n (listed.setIfInBounds i true) < unlisted n listed := by
  have hset : ∀ j, (listed.setIfInBounds i true).getD j true = (if j = i then true else listed.getD j true) := by
    intro j
    rw [Array.getD_eq_getD_getElem?, Array.getElem?_setIfInBounds]
    by_cases e : i = j
    · subst e; simp [hls, hin]
    · simp [e, Ne.symm e, Array.getD_eq_getD_getElem?]
  unfold unlisted
  obtain ⟨l1, l2, hl⟩ := List.append_of_mem (show i ∈ List.range n by simpa using hin)
  have h1 : ∀ l : List Nat, l.countP (fun j => !(listed.setIfInBounds i true).getD j true) ≤ l.countP fun j => !listed.getD j true := fun l =>
    List.countP_mono_left fun j _ hj => by
      rw [hset] at hj
      split at hj
      · simp at hj
      · exact hj
  rw [hl, List.countP_append, List.countP_append, List.countP_cons, List.countP_cons]
  have k1 := h1 l1
  have k2 := h1 l2
  have e1 : (!(listed.setIfInBounds i true).getD i true) = false := by rw [hset, if_pos rfl]; rfl
  have e2 : (!listed.getD i true) = true := by rw [hnl]; rfl
  rw [e1, e2]
  simp only [Bool.false_eq_true, if_false, if_true]
  omega

set_option maxHeartbeats 1000000 in
theorem region_any {Γ : Gam} (hΓ : SatE P E Γ) (hC : ∀ b, E.C b → b < E.w0.heap.size) {N : Nat} {ops : Array Oper} {Q : Exit → Act → World → Prop} {rs : List ROp} (hm : mregion P N ops rs ops.toList = true) (hd : drawOk ops rs = true) (hpt : ∀ r ∈ rs, ∀ d, iDst r.x = some d → E.tpin d = none)
    {σ σ' : ASt} {s : Nat} {ds : List Deferred} (he : evR Γ rs σ = some σ') (hN : N ≤ s) (hq : ∀ a' w', Rel E σ'.val a' w' → a'.tmps.size = s → a'.defers = ds → Q .normal a' w') :
    ∀ {a : Act} {w : World}, Rel E σ.val a w → a.tmps.size = s → a.defers = ds → wpAny P .any ops Q ops.size (Array.replicate ops.size false) a w := by
  obtain ⟨vi, ws, h0, hn, hstep⟩ := evR_trace he
  obtain ⟨hlen, hmat⟩ := mregion_at hm
  have hln : rs.length = ops.size := by rw [hlen]; simp
  simp only [drawOk, Bool.and_eq_true] at hd
  let full := ops.toList.map afterOf
  have hfl : full.length = ops.size := by simp [full]
  let rF : Nat → List Res := fun i => match rs[i]? with | some x => rrd x | none => []
  let wF : Nat → List Res := fun i => match rs[i]? with | some x => rwr x | none => []
  let B : Nat → Nat → Prop := fun i j => i ∈ (closeA [] full).getD j []
  have hB : ∀ i j, i < j → j < ops.size → (∃ r, (r ∈ wF i ∧ (r ∈ rF j ∨ r ∈ wF j)) ∨ (r ∈ rF i ∧ r ∈ wF j)) → B i j := by
    intro i j hij hj hr
    have hj' : j < rs.length := by omega
    have hi' : i < rs.length := by omega
    refine ordOk_spec 0 rs (by simp) hd.2 j (Nat.zero_le _) hj' i hij (conflict_spec ?_)
    simpa [rF, wF, List.getElem?_eq_getElem hj', List.getElem?_eq_getElem hi'] using hr
  have hst : ∀ i, i < ops.size → vi (i + 1) = appl (vi i) (ws i) := fun i hi => (hstep i (by omega)).2
  have hwr : ∀ i, i < ops.size → Wr (ws i) (wF i) := fun i hi => by
    have := rop_wr (hstep i (by omega)).1
    simpa [wF, List.getElem?_eq_getElem (show i < rs.length by omega)] using this
  have hbel := belowOk_spec 0 full hd.1
  -- what closure gives
  have hcl : ∀ (S : Nat → Prop), (∀ k, k < full.length → S k → ∀ t ∈ full.getD k [], S t) → ∀ j, j < ops.size → (∀ t ∈ full.getD j [], S t) → ∀ i, B i j → S i := fun S hS j hj hp i hi =>
    closeA_spec full [] full rfl (fun j hj => by simp at hj) (fun j hj t ht => by have := hbel j hj t ht; omega) j (by omega) i hi hS hp
  -- all states on the way
  have main : ∀ (fuel : Nat) (listed : Array Bool), listed.size = ops.size → unlisted ops.size listed ≤ fuel → (∀ k, k < full.length → listed.getD k true = true → ∀ t ∈ full.getD k [], listed.getD t true = true) →
      ∀ (v : Res → Val) (a : Act) (w : World), Inv ops.size vi wF (fun j => j < ops.size ∧ listed.getD j true = true) v → Rel E v a w → a.tmps.size = s → a.defers = ds → wpAny P .any ops Q fuel listed a w := by
    intro fuel
    induction fuel with
    | zero =>
      intro listed hls hu hc v a w hI hR hs hdf
      have hall : ∀ j, j < ops.size → listed.getD j true = true := by
        intro j hj
        have := List.countP_eq_zero.1 (Nat.le_zero.1 hu) j (by simpa using hj)
        simpa using this
      have : Region.ready .any ops listed = [] := by
        simp only [Region.ready, List.filter_eq_nil_iff, List.mem_range]
        intro j hj
        simp [hall j hj]
      refine ⟨this, hq a w ?_ hs hdf⟩
      rw [← hn, hln, ← inv_all hI (fun j hj => ⟨hj, hall j hj⟩)]
      exact hR
    | succ fuel ih =>
      intro listed hls hu hc v a w hI hR hs hdf
      refine ⟨fun hr => ?_, fun i hi => ?_⟩
      · have hall : ∀ m, ∀ j, j < m → j < ops.size → listed.getD j true = true := by
          intro m
          induction m with
          | zero => intro j hj; omega
          | succ m ihm =>
            intro j hj hjn
            rcases Nat.lt_or_eq_of_le (Nat.le_of_lt_succ hj) with hlt | rfl
            · exact ihm j hlt hjn
            · simp only [Region.ready, List.filter_eq_nil_iff, List.mem_range] at hr
              have h1 := hr j hjn
              refine Classical.byContradiction fun hne => h1 ?_
              have hfalse : listed.getD j true = false := by simpa using hne
              simp only [hfalse, Bool.not_false, Bool.true_and, Array.getElem?_eq_getElem hjn, Option.map_some, Option.getD_some]
              rw [Array.all_eq_true_iff_forall_mem]
              intro e he
              by_cases hb : Region.binds .any e = true
              · have het : e.on ∈ full.getD j [] := by
                  have : full.getD j [] = afterOf ops[j] := by simp [full, List.getD, List.getElem?_map, Array.getElem?_toList, Array.getElem?_eq_getElem hjn]
                  rw [this]
                  simp only [afterOf, List.mem_map, List.mem_filter]
                  exact ⟨e, ⟨by simpa using he, hb⟩, rfl⟩
                have hlt := hbel j (by omega) e.on het
                have hl := ihm e.on (by omega) (by omega)
                have : listed.getD e.on false = true := by
                  rw [Array.getD_eq_getD_getElem?] at hl ⊢
                  rw [Array.getElem?_eq_getElem (by omega)] at hl ⊢
                  exact hl
                simp [this]
              · simp [hb]
        refine hq a w ?_ hs hdf
        rw [← hn, hln, ← inv_all hI (fun j hj => ⟨hj, hall (j + 1) j (by omega) hj⟩)]
        exact hR
      · simp only [Region.ready, List.mem_filter, List.mem_range, Bool.and_eq_true, Bool.not_eq_true'] at hi
        obtain ⟨hin, hnl, haf⟩ := hi
        rw [Array.getElem?_eq_getElem hin] at haf
        simp only [Option.map_some, Option.getD_some, Array.all_eq_true_iff_forall_mem, Bool.or_eq_true, Bool.not_eq_true'] at haf
        have hpre : ∀ t ∈ full.getD i [], t < ops.size ∧ listed.getD t true = true := by
          intro t ht
          have htl := hbel i (by omega) t ht
          have : full.getD i [] = afterOf ops[i] := by simp [full, List.getD, List.getElem?_map, Array.getElem?_toList, Array.getElem?_eq_getElem hin]
          rw [this] at ht
          simp only [afterOf, List.mem_map, List.mem_filter] at ht
          obtain ⟨e, ⟨he, hb⟩, rfl⟩ := ht
          rcases haf e (by simpa using he) with h | h
          · rw [hb] at h; simp at h
          · refine ⟨by omega, ?_⟩
            rw [Array.getD_eq_getD_getElem?] at h ⊢
            rw [Array.getElem?_eq_getElem (by omega)] at h ⊢
            exact h
        have hcS : ∀ k, k < full.length → (k < ops.size ∧ listed.getD k true = true) → ∀ t ∈ full.getD k [], t < ops.size ∧ listed.getD t true = true := fun k hk hS t ht =>
          ⟨by have := hbel k hk t ht; omega, hc k hk hS.2 t ht⟩
        obtain ⟨agr, hI'⟩ := inv_step (R := rF) hst hwr hB (S := fun j => j < ops.size ∧ listed.getD j true = true)
          (fun i' j hj hb hS => hcl _ hcS j hj (hcS j (by omega) hS) i' hb) hI hin (fun h => by rw [hnl] at h; simp at h) (fun j hb => hcl _ hcS i hin hpre j hb)
        have hri := hstep i (by omega)
        have agr' : Agr v (vi i) (rrd rs[i]) := by
          intro r hr
          refine agr r (List.mem_append.2 (.inl ?_))
          simpa [rF, List.getElem?_eq_getElem (show i < rs.length by omega)] using hr
        have hrop : rop Γ v rs[i] = some (ws i) := by rw [rop_congr agr']; exact hri.1
        refine rop_step hΓ hC (hmat i (by omega) (by simpa using hin)) hR (by omega) hrop (hpt _ (List.getElem_mem _)) (by simp) _ fun a' w' hR' hs' hd' => ?_
        have hset : ∀ j, (listed.setIfInBounds i true).getD j true = (if j = i then true else listed.getD j true) := by
          intro j
          rw [Array.getD_eq_getD_getElem?, Array.getElem?_setIfInBounds]
          by_cases e : i = j
          · subst e; simp [hls, hin]
          · simp [e, Ne.symm e, Array.getD_eq_getD_getElem?]
        refine ih (listed.setIfInBounds i true) (by simpa using hls) ?_ ?_ (appl v (ws i)) a' w' ?_ hR' (hs'.trans hs) (hd'.trans hdf)
        · -- one fewer
          have hlt := unlisted_set hin hls hnl
          omega
        · intro k hk hl t ht
          rw [hset] at hl ⊢
          by_cases e : k = i
          · subst e
            split
            · rfl
            · exact (hpre t ht).2
          · rw [if_neg e] at hl
            split
            · rfl
            · exact hc k hk hl t ht
        · have : (fun j => j < ops.size ∧ (listed.setIfInBounds i true).getD j true = true) = (fun j => (j < ops.size ∧ listed.getD j true = true) ∨ j = i) := by
            funext j
            rw [hset]
            apply propext
            by_cases e : j = i
            · subst e; simp [hin]
            · simp [e]
          rw [this]
          exact hI'
  intro a w hR hs hdf
  refine main ops.size _ (by simp) ?_ ?_ σ.val a w ?_ hR hs hdf
  · unfold unlisted
    exact Nat.le_trans List.countP_le_length (by simp)
  · intro k hk hl
    have : (Array.replicate ops.size false).getD k true = false := by
      rw [Array.getD_eq_getD_getElem?, Array.getElem?_replicate, if_pos (by omega)]; rfl
    rw [this] at hl
    simp at hl
  · have : (fun j => j < ops.size ∧ (Array.replicate ops.size false).getD j true = true) = fun _ => False := by
      funext j
      apply propext
      refine ⟨fun h => ?_, False.elim⟩
      have h2 : (Array.replicate ops.size false).getD j true = false := by
        rw [Array.getD_eq_getD_getElem?, Array.getElem?_replicate, if_pos h.1]; rfl
      rw [h2] at h
      simp at h
    rw [this]
    exact inv_zero h0.symm hst hwr
end
end Go.Fw
namespace Go.Fw
open Go

section
variable {Γ : Gam} {v : Res → Val}

def ldmW (v : Res → Val) (d k off n : Nat) (a : Bool) (cs : List AC) : List (Res × Val) :=
  putC v (.b k) (cs.take off ++ (List.replicate n .gone ++ cs.drop (off + n))) ++ putT v d [] (.pl a ((cs.drop off).take n))

theorem ldm_iff {d p k off n : Nat} {a : Bool} {ws : List (Res × Val)} : fop Γ v (.ldm d p k off n a) = some ws ↔
    ∃ cs, v (.t p) = .t [] (.ptr (.b k) [] off) ∧ v (.b k) = .b cs ∧ d ≠ p ∧ off + n ≤ cs.length ∧ noOwnL ((cs.drop off).take n) = false ∧ ws = ldmW v d k off n a cs := by
  constructor
  · intro h
    simp only [fop] at h
    split at h <;> try (simp at h; done)
    rename_i k' off' hv
    split at h <;> try (simp at h; done)
    rename_i hc
    obtain ⟨rfl, rfl, hdp⟩ := hc
    split at h <;> try (simp at h; done)
    rename_i cs hb
    split at h <;> try (simp at h; done)
    rename_i hl
    simp only [Option.some.injEq] at h
    exact ⟨cs, hv, hb, hdp, hl.1, hl.2, h.symm⟩
  · rintro ⟨cs, h1, h2, h3, h4, h5, rfl⟩
    simp only [fop, h1, h2]
    simp only [ne_eq, h3, not_false_eq_true, if_true, h4, h5, and_self]
    rfl

theorem putC_b (k : Nat) (X : List AC) : putC v (.b k) X = [(.b k, .b X), (.v (.b k), .v (ver v (.b k) + 1))] := rfl
theorem ldmW_t (d k off n : Nat) (a : Bool) (cs : List AC) (m : Nat) : appl v (ldmW v d k off n a cs) (.t m) = if m = d then .t [] (.pl a ((cs.drop off).take n)) else v (.t m) := by
  simp only [ldmW, putC_b, putT]
  by_cases e : m = d
  · subst e; split <;> simp [appl, nrm]
  · split <;> simp [appl, e]
theorem ldmW_b (d k off n : Nat) (a : Bool) (cs : List AC) (m : Nat) : appl v (ldmW v d k off n a cs) (.b m) = if m = k then .b (cs.take off ++ (List.replicate n .gone ++ cs.drop (off + n))) else v (.b m) := by
  simp only [ldmW, putC_b, putT]
  by_cases e : m = k
  · subst e; split <;> simp [appl, nrm]
  · split <;> simp [appl, e]
theorem ldmW_v (d k off n : Nat) (a : Bool) (cs : List AC) (q : Rt) : appl v (ldmW v d k off n a cs) (.v q) =
    if q = .b k then .v (ver v q + 1) else if q = .t d then (match v (.t d) with | .nope => v (.v q) | _ => .v (ver v q + 1)) else v (.v q) := by
  simp only [ldmW, putC_b, putT]
  by_cases e : q = .b k
  · subst e; rw [if_pos rfl]; split <;> simp [appl, nrm]
  · rw [if_neg e]
    by_cases e2 : q = .t d
    · subst e2; rw [if_pos rfl]; split <;> simp_all [appl, nrm]
    · rw [if_neg e2]; split <;> simp [appl, e, e2]

theorem take_gone {cs : List AC} {o1 n1 o2 n2 : Nat} (h : o1 + n1 ≤ o2) (hl : o1 ≤ cs.length) : ((cs.take o1 ++ (List.replicate n1 AC.gone ++ cs.drop (o1 + n1))).drop o2).take n2 = (cs.drop o2).take n2 := by
  congr 1
  rw [List.drop_append, List.drop_append]
  simp only [List.length_take, List.length_replicate, Nat.min_eq_left hl]
  rw [List.drop_eq_nil_of_le (by simp; omega), List.drop_eq_nil_of_le (by simp; omega)]
  simp only [List.nil_append, List.drop_drop]
  congr 1; omega
theorem take_gone' {cs : List AC} {o1 n1 o2 n2 : Nat} (h : o1 + n1 ≤ o2) (hl : o2 ≤ cs.length) : ((cs.take o2 ++ (List.replicate n2 AC.gone ++ cs.drop (o2 + n2))).drop o1).take n1 = (cs.drop o1).take n1 := by
  rw [List.drop_append_of_le_length (by simp; omega), List.take_append_of_le_length (by simp; omega)]
  rw [List.drop_take, List.take_take]
  congr 1; omega

theorem gone_at {cs : List AC} {o n i : Nat} (h : o + n ≤ cs.length) : (cs.take o ++ (List.replicate n AC.gone ++ cs.drop (o + n)))[i]? = if o ≤ i ∧ i < o + n then some .gone else cs[i]? := by
  have hm : min o cs.length = o := Nat.min_eq_left (by omega)
  by_cases h1 : i < o
  · rw [if_neg (by omega), List.getElem?_append_left (by simp; omega), List.getElem?_take, if_pos h1]
  · rw [List.getElem?_append_right (by simp; omega), List.length_take, hm]
    by_cases h2 : i < o + n
    · rw [if_pos ⟨by omega, h2⟩, List.getElem?_append_left (by simp; omega), List.getElem?_replicate, if_pos (by omega)]
    · rw [if_neg (by omega), List.getElem?_append_right (by simp; omega), List.length_replicate, List.getElem?_drop]
      congr 1; omega

def commOk (x y : ROp) : Bool :=
  match x.g, x.x, y.g, y.x with
  | none, .ldm d1 p1 k1 o1 n1 _, none, .ldm d2 p2 k2 o2 _n2 _ => decide (k1 = k2) && !(d1 == d2) && !(p1 == d2) && !(p2 == d1) && decide (o1 + n1 ≤ o2)
  | _, _, _, _ => false

theorem comm_spec {x y : ROp} (hc : commOk x y = true) {w1 w2 : List (Res × Val)} (h1 : rop Γ v x = some w1) (h2 : rop Γ (appl v w1) y = some w2) :
    ∃ w2' w1', rop Γ v y = some w2' ∧ rop Γ (appl v w2') x = some w1' ∧ appl (appl v w2') w1' = appl (appl v w1) w2 := by
  obtain ⟨gx, x⟩ := x
  obtain ⟨gy, y⟩ := y
  unfold commOk at hc
  split at hc <;> try (simp at hc; done)
  rename_i _ _ _ _ d1 p1 k1 o1 n1 a1 d2 p2 k2 o2 n2 a2 e1 e2 e3 e4
  simp only at e1 e2 e3 e4
  subst e1 e2 e3 e4
  simp only [Bool.and_eq_true, decide_eq_true_eq, Bool.not_eq_true', beq_eq_false_iff_ne] at hc
  obtain ⟨⟨⟨⟨rfl, hd⟩, hp1⟩, hp2⟩, ho⟩ := hc
  simp only [rop] at h1 h2 ⊢
  obtain ⟨cs, a1', b1, c1, l1, m1, rfl⟩ := ldm_iff.1 h1
  obtain ⟨cs', a2', b2, c2, l2, m2, rfl⟩ := ldm_iff.1 h2
  rw [ldmW_t, if_neg hp2] at a2'
  rw [ldmW_b, if_pos rfl] at b2
  simp only [Val.b.injEq] at b2
  subst b2
  have hl1 : o1 ≤ cs.length := by omega
  rw [take_gone ho hl1] at m2
  have l2' : o2 + n2 ≤ cs.length := by
    simp at l2; omega
  refine ⟨_, _, ldm_iff.2 ⟨cs, a2', b1, c2, l2', m2, rfl⟩, ldm_iff.2 ⟨cs.take o2 ++ (List.replicate n2 .gone ++ cs.drop (o2 + n2)), ?_, ?_, c1, ?_, ?_, rfl⟩, ?_⟩
  · rw [ldmW_t, if_neg hp1]; exact a1'
  · rw [ldmW_b, if_pos rfl]
  · simp; omega
  · rw [take_gone' ho (by omega)]; exact m1
  · funext r
    cases r with
    | t m =>
      rw [ldmW_t, ldmW_t, ldmW_t, ldmW_t, take_gone ho hl1, take_gone' ho (by omega)]
      by_cases e : m = d1
      · subst e; simp [hd]
      · simp [e]
    | b m =>
      rw [ldmW_b, ldmW_b, ldmW_b, ldmW_b]
      by_cases e : m = k1
      · subst e
        simp only [if_true, Val.b.injEq]
        apply List.ext_getElem?
        intro i
        rw [gone_at (by simp; omega), gone_at l2', gone_at (by simp; omega), gone_at l1]
        by_cases q1 : o1 ≤ i ∧ i < o1 + n1
        · rw [if_pos q1, if_neg (by omega), if_pos q1]
        · by_cases q2 : o2 ≤ i ∧ i < o2 + n2
          · rw [if_neg q1, if_pos q2, if_pos q2]
          · rw [if_neg q1, if_neg q2, if_neg q2, if_neg q1]
      · simp [e]
    | v q =>
      rw [ldmW_v, ldmW_v, ldmW_v, ldmW_v]
      by_cases e : q = .b k1
      · subst e; simp [ver, ldmW_v]
      · by_cases e1 : q = .t d1
        · subst e1
          simp only [e, if_false, if_true, Rt.t.injEq, hd, ldmW_t, ver, ldmW_v]
        · by_cases e2 : q = .t d2
          · subst e2
            simp only [e, e1, if_false, if_true, ldmW_t, ver, ldmW_v, Ne.symm hd]
          · simp only [e, e1, e2, if_false]

/-! ### Two orders -/
/-- One order of the operations: by places; `p` the operation at a place, `q` the place of an operation. -/
structure Tr (n : Nat) (C : Nat → Nat → Prop) (Γ : Gam) (r : Nat → ROp) (v0 vn : Res → Val) where
  p : Nat → Nat
  q : Nat → Nat
  vi : Nat → Res → Val
  ws : Nat → List (Res × Val)
  pl : ∀ k, k < n → p k < n
  ql : ∀ i, i < n → q i < n
  pq : ∀ i, i < n → p (q i) = i
  qp : ∀ k, k < n → q (p k) = k
  st : ∀ k, k < n → rop Γ (vi k) (r (p k)) = some (ws k) ∧ vi (k + 1) = appl (vi k) (ws k)
  ord : ∀ i j, i < j → j < n → conflict (r (p i)) (r (p j)) = true → C (p i) (p j)
  z : vi 0 = v0
  e : vi n = vn

section
variable {n : Nat} {C : Nat → Nat → Prop} {r : Nat → ROp} {v0 vn : Res → Val}

def Tr.I (t : Tr n C Γ r v0 vn) (L : Nat → Prop) (v : Res → Val) : Prop := Inv n t.vi (fun k => rwr (r (t.p k))) (fun k => k < n ∧ L (t.p k)) v

theorem Tr.go (t : Tr n C Γ r v0 vn) {L : Nat → Prop} (hL : ∀ i j, j < n → C i j → L j → L i) (hI : t.I L v) {i : Nat} (hi : i < n) (hn : ¬ L i) (hp : ∀ j, C j i → L j) :
    ∃ w, rop Γ v (r i) = some w ∧ t.I (fun j => L j ∨ j = i) (appl v w) := by
  obtain ⟨agr, hI'⟩ := inv_step (n := n) (vi := t.vi) (ws := t.ws) (R := fun k => rrd (r (t.p k))) (W := fun k => rwr (r (t.p k))) (B := fun a b => a < n ∧ C (t.p a) (t.p b)) (S := fun k => k < n ∧ L (t.p k))
    (fun k hk => (t.st k hk).2) (fun k hk => rop_wr (t.st k hk).1) (fun a b hab hb hr => ⟨by omega, t.ord a b hab hb (conflict_spec hr)⟩)
    (fun a b hb hab hs => ⟨hab.1, hL _ _ (t.pl b hb) hab.2 hs.2⟩) hI (t.ql i hi) (fun h => hn (by have := h.2; rwa [t.pq i hi] at this))
    (fun j hj => ⟨hj.1, hp _ (by have := hj.2; rwa [t.pq i hi] at this)⟩)
  rw [t.pq i hi] at agr
  have h1 := (t.st (t.q i) (t.ql i hi)).1
  rw [t.pq i hi] at h1
  refine ⟨t.ws (t.q i), ?_, ?_⟩
  · rw [rop_congr (fun x hx => agr x (List.mem_append.2 (.inl hx)))]; exact h1
  · have : (fun k => k < n ∧ (L (t.p k) ∨ t.p k = i)) = fun k => (k < n ∧ L (t.p k)) ∨ k = t.q i := by
      funext k
      apply propext
      constructor
      · rintro ⟨h1, h2 | h2⟩
        · exact .inl ⟨h1, h2⟩
        · exact .inr (by rw [← h2, t.qp k h1])
      · rintro (⟨h1, h2⟩ | rfl)
        · exact ⟨h1, .inl h2⟩
        · exact ⟨t.ql i hi, .inr (t.pq i hi)⟩
    simp only [Tr.I, this]
    exact hI'

theorem Tr.all (t : Tr n C Γ r v0 vn) {L : Nat → Prop} (hI : t.I L v) (h : ∀ i, i < n → L i) : v = vn := by
  rw [inv_all hI (fun j hj => ⟨hj, h _ (t.pl j hj)⟩), t.e]
theorem Tr.zero (t : Tr n C Γ r v0 vn) : t.I (fun _ => False) v0 := by
  have := inv_zero (n := n) (vi := t.vi) (ws := t.ws) (W := fun k => rwr (r (t.p k))) (v := v0) t.z.symm (fun k hk => (t.st k hk).2) (fun k hk => rop_wr (t.st k hk).1)
  simpa [Tr.I] using this

variable {C0 : Nat → Nat → Prop} {X Y : Nat}
def CA (C0 : Nat → Nat → Prop) (X Y : Nat) (i j : Nat) : Prop := C0 i j ∨ (i = X ∧ j = Y)
def J (a : Tr n (CA C0 X Y) Γ r v0 vn) (b : Tr n (CA C0 Y X) Γ r v0 vn) (L : Nat → Prop) (v : Res → Val) : Prop :=
  (¬ L X ∧ ¬ L Y ∧ a.I L v ∧ b.I L v) ∨ (L X ∧ a.I L v) ∨ (L Y ∧ b.I L v)

theorem J.all {a : Tr n (CA C0 X Y) Γ r v0 vn} {b : Tr n (CA C0 Y X) Γ r v0 vn} {L : Nat → Prop} (h : J a b L v) (hL : ∀ i, i < n → L i) : v = vn := by
  rcases h with ⟨_, _, h, _⟩ | ⟨_, h⟩ | ⟨_, h⟩
  · exact a.all h hL
  · exact a.all h hL
  · exact b.all h hL

theorem J.go {a : Tr n (CA C0 X Y) Γ r v0 vn} {b : Tr n (CA C0 Y X) Γ r v0 vn} (hXY : X ≠ Y) {L : Nat → Prop} (h : J a b L v) (hL : ∀ i j, j < n → C0 i j → L j → L i) {i : Nat} (hi : i < n) (hn : ¬ L i)
    (hp : ∀ j, C0 j i → L j) : ∃ w, rop Γ v (r i) = some w ∧ J a b (fun j => L j ∨ j = i) (appl v w) := by
  rcases h with ⟨hx, hy, ha, hb⟩ | ⟨hx, ha⟩ | ⟨hy, hb⟩
  · have ga : i ≠ Y → ∃ w, rop Γ v (r i) = some w ∧ a.I (fun j => L j ∨ j = i) (appl v w) := fun hiY => a.go (fun x y hyn hc hl => by
      rcases hc with hc | ⟨rfl, rfl⟩
      · exact hL x y hyn hc hl
      · exact absurd hl hy) ha hi hn (fun j hj => by
      rcases hj with hj | ⟨_, hj⟩
      · exact hp j hj
      · exact absurd hj hiY)
    have gb : i ≠ X → ∃ w, rop Γ v (r i) = some w ∧ b.I (fun j => L j ∨ j = i) (appl v w) := fun hiX => b.go (fun x y hyn hc hl => by
      rcases hc with hc | ⟨rfl, rfl⟩
      · exact hL x y hyn hc hl
      · exact absurd hl hx) hb hi hn (fun j hj => by
      rcases hj with hj | ⟨_, hj⟩
      · exact hp j hj
      · exact absurd hj hiX)
    by_cases h1 : i = X
    · subst h1
      obtain ⟨w, g1, g2⟩ := ga hXY
      exact ⟨w, g1, .inr (.inl ⟨.inr rfl, g2⟩)⟩
    · by_cases h2 : i = Y
      · subst h2
        obtain ⟨w, g1, g2⟩ := gb h1
        exact ⟨w, g1, .inr (.inr ⟨.inr rfl, g2⟩)⟩
      · obtain ⟨w, g1, g2⟩ := ga h2
        obtain ⟨w', g3, g4⟩ := gb h1
        rw [g1] at g3
        simp only [Option.some.injEq] at g3
        subst g3
        exact ⟨w, g1, .inl ⟨fun h => h.elim hx (fun e => h1 e.symm), fun h => h.elim hy (fun e => h2 e.symm), g2, g4⟩⟩
  · obtain ⟨w, g1, g2⟩ := a.go (fun x y hyn hc hl => by
      rcases hc with hc | ⟨rfl, rfl⟩
      · exact hL x y hyn hc hl
      · exact hx) ha hi hn (fun j hj => by
      rcases hj with hj | ⟨rfl, _⟩
      · exact hp j hj
      · exact hx)
    exact ⟨w, g1, .inr (.inl ⟨.inl hx, g2⟩)⟩
  · obtain ⟨w, g1, g2⟩ := b.go (fun x y hyn hc hl => by
      rcases hc with hc | ⟨rfl, rfl⟩
      · exact hL x y hyn hc hl
      · exact hy) hb hi hn (fun j hj => by
      rcases hj with hj | ⟨rfl, _⟩
      · exact hp j hj
      · exact hy)
    exact ⟨w, g1, .inr (.inr ⟨.inl hy, g2⟩)⟩

theorem J.zero {a : Tr n (CA C0 X Y) Γ r v0 vn} {b : Tr n (CA C0 Y X) Γ r v0 vn} : J a b (fun _ => False) v0 := .inl ⟨fun h => h, fun h => h, a.zero, b.zero⟩
end
end

section
variable {P : Program} {E : Env}
set_option maxHeartbeats 1000000 in
theorem region_swap {Γ : Gam} (hΓ : SatE P E Γ) (hC : ∀ b, E.C b → b < E.w0.heap.size) {N : Nat} {ops : Array Oper} {Q : Exit → Act → World → Prop} {r : Nat → ROp} (hm : ∀ i (h : i < ops.size), mrop P N ops (r i) ops[i] = true)
    (hd : belowOk 0 (ops.toList.map afterOf) = true) (hpt : ∀ i, i < ops.size → ∀ d, iDst (r i).x = some d → E.tpin d = none) {X Y : Nat} (hXY : X ≠ Y) {v0 vn : Res → Val}
    (tA : Tr ops.size (CA (fun i j => i ∈ (closeA [] (ops.toList.map afterOf)).getD j []) X Y) Γ r v0 vn) (tB : Tr ops.size (CA (fun i j => i ∈ (closeA [] (ops.toList.map afterOf)).getD j []) Y X) Γ r v0 vn)
    {s : Nat} {ds : List Deferred} (hN : N ≤ s) (hq : ∀ a' w', Rel E vn a' w' → a'.tmps.size = s → a'.defers = ds → Q .normal a' w') :
    ∀ {a : Act} {w : World}, Rel E v0 a w → a.tmps.size = s → a.defers = ds → wpAny P .any ops Q ops.size (Array.replicate ops.size false) a w := by
  let full := ops.toList.map afterOf
  have hfl : full.length = ops.size := by simp [full]
  have hbel := belowOk_spec 0 full hd
  have hcl : ∀ (S : Nat → Prop), (∀ k, k < full.length → S k → ∀ t ∈ full.getD k [], S t) → ∀ j, j < ops.size → (∀ t ∈ full.getD j [], S t) → ∀ i, i ∈ (closeA [] full).getD j [] → S i := fun S hS j hj hp i hi =>
    closeA_spec full [] full rfl (fun j hj => by simp at hj) (fun j hj t ht => by have := hbel j hj t ht; omega) j (by omega) i hi hS hp
  have main : ∀ (fuel : Nat) (listed : Array Bool), listed.size = ops.size → unlisted ops.size listed ≤ fuel → (∀ k, k < full.length → listed.getD k true = true → ∀ t ∈ full.getD k [], listed.getD t true = true) →
      ∀ (v : Res → Val) (a : Act) (w : World), J tA tB (fun j => j < ops.size ∧ listed.getD j true = true) v → Rel E v a w → a.tmps.size = s → a.defers = ds → wpAny P .any ops Q fuel listed a w := by
    intro fuel
    induction fuel with
    | zero =>
      intro listed hls hu hc v a w hI hR hs hdf
      have hall : ∀ j, j < ops.size → listed.getD j true = true := by
        intro j hj
        have := List.countP_eq_zero.1 (Nat.le_zero.1 hu) j (by simpa using hj)
        simpa using this
      have : Region.ready .any ops listed = [] := by
        simp only [Region.ready, List.filter_eq_nil_iff, List.mem_range]
        intro j hj
        simp [hall j hj]
      refine ⟨this, hq a w ?_ hs hdf⟩
      rw [← hI.all (fun j hj => ⟨hj, hall j hj⟩)]
      exact hR
    | succ fuel ih =>
      intro listed hls hu hc v a w hI hR hs hdf
      refine ⟨fun hr => ?_, fun i hi => ?_⟩
      · have hall : ∀ m, ∀ j, j < m → j < ops.size → listed.getD j true = true := by
          intro m
          induction m with
          | zero => intro j hj; omega
          | succ m ihm =>
            intro j hj hjn
            rcases Nat.lt_or_eq_of_le (Nat.le_of_lt_succ hj) with hlt | rfl
            · exact ihm j hlt hjn
            · simp only [Region.ready, List.filter_eq_nil_iff, List.mem_range] at hr
              have h1 := hr j hjn
              refine Classical.byContradiction fun hne => h1 ?_
              have hfalse : listed.getD j true = false := by simpa using hne
              simp only [hfalse, Bool.not_false, Bool.true_and, Array.getElem?_eq_getElem hjn, Option.map_some, Option.getD_some]
              rw [Array.all_eq_true_iff_forall_mem]
              intro e he
              by_cases hb : Region.binds .any e = true
              · have het : e.on ∈ full.getD j [] := by
                  have : full.getD j [] = afterOf ops[j] := by simp [full, List.getD, List.getElem?_map, Array.getElem?_toList, Array.getElem?_eq_getElem hjn]
                  rw [this]
                  simp only [afterOf, List.mem_map, List.mem_filter]
                  exact ⟨e, ⟨by simpa using he, hb⟩, rfl⟩
                have hlt := hbel j (by omega) e.on het
                have hl := ihm e.on (by omega) (by omega)
                have : listed.getD e.on false = true := by
                  rw [Array.getD_eq_getD_getElem?] at hl ⊢
                  rw [Array.getElem?_eq_getElem (by omega)] at hl ⊢
                  exact hl
                simp [this]
              · simp [hb]
        refine hq a w ?_ hs hdf
        rw [← hI.all (fun j hj => ⟨hj, hall (j + 1) j (by omega) hj⟩)]
        exact hR
      · simp only [Region.ready, List.mem_filter, List.mem_range, Bool.and_eq_true, Bool.not_eq_true'] at hi
        obtain ⟨hin, hnl, haf⟩ := hi
        rw [Array.getElem?_eq_getElem hin] at haf
        simp only [Option.map_some, Option.getD_some, Array.all_eq_true_iff_forall_mem, Bool.or_eq_true, Bool.not_eq_true'] at haf
        have hpre : ∀ t ∈ full.getD i [], t < ops.size ∧ listed.getD t true = true := by
          intro t ht
          have htl := hbel i (by omega) t ht
          have : full.getD i [] = afterOf ops[i] := by simp [full, List.getD, List.getElem?_map, Array.getElem?_toList, Array.getElem?_eq_getElem hin]
          rw [this] at ht
          simp only [afterOf, List.mem_map, List.mem_filter] at ht
          obtain ⟨e, ⟨he, hb⟩, rfl⟩ := ht
          rcases haf e (by simpa using he) with h | h
          · rw [hb] at h; simp at h
          · refine ⟨by omega, ?_⟩
            rw [Array.getD_eq_getD_getElem?] at h ⊢
            rw [Array.getElem?_eq_getElem (by omega)] at h ⊢
            exact h
        have hcS : ∀ k, k < full.length → (k < ops.size ∧ listed.getD k true = true) → ∀ t ∈ full.getD k [], t < ops.size ∧ listed.getD t true = true := fun k hk hS t ht =>
          ⟨by have := hbel k hk t ht; omega, hc k hk hS.2 t ht⟩
        obtain ⟨ws, hrop, hI'⟩ := hI.go hXY (fun i' j hj hb hS => hcl _ hcS j hj (hcS j (by omega) hS) i' hb) hin (fun h => by rw [hnl] at h; simp at h) (fun j hb => hcl _ hcS i hin hpre j hb)
        refine rop_step hΓ hC (hm i hin) hR (by omega) hrop (hpt i hin) (by simp [hin]) _ fun a' w' hR' hs' hd' => ?_
        have hset : ∀ j, (listed.setIfInBounds i true).getD j true = (if j = i then true else listed.getD j true) := by
          intro j
          rw [Array.getD_eq_getD_getElem?, Array.getElem?_setIfInBounds]
          by_cases e : i = j
          · subst e; simp [hls, hin]
          · simp [e, Ne.symm e, Array.getD_eq_getD_getElem?]
        refine ih (listed.setIfInBounds i true) (by simpa using hls) ?_ ?_ (appl v ws) a' w' ?_ hR' (hs'.trans hs) (hd'.trans hdf)
        · have hlt := unlisted_set hin hls hnl
          omega
        · intro k hk hl t ht
          rw [hset] at hl ⊢
          by_cases e : k = i
          · subst e
            split
            · rfl
            · exact (hpre t ht).2
          · rw [if_neg e] at hl
            split
            · rfl
            · exact hc k hk hl t ht
        · have : (fun j => j < ops.size ∧ (listed.setIfInBounds i true).getD j true = true) = (fun j => (j < ops.size ∧ listed.getD j true = true) ∨ j = i) := by
            funext j
            rw [hset]
            apply propext
            by_cases e : j = i
            · subst e; simp [hin]
            · simp [e]
          rw [this]
          exact hI'
  intro a w hR hs hdf
  refine main ops.size _ (by simp) ?_ ?_ v0 a w ?_ hR hs hdf
  · unfold unlisted
    exact Nat.le_trans List.countP_le_length (by simp)
  · intro k hk hl
    have : (Array.replicate ops.size false).getD k true = false := by
      rw [Array.getD_eq_getD_getElem?, Array.getElem?_replicate, if_pos (by omega)]; rfl
    rw [this] at hl
    simp at hl
  · have : (fun j => j < ops.size ∧ (Array.replicate ops.size false).getD j true = true) = fun _ => False := by
      funext j
      apply propext
      refine ⟨fun h => ?_, False.elim⟩
      have h2 : (Array.replicate ops.size false).getD j true = false := by
        rw [Array.getD_eq_getD_getElem?, Array.getElem?_replicate, if_pos h.1]; rfl
      rw [h2] at h
      simp at h
    rw [this]
    exact J.zero
end

/-! ### The check -/
/-- Whose operation is at a place: that with its slot; those without a slot in their order. -/
def permOf (ops : Array Oper) : List ROp → List Nat → List Nat
  | [], _ => []
  | x :: xs, st => match iDst x.x with
    | some d => ops.toList.findIdx (fun o => o.dst == some d) :: permOf ops xs st
    | none => st.headD 0 :: permOf ops xs st.tail
def storesOf (ops : Array Oper) : List Nat := (List.range ops.size).filter fun i => match ops[i]? with | some o => o.dst == none | none => false
def ropAt (rs : List ROp) (k : Nat) : ROp := (rs[k]?).getD ⟨none, .mkmap 0⟩

def permOk (n : Nat) (pm qm : List Nat) : Bool := (List.range n).all fun k => decide (pm.getD k 0 < n) && qm.getD (pm.getD k 0) n == k && decide (qm.getD k n < n) && pm.getD (qm.getD k n) 0 == k

def swapAt (P : Program) (N : Nat) (ops : Array Oper) (rs : List ROp) (pm qm : List Nat) (h : Nat) : Bool :=
  rs.length == ops.size && decide (h + 1 < ops.size) && permOk ops.size pm qm && belowOk 0 (ops.toList.map afterOf) && commOk (ropAt rs h) (ropAt rs (h + 1)) &&
  ((List.range ops.size).all fun i => match ops[i]? with | some o => mrop P N ops (ropAt rs (qm.getD i ops.size)) o | none => false) &&
  ((List.range ops.size).all fun j => (List.range j).all fun i => !conflict (ropAt rs i) (ropAt rs j) || ((closeA [] (ops.toList.map afterOf)).getD (pm.getD j 0) []).contains (pm.getD i 0) || (i == h && j == h + 1))

def swapOk (P : Program) (N : Nat) (ops : Array Oper) (rs : List ROp) : Bool :=
  match (List.range rs.length).find? fun k => commOk (ropAt rs k) (ropAt rs (k + 1)) with
  | some h => swapAt P N ops rs (permOf ops rs (storesOf ops)) ((List.range rs.length).map fun i => (permOf ops rs (storesOf ops)).idxOf i) h
  | none => false

section
variable {P : Program} {E : Env}
def sw (h k : Nat) : Nat := if k = h then h + 1 else if k = h + 1 then h else k
theorem sw_sw (h k : Nat) : sw h (sw h k) = k := by
  unfold sw
  by_cases e : k = h
  · subst e; simp
  · by_cases e2 : k = h + 1
    · subst e2; simp
    · simp [e, e2]
theorem sw_lt {h k n : Nat} (hn : h + 1 < n) (hk : k < n) : sw h k < n := by unfold sw; (repeat' split) <;> omega

theorem region_swapOk {Γ : Gam} (hΓ : SatE P E Γ) (hC : ∀ b, E.C b → b < E.w0.heap.size) {N : Nat} {ops : Array Oper} {Q : Exit → Act → World → Prop} {rs : List ROp} (hm : swapOk P N ops rs = true)
    (hpt : ∀ r ∈ rs, ∀ d, iDst r.x = some d → E.tpin d = none) {σ σ' : ASt} {s : Nat} {ds : List Deferred} (he : evR Γ rs σ = some σ') (hN : N ≤ s)
    (hq : ∀ a' w', Rel E σ'.val a' w' → a'.tmps.size = s → a'.defers = ds → Q .normal a' w') :
    ∀ {a : Act} {w : World}, Rel E σ.val a w → a.tmps.size = s → a.defers = ds → wpAny P .any ops Q ops.size (Array.replicate ops.size false) a w := by
  unfold swapOk at hm
  split at hm <;> try (simp at hm; done)
  rename_i h _
  generalize permOf ops rs (storesOf ops) = pm at hm
  generalize (List.map (fun i => List.idxOf i pm) (List.range rs.length)) = qm at hm
  simp only [swapAt, Bool.and_eq_true, beq_iff_eq, decide_eq_true_eq, List.all_eq_true, List.mem_range, permOk] at hm
  obtain ⟨⟨⟨⟨⟨⟨hlen, hh⟩, hperm⟩, hbel⟩, hcom⟩, hmat⟩, hord⟩ := hm
  obtain ⟨vi, ws, h0, hn, hstep⟩ := evR_trace he
  rw [hlen] at hn
  have hstep' : ∀ k, k < ops.size → rop Γ (vi k) (ropAt rs k) = some (ws k) ∧ vi (k + 1) = appl (vi k) (ws k) := fun k hk => by
    have := hstep k (by omega)
    simpa [ropAt, List.getElem?_eq_getElem (show k < rs.length by omega)] using this
  let n := ops.size
  let p : Nat → Nat := fun k => pm.getD k 0
  let q : Nat → Nat := fun k => qm.getD k n
  let r : Nat → ROp := fun i => ropAt rs (q i)
  have hp : ∀ k, k < n → p k < n := fun k hk => (hperm k hk).1.1.1
  have hqp : ∀ k, k < n → q (p k) = k := fun k hk => (hperm k hk).1.1.2
  have hql : ∀ k, k < n → q k < n := fun k hk => (hperm k hk).1.2
  have hpq : ∀ k, k < n → p (q k) = k := fun k hk => (hperm k hk).2
  have hr : ∀ k, k < n → r (p k) = ropAt rs k := fun k hk => by show ropAt rs (q (p k)) = _; rw [hqp k hk]
  have hpinj : ∀ i j, i < n → j < n → p i = p j → i = j := fun i j hi hj e => by rw [← hqp i hi, e, hqp j hj]
  have hord' : ∀ i j, i < j → j < n → conflict (ropAt rs i) (ropAt rs j) = true → p i ∈ (closeA [] (ops.toList.map afterOf)).getD (p j) [] ∨ (i = h ∧ j = h + 1) := by
    intro i j hij hj hc
    have := hord j hj i hij
    simp only [hc, Bool.not_true, Bool.false_or, Bool.or_eq_true, Bool.and_eq_true, beq_iff_eq, List.contains_iff_mem] at this
    exact this
  have hXY : p h ≠ p (h + 1) := fun e => by have := hpinj h (h + 1) (by omega) hh e; omega
  obtain ⟨w2', w1', c1, c2, c3⟩ := comm_spec hcom (hstep' h (by omega)).1 (by have := (hstep' (h + 1) hh).1; rwa [(hstep' h (by omega)).2] at this)
  let tA : Tr n (CA (fun i j => i ∈ (closeA [] (ops.toList.map afterOf)).getD j []) (p h) (p (h + 1))) Γ r σ.val σ'.val :=
    { p := p, q := q, vi := vi, ws := ws, pl := hp, ql := hql, pq := hpq, qp := hqp
      st := fun k hk => by rw [hr k hk]; exact hstep' k hk
      ord := fun i j hij hj hc => by
        rw [hr i (by omega), hr j hj] at hc
        rcases hord' i j hij hj hc with h1 | ⟨rfl, rfl⟩
        · exact .inl h1
        · exact .inr ⟨rfl, rfl⟩
      z := h0, e := hn }
  have hv2 : vi (h + 2) = appl (appl (vi h) w2') w1' := by rw [c3, (hstep' (h + 1) hh).2, (hstep' h (by omega)).2]
  let tB : Tr n (CA (fun i j => i ∈ (closeA [] (ops.toList.map afterOf)).getD j []) (p (h + 1)) (p h)) Γ r σ.val σ'.val :=
    { p := fun k => p (sw h k), q := fun i => sw h (q i), vi := fun k => if k = h + 1 then appl (vi h) w2' else vi k, ws := fun k => if k = h then w2' else if k = h + 1 then w1' else ws k
      pl := fun k hk => hp _ (sw_lt hh hk), ql := fun i hi => sw_lt hh (hql i hi), pq := fun i hi => by show p (sw h (sw h (q i))) = i; rw [sw_sw, hpq i hi]
      qp := fun k hk => by show sw h (q (p (sw h k))) = k; rw [hqp _ (sw_lt hh hk), sw_sw]
      st := fun k hk => by
        rw [hr _ (sw_lt hh hk)]
        by_cases e1 : k = h
        · subst e1
          simp only [sw, if_true, show ¬ (k = k + 1) by omega, if_false]
          exact ⟨c1, trivial⟩
        · by_cases e2 : k = h + 1
          · subst e2
            simp only [sw, if_true, show ¬ (h + 1 = h) by omega, show ¬ (h + 1 + 1 = h + 1) by omega, if_false]
            exact ⟨c2, hv2⟩
          · simp only [sw, e1, e2, if_false, show ¬ (k + 1 = h + 1) by omega]
            exact hstep' k hk
      ord := fun i j hij hj hc => by
        have hi' := sw_lt hh (show i < n by omega)
        have hj' := sw_lt hh (show j < n from hj)
        rw [hr _ hi', hr _ hj'] at hc
        by_cases e : i = h ∧ j = h + 1
        · obtain ⟨rfl, rfl⟩ := e
          refine .inr ⟨?_, ?_⟩
          · simp [sw]
          · simp [sw]
        · have hlt : sw h i < sw h j := by unfold sw; (repeat' split) <;> omega
          rcases hord' _ _ hlt hj' hc with h1 | ⟨h1, h2⟩
          · exact .inl h1
          · exfalso
            have k1 : i = h + 1 := by have := congrArg (sw h) h1; rw [sw_sw] at this; simpa [sw] using this
            have k2 : j = h := by have := congrArg (sw h) h2; rw [sw_sw] at this; simpa [sw] using this
            omega
      z := by simp only [show ¬ (0 = h + 1) by omega, if_false]; exact h0
      e := by
        by_cases e : n = h + 1
        · have : h + 1 < n := hh
          omega
        · simp only [e, if_false]; exact hn }
  intro a w hR hs hds
  refine region_swap hΓ hC (r := r) (fun i hi => ?_) hbel (fun i hi d hd => hpt (r i) ?_ d hd) hXY tA tB hN hq hR hs hds
  · have := hmat i hi
    rw [Array.getElem?_eq_getElem hi] at this
    exact this
  · have : q i < rs.length := by have := hql i hi; show _ < _; omega
    show ropAt rs (q i) ∈ rs
    simp only [ropAt, List.getElem?_eq_getElem this, Option.getD_some]
    exact List.getElem_mem this
end
end Go.Fw
