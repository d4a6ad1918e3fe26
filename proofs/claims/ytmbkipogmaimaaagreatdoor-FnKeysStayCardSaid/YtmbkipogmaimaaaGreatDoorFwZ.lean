/- The framework, part Z: functions: what is given, what comes back, and tables of functions. Conditions: none. -/
import Derived.Test.YtmbkipogmaimaaaGreatDoorFwY
namespace Go.Fw
open Go

/-- A result: a slot, or what a slot's box holds. -/
inductive RS where
  | t (n : Nat)
  | c (n size : Nat) (g : Bool)

structure Fi where
  body : Ir
  ress : List RS

def entryT : Nat → List PA → List (Nat × Val)
  | _, [] => []
  | i, .val a cs :: ps => (i, .t [] (.pl a cs)) :: entryT (i + 1) ps
  | i, .box _ :: ps => (i, .t [] (.ptr (.b i) [] 0)) :: entryT (i + 1) ps
  | i, .vw cs :: ps => (i, .t [] (.view cs)) :: entryT (i + 1) ps
  | i, .fn g caps :: ps => (i, .t [] (.fn g caps)) :: entryT (i + 1) ps
def entryB : Nat → List PA → List (Nat × Val)
  | _, [] => []
  | i, .box cs :: ps => (i, .b cs) :: entryB (i + 1) ps
  | i, _ :: ps => entryB (i + 1) ps
def entry (ps : List PA) : ASt := { ts := entryT 0 ps, bs := entryB 0 ps, vs := [] }

def liveB (v : Res → Val) (st : Stamps) : Bool := st.all fun p => ver v p.1 == p.2
/-- A result: the resource that it comes from, its cells. -/
def outOf (v : Res → Val) : RS → Option (Res × Bool × List AC)
  | .c n size g => (match v (.t n) with
    | .t [] (.ptr (.b k) [] 0) => (match v (.b k) with
      | .b cs => if clnL cs && decide (cs.length = size) then some (.b k, g, cs) else none
      | _ => none)
    | _ => none)
  | .t n => match v (.t n) with
  | .t st (.pl a cs) => if (liveB v st && cs.all AC.flat) || (st.isEmpty && clnL cs) then some (.t n, a, cs) else none
  | .t [] (.ptr (.b k) [] 0) => match v (.b k) with
    | .b cs => if clnL cs then some (.b k, false, [.ref .own cs]) else none
    | _ => none
  | _ => none
def outsOf (v : Res → Val) : List RS → Option (List (Res × Bool × List AC))
  | [] => some []
  | n :: ns => ob (outOf v n) fun x => ob (outsOf v ns) fun xs => some (x :: xs)
def extsOf (v : Res → Val) : Nat → List PA → Option (List (List AC))
  | _, [] => some []
  | i, .box _ :: ps => (match v (.b i) with
    | .b cs => if clnL cs then ob (extsOf v (i + 1) ps) fun es => some (cs :: es) else none
    | _ => none)
  | i, _ :: ps => extsOf v (i + 1) ps
def boxesOf : Nat → List PA → List Nat
  | _, [] => []
  | i, .box _ :: ps => i :: boxesOf (i + 1) ps
  | i, _ :: ps => boxesOf (i + 1) ps

def outTV : List (Bool × List AC) → TV
  | [(a, cs)] => .pl a cs
  | l => .tup l

def finish (σ : ASt) (ress : List RS) (ps : List PA) : Option AOut :=
  ob (outsOf σ.val ress) fun rs => ob (extsOf σ.val 0 ps) fun es =>
    if (rs.map (·.1) ++ (boxesOf 0 ps).map Res.b).Nodup then some { tv := outTV (rs.map (·.2)), exts := es } else none

def runF (Γ : Gam) (n : Nat) (fi : Fi) (ps : List PA) : Option AOut :=
  if pinsIn (boxesOf 0 ps) fi.body then
    match ev Γ n fi.body (entry ps) with
    | some (.norm, σ) => finish σ fi.ress ps
    | some (.ret, σ) => finish σ fi.ress ps
    | _ => none
  else none

def isRes (P : Program) : ResultVar → RS → Bool
  | .tmp t, .t n => t == n
  | .cell a t, .c n size g => a == n && tySize P t == some size && isAggB P t == some g && (g || size == 1)
  | _, _ => false
def ressOk (P : Program) : List ResultVar → List RS → Bool
  | [], [] => true
  | r :: rs, n :: ns => isRes P r n && ressOk P rs ns
  | _, _ => false
def fnOk (P : Program) (f : FuncId) (fi : Fi) : Bool :=
  match P.funcs[f]? with
  | some fn => (match fn.body with | some c => matchC P fn.ntmps fi.body c | none => false) && ressOk P fn.results.toList fi.ress
  | none => false

section
variable {P : Program} {w : World}

/-- The footprints of the arguments, one by one. -/
theorem ArgsRel.feet {Xs Xb : Nat → Prop} {ps : List PA} {us : List Value} {φ : Foot} (h : ArgsRel w Xs Xb ps us φ) :
    us.length = ps.length ∧ ∃ fs : List Foot, fs.length = ps.length ∧ (∀ x, φ x = tot fs x) ∧ ∀ (i : Nat) (p : PA) (u : Value) (f : Foot), ps[i]? = some p → us[i]? = some u → fs[i]? = some f → ArgOk w Xs Xb u f p := by
  induction h with
  | nil => exact ⟨rfl, [], rfl, fun _ => rfl, fun i p u f h => by simp at h⟩
  | @cons p ps u us f g h t ih =>
    obtain ⟨h1, fs, h2, h3, h4⟩ := ih
    refine ⟨by simp [h1], f :: fs, by simp [h2], fun x => by simp [tot, h3], fun i p' u' f' e1 e2 e3 => ?_⟩
    cases i with
    | zero => simp at e1 e2 e3; subst e1 e2 e3; exact h
    | succ i => exact h4 i p' u' f' (by simpa using e1) (by simpa using e2) (by simpa using e3)

theorem tot_at : ∀ {fs : List Foot} {i : Nat} {f : Foot}, fs[i]? = some f → ∀ x, f x ≤ tot fs x
  | [], i, f, h, x => by simp at h
  | g :: fs, i, f, h, x => by
    cases i with
    | zero => simp at h; subst h; simp only [tot]; omega
    | succ i => have := tot_at (fs := fs) (by simpa using h) x; simp only [tot]; omega
theorem tot_two : ∀ {fs : List Foot} {i j : Nat} {f g : Foot}, i < j → fs[i]? = some f → fs[j]? = some g → ∀ x, f x + g x ≤ tot fs x
  | [], i, j, f, g, _, h, _, x => by simp at h
  | k :: fs, i, j, f, g, hij, h1, h2, x => by
    cases j with
    | zero => omega
    | succ j =>
      cases i with
      | zero =>
        simp at h1
        subst h1
        have := tot_at (fs := fs) (by simpa using h2) x
        simp only [tot]; omega
      | succ i =>
        have := tot_two (fs := fs) (i := i) (j := j) (by omega) (by simpa using h1) (by simpa using h2) x
        simp only [tot]; omega

theorem look_entryT : ∀ (ps : List PA) (k n : Nat), look (entryT k ps) n = if n < k then .nope else match ps[n - k]? with
    | none => .nope
    | some (.val a cs) => .t [] (.pl a cs)
    | some (.box _) => .t [] (.ptr (.b n) [] 0)
    | some (.vw cs) => .t [] (.view cs)
    | some (.fn g caps) => .t [] (.fn g caps)
  | [], k, n => by simp [entryT, look]
  | p :: ps, k, n => by
    have ih := look_entryT ps (k + 1) n
    have key : ∀ e : Val, look ((k, e) :: entryT (k + 1) ps) n = if k = n then e else look (entryT (k + 1) ps) n := fun e => rfl
    by_cases e : k = n
    · subst e
      cases p <;> simp [entryT, look]
    · have hk : look (entryT k (p :: ps)) n = look (entryT (k + 1) ps) n := by cases p <;> simp [entryT, look, e]
      rw [hk, ih]
      by_cases h1 : n < k
      · rw [if_pos h1, if_pos (by omega)]
      · rw [if_neg h1, if_neg (by omega)]
        rw [show n - k = (n - (k + 1)) + 1 by omega]
        rfl
theorem look_entryB : ∀ (ps : List PA) (k n : Nat), look (entryB k ps) n = if n < k then .nope else match ps[n - k]? with
    | some (.box cs) => .b cs
    | _ => .nope
  | [], k, n => by simp [entryB, look]
  | p :: ps, k, n => by
    have ih := look_entryB ps (k + 1) n
    by_cases e : k = n
    · subst e
      cases p <;> simp [entryB, look, ih]
    · have hk : look (entryB k (p :: ps)) n = look (entryB (k + 1) ps) n := by cases p <;> simp [entryB, look, e]
      rw [hk, ih]
      by_cases h1 : n < k
      · rw [if_pos h1, if_pos (by omega)]
      · rw [if_neg h1, if_neg (by omega)]
        rw [show n - k = (n - (k + 1)) + 1 by omega]
        rfl

theorem mem_boxesOf : ∀ (ps : List PA) (k n : Nat), n ∈ boxesOf k ps ↔ k ≤ n ∧ ∃ cs, ps[n - k]? = some (.box cs)
  | [], k, n => by simp [boxesOf]
  | p :: ps, k, n => by
    have ih := mem_boxesOf ps (k + 1) n
    by_cases e : k = n
    · subst e
      cases p with
      | box cs => simp [boxesOf]
      | _ => simp [boxesOf, ih]; omega
    · have h1 : n ∈ boxesOf k (p :: ps) ↔ n ∈ boxesOf (k + 1) ps := by
        cases p with
        | box cs => simp [boxesOf, Ne.symm e]
        | _ => simp [boxesOf]
      rw [h1, ih]
      constructor
      · rintro ⟨h2, cs, h3⟩
        refine ⟨by omega, cs, ?_⟩
        rw [show n - k = (n - (k + 1)) + 1 by omega]
        simpa using h3
      · rintro ⟨h2, cs, h3⟩
        refine ⟨by omega, cs, ?_⟩
        rw [show n - k = (n - (k + 1)) + 1 by omega] at h3
        simpa using h3

def isVal : Option PA → Bool
  | some (.val _ _) => true
  | _ => false
def isBox : Option PA → Bool
  | some (.box _) => true
  | _ => false
theorem isVal_spec {p : Option PA} (h : isVal p = true) : ∃ a cs, p = some (.val a cs) := by
  unfold isVal at h
  split at h
  · exact ⟨_, _, rfl⟩
  · simp at h
theorem isBox_spec {p : Option PA} (h : isBox p = true) : ∃ cs, p = some (.box cs) := by
  unfold isBox at h
  split at h
  · exact ⟨_, rfl⟩
  · simp at h

def argAddr (us : List Value) (i : Nat) : Nat := match us[i]? with | some (.pointer (some ad)) => ad.block | _ => 0

/-- How a call begins. -/
theorem entry_rel {C : Nat → Prop} {ps : List PA} {us : List Value} {φ : Foot} (h : CallIn w C ps us φ) {a : Act} (ha : ∀ i u, us[i]? = some u → tmv a i = u) :
    Rel { C := C, M := fun x => φ x ≠ 0, w0 := w, pin := fun n => if n ∈ boxesOf 0 ps then some (argAddr us n) else none } (entry ps).val a w := by
  obtain ⟨hlen, fs, hfl, hφ, harg⟩ := h.args.feet
  let E : Env := { C := C, M := fun x => φ x ≠ 0, w0 := w, pin := fun n => if n ∈ boxesOf 0 ps then some (argAddr us n) else none }
  let fF : Nat → Foot := fun i => match fs[i]? with | some f => f | none => fun _ => 0
  let φ0 : Res → Foot := fun r => match r with
    | .t i => fun x => if isVal ps[i]? = true then fF i x else 0
    | .b i => fun x => if isBox ps[i]? = true then fF i x else 0
    | .v _ => fun _ => 0
  have T : ∀ n, (entry ps).val (.t n) = match ps[n]? with
      | none => .nope
      | some (.val a cs) => .t [] (.pl a cs)
      | some (.box _) => .t [] (.ptr (.b n) [] 0)
      | some (.vw cs) => .t [] (.view cs)
      | some (.fn g caps) => .t [] (.fn g caps) := fun n => by
    have := look_entryT ps 0 n
    simpa [entry, ASt.val] using this
  have B : ∀ n, (entry ps).val (.b n) = match ps[n]? with | some (.box cs) => .b cs | _ => .nope := fun n => by
    have := look_entryB ps 0 n
    simpa [entry, ASt.val] using this
  have fle : ∀ i x, fF i x ≤ φ x := fun i x => by
    simp only [fF, hφ]
    cases hi : fs[i]? with
    | none => simp
    | some f => exact tot_at hi x
  have f2 : ∀ i j x, i ≠ j → fF i x + fF j x ≤ φ x := by
    intro i j x hij
    simp only [fF, hφ]
    cases hi : fs[i]? with
    | none =>
      cases hj : fs[j]? with
      | none => simp
      | some g => simpa using tot_at hj x
    | some f =>
      cases hj : fs[j]? with
      | none => simpa using tot_at hi x
      | some g =>
        rcases Nat.lt_or_gt_of_ne hij with hlt | hgt
        · exact tot_two hlt hi hj x
        · have := tot_two hgt hj hi x; simp only; omega
  have idx : ∀ r x, φ0 r x ≠ 0 → ∃ i, (r = .t i ∨ r = .b i) ∧ fF i x ≠ 0 ∧ ((∃ a cs, ps[i]? = some (.val a cs) ∧ r = .t i) ∨ ∃ cs, ps[i]? = some (.box cs) ∧ r = .b i) := by
    intro r x hr
    cases r with
    | v q => exact absurd rfl hr
    | t i =>
      simp only [φ0] at hr
      split at hr
      · rename_i e; obtain ⟨a', cs, e⟩ := isVal_spec e; exact ⟨i, .inl rfl, hr, .inl ⟨_, _, e, rfl⟩⟩
      · exact absurd rfl hr
    | b i =>
      simp only [φ0] at hr
      split at hr
      · rename_i e; obtain ⟨cs, e⟩ := isBox_spec e; exact ⟨i, .inr rfl, hr, .inr ⟨_, e, rfl⟩⟩
      · exact absurd rfl hr
  have le0 : ∀ r x, φ0 r x ≤ φ x := by
    intro r x
    cases r with
    | v q => exact Nat.zero_le _
    | t i =>
      simp only [φ0]
      split
      · exact fle i x
      · exact Nat.zero_le _
    | b i =>
      simp only [φ0]
      split
      · exact fle i x
      · exact Nat.zero_le _
  have monoS : ∀ x, AXs w C φ x → XS E w φ0 x := fun x hx => ⟨hx.1, fun r => by have := le0 r x; have := hx.2.1; omega, hx.2.2⟩
  have monoB : ∀ x, AXb w φ x → XB w φ0 [] x := fun x hx => ⟨hx.1, fun r hr => absurd (by have := le0 r x; have := hx.2; omega) hr⟩
  have at_ : ∀ i p, ps[i]? = some p → ∃ u f, us[i]? = some u ∧ tmv a i = u ∧ fF i = f ∧ ArgOk w (AXs w C φ) (AXb w φ) u f p := by
    intro i p hp
    have hi : i < ps.length := (List.getElem?_eq_some_iff.1 hp).1
    have hu : us[i]? = some (us[i]'(by omega)) := List.getElem?_eq_getElem _
    have hf : fs[i]? = some (fs[i]'(by omega)) := List.getElem?_eq_getElem _
    refine ⟨_, _, hu, ha i _ hu, ?_, harg i p _ _ hp hu hf⟩
    simp only [fF, hf]
  refine ⟨argAddr us, φ0, fun r x => Nat.le_trans (le0 r x) (h.le1 x), ?_, ?_, ?_, ?_, ?_, ?_, rfl, rfl, rfl, Nat.le_refl _, fun _ _ _ => rfl, ?_⟩
  · intro r s x h1 h2
    obtain ⟨i, _, k2, k3⟩ := idx r x h1
    obtain ⟨j, _, g2, g3⟩ := idx s x h2
    have hij : i = j := Classical.byContradiction fun e => by have := f2 i j x e; have := h.le1 x; omega
    subst hij
    rcases k3 with ⟨_, _, e1, rfl⟩ | ⟨_, e1, rfl⟩ <;> rcases g3 with ⟨_, _, e2, rfl⟩ | ⟨_, e2, rfl⟩
    · rfl
    · rw [e1] at e2; simp at e2
    · rw [e1] at e2; simp at e2
    · rfl
  · intro r x hr
    have hx : φ x ≠ 0 := by have := le0 r x; omega
    exact ⟨(h.dom x hx).1, (h.dom x hx).2, .inr hx⟩
  · intro n st tv hv p hp
    rw [T] at hv
    split at hv <;> simp at hv
    all_goals obtain ⟨rfl, _⟩ := hv; simp at hp
  · intro n st tv hv _ p hp
    rw [T] at hv
    split at hv <;> simp at hv
    all_goals obtain ⟨rfl, _⟩ := hv; simp at hp
  · intro n st tv hv _
    rw [T] at hv
    cases hp : ps[n]? with
    | none => rw [hp] at hv; simp at hv
    | some p =>
      obtain ⟨u, f, e1, e2, e3, e4⟩ := at_ n p hp
      rw [hp] at hv
      rw [e2]
      cases p with
      | val ag cs =>
        simp at hv
        obtain ⟨rfl, rfl⟩ := hv
        obtain ⟨vals, r1, r2⟩ := e4
        have : φ0 (.t n) = f := by funext x; simp only [φ0, hp, isVal, if_true]; rw [e3]
        rw [this]
        exact ⟨vals, r1.weak monoS monoB, r2⟩
      | box cs =>
        simp at hv
        obtain ⟨rfl, rfl⟩ := hv
        obtain ⟨b, vals, ψ, r1, r2, r3, r4, r5⟩ := e4
        subst r1
        have hb : argAddr us n = b := by simp [argAddr, e1]
        refine ⟨by rw [Rt.res, B, hp]; rfl, .inl rfl, b, 0, rfl, ?_, hb.symm, rfl⟩
        simp only [Rt.res, φ0, hp, isBox, if_true]
        rw [hb, e3, r5]; simp
      | vw cs =>
        simp at hv
        obtain ⟨rfl, rfl⟩ := hv
        obtain ⟨_, b, o, vals, r1, r2, r3, r4⟩ := e4
        exact ⟨b, o, vals, r1, monoB b r2, r3, r4.weak monoS monoB⟩
      | fn g caps =>
        simp at hv
        obtain ⟨rfl, rfl⟩ := hv
        obtain ⟨_, us', r1, r2, r3⟩ := e4
        refine ⟨us', r1, r2, fun j j1 j2 => ?_⟩
        obtain ⟨b, o, vals, g1, g2, g3, g4⟩ := r3 j j1 j2
        exact ⟨b, o, vals, g1, monoB b g2, g3, g4.weak monoB monoB⟩
  · intro n cs hv
    rw [B] at hv
    split at hv <;> simp at hv
    rename_i cs' hp
    subst hv
    obtain ⟨u, f, e1, e2, e3, e4⟩ := at_ n _ hp
    obtain ⟨b, vals, ψ, r1, r2, r3, r4, r5⟩ := e4
    subst r1
    have hb : argAddr us n = b := by simp [argAddr, e1]
    refine ⟨vals, ψ, by rw [hb]; exact r2, by rw [hb]; exact r3, r4.weak monoS monoB, fun x => ?_⟩
    simp only [φ0, hp, isBox, if_true]
    rw [e3, hb]; exact r5 x
  · intro n b hn
    simp only at hn
    split at hn <;> simp at hn
    rename_i hm
    obtain ⟨_, cs, hp⟩ := (mem_boxesOf ps 0 n).1 hm
    rw [Nat.sub_zero] at hp
    exact ⟨by rw [B, hp]; rfl, hn⟩
end
end Go.Fw
