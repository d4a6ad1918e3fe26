/- The framework, part Z: functions: what is given, what comes back, and tables of functions. The framework, part Za: what a function gives back, and tables of functions. Conditions: none. -/
import Derived.Test.YtjldolmokfnkoaaGreatDoorFwY
import Derived.Tactics
namespace Go.Fw
open Go

/-- A result: a slot, or what a slot's box holds. -/
inductive RS where
  | t (n : Nat)
  | c (n size : Nat) (g : Bool)

structure Fi where
  body : Ir
  ress : List RS

def entryT : Nat → List PA → List (Nat × Val)
  | _, [] => []
  | i, .val a cs :: ps => (i, .t [] (.pl a cs)) :: entryT (i + 1) ps
  | i, .box _ :: ps => (i, .t [] (.ptr (.b i) [] 0)) :: entryT (i + 1) ps
  | i, .io c :: ps => (i, .t [] (.pl false [c])) :: entryT (i + 1) ps
  | i, .vw cs :: ps => (i, .t [] (.view cs)) :: entryT (i + 1) ps
  | i, .fn g caps :: ps => (i, .t [] (.fn g caps)) :: entryT (i + 1) ps
def entryB : Nat → List PA → List (Nat × Val)
  | _, [] => []
  | i, .box cs :: ps => (i, .b cs) :: entryB (i + 1) ps
  | i, _ :: ps => entryB (i + 1) ps
def entry (ps : List PA) : ASt := { ts := entryT 0 ps, bs := entryB 0 ps, vs := [] }

def liveB (v : Res → Val) (st : Stamps) : Bool := st.all fun p => ver v p.1 == p.2
/-- A result: the resource that it comes from, its cells. -/
def outOf (v : Res → Val) : RS → Option (Res × Bool × List AC)
  | .c n size g => (match v (.t n) with
    | .t [] (.ptr (.b k) [] 0) => (match v (.b k) with
      | .b cs => if clnL cs && decide (cs.length = size) then some (.b k, g, cs) else none
      | _ => none)
    | _ => none)
  | .t n => match v (.t n) with
  | .t st (.pl a cs) => if (liveB v st && cs.all AC.flat) || (st.isEmpty && clnL cs) then some (.t n, a, cs) else none
  | .t [] (.ptr (.b k) [] 0) => match v (.b k) with
    | .b cs => if clnL cs then some (.b k, false, [.ref .own cs]) else none
    | _ => none
  | _ => none
def outsOf (v : Res → Val) : List RS → Option (List (Res × Bool × List AC))
  | [] => some []
  | n :: ns => ob (outOf v n) fun x => ob (outsOf v ns) fun xs => some (x :: xs)
def extsOf (v : Res → Val) : Nat → List PA → Option (List (List AC))
  | _, [] => some []
  | i, .box _ :: ps => (match v (.b i) with
    | .b cs => if clnL cs then ob (extsOf v (i + 1) ps) fun es => some (cs :: es) else none
    | _ => none)
  | i, .io _ :: ps => (match v (.t i) with
    | .t [] (.pl false [c]) => if clnL [c] then ob (extsOf v (i + 1) ps) fun es => some ([c] :: es) else none
    | _ => none)
  | i, _ :: ps => extsOf v (i + 1) ps
def boxesOf : Nat → List PA → List Nat
  | _, [] => []
  | i, .box _ :: ps => i :: boxesOf (i + 1) ps
  | i, _ :: ps => boxesOf (i + 1) ps

/-- The slots and boxes whose content comes back. -/
def iosOf : Nat → List PA → List Nat
  | _, [] => []
  | i, .io _ :: ps => i :: iosOf (i + 1) ps
  | i, _ :: ps => iosOf (i + 1) ps
def backsOf : Nat → List PA → List Res
  | _, [] => []
  | i, .box _ :: ps => .b i :: backsOf (i + 1) ps
  | i, .io _ :: ps => .t i :: backsOf (i + 1) ps
  | i, _ :: ps => backsOf (i + 1) ps

def outTV : List (Bool × List AC) → TV
  | [(a, cs)] => .pl a cs
  | l => .tup l

def finish (σ : ASt) (ress : List RS) (ps : List PA) : Option AOut :=
  ob (outsOf σ.val ress) fun rs => ob (extsOf σ.val 0 ps) fun es =>
    if (rs.map (·.1) ++ backsOf 0 ps).Nodup then some { tv := outTV (rs.map (·.2)), exts := es } else none

def runF (Γ : Gam) (n : Nat) (fi : Fi) (ps : List PA) : Option AOut :=
  if pinsIn (boxesOf 0 ps) (iosOf 0 ps) fi.body then
    match ev Γ n fi.body (entry ps) with
    | some (.norm, σ) => finish σ fi.ress ps
    | some (.ret, σ) => finish σ fi.ress ps
    | _ => none
  else none

def isRes (P : Program) : ResultVar → RS → Bool
  | .tmp t, .t n => t == n
  | .cell a t, .c n size g => a == n && tySize P t == some size && isAggB P t == some g && (g || size == 1)
  | _, _ => false
def ressOk (P : Program) : List ResultVar → List RS → Bool
  | [], [] => true
  | r :: rs, n :: ns => isRes P r n && ressOk P rs ns
  | _, _ => false
def fnOk (P : Program) (f : FuncId) (fi : Fi) : Bool :=
  match P.funcs[f]? with
  | some fn => (match fn.body with | some c => matchC P fn.ntmps fi.body c | none => false) && ressOk P fn.results.toList fi.ress
  | none => false

section
variable {P : Program} {w : World}

/-- The footprints of the arguments, one by one. -/
theorem ArgsRel.feet {Xs Xb : Nat → Prop} {ps : List PA} {us : List Value} {φ : Foot} (h : ArgsRel w Xs Xb ps us φ) :
    us.length = ps.length ∧ ∃ fs : List Foot, fs.length = ps.length ∧ (∀ x, φ x = tot fs x) ∧ ∀ (i : Nat) (p : PA) (u : Value) (f : Foot), ps[i]? = some p → us[i]? = some u → fs[i]? = some f → ArgOk w Xs Xb u f p := by
  induction h with
  | nil => exact ⟨rfl, [], rfl, fun _ => rfl, fun i p u f h => by simp at h⟩
  | @cons p ps u us f g h t ih =>
    obtain ⟨h1, fs, h2, h3, h4⟩ := ih
    refine ⟨by simp [h1], f :: fs, by simp [h2], fun x => by simp [tot, h3], fun i p' u' f' e1 e2 e3 => ?_⟩
    cases i with
    | zero => simp at e1 e2 e3; subst e1 e2 e3; exact h
    | succ i => exact h4 i p' u' f' (by simpa using e1) (by simpa using e2) (by simpa using e3)

theorem tot_at : ∀ {fs : List Foot} {i : Nat} {f : Foot}, fs[i]? = some f → ∀ x, f x ≤ tot fs x
  | [], i, f, h, x => by simp at h
  | g :: fs, i, f, h, x => by
    cases i with
    | zero => simp at h; subst h; simp only [tot]; omega
    | succ i => have := tot_at (fs := fs) (by simpa using h) x; simp only [tot]; omega
theorem tot_two : ∀ {fs : List Foot} {i j : Nat} {f g : Foot}, i < j → fs[i]? = some f → fs[j]? = some g → ∀ x, f x + g x ≤ tot fs x
  | [], i, j, f, g, _, h, _, x => by simp at h
  | k :: fs, i, j, f, g, hij, h1, h2, x => by
    cases j with
    | zero => omega
    | succ j =>
      cases i with
      | zero =>
        simp at h1
        subst h1
        have := tot_at (fs := fs) (by simpa using h2) x
        simp only [tot]; omega
      | succ i =>
        have := tot_two (fs := fs) (i := i) (j := j) (by omega) (by simpa using h1) (by simpa using h2) x
        simp only [tot]; omega

theorem look_entryT : ∀ (ps : List PA) (k n : Nat), look (entryT k ps) n = if n < k then .nope else match ps[n - k]? with
    | none => .nope
    | some (.val a cs) => .t [] (.pl a cs)
    | some (.box _) => .t [] (.ptr (.b n) [] 0)
    | some (.vw cs) => .t [] (.view cs)
    | some (.fn g caps) => .t [] (.fn g caps)
    | some (.io c) => .t [] (.pl false [c])
  | [], k, n => by simp [entryT, look]
  | p :: ps, k, n => by
    have ih := look_entryT ps (k + 1) n
    have key : ∀ e : Val, look ((k, e) :: entryT (k + 1) ps) n = if k = n then e else look (entryT (k + 1) ps) n := fun e => rfl
    by_cases e : k = n
    · subst e
      cases p <;> simp [entryT, look]
    · have hk : look (entryT k (p :: ps)) n = look (entryT (k + 1) ps) n := by cases p <;> simp [entryT, look, e]
      rw [hk, ih]
      by_cases h1 : n < k
      · rw [if_pos h1, if_pos (by omega)]
      · rw [if_neg h1, if_neg (by omega)]
        rw [show n - k = (n - (k + 1)) + 1 by omega]
        rfl
theorem look_entryB : ∀ (ps : List PA) (k n : Nat), look (entryB k ps) n = if n < k then .nope else match ps[n - k]? with
    | some (.box cs) => .b cs
    | _ => .nope
  | [], k, n => by simp [entryB, look]
  | p :: ps, k, n => by
    have ih := look_entryB ps (k + 1) n
    by_cases e : k = n
    · subst e
      cases p <;> simp [entryB, look, ih]
    · have hk : look (entryB k (p :: ps)) n = look (entryB (k + 1) ps) n := by cases p <;> simp [entryB, look, e]
      rw [hk, ih]
      by_cases h1 : n < k
      · rw [if_pos h1, if_pos (by omega)]
      · rw [if_neg h1, if_neg (by omega)]
        rw [show n - k = (n - (k + 1)) + 1 by omega]
        rfl

theorem mem_boxesOf : ∀ (ps : List PA) (k n : Nat), n ∈ boxesOf k ps ↔ k ≤ n ∧ ∃ cs, ps[n - k]? = some (.box cs)
  | [], k, n => by simp [boxesOf]
  | p :: ps, k, n => by
    have ih := mem_boxesOf ps (k + 1) n
    by_cases e : k = n
    · subst e
      cases p with
      | box cs => simp [boxesOf]
      | _ => simp [boxesOf, ih]; omega
    · have h1 : n ∈ boxesOf k (p :: ps) ↔ n ∈ boxesOf (k + 1) ps := by
        cases p with
        | box cs => simp [boxesOf, Ne.symm e]
        | _ => simp [boxesOf]
      rw [h1, ih]
      constructor
      · rintro ⟨h2, cs, h3⟩
        refine ⟨by omega, cs, ?_⟩
        rw [show n - k = (n - (k + 1)) + 1 by omega]
        simpa using h3
      · rintro ⟨h2, cs, h3⟩
        refine ⟨by omega, cs, ?_⟩
        rw [show n - k = (n - (k + 1)) + 1 by omega] at h3
        simpa using h3

theorem mem_iosOf : ∀ (ps : List PA) (k n : Nat), n ∈ iosOf k ps ↔ k ≤ n ∧ ∃ c, ps[n - k]? = some (.io c)
  | [], k, n => by simp [iosOf]
  | p :: ps, k, n => by
    have ih := mem_iosOf ps (k + 1) n
    by_cases e : k = n
    · subst e
      cases p with
      | io c => simp [iosOf]
      | _ => simp [iosOf, ih]; omega
    · have h1 : n ∈ iosOf k (p :: ps) ↔ n ∈ iosOf (k + 1) ps := by
        cases p with
        | io c => simp [iosOf, Ne.symm e]
        | _ => simp [iosOf]
      rw [h1, ih]
      constructor
      · rintro ⟨h2, c, h3⟩
        refine ⟨by omega, c, ?_⟩
        rw [show n - k = (n - (k + 1)) + 1 by omega]
        simpa using h3
      · rintro ⟨h2, c, h3⟩
        refine ⟨by omega, c, ?_⟩
        rw [show n - k = (n - (k + 1)) + 1 by omega] at h3
        simpa using h3

def isVal : Option PA → Bool
  | some (.val _ _) => true
  | some (.io _) => true
  | _ => false
def isBox : Option PA → Bool
  | some (.box _) => true
  | _ => false
theorem isVal_spec {p : Option PA} (h : isVal p = true) : ∀ cs, p ≠ some (.box cs) := by
  rintro cs rfl
  simp [isVal] at h
theorem isBox_spec {p : Option PA} (h : isBox p = true) : ∃ cs, p = some (.box cs) := by
  unfold isBox at h
  split at h
  · exact ⟨_, rfl⟩
  · simp at h

def argAddr (us : List Value) (i : Nat) : Nat := match us[i]? with | some (.pointer (some ad)) => ad.block | _ => 0

/-- How a call begins. -/
theorem entry_rel {C : Nat → Prop} {ps : List PA} {us : List Value} {φ : Foot} (h : CallIn w C ps us φ) {a : Act} (ha : ∀ i u, us[i]? = some u → tmv a i = u) :
    Rel { C := C, M := fun x => φ x ≠ 0, w0 := w, pin := fun n => if n ∈ boxesOf 0 ps then some (argAddr us n) else none, tpin := fun n => if n ∈ iosOf 0 ps then us[n]? else none } (entry ps).val a w := by
  obtain ⟨hlen, fs, hfl, hφ, harg⟩ := h.args.feet
  let E : Env := { C := C, M := fun x => φ x ≠ 0, w0 := w, pin := fun n => if n ∈ boxesOf 0 ps then some (argAddr us n) else none, tpin := fun n => if n ∈ iosOf 0 ps then us[n]? else none }
  let fF : Nat → Foot := fun i => match fs[i]? with | some f => f | none => fun _ => 0
  let φ0 : Res → Foot := fun r => match r with
    | .t i => fun x => if isVal ps[i]? = true then fF i x else 0
    | .b i => fun x => if isBox ps[i]? = true then fF i x else 0
    | .v _ => fun _ => 0
  have T : ∀ n, (entry ps).val (.t n) = match ps[n]? with
      | none => .nope
      | some (.val a cs) => .t [] (.pl a cs)
      | some (.box _) => .t [] (.ptr (.b n) [] 0)
      | some (.vw cs) => .t [] (.view cs)
      | some (.fn g caps) => .t [] (.fn g caps)
      | some (.io c) => .t [] (.pl false [c]) := fun n => by
    have := look_entryT ps 0 n
    simpa [entry, ASt.val] using this
  have B : ∀ n, (entry ps).val (.b n) = match ps[n]? with | some (.box cs) => .b cs | _ => .nope := fun n => by
    have := look_entryB ps 0 n
    simpa [entry, ASt.val] using this
  have fle : ∀ i x, fF i x ≤ φ x := fun i x => by
    simp only [fF, hφ]
    cases hi : fs[i]? with
    | none => simp
    | some f => exact tot_at hi x
  have f2 : ∀ i j x, i ≠ j → fF i x + fF j x ≤ φ x := by
    intro i j x hij
    simp only [fF, hφ]
    cases hi : fs[i]? with
    | none =>
      cases hj : fs[j]? with
      | none => simp
      | some g => simpa using tot_at hj x
    | some f =>
      cases hj : fs[j]? with
      | none => simpa using tot_at hi x
      | some g =>
        rcases Nat.lt_or_gt_of_ne hij with hlt | hgt
        · exact tot_two hlt hi hj x
        · have := tot_two hgt hj hi x; simp only; omega
  have idx : ∀ r x, φ0 r x ≠ 0 → ∃ i, (r = .t i ∨ r = .b i) ∧ fF i x ≠ 0 ∧ (((∀ cs, ps[i]? ≠ some (.box cs)) ∧ r = .t i) ∨ ∃ cs, ps[i]? = some (.box cs) ∧ r = .b i) := by
    intro r x hr
    cases r with
    | v q => exact absurd rfl hr
    | t i =>
      simp only [φ0] at hr
      split at hr
      · rename_i e; exact ⟨i, .inl rfl, hr, .inl ⟨isVal_spec e, rfl⟩⟩
      · exact absurd rfl hr
    | b i =>
      simp only [φ0] at hr
      split at hr
      · rename_i e; obtain ⟨cs, e⟩ := isBox_spec e; exact ⟨i, .inr rfl, hr, .inr ⟨_, e, rfl⟩⟩
      · exact absurd rfl hr
  have le0 : ∀ r x, φ0 r x ≤ φ x := by
    intro r x
    cases r with
    | v q => exact Nat.zero_le _
    | t i =>
      simp only [φ0]
      split
      · exact fle i x
      · exact Nat.zero_le _
    | b i =>
      simp only [φ0]
      split
      · exact fle i x
      · exact Nat.zero_le _
  have monoS : ∀ x, AXs w C φ x → XS E w φ0 x := fun x hx => ⟨hx.1, fun r => by have := le0 r x; have := hx.2.1; omega, hx.2.2⟩
  have monoB : ∀ x, AXb w φ x → XB w φ0 [] x := fun x hx => ⟨hx.1, fun r hr => absurd (by have := le0 r x; have := hx.2; omega) hr⟩
  have at_ : ∀ i p, ps[i]? = some p → ∃ u f, us[i]? = some u ∧ tmv a i = u ∧ fF i = f ∧ ArgOk w (AXs w C φ) (AXb w φ) u f p := by
    intro i p hp
    have hi : i < ps.length := (List.getElem?_eq_some_iff.1 hp).1
    have hu : us[i]? = some (us[i]'(by omega)) := List.getElem?_eq_getElem _
    have hf : fs[i]? = some (fs[i]'(by omega)) := List.getElem?_eq_getElem _
    refine ⟨_, _, hu, ha i _ hu, ?_, harg i p _ _ hp hu hf⟩
    simp only [fF, hf]
  refine ⟨⟨argAddr us, φ0, fun r x => Nat.le_trans (le0 r x) (h.le1 x), ?_, ?_, ?_, ?_, ?_, ?_, rfl, rfl, rfl, Nat.le_refl _, fun _ _ _ => rfl, ?_⟩, fun n u hn => by
    dsimp only at hn
    split at hn
    · exact ha n u hn
    · simp at hn⟩
  · intro r s x h1 h2
    obtain ⟨i, _, k2, k3⟩ := idx r x h1
    obtain ⟨j, _, g2, g3⟩ := idx s x h2
    have hij : i = j := Classical.byContradiction fun e => by have := f2 i j x e; have := h.le1 x; omega
    subst hij
    rcases k3 with ⟨e1, rfl⟩ | ⟨_, e1, rfl⟩ <;> rcases g3 with ⟨e2, rfl⟩ | ⟨_, e2, rfl⟩
    · rfl
    · exact absurd e2 (e1 _)
    · exact absurd e1 (e2 _)
    · rfl
  · intro r x hr
    have hx : φ x ≠ 0 := by have := le0 r x; omega
    exact ⟨(h.dom x hx).1, (h.dom x hx).2, .inr hx⟩
  · intro n st tv hv p hp
    rw [T] at hv
    split at hv <;> simp at hv
    all_goals obtain ⟨rfl, _⟩ := hv; simp at hp
  · intro n st tv hv _ p hp
    rw [T] at hv
    split at hv <;> simp at hv
    all_goals obtain ⟨rfl, _⟩ := hv; simp at hp
  · intro n st tv hv _
    rw [T] at hv
    cases hp : ps[n]? with
    | none => rw [hp] at hv; simp at hv
    | some p =>
      obtain ⟨u, f, e1, e2, e3, e4⟩ := at_ n p hp
      rw [hp] at hv
      rw [e2]
      cases p with
      | val ag cs =>
        simp at hv
        obtain ⟨rfl, rfl⟩ := hv
        obtain ⟨vals, r1, r2⟩ := e4
        have : φ0 (.t n) = f := by funext x; simp only [φ0, hp, isVal, if_true]; rw [e3]
        rw [this]
        exact ⟨vals, r1.weak monoS monoB, r2⟩
      | io c =>
        simp at hv
        obtain ⟨rfl, rfl⟩ := hv
        obtain ⟨vals, r1, r2⟩ := e4
        have : φ0 (.t n) = f := by funext x; simp only [φ0, hp, isVal, if_true]; rw [e3]
        rw [this]
        exact ⟨vals, r1.weak monoS monoB, r2⟩
      | box cs =>
        simp at hv
        obtain ⟨rfl, rfl⟩ := hv
        obtain ⟨b, vals, ψ, r1, r2, r3, r4, r5⟩ := e4
        subst r1
        have hb : argAddr us n = b := by simp [argAddr, e1]
        refine ⟨by rw [Rt.res, B, hp]; rfl, .inl rfl, b, 0, rfl, ?_, hb.symm, rfl⟩
        simp only [Rt.res, φ0, hp, isBox, if_true]
        rw [hb, e3, r5]; simp
      | vw cs =>
        simp at hv
        obtain ⟨rfl, rfl⟩ := hv
        obtain ⟨_, b, o, vals, r1, r2, r3, r4⟩ := e4
        exact ⟨b, o, vals, r1, monoB b r2, r3, r4.weak monoS monoB⟩
      | fn g caps =>
        simp at hv
        obtain ⟨rfl, rfl⟩ := hv
        obtain ⟨_, us', r1, r2, r3⟩ := e4
        refine ⟨us', r1, r2, fun j j1 j2 => ?_⟩
        obtain ⟨b, o, vals, g1, g2, g3, g4⟩ := r3 j j1 j2
        exact ⟨b, o, vals, g1, monoB b g2, g3, g4.weak monoB monoB⟩
  · intro n cs hv
    rw [B] at hv
    split at hv <;> simp at hv
    rename_i cs' hp
    subst hv
    obtain ⟨u, f, e1, e2, e3, e4⟩ := at_ n _ hp
    obtain ⟨b, vals, ψ, r1, r2, r3, r4, r5⟩ := e4
    subst r1
    have hb : argAddr us n = b := by simp [argAddr, e1]
    refine ⟨vals, ψ, by rw [hb]; exact r2, by rw [hb]; exact r3, r4.weak monoS monoB, fun x => ?_⟩
    simp only [φ0, hp, isBox, if_true]
    rw [e3, hb]; exact r5 x
  · intro n b hn
    simp only at hn
    split at hn <;> simp at hn
    rename_i hm
    obtain ⟨_, cs, hp⟩ := (mem_boxesOf ps 0 n).1 hm
    rw [Nat.sub_zero] at hp
    exact ⟨by rw [B, hp]; rfl, hn⟩
end
end Go.Fw
namespace Go.Fw
open Go

def oneOr (us : List Value) : Value := match us with | [u] => u | _ => .tuple us.toArray
def rdRes (tmps : Array Value) (r : ResultVar) : Sem Value :=
  match r with
  | .tmp t => pure (tmps.getD t undef)
  | .cell a t => do loadVar t (← asAddr (tmps.getD a undef))
theorem results_eq (fn : Func) (tmps : Array Value) : results fn tmps = (do let vs ← fn.results.mapM (rdRes tmps); pure (if h : vs.size = 1 then vs[0] else .tuple vs)) := rfl

theorem results_run {P : Program} {fn : Func} {tmps : Array Value} {w : World} {us : List Value} (hlen : fn.results.toList.length = us.length) (hl : us.length ≤ 4)
    (h : ∀ (i : Nat) (r : ResultVar) (u : Value), fn.results.toList[i]? = some r → us[i]? = some u → (rdRes tmps r).run P w = .ok u w) : (results fn tmps).run P w = .ok (oneOr us) w := by
  rw [results_eq]
  generalize hr : fn.results.toList = rs at hlen h
  match rs, us, hlen, hl with
  | [], [], _, _ => have e : fn.results = #[] := Array.ext' hr; simp [e, oneOr]
  | [a], [u], _, _ =>
    have e : fn.results = #[a] := Array.ext' hr
    have h0 := h 0 a u rfl rfl
    simp [e, oneOr, h0]
  | [a, b], [u, x], _, _ =>
    have e : fn.results = #[a, b] := Array.ext' hr
    have h0 := h 0 a u rfl rfl
    have h1 := h 1 b x rfl rfl
    simp [e, oneOr, h0, h1]
  | [a, b, c], [u, x, y], _, _ =>
    have e : fn.results = #[a, b, c] := Array.ext' hr
    have h0 := h 0 a u rfl rfl
    have h1 := h 1 b x rfl rfl
    have h2 := h 2 c y rfl rfl
    simp [e, oneOr, h0, h1, h2]
  | [a, b, c, d], [u, x, y, z], _, _ =>
    have e : fn.results = #[a, b, c, d] := Array.ext' hr
    have h0 := h 0 a u rfl rfl
    have h1 := h 1 b x rfl rfl
    have h2 := h 2 c y rfl rfl
    have h3 := h 3 d z rfl rfl
    simp [e, oneOr, h0, h1, h2, h3]
  | _ :: _ :: _ :: _ :: _ :: _, us, hlen, hl => simp at hlen; omega

section
variable {P : Program} {E : Env} {v : Res → Val} {tm : Nat → Value} {w : World} {β : Nat → Nat} {φ : Res → Foot}

theorem flat_noOwn : ∀ {cs : List AC}, cs.all AC.flat = true → noOwnL cs = true
  | [], _ => rfl
  | c :: cs, h => by
    simp only [List.all_cons, Bool.and_eq_true] at h
    simp only [noOwnL, Bool.and_eq_true]
    refine ⟨?_, flat_noOwn h.2⟩
    cases c <;> simp [AC.flat] at h <;> rfl

theorem outOf_sound {a0 : Act} (h : RelW E v (tmv a0) w β φ) {rv : ResultVar} {n : RS} (hn : isRes P rv n = true) {r : Res} {a : Bool} {cs : List AC} (ho : outOf v n = some (r, a, cs)) :
    ∃ u f, (rdRes a0.tmps rv).run P w = .ok u w ∧ RepPl w (XS E w φ) (fun _ => False) a cs u f ∧ ∀ x, f x ≤ φ r x := by
  cases n with
  | t n =>
    cases rv <;> simp [isRes] at hn
    subst hn
    rename_i n
    refine ⟨tmv a0 n, ?_⟩
    suffices H : ∃ f, RepPl w (XS E w φ) (fun _ => False) a cs (tmv a0 n) f ∧ ∀ x, f x ≤ φ r x by
      obtain ⟨f, h1⟩ := H
      exact ⟨f, rfl, h1⟩
    simp only [outOf] at ho
    split at ho <;> try (simp at ho; done)
    · rename_i st ag cs0 hv
      split at ho <;> simp only [Option.some.injEq, Prod.mk.injEq, reduceCtorEq] at ho
      rename_i hc
      obtain ⟨rfl, rfl, rfl⟩ := ho
      simp only [Bool.or_eq_true, Bool.and_eq_true, List.isEmpty_iff] at hc
      rcases hc with ⟨h1, h2⟩ | ⟨rfl, h2⟩
      · have hl : Live v st := fun p hp => by simpa using List.all_eq_true.1 h1 p hp
        obtain ⟨vals, r1, r2⟩ := h.ent n _ _ hv hl
        exact ⟨fun _ => 0, ⟨vals, flat_rep r1 h2 _ _, r2⟩, fun _ => Nat.zero_le _⟩
      · obtain ⟨vals, r1, r2⟩ := h.ent n _ _ hv (by intro p hp; simp at hp)
        exact ⟨φ (.t n), ⟨vals, r1.cln _ h2, r2⟩, fun _ => Nat.le_refl _⟩
    · rename_i k hv
      split at ho <;> try (simp at ho; done)
      rename_i cs0 hb
      split at ho <;> simp only [Option.some.injEq, Prod.mk.injEq, reduceCtorEq] at ho
      rename_i hc
      obtain ⟨rfl, rfl, rfl⟩ := ho
      obtain ⟨vals, ψ, k1, k2, k3, k4⟩ := h.box k _ hb
      obtain ⟨_, _, b, o, e, g1, g2, g3⟩ := h.ent n _ _ hv (by intro p hp; simp at hp)
      subst g2
      have ho : o = 0 := by omega
      subst ho
      refine ⟨_, ⟨[tmv a0 n], ?_, by simp⟩, fun x => Nat.le_of_eq (k4 x).symm⟩
      rw [e]
      exact (RepL.refOwn (h.dom (.b k) (β k) (by rw [k4]; simp)).1 (by rw [← k3.length]; exact k2) k1 (k3.cln _ hc) .nil).cast (fun x => by simp)
  | c n size g =>
    cases rv <;> simp [isRes] at hn
    rename_i ad t
    obtain ⟨⟨⟨rfl, ht⟩, hg⟩, h1⟩ := hn
    simp only [outOf] at ho
    split at ho <;> try (simp at ho; done)
    rename_i k hv
    split at ho <;> try (simp at ho; done)
    rename_i cs0 hb
    split at ho <;> simp only [Option.some.injEq, Prod.mk.injEq, reduceCtorEq] at ho
    rename_i hc
    obtain ⟨rfl, rfl, rfl⟩ := ho
    simp only [Bool.and_eq_true, decide_eq_true_eq] at hc
    obtain ⟨vals, ψ, k1, k2, k3, k4⟩ := h.box k _ hb
    obtain ⟨_, _, b, o, e, g1, g2, g3⟩ := h.ent ad _ _ hv (by intro p hp; simp at hp)
    subst g2
    have ho : o = 0 := by omega
    subst ho
    obtain ⟨u, hrun, hu⟩ := loadAt_run (P := P) ht hg (fun e => by rcases h1 with h1 | h1; rw [e] at h1; simp at h1; exact h1) k1 (by rw [k3.length]; exact hc.2)
    refine ⟨u, ψ, ?_, ⟨vals, k3.cln _ hc.1, hu⟩, fun x => by have := k4 x; omega⟩
    have e' : a0.tmps.getD ad undef = .pointer (some ⟨β k, 0, none⟩) := e
    simp only [rdRes, e', asAddr]
    simpa [Instr.loadAt, Instr.sureAddr] using hrun

theorem outsOf_sound {a0 : Act} (h : RelW E v (tmv a0) w β φ) : ∀ {ns : List RS} {rvs : List ResultVar}, ressOk P rvs ns = true → ∀ {rs : List (Res × Bool × List AC)}, outsOf v ns = some rs →
    ∃ us f, rvs.length = us.length ∧ us.length = ns.length ∧ (∀ (i : Nat) (r : ResultVar) (u : Value), rvs[i]? = some r → us[i]? = some u → (rdRes a0.tmps r).run P w = .ok u w) ∧
      RepTup w (XS E w φ) (fun _ => False) (rs.map (·.2)) us f ∧ ∀ x, f x ≤ tot (rs.map fun r => φ r.1) x
  | [], [], _, rs, ho => by
    simp only [outsOf, Option.some.injEq] at ho
    subst ho
    exact ⟨[], _, rfl, rfl, fun i r u h => by simp at h, .nil, fun _ => Nat.zero_le _⟩
  | [], _ :: _, hk, _, _ => by simp [ressOk] at hk
  | _ :: _, [], hk, _, _ => by simp [ressOk] at hk
  | n :: ns, rv :: rvs, hk, rs, ho => by
    simp only [ressOk, Bool.and_eq_true] at hk
    obtain ⟨x, h1, h2⟩ := ob_some ho
    obtain ⟨xs, h3, h4⟩ := ob_some h2
    simp only [Option.some.injEq] at h4
    subst h4
    obtain ⟨r, a, cs⟩ := x
    obtain ⟨u, f, k0, k1, k2⟩ := outOf_sound h hk.1 h1
    obtain ⟨us, g, g0, g0', g1, g2, g3⟩ := outsOf_sound h hk.2 h3
    refine ⟨u :: us, _, by simp [g0], by simp [g0'], fun i r' u' e1 e2 => ?_, .cons k1 g2, fun x => by have := k2 x; have := g3 x; simp only [List.map_cons, tot]; omega⟩
    cases i with
    | zero => simp at e1 e2; subst e1 e2; exact k0
    | succ i => exact g1 i r' u' (by simpa using e1) (by simpa using e2)

theorem tot_append (A B : List Foot) (x : Nat) : tot (A ++ B) x = tot A x + tot B x := by
  induction A with
  | nil => simp [tot]
  | cons f A ih => simp [tot, ih]; omega

theorem tot_nodup (h : RelW E v tm w β φ) : ∀ {L : List Res}, L.Nodup → ∀ x, tot (L.map φ) x ≤ 1 ∧ (tot (L.map φ) x ≠ 0 → ∃ r ∈ L, φ r x ≠ 0)
  | [], _, x => by simp [tot]
  | r :: L, hn, x => by
    simp only [List.nodup_cons] at hn
    obtain ⟨i1, i2⟩ := tot_nodup h hn.2 x
    simp only [List.map_cons, tot]
    have hle := h.le1 r x
    by_cases h0 : tot (L.map φ) x = 0
    · refine ⟨by omega, fun h1 => ⟨r, by simp, by omega⟩⟩
    · obtain ⟨s, hs, hs2⟩ := i2 h0
      have : φ r x = 0 := Classical.byContradiction fun e => hn.1 (h.uniq r s x e hs2 ▸ hs)
      refine ⟨by omega, fun _ => ⟨s, by simp [hs], hs2⟩⟩

theorem extsOf_sound (h : RelW E v tm w β φ) : ∀ {ps : List PA} {k : Nat} {us : List Value} {es : List (List AC)}, us.length = ps.length →
    (∀ (i : Nat) (cs : List AC), ps[i]? = some (PA.box cs) → us[i]? = some (Value.pointer (some ⟨β (k + i), 0, none⟩))) → (∀ (i : Nat) (c : AC), ps[i]? = some (PA.io c) → us[i]? = some (tm (k + i))) → extsOf v k ps = some es →
    BoxRel w (XS E w φ) ps us es ((backsOf k ps).map φ)
  | [], k, us, es, hl, hb, hi, he => by
    simp only [extsOf, Option.some.injEq] at he
    subst he
    have : us = [] := List.eq_nil_of_length_eq_zero (by simpa using hl)
    subst this
    exact .nil
  | p :: ps, k, [], es, hl, hb, hi, he => by simp at hl
  | p :: ps, k, u :: us, es, hl, hb, hi, he => by
    have hl' : us.length = ps.length := by simpa using hl
    have hb' : ∀ (i : Nat) (cs : List AC), ps[i]? = some (PA.box cs) → us[i]? = some (Value.pointer (some ⟨β (k + 1 + i), 0, none⟩)) := fun i cs hi => by
      have := hb (i + 1) cs (by simpa using hi)
      rw [show k + 1 + i = k + (i + 1) by omega]
      simpa using this
    have hi' : ∀ (i : Nat) (c : AC), ps[i]? = some (PA.io c) → us[i]? = some (tm (k + 1 + i)) := fun i c h0 => by
      have := hi (i + 1) c (by simpa using h0)
      rw [show k + 1 + i = k + (i + 1) by omega]
      simpa using this
    cases p with
    | io c =>
      simp only [extsOf] at he
      split at he <;> try (simp at he; done)
      rename_i c0 hv
      split at he <;> try (simp at he; done)
      rename_i hc
      obtain ⟨es', h1, h2⟩ := ob_some he
      simp only [Option.some.injEq] at h2
      subst h2
      have hu := hi 0 c (by simp)
      simp at hu
      subst hu
      obtain ⟨vals, r1, r2⟩ := h.ent k _ _ hv (by intro p hp; simp at hp)
      simp only [Bool.false_eq_true, if_false] at r2
      subst r2
      exact .io (r1.cln _ hc) (extsOf_sound h hl' hb' hi' h1)
    | box cs =>
      simp only [extsOf] at he
      split at he <;> try (simp at he; done)
      rename_i cs0 hv
      split at he <;> try (simp at he; done)
      rename_i hc
      obtain ⟨es', h1, h2⟩ := ob_some he
      simp only [Option.some.injEq] at h2
      subst h2
      have hu := hb 0 cs (by simp)
      simp at hu
      subst hu
      obtain ⟨vals, ψ, k1, k2, k3, k4⟩ := h.box k _ hv
      exact .box k1 k2 (k3.cln _ hc) k4 (extsOf_sound h hl' hb' hi' h1)
    | val a cs => exact .other (by simp) (extsOf_sound h hl' hb' hi' he)
    | vw cs => exact .other (by simp) (extsOf_sound h hl' hb' hi' he)
    | fn g caps => exact .other (by simp) (extsOf_sound h hl' hb' hi' he)

theorem BoxRel.weak {Xs Xs' : Nat → Prop} {ps : List PA} {us : List Value} {es : List (List AC)} {gs : List Foot} (h : BoxRel w Xs ps us es gs) (hs : ∀ b, Xs b → Xs' b) : BoxRel w Xs' ps us es gs := by
  induction h with
  | nil => exact .nil
  | other hp _ ih => exact .other hp ih
  | io hr _ ih => exact .io (hr.weak hs (fun _ h => h)) ih
  | box hv ha hr hg _ ih => exact .box hv ha (hr.weak hs (fun _ h => h)) hg ih
end

theorem ArgsRel.boxes {w : World} {Xs Xb : Nat → Prop} {ps : List PA} {us : List Value} {φ : Foot} (h : ArgsRel w Xs Xb ps us φ) : ∀ (i : Nat) (cs : List AC), ps[i]? = some (PA.box cs) → ∃ b, us[i]? = some (Value.pointer (some ⟨b, 0, none⟩)) := by
  induction h with
  | nil => intro i cs h; simp at h
  | @cons p ps u us f g h t ih =>
    intro i cs hi
    cases i with
    | zero =>
      simp at hi
      subst hi
      obtain ⟨b, vals, ψ, r1, _⟩ := h
      exact ⟨b, by simp [r1]⟩
    | succ i => simpa using ih i cs (by simpa using hi)

/-- A function does what its interpreter says. -/
theorem runF_sound {P : Program} {I : Kpt} {Γ : Gam} (hΓ0 : Sat P I Γ) (hfol : P.follows .mixedOrders = true) {f : FuncId} {fi : Fi} (hl : fi.ress.length ≤ 4) (hok : fnOk P f fi = true) (n : Nat) : SatF P I f (runF Γ n fi) := by
  intro ps out hout w C us φ hin hI
  unfold fnOk at hok
  split at hok <;> try (simp at hok; done)
  rename_i fn hfn
  simp only [Bool.and_eq_true] at hok
  obtain ⟨hb, hres⟩ := hok
  split at hb <;> try (simp at hb; done)
  rename_i c hbody
  unfold runF at hout
  split at hout <;> try (simp at hout; done)
  rename_i hpins
  let E : Env := { C := C, M := fun x => φ x ≠ 0, w0 := w, pin := fun n => if n ∈ boxesOf 0 ps then some (argAddr us n) else none, tpin := fun n => if n ∈ iosOf 0 ps then us[n]? else none }
  let a0 : Act := { tmps := us.toArray ++ Array.replicate (fn.ntmps - us.toArray.size) undef, defers := [] }
  have ha0 : ∀ i u, us[i]? = some u → tmv a0 i = u := fun i u hi => by
    obtain ⟨hlt, e⟩ := List.getElem?_eq_some_iff.1 hi
    simp only [tmv, a0, Array.getD_eq_getD_getElem?]
    rw [Array.getElem?_append_left (by simpa using hlt)]
    simp [hi]
  have hrel : Rel E (entry ps).val a0 w := entry_rel hin ha0
  have hΓ : SatE P E Γ := fun f ps out h w2 C2 us2 φ2 hin2 hs hx => hΓ0 f ps out h w2 C2 us2 φ2 hin2 (I.frame hI hs (fun x hx0 h0 => hx x hx0 (by simpa [E] using h0)))
  have hC : ∀ b, E.C b → b < E.w0.heap.size := fun b hb => hin.low b hb
  have hpl : ∀ n b, E.pin n = some b → n ∈ boxesOf 0 ps := fun n b hn => by
    simp only [E] at hn
    split at hn
    · assumption
    · simp at hn
  have htl : ∀ n u, E.tpin n = some u → n ∈ iosOf 0 ps := fun n u hn => by
    simp only [E] at hn
    split at hn
    · assumption
    · simp at hn
  have hN : fn.ntmps ≤ a0.tmps.size := by simp [a0]; omega
  -- the end
  have fin : ∀ σ, finish σ fi.ress ps = some out → ∀ a' w', Rel E σ.val a' w' → a'.defers = [] → a'.defers = [] ∧ ∃ u, (results fn a'.tmps).run P w' = .ok u w' ∧ CallOut w C ps us φ out u w' := by
    intro σ hf a' w' hR hd
    obtain ⟨⟨β, φ', h⟩, hpt⟩ := hR
    obtain ⟨rs, h1, hf1⟩ := ob_some hf
    obtain ⟨es, h2, hf2⟩ := ob_some hf1
    try dsimp only at hf2
    split at hf2 <;> simp only [Option.some.injEq, reduceCtorEq] at hf2
    rename_i hnd
    subst hf2
    obtain ⟨us', f0, l1, l2, l3, k1, k2⟩ := outsOf_sound h hres h1
    refine ⟨hd, _, results_run l1 (by rw [l2]; exact hl) l3, ?_⟩
    have haddr : ∀ (i : Nat) (cs : List AC), ps[i]? = some (PA.box cs) → us[i]? = some (Value.pointer (some ⟨β (0 + i), 0, none⟩)) := fun i cs hi => by
      obtain ⟨b, hu⟩ := hin.args.boxes i cs hi
      have hp : E.pin i = some (argAddr us i) := if_pos ((mem_boxesOf ps 0 i).2 ⟨Nat.zero_le _, cs, by simpa using hi⟩)
      have := (h.pin i _ hp).2
      rw [hu, Nat.zero_add, this]
      simp [argAddr, hu]
    have hlen := hin.args.feet.1
    have hios : ∀ (i : Nat) (c : AC), ps[i]? = some (PA.io c) → us[i]? = some (tmv a' (0 + i)) := fun i c hi => by
      have hlt : i < us.length := by rw [hlen]; exact (List.getElem?_eq_some_iff.1 hi).1
      have hp : E.tpin i = some us[i] := by
        simp only [E]
        rw [if_pos ((mem_iosOf ps 0 i).2 ⟨Nat.zero_le _, c, by simpa using hi⟩), List.getElem?_eq_getElem hlt]
      rw [Nat.zero_add, hpt i _ hp, List.getElem?_eq_getElem hlt]
    have g1 := extsOf_sound h hlen haddr hios h2
    have hsum : ∀ x, f0 x + tot ((backsOf 0 ps).map φ') x ≤ tot ((rs.map (·.1) ++ backsOf 0 ps).map φ') x := fun x => by
      rw [List.map_append, tot_append]
      have := k2 x
      simp only [List.map_map, Function.comp_def]
      omega
    have hAX : ∀ x, XS E w' φ' x → AXs w' C (fun x => f0 x + tot ((backsOf 0 ps).map φ') x) x := fun x hx => by
      refine ⟨hx.1, Classical.byContradiction fun e => ?_, hx.2.2⟩
      simp only at e
      obtain ⟨r, _, hr⟩ := (tot_nodup h hnd x).2 (by have := hsum x; omega)
      exact hr (hx.2.1 r)
    refine ⟨f0, _, fun x => Nat.le_trans (hsum x) (tot_nodup h hnd x).1, fun x hx => ?_, ?_, g1.weak hAX, h.os, h.tape, h.output, h.size, fun x hx hz => h.old x hx (by simpa [E] using hz)⟩
    · obtain ⟨r, _, hr⟩ := (tot_nodup h hnd x).2 (by have := hsum x; omega)
      exact h.dom r x hr
    · -- the result
      have k1' := k1.weak hAX (fun _ h => h)
      clear l1 l2 l3 k1
      generalize rs.map (·.2) = l at k1'
      cases k1' with
      | nil => exact ⟨[], rfl, .nil⟩
      | @cons ag cs u vs us'' f1 f2 hh t =>
        cases t with
        | nil =>
          have : (fun x => f1 x + (fun _ => 0 : Foot) x) = f1 := funext fun x => by simp
          simp only [outTV, OutOk, oneOr]
          obtain ⟨vals, r1, r2⟩ := hh
          exact ⟨vals, r1.cast (fun x => by simp), r2⟩
        | @cons ag2 cs2 u2 vs2 us2 f3 f4 hh2 t2 =>
          exact ⟨_, rfl, .cons hh (.cons hh2 t2)⟩
  refine calls_of_wp hfn hbody ?_
  have hQ : ∀ {e σ}, ev Γ n fi.body (entry ps) = some (e, σ) → finish σ fi.ress ps = some out → (e = .norm ∨ e = .ret) →
      c.wp P (bodyPost P fn (CallEnd C ps us φ out w)) a0 w := fun {e σ} hev hf he => by
    refine (ev_sound hΓ hC hfol hN hpl htl n).1 fi.body c hb hpins _ _ _ hev _ (fun a' w' hR hs hd => ?_) a0 w hrel rfl rfl
    rcases he with rfl | rfl
    · exact fin _ hf a' w' hR hd
    · exact fin _ hf a' w' hR hd
  split at hout
  · rename_i σ hev; exact hQ hev hout (.inl rfl)
  · rename_i σ hev; exact hQ hev hout (.inr rfl)
  · simp at hout

/-- Tables of functions, and calls in depth. -/
structure Tab where
  fi : FuncId → Option Fi
  ext : Gam

def callN (T : Tab) : Nat → Gam
  | 0 => fun _ _ => none
  | n + 1 => fun f ps => match T.fi f with
    | some fi => runF (callN T n) n fi ps
    | none => T.ext f ps

theorem callN_sat {P : Program} {I : Kpt} {T : Tab} (hfol : P.follows .mixedOrders = true) (hfi : ∀ f fi, T.fi f = some fi → fi.ress.length ≤ 4 ∧ fnOk P f fi = true) (hext : ∀ f, SatF P I f (T.ext f)) : ∀ n, Sat P I (callN T n)
  | 0 => fun f ps out h => by simp [callN] at h
  | n + 1 => fun f => by
    simp only [callN]
    cases hf : T.fi f with
    | none => exact hext f
    | some fi =>
      obtain ⟨h1, h2⟩ := hfi f fi hf
      exact runF_sound (callN_sat hfol hfi hext n) hfol h1 h2 n
end Go.Fw
