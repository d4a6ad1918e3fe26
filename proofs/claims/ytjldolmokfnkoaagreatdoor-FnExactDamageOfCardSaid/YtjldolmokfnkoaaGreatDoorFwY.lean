/- The framework, part Y: code, its interpreter, and that the interpreter is right. Conditions: none. -/
import Derived.Test.YtjldolmokfnkoaaGreatDoorFwX
namespace Go.Fw
open Go

/-- What is said beside the code: a slot's rows are held by all from now on; only these slots and boxes are looked at any more. -/
inductive Gh where
  | frz (n : Nat)
  | frzb (n : Nat)
  | frza (n : Nat)
  | keep (ts bs : List Nat)

inductive Ir where
  | skip
  | region (rs : List ROp)
  | seq (a b : Ir)
  | cond (c : Opr) (a b : Ir)
  | block (id : Nat) (a : Ir)
  | loop (a : Ir)
  | exit (id : Nat)
  | ret
  | gh (g : Gh) (k : Ir)

def zeroSt (st : Stamps) : Stamps := st.map fun p => (p.1, 0)
/-- Whether a value may stay: its stamps hold and all that it hangs on stays. -/
def stays (v : Res → Val) (ts bs : List Nat) (st : Stamps) (tv : TV) : Bool :=
  st.all (fun p => ver v p.1 == p.2 && (match p.1 with | .t n => ts.contains n | .b n => bs.contains n)) && (match tv with | .ptr (.b n) _ _ => bs.contains n | _ => true)
def keepT (v : Res → Val) (ts bs : List Nat) : List Nat → List (Nat × Val)
  | [] => []
  | n :: l => match v (.t n) with
    | .t st tv => if stays v ts bs st tv then (n, .t (zeroSt st) tv) :: keepT v ts bs l else keepT v ts bs l
    | _ => keepT v ts bs l
def keepB (v : Res → Val) : List Nat → List (Nat × Val)
  | [] => []
  | n :: l => match v (.b n) with
    | .nope => keepB v l
    | e => (n, e) :: keepB v l

/-- All slots that others hang on, among those that stay, must be there. -/
def rootsIn (l : List (Nat × Val)) (m : List (Nat × Val)) : Bool :=
  l.all fun x => match x.2 with
    | .t st tv => st.all (fun p => match p.1 with | .t n => !isNope (look l n) | .b n => !isNope (look m n)) && (match tv with | .ptr (.b n) _ _ => !isNope (look m n) | _ => true)
    | _ => true

def frzaOk (v : Res → Val) (n : Nat) (st : Stamps) (q : Rt) (p : Path) : Bool := st.all (fun s => ver v s.1 == s.2) && decide (q ≠ .t n) && !p.isEmpty
def gh : Gh → ASt → Option ASt
  | .frz n, σ => match σ.val (.t n) with
    | .t [] (.pl a cs) => if noOwnL cs then some σ else some (σ.puts [(.t n, .t [] (.pl a (frzL cs))), (.v (.t n), .v (ver σ.val (.t n) + 1))])
    | _ => some σ
  | .frzb n, σ => match σ.val (.b n) with
    | .b cs => if noOwnL cs then some σ else some (σ.puts [(.b n, .b (frzL cs)), (.v (.b n), .v (ver σ.val (.b n) + 1))])
    | _ => some σ
  | .frza n, σ => match σ.val (.t n) with
    | .t st (.ali q p off) => if frzaOk σ.val n st q p then ob (content σ.val q) fun cs => ob (cellsAt cs p off) fun
        | c :: _ => ob (setAt cs p off [c.frz]) fun cs' => some (σ.puts (putC σ.val q cs' ++ putT σ.val n [] (.pl false [c.frz])))
        | _ => none
      else none
    | _ => some σ
  | .keep ts bs, σ =>
    let l := keepT σ.val ts bs ts
    let m := keepB σ.val bs
    if rootsIn l m then some { ts := l, bs := m, vs := [] } else none

inductive Ex where
  | norm
  | exit (id : Nat)
  | ret
def Ex.to : Ex → Exit
  | .norm => .normal
  | .exit id => .exit id
  | .ret => .ret

def ev (Γ : Gam) : Nat → Ir → ASt → Option (Ex × ASt)
  | 0, _, _ => none
  | _ + 1, .skip, σ => some (.norm, σ)
  | _ + 1, .region rs, σ => ob (evR Γ rs σ) fun σ' => some (.norm, σ')
  | n + 1, .seq a b, σ => match ev Γ n a σ with
    | some (.norm, σ') => ev Γ n b σ'
    | r => r
  | n + 1, .cond c a b, σ => match sca σ.val c with
    | some (.bool true) => ev Γ n a σ
    | some (.bool false) => ev Γ n b σ
    | _ => none
  | n + 1, .block id a, σ => match ev Γ n a σ with
    | some (.exit j, σ') => if j = id then some (.norm, σ') else some (.exit j, σ')
    | r => r
  | n + 1, .loop a, σ => match ev Γ n a σ with
    | some (.norm, σ') => ev Γ n (.loop a) σ'
    | r => r
  | _ + 1, .exit id, σ => some (.exit id, σ)
  | _ + 1, .ret, σ => some (.ret, σ)
  | n + 1, .gh g k, σ => ob (gh g σ) fun σ' => ev Γ n k σ'

/-- These slots are not written. -/
def dstFree (tl : List Nat) (rs : List ROp) : Bool := tl.isEmpty || rs.all fun r => match iDst r.x with | some d => !tl.contains d | none => true
theorem dstFree_spec {tl : List Nat} {rs : List ROp} (h : dstFree tl rs = true) : ∀ r ∈ rs, ∀ d, iDst r.x = some d → d ∉ tl := by
  intro r hr d hd
  simp only [dstFree, Bool.or_eq_true, List.isEmpty_iff, List.all_eq_true] at h
  rcases h with rfl | h
  · simp
  · have := h r hr
    rw [hd] at this
    simpa using this

/-- These boxes stay; these slots are not written. -/
def pinsIn (pl tl : List Nat) : Ir → Bool
  | .gh (.keep _ bs) k => pl.all (fun n => bs.contains n) && pinsIn pl tl k
  | .gh (.frz _) k => pinsIn pl tl k
  | .gh (.frzb _) k => pinsIn pl tl k
  | .gh (.frza _) k => pinsIn pl tl k
  | .region rs => dstFree tl rs
  | .seq a b => pinsIn pl tl a && pinsIn pl tl b
  | .cond _ a b => pinsIn pl tl a && pinsIn pl tl b
  | .block _ a => pinsIn pl tl a
  | .loop a => pinsIn pl tl a
  | _ => true

def matchC (P : Program) (N : Nat) : Ir → Code → Bool
  | .gh _ k, c => matchC P N k c
  | .skip, .skip => true
  | .region rs, .region _ ops draw => (mregion P N ops rs ops.toList && (!draw || drawOk ops rs)) || (draw && swapOk P N ops rs)
  | .seq a b, .seq x y => matchC P N a x && matchC P N b y
  | .cond c a b, .cond z x y => oprOk c z && matchC P N a x && matchC P N b y
  | .block i a, .block j x => i == j && matchC P N a x
  | .loop a, .loop x => matchC P N a x
  | .exit i, .exit j => i == j
  | .ret, .ret => true
  | _, _ => false

/-! ### What is said beside -/
section
variable {E : Env} {v : Res → Val} {tm : Nat → Value} {w : World} {β : Nat → Nat} {φ : Res → Foot}

theorem frz_step (h : RelW E v tm w β φ) (hC : ∀ b, E.C b → b < E.w0.heap.size) {n : Nat} {a : Bool} {cs : List AC} (hv : v (.t n) = .t [] (.pl a cs)) :
    ∃ β' φ', RelW E (appl v [(.t n, .t [] (.pl a (frzL cs))), (.v (.t n), .v (ver v (.t n) + 1))]) tm w β' φ' := by
  generalize hv' : appl v [(Res.t n, Val.t [] (.pl a (frzL cs))), (.v (.t n), .v (ver v (.t n) + 1))] = v'
  have T : ∀ m, v' (.t m) = if m = n then .t [] (.pl a (frzL cs)) else v (.t m) := by intro m; rw [← hv']; by_cases e : m = n <;> simp [appl, nrm, e]
  have B : ∀ m, v' (.b m) = v (.b m) := by intro m; rw [← hv']; simp [appl]
  have V : ∀ q, ver v' q = if q = .t n then ver v q + 1 else ver v q := by
    intro q
    rw [← hv']
    by_cases e : q = .t n
    · subst e; simp [appl, nrm, ver]
    · simp [appl, ver, e]
  have hle := h.le1 (.t n)
  have zero : ∀ b, (∀ r, φ r b = 0) → ∀ r, (fun r => if r = .t n then fun _ => 0 else φ r : Res → Foot) r b = 0 := by
    intro b hb r
    by_cases e : r = .t n
    · simp [e]
    · simp [e, hb r]
  refine ⟨β, fun r => if r = .t n then fun _ => 0 else φ r, h.multi hC (fun r => r = .t n) ?_ ?_ ?_ ?_ ?_ ?_ ?_ (fun _ _ => rfl) (fun _ _ => rfl) ?_ (fun _ _ _ => rfl) rfl rfl rfl (Nat.le_refl _) ?_ ?_⟩
  · rintro r rfl b; simp
  · rintro r s b rfl rfl _ _; rfl
  · rintro r b rfl hb; simp at hb
  · intro r hq hr
    refine ⟨?_, if_neg hr⟩
    cases r with
    | v q => exact absurd rfl (hq q)
    | t m => rw [T, if_neg (fun e => hr (by rw [e]))]
    | b m => exact B m
  · intro r hr; exact if_neg hr
  · intro q; rw [V]; split <;> omega
  · intro q hq _
    cases q with
    | b m => simp [Rt.res] at hq
    | t m => simp [Rt.res] at hq; subst hq; rw [V, if_pos rfl]; omega
  · intro m hm; simp at hm
  · rintro m hm
    simp at hm
    subst hm
    refine .inr ⟨_, by rw [T, if_pos rfl], ?_⟩
    obtain ⟨vals, r1, r2⟩ := h.ent m _ _ hv (by intro p hp; simp at hp)
    rw [if_pos rfl]
    refine ⟨vals, r1.frz _ (fun b hb => ⟨hb.1, zero b hb.2.1, hb.2.2⟩) (fun b hb => ?_), r2⟩
    refine ⟨(h.dom _ b hb).1, fun r => ?_, (h.dom _ b hb).2.1⟩
    by_cases e : r = .t m
    · simp [e]
    · simp only [if_neg e]
      exact Classical.byContradiction fun e2 => e (h.uniq r _ b e2 hb)
  · intro m cs hm; simp at hm

theorem frzb_step (h : RelW E v tm w β φ) (hC : ∀ b, E.C b → b < E.w0.heap.size) {n : Nat} {cs : List AC} (hv : v (.b n) = .b cs) :
    ∃ β' φ', RelW E (appl v [(.b n, .b (frzL cs)), (.v (.b n), .v (ver v (.b n) + 1))]) tm w β' φ' := by
  generalize hv' : appl v [(Res.b n, Val.b (frzL cs)), (.v (.b n), .v (ver v (.b n) + 1))] = v'
  have T : ∀ m, v' (.t m) = v (.t m) := by intro m; rw [← hv']; simp [appl]
  have B : ∀ m, v' (.b m) = if m = n then .b (frzL cs) else v (.b m) := by intro m; rw [← hv']; by_cases e : m = n <;> simp [appl, nrm, e]
  have V : ∀ q, ver v' q = if q = .b n then ver v q + 1 else ver v q := by
    intro q
    rw [← hv']
    by_cases e : q = .b n
    · subst e; simp [appl, nrm, ver]
    · simp [appl, ver, e]
  obtain ⟨vals, ψ, k1, k2, k3, k4⟩ := h.box n _ hv
  have hle := h.le1 (.b n)
  let φ' : Res → Foot := fun r => if r = .b n then fun x => if x = β n then 1 else 0 else φ r
  have φn : φ' (.b n) = fun x => if x = β n then 1 else 0 := by simp [φ']
  have φo : ∀ r, r ≠ .b n → φ' r = φ r := fun r hr => by simp [φ', hr]
  have zero : ∀ b, (∀ r, φ r b = 0) → ∀ r, φ' r b = 0 := by
    intro b hb r
    by_cases e : r = .b n
    · subst e
      rw [φn]
      have := k4 b
      rw [hb (.b n)] at this
      simp only
      split
      · rename_i hh; rw [if_pos hh] at this; omega
      · rfl
    · rw [φo r e]; exact hb r
  refine ⟨β, φ', h.multi hC (fun r => r = .b n) ?_ ?_ ?_ ?_ ?_ ?_ ?_ (fun _ _ => rfl) (fun _ _ => rfl) ?_ (fun _ _ _ => rfl) rfl rfl rfl (Nat.le_refl _) ?_ ?_⟩
  · rintro r rfl b
    rw [φn]
    simp only
    split <;> omega
  · rintro r s b rfl rfl _ _; rfl
  · rintro r b rfl hb
    rw [φn] at hb
    refine .inl ⟨.b n, rfl, ?_⟩
    have := k4 b
    simp only at hb
    split at hb
    · rename_i hh; rw [if_pos hh] at this; omega
    · exact absurd rfl hb
  · intro r hq hr
    refine ⟨?_, φo r hr⟩
    cases r with
    | v q => exact absurd rfl (hq q)
    | t m => exact T m
    | b m => rw [B, if_neg (fun e => hr (by rw [e]))]
  · intro r hr; exact φo r hr
  · intro q; rw [V]; split <;> omega
  · intro q hq _
    cases q with
    | t m => simp [Rt.res] at hq
    | b m => simp [Rt.res] at hq; subst hq; rw [V, if_pos rfl]; omega
  · intro m hm hf
    simp at hm
    subst hm
    refine ⟨rfl, by rw [φn]; simp, by rw [B, if_pos rfl]; rfl⟩
  · rintro m hm; simp at hm
  · intro m cs' hm hv1
    simp at hm
    subst hm
    rw [B, if_pos rfl] at hv1
    simp at hv1
    subst hv1
    refine ⟨vals, fun _ => 0, k1, k2, k3.frz _ (fun b hb => ⟨hb.1, zero b hb.2.1, hb.2.2⟩) (fun b hb => ?_), fun x => by rw [φn]; simp⟩
    have hb1 : φ (.b m) b ≠ 0 := by rw [k4]; omega
    refine ⟨(h.dom _ b hb1).1, fun r => ?_, (h.dom _ b hb1).2.1⟩
    by_cases e : r = .b m
    · subst e
      rw [φn]
      have h1 := hle b
      have h2 := k4 b
      simp only
      split
      · rename_i hh; rw [if_pos hh] at h2; omega
      · rfl
    · rw [φo r e]
      exact Classical.byContradiction fun e2 => e (h.uniq r _ b e2 hb1)

theorem look_keepT {ts bs : List Nat} : ∀ {l : List Nat} {n : Nat}, look (keepT v ts bs l) n = .nope ∨ ∃ st tv, v (.t n) = .t st tv ∧ stays v ts bs st tv = true ∧ look (keepT v ts bs l) n = .t (zeroSt st) tv
  | [], n => .inl rfl
  | m :: l, n => by
    simp only [keepT]
    split
    · rename_i st tv hv
      split
      · rename_i hs
        simp only [look]
        by_cases e : m = n
        · subst e; exact .inr ⟨st, tv, hv, hs, by simp⟩
        · rw [if_neg e]; exact look_keepT
      · exact look_keepT
    · exact look_keepT
theorem look_keepB : ∀ {l : List Nat} {n : Nat}, look (keepB v l) n = .nope ∨ look (keepB v l) n = v (.b n)
  | [], n => .inl rfl
  | m :: l, n => by
    simp only [keepB]
    split
    · exact look_keepB
    · simp only [look]
      by_cases e : m = n
      · subst e; exact .inr (by simp)
      · rw [if_neg e]; exact look_keepB
theorem look_mem : ∀ {l : List (Nat × Val)} {n : Nat} {e : Val}, look l n = e → e ≠ .nope → (n, e) ∈ l
  | [], n, e, h, hn => absurd h.symm hn
  | (m, e') :: l, n, e, h, hn => by
    simp only [look] at h
    split at h
    · rename_i e0; subst e0; subst h; simp
    · exact List.mem_cons_of_mem _ (look_mem h hn)

theorem keepB_has : ∀ {l : List Nat} {n : Nat}, n ∈ l → isNope (v (.b n)) = false → isNope (look (keepB v l) n) = false
  | m :: l, n, hn, hv => by
    simp only [keepB]
    by_cases e : m = n
    · subst e
      split
      · rename_i h; rw [h] at hv; simp [isNope] at hv
      · simp only [look, if_true]; exact hv
    · have hn' : n ∈ l := by
        rcases List.mem_cons.1 hn with h | h
        · exact absurd h.symm e
        · exact h
      split
      · exact keepB_has hn' hv
      · simp only [look, if_neg e]
        exact keepB_has hn' hv

theorem keep_step (h : RelW E v tm w β φ) {ts bs : List Nat} (hpin : ∀ n b, E.pin n = some b → n ∈ bs) (hr : rootsIn (keepT v ts bs ts) (keepB v bs) = true) :
    ∃ φ', RelW E ({ ts := keepT v ts bs ts, bs := keepB v bs, vs := [] } : ASt).val tm w β φ' := by
  generalize hl : keepT v ts bs ts = l at hr
  generalize hm : keepB v bs = m at hr
  let v' : Res → Val := ({ ts := l, bs := m, vs := [] } : ASt).val
  have T : ∀ n, v' (.t n) = .nope ∨ ∃ st tv, v (.t n) = .t st tv ∧ stays v ts bs st tv = true ∧ v' (.t n) = .t (zeroSt st) tv := fun n => by
    have := look_keepT (v := v) (ts := ts) (bs := bs) (l := ts) (n := n)
    rw [hl] at this
    exact this
  have B : ∀ n, v' (.b n) = .nope ∨ v' (.b n) = v (.b n) := fun n => by
    have := look_keepB (v := v) (l := bs) (n := n)
    rw [hm] at this
    exact this
  have V : ∀ q, ver v' q = 0 := fun q => rfl
  let φ' : Res → Foot := fun r => if isNope (v' r) = true then fun _ => 0 else φ r
  have le : ∀ r b, φ' r b ≤ φ r b := fun r b => by
    simp only [φ']
    split
    · exact Nat.zero_le _
    · exact Nat.le_refl _
  have nz : ∀ r b, φ' r b ≠ 0 → φ r b ≠ 0 := fun r b hb e => hb (by have := le r b; omega)
  have eqp : ∀ r, isNope (v' r) = false → φ' r = φ r := fun r hr => by simp only [φ', hr]; simp
  have monoS : ∀ b, XS E w φ b → XS E w φ' b := fun b hb => ⟨hb.1, fun r => by have := le r b; have := hb.2.1 r; omega, hb.2.2⟩
  have zroot : ∀ (st : Stamps) p, p ∈ zeroSt st → ∃ q ∈ st, q.1 = p.1 := fun st p hp => by
    simp only [zeroSt, List.mem_map] at hp
    obtain ⟨q, hq, rfl⟩ := hp
    exact ⟨q, hq, rfl⟩
  have monoB : ∀ (st : Stamps) b, XB w φ st b → XB w φ' (zeroSt st) b := fun st b hb => ⟨hb.1, fun r hr => by
    obtain ⟨p, hp, e⟩ := hb.2 r (nz r b hr)
    exact ⟨(p.1, 0), List.mem_map.2 ⟨p, hp, rfl⟩, e⟩⟩
  have monoB0 : ∀ b, XB w φ [] b → XB w φ' [] b := fun b hb => monoB [] b hb
  have roots : ∀ n st tv, v' (.t n) = .t st tv → (∀ p ∈ st, isNope (v' p.1.res) = false) ∧ ∀ k path off, tv = .ptr (.b k) path off → isNope (v' (.b k)) = false := by
    intro n st tv hv
    have hmem := look_mem (l := l) (n := n) (e := .t st tv) hv (by simp)
    have := List.all_eq_true.1 hr _ hmem
    simp only [Bool.and_eq_true, List.all_eq_true] at this
    refine ⟨fun p hp => ?_, fun k path off e => ?_⟩
    · have h1 := this.1 p hp
      cases hq : p.1 with
      | t j => rw [hq] at h1; exact (show isNope (look l j) = false by simpa using h1)
      | b j => rw [hq] at h1; exact (show isNope (look m j) = false by simpa using h1)
    · subst e; exact (show isNope (look m k) = false by simpa using this.2)
  refine ⟨φ', ?_⟩
  show RelW E v' tm w β φ'
  refine ⟨fun r b => Nat.le_trans (le r b) (h.le1 r b), fun r s b h1 h2 => h.uniq r s b (nz r b h1) (nz s b h2), fun r b hb => h.dom r b (nz r b hb), ?_, ?_, ?_, ?_, h.os, h.tape, h.output, h.size, h.old, ?_⟩
  · intro n st tv hv p hp
    rcases T n with e | ⟨st0, tv0, _, _, e⟩
    · rw [e] at hv; simp at hv
    · rw [e] at hv
      simp at hv
      obtain ⟨rfl, rfl⟩ := hv
      simp only [zeroSt, List.mem_map] at hp
      obtain ⟨q, _, rfl⟩ := hp
      exact Nat.zero_le _
  · intro n st tv hv _ p hp
    exact (roots n st tv hv).1 p hp
  · intro n st tv hv _
    rcases T n with e | ⟨st0, tv0, e0, hs, e⟩
    · rw [e] at hv; simp at hv
    · have hrt := roots n st tv hv
      have hnn : isNope (v' (.t n)) = false := by rw [e]; rfl
      rw [e] at hv
      simp at hv
      obtain ⟨rfl, rfl⟩ := hv
      simp only [stays, Bool.and_eq_true, List.all_eq_true, beq_iff_eq] at hs
      have hlive : Live v st0 := fun p hp => (hs.1 p hp).1
      have hrep := h.ent n _ _ e0 hlive
      rw [eqp _ hnn]
      have reach : ∀ (r : Rt) p off b o, isNope (v' r.res) = false → Reach w tm β (fun x => φ r.res x ≠ 0) r p off b o → Reach w tm β (fun x => φ' r.res x ≠ 0) r p off b o := fun r p off b o hn hre => by rw [eqp _ hn]; exact hre
      cases tv0 with
      | pl a cs => obtain ⟨vals, r1, r2⟩ := hrep; exact ⟨vals, r1.weak monoS (monoB st0), r2⟩
      | tup vs => obtain ⟨us, r1, r2⟩ := hrep; exact ⟨us, r1, r2.weak monoS (monoB st0)⟩
      | ptr r p off =>
        obtain ⟨k1, k2, b, o, k3, k4⟩ := hrep
        have hn : isNope (v' r.res) = false := by
          rcases k2 with rfl | ⟨q, hq, rfl⟩
          · cases r with
            | t s => exact k4.elim
            | b s => exact hrt.2 s [] off rfl
          · exact hrt.1 (q.1, 0) (List.mem_map.2 ⟨q, hq, rfl⟩)
        refine ⟨hn, k2.imp (fun h => h) (fun ⟨q, hq, e⟩ => ⟨(q.1, 0), List.mem_map.2 ⟨q, hq, rfl⟩, e⟩), b, o, k3, reach _ _ _ _ _ hn k4⟩
      | view cs => obtain ⟨b, o, vals, k1, k2, k3, k4⟩ := hrep; exact ⟨b, o, vals, k1, monoB st0 b k2, k3, k4.weak monoS (monoB st0)⟩
      | ali r p off =>
        obtain ⟨k1, ⟨q, hq, rfl⟩, k2⟩ := hrep
        have hn : isNope (v' q.1.res) = false := hrt.1 (q.1, 0) (List.mem_map.2 ⟨q, hq, rfl⟩)
        refine ⟨hn, ⟨(q.1, 0), List.mem_map.2 ⟨q, hq, rfl⟩, rfl⟩, ?_⟩
        split at k2
        · exact k2
        · obtain ⟨b, o, g1, g2⟩ := k2; exact ⟨b, o, reach _ _ _ _ _ hn g1, g2⟩
      | fn g caps =>
        obtain ⟨us, k1, k2, k3⟩ := hrep
        refine ⟨us, k1, k2, fun j j1 j2 => ?_⟩
        obtain ⟨b, o, vals, f1, f2, f3, f4⟩ := k3 j j1 j2
        exact ⟨b, o, vals, f1, monoB st0 b f2, f3, f4.weak (monoB st0) (monoB st0)⟩
      | mp es => exact hrep
      | pfx s k =>
        obtain ⟨k1, ⟨q, hq, hqs⟩, k2⟩ := hrep
        have hn := hrt.1 (q.1, 0) (List.mem_map.2 ⟨q, hq, rfl⟩)
        rw [hqs] at hn
        exact ⟨hn, ⟨(q.1, 0), List.mem_map.2 ⟨q, hq, rfl⟩, hqs⟩, k2⟩
      | und => exact hrep
  · intro n cs hv
    rcases B n with e | e
    · rw [e] at hv; simp at hv
    · have hnn : isNope (v' (.b n)) = false := by rw [hv]; rfl
      have e0 : v (.b n) = .b cs := by rw [← e]; exact hv
      obtain ⟨vals, ψ, k1, k2, k3, k4⟩ := h.box n _ e0
      exact ⟨vals, ψ, k1, k2, k3.weak monoS monoB0, by rw [eqp _ hnn]; exact k4⟩
  · intro n b hn
    obtain ⟨k1, k2⟩ := h.pin n b hn
    have := keepB_has (l := bs) (hpin n b hn) k1
    rw [hm] at this
    exact ⟨this, k2⟩

theorem gh_sound (hC : ∀ b, E.C b → b < E.w0.heap.size) {a : Act} {g : Gh} {σ σ' : ASt} (hg : gh g σ = some σ') (hpin : ∀ ts bs, g = .keep ts bs → ∀ n b, E.pin n = some b → n ∈ bs) (h : Rel E σ.val a w) : Rel E σ'.val a w := by
  obtain ⟨⟨β, φ, h⟩, ht⟩ := h
  refine ⟨?_, ht⟩
  cases g with
  | frz n =>
    simp only [gh] at hg
    split at hg
    · rename_i ag cs hv
      split at hg
      · simp only [Option.some.injEq] at hg
        subst hg
        exact ⟨β, φ, h⟩
      · simp only [Option.some.injEq] at hg
        subst hg
        obtain ⟨β', φ', h'⟩ := frz_step h hC hv
        exact ⟨β', φ', by rw [val_puts]; exact h'⟩
    · simp only [Option.some.injEq] at hg
      subst hg
      exact ⟨β, φ, h⟩
  | frzb n =>
    simp only [gh] at hg
    split at hg
    · rename_i cs hv
      split at hg
      · simp only [Option.some.injEq] at hg
        subst hg
        exact ⟨β, φ, h⟩
      · simp only [Option.some.injEq] at hg
        subst hg
        obtain ⟨β', φ', h'⟩ := frzb_step h hC hv
        exact ⟨β', φ', by rw [val_puts]; exact h'⟩
    · simp only [Option.some.injEq] at hg
      subst hg
      exact ⟨β, φ, h⟩
  | frza n =>
    simp only [gh] at hg
    split at hg
    · rename_i st q p off hv
      split at hg <;> try (simp at hg; done)
      rename_i hc
      simp only [frzaOk, Bool.and_eq_true, decide_eq_true_eq, List.all_eq_true, beq_iff_eq, Bool.not_eq_true', List.isEmpty_eq_false_iff] at hc
      obtain ⟨⟨hl, hqn⟩, hp⟩ := hc
      obtain ⟨cs, hcs, hg1⟩ := ob_some hg
      obtain ⟨xs, hxs, hg2⟩ := ob_some hg1
      try dsimp only at hg2
      split at hg2 <;> try (simp at hg2; done)
      rename_i c rest
      obtain ⟨cs', hset, hg3⟩ := ob_some hg2
      simp only [Option.some.injEq] at hg3
      subst hg3
      obtain ⟨_, _, h2⟩ := h.ent n _ _ hv hl
      obtain ⟨φ', h'⟩ := h.frzAt hC hqn hcs hxs hset (by
        cases p with
        | nil => exact absurd rfl hp
        | cons y p => cases q <;> exact h2)
      exact ⟨β, φ', by rw [val_puts]; exact h'⟩
    · simp only [Option.some.injEq] at hg
      subst hg
      exact ⟨β, φ, h⟩
  | keep ts bs =>
    simp only [gh] at hg
    split at hg <;> simp only [Option.some.injEq, reduceCtorEq] at hg
    rename_i hr
    subst hg
    obtain ⟨φ', h'⟩ := keep_step h (hpin ts bs rfl) hr
    exact ⟨β, φ', h'⟩
end

/-! ### Loops -/
def AtLoop (P : Program) (c : Code) (Q : Exit → Act → World → Prop) (a : Act) (w : World) : Prop :=
  ∀ (b : Frame) (k : List Item) (cs : List Frame), ∃ e a' w', Q e a' w' ∧ Arrives P (lone (b.at a (.code c :: .inLoop c :: k)) cs w) b k cs e a' w'

section
variable {P : Program} {Q : Exit → Act → World → Prop} {a : Act} {w : World} {c : Code}
theorem AtLoop.wp (h : AtLoop P c Q a w) : (Code.loop c).wp P Q a w := fun b k cs => by
  obtain ⟨e, a', w', hq, harr⟩ := h b k cs
  exact ⟨e, a', w', hq, .of_steps (.one step_loop) harr⟩
theorem AtLoop.round (h : c.wp P (Exit.then (AtLoop P c Q) Q) a w) : AtLoop P c Q a w := fun b k cs => by
  obtain ⟨e, a₁, w₁, hq, harr⟩ := h b (.inLoop c :: k) cs
  cases e with
  | normal =>
    obtain ⟨e₂, a₂, w₂, hq₂, harr₂⟩ := hq b k cs
    exact ⟨e₂, a₂, w₂, hq₂, .of_steps (Steps.trans harr (.one step_inLoop)) harr₂⟩
  | exit id => exact ⟨_, a₁, w₁, hq, .pass (x := .inLoop c) rfl (fun _ _ => .inl (by simp)) harr⟩
  | goto l => exact ⟨_, a₁, w₁, hq, .pass (x := .inLoop c) rfl (fun _ _ => .inl (by simp)) harr⟩
  | ret => exact ⟨_, a₁, w₁, hq, .pass (x := .inLoop c) rfl (fun _ _ => .inl (by simp)) harr⟩
  | panic ch => exact ⟨_, a₁, w₁, hq, .pass (x := .inLoop c) rfl (fun _ _ => .inl (by simp)) harr⟩
  | outgrown => exact ⟨_, a₁, w₁, hq, .pass (x := .inLoop c) rfl (fun _ _ => .inl (by simp)) harr⟩
end

/-! ### The interpreter is right -/
section
variable {P : Program} {E : Env}

theorem Rel.drew {v : Res → Val} {a : Act} {w : World} (h : Rel E v a w) (hC : ∀ b, E.C b → b < E.w0.heap.size) : Rel E v a { w with drawn := w.drawn + 1 } := by
  obtain ⟨⟨β, φ, h⟩, ht⟩ := h
  refine ⟨⟨β, φ, h.multi hC (fun _ => False) (fun _ h => h.elim) (fun _ _ _ h => h.elim) (fun _ _ h => h.elim) (fun _ _ _ => ⟨rfl, rfl⟩) (fun _ _ => rfl) (fun _ => Nat.le_refl _) (fun _ h => h.elim) (fun _ _ => rfl) (fun _ _ => rfl)
    (fun _ h => h.elim) (fun _ _ _ => rfl) rfl rfl rfl (Nat.le_refl _) (fun _ h => h.elim) (fun _ _ h => h.elim)⟩, ht⟩

theorem ev_sound {Γ : Gam} (hΓ : SatE P E Γ) (hC : ∀ b, E.C b → b < E.w0.heap.size) (hfol : P.follows .mixedOrders = true) {N s : Nat} {ds : List Deferred} (hN : N ≤ s) {pl tl : List Nat} (hpl : ∀ n b, E.pin n = some b → n ∈ pl) (htl : ∀ n u, E.tpin n = some u → n ∈ tl) : ∀ n : Nat,
    (∀ ir c, matchC P N ir c = true → pinsIn pl tl ir = true → ∀ σ e σ', ev Γ n ir σ = some (e, σ') → ∀ Q : Exit → Act → World → Prop, (∀ a w, Rel E σ'.val a w → a.tmps.size = s → a.defers = ds → Q e.to a w) →
      ∀ a w, Rel E σ.val a w → a.tmps.size = s → a.defers = ds → c.wp P Q a w) ∧
    (∀ ir c, matchC P N ir c = true → pinsIn pl tl ir = true → ∀ σ e σ', ev Γ n (.loop ir) σ = some (e, σ') → ∀ Q : Exit → Act → World → Prop, (∀ a w, Rel E σ'.val a w → a.tmps.size = s → a.defers = ds → Q e.to a w) →
      ∀ a w, Rel E σ.val a w → a.tmps.size = s → a.defers = ds → AtLoop P c Q a w)
  | 0 => ⟨fun _ _ _ _ _ _ _ h => by simp [ev] at h, fun _ _ _ _ _ _ _ h => by simp [ev] at h⟩
  | n + 1 => by
    obtain ⟨ihA, ihB⟩ := ev_sound hΓ hC hfol hN hpl htl n
    have hB : ∀ ir c, matchC P N ir c = true → pinsIn pl tl ir = true → ∀ σ e σ', ev Γ (n + 1) (.loop ir) σ = some (e, σ') → ∀ Q : Exit → Act → World → Prop, (∀ a w, Rel E σ'.val a w → a.tmps.size = s → a.defers = ds → Q e.to a w) →
        ∀ a w, Rel E σ.val a w → a.tmps.size = s → a.defers = ds → AtLoop P c Q a w := by
      intro ir c hm hpn σ e σ' he Q hq a w hR hs hd
      simp only [ev] at he
      refine AtLoop.round ?_
      split at he
      · rename_i σ1 h1
        refine ihA ir c hm hpn σ _ σ1 h1 _ (fun a1 w1 hR1 hs1 hd1 => ?_) a w hR hs hd
        exact ihB ir c hm hpn σ1 e σ' he Q hq a1 w1 hR1 hs1 hd1
      · rename_i hne
        refine ihA ir c hm hpn σ e σ' he _ (fun a1 w1 hR1 hs1 hd1 => ?_) a w hR hs hd
        cases e with
        | norm => exact absurd he (hne σ')
        | exit id => exact hq a1 w1 hR1 hs1 hd1
        | ret => exact hq a1 w1 hR1 hs1 hd1
    refine ⟨?_, hB⟩
    intro ir c hm hpn σ e σ' he Q hq a w hR hs hd
    cases ir with
    | gh g k =>
      simp only [matchC] at hm
      simp only [ev] at he
      obtain ⟨σ1, h1, h2⟩ := ob_some he
      have hpk : pinsIn pl tl k = true ∧ ∀ ts bs, g = .keep ts bs → ∀ n b, E.pin n = some b → n ∈ bs := by
        cases g with
        | frz m => exact ⟨hpn, fun _ _ e => by simp at e⟩
        | frzb m => exact ⟨hpn, fun _ _ e => by simp at e⟩
        | frza m => exact ⟨hpn, fun _ _ e => by simp at e⟩
        | keep ts bs =>
          simp only [pinsIn, Bool.and_eq_true, List.all_eq_true] at hpn
          refine ⟨hpn.2, fun ts' bs' e n b hn => ?_⟩
          simp only [Gh.keep.injEq] at e
          obtain ⟨_, rfl⟩ := e
          simpa using hpn.1 n (hpl n b hn)
      exact ihA k c hm hpk.1 σ1 e σ' h2 Q hq a w (gh_sound hC h1 hpk.2 hR) hs hd
    | skip =>
      cases c <;> simp [matchC] at hm
      simp only [ev, Option.some.injEq, Prod.mk.injEq] at he
      obtain ⟨rfl, rfl⟩ := he
      exact wp_skip (hq a w hR hs hd)
    | region rs =>
      cases c <;> simp [matchC] at hm
      rename_i id ops draw
      simp only [ev] at he
      obtain ⟨σ1, h1, h2⟩ := ob_some he
      simp only [Option.some.injEq, Prod.mk.injEq] at h2
      obtain ⟨rfl, rfl⟩ := h2
      have hpt : ∀ r ∈ rs, ∀ d, iDst r.x = some d → E.tpin d = none := fun r hr d hd => by
        cases ht : E.tpin d with
        | none => rfl
        | some u => exact absurd (htl d u ht) (dstFree_spec hpn r hr d hd)
      cases draw with
      | false =>
        simp at hm
        refine wp_region ?_
        have := region_plain hΓ hC rs 0 (by simpa using hm) hpt hR (by omega : N ≤ a.tmps.size) h1 (Q := Q) (fun a' w' hR' hs' hd' => hq a' w' hR' (hs'.trans hs) (hd'.trans hd))
        simpa [List.range_eq_range'] using this
      | true =>
        simp at hm
        rcases hm with ⟨hm, hdr⟩ | hm
        · exact wp_region_any hfol (region_any hΓ hC hm hdr hpt h1 hN (fun a' w' hR' hs' hd' => hq a' w' hR' hs' hd') (hR.drew hC) hs hd)
        · exact wp_region_any hfol (region_swapOk hΓ hC hm hpt h1 hN (fun a' w' hR' hs' hd' => hq a' w' hR' hs' hd') (hR.drew hC) hs hd)
    | seq x y =>
      cases c <;> simp [matchC] at hm
      simp only [pinsIn, Bool.and_eq_true] at hpn
      rename_i cx cy
      simp only [ev] at he
      refine wp_seq ?_
      split at he
      · rename_i σ1 h1
        refine ihA x cx hm.1 hpn.1 σ _ σ1 h1 _ (fun a1 w1 hR1 hs1 hd1 => ?_) a w hR hs hd
        exact ihA y cy hm.2 hpn.2 σ1 e σ' he Q hq a1 w1 hR1 hs1 hd1
      · rename_i hne
        refine ihA x cx hm.1 hpn.1 σ e σ' he _ (fun a1 w1 hR1 hs1 hd1 => ?_) a w hR hs hd
        cases e with
        | norm => exact absurd he (hne σ')
        | exit id => exact hq a1 w1 hR1 hs1 hd1
        | ret => exact hq a1 w1 hR1 hs1 hd1
    | cond z x y =>
      cases c <;> simp [matchC] at hm
      rename_i cz cx cy
      obtain ⟨⟨hz, hx⟩, hy⟩ := hm
      simp only [pinsIn, Bool.and_eq_true] at hpn
      obtain ⟨⟨β, φ, hr⟩, ht⟩ := hR
      simp only [ev] at he
      split at he <;> try (simp at he; done)
      · rename_i h1
        have := sca_val hr hz h1 rfl
        simp only [Scal] at this
        exact wp_cond_true this (ihA x cx hx hpn.1 σ e σ' he Q hq a w ⟨⟨β, φ, hr⟩, ht⟩ hs hd)
      · rename_i h1
        have := sca_val hr hz h1 rfl
        simp only [Scal] at this
        exact wp_cond_false this (ihA y cy hy hpn.2 σ e σ' he Q hq a w ⟨⟨β, φ, hr⟩, ht⟩ hs hd)
    | block id x =>
      cases c <;> simp [matchC] at hm
      rename_i id' cx
      obtain ⟨rfl, hx⟩ := hm
      simp only [ev] at he
      refine wp_block ?_
      split at he
      · rename_i j σ1 h1
        refine ihA x cx hx hpn σ _ σ1 h1 _ (fun a1 w1 hR1 hs1 hd1 => ?_) a w hR hs hd
        simp only [Ex.to, Exit.inBlock]
        split at he
        · rename_i hj
          simp only [Option.some.injEq, Prod.mk.injEq] at he
          obtain ⟨rfl, rfl⟩ := he
          rw [if_pos hj]
          exact hq a1 w1 hR1 hs1 hd1
        · rename_i hj
          simp only [Option.some.injEq, Prod.mk.injEq] at he
          obtain ⟨rfl, rfl⟩ := he
          rw [if_neg hj]
          exact hq a1 w1 hR1 hs1 hd1
      · rename_i hne
        refine ihA x cx hx hpn σ e σ' he _ (fun a1 w1 hR1 hs1 hd1 => ?_) a w hR hs hd
        cases e with
        | norm => exact hq a1 w1 hR1 hs1 hd1
        | exit j => exact absurd he (hne j σ')
        | ret => exact hq a1 w1 hR1 hs1 hd1
    | loop x =>
      cases c <;> simp [matchC] at hm
      exact (hB x _ hm hpn σ e σ' he Q hq a w hR hs hd).wp
    | exit id =>
      cases c <;> simp [matchC] at hm
      subst hm
      simp only [ev, Option.some.injEq, Prod.mk.injEq] at he
      obtain ⟨rfl, rfl⟩ := he
      exact wp_exit (hq a w hR hs hd)
    | ret =>
      cases c <;> simp [matchC] at hm
      simp only [ev, Option.some.injEq, Prod.mk.injEq] at he
      obtain ⟨rfl, rfl⟩ := he
      exact wp_ret (hq a w hR hs hd)
end
end Go.Fw
