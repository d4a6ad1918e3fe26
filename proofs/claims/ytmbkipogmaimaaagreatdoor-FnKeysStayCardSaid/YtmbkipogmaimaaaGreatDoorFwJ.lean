/- The framework, part J: structs and rows that are built. Conditions: none. -/
import Derived.Test.YtmbkipogmaimaaaGreatDoorFwI
import Derived.Laws.Tables
namespace Go.Fw
open Go

section
variable {P : Program} {E : Env} {v : Res → Val} {o : Oper} {a : Act} {w : World} {β : Nat → Nat} {φ : Res → Foot}

theorem dropL_append (v : Res → Val) (A B : List Nat) : dropL v (A ++ B) = dropL v A ++ dropL v B := by
  induction A with
  | nil => rfl
  | cons n A ih => simp [dropL, ih]

def oprsL : List (Nat × Nat × Opr) → List Nat
  | [] => []
  | (_, _, x) :: ps => oprL x ++ oprsL ps
def oprsR : List (Nat × Nat × Opr) → List Rt
  | [] => []
  | (_, _, x) :: ps => oprR x ++ oprsR ps
def psOk (place : Nat → Option (Nat × Nat)) : List (Nat × Nat × Opr) → List (Nat × Operand) → Bool
  | [], [] => true
  | (o, n, x) :: ps, (i, y) :: qs => oprOk x y && place i == some (o, n) && psOk place ps qs
  | _, _ => false

theorem fill_step (zv vals : List Value) (off : Nat) (hl : off + vals.length ≤ zv.length) :
    ((vals.toArray.zipIdx.foldl (fun cs (x : Value × Nat) => cs.setIfInBounds (off + x.2) x.1) zv.toArray)) = (zv.take off ++ (vals ++ zv.drop (off + vals.length))).toArray := by
  suffices H : ∀ (vs : List Value) (k : Nat) (z : List Value), off + k + vs.length ≤ z.length →
      ((vs.zipIdx k).foldl (fun cs (x : Value × Nat) => cs.setIfInBounds (off + x.2) x.1) z.toArray) = (z.take (off + k) ++ (vs ++ z.drop (off + k + vs.length))).toArray by
    have := H vals 0 zv (by omega)
    simpa [← Array.foldl_toList] using this
  intro vs
  induction vs with
  | nil => intro k z hz; simp
  | cons u vs ih =>
    intro k z hz
    simp only [List.zipIdx_cons, List.foldl_cons, List.length_cons] at *
    rw [List.setIfInBounds_toArray, ih (k + 1) _ (by simp; omega)]
    congr 1
    have h1 : off + k < z.length := by omega
    rw [show off + (k + 1) = off + k + 1 by omega, List.set_eq_take_append_cons_drop, if_pos h1, List.take_append, List.drop_append]
    simp only [List.length_take, Nat.min_eq_left (Nat.le_of_lt h1)]
    rw [List.take_of_length_le (by simp; omega), show off + k + 1 - (off + k) = 1 by omega]
    simp only [List.take_succ_cons, List.take_zero, List.append_assoc, List.singleton_append]
    rw [List.drop_of_length_le (by simp; omega), show off + k + 1 + vs.length - (off + k) = vs.length + 1 by omega]
    simp only [List.drop_succ_cons, List.nil_append, List.drop_drop, List.cons_append]
    rw [show off + k + 1 + vs.length = off + k + (vs.length + 1) by omega]

theorem cells_of {Xs X : Nat → Prop} {g : Bool} {cs : List AC} {vals : List Value} {u : Value} {f : Foot} (h : RepL w Xs X cs vals f) (hu : if g then u = .agg vals.toArray else vals = [u]) : u.cells = vals.toArray := by
  cases g with
  | true => simp at hu; rw [hu]; rfl
  | false =>
    simp at hu
    subst hu
    have := h.one u (by simp)
    cases u <;> simp_all [Value.cells, Value.oneCell']

theorem XB_mono {st st' : Stamps} (h : ∀ p ∈ st, p ∈ st') (b : Nat) (hb : XB w φ st b) : XB w φ st' b := ⟨hb.1, fun r hr => let ⟨p, hp, e⟩ := hb.2 r hr; ⟨p, h p hp, e⟩⟩

/-- Parts that are put over zero cells. -/
theorem parts_sound (h : RelW E v (tmv a) w β φ) (place : Nat → Option (Nat × Nat)) : ∀ {ps : List (Nat × Nat × Opr)} {qs : List (Nat × Operand)}, psOk place ps qs = true → (oprsL ps).Nodup →
    ∀ {st : Stamps} {ps' : List (Nat × List AC)} {ws : List (Res × Val)}, oprs v ps = some (st, ps', ws) →
    ws = dropL v (oprsL ps) ∧ Live v st ∧ (∀ p ∈ st, isNope (v p.1.res) = false) ∧ (∀ p ∈ st, p.1 ∈ oprsR ps) ∧
      ∃ F : Foot, (∀ b, F b ≤ 1) ∧ (∀ b, F b ≠ 0 → ∃ n ∈ oprsL ps, φ (.t n) b ≠ 0) ∧
        ∀ (stA : Stamps), (∀ p ∈ st, p ∈ stA) → ∀ {z cs : List AC} {zv : List Value} {g : Foot}, RepL w (XS E w φ) (XB w φ stA) z zv g → fillP z ps' = some cs →
          ∃ zv' f, Instr.fill place zv.toArray (qs.map fun x => (x.1, a.eval x.2)) = some zv'.toArray ∧ RepL w (XS E w φ) (XB w φ stA) cs zv' f ∧ (∀ b, f b ≤ g b + F b)
  | [], [], _, _, st, ps', ws, he => by
    simp only [oprs, Option.some.injEq, Prod.mk.injEq] at he
    obtain ⟨rfl, rfl, rfl⟩ := he
    refine ⟨rfl, by intro p hp; simp at hp, by simp, by simp, fun _ => 0, by simp, by simp, fun stA _ z cs zv g hz hf => ?_⟩
    simp only [fillP, Option.some.injEq] at hf
    subst hf
    exact ⟨zv, g, rfl, hz, fun b => by omega⟩
  | (off, n, x) :: ps, (i, y) :: qs, hok, hnd, st, ps', ws, he => by
    simp only [psOk, Bool.and_eq_true, beq_iff_eq] at hok
    obtain ⟨⟨hxy, hpl⟩, hok⟩ := hok
    simp only [oprs] at he
    obtain ⟨⟨s1, tv, w1⟩, h1, he1⟩ := ob_some he
    try dsimp only at he1
    split at he1 <;> try (simp at he1; done)
    rename_i _ s2 gg cs0 w2 e1
    simp only [Prod.mk.injEq] at e1
    obtain ⟨rfl, rfl, rfl⟩ := e1
    split at he1 <;> try (simp at he1; done)
    rename_i hlen
    obtain ⟨⟨s3, ps3, w3⟩, h3, he2⟩ := ob_some he1
    simp only [Option.some.injEq, Prod.mk.injEq] at he2
    obtain ⟨rfl, rfl, rfl⟩ := he2
    simp only [oprsL] at hnd
    rw [List.nodup_append] at hnd
    obtain ⟨hn1, hn2, hn3⟩ := hnd
    obtain ⟨rfl, f0, i0, _⟩ := opr_sound h hxy h1
    obtain ⟨rfl, l3, g3, r3, F, F1, F2, F3⟩ := parts_sound h place hok hn2 h3
    have dis : ∀ b, f0 b ≠ 0 → F b = 0 := fun b hb => Classical.byContradiction fun hF => by
      obtain ⟨n1, m1, k1⟩ := i0.src b hb
      obtain ⟨n2, m2, k2⟩ := F2 b hF
      have := h.uniq _ _ b k1 k2
      simp at this
      exact hn3 n1 m1 n2 m2 this
    refine ⟨by rw [oprsL, dropL_append], ?_, ?_, ?_, fun b => f0 b + F b, fun b => ?_, fun b hb => ?_, ?_⟩
    · intro p hp
      rcases List.mem_append.1 hp with hp | hp
      · exact i0.live p hp
      · exact l3 p hp
    · intro p hp
      rcases List.mem_append.1 hp with hp | hp
      · exact i0.here p hp
      · exact g3 p hp
    · intro p hp
      rw [oprsR, List.mem_append]
      rcases List.mem_append.1 hp with hp | hp
      · exact .inl (i0.root p hp)
      · exact .inr (r3 p hp)
    · have := i0.le1 b
      have := F1 b
      by_cases hb : f0 b = 0
      · simp only [hb]; omega
      · have := dis b hb; simp only; omega
    · simp only at hb
      rw [oprsL]
      by_cases h0 : f0 b = 0
      · obtain ⟨n2, m2, k2⟩ := F2 b (by omega)
        exact ⟨n2, List.mem_append.2 (.inr m2), k2⟩
      · obtain ⟨n1, m1, k1⟩ := i0.src b h0
        exact ⟨n1, List.mem_append.2 (.inl m1), k1⟩
    · intro stA hA z cs zv g hz hf
      simp only [fillP] at hf
      split at hf <;> try (simp at hf; done)
      rename_i hle
      obtain ⟨us, q1, q2⟩ := i0.rep
      have hc := cells_of q1 q2
      have ul := q1.length
      have zl := hz.length
      -- the cells of z around the part
      have hz' : RepL w (XS E w φ) (XB w φ stA) (z.take off ++ ((z.drop off).take cs0.length ++ z.drop (off + cs0.length))) zv g := by
        rw [← List.drop_drop, List.take_append_drop, List.take_append_drop]; exact hz
      obtain ⟨v1, v2, φ1, φ2, rfl, e1, e2, es⟩ := RepL.split _ _ hz'
      obtain ⟨v2, v3, φ3, φ4, rfl, e3, e4, es'⟩ := RepL.split _ _ e2
      have l1 : v1.length = off := by rw [e1.length, List.length_take]; omega
      have l2 : v2.length = cs0.length := by rw [e3.length, List.length_take, List.length_drop]; omega
      have step : ∀ rest, Instr.fill place (v1 ++ (v2 ++ v3)).toArray ((i, a.eval y) :: rest) = Instr.fill place (v1 ++ (us ++ v3)).toArray rest := by
        intro rest
        simp only [Instr.fill, hpl, hc]
        have hsz : ¬ (us.toArray.size ≠ n ∨ off + us.toArray.size > (v1 ++ (v2 ++ v3)).toArray.size) := by
          simp only [List.size_toArray]
          omega
        rw [if_neg (by simpa using hsz)]
        congr 1
        have := fill_step (v1 ++ (v2 ++ v3)) us off (by simp; omega)
        rw [this, List.take_left' l1, ← List.append_assoc v1 v2 v3, List.drop_left' (by simp; omega)]
      have q1' : RepL w (XS E w φ) (XB w φ stA) cs0 us f0 := q1.weak (fun _ h => h) (XB_mono fun p hp => hA p (List.mem_append.2 (.inl hp)))
      obtain ⟨zv', f, k1, k2, k3⟩ := F3 stA (fun p hp => hA p (List.mem_append.2 (.inr hp))) (e1.append (q1'.append e4)) hf
      refine ⟨zv', f, ?_, k2, fun b => ?_⟩
      · rw [List.map_cons, step]; exact k1
      · have := k3 b; have := es b; have := es' b; dsimp only at *; omega

def structPlaces (P : Program) (t : TypeId) : Option (List (Nat × Nat)) :=
  match P.underlying t with
  | some (.struct fs) => fs.toList.mapM (fun f => (P.info? f.type).map fun i => (f.offset, i.size))
  | _ => none

theorem build_sound {Γ : Gam} (h : RelW E v (tmv a) w β φ) (hC : ∀ b, E.C b → b < E.w0.heap.size) {d : Nat} {z : List AC} {ps : List (Nat × Nat × Opr)} {qs : Array (Nat × Operand)} {t : TypeId} {pl : List (Nat × Nat)}
    (hop : o.op = .build t qs) (hd : o.dst = some d) (hN : d < a.tmps.size) (hz : zeroOk P t z = true) (hpl : structPlaces P t = some pl) (hps : psOk (pl.toArray[·]?) ps qs.toList = true)
    (hnd : (oprsL ps).Nodup) (hdL : d ∉ oprsL ps) (hdR : .t d ∉ oprsR ps) (hRL : ∀ n ∈ oprsL ps, .t n ∉ oprsR ps) {ws : List (Res × Val)} (hf : fop Γ v (.build d z ps) = some ws) : OpSound P E (appl v ws) o a w := by
  obtain ⟨⟨st, ps', ws1⟩, h1, hf1⟩ := ob_some hf
  obtain ⟨cs, h2, hf2⟩ := ob_some hf1
  simp only [Option.some.injEq] at hf2
  subst hf2
  obtain ⟨rfl, l3, g3, r3, F, F1, F2, F3⟩ := parts_sound h _ hps hnd h1
  obtain ⟨zz, hzr, hrep⟩ := zeroOk_spec (P := P) hz (XS E w φ) (XB w φ st) w
  obtain ⟨zv', f, k1, k2, k3⟩ := F3 st (fun _ h => h) hrep h2
  have hbuilt : P.built t (qs.map fun (i, x) => (i, a.eval x)).toList = some zv'.toArray := by
    unfold structPlaces at hpl
    split at hpl <;> try (simp at hpl; done)
    rename_i fs hu
    unfold zeroValue typeInfo at hzr
    simp only [Sem.run_bind, run_program] at hzr
    cases hi : P.info? t with
    | none => simp [hi] at hzr
    | some it =>
      simp only [hi, Sem.run_pure, Result.andThen_ok] at hzr
      cases hiz : it.zero with
      | none => simp [hiz] at hzr
      | some z0 =>
        simp [hiz] at hzr
        subst hzr
        simp only [Program.built, hi, hu, hiz, hpl]
        simpa using k1
  have hrun := run_build (P := P) w t (qs.map fun (i, x) => (i, a.eval x)) zv'.toArray hbuilt
  refine .val h hC hd hN (u := .agg zv'.toArray) (by simp only [execOp, hop, Sem.run_bind, hrun]; rfl) (.refl w) hdL (f := f) (fun b => by have := k3 b; have := F1 b; omega) (fun b hb => F2 b (by have := k3 b; omega)) ?_ l3 g3 ⟨zv', k2, by simp⟩
  intro p hp
  have := r3 p hp
  exact ⟨fun e => hdR (e ▸ this), fun n hn e => hRL n hn (e ▸ this)⟩
end
end Go.Fw
