/- The framework, part H: operators. Conditions: none. -/
import Derived.Test.YtjldolmokfnkoaaGreatDoorFwG
import Derived.Laws.StructEq
namespace Go.Fw
open Go

def IBin.op : IBin → BinOp
  | .add => .add | .sub => .sub | .mul => .mul | .quo => .quo | .rem => .rem | .lss => .lss | .leq => .leq | .gtr => .gtr | .geq => .geq | .eql => .eql | .neq => .neq
  | .and => .and | .or => .or | .shl => .shl | .shr => .shr

section
variable {P : Program} {E : Env} {v : Res → Val} {o : Oper} {a : Act} {w : World} {β : Nat → Nat} {φ : Res → Foot}

theorem intOp_run {op : IBin} {k k' : IntKind} {x y : Int} {c : AC} (h : intOp op k k' x y = some c) (t : TypeId) (p q : Operand) :
    ∃ u, ((do eqGuard op.op t p q (.int k x) (.int k' y); binOp op.op t (.int k x) (.int k' y)) : Sem Value).run P w = .ok u w ∧ Scal c u := by
  have hg : eqGuard op.op t p q (.int k x) (.int k' y) = pure () := eqGuard_at_int _ _ _ _ _ k x
  rw [hg]
  cases op <;> simp only [intOp] at h
  case shl =>
    split at h <;> simp only [Option.some.injEq, reduceCtorEq] at h
    rename_i hb
    subst h
    exact ⟨_, by simp only [IBin.op, binOp_shl, Op.shift, if_neg hb]; rfl, rfl⟩
  case shr =>
    split at h <;> simp only [Option.some.injEq, reduceCtorEq] at h
    rename_i hb
    subst h
    exact ⟨_, by simp only [IBin.op, binOp_shr, Op.shift, if_neg hb]; rfl, rfl⟩
  all_goals
    split at h <;> try (simp only [reduceCtorEq] at h; done)
    rename_i hk
    simp only [ne_eq, Decidable.not_not] at hk
    subst hk
  all_goals try simp only [Option.some.injEq] at h
  case quo =>
    split at h <;> simp only [Option.some.injEq, reduceCtorEq] at h
    rename_i hb
    subst h
    exact ⟨_, by simp only [IBin.op, binOp_quo, Op.intDiv, if_neg hb]; rfl, rfl⟩
  case rem =>
    split at h <;> simp only [Option.some.injEq, reduceCtorEq] at h
    rename_i hb
    subst h
    exact ⟨_, by simp only [IBin.op, binOp_rem, Op.intDiv, if_neg hb]; rfl, rfl⟩
  all_goals subst h
  case add => exact ⟨_, by simp only [IBin.op, binOp_add, Op.intArith]; rfl, rfl⟩
  case sub => exact ⟨_, by simp only [IBin.op, binOp_sub, Op.intArith]; rfl, rfl⟩
  case mul => exact ⟨_, by simp only [IBin.op, binOp_mul, Op.intArith]; rfl, rfl⟩
  case lss => exact ⟨_, by simp only [IBin.op, binOp_lss]; rfl, rfl⟩
  case leq => exact ⟨_, by simp only [IBin.op, binOp_leq]; rfl, rfl⟩
  case gtr => exact ⟨_, by simp only [IBin.op, binOp_gtr]; rfl, rfl⟩
  case geq => exact ⟨_, by simp only [IBin.op, binOp_geq]; rfl, rfl⟩
  case eql => exact ⟨_, by simp only [IBin.op, binOp_eql]; rfl, by simp [Scal]; rfl⟩
  case neq => exact ⟨_, by simp only [IBin.op, binOp_neq]; rfl, by simp [Scal]; rfl⟩
  case and => exact ⟨_, by simp only [IBin.op, binOp_and, Op.intBits]; rfl, rfl⟩
  case or => exact ⟨_, by simp only [IBin.op, binOp_or, Op.intBits]; rfl, rfl⟩

theorem bin_sound {Γ : Gam} (h : RelW E v (tmv a) w β φ) (hC : ∀ b, E.C b → b < E.w0.heap.size) {d : Nat} {op : IBin} {x x' : Opr} {y y' : Operand} {t t' : TypeId} (hop : o.op = .binOp op.op t y y' t') (hd : o.dst = some d)
    (hN : d < a.tmps.size) (hxy : oprOk x y = true) (hxy' : oprOk x' y' = true) {ws : List (Res × Val)} (hf : fop Γ v (.bin d op x x') = some ws) : OpSound P E (appl v ws) o a w := by
  obtain ⟨c, h1, h2⟩ := ob_some hf
  try dsimp only at h2
  split at h2 <;> try (simp only [reduceCtorEq] at h2)
  obtain ⟨c', h3, h4⟩ := ob_some h2
  try dsimp only at h4
  split at h4 <;> try (simp only [reduceCtorEq] at h4)
  obtain ⟨c2, h5, h6⟩ := ob_some h4
  simp only [Option.some.injEq] at h6
  subst h6
  have hz := sca_val h hxy h1 rfl
  have hz' := sca_val h hxy' h3 rfl
  simp only [Scal] at hz hz'
  obtain ⟨u, hu1, hu2⟩ := intOp_run (P := P) (w := w) h5 t y y'
  refine .plain h hC hd hN (u := u) ?_ hu2
  simp only [execOp, hop, hz, hz', Sem.run_bind, hu1]
  rfl

theorem ba_beq (x y : List UInt8) : ((⟨x.toArray⟩ : ByteArray).toList == (⟨y.toArray⟩ : ByteArray).toList) = decide (x = y) := by
  have h : ∀ z : List UInt8, (⟨z.toArray⟩ : ByteArray).toList = z := fun z => by rw [ByteArray.toList_eq]
  rw [h, h]
  by_cases e : x = y <;> simp [e]

theorem sbin_sound {Γ : Gam} (h : RelW E v (tmv a) w β φ) (hC : ∀ b, E.C b → b < E.w0.heap.size) {d : Nat} {op : IBin} {x x' : Opr} {y y' : Operand} {t t' : TypeId} (hop : o.op = .binOp op.op t y y' t') (hd : o.dst = some d)
    (hN : d < a.tmps.size) (hxy : oprOk x y = true) (hxy' : oprOk x' y' = true) {ws : List (Res × Val)} (hf : fop Γ v (.sbin d op x x') = some ws) : OpSound P E (appl v ws) o a w := by
  obtain ⟨c, h1, h2⟩ := ob_some hf
  try dsimp only at h2
  split at h2 <;> try (simp only [reduceCtorEq] at h2)
  obtain ⟨c', h3, h4⟩ := ob_some h2
  try dsimp only at h4
  split at h4 <;> try (simp only [reduceCtorEq] at h4)
  rename_i _ p _ q
  have hz := sca_val h hxy h1 rfl
  have hz' := sca_val h hxy' h3 rfl
  simp only [Scal] at hz hz'
  have sz : ∀ z : List UInt8, (⟨z.toArray⟩ : ByteArray).size = z.length := fun _ => rfl
  split at h4 <;> try (simp only [reduceCtorEq] at h4)
  · split at h4 <;> simp only [Option.some.injEq, reduceCtorEq] at h4
    rename_i hle
    subst h4
    refine .plain h hC hd hN (u := .string ⟨(p ++ q).toArray⟩) ?_ rfl
    have hle' : ¬ (9223372036854775807 < ((p.length : Int) + (q.length : Int))) := by omega
    have happ : (⟨p.toArray⟩ : ByteArray) ++ ⟨q.toArray⟩ = ⟨(p ++ q).toArray⟩ := by
      ext1
      simp
    simp only [execOp, hop, hz, hz', IBin.op, eqGuard_add]
    simp [binOp, Op.stringOp, sz, IntKind.max, IntKind.bits, IntKind.signed, hle', happ]
  · simp only [Option.some.injEq] at h4
    subst h4
    refine .plain h hC hd hN (u := .bool (decide (p = q))) ?_ rfl
    simp only [execOp, hop, hz, hz', IBin.op, eqGuard_at_string]
    simp only [binOp, Op.stringOp, ba_beq]
    rfl
  · simp only [Option.some.injEq] at h4
    subst h4
    refine .plain h hC hd hN (u := .bool (!decide (p = q))) ?_ rfl
    simp only [execOp, hop, hz, hz', IBin.op, eqGuard_at_string]
    simp only [binOp, Op.stringOp, ba_beq]
    rfl

def flatFs (P : Program) (F : TypeId → Option (List FK)) : List Field → Nat → Option (List FK)
  | [], _ => some []
  | f :: r, off => if f.name == "_" || f.offset != off then none else match F f.type, tySize P f.type, isAggB P f.type with
    | some ks, some n, some g => if n = ks.length ∧ (g = false → n = 1) then (flatFs P F r (off + n)).map (ks ++ ·) else none
    | _, _, _ => none
/-- A type that is whole numbers, bools and strings, one behind the other. -/
def flatTy (P : Program) : Nat → TypeId → Option (List FK)
  | 0, _ => none
  | d + 1, t => match P.underlying t with
    | some (.int k) => some [.int k]
    | some .bool => some [.bool]
    | some .string => some [.str]
    | some (.struct fs) => if P.stoodInHeld t then none else flatFs P (flatTy P d) fs.toList 0
    | _ => none

def mkv (g : Bool) (vs : List Value) : Value := if g then .agg vs.toArray else vs.headD undef

theorem part_run {t : TypeId} {n : Nat} {g : Bool} (ht : tySize P t = some n) (hg : isAggB P t = some g) (h1 : g = false → n = 1) (vs : List Value) (off : Nat) (hl : off + n ≤ vs.length) (w : World) :
    (part t vs.toArray off).run P w = .ok (mkv g ((vs.drop off).take n)) w := by
  obtain ⟨info, hi, hs⟩ := Option.map_eq_some_iff.1 ht
  have hagg := isAgg_run hg w
  cases g with
  | true =>
    simp [part, hagg, sizeOf, typeInfo, hi, hs, mkv]
  | false =>
    have hn := h1 rfl
    subst hn
    have hlt : off < vs.length := by omega
    simp [part, hagg, mkv, hlt]
    rw [List.drop_eq_getElem_cons hlt]
    rfl

theorem fitsL_len : ∀ {ks : List FK} {cs : List AC}, fitsL ks cs = true → cs.length = ks.length
  | [], [], _ => rfl
  | _ :: ks, _ :: cs, h => by simp [fitsL] at h; simp [fitsL_len h.2]
  | [], _ :: _, h => by simp [fitsL] at h
  | _ :: _, [], h => by simp [fitsL] at h
theorem fitsL_app : ∀ {ks ls : List FK} {cs : List AC}, fitsL (ks ++ ls) cs = true → fitsL ks (cs.take ks.length) = true ∧ fitsL ls (cs.drop ks.length) = true
  | [], _, _, h => ⟨by simp [fitsL], by simpa using h⟩
  | _ :: ks, ls, c :: cs, h => by simp [fitsL] at h ⊢; exact ⟨⟨h.1, (fitsL_app h.2).1⟩, (fitsL_app h.2).2⟩
  | _ :: _, _, [], h => by simp [fitsL] at h
theorem eqcs_app : ∀ (n : Nat) {as bs : List AC}, as.length = bs.length → eqcs as bs = (eqcs (as.take n) (bs.take n) && eqcs (as.drop n) (bs.drop n))
  | 0, _, _, _ => by simp [eqcs]
  | n + 1, [], [], _ => by simp [eqcs]
  | n + 1, a :: as, b :: bs, h => by simp at h; simp [eqcs, eqcs_app n h, Bool.and_assoc]
  | n + 1, [], _ :: _, h => by simp at h
  | n + 1, _ :: _, [], h => by simp at h

def ScalL : List AC → List Value → Prop
  | [], [] => True
  | c :: cs, u :: us => Scal c u ∧ ScalL cs us
  | _, _ => False
theorem ScalL.len : ∀ {cs : List AC} {us : List Value}, ScalL cs us → us.length = cs.length
  | [], [], _ => rfl
  | _ :: _, _ :: _, h => by simp [h.2.len]
  | [], _ :: _, h => h.elim
  | _ :: _, [], h => h.elim
theorem ScalL.take : ∀ {cs : List AC} {us : List Value} (n : Nat), ScalL cs us → ScalL (cs.take n) (us.take n) ∧ ScalL (cs.drop n) (us.drop n)
  | [], [], n, _ => by simp [ScalL]
  | _ :: _, _ :: _, 0, h => ⟨trivial, h⟩
  | _ :: _, _ :: _, n + 1, h => ⟨⟨h.1, (h.2.take n).1⟩, (h.2.take n).2⟩
  | [], _ :: _, _, h => h.elim
  | _ :: _, [], _, h => h.elim
theorem RepL.scalL {Xs X : Nat → Prop} : ∀ {ks : List FK} {cs : List AC} {us : List Value} {f : Foot}, RepL w Xs X cs us f → fitsL ks cs = true → ScalL cs us
  | [], [], us, f, h, _ => by cases h; trivial
  | k :: ks, c :: cs, us, f, h, hf => by
    simp [fitsL] at hf
    obtain ⟨u, us', φ1, φ2, rfl, h1, h2, _⟩ := h.uncons
    refine ⟨h1.scal ?_, RepL.scalL h2 hf.2⟩
    cases k <;> cases c <;> simp_all [FK.fits, AC.flat]
  | [], _ :: _, _, _, _, h => by simp [fitsL] at h
  | _ :: _, [], _, _, _, h => by simp [fitsL] at h

theorem flat_eq : ∀ (d : Nat) {t : TypeId} {ks : List FK} {g : Bool} {as bs : List AC} {us vs : List Value}, flatTy P d t = some ks → isAggB P t = some g → (g = false → ks.length = 1) → fitsL ks as = true → fitsL ks bs = true →
    ScalL as us → ScalL bs vs → ∀ w, (Op.equalIn d t (mkv g us) (mkv g vs)).run P w = .ok (eqcs as bs) w
  | 0, _, _, _, _, _, _, _, h, _, _, _, _, _, _, _ => by simp [flatTy] at h
  | d + 1, t, ks, g, as, bs, us, vs, h, hg, h1, ha, hb, hu, hv, w => by
    have single : ∀ {k : FK}, ks = [k] → ∃ a b u v, as = [a] ∧ bs = [b] ∧ us = [u] ∧ vs = [v] ∧ k.fits a = true ∧ k.fits b = true ∧ Scal a u ∧ Scal b v := by
      intro k hk
      subst hk
      have l1 := fitsL_len ha
      have l2 := fitsL_len hb
      have l3 := hu.len
      have l4 := hv.len
      match as, bs, us, vs, l1, l2, l3, l4 with
      | [a], [b], [u], [v], _, _, _, _ => exact ⟨a, b, u, v, rfl, rfl, rfl, rfl, by simpa [fitsL] using ha, by simpa [fitsL] using hb, hu.1, hv.1⟩
    obtain ⟨dd, hdd, hgg⟩ := Option.map_eq_some_iff.1 hg
    simp only [flatTy, hdd] at h
    cases dd <;> simp only [reduceCtorEq] at h
    case int k =>
      simp only [Option.some.injEq] at h
      obtain ⟨a, b, u, v', rfl, rfl, rfl, rfl, f1, f2, s1, s2⟩ := single h.symm
      have : g = false := by rw [← hgg]; rfl
      subst this
      cases a <;> simp [FK.fits] at f1
      cases b <;> simp [FK.fits] at f2
      subst f1 f2
      simp only [Scal] at s1 s2
      subst s1 s2
      simp [mkv, Op.equalIn, run_underlying hdd, eqcs, eqc]
      rfl
    case bool =>
      simp only [Option.some.injEq] at h
      obtain ⟨a, b, u, v', rfl, rfl, rfl, rfl, f1, f2, s1, s2⟩ := single h.symm
      have : g = false := by rw [← hgg]; rfl
      subst this
      cases a <;> simp [FK.fits] at f1
      cases b <;> simp [FK.fits] at f2
      simp only [Scal] at s1 s2
      subst s1 s2
      simp [mkv, Op.equalIn, run_underlying hdd, eqcs, eqc]
    case string =>
      simp only [Option.some.injEq] at h
      obtain ⟨a, b, u, v', rfl, rfl, rfl, rfl, f1, f2, s1, s2⟩ := single h.symm
      have : g = false := by rw [← hgg]; rfl
      subst this
      cases a <;> simp [FK.fits] at f1
      cases b <;> simp [FK.fits] at f2
      simp only [Scal] at s1 s2
      subst s1 s2
      simp only [mkv, Op.equalIn, Bool.false_eq_true, if_false, List.headD_cons, Sem.run_bind, run_underlying hdd, Result.andThen_ok, Sem.run_pure, eqcs, eqc, Bool.and_true, beq_toListBytes]
      rw [ba_beq]
    case struct fs =>
      split at h
      · simp at h
      rename_i hp
      have : g = true := by rw [← hgg]; rfl
      subst this
      have hf : P.fieldsOf t = fs := by simp [Program.fieldsOf, hdd]
      have hp' : P.stoodInHeld t = false := by simpa using hp
      simp only [mkv, if_true]
      rw [run_equalIn_struct (P := P) w d t us.toArray vs.toArray (by rw [hf]; exact hdd) hp', hf]
      -- field by field
      have go : ∀ (l : List Field) (off : Nat) (ks : List FK), flatFs P (flatTy P d) l off = some ks → off + ks.length = us.length → fitsL ks (as.drop off) = true → fitsL ks (bs.drop off) = true →
          (Op.eqFields d us.toArray vs.toArray l).run P w = .ok (eqcs (as.drop off) (bs.drop off)) w := by
        intro l
        induction l with
        | nil =>
          intro off ks hk hl _ _
          simp [flatFs] at hk
          subst hk
          have e1 : as.drop off = [] := by rw [List.drop_eq_nil_iff, ← hu.len]; simp at hl; omega
          simp [Op.eqFields, e1, eqcs]
        | cons f l ih =>
          intro off ks hk hl fa fb
          simp only [flatFs] at hk
          split at hk
          · simp at hk
          rename_i hname
          simp at hname
          split at hk <;> try (simp at hk; done)
          rename_i ks1 n g' hk1 hk2 hk3
          split at hk <;> try (simp at hk; done)
          rename_i hn
          obtain ⟨hn, hg1⟩ := hn
          obtain ⟨ks2, hk4, rfl⟩ := Option.map_eq_some_iff.1 hk
          obtain ⟨fa1, fa2⟩ := fitsL_app fa
          obtain ⟨fb1, fb2⟩ := fitsL_app fb
          rw [List.drop_drop] at fa2 fb2
          have hvl : vs.length = us.length := by
            rw [hu.len, hv.len, fitsL_len ha, fitsL_len hb]
          simp at hl
          have r1 := part_run hk2 hk3 hg1 us off (by omega) w
          have r2 := part_run hk2 hk3 hg1 vs off (by omega) w
          have e1 := flat_eq d hk1 hk3 (by rw [← hn]; exact hg1) (by rw [← hn] at fa1 ⊢; exact fa1) fb1 ((hu.take off).2.take ks1.length).1 ((hv.take off).2.take ks1.length).1 w
          have e2 := ih (off + n) ks2 hk4 (by omega) (by rw [hn]; exact fa2) (by rw [hn]; exact fb2)
          have hlen : (as.drop off).length = (bs.drop off).length := by rw [List.length_drop, List.length_drop, fitsL_len ha, fitsL_len hb]
          rw [eqcs_app n hlen, List.drop_drop, List.drop_drop, Op.eqFields]
          rw [hname.2] at *
          rw [← hn] at e1
          simp only [if_pos hname.1, Sem.run_bind, r1, r2, e1, Result.andThen_ok]
          cases eqcs ((as.drop off).take n) ((bs.drop off).take n)
          · simp
          · simpa using e2
      exact go fs.toList 0 ks h (by rw [hu.len, fitsL_len ha]; simp) (by simpa using ha) (by simpa using hb)

theorem mkv_of {g : Bool} {vs : List Value} {u : Value} (h : if g then u = .agg vs.toArray else vs = [u]) : u = mkv g vs := by
  cases g with
  | true => simpa [mkv] using h
  | false => simp at h; subst h; rfl

theorem ceq_sound {Γ : Gam} (h : RelW E v (tmv a) w β φ) (hC : ∀ b, E.C b → b < E.w0.heap.size) {d : Nat} {neg g : Bool} {ks : List FK} {x x' : Opr} {y y' : Operand} {t t' : TypeId}
    (hop : o.op = .binOp (if neg then .neq else .eql) t y y' t') (hd : o.dst = some d) (hN : d < a.tmps.size) (hk : flatTy P 10000 t = some ks) (hg : isAggB P t = some g)
    (hg2 : if g then P.eqGuardType P.depth t = false else ks = [.bool])
    (hxy : oprOk x y = true) (hxy' : oprOk x' y' = true) {ws : List (Res × Val)} (hf : fop Γ v (.ceq d neg g ks x x') = some ws) : OpSound P E (appl v ws) o a w := by
  obtain ⟨⟨st, tv, ws1⟩, h1, h2⟩ := ob_some hf
  try dsimp only at h2
  split at h2 <;> try (simp at h2; done)
  rename_i _ st1 ga as e1
  obtain ⟨⟨st', tv', ws2⟩, h3, h4⟩ := ob_some h2
  try dsimp only at h4
  split at h4 <;> try (simp at h4; done)
  rename_i _ st2 gb bs e2
  split at h4 <;> simp only [Option.some.injEq, reduceCtorEq] at h4
  rename_i hc
  subst h4
  simp only [Bool.and_eq_true, decide_eq_true_eq] at hc
  obtain ⟨⟨fa, fb⟩, rfl, rfl⟩ := hc
  simp only [Prod.mk.injEq] at e1 e2
  obtain ⟨rfl, rfl, rfl⟩ := e1
  obtain ⟨rfl, rfl, rfl⟩ := e2
  obtain ⟨_, f1, i1, _⟩ := opr_sound h hxy h1
  obtain ⟨_, f2, i2, _⟩ := opr_sound h hxy' h3
  obtain ⟨us, r1, hu⟩ := i1.rep
  obtain ⟨vs, r2, hv⟩ := i2.rep
  have hlen : gb = false → ks.length = 1 := by
    intro e; subst e; simp at hg2; subst hg2; rfl
  have hu' := mkv_of hu
  have hv' := mkv_of hv
  have key := flat_eq (P := P) 10000 hk hg hlen fa fb (r1.scalL fa) (r2.scalL fb) w
  rw [← hu', ← hv'] at key
  have guard : ∀ (op : BinOp), (eqGuard op t y y' (a.eval y) (a.eval y')).run P w = .ok () w := by
    intro op
    cases gb with
    | true =>
      simp only [if_true] at hg2 hu hv
      rw [hu, hv]
      cases op <;> simp [eqGuard, hg2]
    | false =>
      simp only [Bool.false_eq_true, if_false] at hg2 hu hv
      subst hg2
      have := fitsL_len fa
      match as, this with
      | [c], _ =>
        cases c <;> simp [fitsL, FK.fits] at fa
        have := r1.scalL (ks := [.bool]) (by simp [fitsL, FK.fits])
        rw [hu] at this
        simp only [ScalL, Scal] at this
        rw [this.1, eqGuard_at_bool]
        rfl
  have bin : ∀ b : Bool, (binOp (if b then .neq else .eql) t (a.eval y) (a.eval y')).run P w = .ok (.bool (if b then !eqcs as bs else eqcs as bs)) w := by
    intro b
    have key' : (Op.equal t (a.eval y) (a.eval y')).run P w = .ok (eqcs as bs) w := key
    cases gb with
    | true =>
      simp only [if_true] at hu hv
      rw [hu, hv] at key' ⊢
      cases b <;> simp [binOp, key']
    | false =>
      simp only [Bool.false_eq_true, if_false] at hg2 hu hv
      subst hg2
      have l1 := fitsL_len fa
      have l2 := fitsL_len fb
      match as, bs, l1, l2 with
      | [c], [c'], _, _ =>
        cases c <;> simp [fitsL, FK.fits] at fa
        cases c' <;> simp [fitsL, FK.fits] at fb
        have s1 := r1.scalL (ks := [.bool]) (by simp [fitsL, FK.fits])
        have s2 := r2.scalL (ks := [.bool]) (by simp [fitsL, FK.fits])
        rw [hu] at s1
        rw [hv] at s2
        simp only [ScalL, Scal] at s1 s2
        rw [s1.1, s2.1] at key' ⊢
        cases b <;> simp [binOp, key']
  refine .plain h hC hd hN (u := .bool (if neg then !eqcs as bs else eqcs as bs)) ?_ rfl
  simp only [execOp, hop, Sem.run_bind, guard, Result.andThen_ok, bin]
  rfl

theorem alias_sound {Γ : Gam} (h : RelW E v (tmv a) w β φ) (hC : ∀ b, E.C b → b < E.w0.heap.size) {d s : Nat} {rs : List Rt} (hop : o.op = .move (.tmp s) ∨ o.op = .assign (.tmp s)) (hd : o.dst = some d) (hN : d < a.tmps.size)
    (hrs : rs.contains (.t d) = false) {ws : List (Res × Val)} (hf : fop Γ v (.alias d s rs) = some ws) : OpSound P E (appl v ws) o a w := by
  simp only [fop] at hf
  have hrun : (execOp a.eval o).run P w = .ok (.value (tmv a s)) w := by rcases hop with e | e <;> simp [execOp, e, Act.eval, tmv]
  split at hf <;> try (simp at hf; done)
  rename_i st tv hv
  split at hf <;> try (simp at hf; done)
  rename_i hne
  split at hf
  · rename_i hno
    split at hf <;> simp only [Option.some.injEq, reduceCtorEq] at hf
    rename_i hst
    subst hf
    obtain ⟨k1, k2⟩ := stOk_spec hst
    obtain ⟨hrep, k3⟩ := h.slotRep hv k1
    have := OpSound.val (P := P) (tv := tv) (st := st) (u := tmv a s) h hC hd hN hrun (.refl w) (L := []) (by simp) (f := fun _ => 0) (by simp) (by simp) (slot_stamps k2 hrs) k1 k3 (hrep.zero hno)
    simpa only [dropL, List.append_nil] using this
  · split at hf <;> simp only [Option.some.injEq, reduceCtorEq] at hf
    · rename_i c
      subst hf
      have := OpSound.val (P := P) (tv := .ali (.t s) [] 0) (st := [(.t s, ver v (.t s))]) (u := tmv a s) h hC hd hN hrun (.refl w) (L := []) (by simp) (f := fun _ => 0) (by simp) (by simp)
        (by intro p hp; simp at hp; subst hp; simp; exact fun e => hne e.symm) (by intro p hp; simp at hp; subst hp; rfl) (by intro p hp; simp at hp; subst hp; simp [Rt.res, hv, isNope])
        ⟨by simp [Rt.res, hv, isNope], ⟨(.t s, ver v (.t s)), by simp, rfl⟩, rfl, rfl⟩
      simpa [dropL] using this
    · rename_i cs _
      subst hf
      obtain ⟨vals, r1, r2⟩ := h.ent s _ _ hv (by intro p hp; simp at hp)
      have := OpSound.val (P := P) (tv := .pl true (brwL cs)) (st := [(.t s, ver v (.t s))]) (u := tmv a s) h hC hd hN hrun (.refl w) (L := []) (by simp) (f := fun _ => 0) (by simp) (by simp)
        (by intro p hp; simp at hp; subst hp; simp; exact fun e => hne e.symm) (by intro p hp; simp at hp; subst hp; rfl) (by intro p hp; simp at hp; subst hp; simp [Rt.res, hv, isNope])
        ⟨vals, r1.brw _ (fun b hb => XS_XB b hb) (fun b hb => ⟨hb.1, fun r hr => absurd (hb.2 r hr) (by simp)⟩) (fun b hb => ⟨(h.dom _ b hb).1, fun r hr => ⟨(.t s, ver v (.t s)), by simp, h.uniq _ _ b hb hr⟩⟩), r2⟩
      simpa [dropL] using this
    · subst hf
      have := OpSound.val (P := P) (tv := .ali (.t s) [] 0) (st := [(.t s, ver v (.t s))]) (u := tmv a s) h hC hd hN hrun (.refl w) (L := []) (by simp) (f := fun _ => 0) (by simp) (by simp)
        (by intro p hp; simp at hp; subst hp; simp; exact fun e => hne e.symm) (by intro p hp; simp at hp; subst hp; rfl) (by intro p hp; simp at hp; subst hp; simp [Rt.res, hv, isNope])
        ⟨by simp [Rt.res, hv, isNope], ⟨(.t s, ver v (.t s)), by simp, rfl⟩, rfl, rfl⟩
      simpa [dropL] using this
end
end Go.Fw
