/- The framework, part S: what an operation reads and writes. The framework, part T: an operation writes what it says, and the check of an operation against the program's own. Conditions: none. -/
import Derived.Test.YtjldolmokfnkoaaGreatDoorFwRm
namespace Go.Fw
open Go

def vR (rs : List Rt) : List Res := rs.map .v
def rR (r : Option Rt) : List Res := match r with | some q => [q.res, .v q] | none => []
def dR (d : Nat) : List Res := [.t d, .v (.t d)]
def oprRd : Opr → List Res
  | .t n rs => .t n :: vR rs
  | .m n => dR n
  | .c _ => []
  | .p n rs q => .t n :: (vR rs ++ dR q)
def oprWr : Opr → List Res
  | .m n => dR n
  | .p _ _ q => dR q
  | _ => []
def optRd : Option Opr → List Res
  | some x => oprRd x
  | none => []
def psRd : List (Nat × Nat × Opr) → List Res
  | [] => []
  | (_, _, x) :: ps => oprRd x ++ psRd ps
def LR : List Nat → List Res
  | [] => []
  | n :: L => dR n ++ LR L
def bR (n : Nat) : List Res := [.b n, .v (.b n)]
def argsRd : List Arg → List Res
  | [] => []
  | .v x :: as => oprRd x ++ argsRd as
  | .lend n rs r :: as => .t n :: (vR rs ++ (rR r ++ argsRd as))
  | .bx n r :: as => .t n :: (bR r ++ argsRd as)
def argsWr : List Arg → List Res
  | [] => []
  | .v x :: as => oprWr x ++ argsWr as
  | .lend _ _ _ :: as => argsWr as
  | .bx _ r :: as => bR r ++ argsWr as

def rd : IOp → List Res
  | .mov d x => dR d ++ oprRd x
  | .alias d s rs => dR d ++ (dR s ++ vR rs)
  | .pick d c x y => dR d ++ (oprRd c ++ (oprRd x ++ oprRd y))
  | .alloc d _ => dR d ++ bR d
  | .box d x => dR d ++ (bR d ++ oprRd x)
  | .build d _ ps => dR d ++ psRd ps
  | .mkrow d _ _ _ ps => dR d ++ psRd ps
  | .load d p rs r _ _ _ => dR d ++ (.t p :: (vR rs ++ rR r))
  | .store p rs q _ x => .t p :: (vR rs ++ (rR (some q) ++ oprRd x))
  | .nilc d p rs => dR d ++ (.t p :: vR rs)
  | .fad d p rs _ => dR d ++ (.t p :: vR rs)
  | .fld d x _ _ _ => dR d ++ oprRd x
  | .iad d x rs r i _ => dR d ++ (dR x ++ (vR rs ++ (rR r ++ oprRd i)))
  | .idx d x i => dR d ++ (oprRd x ++ oprRd i)
  | .len d x r => dR d ++ (oprRd x ++ rR r)
  | .slen d x => dR d ++ oprRd x
  | .bin d _ x y => dR d ++ (oprRd x ++ oprRd y)
  | .sbin d _ x y => dR d ++ (oprRd x ++ oprRd y)
  | .ceq d _ _ _ x y => dR d ++ (oprRd x ++ oprRd y)
  | .not d x => dR d ++ oprRd x
  | .neg d x => dR d ++ oprRd x
  | .make d _ _ _ n => dR d ++ oprRd n
  | .slice d _ x r lo hi => dR d ++ (oprRd x ++ (rR r ++ (optRd lo ++ optRd hi)))
  | .ssub d x lo hi => dR d ++ (oprRd x ++ (optRd lo ++ optRd hi))
  | .app d _ s x xr _ => dR d ++ (oprRd s ++ (oprRd x ++ rR xr))
  | .appa d _ n rs k x xr _ => dR d ++ (dR n ++ (vR rs ++ (bR k ++ (oprRd x ++ rR xr))))
  | .mm d _ x y => dR d ++ (oprRd x ++ oprRd y)
  | .ext d x _ _ => dR d ++ (bR d ++ (match x with | .t n _ => dR n | _ => []))
  | .call d _ as _ => dR d ++ (bR d ++ argsRd as)
  | .toStr d x r => dR d ++ (oprRd x ++ rR r)
  | .mkmap d => dR d
  | .mlook d m rs q k => dR d ++ (.t m :: (vR rs ++ (dR q ++ oprRd k)))
  | .mset m rs q k x => .t m :: (vR rs ++ (dR q ++ (oprRd k ++ oprRd x)))
  | .ieq d _ x => dR d ++ oprRd x
  | .mova d s k ks => dR d ++ (dR s ++ (dR k ++ vR ks))
  | .mkrowa d s k ks _ => dR d ++ (dR s ++ (dR k ++ vR ks))
  | .storea p rs q x k ks => .t p :: (vR rs ++ (rR (some q) ++ (oprRd x ++ (dR k ++ vR ks))))
  | .ldm d p k _ _ _ => dR d ++ (.t p :: rR (some (.b k)))

def wr : IOp → List Res
  | .mov d x => dR d ++ oprWr x
  | .alias d _ _ => dR d
  | .pick d _ _ _ => dR d
  | .alloc d _ => dR d ++ bR d
  | .box d x => dR d ++ (bR d ++ oprWr x)
  | .build d _ ps => dR d ++ LR (oprsL ps)
  | .mkrow d _ _ _ ps => dR d ++ LR (oprsL ps)
  | .load d _ _ r _ _ m => dR d ++ (match m with | .mv | .fz => rR r | _ => [])
  | .store _ _ q _ x => rR (some q) ++ oprWr x
  | .nilc d _ _ => dR d
  | .fad d _ _ _ => dR d
  | .fld d _ _ _ _ => dR d
  | .iad d _ _ _ _ _ => dR d
  | .idx d _ _ => dR d
  | .len d _ _ => dR d
  | .slen d _ => dR d
  | .bin d _ _ _ => dR d
  | .sbin d _ _ _ => dR d
  | .ceq d _ _ _ _ _ => dR d
  | .not d _ => dR d
  | .neg d _ => dR d
  | .make d _ _ _ _ => dR d
  | .slice d _ _ _ _ _ => dR d
  | .ssub d _ _ _ => dR d
  | .app d _ s x _ _ => dR d ++ LR (oprL s ++ oprL x)
  | .appa d _ n _ k x _ _ => dR d ++ (dR n ++ (bR k ++ LR (oprL x)))
  | .mm d _ _ _ => dR d
  | .ext d x _ opn => dR d ++ ((if opn then bR d else []) ++ (match x with | .t n _ => dR n | _ => []))
  | .call d _ as opn => dR d ++ ((if opn then bR d else []) ++ argsWr as)
  | .toStr d _ _ => dR d
  | .mkmap d => dR d
  | .mlook d _ _ _ _ => dR d
  | .mset _ _ q _ _ => dR q
  | .ieq d _ _ => dR d
  | .mova d s k _ => dR d ++ (dR s ++ dR k)
  | .mkrowa d s k _ _ => dR d ++ (dR s ++ dR k)
  | .storea _ _ q _ k _ => rR (some q) ++ dR k
  | .ldm d _ k _ _ _ => dR d ++ rR (some (.b k))

section
variable {v v' : Res → Val}

def Agr (v v' : Res → Val) (L : List Res) : Prop := ∀ r ∈ L, v r = v' r
theorem Agr.app {A B : List Res} (h : Agr v v' (A ++ B)) : Agr v v' A ∧ Agr v v' B := ⟨fun r hr => h r (List.mem_append.2 (.inl hr)), fun r hr => h r (List.mem_append.2 (.inr hr))⟩
theorem Agr.cons {r : Res} {B : List Res} (h : Agr v v' (r :: B)) : v r = v' r ∧ Agr v v' B := ⟨h r (by simp), fun s hs => h s (by simp [hs])⟩
theorem Agr.vr {rs : List Rt} (h : Agr v v' (vR rs)) : ∀ r ∈ rs, v (.v r) = v' (.v r) := fun r hr => h _ (List.mem_map.2 ⟨r, hr, rfl⟩)
theorem Agr.d {d : Nat} (h : Agr v v' (dR d)) : v (.t d) = v' (.t d) ∧ v (.v (.t d)) = v' (.v (.t d)) := ⟨h _ (by simp [dR]), h _ (by simp [dR])⟩
theorem Agr.b {d : Nat} (h : Agr v v' (bR d)) : v (.b d) = v' (.b d) ∧ v (.v (.b d)) = v' (.v (.b d)) := ⟨h _ (by simp [bR]), h _ (by simp [bR])⟩
theorem Agr.r {q : Rt} (h : Agr v v' (rR (some q))) : v q.res = v' q.res ∧ v (.v q) = v' (.v q) := ⟨h _ (by simp [rR]), h _ (by simp [rR])⟩

theorem ver_congr {q : Rt} (h : v (.v q) = v' (.v q)) : ver v q = ver v' q := by simp only [ver, h]
theorem putT_congr {d : Nat} (h : Agr v v' (dR d)) (st : Stamps) (tv : TV) : putT v d st tv = putT v' d st tv := by
  obtain ⟨h1, h2⟩ := h.d
  simp only [putT, h1, ver_congr h2]
theorem dropT_congr {d : Nat} (h : Agr v v' (dR d)) : dropT v d = dropT v' d := by
  simp only [dropT, ver_congr h.d.2]
theorem stOk_congr {rs : List Rt} (h : Agr v v' (vR rs)) : ∀ st, stOk v rs st = stOk v' rs st
  | [] => rfl
  | (r, k) :: st => by
    simp only [stOk]
    by_cases hr : r ∈ rs
    · rw [h.vr r hr, stOk_congr h st]
    · have : rs.contains r = false := by simpa using hr
      rw [this]; rfl
theorem opr_congr {x : Opr} (h : Agr v v' (oprRd x)) : opr v x = opr v' x := by
  cases x with
  | t n rs =>
    obtain ⟨h1, h2⟩ := h.cons
    simp only [opr, h1, stOk_congr h2]
  | m n => simp only [opr, h.d.1, dropT_congr h]
  | c c => rfl
  | p n rs q => rfl
theorem sca_congr {x : Opr} (h : Agr v v' (oprRd x)) : sca v x = sca v' x := by simp only [sca, opr_congr h]
theorem content_congr {q : Rt} (h : v q.res = v' q.res) : content v q = content v' q := by
  cases q <;> simp only [Rt.res] at h <;> simp only [content, h]
theorem putC_congr {q : Rt} (h : v (.v q) = v' (.v q)) (cs : List AC) : putC v q cs = putC v' q cs := by
  cases q with
  | b n => simp only [putC, ver_congr h]
  | t n =>
    cases cs with
    | nil => simp only [putC, ver_congr h]
    | cons c cs => cases cs <;> simp only [putC, ver_congr h]
theorem dropL_congr {L : List Nat} (h : Agr v v' (LR L)) : dropL v L = dropL v' L := by
  induction L with
  | nil => rfl
  | cons n L ih =>
    obtain ⟨h1, h2⟩ := h.app
    simp only [dropL, dropT_congr h1, ih h2]
theorem LR_opr {x : Opr} (h : Agr v v' (oprRd x)) : Agr v v' (LR (oprL x)) := by
  cases x with
  | m n => intro r hr; exact h r (by simpa [oprL, LR, oprRd] using hr)
  | t n rs => intro r hr; simp [oprL, LR] at hr
  | c c => intro r hr; simp [oprL, LR] at hr
  | p n rs q =>
    intro r hr
    simp only [oprL, LR, List.append_nil] at hr
    exact h r (List.mem_cons_of_mem _ (List.mem_append.2 (.inr hr)))
theorem rdSl_congr {x : Opr} {r : Option Rt} (h : Agr v v' (oprRd x)) (hr : Agr v v' (rR r)) : rdSl v x r = rdSl v' x r := by
  cases x with
  | t n rs =>
    obtain ⟨h1, h2⟩ := h.cons
    simp only [rdSl, h1]
    split
    · simp only [stOk_congr h2]
    · rename_i st q path off hv
      rw [stOk_congr h2]
      by_cases hq : r = some q
      · subst hq
        rw [content_congr hr.r.1]
      · have : (r == some q) = false := by simpa using hq
        simp [this]
    · rfl
  | m n => simp only [rdSl, h.d.1]
  | c c => cases c <;> rfl
  | p n rs q => rfl
theorem takeSl_congr {e : Nat} {x : Opr} (h : Agr v v' (oprRd x)) : takeSl v e x = takeSl v' e x := by
  cases x with
  | m n => simp only [takeSl, h.d.1]
  | t n rs => rfl
  | c c => cases c <;> first | rfl | (rename_i rows; cases rows <;> rfl)
  | p n rs q =>
    obtain ⟨h1, h2⟩ := h.cons
    obtain ⟨h2, h3⟩ := h2.app
    simp only [takeSl, h1]
    split
    · simp only [stOk_congr h2, h3.d.1]
    · rfl
theorem oprs_congr {ps : List (Nat × Nat × Opr)} (h : Agr v v' (psRd ps)) : oprs v ps = oprs v' ps := by
  induction ps with
  | nil => rfl
  | cons p ps ih =>
    obtain ⟨o, n, x⟩ := p
    obtain ⟨h1, h2⟩ := h.app
    simp only [oprs, opr_congr h1, ih h2]
theorem optI_congr {x : Option Opr} (h : Agr v v' (optRd x)) (n : Nat) : optI v x n = optI v' x n := by
  cases x with
  | none => rfl
  | some x => simp only [optI, sca_congr (x := x) h]

theorem content_of {r : Option Rt} {q : Rt} (hr : Agr v v' (rR r)) (hq : (r == some q) = true) : content v q = content v' q ∧ ver v q = ver v' q ∧ ∀ cs, putC v q cs = putC v' q cs := by
  simp only [beq_iff_eq] at hq
  subst hq
  exact ⟨content_congr hr.r.1, ver_congr hr.r.2, putC_congr hr.r.2⟩

theorem argsOf_congr {as : List Arg} (h : Agr v v' (argsRd as)) : argsOf v as = argsOf v' as := by
  induction as with
  | nil => rfl
  | cons x as ih =>
    cases x with
    | v x =>
      obtain ⟨h1, h2⟩ := Agr.app h
      simp only [argsOf, opr_congr h1, ih h2]
    | lend n rs r =>
      obtain ⟨h1, h2⟩ := Agr.cons h
      obtain ⟨h3, h4⟩ := h2.app
      obtain ⟨h5, h6⟩ := h4.app
      simp only [argsOf, h1, ih h6, stOk_congr h3]
      split
      · rfl
      · rename_i st q path off hv
        cases hq : (r == some q) with
        | true => rw [(content_of h5 hq).1]
        | false => simp
      · rename_i st q path off hv
        cases hq : (r == some q) with
        | true => rw [(content_of h5 hq).1]
        | false => simp
      · rfl
      · rfl
      · rfl
    | bx n r =>
      obtain ⟨h1, h2⟩ := Agr.cons h
      obtain ⟨h3, h4⟩ := h2.app
      simp only [argsOf, h1, h3.b.1, ih h4]
theorem extsBack_congr {bs : List Nat} (h : ∀ n ∈ bs, v (.v (.b n)) = v' (.v (.b n))) : ∀ es, extsBack v bs es = extsBack v' bs es := by
  induction bs with
  | nil => intro es; cases es <;> rfl
  | cons n bs ih =>
    intro es
    cases es with
    | nil => rfl
    | cons e es => simp only [extsBack, ih (fun m hm => h m (by simp [hm])), putC_congr (q := .b n) (h n (by simp))]
theorem putR_congr {d : Nat} {opn : Bool} (h : Agr v v' (dR d)) (hb : v (.b d) = v' (.b d)) (tv : TV) : putR v d opn tv = putR v' d opn tv := by
  unfold putR
  cases tv with
  | pl a cs => simp only [hb, putT_congr h]
  | tup vs => simp only [putT_congr h]
  | _ => rfl
theorem argsOf_bs {as : List Arg} : ∀ {ps : List PA} {ws : List (Res × Val)} {bs : List Nat}, argsOf v as = some (ps, ws, bs) → bs = argsB as ∧ ∀ n ∈ bs, ∀ v' : Res → Val, Agr v v' (argsRd as) → v (.v (.b n)) = v' (.v (.b n)) := by
  induction as with
  | nil =>
    intro ps ws bs h
    simp only [argsOf, Option.some.injEq, Prod.mk.injEq] at h
    obtain ⟨rfl, rfl, rfl⟩ := h
    simp [argsB]
  | cons x as ih =>
    intro ps ws bs hp
    cases x with
    | v x =>
      simp only [argsOf] at hp
      obtain ⟨⟨st, tv, w1⟩, h1, hp1⟩ := ob_some hp
      try dsimp only at hp1
      split at hp1 <;> try (simp at hp1; done)
      obtain ⟨⟨ps', w3, bs'⟩, h2, hp2⟩ := ob_some hp1
      simp only [Option.some.injEq, Prod.mk.injEq] at hp2
      obtain ⟨rfl, rfl, rfl⟩ := hp2
      obtain ⟨i1, i2⟩ := ih h2
      exact ⟨i1, fun n hn v' hv => i2 n hn v' (Agr.app hv).2⟩
    | bx n r =>
      simp only [argsOf] at hp
      split at hp <;> try (simp at hp; done)
      split at hp <;> try (simp at hp; done)
      obtain ⟨⟨ps', w3, bs'⟩, h2, hp2⟩ := ob_some hp
      try dsimp only at hp2
      split at hp2 <;> try (simp at hp2; done)
      simp only [Option.some.injEq, Prod.mk.injEq] at hp2
      obtain ⟨rfl, rfl, rfl⟩ := hp2
      obtain ⟨i1, i2⟩ := ih h2
      refine ⟨by rw [i1]; rfl, fun m hm v' hv => ?_⟩
      obtain ⟨h3, h4⟩ := (Agr.cons hv).2.app
      rcases List.mem_cons.1 hm with rfl | hm
      · exact h3.b.2
      · exact i2 m hm v' h4
    | lend n rs r =>
      have fin : ∀ {ps' ws bs}, argsOf v as = some (ps', ws, bs) → bs = argsB (.lend n rs r :: as) ∧ ∀ n' ∈ bs, ∀ v' : Res → Val, Agr v v' (argsRd (.lend n rs r :: as)) → v (.v (.b n')) = v' (.v (.b n')) := by
        intro ps' ws bs h2
        obtain ⟨i1, i2⟩ := ih h2
        exact ⟨i1, fun m hm v' hv => i2 m hm v' ((Agr.cons hv).2.app.2.app.2)⟩
      simp only [argsOf] at hp
      split at hp <;> try (simp at hp; done)
      · split at hp <;> try (simp at hp; done)
        obtain ⟨⟨ps', w3, bs'⟩, h2, hp2⟩ := ob_some hp
        simp only [Option.some.injEq, Prod.mk.injEq] at hp2
        obtain ⟨rfl, rfl, rfl⟩ := hp2
        exact fin h2
      · split at hp <;> try (simp at hp; done)
        obtain ⟨cs, hcs, hp1⟩ := ob_some hp
        obtain ⟨xs', hxs, hp2⟩ := ob_some hp1
        try dsimp only at hp2
        split at hp2 <;> try (simp at hp2; done)
        obtain ⟨⟨ps', w3, bs'⟩, h2, hp3⟩ := ob_some hp2
        simp only [Option.some.injEq, Prod.mk.injEq] at hp3
        obtain ⟨rfl, rfl, rfl⟩ := hp3
        exact fin h2
      · split at hp <;> try (simp at hp; done)
        obtain ⟨cs, hcs, hp1⟩ := ob_some hp
        obtain ⟨xs', hxs, hp2⟩ := ob_some hp1
        obtain ⟨⟨ps', w3, bs'⟩, h2, hp3⟩ := ob_some hp2
        simp only [Option.some.injEq, Prod.mk.injEq] at hp3
        obtain ⟨rfl, rfl, rfl⟩ := hp3
        exact fin h2
      · split at hp <;> try (simp at hp; done)
        obtain ⟨⟨ps', w3, bs'⟩, h2, hp2⟩ := ob_some hp
        simp only [Option.some.injEq, Prod.mk.injEq] at hp2
        obtain ⟨rfl, rfl, rfl⟩ := hp2
        exact fin h2
      · split at hp <;> try (simp at hp; done)
        obtain ⟨⟨ps', w3, bs'⟩, h2, hp2⟩ := ob_some hp
        simp only [Option.some.injEq, Prod.mk.injEq] at hp2
        obtain ⟨rfl, rfl, rfl⟩ := hp2
        exact fin h2

/-- An operation looks at what it reads alone. -/
theorem appl_agr {ws : List (Res × Val)} {r : Res} : ∀ {v v' : Res → Val}, v r = v' r → appl v ws r = appl v' ws r := by
  induction ws with
  | nil => intro v v' h; exact h
  | cons x ws ih =>
    intro v v' h
    obtain ⟨s, e⟩ := x
    refine ih ?_
    by_cases e0 : r = s
    · simp [e0]
    · simp [e0, h]
theorem putN_congr {ws : List (Res × Val)} {k : Nat} (h : Agr v v' (dR k)) {q : Rt} (hq : v (.v q) = v' (.v q)) (p : Path) (off : Nat) : putN (appl v ws) k q p off = putN (appl v' ws) k q p off := by
  have h1 : Agr (appl v ws) (appl v' ws) (dR k) := fun r hr => appl_agr (h r hr)
  simp only [putN, putT_congr h1, ver_congr (appl_agr hq)]
theorem fop_congr {Γ : Gam} {x : IOp} (h : Agr v v' (rd x)) : fop Γ v x = fop Γ v' x := by
  cases x with
  | mov d x => obtain ⟨h1, h2⟩ := h.app; simp only [fop, opr_congr h2, putT_congr h1]
  | alias d s rs => obtain ⟨h1, h2⟩ := h.app; obtain ⟨h2, h3⟩ := h2.app; simp only [fop, h2.d.1, putT_congr h1, ver_congr h2.d.2, stOk_congr h3]
  | pick d c x y =>
    obtain ⟨h1, h2⟩ := h.app; obtain ⟨h2, h3⟩ := h2.app; obtain ⟨h3, h4⟩ := h3.app
    simp only [fop, sca_congr h2, opr_congr h3, opr_congr h4, putT_congr h1]
  | alloc d cs => obtain ⟨h1, h2⟩ := h.app; simp only [fop, h2.b.1, putT_congr h1]
  | box d x => obtain ⟨h1, h2⟩ := h.app; obtain ⟨h2, h3⟩ := h2.app; simp only [fop, h2.b.1, putT_congr h1, opr_congr h3]
  | build d z ps => obtain ⟨h1, h2⟩ := h.app; simp only [fop, oprs_congr h2, putT_congr h1]
  | mkrow d e z n ps => obtain ⟨h1, h2⟩ := h.app; simp only [fop, oprs_congr h2, putT_congr h1]
  | load d p rs r n a m =>
    obtain ⟨h1, h2⟩ := h.app; obtain ⟨h2, h3⟩ := h2.cons; obtain ⟨h3, h4⟩ := h3.app
    simp only [fop, h2, stOk_congr h3, putT_congr h1]
    split
    · rfl
    · rename_i st q path off hv
      cases hq : (r == some q) with
      | true => obtain ⟨k1, k2, k3⟩ := content_of h4 hq; simp only [k1, k2, k3]
      | false => simp
    · rfl
  | store p rs q n x =>
    obtain ⟨h1, h2⟩ := h.cons; obtain ⟨h2, h3⟩ := h2.app; obtain ⟨h3, h4⟩ := h3.app
    simp only [fop, h1, stOk_congr h2, opr_congr h4, content_congr h3.r.1, putC_congr h3.r.2]
  | nilc d p rs => obtain ⟨h1, h2⟩ := h.app; obtain ⟨h2, h3⟩ := h2.cons; simp only [fop, h2, stOk_congr h3, putT_congr h1]
  | fad d p rs o => obtain ⟨h1, h2⟩ := h.app; obtain ⟨h2, h3⟩ := h2.cons; simp only [fop, h2, stOk_congr h3, putT_congr h1]
  | fld d x o n a => obtain ⟨h1, h2⟩ := h.app; simp only [fop, opr_congr h2, putT_congr h1]
  | iad d x rs r i e =>
    obtain ⟨h1, h2⟩ := h.app; obtain ⟨h2, h3⟩ := h2.app; obtain ⟨h3, h4⟩ := h3.app; obtain ⟨h4, h5⟩ := h4.app
    simp only [fop, sca_congr h5, h2.d.1, stOk_congr h3, putT_congr h1, ver_congr h2.d.2]
    congr 1
    funext c
    split
    · split
      · rfl
      · rename_i st q path off hv
        cases hq : (r == some q) with
        | true => obtain ⟨k1, k2, k3⟩ := content_of h4 hq; simp only [k1, k2]
        | false => simp
      · rfl
    · rfl
  | idx d x i => obtain ⟨h1, h2⟩ := h.app; obtain ⟨h2, h3⟩ := h2.app; simp only [fop, sca_congr h2, sca_congr h3, putT_congr h1]
  | len d x r => obtain ⟨h1, h2⟩ := h.app; obtain ⟨h2, h3⟩ := h2.app; simp only [fop, rdSl_congr h2 h3, putT_congr h1]
  | slen d x => obtain ⟨h1, h2⟩ := h.app; simp only [fop, sca_congr h2, putT_congr h1]
  | bin d op x y => obtain ⟨h1, h2⟩ := h.app; obtain ⟨h2, h3⟩ := h2.app; simp only [fop, sca_congr h2, sca_congr h3, putT_congr h1]
  | sbin d op x y => obtain ⟨h1, h2⟩ := h.app; obtain ⟨h2, h3⟩ := h2.app; simp only [fop, sca_congr h2, sca_congr h3, putT_congr h1]
  | ceq d ng g ks x y => obtain ⟨h1, h2⟩ := h.app; obtain ⟨h2, h3⟩ := h2.app; simp only [fop, opr_congr h2, opr_congr h3, putT_congr h1]
  | not d x => obtain ⟨h1, h2⟩ := h.app; simp only [fop, sca_congr h2, putT_congr h1]
  | neg d x => obtain ⟨h1, h2⟩ := h.app; simp only [fop, sca_congr h2, putT_congr h1]
  | make d e z b n => obtain ⟨h1, h2⟩ := h.app; simp only [fop, sca_congr h2, putT_congr h1]
  | slice d e x r lo hi =>
    obtain ⟨h1, h2⟩ := h.app; obtain ⟨h2, h3⟩ := h2.app; obtain ⟨h3, h4⟩ := h3.app; obtain ⟨h4, h5⟩ := h4.app
    have hv : ∀ q, r = some q → ver v q = ver v' q := fun q hq => by subst hq; exact ver_congr h3.r.2
    simp only [fop, rdSl_congr h2 h3, optI_congr h4, optI_congr h5, putT_congr h1]
    congr 1; funext c; congr 1; funext l; congr 1; funext q
    split
    · split
      · split
        · rw [hv _ rfl]
        · rfl
      · rfl
    · rfl
  | ssub d x lo hi =>
    obtain ⟨h1, h2⟩ := h.app; obtain ⟨h2, h3⟩ := h2.app; obtain ⟨h3, h4⟩ := h3.app
    simp only [fop, sca_congr h2, optI_congr h3, optI_congr h4, putT_congr h1]
  | app d e s x xr b =>
    obtain ⟨h1, h2⟩ := h.app; obtain ⟨h2, h3⟩ := h2.app; obtain ⟨h3, h4⟩ := h3.app
    have h5 : dropL v (oprL s ++ oprL x) = dropL v' (oprL s ++ oprL x) := by rw [dropL_append, dropL_append, dropL_congr (LR_opr h2), dropL_congr (LR_opr h3)]
    simp only [fop, appW, takeSl_congr h2, rdSl_congr h3 h4, putT_congr h1, h5]
  | appa d e n rs k x xr b =>
    obtain ⟨h1, h2⟩ := h.app; obtain ⟨h2, h3⟩ := h2.app; obtain ⟨h3, h4⟩ := h3.app; obtain ⟨h4, h5⟩ := h4.app; obtain ⟨h5, h6⟩ := h5.app
    have hs : steal v n rs k = steal v' n rs k := by
      have hcon : content v (.b k) = content v' (.b k) := content_congr h4.b.1
      simp only [steal, h2.d.1, stOk_congr h3, hcon, putT_congr h2, putC_congr h4.b.2]
    simp only [fop, hs]
    cases hst : steal v' n rs k with
    | none => rfl
    | some ws1 =>
      simp only [ob]
      have ha : ∀ {L : List Res}, Agr v v' L → Agr (appl v ws1) (appl v' ws1) L := fun h r hr => appl_agr (h r hr)
      have g1 := ha h1; have g2 := ha h2; have g5 := ha h5; have g6 := ha h6
      have h7 : dropL (appl v ws1) (oprL (.m n) ++ oprL x) = dropL (appl v' ws1) (oprL (.m n) ++ oprL x) := by rw [dropL_append, dropL_append, dropL_congr (LR_opr (x := .m n) g2), dropL_congr (LR_opr g5)]
      simp only [appW, takeSl_congr (x := .m n) g2, rdSl_congr g5 g6, putT_congr g1, h7]
  | mm d b x y => obtain ⟨h1, h2⟩ := h.app; obtain ⟨h2, h3⟩ := h2.app; simp only [fop, sca_congr h2, sca_congr h3, putT_congr h1]
  | ext d x i opn =>
    obtain ⟨h1, h2'⟩ := h.app; obtain ⟨h2, h3⟩ := h2'.app
    clear h2'
    cases x with
    | t n rs => simp only at h3; simp only [fop, h3.d.1, putR_congr h1 h2.b.1, ver_congr h3.d.2]
    | m n => rfl
    | c c => rfl
    | p n rs q => rfl
  | call d f as opn =>
    obtain ⟨h1, h2⟩ := h.app; obtain ⟨h2, h3⟩ := h2.app
    simp only [fop, argsOf_congr h3, putR_congr h1 h2.b.1]
    cases ha : argsOf v' as with
    | none => rfl
    | some x =>
      obtain ⟨ps, ws, bs⟩ := x
      rw [← argsOf_congr h3] at ha
      have := (argsOf_bs ha).2
      simp only [ob, extsBack_congr (fun n hn => this n hn v' h3)]
  | toStr d x r => obtain ⟨h1, h2⟩ := h.app; obtain ⟨h2, h3⟩ := h2.app; simp only [fop, rdSl_congr h2 h3, putT_congr h1]
  | mkmap d => simp only [fop, putT_congr h]
  | mlook d m rs q k =>
    obtain ⟨h1, h2⟩ := h.app; obtain ⟨h2, h3⟩ := h2.cons; obtain ⟨h3, h4⟩ := h3.app; obtain ⟨h4, h5⟩ := h4.app
    have hn : nameOf v m rs q = nameOf v' m rs q := by simp only [nameOf, h2, stOk_congr h3]
    have hm : mapAt v m rs q = mapAt v' m rs q := by unfold mapAt; rw [hn, h4.d.1]
    simp only [fop, hm, sca_congr h5, putT_congr h1]
  | mset m rs q k x =>
    obtain ⟨h2, h3⟩ := h.cons; obtain ⟨h3, h4⟩ := h3.app; obtain ⟨h4, h5⟩ := h4.app; obtain ⟨h5, h6⟩ := h5.app
    have hn : nameOf v m rs q = nameOf v' m rs q := by simp only [nameOf, h2, stOk_congr h3]
    have hm : mapAt v m rs q = mapAt v' m rs q := by unfold mapAt; rw [hn, h4.d.1]
    simp only [fop, hm, sca_congr h5, sca_congr h6, ver_congr h4.d.2]
  | ieq d ng x => obtain ⟨h1, h2⟩ := h.app; simp only [fop, sca_congr h2, putT_congr h1]
  | mova d s k ks =>
    obtain ⟨h1, h2⟩ := h.app; obtain ⟨h2, h3⟩ := h2.app; obtain ⟨h3, h4⟩ := h3.app
    have hn : named v s k ks = named v' s k ks := by simp only [named, h3.d.1, stOk_congr h4]
    simp only [fop, h2.d.1, hn, putT_congr h1, dropT_congr h2, putN_congr h3 (h1.d.2)]
  | mkrowa d s k ks z =>
    obtain ⟨h1, h2⟩ := h.app; obtain ⟨h2, h3⟩ := h2.app; obtain ⟨h3, h4⟩ := h3.app
    have hn : named v s k ks = named v' s k ks := by simp only [named, h3.d.1, stOk_congr h4]
    simp only [fop, h2.d.1, hn, putT_congr h1, dropT_congr h2, putN_congr h3 (h1.d.2)]
  | ldm d p k off n a =>
    obtain ⟨h1, h2⟩ := h.app; obtain ⟨h2, h3⟩ := h2.cons
    simp only [fop, h2, putT_congr h1, h3 (.b k) (by simp [rR, Rt.res]), putC_congr h3.r.2]
  | storea p rs q x k ks =>
    obtain ⟨h1, h2⟩ := h.cons; obtain ⟨h2, h3⟩ := h2.app; obtain ⟨h3, h4⟩ := h3.app; obtain ⟨h4, h5⟩ := h4.app; obtain ⟨h5, h6⟩ := h5.app
    simp only [fop, h1, stOk_congr h2, sca_congr h4, h5.d.1, stOk_congr h6, content_congr h3.r.1, putC_congr h3.r.2, putN_congr h5 h3.r.2]

/-! ### Writes -/
def Wr (ws : List (Res × Val)) (L : List Res) : Prop := ∀ y ∈ ws, y.1 ∈ L
theorem Wr.nil {L : List Res} : Wr [] L := fun _ h => by simp at h
theorem Wr.app {a b : List (Res × Val)} {L : List Res} (h : Wr a L) (k : Wr b L) : Wr (a ++ b) L := fun y hy => (List.mem_append.1 hy).elim (h y) (k y)
theorem Wr.left {a : List (Res × Val)} {L M : List Res} (h : Wr a L) : Wr a (L ++ M) := fun y hy => List.mem_append.2 (.inl (h y hy))
theorem Wr.right {a : List (Res × Val)} {L M : List Res} (h : Wr a M) : Wr a (L ++ M) := fun y hy => List.mem_append.2 (.inr (h y hy))
theorem Wr.putT (d : Nat) (st : Stamps) (tv : TV) : Wr (putT v d st tv) (dR d) := by
  intro y hy
  unfold Go.Fw.putT at hy
  split at hy
  · simp at hy; subst hy; simp [dR]
  · simp at hy; rcases hy with rfl | rfl <;> simp [dR]
theorem Wr.dropT (d : Nat) : Wr (dropT v d) (dR d) := by
  intro y hy
  simp [Go.Fw.dropT] at hy
  rcases hy with rfl | rfl <;> simp [dR]
theorem Wr.dropL : ∀ L : List Nat, Wr (dropL v L) (LR L)
  | [] => .nil
  | n :: L => (Wr.dropT n).left.app (Wr.dropL L).right
theorem Wr.putC (q : Rt) (cs : List AC) : Wr (putC v q cs) (rR (some q)) := by
  intro y hy
  cases q with
  | b n =>
    simp [Go.Fw.putC] at hy
    rcases hy with rfl | rfl <;> simp [rR, Rt.res]
  | t n =>
    match cs, hy with
    | [], hy => simp [Go.Fw.putC] at hy; rcases hy with rfl | rfl <;> simp [rR, Rt.res]
    | [c], hy => simp [Go.Fw.putC] at hy; rcases hy with rfl | rfl <;> simp [rR, Rt.res]
    | _ :: _ :: _, hy => simp [Go.Fw.putC] at hy; rcases hy with rfl | rfl <;> simp [rR, Rt.res]
theorem Wr.opr {x : Opr} {st : Stamps} {tv : TV} {ws : List (Res × Val)} (h : opr v x = some (st, tv, ws)) : Wr ws (oprWr x) := by
  cases x with
  | t n rs =>
    simp only [Go.Fw.opr] at h
    split at h
    · split at h <;> simp only [Option.some.injEq, Prod.mk.injEq, reduceCtorEq] at h
      obtain ⟨_, _, rfl⟩ := h
      exact .nil
    · simp at h
  | m n =>
    simp only [Go.Fw.opr] at h
    split at h <;> simp only [Option.some.injEq, Prod.mk.injEq, reduceCtorEq] at h
    obtain ⟨_, _, rfl⟩ := h
    exact Wr.dropT n
  | c c =>
    simp only [Go.Fw.opr, Option.some.injEq, Prod.mk.injEq] at h
    obtain ⟨_, _, rfl⟩ := h
    exact .nil
  | p n rs q => simp [Go.Fw.opr] at h
theorem LR_append (A B : List Nat) : LR (A ++ B) = LR A ++ LR B := by
  induction A with
  | nil => rfl
  | cons n A ih => simp [LR, ih]
theorem oprWr_LR (x : Opr) : oprWr x = LR (oprL x) := by cases x <;> simp [oprWr, oprL, LR]
theorem Wr.oprs : ∀ {ps : List (Nat × Nat × Opr)} {st : Stamps} {ps' : List (Nat × List AC)} {ws : List (Res × Val)}, oprs v ps = some (st, ps', ws) → Wr ws (LR (oprsL ps))
  | [], st, ps', ws, h => by
    simp only [Go.Fw.oprs, Option.some.injEq, Prod.mk.injEq] at h
    obtain ⟨_, _, rfl⟩ := h
    exact .nil
  | (o, n, x) :: ps, st, ps', ws, h => by
    simp only [Go.Fw.oprs] at h
    obtain ⟨⟨s1, tv, w1⟩, h1, h2⟩ := ob_some h
    try dsimp only at h2
    split at h2 <;> try (simp at h2; done)
    rename_i _ s2 g cs w2 e1
    simp only [Prod.mk.injEq] at e1
    obtain ⟨rfl, rfl, rfl⟩ := e1
    split at h2 <;> try (simp at h2; done)
    obtain ⟨⟨s3, p3, w3⟩, h3, h4⟩ := ob_some h2
    simp only [Option.some.injEq, Prod.mk.injEq] at h4
    obtain ⟨_, _, rfl⟩ := h4
    rw [oprsL, LR_append, ← oprWr_LR]
    exact (Wr.opr h1).left.app (Wr.oprs h3).right
theorem Wr.args {as : List Arg} : ∀ {ps : List PA} {ws : List (Res × Val)} {bs : List Nat}, argsOf v as = some (ps, ws, bs) → Wr ws (argsWr as) := by
  induction as with
  | nil =>
    intro ps ws bs h
    simp only [argsOf, Option.some.injEq, Prod.mk.injEq] at h
    obtain ⟨_, rfl, _⟩ := h
    exact .nil
  | cons x as ih =>
    intro ps ws bs hp
    cases x with
    | v x =>
      simp only [argsOf] at hp
      obtain ⟨⟨st, tv, w1⟩, h1, hp1⟩ := ob_some hp
      try dsimp only at hp1
      split at hp1 <;> try (simp at hp1; done)
      rename_i _ g cs w2 e1
      simp only [Prod.mk.injEq] at e1
      obtain ⟨rfl, rfl, rfl⟩ := e1
      obtain ⟨⟨ps', w3, bs'⟩, h2, hp2⟩ := ob_some hp1
      simp only [Option.some.injEq, Prod.mk.injEq] at hp2
      obtain ⟨_, rfl, _⟩ := hp2
      exact (Wr.opr h1).left.app (ih h2).right
    | bx n r =>
      simp only [argsOf] at hp
      split at hp <;> try (simp at hp; done)
      split at hp <;> try (simp at hp; done)
      obtain ⟨⟨ps', w3, bs'⟩, h2, hp2⟩ := ob_some hp
      try dsimp only at hp2
      split at hp2 <;> try (simp at hp2; done)
      simp only [Option.some.injEq, Prod.mk.injEq] at hp2
      obtain ⟨_, rfl, _⟩ := hp2
      exact (ih h2).right
    | lend n rs r =>
      simp only [argsOf] at hp
      split at hp <;> try (simp at hp; done)
      · split at hp <;> try (simp at hp; done)
        obtain ⟨⟨ps', w3, bs'⟩, h2, hp2⟩ := ob_some hp
        simp only [Option.some.injEq, Prod.mk.injEq] at hp2
        obtain ⟨_, rfl, _⟩ := hp2
        exact ih h2
      · split at hp <;> try (simp at hp; done)
        obtain ⟨cs, hcs, hp1⟩ := ob_some hp
        obtain ⟨xs', hxs, hp2⟩ := ob_some hp1
        try dsimp only at hp2
        split at hp2 <;> try (simp at hp2; done)
        obtain ⟨⟨ps', w3, bs'⟩, h2, hp3⟩ := ob_some hp2
        simp only [Option.some.injEq, Prod.mk.injEq] at hp3
        obtain ⟨_, rfl, _⟩ := hp3
        exact ih h2
      · split at hp <;> try (simp at hp; done)
        obtain ⟨cs, hcs, hp1⟩ := ob_some hp
        obtain ⟨xs', hxs, hp2⟩ := ob_some hp1
        obtain ⟨⟨ps', w3, bs'⟩, h2, hp3⟩ := ob_some hp2
        simp only [Option.some.injEq, Prod.mk.injEq] at hp3
        obtain ⟨_, rfl, _⟩ := hp3
        exact ih h2
      · split at hp <;> try (simp at hp; done)
        obtain ⟨⟨ps', w3, bs'⟩, h2, hp2⟩ := ob_some hp
        simp only [Option.some.injEq, Prod.mk.injEq] at hp2
        obtain ⟨_, rfl, _⟩ := hp2
        exact ih h2
      · split at hp <;> try (simp at hp; done)
        obtain ⟨⟨ps', w3, bs'⟩, h2, hp2⟩ := ob_some hp
        simp only [Option.some.injEq, Prod.mk.injEq] at hp2
        obtain ⟨_, rfl, _⟩ := hp2
        exact ih h2
theorem Wr.back {as : List Arg} : ∀ {bs : List Nat} {es : List (List AC)} {ws : List (Res × Val)}, extsBack v bs es = some ws → (∀ n ∈ bs, n ∈ argsB as) → Wr ws (argsWr as) := by
  have hb : ∀ n ∈ argsB as, ∀ r ∈ bR n, r ∈ argsWr as := by
    induction as with
    | nil => intro n hn; simp [argsB] at hn
    | cons x as ih =>
      intro n hn r hr
      cases x with
      | v x => exact List.mem_append.2 (.inr (ih n hn r hr))
      | lend _ _ _ => exact ih n hn r hr
      | bx k m =>
        rcases List.mem_cons.1 hn with rfl | hn
        · exact List.mem_append.2 (.inl hr)
        · exact List.mem_append.2 (.inr (ih n hn r hr))
  intro bs
  induction bs with
  | nil => intro es ws h _; cases es <;> simp [extsBack] at h; subst h; exact .nil
  | cons n bs ih =>
    intro es ws h hB
    cases es with
    | nil => simp [extsBack] at h
    | cons e es =>
      obtain ⟨w2, h1, h2⟩ := ob_some h
      simp only [Option.some.injEq] at h2
      subst h2
      refine Wr.app (fun y hy => hb n (hB n (by simp)) _ ?_) (ih h1 fun m hm => hB m (by simp [hm]))
      have := Wr.putC (v := v) (.b n) e y hy
      simpa [rR, bR, Rt.res] using this
theorem Wr.putR {d : Nat} {opn : Bool} {tv : TV} {ws : List (Res × Val)} (h : putR v d opn tv = some ws) : Wr ws (dR d ++ (if opn then bR d else [])) := by
  rcases putR_cases h with ⟨e, _, rfl⟩ | ⟨e, _, rfl⟩ | ⟨e, cells, _, _, rfl⟩
  · exact (Wr.putT d _ _).left
  · exact (Wr.putT d _ _).left
  · refine (Wr.putT d _ _).left.app ?_
    intro y hy
    simp at hy
    subst hy
    simp [e, bR]
theorem Wr.mono {a : List (Res × Val)} {L M : List Res} (h : Wr a L) (k : ∀ r ∈ L, r ∈ M) : Wr a M := fun y hy => k _ (h y hy)
end
end Go.Fw
namespace Go.Fw
open Go

section
variable {v : Res → Val}
theorem fop_wr {Γ : Gam} {x : IOp} {ws : List (Res × Val)} (h : fop Γ v x = some ws) : Wr ws (wr x) := by
  have dput : ∀ {d : Nat} {st : Stamps} {tv : TV}, Wr (putT v d st tv) (dR d) := Wr.putT _ _ _
  cases x with
  | mov d x =>
    obtain ⟨⟨st, tv, w1⟩, h1, h2⟩ := ob_some h
    simp only [Option.some.injEq] at h2; subst h2
    exact dput.left.app (Wr.opr h1).right
  | alias d s rs =>
    simp only [fop] at h
    split at h <;> try (simp at h; done)
    split at h <;> try (simp at h; done)
    split at h
    · split at h <;> simp only [Option.some.injEq, reduceCtorEq] at h
      subst h; exact dput
    · split at h <;> simp only [Option.some.injEq, reduceCtorEq] at h
      · subst h; exact dput
      · subst h; exact dput
      · subst h; exact dput
  | pick d c x y =>
    obtain ⟨b, h1, h2⟩ := ob_some h
    try dsimp only at h2
    split at h2 <;> try (simp at h2; done)
    all_goals
      obtain ⟨⟨st, tv, w1⟩, h3, h4⟩ := ob_some h2
      try dsimp only at h4
      split at h4 <;> simp only [Option.some.injEq, reduceCtorEq] at h4
      subst h4; exact dput
  | alloc d cs =>
    simp only [fop] at h
    split at h <;> simp only [Option.some.injEq, reduceCtorEq] at h
    subst h
    exact dput.left.app (Wr.right fun y hy => by simp at hy; subst hy; simp [bR])
  | box d x =>
    simp only [fop] at h
    split at h <;> try (simp at h; done)
    obtain ⟨⟨st, tv, w1⟩, h1, h2⟩ := ob_some h
    try dsimp only at h2
    split at h2 <;> simp only [Option.some.injEq, reduceCtorEq] at h2
    rename_i _ g cs w2 e1
    simp only [Prod.mk.injEq] at e1
    obtain ⟨rfl, rfl, rfl⟩ := e1
    subst h2
    refine dput.left.app (Wr.right fun y hy => ?_)
    rcases List.mem_cons.1 hy with rfl | hy
    · simp [bR]
    · exact List.mem_append.2 (.inr (Wr.opr h1 y hy))
  | build d z ps =>
    obtain ⟨⟨st, ps', w1⟩, h1, h2⟩ := ob_some h
    obtain ⟨cs, h3, h4⟩ := ob_some h2
    simp only [Option.some.injEq] at h4; subst h4
    exact dput.left.app (Wr.oprs h1).right
  | mkrow d e z n ps =>
    obtain ⟨⟨st, ps', w1⟩, h1, h2⟩ := ob_some h
    try dsimp only at h2
    split at h2 <;> try (simp at h2; done)
    rename_i _ p2 w2 e1
    simp only [Prod.mk.injEq] at e1
    obtain ⟨rfl, rfl, rfl⟩ := e1
    obtain ⟨cs, h3, h4⟩ := ob_some h2
    simp only [Option.some.injEq] at h4; subst h4
    exact dput.left.app (Wr.oprs h1).right
  | load d p rs r n g m =>
    simp only [fop] at h
    split at h <;> try (simp at h; done)
    · split at h <;> simp only [Option.some.injEq, reduceCtorEq] at h
      subst h; exact dput.left
    · split at h <;> try (simp at h; done)
      rename_i hc
      simp only [Bool.and_eq_true, beq_iff_eq] at hc
      obtain ⟨_, rfl⟩ := hc
      obtain ⟨cs, h1, h2⟩ := ob_some h
      obtain ⟨xs, h3, h4⟩ := ob_some h2
      clear h h2
      try dsimp only at h4
      split at h4 <;> try (simp at h4; done)
      split at h4
      · simp only [Option.some.injEq] at h4; subst h4; exact dput.left
      cases m with
      | cp => simp at h4
      | bo => simp only [Option.some.injEq] at h4; subst h4; exact dput.left
      | al => simp only at h4; split at h4 <;> simp only [Option.some.injEq, reduceCtorEq] at h4; subst h4; exact dput.left
      | mv => obtain ⟨cs', h5, h6⟩ := ob_some h4; simp only [Option.some.injEq] at h6; subst h6; exact (Wr.putC _ _).right.app dput.left
      | fz => obtain ⟨cs', h5, h6⟩ := ob_some h4; simp only [Option.some.injEq] at h6; subst h6; exact (Wr.putC _ _).right.app dput.left
  | store p rs q n x =>
    simp only [fop] at h
    split at h <;> try (simp at h; done)
    split at h <;> try (simp at h; done)
    obtain ⟨⟨st, tv, w1⟩, h1, h2⟩ := ob_some h
    try dsimp only at h2
    split at h2 <;> try (simp at h2; done)
    rename_i _ g xs w2 e1
    simp only [Prod.mk.injEq] at e1
    obtain ⟨rfl, rfl, rfl⟩ := e1
    split at h2 <;> try (simp at h2; done)
    obtain ⟨cs, h3, h4⟩ := ob_some h2
    obtain ⟨cs', h5, h6⟩ := ob_some h4
    simp only [Option.some.injEq] at h6; subst h6
    exact (Wr.putC _ _).left.app (Wr.opr h1).right
  | nilc d p rs =>
    simp only [fop] at h
    split at h <;> try (simp at h; done)
    all_goals
      split at h <;> simp only [Option.some.injEq, reduceCtorEq] at h
      subst h; exact dput
  | fad d p rs o =>
    simp only [fop] at h
    split at h <;> try (simp at h; done)
    all_goals
      split at h <;> simp only [Option.some.injEq, reduceCtorEq] at h
      subst h; exact dput
  | fld d x o n g =>
    obtain ⟨⟨st, tv, w1⟩, h1, h2⟩ := ob_some h
    try dsimp only at h2
    split at h2 <;> try (simp at h2; done)
    split at h2 <;> simp only [Option.some.injEq, reduceCtorEq] at h2
    subst h2; exact dput
  | iad d x rs r i e =>
    obtain ⟨c, h1, h2⟩ := ob_some h
    try dsimp only at h2
    split at h2 <;> try (simp at h2; done)
    split at h2 <;> try (simp at h2; done)
    · split at h2
      · split at h2 <;> simp only [Option.some.injEq, reduceCtorEq] at h2
        subst h2; exact dput
      · split at h2 <;> try (simp at h2; done)
        split at h2 <;> simp only [Option.some.injEq, reduceCtorEq] at h2
        subst h2; exact dput
    · split at h2 <;> try (simp at h2; done)
      obtain ⟨cs, h3, h4⟩ := ob_some h2
      obtain ⟨xs, h5, h6⟩ := ob_some h4
      try dsimp only at h6
      split at h6 <;> try (simp at h6; done)
      split at h6 <;> try (simp at h6; done)
      split at h6 <;> simp only [Option.some.injEq, reduceCtorEq] at h6
      subst h6; exact dput
  | idx d x i =>
    obtain ⟨c, h1, h2⟩ := ob_some h
    try dsimp only at h2
    split at h2 <;> try (simp at h2; done)
    obtain ⟨c2, h3, h4⟩ := ob_some h2
    try dsimp only at h4
    split at h4 <;> try (simp at h4; done)
    split at h4 <;> try (simp at h4; done)
    split at h4 <;> simp only [Option.some.injEq, reduceCtorEq] at h4
    subst h4; exact dput
  | len d x r =>
    obtain ⟨c, h1, h2⟩ := ob_some h
    simp only [Option.some.injEq] at h2; subst h2; exact dput
  | slen d x =>
    obtain ⟨c, h1, h2⟩ := ob_some h
    try dsimp only at h2
    split at h2 <;> simp only [Option.some.injEq, reduceCtorEq] at h2
    subst h2; exact dput
  | bin d op x y =>
    obtain ⟨c, h1, h2⟩ := ob_some h
    try dsimp only at h2
    split at h2 <;> try (simp at h2; done)
    obtain ⟨c2, h3, h4⟩ := ob_some h2
    try dsimp only at h4
    split at h4 <;> try (simp at h4; done)
    obtain ⟨c3, h5, h6⟩ := ob_some h4
    simp only [Option.some.injEq] at h6; subst h6; exact dput
  | sbin d op x y =>
    obtain ⟨c, h1, h2⟩ := ob_some h
    try dsimp only at h2
    split at h2 <;> try (simp at h2; done)
    obtain ⟨c2, h3, h4⟩ := ob_some h2
    try dsimp only at h4
    split at h4 <;> try (simp at h4; done)
    split at h4 <;> try (simp at h4; done)
    · split at h4 <;> simp only [Option.some.injEq, reduceCtorEq] at h4
      subst h4; exact dput
    · simp only [Option.some.injEq] at h4; subst h4; exact dput
    · simp only [Option.some.injEq] at h4; subst h4; exact dput
  | ceq d ng g ks x y =>
    obtain ⟨⟨st, tv, w1⟩, h1, h2⟩ := ob_some h
    try dsimp only at h2
    split at h2 <;> try (simp at h2; done)
    obtain ⟨⟨st2, tv2, w2⟩, h3, h4⟩ := ob_some h2
    try dsimp only at h4
    split at h4 <;> try (simp at h4; done)
    split at h4 <;> simp only [Option.some.injEq, reduceCtorEq] at h4
    subst h4; exact dput
  | not d x =>
    obtain ⟨c, h1, h2⟩ := ob_some h
    try dsimp only at h2
    split at h2 <;> simp only [Option.some.injEq, reduceCtorEq] at h2
    subst h2; exact dput
  | neg d x =>
    obtain ⟨c, h1, h2⟩ := ob_some h
    try dsimp only at h2
    split at h2 <;> simp only [Option.some.injEq, reduceCtorEq] at h2
    subst h2; exact dput
  | make d e z b n =>
    obtain ⟨c, h1, h2⟩ := ob_some h
    try dsimp only at h2
    split at h2 <;> try (simp at h2; done)
    split at h2 <;> simp only [Option.some.injEq, reduceCtorEq] at h2
    subst h2; exact dput
  | slice d e x r lo hi =>
    obtain ⟨c, h1, h2⟩ := ob_some h
    obtain ⟨l, h3, h4⟩ := ob_some h2
    obtain ⟨q, h5, h6⟩ := ob_some h4
    clear h h2 h4
    try dsimp only at h6
    split at h6 <;> try (simp at h6; done)
    split at h6
    · split at h6 <;> try (simp at h6; done)
      simp only [Option.some.injEq] at h6; subst h6; exact dput
    · simp only [Option.some.injEq] at h6; subst h6; exact dput
  | ssub d x lo hi =>
    obtain ⟨c, h1, h2⟩ := ob_some h
    try dsimp only at h2
    split at h2 <;> try (simp at h2; done)
    obtain ⟨l, h3, h4⟩ := ob_some h2
    obtain ⟨q, h5, h6⟩ := ob_some h4
    clear h h2 h4
    try dsimp only at h6
    split at h6 <;> simp only [Option.some.injEq, reduceCtorEq] at h6
    subst h6; exact dput
  | app d e s x xr b =>
    obtain ⟨c, h1, h2⟩ := ob_some h
    obtain ⟨l, h3, h4⟩ := ob_some h2
    try dsimp only at h4
    split at h4 <;> try (simp at h4; done)
    obtain ⟨q, h5, h6⟩ := ob_some h4
    simp only [Option.some.injEq] at h6; subst h6
    exact dput.left.app (Wr.dropL _).right
  | appa d e n rs k x xr b =>
    simp only [fop] at h
    obtain ⟨ws1, h1, h2⟩ := ob_some h
    obtain ⟨ws2, h3, h4⟩ := ob_some h2
    simp only [Option.some.injEq] at h4
    subst h4
    refine Wr.app ?_ ?_
    · unfold steal at h1
      split at h1 <;> try (simp at h1; done)
      split at h1 <;> try (simp at h1; done)
      rename_i hc
      obtain ⟨rfl, _⟩ := hc
      obtain ⟨cs, _, h5⟩ := ob_some h1
      obtain ⟨xs, _, h6⟩ := ob_some h5
      try dsimp only at h6
      split at h6 <;> try (simp at h6; done)
      obtain ⟨cs', _, h7⟩ := ob_some h6
      simp only [Option.some.injEq] at h7
      subst h7
      refine Wr.app (Wr.right (Wr.right (Wr.left ?_))) (Wr.right (Wr.left (Wr.putT _ _ _)))
      exact (Wr.putC (.b _) _).mono (by intro r hr; simpa [rR, bR, Rt.res] using hr)
    · obtain ⟨c, g1, g2⟩ := ob_some h3
      obtain ⟨l, g3, g4⟩ := ob_some g2
      try dsimp only at g4
      split at g4 <;> try (simp at g4; done)
      obtain ⟨q, g5, g6⟩ := ob_some g4
      simp only [Option.some.injEq] at g6
      subst g6
      refine Wr.app (Wr.left (Wr.putT _ _ _)) (Wr.right ?_)
      refine (Wr.dropL _).mono ?_
      intro r hr
      rw [LR_append] at hr
      rcases List.mem_append.1 hr with hr | hr
      · refine List.mem_append.2 (.inl ?_)
        simpa [oprL, LR] using hr
      · exact List.mem_append.2 (.inr (List.mem_append.2 (.inr hr)))
  | mm d b x y =>
    obtain ⟨c, h1, h2⟩ := ob_some h
    try dsimp only at h2
    split at h2 <;> try (simp at h2; done)
    obtain ⟨c2, h3, h4⟩ := ob_some h2
    try dsimp only at h4
    split at h4 <;> try (simp at h4; done)
    split at h4 <;> simp only [Option.some.injEq, reduceCtorEq] at h4
    subst h4; exact dput
  | ext d x i opn =>
    simp only [fop] at h
    split at h <;> try (simp at h; done)
    split at h <;> try (simp at h; done)
    split at h <;> try (simp at h; done)
    obtain ⟨w1, h1, h2⟩ := ob_some h
    have hp := Wr.putR h1
    simp only [wr]
    split at h2
    · simp only [Option.some.injEq] at h2; subst h2
      exact hp.mono fun r hr => by rcases List.mem_append.1 hr with h | h; exact List.mem_append.2 (.inl h); exact List.mem_append.2 (.inr (List.mem_append.2 (.inl h)))
    · split at h2 <;> simp only [Option.some.injEq, reduceCtorEq] at h2
      subst h2
      refine (hp.mono fun r hr => by rcases List.mem_append.1 hr with h | h; exact List.mem_append.2 (.inl h); exact List.mem_append.2 (.inr (List.mem_append.2 (.inl h)))).app ?_
      intro y hy
      simp at hy
      rcases hy with rfl | rfl <;> simp [dR]
  | call d f as opn =>
    obtain ⟨⟨ps, w1, bs⟩, h1, h2⟩ := ob_some h
    obtain ⟨out, h3, h4⟩ := ob_some h2
    obtain ⟨back, h5, h6⟩ := ob_some h4
    obtain ⟨w2, h7, h8⟩ := ob_some h6
    simp only [Option.some.injEq] at h8; subst h8
    simp only [wr]
    have hb := (argsOf_bs h1).1
    refine ((Wr.putR h7).mono fun r hr => by rcases List.mem_append.1 hr with h | h; exact List.mem_append.2 (.inl h); exact List.mem_append.2 (.inr (List.mem_append.2 (.inl h)))).app
      (((Wr.args h1).app (Wr.back h5 (fun n hn => hb ▸ hn))).right.right)
  | toStr d x r =>
    obtain ⟨c, h1, h2⟩ := ob_some h
    try dsimp only at h2
    split at h2 <;> try (simp at h2; done)
    obtain ⟨s, h3, h4⟩ := ob_some h2
    simp only [Option.some.injEq] at h4; subst h4; exact dput
  | mkmap d => simp only [fop, Option.some.injEq] at h; subst h; exact dput
  | mlook d m rs q k =>
    obtain ⟨es, h0, h⟩ := ob_some h
    obtain ⟨c, h1, h2⟩ := ob_some h
    try dsimp only at h2
    split at h2 <;> simp only [Option.some.injEq, reduceCtorEq] at h2
    subst h2; exact dput
  | mset m rs q k x =>
    obtain ⟨es, h0, h⟩ := ob_some h
    obtain ⟨c, h1, h2⟩ := ob_some h
    try dsimp only at h2
    split at h2 <;> try (simp at h2; done)
    obtain ⟨c2, h3, h4⟩ := ob_some h2
    try dsimp only at h4
    split at h4 <;> simp only [Option.some.injEq, reduceCtorEq] at h4
    subst h4
    intro y hy
    simp at hy
    rcases hy with rfl | rfl <;> simp [wr, dR]
  | ieq d ng x =>
    obtain ⟨c, h1, h2⟩ := ob_some h
    try dsimp only at h2
    split at h2 <;> simp only [Option.some.injEq, reduceCtorEq] at h2
    subst h2; exact dput
  | mova d s k ks =>
    simp only [fop] at h
    split at h <;> try (simp at h; done)
    split at h <;> try (simp at h; done)
    obtain ⟨⟨p, off⟩, h1, h2⟩ := ob_some h
    try dsimp only at h2
    split at h2 <;> simp only [Option.some.injEq, reduceCtorEq] at h2
    subst h2
    exact ((dput.left.app (Wr.dropT s).left.right)).app (Wr.putT _ _ _).right.right
  | mkrowa d s k ks z =>
    simp only [fop] at h
    split at h <;> try (simp at h; done)
    split at h <;> try (simp at h; done)
    obtain ⟨⟨p, off⟩, h1, h2⟩ := ob_some h
    try dsimp only at h2
    split at h2 <;> simp only [Option.some.injEq, reduceCtorEq] at h2
    subst h2
    exact ((dput.left.app (Wr.dropT s).left.right)).app (Wr.putT _ _ _).right.right
  | ldm d p k off n a =>
    simp only [fop] at h
    split at h <;> try (simp at h; done)
    split at h <;> try (simp at h; done)
    split at h <;> try (simp at h; done)
    split at h <;> simp only [Option.some.injEq, reduceCtorEq] at h
    subst h; exact (Wr.putC _ _).right.app dput.left
  | storea p rs q x k ks =>
    simp only [fop] at h
    split at h <;> try (simp at h; done)
    split at h <;> try (simp at h; done)
    split at h <;> try (simp at h; done)
    split at h <;> try (simp at h; done)
    obtain ⟨c, h1, h2⟩ := ob_some h
    try dsimp only at h2
    split at h2 <;> try (simp at h2; done)
    obtain ⟨cs, h3, h4⟩ := ob_some h2
    obtain ⟨xs, h5, h6⟩ := ob_some h4
    try dsimp only at h6
    split at h6 <;> try (simp at h6; done)
    obtain ⟨ys, h7, h8⟩ := ob_some h6
    try dsimp only at h8
    split at h8 <;> try (simp at h8; done)
    obtain ⟨cs', h9, h10⟩ := ob_some h8
    obtain ⟨zs, h11, h12⟩ := ob_some h10
    simp only [Option.some.injEq] at h12
    subst h12
    exact (Wr.putC _ _).left.app (Wr.putT _ _ _).right
end
end Go.Fw
