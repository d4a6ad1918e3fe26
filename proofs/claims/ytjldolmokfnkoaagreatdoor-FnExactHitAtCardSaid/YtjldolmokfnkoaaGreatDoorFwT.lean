/- The framework, part T: an operation writes what it says, and the check of an operation against the program's own. The framework, part U: the check of an operation against the program's own, and that an operation that fits is sound. The framework, part V: in whatever order the operations of a region are done, the same is reached, if those that touch the same things are ordered. Conditions: none. -/
import Derived.Test.YtjldolmokfnkoaaGreatDoorFwS
namespace Go.Fw
open Go

section
variable {v : Res → Val}
theorem fop_wr {Γ : Gam} {x : IOp} {ws : List (Res × Val)} (h : fop Γ v x = some ws) : Wr ws (wr x) := by
  have dput : ∀ {d : Nat} {st : Stamps} {tv : TV}, Wr (putT v d st tv) (dR d) := Wr.putT _ _ _
  cases x with
  | mov d x =>
    obtain ⟨⟨st, tv, w1⟩, h1, h2⟩ := ob_some h
    simp only [Option.some.injEq] at h2; subst h2
    exact dput.left.app (Wr.opr h1).right
  | alias d s rs =>
    simp only [fop] at h
    split at h <;> try (simp at h; done)
    split at h <;> try (simp at h; done)
    split at h
    · split at h <;> simp only [Option.some.injEq, reduceCtorEq] at h
      subst h; exact dput
    · split at h <;> simp only [Option.some.injEq, reduceCtorEq] at h
      · subst h; exact dput
      · subst h; exact dput
      · subst h; exact dput
  | pick d c x y =>
    obtain ⟨b, h1, h2⟩ := ob_some h
    try dsimp only at h2
    split at h2 <;> try (simp at h2; done)
    all_goals
      obtain ⟨⟨st, tv, w1⟩, h3, h4⟩ := ob_some h2
      try dsimp only at h4
      split at h4 <;> simp only [Option.some.injEq, reduceCtorEq] at h4
      subst h4; exact dput
  | alloc d cs =>
    simp only [fop] at h
    split at h <;> simp only [Option.some.injEq, reduceCtorEq] at h
    subst h
    exact dput.left.app (Wr.right fun y hy => by simp at hy; subst hy; simp [bR])
  | box d x =>
    simp only [fop] at h
    split at h <;> try (simp at h; done)
    obtain ⟨⟨st, tv, w1⟩, h1, h2⟩ := ob_some h
    try dsimp only at h2
    split at h2 <;> simp only [Option.some.injEq, reduceCtorEq] at h2
    rename_i _ g cs w2 e1
    simp only [Prod.mk.injEq] at e1
    obtain ⟨rfl, rfl, rfl⟩ := e1
    subst h2
    refine dput.left.app (Wr.right fun y hy => ?_)
    rcases List.mem_cons.1 hy with rfl | hy
    · simp [bR]
    · exact List.mem_append.2 (.inr (Wr.opr h1 y hy))
  | build d z ps =>
    obtain ⟨⟨st, ps', w1⟩, h1, h2⟩ := ob_some h
    obtain ⟨cs, h3, h4⟩ := ob_some h2
    simp only [Option.some.injEq] at h4; subst h4
    exact dput.left.app (Wr.oprs h1).right
  | mkrow d e z n ps =>
    obtain ⟨⟨st, ps', w1⟩, h1, h2⟩ := ob_some h
    try dsimp only at h2
    split at h2 <;> try (simp at h2; done)
    rename_i _ p2 w2 e1
    simp only [Prod.mk.injEq] at e1
    obtain ⟨rfl, rfl, rfl⟩ := e1
    obtain ⟨cs, h3, h4⟩ := ob_some h2
    simp only [Option.some.injEq] at h4; subst h4
    exact dput.left.app (Wr.oprs h1).right
  | load d p rs r n g m =>
    simp only [fop] at h
    split at h <;> try (simp at h; done)
    · split at h <;> simp only [Option.some.injEq, reduceCtorEq] at h
      subst h; exact dput.left
    · split at h <;> try (simp at h; done)
      rename_i hc
      simp only [Bool.and_eq_true, beq_iff_eq] at hc
      obtain ⟨_, rfl⟩ := hc
      obtain ⟨cs, h1, h2⟩ := ob_some h
      obtain ⟨xs, h3, h4⟩ := ob_some h2
      clear h h2
      try dsimp only at h4
      split at h4 <;> try (simp at h4; done)
      split at h4
      · simp only [Option.some.injEq] at h4; subst h4; exact dput.left
      cases m with
      | cp => simp at h4
      | bo => simp only [Option.some.injEq] at h4; subst h4; exact dput.left
      | al => simp only at h4; split at h4 <;> simp only [Option.some.injEq, reduceCtorEq] at h4; subst h4; exact dput.left
      | mv => obtain ⟨cs', h5, h6⟩ := ob_some h4; simp only [Option.some.injEq] at h6; subst h6; exact (Wr.putC _ _).right.app dput.left
      | fz => obtain ⟨cs', h5, h6⟩ := ob_some h4; simp only [Option.some.injEq] at h6; subst h6; exact (Wr.putC _ _).right.app dput.left
  | store p rs q n x =>
    simp only [fop] at h
    split at h <;> try (simp at h; done)
    split at h <;> try (simp at h; done)
    obtain ⟨⟨st, tv, w1⟩, h1, h2⟩ := ob_some h
    try dsimp only at h2
    split at h2 <;> try (simp at h2; done)
    rename_i _ g xs w2 e1
    simp only [Prod.mk.injEq] at e1
    obtain ⟨rfl, rfl, rfl⟩ := e1
    split at h2 <;> try (simp at h2; done)
    obtain ⟨cs, h3, h4⟩ := ob_some h2
    obtain ⟨cs', h5, h6⟩ := ob_some h4
    simp only [Option.some.injEq] at h6; subst h6
    exact (Wr.putC _ _).left.app (Wr.opr h1).right
  | nilc d p rs =>
    simp only [fop] at h
    split at h <;> try (simp at h; done)
    all_goals
      split at h <;> simp only [Option.some.injEq, reduceCtorEq] at h
      subst h; exact dput
  | fad d p rs o =>
    simp only [fop] at h
    split at h <;> try (simp at h; done)
    all_goals
      split at h <;> simp only [Option.some.injEq, reduceCtorEq] at h
      subst h; exact dput
  | fld d x o n g =>
    obtain ⟨⟨st, tv, w1⟩, h1, h2⟩ := ob_some h
    try dsimp only at h2
    split at h2 <;> try (simp at h2; done)
    split at h2 <;> simp only [Option.some.injEq, reduceCtorEq] at h2
    subst h2; exact dput
  | iad d x rs r i e =>
    obtain ⟨c, h1, h2⟩ := ob_some h
    try dsimp only at h2
    split at h2 <;> try (simp at h2; done)
    split at h2 <;> try (simp at h2; done)
    · split at h2
      · split at h2 <;> simp only [Option.some.injEq, reduceCtorEq] at h2
        subst h2; exact dput
      · split at h2 <;> try (simp at h2; done)
        split at h2 <;> simp only [Option.some.injEq, reduceCtorEq] at h2
        subst h2; exact dput
    · split at h2 <;> try (simp at h2; done)
      obtain ⟨cs, h3, h4⟩ := ob_some h2
      obtain ⟨xs, h5, h6⟩ := ob_some h4
      try dsimp only at h6
      split at h6 <;> try (simp at h6; done)
      split at h6 <;> try (simp at h6; done)
      split at h6 <;> simp only [Option.some.injEq, reduceCtorEq] at h6
      subst h6; exact dput
  | idx d x i =>
    obtain ⟨c, h1, h2⟩ := ob_some h
    try dsimp only at h2
    split at h2 <;> try (simp at h2; done)
    obtain ⟨c2, h3, h4⟩ := ob_some h2
    try dsimp only at h4
    split at h4 <;> try (simp at h4; done)
    split at h4 <;> try (simp at h4; done)
    split at h4 <;> simp only [Option.some.injEq, reduceCtorEq] at h4
    subst h4; exact dput
  | len d x r =>
    obtain ⟨c, h1, h2⟩ := ob_some h
    simp only [Option.some.injEq] at h2; subst h2; exact dput
  | slen d x =>
    obtain ⟨c, h1, h2⟩ := ob_some h
    try dsimp only at h2
    split at h2 <;> simp only [Option.some.injEq, reduceCtorEq] at h2
    subst h2; exact dput
  | bin d op x y =>
    obtain ⟨c, h1, h2⟩ := ob_some h
    try dsimp only at h2
    split at h2 <;> try (simp at h2; done)
    obtain ⟨c2, h3, h4⟩ := ob_some h2
    try dsimp only at h4
    split at h4 <;> try (simp at h4; done)
    obtain ⟨c3, h5, h6⟩ := ob_some h4
    simp only [Option.some.injEq] at h6; subst h6; exact dput
  | sbin d op x y =>
    obtain ⟨c, h1, h2⟩ := ob_some h
    try dsimp only at h2
    split at h2 <;> try (simp at h2; done)
    obtain ⟨c2, h3, h4⟩ := ob_some h2
    try dsimp only at h4
    split at h4 <;> try (simp at h4; done)
    split at h4 <;> try (simp at h4; done)
    · split at h4 <;> simp only [Option.some.injEq, reduceCtorEq] at h4
      subst h4; exact dput
    · simp only [Option.some.injEq] at h4; subst h4; exact dput
    · simp only [Option.some.injEq] at h4; subst h4; exact dput
  | ceq d ng g ks x y =>
    obtain ⟨⟨st, tv, w1⟩, h1, h2⟩ := ob_some h
    try dsimp only at h2
    split at h2 <;> try (simp at h2; done)
    obtain ⟨⟨st2, tv2, w2⟩, h3, h4⟩ := ob_some h2
    try dsimp only at h4
    split at h4 <;> try (simp at h4; done)
    split at h4 <;> simp only [Option.some.injEq, reduceCtorEq] at h4
    subst h4; exact dput
  | not d x =>
    obtain ⟨c, h1, h2⟩ := ob_some h
    try dsimp only at h2
    split at h2 <;> simp only [Option.some.injEq, reduceCtorEq] at h2
    subst h2; exact dput
  | neg d x =>
    obtain ⟨c, h1, h2⟩ := ob_some h
    try dsimp only at h2
    split at h2 <;> simp only [Option.some.injEq, reduceCtorEq] at h2
    subst h2; exact dput
  | conv d k x =>
    obtain ⟨c, h1, h2⟩ := ob_some h
    try dsimp only at h2
    split at h2 <;> simp only [Option.some.injEq, reduceCtorEq] at h2
    subst h2; exact dput
  | make d e z b n =>
    obtain ⟨c, h1, h2⟩ := ob_some h
    try dsimp only at h2
    split at h2 <;> try (simp at h2; done)
    split at h2 <;> simp only [Option.some.injEq, reduceCtorEq] at h2
    subst h2; exact dput
  | slice d e x r lo hi =>
    obtain ⟨c, h1, h2⟩ := ob_some h
    obtain ⟨l, h3, h4⟩ := ob_some h2
    obtain ⟨q, h5, h6⟩ := ob_some h4
    clear h h2 h4
    try dsimp only at h6
    split at h6 <;> try (simp at h6; done)
    split at h6
    · split at h6 <;> try (simp at h6; done)
      simp only [Option.some.injEq] at h6; subst h6; exact dput
    · simp only [Option.some.injEq] at h6; subst h6; exact dput
  | ssub d x lo hi =>
    obtain ⟨c, h1, h2⟩ := ob_some h
    try dsimp only at h2
    split at h2 <;> try (simp at h2; done)
    obtain ⟨l, h3, h4⟩ := ob_some h2
    obtain ⟨q, h5, h6⟩ := ob_some h4
    clear h h2 h4
    try dsimp only at h6
    split at h6 <;> simp only [Option.some.injEq, reduceCtorEq] at h6
    subst h6; exact dput
  | app d e s x xr b =>
    obtain ⟨c, h1, h2⟩ := ob_some h
    obtain ⟨l, h3, h4⟩ := ob_some h2
    try dsimp only at h4
    split at h4 <;> try (simp at h4; done)
    obtain ⟨q, h5, h6⟩ := ob_some h4
    simp only [Option.some.injEq] at h6; subst h6
    exact dput.left.app (Wr.dropL _).right
  | appa d e n rs k x xr b =>
    simp only [fop] at h
    obtain ⟨ws1, h1, h2⟩ := ob_some h
    obtain ⟨ws2, h3, h4⟩ := ob_some h2
    simp only [Option.some.injEq] at h4
    subst h4
    refine Wr.app ?_ ?_
    · unfold steal at h1
      split at h1 <;> try (simp at h1; done)
      split at h1 <;> try (simp at h1; done)
      rename_i hc
      obtain ⟨rfl, _⟩ := hc
      obtain ⟨cs, _, h5⟩ := ob_some h1
      obtain ⟨xs, _, h6⟩ := ob_some h5
      try dsimp only at h6
      split at h6 <;> try (simp at h6; done)
      obtain ⟨cs', _, h7⟩ := ob_some h6
      simp only [Option.some.injEq] at h7
      subst h7
      refine Wr.app (Wr.right (Wr.right (Wr.left ?_))) (Wr.right (Wr.left (Wr.putT _ _ _)))
      exact (Wr.putC (.b _) _).mono (by intro r hr; simpa [rR, bR, Rt.res] using hr)
    · obtain ⟨c, g1, g2⟩ := ob_some h3
      obtain ⟨l, g3, g4⟩ := ob_some g2
      try dsimp only at g4
      split at g4 <;> try (simp at g4; done)
      obtain ⟨q, g5, g6⟩ := ob_some g4
      simp only [Option.some.injEq] at g6
      subst g6
      refine Wr.app (Wr.left (Wr.putT _ _ _)) (Wr.right ?_)
      refine (Wr.dropL _).mono ?_
      intro r hr
      rw [LR_append] at hr
      rcases List.mem_append.1 hr with hr | hr
      · refine List.mem_append.2 (.inl ?_)
        simpa [oprL, LR] using hr
      · exact List.mem_append.2 (.inr (List.mem_append.2 (.inr hr)))
  | mm d b x y =>
    obtain ⟨c, h1, h2⟩ := ob_some h
    try dsimp only at h2
    split at h2 <;> try (simp at h2; done)
    obtain ⟨c2, h3, h4⟩ := ob_some h2
    try dsimp only at h4
    split at h4 <;> try (simp at h4; done)
    split at h4 <;> simp only [Option.some.injEq, reduceCtorEq] at h4
    subst h4; exact dput
  | ext d x i opn =>
    simp only [fop] at h
    split at h <;> try (simp at h; done)
    split at h <;> try (simp at h; done)
    split at h <;> try (simp at h; done)
    obtain ⟨w1, h1, h2⟩ := ob_some h
    have hp := Wr.putR h1
    simp only [wr]
    split at h2
    · simp only [Option.some.injEq] at h2; subst h2
      exact hp.mono fun r hr => by rcases List.mem_append.1 hr with h | h; exact List.mem_append.2 (.inl h); exact List.mem_append.2 (.inr (List.mem_append.2 (.inl h)))
    · split at h2 <;> simp only [Option.some.injEq, reduceCtorEq] at h2
      subst h2
      refine (hp.mono fun r hr => by rcases List.mem_append.1 hr with h | h; exact List.mem_append.2 (.inl h); exact List.mem_append.2 (.inr (List.mem_append.2 (.inl h)))).app ?_
      intro y hy
      simp at hy
      rcases hy with rfl | rfl <;> simp [dR]
  | call d f as opn =>
    obtain ⟨⟨ps, w1, bs⟩, h1, h2⟩ := ob_some h
    obtain ⟨out, h3, h4⟩ := ob_some h2
    obtain ⟨back, h5, h6⟩ := ob_some h4
    obtain ⟨w2, h7, h8⟩ := ob_some h6
    simp only [Option.some.injEq] at h8; subst h8
    simp only [wr]
    have hb := (argsOf_bs h1).1
    refine ((Wr.putR h7).mono fun r hr => by rcases List.mem_append.1 hr with h | h; exact List.mem_append.2 (.inl h); exact List.mem_append.2 (.inr (List.mem_append.2 (.inl h)))).app
      (((Wr.args h1).app (Wr.back h5 (fun n hn => hb ▸ hn))).right.right)
  | callio d f n rs r as =>
    obtain ⟨⟨q, path, off⟩, p1, h⟩ := ob_some h
    have e := ioPlace_root p1
    subst e
    obtain ⟨cs, p2, h⟩ := ob_some h
    obtain ⟨xs, p3, h⟩ := ob_some h
    try dsimp only at h
    split at h <;> try (simp at h; done)
    obtain ⟨⟨ps, w1, bs⟩, h1, h2⟩ := ob_some h
    try dsimp only at h2
    split at h2 <;> try (simp at h2; done)
    obtain ⟨out, h3, h4⟩ := ob_some h2
    try dsimp only at h4
    split at h4 <;> try (simp at h4; done)
    obtain ⟨cs', h5, h6⟩ := ob_some h4
    simp only [Option.some.injEq] at h6; subst h6
    simp only [wr]
    exact (Wr.putT _ _ _).left.app (((Wr.args h1).left.app (Wr.putC _ _).right).right)
  | toStr d x r =>
    obtain ⟨c, h1, h2⟩ := ob_some h
    try dsimp only at h2
    split at h2 <;> try (simp at h2; done)
    obtain ⟨s, h3, h4⟩ := ob_some h2
    simp only [Option.some.injEq] at h4; subst h4; exact dput
  | mkmap d => simp only [fop, Option.some.injEq] at h; subst h; exact dput
  | mlook d m rs q k =>
    obtain ⟨es, h0, h⟩ := ob_some h
    obtain ⟨c, h1, h2⟩ := ob_some h
    try dsimp only at h2
    split at h2 <;> simp only [Option.some.injEq, reduceCtorEq] at h2
    subst h2; exact dput
  | mset m rs q k x =>
    obtain ⟨es, h0, h⟩ := ob_some h
    obtain ⟨c, h1, h2⟩ := ob_some h
    try dsimp only at h2
    split at h2 <;> try (simp at h2; done)
    obtain ⟨c2, h3, h4⟩ := ob_some h2
    try dsimp only at h4
    split at h4 <;> simp only [Option.some.injEq, reduceCtorEq] at h4
    subst h4
    intro y hy
    simp at hy
    rcases hy with rfl | rfl <;> simp [wr, dR]
  | ieq d ng x =>
    obtain ⟨c, h1, h2⟩ := ob_some h
    try dsimp only at h2
    split at h2 <;> simp only [Option.some.injEq, reduceCtorEq] at h2
    subst h2; exact dput
  | mova d s k ks =>
    simp only [fop] at h
    split at h <;> try (simp at h; done)
    split at h <;> try (simp at h; done)
    obtain ⟨⟨p, off⟩, h1, h2⟩ := ob_some h
    try dsimp only at h2
    split at h2 <;> simp only [Option.some.injEq, reduceCtorEq] at h2
    subst h2
    exact ((dput.left.app (Wr.dropT s).left.right)).app (Wr.putT _ _ _).right.right
  | mkrowa d s k ks z =>
    simp only [fop] at h
    split at h <;> try (simp at h; done)
    split at h <;> try (simp at h; done)
    obtain ⟨⟨p, off⟩, h1, h2⟩ := ob_some h
    try dsimp only at h2
    split at h2 <;> simp only [Option.some.injEq, reduceCtorEq] at h2
    subst h2
    exact ((dput.left.app (Wr.dropT s).left.right)).app (Wr.putT _ _ _).right.right
  | ldm d p k off n a =>
    simp only [fop] at h
    split at h <;> try (simp at h; done)
    split at h <;> try (simp at h; done)
    split at h <;> try (simp at h; done)
    split at h <;> simp only [Option.some.injEq, reduceCtorEq] at h
    subst h; exact (Wr.putC _ _).right.app dput.left
  | storea p rs q x k ks =>
    simp only [fop] at h
    split at h <;> try (simp at h; done)
    split at h <;> try (simp at h; done)
    split at h <;> try (simp at h; done)
    split at h <;> try (simp at h; done)
    obtain ⟨c, h1, h2⟩ := ob_some h
    try dsimp only at h2
    split at h2 <;> try (simp at h2; done)
    obtain ⟨cs, h3, h4⟩ := ob_some h2
    obtain ⟨xs, h5, h6⟩ := ob_some h4
    try dsimp only at h6
    split at h6 <;> try (simp at h6; done)
    obtain ⟨ys, h7, h8⟩ := ob_some h6
    try dsimp only at h8
    split at h8 <;> try (simp at h8; done)
    obtain ⟨cs', h9, h10⟩ := ob_some h8
    obtain ⟨zs, h11, h12⟩ := ob_some h10
    simp only [Option.some.injEq] at h12
    subst h12
    exact (Wr.putC _ _).left.app (Wr.putT _ _ _).right
end
end Go.Fw
namespace Go.Fw
open Go

def isStr (P : Program) (t : TypeId) : Bool := match P.underlying t with | some .string => true | _ => false
def isInt (P : Program) (t : TypeId) (k : IntKind) : Bool := match P.underlying t with | some (.int k') => decide (k = k') | _ => false
def elOf (P : Program) (t : TypeId) : Option TypeId := match P.underlying t with | some (.slice e) => some e | _ => none
def isPtr (P : Program) (t : TypeId) : Bool := match P.underlying t with | some (.pointer _) => true | _ => false
theorem isStr_spec {P : Program} {t : TypeId} (h : isStr P t = true) : P.underlying t = some .string := by unfold isStr at h; split at h <;> simp_all
theorem isInt_spec {P : Program} {t : TypeId} {k : IntKind} (h : isInt P t k = true) : P.underlying t = some (.int k) := by unfold isInt at h; split at h <;> simp_all
theorem elOf_spec {P : Program} {t e : TypeId} (h : elOf P t = some e) : P.underlying t = some (.slice e) := by unfold elOf at h; split at h <;> simp_all
theorem isPtr_spec {P : Program} {t : TypeId} (h : isPtr P t = true) : ∃ e, P.underlying t = some (.pointer e) := by unfold isPtr at h; split at h <;> simp_all

def dstOk (N d : Nat) (o : Oper) : Bool := o.dst == some d && decide (d < N)

def callOk (P : Program) (f : FuncId) : Bool := match P.funcs[f]? with | some fn => !(fn.name == "runtime.NumGoroutine") && fn.body.isSome | none => false
def passOk (as : List Arg) : Bool := (argsR as).all fun q => match q with | .t n => !(argsL as).contains n | .b n => !(argsB as).contains n

def mop (P : Program) (N : Nat) (x : IOp) (o : Oper) : Bool :=
  match x, o.op with
  | .mov d x, .move y => dstOk N d o && oprOk x y && sep d x
  | .mov d x, .assign y => dstOk N d o && oprOk x y && sep d x
  | .alias d s rs, .move (.tmp s') => dstOk N d o && s == s' && !rs.contains (.t d)
  | .alias d s rs, .assign (.tmp s') => dstOk N d o && s == s' && !rs.contains (.t d)
  | .pick d c x x', .pick z y y' => dstOk N d o && oprOk c z && oprOk x y && oprOk x' y' && sep d x && sep d x' && (oprL x).isEmpty && (oprL x').isEmpty
  | .alloc d cs, .alloc t => dstOk N d o && zeroOk P t cs
  | .box d x, .box _ y => dstOk N d o && oprOk x y && sep d x
  | .build d z ps, .build t qs => dstOk N d o && zeroOk P t z && (match structPlaces P t with | some pl => psOk (pl.toArray[·]?) ps qs.toList | none => false) && decide (oprsL ps).Nodup && !(oprsL ps).contains d &&
      !(oprsR ps).contains (.t d) && (oprsL ps).all fun n => !(oprsR ps).contains (.t n)
  | .mkrow d e z n ps, .buildSlice t n' qs => dstOk N d o && n == n' && (match rowTy P t with | some (el, e', _) => e == e' && zeroOk P el z | none => false) && decide (n * e ≤ 16777216) &&
      psOk (fun i => some (i * e, e)) ps qs.toList && decide (oprsL ps).Nodup && !(oprsL ps).contains d
  | .mova d s k _, .move (.tmp s') => dstOk N d o && s == s' && !(d == k)
  | .mova d s k _, .assign (.tmp s') => dstOk N d o && s == s' && !(d == k)
  | .mkrowa d s k _ z, .buildSlice t n' qs => dstOk N d o && n' == 1 && (match rowTy P t with | some (el, e', _) => e' == 1 && zeroOk P el z | none => false) &&
      (match qs.toList with | [(0, .tmp s')] => s' == s | _ => false) && !(d == k)
  | .storea p _ _ x _ _, .store t (.tmp p') y => o.dst == none && p == p' && tySize P t == some 1 && oprOk x y
  | .ldm d p _ _ n g, .load t (.tmp p') => dstOk N d o && p == p' && tySize P t == some n && isAggB P t == some g && (g || n == 1)
  | .load d p rs r n g _, .load t (.tmp p') => dstOk N d o && p == p' && tySize P t == some n && isAggB P t == some g && (g || n == 1) && !rs.contains (.t d) && !(r == some (.t d))
  | .store p _ q n x, .store t (.tmp p') y => o.dst == none && p == p' && tySize P t == some n && oprOk x y && (oprL x).all fun k => !(q == .t k)
  | .nilc d p rs, .nilCheck (.tmp p') => dstOk N d o && p == p' && !rs.contains (.t d)
  | .fad d p rs k, .fieldAddr s (.tmp p') f => dstOk N d o && p == p' && fieldOff P s f == some k && !rs.contains (.t d)
  | .fld d x k n g, .field s y f => dstOk N d o && fieldIs P s f == some (k, n, g) && (g || n == 1) && oprOk x y && sep d x && (oprL x).isEmpty
  | .iad d x rs r i e, .indexAddr t (.tmp x') j => dstOk N d o && x == x' && (match elOf P t with | some el => tySize P el == some e | none => false) && oprOk i j && !rs.contains (.t d) && !(r == some (.t d))
  | .idx d x i, .index t y j => dstOk N d o && isStr P t && oprOk x y && oprOk i j
  | .len d x _, .call c => dstOk N d o && (match c.callee with | .builtin .len => (match c.args.toList, c.argTypes.toList with | [y], [t] => (elOf P t).isSome && oprOk x y | _, _ => false) | _ => false)
  | .slen d x, .call c => dstOk N d o && (match c.callee with | .builtin .len => (match c.args.toList, c.argTypes.toList with | [y], [t] => isStr P t && oprOk x y | _, _ => false) | _ => false)
  | .bin d op x x', .binOp b _ y y' _ => dstOk N d o && decide (b = op.op) && oprOk x y && oprOk x' y'
  | .sbin d op x x', .binOp b _ y y' _ => dstOk N d o && decide (b = op.op) && oprOk x y && oprOk x' y'
  | .ceq d ng g ks x x', .binOp b t y y' _ => dstOk N d o && decide (b = if ng then .neq else .eql) && flatTy P 10000 t == some ks && isAggB P t == some g && (if g then !P.eqGuardType P.depth t else ks == [.bool]) && oprOk x y && oprOk x' y'
  | .not d x, .unOp .not _ y => dstOk N d o && oprOk x y
  | .neg d x, .unOp .neg _ y => dstOk N d o && oprOk x y
  | .conv d k x, .convert t s y => dstOk N d o && (P.underlying t).isSome && isInt P s k && oprOk x y
  | .make d e z b n, .makeSlice t y y' => dstOk N d o && (match rowTy P t with | some (el, e', b') => e == e' && b == b' && zeroOk P el z | none => false) && oprOk n y && oprOk n y'
  | .slice d e x r lo hi, .slice t y lo' hi' none => dstOk N d o && (match elOf P t with | some el => tySize P el == some e | none => false) && oprOk x y && optOk lo lo' && optOk hi hi' && sep d x && !(r == some (.t d)) && (oprL x).isEmpty
  | .ssub d x lo hi, .slice t y lo' hi' none => dstOk N d o && isStr P t && oprOk x y && optOk lo lo' && optOk hi hi'
  | .app d e s x _ b, .call c => dstOk N d o && (match c.callee with
      | .builtin .append => (match c.args.toList, c.argTypes.toList with
        | [y, y'], [t, t'] => (match rowTy P t with | some (_, e', b') => e == e' && b == b' | none => false) && (elOf P t').isSome && oprOk s y && oprOk x y' && decide (oprL s ++ oprL x).Nodup && !(oprL s ++ oprL x).contains d
        | _, _ => false)
      | _ => false)
  | .mm d mx x x', .call c => dstOk N d o && (match c.callee with
      | .builtin b => decide (b = if mx then .max else .min) && (match c.args.toList with | [y, y'] => oprOk x y && oprOk x' y' | _ => false)
      | _ => false)
  | .ext d x i _, .extract y i' => dstOk N d o && i == i' && oprOk x y
  | .call d f as _, .call c => dstOk N d o && (match c.callee with
      | .value (.func f') => f == f' && callOk P f && argsOk as c.args.toList && decide (argsL as).Nodup && !(argsL as).contains d && passOk as
      | _ => false)
  | .callio d f n _ r as, .call c => dstOk N d o && (match c.callee with
      | .value (.func f') => (match c.args.toList with
        | .tmp n' :: ys => f == f' && n == n' && callOk P f && argsOk as ys && decide (argsL as).Nodup && !(argsL as).contains d && (argsR as).isEmpty && (match ioRoot n r with | .t s => s != d && !(argsL as).contains s | .b _ => true)
        | _ => false)
      | _ => false)
  | .toStr d x _, .convert t s y => dstOk N d o && isStr P s && (match elOf P t with | some el => isInt P el .u8 | none => false) && oprOk x y
  | .appa d e n _ _ x _ b, .call c => dstOk N d o && (match c.callee with
      | .builtin .append => (match c.args.toList, c.argTypes.toList with
        | [.tmp n', y'], [t, t'] => n == n' && (match rowTy P t with | some (_, e', b') => e == e' && b == b' | none => false) && (elOf P t').isSome && oprOk x y' && decide (oprL (.m n) ++ oprL x).Nodup && !(oprL (.m n) ++ oprL x).contains d
        | _, _ => false)
      | _ => false)
  | .ieq d ng x, .binOp b t y (.const .nilIface) _ => dstOk N d o && decide (b = if ng then .neq else .eql) && oprOk x y && isIface P t
  | .mkmap d, .makeMap _ none => dstOk N d o
  | .mlook d m _ _ k, .lookup t (.tmp m') y false => dstOk N d o && m == m' && mapTy P t && oprOk k y
  | .mset m _ _ k x, .mapUpdate t (.tmp m') y z => o.dst == none && m == m' && mapTy P t && oprOk k y && oprOk x z
  | _, _ => false

section
variable {P : Program} {E : Env} {v : Res → Val} {o : Oper} {a : Act} {w : World} {β : Nat → Nat} {φ : Res → Foot}

theorem dstOk_spec {N d : Nat} (h : dstOk N d o = true) (hN : N ≤ a.tmps.size) : o.dst = some d ∧ d < a.tmps.size := by
  simp only [dstOk, Bool.and_eq_true, beq_iff_eq, decide_eq_true_eq] at h
  exact ⟨h.1, by omega⟩

theorem ldm_load {Γ : Gam} {v : Res → Val} {d p k off n : Nat} {a : Bool} {ws : List (Res × Val)} (h : fop Γ v (.ldm d p k off n a) = some ws) : fop Γ v (.load d p [] (some (.b k)) n a .mv) = some ws := by
  simp only [fop] at h ⊢
  split at h <;> try (simp at h; done)
  rename_i k' off' hv
  split at h <;> try (simp at h; done)
  rename_i hc
  obtain ⟨rfl, rfl, hdp⟩ := hc
  split at h <;> try (simp at h; done)
  rename_i cs hb
  split at h <;> try (simp at h; done)
  rename_i hl
  simp only [hv, stOk, content, hb, ob, cellsAt, setAt, List.length_replicate, List.length_drop, hl.2, Bool.true_and, BEq.rfl, if_true, hl.1, Bool.false_eq_true, if_false]
  rw [if_pos (by omega)]
  exact h


theorem op_sound {Γ : Gam} (hΓ : SatE P E Γ) (h : RelW E v (tmv a) w β φ) (hC : ∀ b, E.C b → b < E.w0.heap.size) {N : Nat} (hN : N ≤ a.tmps.size) {x : IOp} (hm : mop P N x o = true) {ws : List (Res × Val)} (hf : fop Γ v x = some ws) :
    OpSound P E (appl v ws) o a w := by
  unfold mop at hm
  split at hm <;> try simp only [Bool.and_eq_true, Bool.not_eq_true', beq_iff_eq, decide_eq_true_eq, List.isEmpty_iff, Bool.or_eq_true, Bool.false_eq_true] at hm
  · rename_i _ _ d x y hop
    obtain ⟨⟨hd, h1⟩, h2⟩ := hm
    obtain ⟨hd, hN⟩ := dstOk_spec hd hN
    exact mov_sound h hC (.inl hop) hd hN h1 h2 hf
  · rename_i _ _ d x y hop
    obtain ⟨⟨hd, h1⟩, h2⟩ := hm
    obtain ⟨hd, hN⟩ := dstOk_spec hd hN
    exact mov_sound h hC (.inr hop) hd hN h1 h2 hf
  · rename_i _ _ d s rs s' hop
    obtain ⟨⟨hd, rfl⟩, h1⟩ := hm
    obtain ⟨hd, hN⟩ := dstOk_spec hd hN
    exact alias_sound h hC (.inl hop) hd hN h1 hf
  · rename_i _ _ d s rs s' hop
    obtain ⟨⟨hd, rfl⟩, h1⟩ := hm
    obtain ⟨hd, hN⟩ := dstOk_spec hd hN
    exact alias_sound h hC (.inr hop) hd hN h1 hf
  · rename_i _ _ d c x x' z y y' hop
    obtain ⟨⟨⟨⟨⟨⟨⟨hd, h1⟩, h2⟩, h3⟩, h4⟩, h5⟩, h6⟩, h7⟩ := hm
    obtain ⟨hd, hN⟩ := dstOk_spec hd hN
    exact pick_sound h hC hop hd hN h1 h2 h3 h4 h5 h6 h7 hf
  · rename_i _ _ d cs t hop
    obtain ⟨hd, h1⟩ := hm
    obtain ⟨hd, hN⟩ := dstOk_spec hd hN
    exact alloc_sound h hC hop hd hN h1 hf
  · rename_i _ _ d x t y hop
    obtain ⟨⟨hd, h1⟩, h2⟩ := hm
    obtain ⟨hd, hN⟩ := dstOk_spec hd hN
    exact box_sound h hC hop hd hN h1 h2 hf
  · rename_i _ _ d z ps t qs hop
    obtain ⟨⟨⟨⟨⟨⟨hd, h1⟩, h2⟩, h3⟩, h4⟩, h5⟩, h6⟩ := hm
    obtain ⟨hd, hN⟩ := dstOk_spec hd hN
    split at h2 <;> try (simp at h2; done)
    rename_i pl hpl
    refine build_sound h hC hop hd hN h1 hpl h2 h3 (by simpa using h4) (by simpa using h5) (fun n hn => ?_) hf
    have := List.all_eq_true.1 h6 n hn
    simpa using this
  · rename_i _ _ d e z n ps t n' qs hop
    obtain ⟨⟨⟨⟨⟨⟨hd, rfl⟩, h1⟩, h2⟩, h3⟩, h4⟩, h5⟩ := hm
    obtain ⟨hd, hN⟩ := dstOk_spec hd hN
    split at h1 <;> try (simp at h1; done)
    rename_i el e' by_ hr
    simp only [Bool.and_eq_true, beq_iff_eq] at h1
    obtain ⟨rfl, h1⟩ := h1
    exact mkrow_sound h hC hop hd hN hr h1 h2 h3 h4 (by simpa using h5) hf
  · rename_i _ _ d s k ks s' hop
    obtain ⟨⟨hd, rfl⟩, h1⟩ := hm
    obtain ⟨hd, hN⟩ := dstOk_spec hd hN
    exact mova_sound h hC (.inl hop) hd hN (by simpa using h1) hf
  · rename_i _ _ d s k ks s' hop
    obtain ⟨⟨hd, rfl⟩, h1⟩ := hm
    obtain ⟨hd, hN⟩ := dstOk_spec hd hN
    exact mova_sound h hC (.inr hop) hd hN (by simpa using h1) hf
  · rename_i _ _ d s k ks z t n' qs hop
    obtain ⟨⟨⟨⟨hd, rfl⟩, h1⟩, h2⟩, h3⟩ := hm
    obtain ⟨hd, hN⟩ := dstOk_spec hd hN
    split at h1 <;> try (simp at h1; done)
    rename_i el e' by_ hr
    simp only [Bool.and_eq_true, beq_iff_eq] at h1
    obtain ⟨rfl, h1⟩ := h1
    split at h2 <;> try (simp at h2; done)
    rename_i k' hqs
    simp only [beq_iff_eq] at h2
    subst h2
    have hqs' : qs = #[(0, .tmp k')] := Array.ext' hqs
    subst hqs'
    exact mkrowa_sound h hC hop hd hN hr h1 (by simpa using h3) hf
  · rename_i _ _ p rs q x k ks t p' y hop
    obtain ⟨⟨⟨hd, rfl⟩, h1⟩, h2⟩ := hm
    exact storea_sound h hC hop hd h1 h2 hf
  · rename_i _ _ d p k off n g t p' hop
    obtain ⟨⟨⟨⟨hd, rfl⟩, h1⟩, h2⟩, h3⟩ := hm
    obtain ⟨hd, hN⟩ := dstOk_spec hd hN
    have hg : g = false → n = 1 := fun e => by rcases h3 with h3 | h3; rw [e] at h3; simp at h3; exact h3
    exact loadm_sound h hC hop hd hN h1 h2 hg (rs := []) (by simp) (r := some (.b k)) (by simp) (.inl rfl) (ldm_load hf)
  · rename_i _ _ d p rs r n g m t p' hop
    obtain ⟨⟨⟨⟨⟨⟨hd, rfl⟩, h1⟩, h2⟩, h3⟩, h4⟩, h5⟩ := hm
    obtain ⟨hd, hN⟩ := dstOk_spec hd hN
    have hg : g = false → n = 1 := fun e => by rcases h3 with h3 | h3; rw [e] at h3; simp at h3; exact h3
    have h5' : r ≠ some (.t d) := by simpa using h5
    cases m with
    | mv => exact loadm_sound h hC hop hd hN h1 h2 hg h4 h5' (.inl rfl) hf
    | fz => exact loadm_sound h hC hop hd hN h1 h2 hg h4 h5' (.inr rfl) hf
    | cp => exact load_sound h hC hop hd hN h1 h2 hg h4 h5' (by simp) hf
    | bo => exact load_sound h hC hop hd hN h1 h2 hg h4 h5' (by simp) hf
    | al => exact load_sound h hC hop hd hN h1 h2 hg h4 h5' (by simp) hf
  · rename_i _ _ p rs q n x t p' y hop
    obtain ⟨⟨⟨⟨hd, rfl⟩, h1⟩, h2⟩, h3⟩ := hm
    refine store_sound h hC hop hd h1 h2 (fun k hk => ?_) hf
    have := List.all_eq_true.1 h3 k hk
    simpa using this
  · rename_i _ _ d p rs p' hop
    obtain ⟨⟨hd, rfl⟩, h1⟩ := hm
    obtain ⟨hd, hN⟩ := dstOk_spec hd hN
    exact nilc_sound h hC hop hd hN h1 hf
  · rename_i _ _ d p rs k s p' f hop
    obtain ⟨⟨⟨hd, rfl⟩, h1⟩, h2⟩ := hm
    obtain ⟨hd, hN⟩ := dstOk_spec hd hN
    exact fad_sound h hC hop hd hN h1 h2 hf
  · rename_i _ _ d x k n g s y f hop
    obtain ⟨⟨⟨⟨⟨hd, h1⟩, h2⟩, h3⟩, h4⟩, h5⟩ := hm
    obtain ⟨hd, hN⟩ := dstOk_spec hd hN
    exact fld_sound h hC hop hd hN h1 (fun e => by rcases h2 with h2 | h2; rw [e] at h2; simp at h2; exact h2) h3 h4 h5 hf
  · rename_i _ _ d x rs r i e t x' j hop
    obtain ⟨⟨⟨⟨⟨hd, rfl⟩, h1⟩, h2⟩, h3⟩, h4⟩ := hm
    obtain ⟨hd, hN⟩ := dstOk_spec hd hN
    split at h1 <;> try (simp at h1; done)
    rename_i el hel
    rw [beq_iff_eq] at h1
    exact iad_sound h hC hop hd hN (elOf_spec hel) h1 h2 h3 (by simpa using h4) hf
  · rename_i _ _ d x i t y j hop
    obtain ⟨⟨⟨hd, h1⟩, h2⟩, h3⟩ := hm
    obtain ⟨hd, hN⟩ := dstOk_spec hd hN
    exact idx_sound h hC hop hd hN (isStr_spec h1) h2 h3 hf
  · rename_i _ _ d x r c hop
    obtain ⟨hd, h1⟩ := hm
    obtain ⟨hd, hN⟩ := dstOk_spec hd hN
    obtain ⟨callee, args, ts⟩ := c
    simp only at h1
    split at h1 <;> try (simp at h1; done)
    split at h1 <;> try (simp at h1; done)
    rename_i y t e1 e2
    simp only [Bool.and_eq_true] at h1
    obtain ⟨el, hel⟩ := Option.isSome_iff_exists.1 h1.1
    have a1 : args = #[y] := Array.ext' e1
    have a2 : ts = #[t] := Array.ext' e2
    subst a1 a2
    exact len_sound h hC hop hd hN (elOf_spec hel) h1.2 hf
  · rename_i _ _ d x c hop
    obtain ⟨hd, h1⟩ := hm
    obtain ⟨hd, hN⟩ := dstOk_spec hd hN
    obtain ⟨callee, args, ts⟩ := c
    simp only at h1
    split at h1 <;> try (simp at h1; done)
    split at h1 <;> try (simp at h1; done)
    rename_i y t e1 e2
    simp only [Bool.and_eq_true] at h1
    have a1 : args = #[y] := Array.ext' e1
    have a2 : ts = #[t] := Array.ext' e2
    subst a1 a2
    exact slen_sound h hC hop hd hN (isStr_spec h1.1) h1.2 hf
  · rename_i _ _ d op x x' b t y y' t' hop
    obtain ⟨⟨⟨hd, rfl⟩, h2⟩, h3⟩ := hm
    obtain ⟨hd, hN⟩ := dstOk_spec hd hN
    exact bin_sound h hC hop hd hN h2 h3 hf
  · rename_i _ _ d op x x' b t y y' t' hop
    obtain ⟨⟨⟨hd, rfl⟩, h2⟩, h3⟩ := hm
    obtain ⟨hd, hN⟩ := dstOk_spec hd hN
    exact sbin_sound h hC hop hd hN h2 h3 hf
  · rename_i _ _ d ng g ks x x' b t y y' t' hop
    obtain ⟨⟨⟨⟨⟨⟨hd, rfl⟩, h1⟩, h2⟩, h3⟩, h4⟩, h5⟩ := hm
    obtain ⟨hd, hN⟩ := dstOk_spec hd hN
    exact ceq_sound h hC hop hd hN h1 h2 (by cases g <;> simpa using h3) h4 h5 hf
  · rename_i _ _ d x t y hop
    obtain ⟨hd, h1⟩ := hm
    obtain ⟨hd, hN⟩ := dstOk_spec hd hN
    exact not_sound h hC hop hd hN h1 hf
  · rename_i _ _ d x t y hop
    obtain ⟨hd, h1⟩ := hm
    obtain ⟨hd, hN⟩ := dstOk_spec hd hN
    exact neg_sound h hC hop hd hN h1 hf
  · rename_i _ _ d k x t s y hop
    obtain ⟨⟨⟨hd, h1⟩, h2⟩, h3⟩ := hm
    obtain ⟨hd, hN⟩ := dstOk_spec hd hN
    exact conv_sound h hC hop hd hN h1 (isInt_spec h2) h3 hf
  · rename_i _ _ d e z b n t y y' hop
    obtain ⟨⟨⟨hd, h1⟩, h2⟩, h3⟩ := hm
    obtain ⟨hd, hN⟩ := dstOk_spec hd hN
    split at h1 <;> try (simp at h1; done)
    rename_i el e' b' hr
    simp only [Bool.and_eq_true, beq_iff_eq] at h1
    obtain ⟨⟨rfl, rfl⟩, h1⟩ := h1
    exact make_sound h hC hop hd hN hr h1 h2 h3 hf
  · rename_i _ _ d e x r lo hi t y lo' hi' hop
    obtain ⟨⟨⟨⟨⟨⟨⟨hd, h1⟩, h2⟩, h3⟩, h4⟩, h5⟩, h6⟩, h7⟩ := hm
    obtain ⟨hd, hN⟩ := dstOk_spec hd hN
    split at h1 <;> try (simp at h1; done)
    rename_i el hel
    rw [beq_iff_eq] at h1
    exact slice_sound h hC hop hd hN (elOf_spec hel) h1 h2 h3 h4 h5 (by simpa using h6) h7 hf
  · rename_i _ _ d x lo hi t y lo' hi' hop
    obtain ⟨⟨⟨⟨hd, h1⟩, h2⟩, h3⟩, h4⟩ := hm
    obtain ⟨hd, hN⟩ := dstOk_spec hd hN
    exact ssub_sound h hC hop hd hN (isStr_spec h1) h2 h3 h4 hf
  · rename_i _ _ d e s x xr b c hop
    obtain ⟨hd, h1⟩ := hm
    obtain ⟨hd, hN⟩ := dstOk_spec hd hN
    obtain ⟨callee, args, ts⟩ := c
    simp only at h1
    split at h1 <;> try (simp at h1; done)
    split at h1 <;> try (simp at h1; done)
    rename_i y y' t t' e1 e2
    simp only [Bool.and_eq_true, decide_eq_true_eq, Bool.not_eq_true'] at h1
    obtain ⟨⟨⟨⟨⟨h1, h2⟩, h3⟩, h4⟩, h5⟩, h6⟩ := h1
    split at h1 <;> try (simp at h1; done)
    rename_i el e' b' hr
    simp only [Bool.and_eq_true, beq_iff_eq] at h1
    obtain ⟨rfl, rfl⟩ := h1
    obtain ⟨el', hel⟩ := Option.isSome_iff_exists.1 h2
    have a1 : args = #[y, y'] := Array.ext' e1
    have a2 : ts = #[t, t'] := Array.ext' e2
    subst a1 a2
    exact app_sound h hC hop hd hN hr (elOf_spec hel) h3 h4 h5 (by simpa using h6) hf
  · rename_i _ _ d mx x x' c hop
    obtain ⟨hd, h1⟩ := hm
    obtain ⟨hd, hN⟩ := dstOk_spec hd hN
    obtain ⟨callee, args, ts⟩ := c
    simp only at h1
    split at h1 <;> try (simp at h1; done)
    simp only [Bool.and_eq_true, decide_eq_true_eq] at h1
    obtain ⟨rfl, h1⟩ := h1
    split at h1 <;> try (simp at h1; done)
    rename_i y y' e1
    simp only [Bool.and_eq_true] at h1
    have a1 : args = #[y, y'] := Array.ext' e1
    subst a1
    exact mm_sound h hC hop hd hN h1.1 h1.2 hf
  · rename_i _ _ d x i opn y i' hop
    obtain ⟨⟨hd, rfl⟩, h1⟩ := hm
    obtain ⟨hd, hN⟩ := dstOk_spec hd hN
    exact ext_sound h hC hop hd hN h1 hf
  · rename_i _ _ d f as opn c hop
    obtain ⟨hd, h1⟩ := hm
    obtain ⟨hd, hN⟩ := dstOk_spec hd hN
    obtain ⟨callee, args, ts⟩ := c
    simp only at h1
    split at h1 <;> try (simp at h1; done)
    rename_i f'
    simp only [Bool.and_eq_true, decide_eq_true_eq, Bool.not_eq_true', beq_iff_eq] at h1
    obtain ⟨⟨⟨⟨⟨rfl, h1⟩, h2⟩, h3⟩, h4⟩, h5⟩ := h1
    unfold callOk at h1
    split at h1 <;> try (simp at h1; done)
    rename_i fn hfn
    simp only [Bool.and_eq_true, Bool.not_eq_true'] at h1
    obtain ⟨bd, hb⟩ := Option.isSome_iff_exists.1 h1.2
    refine call_sound hΓ h hC hop hd hN hfn h1.1 hb h2 h3 (by simpa using h4) (fun q hq hp => ?_) hf
    have := List.all_eq_true.1 h5 q hq
    rcases hp with ⟨n, hn, e⟩ | ⟨n, hn, e⟩ <;> cases q <;> simp [Rt.res] at e <;> subst e <;> simp at this <;> exact this hn
  · rename_i _ _ d f n rs r as c hop
    obtain ⟨hd, h1⟩ := hm
    obtain ⟨hd, hN⟩ := dstOk_spec hd hN
    obtain ⟨callee, args, ts⟩ := c
    simp only at h1
    split at h1 <;> try (simp at h1; done)
    rename_i f'
    split at h1 <;> try (simp at h1; done)
    rename_i n' ys' hys
    simp only [Bool.and_eq_true, decide_eq_true_eq, Bool.not_eq_true', beq_iff_eq, List.isEmpty_iff] at h1
    obtain ⟨⟨⟨⟨⟨⟨⟨rfl, rfl⟩, h1⟩, h2⟩, h3⟩, h4⟩, h5⟩, h6⟩ := h1
    unfold callOk at h1
    split at h1 <;> try (simp at h1; done)
    rename_i fn hfn
    simp only [Bool.and_eq_true, Bool.not_eq_true'] at h1
    obtain ⟨bd, hb⟩ := Option.isSome_iff_exists.1 h1.2
    refine callio_sound hΓ h hC hop hys hd hN hfn h1.1 hb h2 h3 (by simpa using h4) (fun s hs => ?_) h5 hf
    rw [hs] at h6
    simpa using h6
  · rename_i _ _ d x r t s y hop
    obtain ⟨⟨⟨hd, h1⟩, h2⟩, h3⟩ := hm
    obtain ⟨hd, hN⟩ := dstOk_spec hd hN
    split at h2 <;> try (simp at h2; done)
    rename_i el hel
    exact toStr_sound h hC hop hd hN (elOf_spec hel) (isStr_spec h1) (isInt_spec h2) h3 hf
  · rename_i _ _ d e n rs k x xr b c hop
    obtain ⟨hd, h1⟩ := hm
    obtain ⟨hd, hN⟩ := dstOk_spec hd hN
    obtain ⟨callee, args, ts⟩ := c
    simp only at h1
    split at h1 <;> try (simp at h1; done)
    split at h1 <;> try (simp at h1; done)
    rename_i n' y' t t' e1 e2
    simp only [Bool.and_eq_true, decide_eq_true_eq, Bool.not_eq_true', beq_iff_eq] at h1
    obtain ⟨⟨⟨⟨⟨rfl, h1⟩, h2⟩, h4⟩, h5⟩, h6⟩ := h1
    split at h1 <;> try (simp at h1; done)
    rename_i el e' b' hr
    simp only [Bool.and_eq_true, beq_iff_eq] at h1
    obtain ⟨rfl, rfl⟩ := h1
    obtain ⟨el', hel⟩ := Option.isSome_iff_exists.1 h2
    have a1 : args = #[.tmp n, y'] := Array.ext' e1
    have a2 : ts = #[t, t'] := Array.ext' e2
    subst a1 a2
    exact appa_sound h hC hop hd hN hr (elOf_spec hel) h4 h5 (by simpa using h6) hf
  · rename_i _ _ d ng x b t y tt hop
    obtain ⟨⟨⟨hd, h1⟩, h2⟩, h3⟩ := hm
    obtain ⟨hd, hN⟩ := dstOk_spec hd hN
    exact ieq_sound h hC hop h1 hd hN h2 h3 hf
  · rename_i _ _ d t hop
    obtain ⟨hd, hN⟩ := dstOk_spec hm hN
    exact mkmap_sound h hC hop hd hN hf
  · rename_i _ _ d m rs q k t m' y hop
    obtain ⟨⟨⟨hd, rfl⟩, h1⟩, h2⟩ := hm
    obtain ⟨hd, hN⟩ := dstOk_spec hd hN
    exact mlook_sound h hC hop hd hN h1 h2 hf
  · rename_i _ _ m rs q k x t m' y z hop
    obtain ⟨⟨⟨⟨hd, rfl⟩, h1⟩, h2⟩, h3⟩ := hm
    exact mset_sound h hC hop hd h1 h2 h3 hf
end
end Go.Fw
namespace Go.Fw
open Go

theorem appl_key {ws : List (Res × Val)} {r : Res} : ∀ {v v' : Res → Val}, (∃ y ∈ ws, y.1 = r) ∨ v r = v' r → appl v ws r = appl v' ws r := by
  induction ws with
  | nil =>
    intro v v' h
    rcases h with ⟨y, h, _⟩ | h
    · simp at h
    · exact h
  | cons x ws ih =>
    intro v v' h
    obtain ⟨s, e⟩ := x
    refine ih ?_
    rcases h with ⟨y, hy, hr⟩ | h
    · rcases List.mem_cons.1 hy with rfl | hy
      · right; simp only at hr; simp [hr]
      · exact .inl ⟨y, hy, hr⟩
    · right
      by_cases hs : r = s
      · simp [hs]
      · simp [hs, h]

section
variable {n : Nat} {vi : Nat → Res → Val} {ws : Nat → List (Res × Val)} {R W : Nat → List Res} {B : Nat → Nat → Prop}

/-- What was reached when the operations of a set are done. -/
def Inv (n : Nat) (vi : Nat → Res → Val) (W : Nat → List Res) (S : Nat → Prop) (v : Res → Val) : Prop :=
  ∀ r k, k ≤ n → (∀ j, j < k → r ∈ W j → S j) → (∀ j, k ≤ j → j < n → r ∈ W j → ¬ S j) → v r = vi k r

theorem inv_step (hstep : ∀ i, i < n → vi (i + 1) = appl (vi i) (ws i)) (hw : ∀ i, i < n → Wr (ws i) (W i))
    (hB : ∀ i j, i < j → j < n → (∃ r, (r ∈ W i ∧ (r ∈ R j ∨ r ∈ W j)) ∨ (r ∈ R i ∧ r ∈ W j)) → B i j) {S : Nat → Prop} (hcl : ∀ i j, j < n → B i j → S j → S i) {v : Res → Val} (hI : Inv n vi W S v)
    {i : Nat} (hi : i < n) (hni : ¬ S i) (hpre : ∀ j, B j i → S j) : Agr v (vi i) (R i ++ W i) ∧ Inv n vi W (fun j => S j ∨ j = i) (appl v (ws i)) := by
  have agr : Agr v (vi i) (R i ++ W i) := by
    intro r hr
    refine hI r i (by omega) (fun j hj hrj => hpre j (hB j i hj hi ⟨r, ?_⟩)) (fun j hj hjn hrj hs => ?_)
    · rcases List.mem_append.1 hr with h | h
      · exact .inl ⟨hrj, .inl h⟩
      · exact .inl ⟨hrj, .inr h⟩
    · rcases Nat.eq_or_lt_of_le hj with rfl | hlt
      · exact hni hs
      · refine hni (hcl i j hjn (hB i j hlt hjn ⟨r, ?_⟩) hs)
        rcases List.mem_append.1 hr with h | h
        · exact .inr ⟨h, hrj⟩
        · exact .inl ⟨h, .inr hrj⟩
  refine ⟨agr, fun r k hk h1 h2 => ?_⟩
  by_cases hr : r ∈ W i
  · have hik : i < k := by
      refine Nat.lt_of_not_le fun h => ?_
      exact h2 i h hi hr (.inr rfl)
    have e1 : appl v (ws i) r = appl (vi i) (ws i) r := appl_key (.inr (agr r (List.mem_append.2 (.inr hr))))
    rw [e1, ← hstep i hi]
    -- nobody else writes it up to k
    have key : ∀ m, i + 1 + m ≤ k → vi (i + 1 + m) r = vi (i + 1) r := by
      intro m
      induction m with
      | zero => intro _; rfl
      | succ m ih =>
        intro hm
        rw [← ih (by omega), show i + 1 + (m + 1) = (i + 1 + m) + 1 by omega, hstep _ (by omega)]
        refine appl_not fun y hy e => ?_
        have hyw := hw _ (by omega) y hy
        rw [e] at hyw
        have hs := h1 (i + 1 + m) (by omega) hyw
        rcases hs with hs | hs
        · exact hni (hcl i _ (by omega) (hB i _ (by omega) (by omega) ⟨r, .inl ⟨hr, .inr hyw⟩⟩) hs)
        · omega
    rw [show k = i + 1 + (k - (i + 1)) by omega]
    exact (key _ (by omega)).symm
  · have e1 : appl v (ws i) r = v r := appl_not fun y hy e => hr (e ▸ hw i hi y hy)
    rw [e1]
    refine hI r k hk (fun j hj hrj => ?_) (fun j hj hjn hrj hs => h2 j hj hjn hrj (.inl hs))
    rcases h1 j hj hrj with h | h
    · exact h
    · exact absurd hrj (h ▸ hr)

theorem inv_zero {v : Res → Val} (h0 : v = vi 0) (hstep : ∀ i, i < n → vi (i + 1) = appl (vi i) (ws i)) (hw : ∀ i, i < n → Wr (ws i) (W i)) : Inv n vi W (fun _ => False) v := by
  intro r k hk h1 h2
  subst h0
  induction k with
  | zero => rfl
  | succ k ih =>
    rw [hstep k (by omega), appl_not (fun y hy e => h1 k (by omega) (by have := hw k (by omega) y hy; rw [e] at this; exact this))]
    exact ih (by omega) (fun j hj hr => h1 j (by omega) hr) (fun j hj hjn hr hs => hs)

theorem inv_all {S : Nat → Prop} {v : Res → Val} (hI : Inv n vi W S v) (hall : ∀ j, j < n → S j) : v = vi n :=
  funext fun r => hI r n (Nat.le_refl _) (fun j hj _ => hall j hj) (fun j hj hjn _ => absurd hjn (by omega))
end

/-- Whom each operation waits for, through others too. -/
def closeA : List (List Nat) → List (List Nat) → List (List Nat)
  | acc, [] => acc
  | acc, ts :: rest => closeA (acc ++ [ts ++ ts.flatMap fun t => acc.getD t []]) rest

theorem closeA_spec {S : Nat → Prop} : ∀ (rest acc : List (List Nat)) (full : List (List Nat)), full.drop acc.length = rest →
    (∀ j, j < acc.length → ∀ i ∈ acc.getD j [], ∀ (_ : ∀ k, k < full.length → S k → ∀ t ∈ full.getD k [], S t), (∀ t ∈ full.getD j [], S t) → S i) →
    (∀ j, j < full.length → ∀ t ∈ full.getD j [], t < j) →
    ∀ j, j < full.length → ∀ i ∈ (closeA acc rest).getD j [], ∀ (_ : ∀ k, k < full.length → S k → ∀ t ∈ full.getD k [], S t), (∀ t ∈ full.getD j [], S t) → S i
  | [], acc, full, hd, hacc, _, j, hj, i, hi, hcl, hp => by
    have : full.length ≤ acc.length := by
      have := congrArg List.length hd
      simp at this
      omega
    exact hacc j (by omega) i hi hcl hp
  | ts :: rest, acc, full, hd, hacc, hlt, j, hj, i, hi, hcl, hp => by
    refine closeA_spec rest (acc ++ [ts ++ ts.flatMap fun t => acc.getD t []]) full ?_ ?_ hlt j hj i hi hcl hp
    · simp only [List.length_append, List.length_cons, List.length_nil]
      rw [← List.drop_drop, hd]
      rfl
    · intro m hm k hk hcl' hp'
      have hts : full.getD acc.length [] = ts := by
        have : (full.drop acc.length)[0]? = some ts := by rw [hd]; rfl
        rw [List.getElem?_drop] at this
        simp at this
        simp [List.getD, this]
      have hal : acc.length < full.length := by
        refine Nat.lt_of_not_le fun h => ?_
        rw [List.drop_eq_nil_of_le h] at hd
        simp at hd
      by_cases hma : m < acc.length
      · rw [List.getD_eq_getElem?_getD, List.getElem?_append_left hma, ← List.getD_eq_getElem?_getD] at hk
        exact hacc m hma k hk hcl' hp'
      · have : m = acc.length := by simp at hm; omega
        subst this
        rw [List.getD_eq_getElem?_getD, List.getElem?_append_right (Nat.le_refl _)] at hk
        simp at hk
        rw [hts] at hp'
        rcases hk with hk | ⟨t, ht, hk⟩
        · exact hp' k hk
        · have htl : t < acc.length := hlt acc.length hal t (by rw [hts]; exact ht)
          refine hacc t htl k (by simpa [List.getD] using hk) hcl' (hcl' t (by omega) (hp' t ht))
end Go.Fw
