/- The framework, part T: an operation writes what it says, and the check of an operation against the program's own. Conditions: none. -/
import Derived.Test.YtmbkipogmaimaaaGreatDoorFwS
namespace Go.Fw
open Go

section
variable {v : Res → Val}
theorem fop_wr {Γ : Gam} {x : IOp} {ws : List (Res × Val)} (h : fop Γ v x = some ws) : Wr ws (wr x) := by
  have dput : ∀ {d : Nat} {st : Stamps} {tv : TV}, Wr (putT v d st tv) (dR d) := Wr.putT _ _ _
  cases x with
  | mov d x =>
    obtain ⟨⟨st, tv, w1⟩, h1, h2⟩ := ob_some h
    simp only [Option.some.injEq] at h2; subst h2
    exact dput.left.app (Wr.opr h1).right
  | alias d s rs =>
    simp only [fop] at h
    split at h <;> try (simp at h; done)
    split at h <;> try (simp at h; done)
    split at h
    · split at h <;> simp only [Option.some.injEq, reduceCtorEq] at h
      subst h; exact dput
    · split at h <;> simp only [Option.some.injEq, reduceCtorEq] at h
      · subst h; exact dput
      · subst h; exact dput
      · subst h; exact dput
  | pick d c x y =>
    obtain ⟨b, h1, h2⟩ := ob_some h
    try dsimp only at h2
    split at h2 <;> try (simp at h2; done)
    all_goals
      obtain ⟨⟨st, tv, w1⟩, h3, h4⟩ := ob_some h2
      try dsimp only at h4
      split at h4 <;> simp only [Option.some.injEq, reduceCtorEq] at h4
      subst h4; exact dput
  | alloc d cs =>
    simp only [fop] at h
    split at h <;> simp only [Option.some.injEq, reduceCtorEq] at h
    subst h
    exact dput.left.app (Wr.right fun y hy => by simp at hy; subst hy; simp [bR])
  | box d x =>
    simp only [fop] at h
    split at h <;> try (simp at h; done)
    obtain ⟨⟨st, tv, w1⟩, h1, h2⟩ := ob_some h
    try dsimp only at h2
    split at h2 <;> simp only [Option.some.injEq, reduceCtorEq] at h2
    rename_i _ g cs w2 e1
    simp only [Prod.mk.injEq] at e1
    obtain ⟨rfl, rfl, rfl⟩ := e1
    subst h2
    refine dput.left.app (Wr.right fun y hy => ?_)
    rcases List.mem_cons.1 hy with rfl | hy
    · simp [bR]
    · exact List.mem_append.2 (.inr (Wr.opr h1 y hy))
  | build d z ps =>
    obtain ⟨⟨st, ps', w1⟩, h1, h2⟩ := ob_some h
    obtain ⟨cs, h3, h4⟩ := ob_some h2
    simp only [Option.some.injEq] at h4; subst h4
    exact dput.left.app (Wr.oprs h1).right
  | mkrow d e z n ps =>
    obtain ⟨⟨st, ps', w1⟩, h1, h2⟩ := ob_some h
    try dsimp only at h2
    split at h2 <;> try (simp at h2; done)
    rename_i _ p2 w2 e1
    simp only [Prod.mk.injEq] at e1
    obtain ⟨rfl, rfl, rfl⟩ := e1
    obtain ⟨cs, h3, h4⟩ := ob_some h2
    simp only [Option.some.injEq] at h4; subst h4
    exact dput.left.app (Wr.oprs h1).right
  | load d p rs r n g m =>
    simp only [fop] at h
    split at h <;> try (simp at h; done)
    · split at h <;> simp only [Option.some.injEq, reduceCtorEq] at h
      subst h; exact dput.left
    · split at h <;> try (simp at h; done)
      rename_i hc
      simp only [Bool.and_eq_true, beq_iff_eq] at hc
      obtain ⟨_, rfl⟩ := hc
      obtain ⟨cs, h1, h2⟩ := ob_some h
      obtain ⟨xs, h3, h4⟩ := ob_some h2
      clear h h2
      try dsimp only at h4
      split at h4 <;> try (simp at h4; done)
      split at h4
      · simp only [Option.some.injEq] at h4; subst h4; exact dput.left
      cases m with
      | cp => simp at h4
      | bo => simp only [Option.some.injEq] at h4; subst h4; exact dput.left
      | al => simp only at h4; split at h4 <;> simp only [Option.some.injEq, reduceCtorEq] at h4; subst h4; exact dput.left
      | mv => obtain ⟨cs', h5, h6⟩ := ob_some h4; simp only [Option.some.injEq] at h6; subst h6; exact (Wr.putC _ _).right.app dput.left
      | fz => obtain ⟨cs', h5, h6⟩ := ob_some h4; simp only [Option.some.injEq] at h6; subst h6; exact (Wr.putC _ _).right.app dput.left
  | store p rs q n x =>
    simp only [fop] at h
    split at h <;> try (simp at h; done)
    split at h <;> try (simp at h; done)
    obtain ⟨⟨st, tv, w1⟩, h1, h2⟩ := ob_some h
    try dsimp only at h2
    split at h2 <;> try (simp at h2; done)
    rename_i _ g xs w2 e1
    simp only [Prod.mk.injEq] at e1
    obtain ⟨rfl, rfl, rfl⟩ := e1
    split at h2 <;> try (simp at h2; done)
    obtain ⟨cs, h3, h4⟩ := ob_some h2
    obtain ⟨cs', h5, h6⟩ := ob_some h4
    simp only [Option.some.injEq] at h6; subst h6
    exact (Wr.putC _ _).left.app (Wr.opr h1).right
  | nilc d p rs =>
    simp only [fop] at h
    split at h <;> try (simp at h; done)
    all_goals
      split at h <;> simp only [Option.some.injEq, reduceCtorEq] at h
      subst h; exact dput
  | fad d p rs o =>
    simp only [fop] at h
    split at h <;> try (simp at h; done)
    all_goals
      split at h <;> simp only [Option.some.injEq, reduceCtorEq] at h
      subst h; exact dput
  | fld d x o n g =>
    obtain ⟨⟨st, tv, w1⟩, h1, h2⟩ := ob_some h
    try dsimp only at h2
    split at h2 <;> try (simp at h2; done)
    split at h2 <;> simp only [Option.some.injEq, reduceCtorEq] at h2
    subst h2; exact dput
  | iad d x rs r i e =>
    obtain ⟨c, h1, h2⟩ := ob_some h
    try dsimp only at h2
    split at h2 <;> try (simp at h2; done)
    split at h2 <;> try (simp at h2; done)
    · split at h2
      · split at h2 <;> simp only [Option.some.injEq, reduceCtorEq] at h2
        subst h2; exact dput
      · split at h2 <;> try (simp at h2; done)
        split at h2 <;> simp only [Option.some.injEq, reduceCtorEq] at h2
        subst h2; exact dput
    · split at h2 <;> try (simp at h2; done)
      obtain ⟨cs, h3, h4⟩ := ob_some h2
      obtain ⟨xs, h5, h6⟩ := ob_some h4
      try dsimp only at h6
      split at h6 <;> try (simp at h6; done)
      split at h6 <;> try (simp at h6; done)
      split at h6 <;> simp only [Option.some.injEq, reduceCtorEq] at h6
      subst h6; exact dput
  | idx d x i =>
    obtain ⟨c, h1, h2⟩ := ob_some h
    try dsimp only at h2
    split at h2 <;> try (simp at h2; done)
    obtain ⟨c2, h3, h4⟩ := ob_some h2
    try dsimp only at h4
    split at h4 <;> try (simp at h4; done)
    split at h4 <;> try (simp at h4; done)
    split at h4 <;> simp only [Option.some.injEq, reduceCtorEq] at h4
    subst h4; exact dput
  | len d x r =>
    obtain ⟨c, h1, h2⟩ := ob_some h
    simp only [Option.some.injEq] at h2; subst h2; exact dput
  | slen d x =>
    obtain ⟨c, h1, h2⟩ := ob_some h
    try dsimp only at h2
    split at h2 <;> simp only [Option.some.injEq, reduceCtorEq] at h2
    subst h2; exact dput
  | bin d op x y =>
    obtain ⟨c, h1, h2⟩ := ob_some h
    try dsimp only at h2
    split at h2 <;> try (simp at h2; done)
    obtain ⟨c2, h3, h4⟩ := ob_some h2
    try dsimp only at h4
    split at h4 <;> try (simp at h4; done)
    obtain ⟨c3, h5, h6⟩ := ob_some h4
    simp only [Option.some.injEq] at h6; subst h6; exact dput
  | sbin d op x y =>
    obtain ⟨c, h1, h2⟩ := ob_some h
    try dsimp only at h2
    split at h2 <;> try (simp at h2; done)
    obtain ⟨c2, h3, h4⟩ := ob_some h2
    try dsimp only at h4
    split at h4 <;> try (simp at h4; done)
    split at h4 <;> try (simp at h4; done)
    · split at h4 <;> simp only [Option.some.injEq, reduceCtorEq] at h4
      subst h4; exact dput
    · simp only [Option.some.injEq] at h4; subst h4; exact dput
    · simp only [Option.some.injEq] at h4; subst h4; exact dput
  | ceq d ng g ks x y =>
    obtain ⟨⟨st, tv, w1⟩, h1, h2⟩ := ob_some h
    try dsimp only at h2
    split at h2 <;> try (simp at h2; done)
    obtain ⟨⟨st2, tv2, w2⟩, h3, h4⟩ := ob_some h2
    try dsimp only at h4
    split at h4 <;> try (simp at h4; done)
    split at h4 <;> simp only [Option.some.injEq, reduceCtorEq] at h4
    subst h4; exact dput
  | peq d ng p rs =>
    simp only [fop] at h
    split at h <;> try (simp at h; done)
    · split at h <;> simp only [Option.some.injEq, reduceCtorEq] at h
      subst h; exact dput
    · split at h <;> simp only [Option.some.injEq, reduceCtorEq] at h
      subst h; exact dput
    · simp only [Option.some.injEq] at h; subst h; exact dput
    · simp only [Option.some.injEq] at h; subst h; exact dput
  | not d x =>
    obtain ⟨c, h1, h2⟩ := ob_some h
    try dsimp only at h2
    split at h2 <;> simp only [Option.some.injEq, reduceCtorEq] at h2
    subst h2; exact dput
  | neg d x =>
    obtain ⟨c, h1, h2⟩ := ob_some h
    try dsimp only at h2
    split at h2 <;> simp only [Option.some.injEq, reduceCtorEq] at h2
    subst h2; exact dput
  | conv d k x =>
    obtain ⟨c, h1, h2⟩ := ob_some h
    try dsimp only at h2
    split at h2 <;> simp only [Option.some.injEq, reduceCtorEq] at h2
    subst h2; exact dput
  | make d e z b n =>
    obtain ⟨c, h1, h2⟩ := ob_some h
    try dsimp only at h2
    split at h2 <;> try (simp at h2; done)
    split at h2 <;> simp only [Option.some.injEq, reduceCtorEq] at h2
    subst h2; exact dput
  | slice d e x r lo hi =>
    obtain ⟨c, h1, h2⟩ := ob_some h
    obtain ⟨l, h3, h4⟩ := ob_some h2
    obtain ⟨q, h5, h6⟩ := ob_some h4
    clear h h2 h4
    try dsimp only at h6
    split at h6 <;> try (simp at h6; done)
    split at h6
    · split at h6 <;> try (simp at h6; done)
      simp only [Option.some.injEq] at h6; subst h6; exact dput
    · simp only [Option.some.injEq] at h6; subst h6; exact dput
  | tslice d e x lo hi =>
    obtain ⟨c, h1, h2⟩ := ob_some h
    obtain ⟨l, h3, h4⟩ := ob_some h2
    obtain ⟨q, h5, h6⟩ := ob_some h4
    clear h h2 h4
    try dsimp only at h6
    split at h6 <;> simp only [Option.some.injEq, reduceCtorEq] at h6
    subst h6
    exact dput.left.app (Wr.dropL _).right
  | ssub d x lo hi =>
    obtain ⟨c, h1, h2⟩ := ob_some h
    try dsimp only at h2
    split at h2 <;> try (simp at h2; done)
    obtain ⟨l, h3, h4⟩ := ob_some h2
    obtain ⟨q, h5, h6⟩ := ob_some h4
    clear h h2 h4
    try dsimp only at h6
    split at h6 <;> simp only [Option.some.injEq, reduceCtorEq] at h6
    subst h6; exact dput
  | app d e s x xr b =>
    obtain ⟨c, h1, h2⟩ := ob_some h
    obtain ⟨l, h3, h4⟩ := ob_some h2
    try dsimp only at h4
    split at h4 <;> try (simp at h4; done)
    obtain ⟨q, h5, h6⟩ := ob_some h4
    simp only [Option.some.injEq] at h6; subst h6
    exact dput.left.app (Wr.dropL _).right
  | appa d e n rs k x xr b =>
    simp only [fop] at h
    obtain ⟨ws1, h1, h2⟩ := ob_some h
    obtain ⟨ws2, h3, h4⟩ := ob_some h2
    simp only [Option.some.injEq] at h4
    subst h4
    refine Wr.app ?_ ?_
    · unfold steal at h1
      split at h1 <;> try (simp at h1; done)
      split at h1 <;> try (simp at h1; done)
      rename_i hc
      obtain ⟨rfl, _⟩ := hc
      obtain ⟨cs, _, h5⟩ := ob_some h1
      obtain ⟨xs, _, h6⟩ := ob_some h5
      try dsimp only at h6
      split at h6 <;> try (simp at h6; done)
      obtain ⟨cs', _, h7⟩ := ob_some h6
      simp only [Option.some.injEq] at h7
      subst h7
      refine Wr.app (Wr.right (Wr.right (Wr.left ?_))) (Wr.right (Wr.left (Wr.putT _ _ _)))
      exact (Wr.putC (.b _) _).mono (by intro r hr; simpa [rR, bR, Rt.res] using hr)
    · obtain ⟨c, g1, g2⟩ := ob_some h3
      obtain ⟨l, g3, g4⟩ := ob_some g2
      try dsimp only at g4
      split at g4 <;> try (simp at g4; done)
      obtain ⟨q, g5, g6⟩ := ob_some g4
      simp only [Option.some.injEq] at g6
      subst g6
      refine Wr.app (Wr.left (Wr.putT _ _ _)) (Wr.right ?_)
      refine (Wr.dropL _).mono ?_
      intro r hr
      rw [LR_append] at hr
      rcases List.mem_append.1 hr with hr | hr
      · refine List.mem_append.2 (.inl ?_)
        simpa [oprL, LR] using hr
      · exact List.mem_append.2 (.inr (List.mem_append.2 (.inr hr)))
  | mm d b x y =>
    obtain ⟨c, h1, h2⟩ := ob_some h
    try dsimp only at h2
    split at h2 <;> try (simp at h2; done)
    obtain ⟨c2, h3, h4⟩ := ob_some h2
    try dsimp only at h4
    split at h4 <;> try (simp at h4; done)
    split at h4 <;> simp only [Option.some.injEq, reduceCtorEq] at h4
    subst h4; exact dput
  | ext d x i opn =>
    simp only [fop] at h
    split at h <;> try (simp at h; done)
    split at h <;> try (simp at h; done)
    split at h <;> try (simp at h; done)
    obtain ⟨w1, h1, h2⟩ := ob_some h
    have hp := Wr.putR h1
    simp only [wr]
    split at h2
    · simp only [Option.some.injEq] at h2; subst h2
      exact hp.mono fun r hr => by rcases List.mem_append.1 hr with h | h; exact List.mem_append.2 (.inl h); exact List.mem_append.2 (.inr (List.mem_append.2 (.inl h)))
    · split at h2 <;> simp only [Option.some.injEq, reduceCtorEq] at h2
      subst h2
      refine (hp.mono fun r hr => by rcases List.mem_append.1 hr with h | h; exact List.mem_append.2 (.inl h); exact List.mem_append.2 (.inr (List.mem_append.2 (.inl h)))).app ?_
      intro y hy
      simp at hy
      rcases hy with rfl | rfl <;> simp [dR]
  | call d f as opn =>
    obtain ⟨⟨ps, w1, bs⟩, h1, h2⟩ := ob_some h
    obtain ⟨out, h3, h4⟩ := ob_some h2
    obtain ⟨back, h5, h6⟩ := ob_some h4
    obtain ⟨w2, h7, h8⟩ := ob_some h6
    simp only [Option.some.injEq] at h8; subst h8
    simp only [wr]
    have hb := (argsOf_bs h1).1
    refine ((Wr.putR h7).mono fun r hr => by rcases List.mem_append.1 hr with h | h; exact List.mem_append.2 (.inl h); exact List.mem_append.2 (.inr (List.mem_append.2 (.inl h)))).app
      (((Wr.args h1).app (Wr.back h5 (fun n hn => hb ▸ hn))).right.right)
  | ofStr d x =>
    obtain ⟨c, h1, h2⟩ := ob_some h
    try dsimp only at h2
    split at h2 <;> try (simp at h2; done)
    split at h2 <;> simp only [Option.some.injEq, reduceCtorEq] at h2
    subst h2; exact dput
  | toStr d x r =>
    obtain ⟨c, h1, h2⟩ := ob_some h
    try dsimp only at h2
    split at h2 <;> try (simp at h2; done)
    obtain ⟨s, h3, h4⟩ := ob_some h2
    simp only [Option.some.injEq] at h4; subst h4; exact dput
  | mkmap d => simp only [fop, Option.some.injEq] at h; subst h; exact dput
  | mlook d m rs q k =>
    obtain ⟨es, h0, h⟩ := ob_some h
    obtain ⟨c, h1, h2⟩ := ob_some h
    try dsimp only at h2
    split at h2 <;> simp only [Option.some.injEq, reduceCtorEq] at h2
    subst h2; exact dput
  | mset m rs q k x =>
    obtain ⟨es, h0, h⟩ := ob_some h
    obtain ⟨c, h1, h2⟩ := ob_some h
    try dsimp only at h2
    split at h2 <;> try (simp at h2; done)
    obtain ⟨c2, h3, h4⟩ := ob_some h2
    try dsimp only at h4
    split at h4 <;> simp only [Option.some.injEq, reduceCtorEq] at h4
    subst h4
    intro y hy
    simp at hy
    rcases hy with rfl | rfl <;> simp [wr, dR]
  | pslice d x rs q hi =>
    simp only [fop] at h
    split at h <;> try (simp at h; done)
    split at h <;> try (simp at h; done)
    obtain ⟨c, h1, h2⟩ := ob_some h
    try dsimp only at h2
    split at h2 <;> try (simp at h2; done)
    split at h2 <;> simp only [Option.some.injEq, reduceCtorEq] at h2
    subst h2; exact dput
  | ieq d ng x =>
    obtain ⟨c, h1, h2⟩ := ob_some h
    try dsimp only at h2
    split at h2 <;> simp only [Option.some.injEq, reduceCtorEq] at h2
    subst h2; exact dput
end
end Go.Fw
