/- The framework, part P: what a call is given and what it gives back. Conditions: none. -/
import Derived.Test.YtjldolmokfnkoaaGreatDoorFwM
namespace Go.Fw
open Go

def ArgOk (w : World) (Xs Xb : Nat → Prop) (u : Value) (f : Foot) : PA → Prop
  | .val a cs => RepPl w Xs Xb a cs u f
  | .box cs => ∃ b vals ψ, u = .pointer (some ⟨b, 0, none⟩) ∧ Cells w b 0 vals ∧ Avail w b 0 vals.length ∧ RepL w Xs Xb cs vals ψ ∧ ∀ x, f x = (if x = b then 1 else 0) + ψ x
  | .io c => RepPl w Xs Xb false [c] u f
  | .vw cs => (∀ x, f x = 0) ∧ ∃ b o vals, u = .pointer (some ⟨b, o, none⟩) ∧ Xb b ∧ Cells w b o vals ∧ RepL w Xs Xb cs vals (fun _ => 0)
  | .fn g caps => (∀ x, f x = 0) ∧ ∃ us : List Value, u = .func (.func g) #[] us.toArray ∧ us.length = caps.length ∧ ∀ j (h : j < us.length) (h' : j < caps.length), ∃ b o vals, us[j] = .pointer (some ⟨b, o, none⟩) ∧
      Xb b ∧ Cells w b o vals ∧ RepL w Xb Xb caps[j] vals (fun _ => 0)

inductive ArgsRel (w : World) (Xs Xb : Nat → Prop) : List PA → List Value → Foot → Prop where
  | nil : ArgsRel w Xs Xb [] [] (fun _ => 0)
  | cons {p : PA} {ps : List PA} {u : Value} {us : List Value} {f g : Foot} (h : ArgOk w Xs Xb u f p) (t : ArgsRel w Xs Xb ps us g) : ArgsRel w Xs Xb (p :: ps) (u :: us) (fun x => f x + g x)

def AXs (w : World) (C : Nat → Prop) (φ : Foot) (x : Nat) : Prop := x < w.heap.size ∧ φ x = 0 ∧ ¬ C x
def AXb (w : World) (φ : Foot) (x : Nat) : Prop := x < w.heap.size ∧ φ x = 0

structure CallIn (w : World) (C : Nat → Prop) (ps : List PA) (us : List Value) (φ : Foot) : Prop where
  le1 : ∀ x, φ x ≤ 1
  dom : ∀ x, φ x ≠ 0 → x < w.heap.size ∧ ¬ C x
  low : ∀ x, C x → x < w.heap.size
  args : ArgsRel w (AXs w C φ) (AXb w φ) ps us φ

/-- The boxes that were given come back with other content. -/
inductive BoxRel (w : World) (Xs : Nat → Prop) : List PA → List Value → List (List AC) → List Foot → Prop where
  | nil : BoxRel w Xs [] [] [] []
  | other {p : PA} {ps : List PA} {u : Value} {us : List Value} {es : List (List AC)} {gs : List Foot} (hp : p.back = false) (t : BoxRel w Xs ps us es gs) : BoxRel w Xs (p :: ps) (u :: us) es gs
  | io {c e : AC} {ps : List PA} {u : Value} {us : List Value} {es : List (List AC)} {gs : List Foot} {g : Foot} (hr : RepL w Xs (fun _ => False) [e] [u] g) (t : BoxRel w Xs ps us es gs) : BoxRel w Xs (.io c :: ps) (u :: us) ([e] :: es) (g :: gs)
  | box {cs e : List AC} {ps : List PA} {b : Nat} {us : List Value} {es : List (List AC)} {gs : List Foot} {vals : List Value} {ψ g : Foot} (hv : Cells w b 0 vals) (ha : Avail w b 0 vals.length)
      (hr : RepL w Xs (fun _ => False) e vals ψ) (hg : ∀ x, g x = (if x = b then 1 else 0) + ψ x) (t : BoxRel w Xs ps us es gs) : BoxRel w Xs (.box cs :: ps) (.pointer (some ⟨b, 0, none⟩) :: us) (e :: es) (g :: gs)

def tot : List Foot → Foot
  | [] => fun _ => 0
  | g :: gs => fun x => g x + tot gs x

def OutOk (w : World) (Xs : Nat → Prop) (u : Value) (f : Foot) : TV → Prop
  | .pl a cs => RepPl w Xs (fun _ => False) a cs u f
  | .tup vs => ∃ us, u = .tuple us.toArray ∧ RepTup w Xs (fun _ => False) vs us f
  | _ => False

def CallOut (w : World) (C : Nat → Prop) (ps : List PA) (us : List Value) (φ : Foot) (out : AOut) (u : Value) (w' : World) : Prop :=
  ∃ (f : Foot) (gs : List Foot), (∀ x, f x + tot gs x ≤ 1) ∧ (∀ x, f x + tot gs x ≠ 0 → x < w'.heap.size ∧ ¬ C x ∧ (w.heap.size ≤ x ∨ φ x ≠ 0)) ∧
    OutOk w' (AXs w' C (fun x => f x + tot gs x)) u f out.tv ∧ BoxRel w' (AXs w' C (fun x => f x + tot gs x)) ps us out.exts gs ∧
    w'.os = w.os ∧ w'.tape = w.tape ∧ w'.output = w.output ∧ w.heap.size ≤ w'.heap.size ∧ ∀ x, x < w.heap.size → φ x = 0 → w'.heap[x]? = w.heap[x]?

/-- What is known of memory that no call owns (the library's variables), and that such memory keeps. -/
structure Kpt where
  ok : World → Foot → Prop
  frame : ∀ {w w' : World} {φ φ' : Foot}, ok w φ → w.heap.size ≤ w'.heap.size → (∀ x, x < w.heap.size → φ x = 0 → φ' x = 0 ∧ w'.heap[x]? = w.heap[x]?) → ok w' φ'
def Kpt.free : Kpt := ⟨fun _ _ => True, fun _ _ _ => trivial⟩

/-- How a call may end. -/
def CallEnd (C : Nat → Prop) (ps : List PA) (us : List Value) (φ : Foot) (out : AOut) (w : World) (e : Ending) (w' : World) : Prop := match e with
  | .returned u => CallOut w C ps us φ out u w'
  | _ => False
/-- A function does what an abstract one says. -/
def SatF (P : Program) (I : Kpt) (f : FuncId) (F : List PA → Option AOut) : Prop :=
  ∀ ps out, F ps = some out → ∀ (w : World) (C : Nat → Prop) (us : List Value) (φ : Foot), CallIn w C ps us φ → I.ok w φ → Calls P f us.toArray w (CallEnd C ps us φ out w)
def Sat (P : Program) (I : Kpt) (Γ : Gam) : Prop := ∀ f, SatF P I f (Γ f)
/-- The same of calls that are made on the way. -/
def SatE (P : Program) (E : Env) (Γ : Gam) : Prop :=
  ∀ f ps out, Γ f ps = some out → ∀ (w : World) (C : Nat → Prop) (us : List Value) (φ : Foot), CallIn w C ps us φ → E.w0.heap.size ≤ w.heap.size →
    (∀ x, x < E.w0.heap.size → ¬ E.M x → φ x = 0 ∧ w.heap[x]? = E.w0.heap[x]?) → Calls P f us.toArray w (CallEnd C ps us φ out w)
/-! ### The arguments -/

def argsL : List Arg → List Nat
  | [] => []
  | .v x :: as => oprL x ++ argsL as
  | _ :: as => argsL as
def argsB : List Arg → List Nat
  | [] => []
  | .bx _ r :: as => r :: argsB as
  | _ :: as => argsB as
/-- What the lent arguments hang on. -/
def argsR : List Arg → List Rt
  | [] => []
  | .lend n rs r :: as => .t n :: (rs ++ (r.toList ++ argsR as))
  | _ :: as => argsR as
def argOk : Arg → Operand → Bool
  | .v x, y => oprOk x y
  | .lend n _ _, .tmp m => n == m
  | .bx n _, .tmp m => n == m
  | _, _ => false
def argsOk : List Arg → List Operand → Bool
  | [], [] => true
  | x :: xs, y :: ys => argOk x y && argsOk xs ys
  | _, _ => false

section
variable {P : Program} {E : Env} {v : Res → Val} {o : Oper} {a : Act} {w : World} {β : Nat → Nat} {φ : Res → Foot}

/-- What a call uses up. -/
def Passed (as : List Arg) (r : Res) : Prop := (∃ n ∈ argsL as, r = .t n) ∨ ∃ n ∈ argsB as, r = .b n

def oprF (φ : Res → Foot) : Opr → Foot
  | .m n => φ (.t n)
  | _ => fun _ => 0
theorem opr_sound_f (h : RelW E v (tmv a) w β φ) {x : Opr} {y : Operand} (hxy : oprOk x y = true) {st : Stamps} {tv : TV} {ws : List (Res × Val)} (hx : opr v x = some (st, tv, ws)) :
    ws = dropL v (oprL x) ∧ OprIs E v (tmv a) w β φ x st tv (a.eval y) (oprF φ x) := by
  cases x with
  | m n =>
    cases y <;> simp [oprOk] at hxy
    subst hxy
    simp only [opr] at hx
    split at hx
    · rename_i tv' hv
      simp only [Option.some.injEq, Prod.mk.injEq] at hx
      obtain ⟨rfl, rfl, rfl⟩ := hx
      have hl : Live v [] := by intro p hp; simp at hp
      exact ⟨by simp [oprL, dropL], h.ent n _ _ hv hl, h.le1 _, fun b hb => ⟨n, by simp [oprL], hb⟩, hl, by simp, by simp⟩
    · simp at hx
  | t n rs =>
    obtain ⟨h1, f, h2, h3⟩ := opr_sound h hxy hx
    have := h3 rfl
    subst this
    exact ⟨h1, h2⟩
  | c c =>
    obtain ⟨h1, f, h2, h3⟩ := opr_sound h hxy hx
    have := h3 rfl
    subst this
    exact ⟨h1, h2⟩
  | p n rs q => simp [opr] at hx

/-- The footprint of what is passed, slot by slot and box by box. -/
def passF (φ : Res → Foot) : List Arg → Foot
  | [] => fun _ => 0
  | .v x :: as => fun z => oprF φ x z + passF φ as z
  | .bx _ r :: as => fun z => φ (.b r) z + passF φ as z
  | _ :: as => passF φ as

theorem passF_src {φ : Res → Foot} : ∀ {as : List Arg} {z : Nat}, passF φ as z ≠ 0 → ∃ r, Passed as r ∧ φ r z ≠ 0
  | [], z, h => absurd rfl h
  | .v x :: as, z, h => by
    simp only [passF] at h
    by_cases h0 : passF φ as z = 0
    · cases x with
      | m n => exact ⟨.t n, .inl ⟨n, by simp [argsL, oprL], rfl⟩, by simp only [oprF] at h; omega⟩
      | t n rs => simp only [oprF] at h; omega
      | c c => simp only [oprF] at h; omega
      | p n rs q => simp only [oprF] at h; omega
    · obtain ⟨r, h1, h2⟩ := passF_src h0
      refine ⟨r, h1.imp (fun ⟨n, k1, k2⟩ => ⟨n, List.mem_append.2 (.inr k1), k2⟩) (fun ⟨n, k1, k2⟩ => ⟨n, k1, k2⟩), h2⟩
  | .bx n r :: as, z, h => by
    simp only [passF] at h
    by_cases h0 : passF φ as z = 0
    · exact ⟨.b r, .inr ⟨r, by simp [argsB], rfl⟩, by omega⟩
    · obtain ⟨r', h1, h2⟩ := passF_src h0
      exact ⟨r', h1.imp (fun h => h) (fun ⟨n, k1, k2⟩ => ⟨n, by simp [argsB, k1], k2⟩), h2⟩
  | .lend n rs r :: as, z, h => by
    obtain ⟨r', h1, h2⟩ := passF_src (as := as) h
    exact ⟨r', h1, h2⟩

theorem passF_le1 (h : RelW E v (tmv a) w β φ) : ∀ {as : List Arg}, (argsL as).Nodup → (argsB as).Nodup → ∀ z, passF φ as z ≤ 1
  | [], _, _, z => Nat.zero_le _
  | .v x :: as, hL, hB, z => by
    simp only [argsL] at hL
    obtain ⟨k1, k2, k3⟩ := List.nodup_append.1 hL
    have ih := passF_le1 h (as := as) k2 hB z
    simp only [passF]
    cases x with
    | m n =>
      simp only [oprF]
      have := h.le1 (.t n) z
      by_cases h0 : passF φ as z = 0
      · omega
      · obtain ⟨r, h1, h2⟩ := passF_src h0
        have : φ (.t n) z = 0 := Classical.byContradiction fun e => by
          have := h.uniq _ _ z e h2
          rcases h1 with ⟨m, hm, e1⟩ | ⟨m, hm, e1⟩
          · rw [e1] at this; simp at this; exact k3 n (by simp [oprL]) m hm this
          · rw [e1] at this; simp at this
        omega
    | p n rs q => simp only [oprF]; omega
    | t n rs => simp only [oprF]; omega
    | c c => simp only [oprF]; omega
  | .bx n r :: as, hL, hB, z => by
    simp only [argsB, List.nodup_cons] at hB
    have ih := passF_le1 h (as := as) hL hB.2 z
    simp only [passF]
    have := h.le1 (.b r) z
    by_cases h0 : passF φ as z = 0
    · omega
    · obtain ⟨r', h1, h2⟩ := passF_src h0
      have : φ (.b r) z = 0 := Classical.byContradiction fun e => by
        have := h.uniq _ _ z e h2
        rcases h1 with ⟨m, hm, e1⟩ | ⟨m, hm, e1⟩
        · rw [e1] at this; simp at this
        · rw [e1] at this; simp at this; exact hB.1 (this ▸ hm)
      omega
  | .lend n rs r :: as, hL, hB, z => passF_le1 h (as := as) hL hB z

theorem ArgOk.weak {Xs Xb Xs' Xb' : Nat → Prop} {u : Value} {f : Foot} {p : PA} (h : ArgOk w Xs Xb u f p) (hs : ∀ b, Xs b → Xs' b) (hb : ∀ b, Xb b → Xb' b) : ArgOk w Xs' Xb' u f p := by
  cases p with
  | val a cs => obtain ⟨vals, h1, h2⟩ := h; exact ⟨vals, h1.weak hs hb, h2⟩
  | io c => obtain ⟨vals, h1, h2⟩ := h; exact ⟨vals, h1.weak hs hb, h2⟩
  | box cs => obtain ⟨b, vals, ψ, h1, h2, h3, h4, h5⟩ := h; exact ⟨b, vals, ψ, h1, h2, h3, h4.weak hs hb, h5⟩
  | vw cs => obtain ⟨h0, b, o, vals, h1, h2, h3, h4⟩ := h; exact ⟨h0, b, o, vals, h1, hb _ h2, h3, h4.weak hs hb⟩
  | fn g caps =>
    obtain ⟨h0, us, h1, h2, h3⟩ := h
    refine ⟨h0, us, h1, h2, fun j k1 k2 => ?_⟩
    obtain ⟨b, o, vals, e1, e2, e3, e4⟩ := h3 j k1 k2
    exact ⟨b, o, vals, e1, hb _ e2, e3, e4.weak hb hb⟩

/-- The arguments' values are as the callee reads them; what is lent hangs on nothing that is passed. -/
theorem args_sound (h : RelW E v (tmv a) w β φ) {Xs Xb : Nat → Prop} {K : Res → Prop} (hXs : ∀ b, XS E w φ b → Xs b) (hXb : ∀ b, b < w.heap.size → (∀ r, φ r b ≠ 0 → ¬ K r) → Xb b) :
    ∀ {as : List Arg} {ys : List Operand}, argsOk as ys = true → (∀ q ∈ argsR as, ¬ K q.res) → ∀ {ps : List PA} {ws : List (Res × Val)} {bs : List Nat}, argsOf v as = some (ps, ws, bs) →
      ws = dropL v (argsL as) ∧ bs = argsB as ∧ bs.Nodup ∧ (∀ n ∈ bs, ∃ cs, v (.b n) = .b cs) ∧ ArgsRel w Xs Xb ps (ys.map a.eval) (passF φ as)
  | [], [], _, _, ps, ws, bs, hp => by
    simp only [argsOf, Option.some.injEq, Prod.mk.injEq] at hp
    obtain ⟨rfl, rfl, rfl⟩ := hp
    exact ⟨rfl, rfl, by simp, by simp, .nil⟩
  | x :: as, y :: ys, hok, hK, ps, ws, bs, hp => by
    simp only [argsOk, Bool.and_eq_true] at hok
    obtain ⟨hxy, hok⟩ := hok
    have lowB : ∀ b, XB w φ [] b → Xb b := fun b hb => hXb b hb.1 (fun r hr => by obtain ⟨_, h1, _⟩ := hb.2 r hr; simp at h1)
    cases x with
    | v x =>
      simp only [argOk] at hxy
      simp only [argsOf] at hp
      obtain ⟨⟨st, tv, w1⟩, h1, hp1⟩ := ob_some hp
      try dsimp only at hp1
      split at hp1 <;> try (simp at hp1; done)
      rename_i _ g cs w2 e1
      simp only [Prod.mk.injEq] at e1
      obtain ⟨rfl, rfl, rfl⟩ := e1
      obtain ⟨⟨ps', w3, bs'⟩, h2, hp2⟩ := ob_some hp1
      simp only [Option.some.injEq, Prod.mk.injEq] at hp2
      obtain ⟨rfl, rfl, rfl⟩ := hp2
      obtain ⟨rfl, rfl, i1, i2, i3⟩ := args_sound h hXs hXb hok hK h2
      obtain ⟨rfl, hi⟩ := opr_sound_f h hxy h1
      refine ⟨by rw [argsL, dropL_append], rfl, i1, i2, ?_⟩
      obtain ⟨vals, r1, r2⟩ := hi.rep
      exact ArgsRel.cons (p := .val g cs) ⟨vals, r1.weak hXs lowB, r2⟩ i3
    | bx n r =>
      cases y <;> simp [argOk] at hxy
      subst hxy
      simp only [argsOf] at hp
      split at hp <;> try (simp at hp; done)
      rename_i q cs hv hvb
      split at hp <;> try (simp at hp; done)
      rename_i hq
      subst hq
      obtain ⟨⟨ps', w3, bs'⟩, h2, hp2⟩ := ob_some hp
      try dsimp only at hp2
      split at hp2 <;> try (simp at hp2; done)
      rename_i hnb
      simp only [Option.some.injEq, Prod.mk.injEq] at hp2
      obtain ⟨rfl, rfl, rfl⟩ := hp2
      obtain ⟨rfl, rfl, i1, i2, i3⟩ := args_sound h hXs hXb hok hK h2
      refine ⟨rfl, rfl, ?_, ?_, ?_⟩
      · rw [List.nodup_cons]; exact ⟨by simpa using hnb, i1⟩
      · intro m hm
        rcases List.mem_cons.1 hm with rfl | hm
        · exact ⟨_, hvb⟩
        · exact i2 m hm
      · obtain ⟨_, _, b, o', e, k1, k2, k3⟩ := h.ent n _ _ hv (by intro p hp; simp at hp)
        obtain ⟨vals, ψ, e1, e2, e3, e4⟩ := h.box r _ hvb
        refine ArgsRel.cons (p := .box cs) ⟨β r, vals, ψ, ?_, e1, e2, e3.weak hXs lowB, e4⟩ i3
        subst k2
        have ho : o' = 0 := by omega
        subst ho
        exact e
    | lend n rs r =>
      cases y <;> simp [argOk] at hxy
      subst hxy
      have hKn : ¬ K (.t n) := hK (.t n) (by simp [argsR])
      have hKrs : ∀ q ∈ rs, ¬ K q.res := fun q hq => hK q (by simp [argsR, hq])
      have hKr : ∀ q, r = some q → ¬ K q.res := fun q hq => hK q (by simp [argsR, hq])
      have hK' : ∀ q ∈ argsR as, ¬ K q.res := fun q hq => hK q (by simp [argsR, hq])
      -- what a value with such stamps leans on may be read by the callee
      have lean : ∀ {st : Stamps}, stOk v rs st = true → ∀ b, XB w φ st b → Xb b := fun hst b hb => hXb b hb.1 (fun r' hr' => by
        obtain ⟨p, hp, e⟩ := hb.2 r' hr'
        rw [← e]
        exact hKrs _ ((stOk_spec hst).2 p hp))
      have own : ∀ (q : Rt) b, ¬ K q.res → φ q.res b ≠ 0 → Xb b := fun q b hq hb => hXb b (h.dom _ b hb).1 (fun r' hr' => by rw [h.uniq _ _ b hr' hb]; exact hq)
      have xs : ∀ b, XS E w φ b → Xb b := fun b hb => hXb b hb.1 (fun r' hr' => absurd (hb.2.1 r') hr')
      simp only [argsOf] at hp
      split at hp <;> try (simp at hp; done)
      · rename_i st g cs hv
        split at hp <;> try (simp at hp; done)
        rename_i hst
        obtain ⟨⟨ps', w3, bs'⟩, h2, hp2⟩ := ob_some hp
        simp only [Option.some.injEq, Prod.mk.injEq] at hp2
        obtain ⟨rfl, rfl, rfl⟩ := hp2
        obtain ⟨rfl, rfl, i1, i2, i3⟩ := args_sound h hXs hXb hok hK' h2
        refine ⟨rfl, rfl, i1, i2, ?_⟩
        obtain ⟨vals, r1, r2⟩ := h.ent n _ _ hv (stOk_spec hst).1
        have key : ArgOk w Xs Xb (tmv a n) (fun _ => 0) (.val g (if st.isEmpty && noOwnL cs then cs else brwL cs)) := by
          by_cases hc : (st.isEmpty && noOwnL cs) = true
          · rw [if_pos hc]
            simp only [Bool.and_eq_true, List.isEmpty_iff] at hc
            obtain ⟨rfl, hno⟩ := hc
            exact ⟨vals, (r1.cast (r1.foot0 hno)).weak hXs lowB, r2⟩
          · rw [if_neg hc]
            exact ⟨vals, r1.brw Xs (fun b hb => xs b hb) (lean hst) (fun b hb => own (.t n) b hKn hb), r2⟩
        have := ArgsRel.cons (p := .val g (if st.isEmpty && noOwnL cs then cs else brwL cs)) (f := fun _ => 0) (u := tmv a n) key i3
        simpa [passF, show a.eval (.tmp n) = tmv a n from rfl] using this
      · rename_i st q path off hv
        split at hp <;> try (simp at hp; done)
        rename_i hst
        simp only [Bool.and_eq_true, beq_iff_eq] at hst
        obtain ⟨hst, hrq⟩ := hst
        obtain ⟨cs, hcs, hp1⟩ := ob_some hp
        obtain ⟨xs', hxs, hp2⟩ := ob_some hp1
        try dsimp only at hp2
        split at hp2 <;> try (simp at hp2; done)
        rename_i c rest
        obtain ⟨⟨ps', w3, bs'⟩, h2, hp3⟩ := ob_some hp2
        simp only [Option.some.injEq, Prod.mk.injEq] at hp3
        obtain ⟨rfl, rfl, rfl⟩ := hp3
        obtain ⟨rfl, rfl, i1, i2, i3⟩ := args_sound h hXs hXb hok hK' h2
        refine ⟨rfl, rfl, i1, i2, ?_⟩
        obtain ⟨ψ, g1, g2⟩ := alias_at h hcs (h.ent n _ _ hv (stOk_spec hst).1) hxs
        have := ArgsRel.cons (p := .val false (brwL [c])) (f := fun _ => 0) (u := tmv a n) ⟨[tmv a n], g1.brw Xs (fun b hb => xs b hb) lowB (fun b hb => own q b (hKr q hrq) (by have := g2 b; omega)), by simp⟩ i3
        simpa [passF, brwL, show a.eval (.tmp n) = tmv a n from rfl] using this
      · rename_i st q path off hv
        split at hp <;> try (simp at hp; done)
        rename_i hst
        simp only [Bool.and_eq_true, beq_iff_eq] at hst
        obtain ⟨hst, hrq⟩ := hst
        obtain ⟨cs, hcs, hp1⟩ := ob_some hp
        obtain ⟨xs', hxs, hp2⟩ := ob_some hp1
        obtain ⟨⟨ps', w3, bs'⟩, h2, hp3⟩ := ob_some hp2
        simp only [Option.some.injEq, Prod.mk.injEq] at hp3
        obtain ⟨rfl, rfl, rfl⟩ := hp3
        obtain ⟨rfl, rfl, i1, i2, i3⟩ := args_sound h hXs hXb hok hK' h2
        refine ⟨rfl, rfl, i1, i2, ?_⟩
        obtain ⟨_, _, b, o', e, hreach⟩ := h.ent n _ _ hv (stOk_spec hst).1
        obtain ⟨vs, ψ, g1, g2, g3⟩ := content_at h hcs hreach hxs
        have := ArgsRel.cons (p := .vw (brwL xs')) (f := fun _ => 0) (u := tmv a n) ⟨fun _ => rfl, b, o', vs, e, own q b (hKr q hrq) hreach.last, g1,
          g2.brw Xs (fun b hb => xs b hb) lowB (fun b hb => own q b (hKr q hrq) (by have := g3 b; omega))⟩ i3
        simpa [passF, show a.eval (.tmp n) = tmv a n from rfl] using this
      · rename_i st cs hv
        split at hp <;> try (simp at hp; done)
        rename_i hst
        obtain ⟨⟨ps', w3, bs'⟩, h2, hp2⟩ := ob_some hp
        simp only [Option.some.injEq, Prod.mk.injEq] at hp2
        obtain ⟨rfl, rfl, rfl⟩ := hp2
        obtain ⟨rfl, rfl, i1, i2, i3⟩ := args_sound h hXs hXb hok hK' h2
        refine ⟨rfl, rfl, i1, i2, ?_⟩
        obtain ⟨b, o', vals, e, e1, e2, e3⟩ := h.ent n _ _ hv (stOk_spec hst).1
        have := ArgsRel.cons (p := .vw (brwL cs)) (f := fun _ => 0) (u := tmv a n) ⟨fun _ => rfl, b, o', vals, e, lean hst b e1, e2,
          e3.brw Xs (fun b hb => xs b hb) (lean hst) (fun b hb => absurd rfl hb)⟩ i3
        simpa [passF, show a.eval (.tmp n) = tmv a n from rfl] using this
      · rename_i st g caps hv
        split at hp <;> try (simp at hp; done)
        rename_i hst
        obtain ⟨⟨ps', w3, bs'⟩, h2, hp2⟩ := ob_some hp
        simp only [Option.some.injEq, Prod.mk.injEq] at hp2
        obtain ⟨rfl, rfl, rfl⟩ := hp2
        obtain ⟨rfl, rfl, i1, i2, i3⟩ := args_sound h hXs hXb hok hK' h2
        refine ⟨rfl, rfl, i1, i2, ?_⟩
        obtain ⟨us, e1, e2, e3⟩ := h.ent n _ _ hv (stOk_spec hst).1
        have := ArgsRel.cons (p := .fn g caps) (f := fun _ => 0) (u := tmv a n) ⟨fun _ => rfl, us, e1, e2, fun j k1 k2 => by
          obtain ⟨b, o', vals, f1, f2, f3, f4⟩ := e3 j k1 k2
          exact ⟨b, o', vals, f1, lean hst b f2, f3, f4.weak (lean hst) (lean hst)⟩⟩ i3
        simpa [passF, show a.eval (.tmp n) = tmv a n from rfl] using this
  | [], _ :: _, hok, _, _, _, _, _ => by simp [argsOk] at hok
  | _ :: _, [], hok, _, _, _, _, _ => by simp [argsOk] at hok
end
end Go.Fw
