/- The framework, part F: operands, and the operations that only compute. Conditions: none. -/
import Derived.Test.YtjldolmokfnkoaaGreatDoorFwD
import Derived.Laws.Entries
import Derived.Laws.Cells
namespace Go.Fw
open Go

def constOk : AC → Value → Bool
  | .int k n, .int k' n' => k == k' && n == n'
  | .bool b, .bool b' => b == b'
  | .str s, .string t => s == t.data.toList
  | .sl _ _ [], .slice none 0 0 => true
  | .nilp, .pointer none => true
  | .err true, .nilIface => true
  | _, _ => false
theorem constOk_scal {c : AC} {u : Value} (h : constOk c u = true) : Scal c u := by
  unfold constOk at h
  split at h <;> simp_all [Scal, Emp.nil]

def oprOk : Opr → Operand → Bool
  | .t n _, .tmp m => n == m
  | .m n, .tmp m => n == m
  | .p n _ _, .tmp m => n == m
  | .c c, .const u => constOk c u
  | _, _ => false
def oprR : Opr → List Rt
  | .t _ rs => rs
  | _ => []
/-- The slot that is written is none of those that an operand uses up or hangs on. -/
def sep (d : Nat) (x : Opr) : Bool := !(oprL x).contains d && !(oprR x).contains (.t d)

def tmv (a : Act) (n : Nat) : Value := a.tmps.getD n undef

theorem stOk_spec {v : Res → Val} {rs : List Rt} : ∀ {st : Stamps}, stOk v rs st = true → Live v st ∧ ∀ p ∈ st, p.1 ∈ rs
  | [], _ => ⟨by intro p hp; simp at hp, by simp⟩
  | (r, k) :: st, h => by
    simp only [stOk, Bool.and_eq_true] at h
    obtain ⟨⟨h1, h2⟩, h3⟩ := h
    obtain ⟨k1, k2⟩ := stOk_spec h3
    refine ⟨fun p hp => ?_, fun p hp => ?_⟩
    · rcases List.mem_cons.1 hp with rfl | hp
      · unfold ver
        dsimp only
        split at h2 <;> simp_all
      · exact k1 p hp
    · rcases List.mem_cons.1 hp with rfl | hp
      · simpa using h1
      · exact k2 p hp

section
variable {E : Env} {v : Res → Val} {tm : Nat → Value} {w : World} {β : Nat → Nat} {φ : Res → Foot}

theorem RepTup.foot0 {Xs X : Nat → Prop} {vs : List (Bool × List AC)} {us : List Value} {f : Foot} (h : RepTup w Xs X vs us f) : (vs.all fun x => noOwnL x.2) = true → ∀ x, f x = 0 := by
  induction h with
  | nil => intros; rfl
  | cons h t ih =>
    intro hn x
    simp only [List.all_cons, Bool.and_eq_true] at hn
    obtain ⟨vals, h1, _⟩ := h
    have := h1.foot0 hn.1 x
    have := ih hn.2 x
    dsimp only
    omega

theorem RepTup.cast {Xs X : Nat → Prop} {vs : List (Bool × List AC)} {us : List Value} {f g : Foot} (h : RepTup w Xs X vs us f) (e : ∀ x, f x = g x) : RepTup w Xs X vs us g := by
  have : f = g := funext e
  exact this ▸ h

theorem RepTV.zero {st : Stamps} {u : Value} {f : Foot} {tv : TV} (h : RepTV E w tm β φ v st u f tv) (hn : tv.noOwn = true) : RepTV E w tm β φ v st u (fun _ => 0) tv := by
  cases tv with
  | pl a cs => obtain ⟨vals, h1, h2⟩ := h; exact ⟨vals, h1.cast (h1.foot0 hn), h2⟩
  | tup vs => obtain ⟨us, h1, h2⟩ := h; exact ⟨us, h1, h2.cast (h2.foot0 hn)⟩
  | ptr r p off => exact h
  | view cs => exact h
  | ali r p off => exact h
  | fn g caps => exact h
  | mp es => simp [TV.noOwn] at hn
  | pfx s k => exact h
  | und => exact h

/-- What is known of an operand's value. -/
structure OprIs (E : Env) (v : Res → Val) (tm : Nat → Value) (w : World) (β : Nat → Nat) (φ : Res → Foot) (x : Opr) (st : Stamps) (tv : TV) (u : Value) (f : Foot) : Prop where
  rep : RepTV E w tm β φ v st u f tv
  le1 : ∀ b, f b ≤ 1
  src : ∀ b, f b ≠ 0 → ∃ n ∈ oprL x, φ (.t n) b ≠ 0
  live : Live v st
  here : ∀ p ∈ st, isNope (v p.1.res) = false
  root : ∀ p ∈ st, p.1 ∈ oprR x

theorem opr_sound {a : Act} (h : RelW E v (tmv a) w β φ) {x : Opr} {y : Operand} (hxy : oprOk x y = true) {st : Stamps} {tv : TV} {ws : List (Res × Val)} (hx : opr v x = some (st, tv, ws)) :
    ws = dropL v (oprL x) ∧ ∃ f, OprIs E v (tmv a) w β φ x st tv (a.eval y) f ∧ (oprL x = [] → f = fun _ => 0) := by
  cases x with
  | t n rs =>
    cases y <;> simp [oprOk] at hxy
    subst hxy
    simp only [opr] at hx
    split at hx
    · rename_i st' tv' hv
      split at hx
      · rename_i hst
        simp only [Option.some.injEq, Prod.mk.injEq] at hx
        obtain ⟨rfl, rfl, rfl⟩ := hx
        simp only [Bool.and_eq_true] at hst
        obtain ⟨h1, h2⟩ := stOk_spec hst.1
        exact ⟨rfl, fun _ => 0, ⟨(h.ent n _ _ hv h1).zero hst.2, by simp, by simp, h1, h.here n _ _ hv h1, h2⟩, fun _ => rfl⟩
      · simp at hx
    · simp at hx
  | m n =>
    cases y <;> simp [oprOk] at hxy
    subst hxy
    simp only [opr] at hx
    split at hx
    · rename_i tv' hv
      simp only [Option.some.injEq, Prod.mk.injEq] at hx
      obtain ⟨rfl, rfl, rfl⟩ := hx
      have hl : Live v [] := by intro p hp; simp at hp
      exact ⟨by simp [oprL, dropL], φ (.t n), ⟨h.ent n _ _ hv hl, h.le1 _, fun b hb => ⟨n, by simp [oprL], hb⟩, hl, by simp, by simp⟩, by simp [oprL]⟩
    · simp at hx
  | c c =>
    cases y <;> simp [oprOk] at hxy
    simp only [opr, Option.some.injEq, Prod.mk.injEq] at hx
    obtain ⟨rfl, rfl, rfl⟩ := hx
    exact ⟨rfl, fun _ => 0, ⟨⟨[_], .sc (constOk_scal hxy) .nil, by simp [Act.eval]⟩, by simp, by simp, by intro p hp; simp at hp, by simp, by simp⟩, fun _ => rfl⟩
  | p n rs q => simp [opr] at hx

theorem ob_some {α γ : Type} {x : Option α} {g : α → Option γ} {b : γ} (h : ob x g = some b) : ∃ a, x = some a ∧ g a = some b := by
  cases x with
  | none => simp [ob] at h
  | some a => exact ⟨a, rfl, h⟩

theorem sca_opr {x : Opr} {c : AC} (h : sca v x = some c) : ∃ st, opr v x = some (st, .pl false [c], []) := by
  obtain ⟨r, hr, h⟩ := ob_some h
  try dsimp only at h
  split at h <;> simp at h
  subst h
  exact ⟨_, hr⟩

theorem sca_sound {a : Act} (h : RelW E v (tmv a) w β φ) {x : Opr} {y : Operand} (hxy : oprOk x y = true) {c : AC} (hx : sca v x = some c) :
    ∃ st f, RepL w (XS E w φ) (XB w φ st) [c] [a.eval y] f := by
  obtain ⟨st, hx⟩ := sca_opr hx
  obtain ⟨_, f, hi, _⟩ := opr_sound h hxy hx
  obtain ⟨vals, h1, h2⟩ := hi.rep
  simp only [Bool.false_eq_true, if_false] at h2
  subst h2
  exact ⟨_, _, h1⟩

theorem RepL.scal {Xs X : Nat → Prop} {c : AC} {u : Value} {f : Foot} (h : RepL w Xs X [c] [u] f) (hc : c.flat = true) : Scal c u := by
  cases h <;> first | assumption | simp [AC.flat] at hc

theorem sca_val {a : Act} (h : RelW E v (tmv a) w β φ) {x : Opr} {y : Operand} (hxy : oprOk x y = true) {c : AC} (hx : sca v x = some c) (hc : c.flat = true) : Scal c (a.eval y) := by
  obtain ⟨st, f, h1⟩ := sca_sound h hxy hx
  exact h1.scal hc
end

/-- What an operation leaves: the relation at the new valuation, the slots as many, no defers more. -/
structure Good (E : Env) (v' : Res → Val) (a a' : Act) (w' : World) : Prop where
  rel : ∃ β φ, RelW E v' (tmv a') w' β φ
  size : a'.tmps.size = a.tmps.size
  defers : a'.defers = a.defers

theorem tmv_put (a : Act) (d : Nat) (u : Value) (hd : d < a.tmps.size) (n : Nat) : tmv (a.put (some d) u) n = if n = d then u else tmv a n := by
  simp only [tmv, Act.put, Array.getD_eq_getD_getElem?]
  by_cases e : n = d
  · subst e; simp [hd]
  · rw [if_neg e, Array.getElem?_setIfInBounds_ne (Ne.symm e)]

theorem Good.put {E : Env} {v' : Res → Val} {a : Act} {d : Nat} {u : Value} {w' : World} (hd : d < a.tmps.size) (h : ∀ tm', (∀ n, tm' n = if n = d then u else tmv a n) → ∃ β φ, RelW E v' tm' w' β φ) :
    Good E v' a (a.put (some d) u) w' :=
  ⟨h _ (tmv_put a d u hd), by simp [Act.put], rfl⟩

section
variable {P : Program} {o : Oper} {a : Act} {next : Act → World → Prop} {Q : Exit → Act → World → Prop} {w w' : World}
theorem wp_val {d : Nat} {u : Value} (hd : o.dst = some d) (h : (execOp a.eval o).run P w = .ok (.value u) w') (hn : next (a.put (some d) u) w') : o.wp P a w next Q := by
  unfold Oper.wp
  rw [h, Oper.upon_value, hd]
  exact hn
end

/-- Of the slots' values an operation writes its own alone. -/
def Wrote (o : Oper) (a a' : Act) : Prop := ∀ n, o.dst ≠ some n → tmv a' n = tmv a n
theorem Wrote.refl (o : Oper) (a : Act) : Wrote o a a := fun _ _ => rfl
theorem tmv_put_ne (a : Act) (d : Nat) (u : Value) (n : Nat) (h : n ≠ d) : tmv (a.put (some d) u) n = tmv a n := by
  simp only [tmv, Act.put, Array.getD_eq_getD_getElem?]
  rw [Array.getElem?_setIfInBounds_ne (Ne.symm h)]
theorem Wrote.put {o : Oper} {a : Act} {d : Nat} (hd : o.dst = some d) (u : Value) : Wrote o a (a.put (some d) u) := fun n hn =>
  tmv_put_ne a d u n fun e => hn (by rw [hd, e])

/-- An operation is sound at a state: it goes on where the valuation has been written. -/
def OpSound (P : Program) (E : Env) (v' : Res → Val) (o : Oper) (a : Act) (w : World) : Prop :=
  ∀ (next : Act → World → Prop) (Q : Exit → Act → World → Prop), (∀ a' w', Good E v' a a' w' → Wrote o a a' → next a' w') → o.wp P a w next Q

theorem Still.refl (w : World) : Still w w := ⟨rfl, rfl, rfl, rfl⟩

section
variable {P : Program} {E : Env} {v : Res → Val} {o : Oper} {a : Act} {w : World} {β : Nat → Nat} {φ : Res → Foot}

/-- An operation that yields a value out of what is there. -/
theorem OpSound.val (h : RelW E v (tmv a) w β φ) (hC : ∀ b, E.C b → b < E.w0.heap.size) {d : Nat} (hd : o.dst = some d) (hN : d < a.tmps.size) {u : Value} {w' : World}
    (hrun : (execOp a.eval o).run P w = .ok (.value u) w') (hw : Still w w') {L : List Nat} (hdL : d ∉ L) {st : Stamps} {tv : TV} {f : Foot} (hf1 : ∀ b, f b ≤ 1) (hsrc : ∀ b, f b ≠ 0 → ∃ n ∈ L, φ (.t n) b ≠ 0)
    (hst : ∀ p ∈ st, p.1 ≠ .t d ∧ ∀ n ∈ L, p.1 ≠ .t n) (hlive : Live v st) (hh : ∀ p ∈ st, isNope (v p.1.res) = false) (hrep : RepTV E w (tmv a) β φ v st u f tv) :
    OpSound P E (appl v (putT v d st tv ++ dropL v L)) o a w := by
  intro next Q hn
  refine wp_val hd hrun (hn _ _ (Good.put hN fun tm' htm => ?_) (Wrote.put hd u))
  obtain ⟨φ', h'⟩ := h.putV hC hdL hw hf1 hsrc htm hst hlive hh hrep
  exact ⟨β, φ', h'⟩

/-- One that yields a value that owns nothing and hangs on nothing. -/
theorem OpSound.plain (h : RelW E v (tmv a) w β φ) (hC : ∀ b, E.C b → b < E.w0.heap.size) {d : Nat} (hd : o.dst = some d) (hN : d < a.tmps.size) {u : Value}
    (hrun : (execOp a.eval o).run P w = .ok (.value u) w) {c : AC} (hrep : Scal c u) : OpSound P E (appl v (putT v d [] (.pl false [c]))) o a w := by
  have := OpSound.val (P := P) h hC hd hN hrun (.refl w) (L := []) (by simp) (st := []) (tv := .pl false [c]) (f := fun _ => 0) (by simp) (by simp) (by simp) (by intro p hp; simp at hp) (by simp)
    ⟨[u], .sc hrep .nil, by simp⟩
  simpa [dropL] using this


theorem sep_spec {d : Nat} {x : Opr} (h : sep d x = true) : d ∉ oprL x ∧ .t d ∉ oprR x := by
  simp [sep] at h
  exact h

/-- The conditions on stamps, out of an operand. -/
theorem OprIs.stamps {x : Opr} {st : Stamps} {tv : TV} {u : Value} {f : Foot} (hi : OprIs E v (tmv a) w β φ x st tv u f) {d : Nat} (hs : sep d x = true) : ∀ p ∈ st, p.1 ≠ .t d ∧ ∀ n ∈ oprL x, p.1 ≠ .t n := by
  intro p hp
  have hr := hi.root p hp
  refine ⟨fun e => (sep_spec hs).2 (e ▸ hr), fun n hn => ?_⟩
  cases x <;> simp [oprL, oprR] at hn hr

theorem mov_sound {Γ : Gam} (h : RelW E v (tmv a) w β φ) (hC : ∀ b, E.C b → b < E.w0.heap.size) {d : Nat} {x : Opr} {y : Operand} (hop : o.op = .move y ∨ o.op = .assign y) (hd : o.dst = some d) (hN : d < a.tmps.size)
    (hxy : oprOk x y = true) (hsep : sep d x = true) {ws : List (Res × Val)} (hf : fop Γ v (.mov d x) = some ws) : OpSound P E (appl v ws) o a w := by
  obtain ⟨⟨st, tv, ws'⟩, h1, h2⟩ := ob_some hf
  simp only [Option.some.injEq] at h2
  subst h2
  obtain ⟨rfl, f, hi, _⟩ := opr_sound h hxy h1
  exact .val h hC hd hN (u := a.eval y) (by rcases hop with e | e <;> simp [execOp, e]) (.refl w) (sep_spec hsep).1 hi.le1 hi.src (hi.stamps hsep) hi.live hi.here hi.rep

theorem pick_sound {Γ : Gam} (h : RelW E v (tmv a) w β φ) (hC : ∀ b, E.C b → b < E.w0.heap.size) {d : Nat} {c x x' : Opr} {z y y' : Operand} (hop : o.op = .pick z y y') (hd : o.dst = some d) (hN : d < a.tmps.size)
    (hcz : oprOk c z = true) (hxy : oprOk x y = true) (hxy' : oprOk x' y' = true) (hsep : sep d x = true) (hsep' : sep d x' = true) (hL : oprL x = []) (hL' : oprL x' = [])
    {ws : List (Res × Val)} (hf : fop Γ v (.pick d c x x') = some ws) : OpSound P E (appl v ws) o a w := by
  obtain ⟨b, h1, h2⟩ := ob_some hf
  try dsimp only at h2
  split at h2
  · obtain ⟨⟨st, tv, ws'⟩, h3, h4⟩ := ob_some h2
    try dsimp only at h4
    split at h4 <;> simp only [Option.some.injEq, reduceCtorEq] at h4
    subst h4
    have hz := sca_val h hcz h1 rfl
    obtain ⟨_, f, hi, _⟩ := opr_sound h hxy h3
    have := OpSound.val (P := P) h hC hd hN (u := a.eval y) (by simp only [Scal] at hz; simp [execOp, hop, hz, asBool]) (.refl w) (sep_spec hsep).1 hi.le1 hi.src (hi.stamps hsep) hi.live hi.here hi.rep
    simpa [hL, dropL] using this
  · obtain ⟨⟨st, tv, ws'⟩, h3, h4⟩ := ob_some h2
    try dsimp only at h4
    split at h4 <;> simp only [Option.some.injEq, reduceCtorEq] at h4
    subst h4
    have hz := sca_val h hcz h1 rfl
    obtain ⟨_, f, hi, _⟩ := opr_sound h hxy' h3
    have := OpSound.val (P := P) h hC hd hN (u := a.eval y') (by simp only [Scal] at hz; simp [execOp, hop, hz, asBool]) (.refl w) (sep_spec hsep').1 hi.le1 hi.src (hi.stamps hsep') hi.live hi.here hi.rep
    simpa [hL', dropL] using this
  · simp at h2

theorem not_sound {Γ : Gam} (h : RelW E v (tmv a) w β φ) (hC : ∀ b, E.C b → b < E.w0.heap.size) {d : Nat} {x : Opr} {y : Operand} {t : TypeId} (hop : o.op = .unOp .not t y) (hd : o.dst = some d) (hN : d < a.tmps.size)
    (hxy : oprOk x y = true) {ws : List (Res × Val)} (hf : fop Γ v (.not d x) = some ws) : OpSound P E (appl v ws) o a w := by
  obtain ⟨c, h1, h2⟩ := ob_some hf
  try dsimp only at h2
  split at h2 <;> simp only [Option.some.injEq, reduceCtorEq] at h2
  subst h2
  have hz := sca_val h hxy h1 rfl
  simp only [Scal] at hz
  exact .plain h hC hd hN (u := .bool _) (by simp [execOp, hop, hz, Op.unary]) rfl

theorem neg_sound {Γ : Gam} (h : RelW E v (tmv a) w β φ) (hC : ∀ b, E.C b → b < E.w0.heap.size) {d : Nat} {x : Opr} {y : Operand} {t : TypeId} (hop : o.op = .unOp .neg t y) (hd : o.dst = some d) (hN : d < a.tmps.size)
    (hxy : oprOk x y = true) {ws : List (Res × Val)} (hf : fop Γ v (.neg d x) = some ws) : OpSound P E (appl v ws) o a w := by
  obtain ⟨c, h1, h2⟩ := ob_some hf
  try dsimp only at h2
  split at h2 <;> simp only [Option.some.injEq, reduceCtorEq] at h2
  subst h2
  have hz := sca_val h hxy h1 rfl
  simp only [Scal] at hz
  refine .plain h hC hd hN (u := .int _ _) (by simp [execOp, hop, hz, Op.unary, Op.intArith]; exact ⟨rfl, rfl⟩) ?_
  simp [Scal]

theorem mm_sound {Γ : Gam} (h : RelW E v (tmv a) w β φ) (hC : ∀ b, E.C b → b < E.w0.heap.size) {d : Nat} {mx : Bool} {x x' : Opr} {y y' : Operand} {ts : Array TypeId}
    (hop : o.op = .call { callee := .builtin (if mx then .max else .min), args := #[y, y'], argTypes := ts }) (hd : o.dst = some d) (hN : d < a.tmps.size)
    (hxy : oprOk x y = true) (hxy' : oprOk x' y' = true) {ws : List (Res × Val)} (hf : fop Γ v (.mm d mx x x') = some ws) : OpSound P E (appl v ws) o a w := by
  obtain ⟨c, h1, h2⟩ := ob_some hf
  try dsimp only at h2
  split at h2 <;> try (simp only [reduceCtorEq] at h2)
  obtain ⟨c', h3, h4⟩ := ob_some h2
  try dsimp only at h4
  split at h4 <;> try (simp only [reduceCtorEq] at h4)
  split at h4 <;> simp only [Option.some.injEq, reduceCtorEq] at h4
  subst h4
  have hz := sca_val h hxy h1 rfl
  have hz' := sca_val h hxy' h3 rfl
  simp only [Scal] at hz hz'
  rename_i _ k n _ k' m hk
  refine .plain h hC hd hN (u := .int k (if mx then max n m else min n m)) ?_ ?_
  · cases mx
    · simp only [execOp, hop]
      simp [resolve, invoke, builtin, Builtin.min_, Builtin.min2, hz, hz']
      omega
    · simp only [execOp, hop]
      simp [resolve, invoke, builtin, Builtin.max_, Builtin.max2, hz, hz']
      omega
  · rfl

theorem idx_sound {Γ : Gam} (h : RelW E v (tmv a) w β φ) (hC : ∀ b, E.C b → b < E.w0.heap.size) {d : Nat} {x i : Opr} {y j : Operand} {t : TypeId} (hop : o.op = .index t y j) (hd : o.dst = some d) (hN : d < a.tmps.size)
    (ht : P.underlying t = some .string) (hxy : oprOk x y = true) (hij : oprOk i j = true) {ws : List (Res × Val)} (hf : fop Γ v (.idx d x i) = some ws) : OpSound P E (appl v ws) o a w := by
  obtain ⟨c, h1, h2⟩ := ob_some hf
  try dsimp only at h2
  split at h2 <;> try (simp only [reduceCtorEq] at h2)
  obtain ⟨c', h3, h4⟩ := ob_some h2
  try dsimp only at h4
  split at h4 <;> try (simp only [reduceCtorEq] at h4)
  split at h4 <;> try (simp only [reduceCtorEq] at h4)
  split at h4 <;> simp only [Option.some.injEq, reduceCtorEq] at h4
  subst h4
  rename_i _ _ n _ s h0 _ ch hch
  have hz := sca_val h hij h1 rfl
  have hz' := sca_val h hxy h3 rfl
  simp only [Scal] at hz hz'
  refine .plain h hC hd hN (u := .int .u8 ch.toNat) ?_ rfl
  simp only [execOp, hop, hz, hz']
  have hb : (⟨s.toArray⟩ : ByteArray)[n.toNat]? = some ch := by
    obtain ⟨hlt, e⟩ := List.getElem?_eq_some_iff.1 hch
    have : n.toNat < (⟨s.toArray⟩ : ByteArray).size := by simpa [ByteArray.size] using hlt
    rw [getElem?_pos (⟨s.toArray⟩ : ByteArray) n.toNat this]
    simp [← e, ByteArray.getElem_eq_getElem_data]
  simp [Instr.index, asIntOf, run_underlying ht, h0, hb]

theorem rep_pointer {st : Stamps} {tv : TV} {u : Value} {f : Foot} (h : RepTV E w (tmv a) β φ v st u f tv) (ht : match tv with | .ptr .. => True | .view _ => True | _ => False) : ∃ b o, u = .pointer (some ⟨b, o, none⟩) := by
  cases tv with
  | ptr r p off => obtain ⟨_, _, b, o, e, _⟩ := h; exact ⟨b, o, e⟩
  | view cs => obtain ⟨b, o, _, e, _⟩ := h; exact ⟨b, o, e⟩
  | _ => exact ht.elim

/-- What is known of a slot's entry whose stamps are live. -/
theorem RelW.slotRep (h : RelW E v (tmv a) w β φ) {n : Nat} {st : Stamps} {tv : TV} (hv : v (.t n) = .t st tv) (hl : Live v st) : RepTV E w (tmv a) β φ v st (tmv a n) (φ (.t n)) tv ∧ ∀ p ∈ st, isNope (v p.1.res) = false :=
  ⟨h.ent n st tv hv hl, h.here n st tv hv hl⟩


theorem Along.shift {w : World} {own : Nat → Prop} (k : Nat) : ∀ {p : Path} {b o off b' o' : Nat}, Along w own b o p off b' o' → Along w own b o p (off + k) b' (o' + k)
  | [], _, _, _, _, _, ⟨h1, h2, h3⟩ => ⟨h1, h2, by omega⟩
  | _ :: _, _, _, _, _, _, ⟨h1, s, so, len, cap, h2, h3⟩ => ⟨h1, s, so, len, cap, h2, Along.shift k h3⟩
theorem Reach.shift {w : World} {tm : Nat → Value} {β : Nat → Nat} {own : Nat → Prop} {r : Rt} {p : Path} {off b o : Nat} (k : Nat) (h : Reach w tm β own r p off b o) : Reach w tm β own r p (off + k) b (o + k) := by
  cases r with
  | b n => exact Along.shift k h
  | t n =>
    cases p with
    | nil => exact h.elim
    | cons x p => obtain ⟨h0, s, so, len, cap, h1, h2⟩ := h; exact ⟨h0, s, so, len, cap, h1, h2.shift k⟩

def fieldOff (P : Program) (s : TypeId) (f : Nat) : Option Nat :=
  match P.underlying s with
  | some (.struct fs) => match fs[f]? with
    | some fd => match P.info? fd.type with
      | some i => if i.size = 0 then none else some fd.offset
      | none => none
    | none => none
  | _ => none
theorem fieldAt_run {s : TypeId} {f k : Nat} (h : fieldOff P s f = some k) (b o : Nat) (w : World) : (Instr.fieldAt s (.pointer (some ⟨b, o, none⟩)) f).run P w = .ok (.pointer (some ⟨b, o + k, none⟩)) w := by
  unfold fieldOff at h
  split at h <;> try (simp at h; done)
  rename_i fs hs
  split at h <;> try (simp at h; done)
  rename_i fd hf
  split at h <;> try (simp at h; done)
  rename_i i hi
  split at h <;> try (simp at h; done)
  rename_i hz
  simp at h
  subst h
  simp [Instr.fieldAt, run_underlying hs, hf, Instr.sureAddr, fieldPlace, sizeOf, typeInfo, hi, hz, Addr.add_lit]

/-- Stamps of a slot that was looked at with its roots. -/
theorem slot_stamps {st : Stamps} {rs : List Rt} {d : Nat} (h : ∀ p ∈ st, p.1 ∈ rs) (hd : rs.contains (.t d) = false) : ∀ p ∈ st, p.1 ≠ .t d ∧ ∀ n ∈ ([] : List Nat), p.1 ≠ .t n := by
  intro p hp
  refine ⟨fun e => ?_, by simp⟩
  have := h p hp
  rw [e] at this
  simp at hd
  exact hd this

theorem nilc_sound {Γ : Gam} (h : RelW E v (tmv a) w β φ) (hC : ∀ b, E.C b → b < E.w0.heap.size) {d p : Nat} {rs : List Rt} (hop : o.op = .nilCheck (.tmp p)) (hd : o.dst = some d) (hN : d < a.tmps.size)
    (hrs : rs.contains (.t d) = false) {ws : List (Res × Val)} (hf : fop Γ v (.nilc d p rs) = some ws) : OpSound P E (appl v ws) o a w := by
  simp only [fop] at hf
  have run : ∀ b o', tmv a p = .pointer (some ⟨b, o', none⟩) → (execOp a.eval o).run P w = .ok (.value (tmv a p)) w := by
    intro b o' e
    have : a.eval (.tmp p) = .pointer (some ⟨b, o', none⟩) := e
    simp [execOp, hop, this, e]
  split at hf
  · rename_i st q path off hv
    split at hf <;> simp only [Option.some.injEq, reduceCtorEq] at hf
    rename_i hst
    subst hf
    obtain ⟨h1, h2⟩ := stOk_spec hst
    obtain ⟨k1, k2⟩ := h.slotRep hv h1
    obtain ⟨b, o', e⟩ := rep_pointer k1 trivial
    have := OpSound.val (P := P) h hC hd hN (run b o' e) (.refl w) (L := []) (by simp) (f := fun _ => 0) (by simp) (by simp) (slot_stamps h2 hrs) h1 k2 (k1.zero rfl)
    simpa [dropL] using this
  · rename_i st cs hv
    split at hf <;> simp only [Option.some.injEq, reduceCtorEq] at hf
    rename_i hst
    subst hf
    obtain ⟨h1, h2⟩ := stOk_spec hst
    obtain ⟨k1, k2⟩ := h.slotRep hv h1
    obtain ⟨b, o', e⟩ := rep_pointer k1 trivial
    have := OpSound.val (P := P) h hC hd hN (run b o' e) (.refl w) (L := []) (by simp) (f := fun _ => 0) (by simp) (by simp) (slot_stamps h2 hrs) h1 k2 (k1.zero rfl)
    simpa [dropL] using this
  · rename_i st m cs hv
    split at hf <;> simp only [Option.some.injEq, reduceCtorEq] at hf
    rename_i hst
    subst hf
    simp only [Bool.and_eq_true, decide_eq_true_eq] at hst
    obtain ⟨h1, h2⟩ := stOk_spec hst.1
    obtain ⟨⟨vals, k1, k1'⟩, k2⟩ := h.slotRep hv h1
    simp only [Bool.false_eq_true, if_false] at k1'
    subst k1'
    have : ∃ b o' vs, tmv a p = .pointer (some ⟨b, o', none⟩) ∧ XB w φ st b ∧ Cells w b o' vs ∧ RepL w (XS E w φ) (XB w φ st) (if m = .sh then cs else brwL cs) vs (fun _ => 0) := by
      have xsb : ∀ b, XS E w φ b → XB w φ st b := fun b hb => ⟨hb.1, fun r hr => absurd (hb.2.1 r) hr⟩
      generalize tmv a p = u at k1
      generalize φ (.t p) = f at k1
      cases k1 with
      | sc hs => simp [Scal] at hs
      | refOwn => exact absurd rfl hst.2
      | refSh hX hcv hh t => exact ⟨_, _, _, rfl, xsb _ hX, hcv, by simpa using hh.weak (fun _ h => h) xsb⟩
      | refBor hX hcv hh t => exact ⟨_, _, _, rfl, hX, hcv, by simpa using hh.brw _ (fun _ h => h) (fun _ h => h) (fun _ h => absurd rfl h)⟩
    obtain ⟨b, o', vs, e, g1, g2, g3⟩ := this
    have := OpSound.val (P := P) (tv := .view (if m = .sh then cs else brwL cs)) h hC hd hN (run b o' e) (.refl w) (L := []) (by simp) (f := fun _ => 0) (by simp) (by simp) (slot_stamps h2 hrs) h1 k2 ⟨b, o', vs, e, g1, g2, g3⟩
    simpa [dropL] using this
  · simp at hf

theorem fad_sound {Γ : Gam} (h : RelW E v (tmv a) w β φ) (hC : ∀ b, E.C b → b < E.w0.heap.size) {d p k f : Nat} {s : TypeId} {rs : List Rt} (hop : o.op = .fieldAddr s (.tmp p) f) (hd : o.dst = some d) (hN : d < a.tmps.size)
    (hk : fieldOff P s f = some k) (hrs : rs.contains (.t d) = false) {ws : List (Res × Val)} (hf : fop Γ v (.fad d p rs k) = some ws) : OpSound P E (appl v ws) o a w := by
  simp only [fop] at hf
  have run : ∀ b o', tmv a p = .pointer (some ⟨b, o', none⟩) → (execOp a.eval o).run P w = .ok (.value (.pointer (some ⟨b, o' + k, none⟩))) w := by
    intro b o' e
    have : a.eval (.tmp p) = .pointer (some ⟨b, o', none⟩) := e
    have r := fieldAt_run hk b o' w
    simp [execOp, hop, this, r]
  split at hf
  · rename_i st q path off hv
    split at hf <;> simp only [Option.some.injEq, reduceCtorEq] at hf
    rename_i hst
    subst hf
    obtain ⟨h1, h2⟩ := stOk_spec hst
    obtain ⟨⟨g1, g2, b, o', e, g3⟩, k2⟩ := h.slotRep hv h1
    have := OpSound.val (P := P) (tv := .ptr q path (off + k)) h hC hd hN (run b o' e) (.refl w) (L := []) (by simp) (f := fun _ => 0) (by simp) (by simp) (slot_stamps h2 hrs) h1 k2 ⟨g1, g2, b, _, rfl, g3.shift k⟩
    simpa [dropL] using this
  · rename_i st cs hv
    split at hf <;> simp only [Option.some.injEq, reduceCtorEq] at hf
    rename_i hst
    subst hf
    obtain ⟨h1, h2⟩ := stOk_spec hst
    obtain ⟨⟨b, o', vs, e, g1, g2, g3⟩, k2⟩ := h.slotRep hv h1
    have cut : ∃ vs', Cells w b (o' + k) vs' ∧ RepL w (XS E w φ) (XB w φ st) (cs.drop k) vs' (fun _ => 0) := by
      have h' : RepL w (XS E w φ) (XB w φ st) (cs.take k ++ cs.drop k) vs (fun _ => 0) := by rw [List.take_append_drop]; exact g3
      obtain ⟨v1, v2, φ1, φ2, rfl, e1, e2, hs⟩ := RepL.split _ _ h'
      rw [Cells.app] at g2
      have l1 := e1.length
      by_cases hk' : k ≤ cs.length
      · rw [List.length_take, Nat.min_eq_left hk'] at l1
        rw [l1] at g2
        exact ⟨v2, g2.2, e2.cast (fun x => by have := hs x; omega)⟩
      · have l2 := e2.length
        rw [List.length_drop, show cs.length - k = 0 by omega] at l2
        have : v2 = [] := List.eq_nil_of_length_eq_zero l2
        subst this
        exact ⟨[], fun j hj => absurd hj (by simp), e2.cast (fun x => by have := hs x; omega)⟩
    obtain ⟨vs', c1, c2⟩ := cut
    have := OpSound.val (P := P) (tv := .view (cs.drop k)) h hC hd hN (run b o' e) (.refl w) (L := []) (by simp) (f := fun _ => 0) (by simp) (by simp) (slot_stamps h2 hrs) h1 k2 ⟨b, _, vs', rfl, g1, c1, c2⟩
    simpa [dropL] using this
  · simp at hf
end
end Go.Fw
