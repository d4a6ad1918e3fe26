/- The framework, part U: the check of an operation against the program's own, and that an operation that fits is sound. Conditions: none. -/
import Derived.Test.YtmbkipogmaimaaaGreatDoorFwT
namespace Go.Fw
open Go

def isStr (P : Program) (t : TypeId) : Bool := match P.underlying t with | some .string => true | _ => false
def isInt (P : Program) (t : TypeId) (k : IntKind) : Bool := match P.underlying t with | some (.int k') => decide (k = k') | _ => false
def elOf (P : Program) (t : TypeId) : Option TypeId := match P.underlying t with | some (.slice e) => some e | _ => none
def isPtr (P : Program) (t : TypeId) : Bool := match P.underlying t with | some (.pointer _) => true | _ => false
theorem isStr_spec {P : Program} {t : TypeId} (h : isStr P t = true) : P.underlying t = some .string := by unfold isStr at h; split at h <;> simp_all
theorem isInt_spec {P : Program} {t : TypeId} {k : IntKind} (h : isInt P t k = true) : P.underlying t = some (.int k) := by unfold isInt at h; split at h <;> simp_all
theorem elOf_spec {P : Program} {t e : TypeId} (h : elOf P t = some e) : P.underlying t = some (.slice e) := by unfold elOf at h; split at h <;> simp_all
theorem isPtr_spec {P : Program} {t : TypeId} (h : isPtr P t = true) : ∃ e, P.underlying t = some (.pointer e) := by unfold isPtr at h; split at h <;> simp_all

def dstOk (N d : Nat) (o : Oper) : Bool := o.dst == some d && decide (d < N)

def callOk (P : Program) (f : FuncId) : Bool := match P.funcs[f]? with | some fn => !(fn.name == "runtime.NumGoroutine") && fn.body.isSome | none => false
def passOk (as : List Arg) : Bool := (argsR as).all fun q => match q with | .t n => !(argsL as).contains n | .b n => !(argsB as).contains n

def mop (P : Program) (N : Nat) (x : IOp) (o : Oper) : Bool :=
  match x, o.op with
  | .mov d x, .move y => dstOk N d o && oprOk x y && sep d x
  | .mov d x, .assign y => dstOk N d o && oprOk x y && sep d x
  | .alias d s rs, .move (.tmp s') => dstOk N d o && s == s' && !rs.contains (.t d)
  | .alias d s rs, .assign (.tmp s') => dstOk N d o && s == s' && !rs.contains (.t d)
  | .pick d c x x', .pick z y y' => dstOk N d o && oprOk c z && oprOk x y && oprOk x' y' && sep d x && sep d x' && (oprL x).isEmpty && (oprL x').isEmpty
  | .alloc d cs, .alloc t => dstOk N d o && zeroOk P t cs
  | .box d x, .box _ y => dstOk N d o && oprOk x y && sep d x
  | .build d z ps, .build t qs => dstOk N d o && zeroOk P t z && (match structPlaces P t with | some pl => psOk (pl.toArray[·]?) ps qs.toList | none => false) && decide (oprsL ps).Nodup && !(oprsL ps).contains d &&
      !(oprsR ps).contains (.t d) && (oprsL ps).all fun n => !(oprsR ps).contains (.t n)
  | .mkrow d e z n ps, .buildSlice t n' qs => dstOk N d o && n == n' && (match rowTy P t with | some (el, e', _) => e == e' && zeroOk P el z | none => false) && decide (n * e ≤ 16777216) &&
      psOk (fun i => some (i * e, e)) ps qs.toList && decide (oprsL ps).Nodup && !(oprsL ps).contains d
  | .load d p rs r n g _, .load t (.tmp p') => dstOk N d o && p == p' && tySize P t == some n && isAggB P t == some g && (g || n == 1) && !rs.contains (.t d) && !(r == some (.t d))
  | .store p _ q n x, .store t (.tmp p') y => o.dst == none && p == p' && tySize P t == some n && oprOk x y && (oprL x).all fun k => !(q == .t k)
  | .nilc d p rs, .nilCheck (.tmp p') => dstOk N d o && p == p' && !rs.contains (.t d)
  | .fad d p rs k, .fieldAddr s (.tmp p') f => dstOk N d o && p == p' && fieldOff P s f == some k && !rs.contains (.t d)
  | .fld d x k n g, .field s y f => dstOk N d o && fieldIs P s f == some (k, n, g) && (g || n == 1) && oprOk x y && sep d x && (oprL x).isEmpty
  | .iad d x rs r i e, .indexAddr t (.tmp x') j => dstOk N d o && x == x' && (match elOf P t with | some el => tySize P el == some e | none => false) && oprOk i j && !rs.contains (.t d) && !(r == some (.t d))
  | .idx d x i, .index t y j => dstOk N d o && isStr P t && oprOk x y && oprOk i j
  | .len d x _, .call c => dstOk N d o && (match c.callee with | .builtin .len => (match c.args.toList, c.argTypes.toList with | [y], [t] => (elOf P t).isSome && oprOk x y | _, _ => false) | _ => false)
  | .slen d x, .call c => dstOk N d o && (match c.callee with | .builtin .len => (match c.args.toList, c.argTypes.toList with | [y], [t] => isStr P t && oprOk x y | _, _ => false) | _ => false)
  | .bin d op x x', .binOp b _ y y' _ => dstOk N d o && decide (b = op.op) && oprOk x y && oprOk x' y'
  | .sbin d op x x', .binOp b _ y y' _ => dstOk N d o && decide (b = op.op) && oprOk x y && oprOk x' y'
  | .ceq d ng g ks x x', .binOp b t y y' _ => dstOk N d o && decide (b = if ng then .neq else .eql) && flatTy P 10000 t == some ks && isAggB P t == some g && (if g then !P.eqGuardType P.depth t else ks == [.bool]) && oprOk x y && oprOk x' y'
  | .peq d ng p _, .binOp b t (.tmp p') (.const (.pointer none)) _ => dstOk N d o && decide (b = if ng then .neq else .eql) && p == p' && isPtr P t
  | .not d x, .unOp .not _ y => dstOk N d o && oprOk x y
  | .neg d x, .unOp .neg _ y => dstOk N d o && oprOk x y
  | .conv d k x, .convert t s y => dstOk N d o && (P.underlying t).isSome && isInt P s k && oprOk x y
  | .make d e z b n, .makeSlice t y y' => dstOk N d o && (match rowTy P t with | some (el, e', b') => e == e' && b == b' && zeroOk P el z | none => false) && oprOk n y && oprOk n y'
  | .slice d e x r lo hi, .slice t y lo' hi' none => dstOk N d o && (match elOf P t with | some el => tySize P el == some e | none => false) && oprOk x y && optOk lo lo' && optOk hi hi' && sep d x && !(r == some (.t d)) && (oprL x).isEmpty
  | .tslice d e x lo hi, .slice t y lo' hi' none => dstOk N d o && (match elOf P t with | some el => tySize P el == some e | none => false) && oprOk x y && optOk lo lo' && optOk hi hi' && !(oprL x).contains d
  | .ssub d x lo hi, .slice t y lo' hi' none => dstOk N d o && isStr P t && oprOk x y && optOk lo lo' && optOk hi hi'
  | .app d e s x _ b, .call c => dstOk N d o && (match c.callee with
      | .builtin .append => (match c.args.toList, c.argTypes.toList with
        | [y, y'], [t, t'] => (match rowTy P t with | some (_, e', b') => e == e' && b == b' | none => false) && (elOf P t').isSome && oprOk s y && oprOk x y' && decide (oprL s ++ oprL x).Nodup && !(oprL s ++ oprL x).contains d
        | _, _ => false)
      | _ => false)
  | .mm d mx x x', .call c => dstOk N d o && (match c.callee with
      | .builtin b => decide (b = if mx then .max else .min) && (match c.args.toList with | [y, y'] => oprOk x y && oprOk x' y' | _ => false)
      | _ => false)
  | .ext d x i _, .extract y i' => dstOk N d o && i == i' && oprOk x y
  | .call d f as _, .call c => dstOk N d o && (match c.callee with
      | .value (.func f') => f == f' && callOk P f && argsOk as c.args.toList && decide (argsL as).Nodup && !(argsL as).contains d && passOk as
      | _ => false)
  | .ofStr d x, .convert t s y => dstOk N d o && isStr P t && (match elOf P s with | some el => isInt P el .u8 | none => false) && oprOk x y
  | .toStr d x _, .convert t s y => dstOk N d o && isStr P s && (match elOf P t with | some el => isInt P el .u8 | none => false) && oprOk x y
  | .appa d e n _ _ x _ b, .call c => dstOk N d o && (match c.callee with
      | .builtin .append => (match c.args.toList, c.argTypes.toList with
        | [.tmp n', y'], [t, t'] => n == n' && (match rowTy P t with | some (_, e', b') => e == e' && b == b' | none => false) && (elOf P t').isSome && oprOk x y' && decide (oprL (.m n) ++ oprL x).Nodup && !(oprL (.m n) ++ oprL x).contains d
        | _, _ => false)
      | _ => false)
  | .pslice d x _ q hi, .slice t (.tmp x') none (some y) none => dstOk N d o && x == x' && (match elOf P t with | some el => (tySize P el).isSome | none => false) && oprOk hi y && !(d == q)
  | .ieq d ng x, .binOp b t y (.const .nilIface) _ => dstOk N d o && decide (b = if ng then .neq else .eql) && oprOk x y && isIface P t
  | .mkmap d, .makeMap _ none => dstOk N d o
  | .mlook d m _ _ k, .lookup t (.tmp m') y false => dstOk N d o && m == m' && mapTy P t && oprOk k y
  | .mset m _ _ k x, .mapUpdate t (.tmp m') y z => o.dst == none && m == m' && mapTy P t && oprOk k y && oprOk x z
  | _, _ => false

section
variable {P : Program} {E : Env} {v : Res → Val} {o : Oper} {a : Act} {w : World} {β : Nat → Nat} {φ : Res → Foot}

theorem dstOk_spec {N d : Nat} (h : dstOk N d o = true) (hN : N ≤ a.tmps.size) : o.dst = some d ∧ d < a.tmps.size := by
  simp only [dstOk, Bool.and_eq_true, beq_iff_eq, decide_eq_true_eq] at h
  exact ⟨h.1, by omega⟩

theorem op_sound {Γ : Gam} (hΓ : Sat P Γ) (h : RelW E v (tmv a) w β φ) (hC : ∀ b, E.C b → b < E.w0.heap.size) {N : Nat} (hN : N ≤ a.tmps.size) {x : IOp} (hm : mop P N x o = true) {ws : List (Res × Val)} (hf : fop Γ v x = some ws) :
    OpSound P E (appl v ws) o a w := by
  unfold mop at hm
  split at hm <;> try simp only [Bool.and_eq_true, Bool.not_eq_true', beq_iff_eq, decide_eq_true_eq, List.isEmpty_iff, Bool.or_eq_true, Bool.false_eq_true] at hm
  · rename_i _ _ d x y hop
    obtain ⟨⟨hd, h1⟩, h2⟩ := hm
    obtain ⟨hd, hN⟩ := dstOk_spec hd hN
    exact mov_sound h hC (.inl hop) hd hN h1 h2 hf
  · rename_i _ _ d x y hop
    obtain ⟨⟨hd, h1⟩, h2⟩ := hm
    obtain ⟨hd, hN⟩ := dstOk_spec hd hN
    exact mov_sound h hC (.inr hop) hd hN h1 h2 hf
  · rename_i _ _ d s rs s' hop
    obtain ⟨⟨hd, rfl⟩, h1⟩ := hm
    obtain ⟨hd, hN⟩ := dstOk_spec hd hN
    exact alias_sound h hC (.inl hop) hd hN h1 hf
  · rename_i _ _ d s rs s' hop
    obtain ⟨⟨hd, rfl⟩, h1⟩ := hm
    obtain ⟨hd, hN⟩ := dstOk_spec hd hN
    exact alias_sound h hC (.inr hop) hd hN h1 hf
  · rename_i _ _ d c x x' z y y' hop
    obtain ⟨⟨⟨⟨⟨⟨⟨hd, h1⟩, h2⟩, h3⟩, h4⟩, h5⟩, h6⟩, h7⟩ := hm
    obtain ⟨hd, hN⟩ := dstOk_spec hd hN
    exact pick_sound h hC hop hd hN h1 h2 h3 h4 h5 h6 h7 hf
  · rename_i _ _ d cs t hop
    obtain ⟨hd, h1⟩ := hm
    obtain ⟨hd, hN⟩ := dstOk_spec hd hN
    exact alloc_sound h hC hop hd hN h1 hf
  · rename_i _ _ d x t y hop
    obtain ⟨⟨hd, h1⟩, h2⟩ := hm
    obtain ⟨hd, hN⟩ := dstOk_spec hd hN
    exact box_sound h hC hop hd hN h1 h2 hf
  · rename_i _ _ d z ps t qs hop
    obtain ⟨⟨⟨⟨⟨⟨hd, h1⟩, h2⟩, h3⟩, h4⟩, h5⟩, h6⟩ := hm
    obtain ⟨hd, hN⟩ := dstOk_spec hd hN
    split at h2 <;> try (simp at h2; done)
    rename_i pl hpl
    refine build_sound h hC hop hd hN h1 hpl h2 h3 (by simpa using h4) (by simpa using h5) (fun n hn => ?_) hf
    have := List.all_eq_true.1 h6 n hn
    simpa using this
  · rename_i _ _ d e z n ps t n' qs hop
    obtain ⟨⟨⟨⟨⟨⟨hd, rfl⟩, h1⟩, h2⟩, h3⟩, h4⟩, h5⟩ := hm
    obtain ⟨hd, hN⟩ := dstOk_spec hd hN
    split at h1 <;> try (simp at h1; done)
    rename_i el e' by_ hr
    simp only [Bool.and_eq_true, beq_iff_eq] at h1
    obtain ⟨rfl, h1⟩ := h1
    exact mkrow_sound h hC hop hd hN hr h1 h2 h3 h4 (by simpa using h5) hf
  · rename_i _ _ d p rs r n g m t p' hop
    obtain ⟨⟨⟨⟨⟨⟨hd, rfl⟩, h1⟩, h2⟩, h3⟩, h4⟩, h5⟩ := hm
    obtain ⟨hd, hN⟩ := dstOk_spec hd hN
    have hg : g = false → n = 1 := fun e => by rcases h3 with h3 | h3; rw [e] at h3; simp at h3; exact h3
    have h5' : r ≠ some (.t d) := by simpa using h5
    cases m with
    | mv => exact loadm_sound h hC hop hd hN h1 h2 hg h4 h5' (.inl rfl) hf
    | fz => exact loadm_sound h hC hop hd hN h1 h2 hg h4 h5' (.inr rfl) hf
    | cp => exact load_sound h hC hop hd hN h1 h2 hg h4 h5' (by simp) hf
    | bo => exact load_sound h hC hop hd hN h1 h2 hg h4 h5' (by simp) hf
    | al => exact load_sound h hC hop hd hN h1 h2 hg h4 h5' (by simp) hf
  · rename_i _ _ p rs q n x t p' y hop
    obtain ⟨⟨⟨⟨hd, rfl⟩, h1⟩, h2⟩, h3⟩ := hm
    refine store_sound h hC hop hd h1 h2 (fun k hk => ?_) hf
    have := List.all_eq_true.1 h3 k hk
    simpa using this
  · rename_i _ _ d p rs p' hop
    obtain ⟨⟨hd, rfl⟩, h1⟩ := hm
    obtain ⟨hd, hN⟩ := dstOk_spec hd hN
    exact nilc_sound h hC hop hd hN h1 hf
  · rename_i _ _ d p rs k s p' f hop
    obtain ⟨⟨⟨hd, rfl⟩, h1⟩, h2⟩ := hm
    obtain ⟨hd, hN⟩ := dstOk_spec hd hN
    exact fad_sound h hC hop hd hN h1 h2 hf
  · rename_i _ _ d x k n g s y f hop
    obtain ⟨⟨⟨⟨⟨hd, h1⟩, h2⟩, h3⟩, h4⟩, h5⟩ := hm
    obtain ⟨hd, hN⟩ := dstOk_spec hd hN
    exact fld_sound h hC hop hd hN h1 (fun e => by rcases h2 with h2 | h2; rw [e] at h2; simp at h2; exact h2) h3 h4 h5 hf
  · rename_i _ _ d x rs r i e t x' j hop
    obtain ⟨⟨⟨⟨⟨hd, rfl⟩, h1⟩, h2⟩, h3⟩, h4⟩ := hm
    obtain ⟨hd, hN⟩ := dstOk_spec hd hN
    split at h1 <;> try (simp at h1; done)
    rename_i el hel
    rw [beq_iff_eq] at h1
    exact iad_sound h hC hop hd hN (elOf_spec hel) h1 h2 h3 (by simpa using h4) hf
  · rename_i _ _ d x i t y j hop
    obtain ⟨⟨⟨hd, h1⟩, h2⟩, h3⟩ := hm
    obtain ⟨hd, hN⟩ := dstOk_spec hd hN
    exact idx_sound h hC hop hd hN (isStr_spec h1) h2 h3 hf
  · rename_i _ _ d x r c hop
    obtain ⟨hd, h1⟩ := hm
    obtain ⟨hd, hN⟩ := dstOk_spec hd hN
    obtain ⟨callee, args, ts⟩ := c
    simp only at h1
    split at h1 <;> try (simp at h1; done)
    split at h1 <;> try (simp at h1; done)
    rename_i y t e1 e2
    simp only [Bool.and_eq_true] at h1
    obtain ⟨el, hel⟩ := Option.isSome_iff_exists.1 h1.1
    have a1 : args = #[y] := Array.ext' e1
    have a2 : ts = #[t] := Array.ext' e2
    subst a1 a2
    exact len_sound h hC hop hd hN (elOf_spec hel) h1.2 hf
  · rename_i _ _ d x c hop
    obtain ⟨hd, h1⟩ := hm
    obtain ⟨hd, hN⟩ := dstOk_spec hd hN
    obtain ⟨callee, args, ts⟩ := c
    simp only at h1
    split at h1 <;> try (simp at h1; done)
    split at h1 <;> try (simp at h1; done)
    rename_i y t e1 e2
    simp only [Bool.and_eq_true] at h1
    have a1 : args = #[y] := Array.ext' e1
    have a2 : ts = #[t] := Array.ext' e2
    subst a1 a2
    exact slen_sound h hC hop hd hN (isStr_spec h1.1) h1.2 hf
  · rename_i _ _ d op x x' b t y y' t' hop
    obtain ⟨⟨⟨hd, rfl⟩, h2⟩, h3⟩ := hm
    obtain ⟨hd, hN⟩ := dstOk_spec hd hN
    exact bin_sound h hC hop hd hN h2 h3 hf
  · rename_i _ _ d op x x' b t y y' t' hop
    obtain ⟨⟨⟨hd, rfl⟩, h2⟩, h3⟩ := hm
    obtain ⟨hd, hN⟩ := dstOk_spec hd hN
    exact sbin_sound h hC hop hd hN h2 h3 hf
  · rename_i _ _ d ng g ks x x' b t y y' t' hop
    obtain ⟨⟨⟨⟨⟨⟨hd, rfl⟩, h1⟩, h2⟩, h3⟩, h4⟩, h5⟩ := hm
    obtain ⟨hd, hN⟩ := dstOk_spec hd hN
    exact ceq_sound h hC hop hd hN h1 h2 (by cases g <;> simpa using h3) h4 h5 hf
  · rename_i _ _ d ng p rs b t p' t' hop
    obtain ⟨⟨⟨hd, rfl⟩, rfl⟩, h3⟩ := hm
    obtain ⟨hd, hN⟩ := dstOk_spec hd hN
    obtain ⟨el, hel⟩ := isPtr_spec h3
    exact peq_sound h hC hop hd hel hN hf
  · rename_i _ _ d x t y hop
    obtain ⟨hd, h1⟩ := hm
    obtain ⟨hd, hN⟩ := dstOk_spec hd hN
    exact not_sound h hC hop hd hN h1 hf
  · rename_i _ _ d x t y hop
    obtain ⟨hd, h1⟩ := hm
    obtain ⟨hd, hN⟩ := dstOk_spec hd hN
    exact neg_sound h hC hop hd hN h1 hf
  · rename_i _ _ d k x t s y hop
    obtain ⟨⟨⟨hd, h1⟩, h2⟩, h3⟩ := hm
    obtain ⟨hd, hN⟩ := dstOk_spec hd hN
    exact conv_sound h hC hop hd hN h1 (isInt_spec h2) h3 hf
  · rename_i _ _ d e z b n t y y' hop
    obtain ⟨⟨⟨hd, h1⟩, h2⟩, h3⟩ := hm
    obtain ⟨hd, hN⟩ := dstOk_spec hd hN
    split at h1 <;> try (simp at h1; done)
    rename_i el e' b' hr
    simp only [Bool.and_eq_true, beq_iff_eq] at h1
    obtain ⟨⟨rfl, rfl⟩, h1⟩ := h1
    exact make_sound h hC hop hd hN hr h1 h2 h3 hf
  · rename_i _ _ d e x r lo hi t y lo' hi' hop
    obtain ⟨⟨⟨⟨⟨⟨⟨hd, h1⟩, h2⟩, h3⟩, h4⟩, h5⟩, h6⟩, h7⟩ := hm
    obtain ⟨hd, hN⟩ := dstOk_spec hd hN
    split at h1 <;> try (simp at h1; done)
    rename_i el hel
    rw [beq_iff_eq] at h1
    exact slice_sound h hC hop hd hN (elOf_spec hel) h1 h2 h3 h4 h5 (by simpa using h6) h7 hf
  · rename_i _ _ d e x lo hi t y lo' hi' hop
    obtain ⟨⟨⟨⟨⟨hd, h1⟩, h2⟩, h3⟩, h4⟩, h5⟩ := hm
    obtain ⟨hd, hN⟩ := dstOk_spec hd hN
    split at h1 <;> try (simp at h1; done)
    rename_i el hel
    rw [beq_iff_eq] at h1
    exact tslice_sound h hC hop hd hN (elOf_spec hel) h1 h2 h3 h4 (by simpa using h5) hf
  · rename_i _ _ d x lo hi t y lo' hi' hop
    obtain ⟨⟨⟨⟨hd, h1⟩, h2⟩, h3⟩, h4⟩ := hm
    obtain ⟨hd, hN⟩ := dstOk_spec hd hN
    exact ssub_sound h hC hop hd hN (isStr_spec h1) h2 h3 h4 hf
  · rename_i _ _ d e s x xr b c hop
    obtain ⟨hd, h1⟩ := hm
    obtain ⟨hd, hN⟩ := dstOk_spec hd hN
    obtain ⟨callee, args, ts⟩ := c
    simp only at h1
    split at h1 <;> try (simp at h1; done)
    split at h1 <;> try (simp at h1; done)
    rename_i y y' t t' e1 e2
    simp only [Bool.and_eq_true, decide_eq_true_eq, Bool.not_eq_true'] at h1
    obtain ⟨⟨⟨⟨⟨h1, h2⟩, h3⟩, h4⟩, h5⟩, h6⟩ := h1
    split at h1 <;> try (simp at h1; done)
    rename_i el e' b' hr
    simp only [Bool.and_eq_true, beq_iff_eq] at h1
    obtain ⟨rfl, rfl⟩ := h1
    obtain ⟨el', hel⟩ := Option.isSome_iff_exists.1 h2
    have a1 : args = #[y, y'] := Array.ext' e1
    have a2 : ts = #[t, t'] := Array.ext' e2
    subst a1 a2
    exact app_sound h hC hop hd hN hr (elOf_spec hel) h3 h4 h5 (by simpa using h6) hf
  · rename_i _ _ d mx x x' c hop
    obtain ⟨hd, h1⟩ := hm
    obtain ⟨hd, hN⟩ := dstOk_spec hd hN
    obtain ⟨callee, args, ts⟩ := c
    simp only at h1
    split at h1 <;> try (simp at h1; done)
    simp only [Bool.and_eq_true, decide_eq_true_eq] at h1
    obtain ⟨rfl, h1⟩ := h1
    split at h1 <;> try (simp at h1; done)
    rename_i y y' e1
    simp only [Bool.and_eq_true] at h1
    have a1 : args = #[y, y'] := Array.ext' e1
    subst a1
    exact mm_sound h hC hop hd hN h1.1 h1.2 hf
  · rename_i _ _ d x i opn y i' hop
    obtain ⟨⟨hd, rfl⟩, h1⟩ := hm
    obtain ⟨hd, hN⟩ := dstOk_spec hd hN
    exact ext_sound h hC hop hd hN h1 hf
  · rename_i _ _ d f as opn c hop
    obtain ⟨hd, h1⟩ := hm
    obtain ⟨hd, hN⟩ := dstOk_spec hd hN
    obtain ⟨callee, args, ts⟩ := c
    simp only at h1
    split at h1 <;> try (simp at h1; done)
    rename_i f'
    simp only [Bool.and_eq_true, decide_eq_true_eq, Bool.not_eq_true', beq_iff_eq] at h1
    obtain ⟨⟨⟨⟨⟨rfl, h1⟩, h2⟩, h3⟩, h4⟩, h5⟩ := h1
    unfold callOk at h1
    split at h1 <;> try (simp at h1; done)
    rename_i fn hfn
    simp only [Bool.and_eq_true, Bool.not_eq_true'] at h1
    obtain ⟨bd, hb⟩ := Option.isSome_iff_exists.1 h1.2
    refine call_sound hΓ h hC hop hd hN hfn h1.1 hb h2 h3 (by simpa using h4) (fun q hq hp => ?_) hf
    have := List.all_eq_true.1 h5 q hq
    rcases hp with ⟨n, hn, e⟩ | ⟨n, hn, e⟩ <;> cases q <;> simp [Rt.res] at e <;> subst e <;> simp at this <;> exact this hn
  · rename_i _ _ d x t s y hop
    obtain ⟨⟨⟨hd, h1⟩, h2⟩, h3⟩ := hm
    obtain ⟨hd, hN⟩ := dstOk_spec hd hN
    split at h2 <;> try (simp at h2; done)
    rename_i el hel
    exact ofStr_sound h hC hop hd hN (isStr_spec h1) (elOf_spec hel) (isInt_spec h2) h3 hf
  · rename_i _ _ d x r t s y hop
    obtain ⟨⟨⟨hd, h1⟩, h2⟩, h3⟩ := hm
    obtain ⟨hd, hN⟩ := dstOk_spec hd hN
    split at h2 <;> try (simp at h2; done)
    rename_i el hel
    exact toStr_sound h hC hop hd hN (elOf_spec hel) (isStr_spec h1) (isInt_spec h2) h3 hf
  · rename_i _ _ d e n rs k x xr b c hop
    obtain ⟨hd, h1⟩ := hm
    obtain ⟨hd, hN⟩ := dstOk_spec hd hN
    obtain ⟨callee, args, ts⟩ := c
    simp only at h1
    split at h1 <;> try (simp at h1; done)
    split at h1 <;> try (simp at h1; done)
    rename_i n' y' t t' e1 e2
    simp only [Bool.and_eq_true, decide_eq_true_eq, Bool.not_eq_true', beq_iff_eq] at h1
    obtain ⟨⟨⟨⟨⟨rfl, h1⟩, h2⟩, h4⟩, h5⟩, h6⟩ := h1
    split at h1 <;> try (simp at h1; done)
    rename_i el e' b' hr
    simp only [Bool.and_eq_true, beq_iff_eq] at h1
    obtain ⟨rfl, rfl⟩ := h1
    obtain ⟨el', hel⟩ := Option.isSome_iff_exists.1 h2
    have a1 : args = #[.tmp n, y'] := Array.ext' e1
    have a2 : ts = #[t, t'] := Array.ext' e2
    subst a1 a2
    exact appa_sound h hC hop hd hN hr (elOf_spec hel) h4 h5 (by simpa using h6) hf
  · rename_i _ _ d x rs q hi t x' y hop
    obtain ⟨⟨⟨⟨hd, rfl⟩, h1⟩, h2⟩, h3⟩ := hm
    obtain ⟨hd, hN⟩ := dstOk_spec hd hN
    split at h1 <;> try (simp at h1; done)
    rename_i el hel
    obtain ⟨e, he⟩ := Option.isSome_iff_exists.1 h1
    exact pslice_sound h hC hop hd hN (elOf_spec hel) he h2 (by simpa using h3) hf
  · rename_i _ _ d ng x b t y tt hop
    obtain ⟨⟨⟨hd, h1⟩, h2⟩, h3⟩ := hm
    obtain ⟨hd, hN⟩ := dstOk_spec hd hN
    exact ieq_sound h hC hop h1 hd hN h2 h3 hf
  · rename_i _ _ d t hop
    obtain ⟨hd, hN⟩ := dstOk_spec hm hN
    exact mkmap_sound h hC hop hd hN hf
  · rename_i _ _ d m rs q k t m' y hop
    obtain ⟨⟨⟨hd, rfl⟩, h1⟩, h2⟩ := hm
    obtain ⟨hd, hN⟩ := dstOk_spec hd hN
    exact mlook_sound h hC hop hd hN h1 h2 hf
  · rename_i _ _ m rs q k x t m' y z hop
    obtain ⟨⟨⟨⟨hd, rfl⟩, h1⟩, h2⟩, h3⟩ := hm
    exact mset_sound h hC hop hd h1 h2 h3 hf
end
end Go.Fw
