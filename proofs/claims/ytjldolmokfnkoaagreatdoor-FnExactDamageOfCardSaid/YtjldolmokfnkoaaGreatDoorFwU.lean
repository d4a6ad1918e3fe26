/- The framework, part U: the check of an operation against the program's own, and that an operation that fits is sound. The framework, part V: in whatever order the operations of a region are done, the same is reached, if those that touch the same things are ordered. The framework, part W: regions: their operations with guards, in order or in any order. Conditions: none. -/
import Derived.Test.YtjldolmokfnkoaaGreatDoorFwS
import Derived.Orders
namespace Go.Fw
open Go

def isStr (P : Program) (t : TypeId) : Bool := match P.underlying t with | some .string => true | _ => false
def isInt (P : Program) (t : TypeId) (k : IntKind) : Bool := match P.underlying t with | some (.int k') => decide (k = k') | _ => false
def elOf (P : Program) (t : TypeId) : Option TypeId := match P.underlying t with | some (.slice e) => some e | _ => none
def isPtr (P : Program) (t : TypeId) : Bool := match P.underlying t with | some (.pointer _) => true | _ => false
theorem isStr_spec {P : Program} {t : TypeId} (h : isStr P t = true) : P.underlying t = some .string := by unfold isStr at h; split at h <;> simp_all
theorem isInt_spec {P : Program} {t : TypeId} {k : IntKind} (h : isInt P t k = true) : P.underlying t = some (.int k) := by unfold isInt at h; split at h <;> simp_all
theorem elOf_spec {P : Program} {t e : TypeId} (h : elOf P t = some e) : P.underlying t = some (.slice e) := by unfold elOf at h; split at h <;> simp_all
theorem isPtr_spec {P : Program} {t : TypeId} (h : isPtr P t = true) : ∃ e, P.underlying t = some (.pointer e) := by unfold isPtr at h; split at h <;> simp_all

def dstOk (N d : Nat) (o : Oper) : Bool := o.dst == some d && decide (d < N)

def callOk (P : Program) (f : FuncId) : Bool := match P.funcs[f]? with | some fn => !(fn.name == "runtime.NumGoroutine") && fn.body.isSome | none => false
def passOk (as : List Arg) : Bool := (argsR as).all fun q => match q with | .t n => !(argsL as).contains n | .b n => !(argsB as).contains n

def mop (P : Program) (N : Nat) (x : IOp) (o : Oper) : Bool :=
  match x, o.op with
  | .mov d x, .move y => dstOk N d o && oprOk x y && sep d x
  | .mov d x, .assign y => dstOk N d o && oprOk x y && sep d x
  | .alias d s rs, .move (.tmp s') => dstOk N d o && s == s' && !rs.contains (.t d)
  | .alias d s rs, .assign (.tmp s') => dstOk N d o && s == s' && !rs.contains (.t d)
  | .pick d c x x', .pick z y y' => dstOk N d o && oprOk c z && oprOk x y && oprOk x' y' && sep d x && sep d x' && (oprL x).isEmpty && (oprL x').isEmpty
  | .alloc d cs, .alloc t => dstOk N d o && zeroOk P t cs
  | .box d x, .box _ y => dstOk N d o && oprOk x y && sep d x
  | .build d z ps, .build t qs => dstOk N d o && zeroOk P t z && (match structPlaces P t with | some pl => psOk (pl.toArray[·]?) ps qs.toList | none => false) && decide (oprsL ps).Nodup && !(oprsL ps).contains d &&
      !(oprsR ps).contains (.t d) && (oprsL ps).all fun n => !(oprsR ps).contains (.t n)
  | .mkrow d e z n ps, .buildSlice t n' qs => dstOk N d o && n == n' && (match rowTy P t with | some (el, e', _) => e == e' && zeroOk P el z | none => false) && decide (n * e ≤ 16777216) &&
      psOk (fun i => some (i * e, e)) ps qs.toList && decide (oprsL ps).Nodup && !(oprsL ps).contains d
  | .mova d s k _, .move (.tmp s') => dstOk N d o && s == s' && !(d == k)
  | .mova d s k _, .assign (.tmp s') => dstOk N d o && s == s' && !(d == k)
  | .mkrowa d s k _ z, .buildSlice t n' qs => dstOk N d o && n' == 1 && (match rowTy P t with | some (el, e', _) => e' == 1 && zeroOk P el z | none => false) &&
      (match qs.toList with | [(0, .tmp s')] => s' == s | _ => false) && !(d == k)
  | .storea p _ _ x _ _, .store t (.tmp p') y => o.dst == none && p == p' && tySize P t == some 1 && oprOk x y
  | .ldm d p _ _ n g, .load t (.tmp p') => dstOk N d o && p == p' && tySize P t == some n && isAggB P t == some g && (g || n == 1)
  | .load d p rs r n g _, .load t (.tmp p') => dstOk N d o && p == p' && tySize P t == some n && isAggB P t == some g && (g || n == 1) && !rs.contains (.t d) && !(r == some (.t d))
  | .store p _ q n x, .store t (.tmp p') y => o.dst == none && p == p' && tySize P t == some n && oprOk x y && (oprL x).all fun k => !(q == .t k)
  | .nilc d p rs, .nilCheck (.tmp p') => dstOk N d o && p == p' && !rs.contains (.t d)
  | .fad d p rs k, .fieldAddr s (.tmp p') f => dstOk N d o && p == p' && fieldOff P s f == some k && !rs.contains (.t d)
  | .fld d x k n g, .field s y f => dstOk N d o && fieldIs P s f == some (k, n, g) && (g || n == 1) && oprOk x y && sep d x && (oprL x).isEmpty
  | .iad d x rs r i e, .indexAddr t (.tmp x') j => dstOk N d o && x == x' && (match elOf P t with | some el => tySize P el == some e | none => false) && oprOk i j && !rs.contains (.t d) && !(r == some (.t d))
  | .idx d x i, .index t y j => dstOk N d o && isStr P t && oprOk x y && oprOk i j
  | .len d x _, .call c => dstOk N d o && (match c.callee with | .builtin .len => (match c.args.toList, c.argTypes.toList with | [y], [t] => (elOf P t).isSome && oprOk x y | _, _ => false) | _ => false)
  | .slen d x, .call c => dstOk N d o && (match c.callee with | .builtin .len => (match c.args.toList, c.argTypes.toList with | [y], [t] => isStr P t && oprOk x y | _, _ => false) | _ => false)
  | .bin d op x x', .binOp b _ y y' _ => dstOk N d o && decide (b = op.op) && oprOk x y && oprOk x' y'
  | .sbin d op x x', .binOp b _ y y' _ => dstOk N d o && decide (b = op.op) && oprOk x y && oprOk x' y'
  | .ceq d ng g ks x x', .binOp b t y y' _ => dstOk N d o && decide (b = if ng then .neq else .eql) && flatTy P 10000 t == some ks && isAggB P t == some g && (if g then !P.eqGuardType P.depth t else ks == [.bool]) && oprOk x y && oprOk x' y'
  | .not d x, .unOp .not _ y => dstOk N d o && oprOk x y
  | .neg d x, .unOp .neg _ y => dstOk N d o && oprOk x y
  | .make d e z b n, .makeSlice t y y' => dstOk N d o && (match rowTy P t with | some (el, e', b') => e == e' && b == b' && zeroOk P el z | none => false) && oprOk n y && oprOk n y'
  | .slice d e x r lo hi, .slice t y lo' hi' none => dstOk N d o && (match elOf P t with | some el => tySize P el == some e | none => false) && oprOk x y && optOk lo lo' && optOk hi hi' && sep d x && !(r == some (.t d)) && (oprL x).isEmpty
  | .ssub d x lo hi, .slice t y lo' hi' none => dstOk N d o && isStr P t && oprOk x y && optOk lo lo' && optOk hi hi'
  | .app d e s x _ b, .call c => dstOk N d o && (match c.callee with
      | .builtin .append => (match c.args.toList, c.argTypes.toList with
        | [y, y'], [t, t'] => (match rowTy P t with | some (_, e', b') => e == e' && b == b' | none => false) && (elOf P t').isSome && oprOk s y && oprOk x y' && decide (oprL s ++ oprL x).Nodup && !(oprL s ++ oprL x).contains d
        | _, _ => false)
      | _ => false)
  | .mm d mx x x', .call c => dstOk N d o && (match c.callee with
      | .builtin b => decide (b = if mx then .max else .min) && (match c.args.toList with | [y, y'] => oprOk x y && oprOk x' y' | _ => false)
      | _ => false)
  | .ext d x i _, .extract y i' => dstOk N d o && i == i' && oprOk x y
  | .call d f as _, .call c => dstOk N d o && (match c.callee with
      | .value (.func f') => f == f' && callOk P f && argsOk as c.args.toList && decide (argsL as).Nodup && !(argsL as).contains d && passOk as
      | _ => false)
  | .toStr d x _, .convert t s y => dstOk N d o && isStr P s && (match elOf P t with | some el => isInt P el .u8 | none => false) && oprOk x y
  | .appa d e n _ _ x _ b, .call c => dstOk N d o && (match c.callee with
      | .builtin .append => (match c.args.toList, c.argTypes.toList with
        | [.tmp n', y'], [t, t'] => n == n' && (match rowTy P t with | some (_, e', b') => e == e' && b == b' | none => false) && (elOf P t').isSome && oprOk x y' && decide (oprL (.m n) ++ oprL x).Nodup && !(oprL (.m n) ++ oprL x).contains d
        | _, _ => false)
      | _ => false)
  | .ieq d ng x, .binOp b t y (.const .nilIface) _ => dstOk N d o && decide (b = if ng then .neq else .eql) && oprOk x y && isIface P t
  | .mkmap d, .makeMap _ none => dstOk N d o
  | .mlook d m _ _ k, .lookup t (.tmp m') y false => dstOk N d o && m == m' && mapTy P t && oprOk k y
  | .mset m _ _ k x, .mapUpdate t (.tmp m') y z => o.dst == none && m == m' && mapTy P t && oprOk k y && oprOk x z
  | _, _ => false

section
variable {P : Program} {E : Env} {v : Res → Val} {o : Oper} {a : Act} {w : World} {β : Nat → Nat} {φ : Res → Foot}

theorem dstOk_spec {N d : Nat} (h : dstOk N d o = true) (hN : N ≤ a.tmps.size) : o.dst = some d ∧ d < a.tmps.size := by
  simp only [dstOk, Bool.and_eq_true, beq_iff_eq, decide_eq_true_eq] at h
  exact ⟨h.1, by omega⟩

theorem ldm_load {Γ : Gam} {v : Res → Val} {d p k off n : Nat} {a : Bool} {ws : List (Res × Val)} (h : fop Γ v (.ldm d p k off n a) = some ws) : fop Γ v (.load d p [] (some (.b k)) n a .mv) = some ws := by
  simp only [fop] at h ⊢
  split at h <;> try (simp at h; done)
  rename_i k' off' hv
  split at h <;> try (simp at h; done)
  rename_i hc
  obtain ⟨rfl, rfl, hdp⟩ := hc
  split at h <;> try (simp at h; done)
  rename_i cs hb
  split at h <;> try (simp at h; done)
  rename_i hl
  simp only [hv, stOk, content, hb, ob, cellsAt, setAt, List.length_replicate, List.length_drop, hl.2, Bool.true_and, BEq.rfl, if_true, hl.1, Bool.false_eq_true, if_false]
  rw [if_pos (by omega)]
  exact h


theorem op_sound {Γ : Gam} (hΓ : SatE P E Γ) (h : RelW E v (tmv a) w β φ) (hC : ∀ b, E.C b → b < E.w0.heap.size) {N : Nat} (hN : N ≤ a.tmps.size) {x : IOp} (hm : mop P N x o = true) {ws : List (Res × Val)} (hf : fop Γ v x = some ws) :
    OpSound P E (appl v ws) o a w := by
  unfold mop at hm
  split at hm <;> try simp only [Bool.and_eq_true, Bool.not_eq_true', beq_iff_eq, decide_eq_true_eq, List.isEmpty_iff, Bool.or_eq_true, Bool.false_eq_true] at hm
  · rename_i _ _ d x y hop
    obtain ⟨⟨hd, h1⟩, h2⟩ := hm
    obtain ⟨hd, hN⟩ := dstOk_spec hd hN
    exact mov_sound h hC (.inl hop) hd hN h1 h2 hf
  · rename_i _ _ d x y hop
    obtain ⟨⟨hd, h1⟩, h2⟩ := hm
    obtain ⟨hd, hN⟩ := dstOk_spec hd hN
    exact mov_sound h hC (.inr hop) hd hN h1 h2 hf
  · rename_i _ _ d s rs s' hop
    obtain ⟨⟨hd, rfl⟩, h1⟩ := hm
    obtain ⟨hd, hN⟩ := dstOk_spec hd hN
    exact alias_sound h hC (.inl hop) hd hN h1 hf
  · rename_i _ _ d s rs s' hop
    obtain ⟨⟨hd, rfl⟩, h1⟩ := hm
    obtain ⟨hd, hN⟩ := dstOk_spec hd hN
    exact alias_sound h hC (.inr hop) hd hN h1 hf
  · rename_i _ _ d c x x' z y y' hop
    obtain ⟨⟨⟨⟨⟨⟨⟨hd, h1⟩, h2⟩, h3⟩, h4⟩, h5⟩, h6⟩, h7⟩ := hm
    obtain ⟨hd, hN⟩ := dstOk_spec hd hN
    exact pick_sound h hC hop hd hN h1 h2 h3 h4 h5 h6 h7 hf
  · rename_i _ _ d cs t hop
    obtain ⟨hd, h1⟩ := hm
    obtain ⟨hd, hN⟩ := dstOk_spec hd hN
    exact alloc_sound h hC hop hd hN h1 hf
  · rename_i _ _ d x t y hop
    obtain ⟨⟨hd, h1⟩, h2⟩ := hm
    obtain ⟨hd, hN⟩ := dstOk_spec hd hN
    exact box_sound h hC hop hd hN h1 h2 hf
  · rename_i _ _ d z ps t qs hop
    obtain ⟨⟨⟨⟨⟨⟨hd, h1⟩, h2⟩, h3⟩, h4⟩, h5⟩, h6⟩ := hm
    obtain ⟨hd, hN⟩ := dstOk_spec hd hN
    split at h2 <;> try (simp at h2; done)
    rename_i pl hpl
    refine build_sound h hC hop hd hN h1 hpl h2 h3 (by simpa using h4) (by simpa using h5) (fun n hn => ?_) hf
    have := List.all_eq_true.1 h6 n hn
    simpa using this
  · rename_i _ _ d e z n ps t n' qs hop
    obtain ⟨⟨⟨⟨⟨⟨hd, rfl⟩, h1⟩, h2⟩, h3⟩, h4⟩, h5⟩ := hm
    obtain ⟨hd, hN⟩ := dstOk_spec hd hN
    split at h1 <;> try (simp at h1; done)
    rename_i el e' by_ hr
    simp only [Bool.and_eq_true, beq_iff_eq] at h1
    obtain ⟨rfl, h1⟩ := h1
    exact mkrow_sound h hC hop hd hN hr h1 h2 h3 h4 (by simpa using h5) hf
  · rename_i _ _ d s k ks s' hop
    obtain ⟨⟨hd, rfl⟩, h1⟩ := hm
    obtain ⟨hd, hN⟩ := dstOk_spec hd hN
    exact mova_sound h hC (.inl hop) hd hN (by simpa using h1) hf
  · rename_i _ _ d s k ks s' hop
    obtain ⟨⟨hd, rfl⟩, h1⟩ := hm
    obtain ⟨hd, hN⟩ := dstOk_spec hd hN
    exact mova_sound h hC (.inr hop) hd hN (by simpa using h1) hf
  · rename_i _ _ d s k ks z t n' qs hop
    obtain ⟨⟨⟨⟨hd, rfl⟩, h1⟩, h2⟩, h3⟩ := hm
    obtain ⟨hd, hN⟩ := dstOk_spec hd hN
    split at h1 <;> try (simp at h1; done)
    rename_i el e' by_ hr
    simp only [Bool.and_eq_true, beq_iff_eq] at h1
    obtain ⟨rfl, h1⟩ := h1
    split at h2 <;> try (simp at h2; done)
    rename_i k' hqs
    simp only [beq_iff_eq] at h2
    subst h2
    have hqs' : qs = #[(0, .tmp k')] := Array.ext' hqs
    subst hqs'
    exact mkrowa_sound h hC hop hd hN hr h1 (by simpa using h3) hf
  · rename_i _ _ p rs q x k ks t p' y hop
    obtain ⟨⟨⟨hd, rfl⟩, h1⟩, h2⟩ := hm
    exact storea_sound h hC hop hd h1 h2 hf
  · rename_i _ _ d p k off n g t p' hop
    obtain ⟨⟨⟨⟨hd, rfl⟩, h1⟩, h2⟩, h3⟩ := hm
    obtain ⟨hd, hN⟩ := dstOk_spec hd hN
    have hg : g = false → n = 1 := fun e => by rcases h3 with h3 | h3; rw [e] at h3; simp at h3; exact h3
    exact loadm_sound h hC hop hd hN h1 h2 hg (rs := []) (by simp) (r := some (.b k)) (by simp) (.inl rfl) (ldm_load hf)
  · rename_i _ _ d p rs r n g m t p' hop
    obtain ⟨⟨⟨⟨⟨⟨hd, rfl⟩, h1⟩, h2⟩, h3⟩, h4⟩, h5⟩ := hm
    obtain ⟨hd, hN⟩ := dstOk_spec hd hN
    have hg : g = false → n = 1 := fun e => by rcases h3 with h3 | h3; rw [e] at h3; simp at h3; exact h3
    have h5' : r ≠ some (.t d) := by simpa using h5
    cases m with
    | mv => exact loadm_sound h hC hop hd hN h1 h2 hg h4 h5' (.inl rfl) hf
    | fz => exact loadm_sound h hC hop hd hN h1 h2 hg h4 h5' (.inr rfl) hf
    | cp => exact load_sound h hC hop hd hN h1 h2 hg h4 h5' (by simp) hf
    | bo => exact load_sound h hC hop hd hN h1 h2 hg h4 h5' (by simp) hf
    | al => exact load_sound h hC hop hd hN h1 h2 hg h4 h5' (by simp) hf
  · rename_i _ _ p rs q n x t p' y hop
    obtain ⟨⟨⟨⟨hd, rfl⟩, h1⟩, h2⟩, h3⟩ := hm
    refine store_sound h hC hop hd h1 h2 (fun k hk => ?_) hf
    have := List.all_eq_true.1 h3 k hk
    simpa using this
  · rename_i _ _ d p rs p' hop
    obtain ⟨⟨hd, rfl⟩, h1⟩ := hm
    obtain ⟨hd, hN⟩ := dstOk_spec hd hN
    exact nilc_sound h hC hop hd hN h1 hf
  · rename_i _ _ d p rs k s p' f hop
    obtain ⟨⟨⟨hd, rfl⟩, h1⟩, h2⟩ := hm
    obtain ⟨hd, hN⟩ := dstOk_spec hd hN
    exact fad_sound h hC hop hd hN h1 h2 hf
  · rename_i _ _ d x k n g s y f hop
    obtain ⟨⟨⟨⟨⟨hd, h1⟩, h2⟩, h3⟩, h4⟩, h5⟩ := hm
    obtain ⟨hd, hN⟩ := dstOk_spec hd hN
    exact fld_sound h hC hop hd hN h1 (fun e => by rcases h2 with h2 | h2; rw [e] at h2; simp at h2; exact h2) h3 h4 h5 hf
  · rename_i _ _ d x rs r i e t x' j hop
    obtain ⟨⟨⟨⟨⟨hd, rfl⟩, h1⟩, h2⟩, h3⟩, h4⟩ := hm
    obtain ⟨hd, hN⟩ := dstOk_spec hd hN
    split at h1 <;> try (simp at h1; done)
    rename_i el hel
    rw [beq_iff_eq] at h1
    exact iad_sound h hC hop hd hN (elOf_spec hel) h1 h2 h3 (by simpa using h4) hf
  · rename_i _ _ d x i t y j hop
    obtain ⟨⟨⟨hd, h1⟩, h2⟩, h3⟩ := hm
    obtain ⟨hd, hN⟩ := dstOk_spec hd hN
    exact idx_sound h hC hop hd hN (isStr_spec h1) h2 h3 hf
  · rename_i _ _ d x r c hop
    obtain ⟨hd, h1⟩ := hm
    obtain ⟨hd, hN⟩ := dstOk_spec hd hN
    obtain ⟨callee, args, ts⟩ := c
    simp only at h1
    split at h1 <;> try (simp at h1; done)
    split at h1 <;> try (simp at h1; done)
    rename_i y t e1 e2
    simp only [Bool.and_eq_true] at h1
    obtain ⟨el, hel⟩ := Option.isSome_iff_exists.1 h1.1
    have a1 : args = #[y] := Array.ext' e1
    have a2 : ts = #[t] := Array.ext' e2
    subst a1 a2
    exact len_sound h hC hop hd hN (elOf_spec hel) h1.2 hf
  · rename_i _ _ d x c hop
    obtain ⟨hd, h1⟩ := hm
    obtain ⟨hd, hN⟩ := dstOk_spec hd hN
    obtain ⟨callee, args, ts⟩ := c
    simp only at h1
    split at h1 <;> try (simp at h1; done)
    split at h1 <;> try (simp at h1; done)
    rename_i y t e1 e2
    simp only [Bool.and_eq_true] at h1
    have a1 : args = #[y] := Array.ext' e1
    have a2 : ts = #[t] := Array.ext' e2
    subst a1 a2
    exact slen_sound h hC hop hd hN (isStr_spec h1.1) h1.2 hf
  · rename_i _ _ d op x x' b t y y' t' hop
    obtain ⟨⟨⟨hd, rfl⟩, h2⟩, h3⟩ := hm
    obtain ⟨hd, hN⟩ := dstOk_spec hd hN
    exact bin_sound h hC hop hd hN h2 h3 hf
  · rename_i _ _ d op x x' b t y y' t' hop
    obtain ⟨⟨⟨hd, rfl⟩, h2⟩, h3⟩ := hm
    obtain ⟨hd, hN⟩ := dstOk_spec hd hN
    exact sbin_sound h hC hop hd hN h2 h3 hf
  · rename_i _ _ d ng g ks x x' b t y y' t' hop
    obtain ⟨⟨⟨⟨⟨⟨hd, rfl⟩, h1⟩, h2⟩, h3⟩, h4⟩, h5⟩ := hm
    obtain ⟨hd, hN⟩ := dstOk_spec hd hN
    exact ceq_sound h hC hop hd hN h1 h2 (by cases g <;> simpa using h3) h4 h5 hf
  · rename_i _ _ d x t y hop
    obtain ⟨hd, h1⟩ := hm
    obtain ⟨hd, hN⟩ := dstOk_spec hd hN
    exact not_sound h hC hop hd hN h1 hf
  · rename_i _ _ d x t y hop
    obtain ⟨hd, h1⟩ := hm
    obtain ⟨hd, hN⟩ := dstOk_spec hd hN
    exact neg_sound h hC hop hd hN h1 hf
  · rename_i _ _ d e z b n t y y' hop
    obtain ⟨⟨⟨hd, h1⟩, h2⟩, h3⟩ := hm
    obtain ⟨hd, hN⟩ := dstOk_spec hd hN
    split at h1 <;> try (simp at h1; done)
    rename_i el e' b' hr
    simp only [Bool.and_eq_true, beq_iff_eq] at h1
    obtain ⟨⟨rfl, rfl⟩, h1⟩ := h1
    exact make_sound h hC hop hd hN hr h1 h2 h3 hf
  · rename_i _ _ d e x r lo hi t y lo' hi' hop
    obtain ⟨⟨⟨⟨⟨⟨⟨hd, h1⟩, h2⟩, h3⟩, h4⟩, h5⟩, h6⟩, h7⟩ := hm
    obtain ⟨hd, hN⟩ := dstOk_spec hd hN
    split at h1 <;> try (simp at h1; done)
    rename_i el hel
    rw [beq_iff_eq] at h1
    exact slice_sound h hC hop hd hN (elOf_spec hel) h1 h2 h3 h4 h5 (by simpa using h6) h7 hf
  · rename_i _ _ d x lo hi t y lo' hi' hop
    obtain ⟨⟨⟨⟨hd, h1⟩, h2⟩, h3⟩, h4⟩ := hm
    obtain ⟨hd, hN⟩ := dstOk_spec hd hN
    exact ssub_sound h hC hop hd hN (isStr_spec h1) h2 h3 h4 hf
  · rename_i _ _ d e s x xr b c hop
    obtain ⟨hd, h1⟩ := hm
    obtain ⟨hd, hN⟩ := dstOk_spec hd hN
    obtain ⟨callee, args, ts⟩ := c
    simp only at h1
    split at h1 <;> try (simp at h1; done)
    split at h1 <;> try (simp at h1; done)
    rename_i y y' t t' e1 e2
    simp only [Bool.and_eq_true, decide_eq_true_eq, Bool.not_eq_true'] at h1
    obtain ⟨⟨⟨⟨⟨h1, h2⟩, h3⟩, h4⟩, h5⟩, h6⟩ := h1
    split at h1 <;> try (simp at h1; done)
    rename_i el e' b' hr
    simp only [Bool.and_eq_true, beq_iff_eq] at h1
    obtain ⟨rfl, rfl⟩ := h1
    obtain ⟨el', hel⟩ := Option.isSome_iff_exists.1 h2
    have a1 : args = #[y, y'] := Array.ext' e1
    have a2 : ts = #[t, t'] := Array.ext' e2
    subst a1 a2
    exact app_sound h hC hop hd hN hr (elOf_spec hel) h3 h4 h5 (by simpa using h6) hf
  · rename_i _ _ d mx x x' c hop
    obtain ⟨hd, h1⟩ := hm
    obtain ⟨hd, hN⟩ := dstOk_spec hd hN
    obtain ⟨callee, args, ts⟩ := c
    simp only at h1
    split at h1 <;> try (simp at h1; done)
    simp only [Bool.and_eq_true, decide_eq_true_eq] at h1
    obtain ⟨rfl, h1⟩ := h1
    split at h1 <;> try (simp at h1; done)
    rename_i y y' e1
    simp only [Bool.and_eq_true] at h1
    have a1 : args = #[y, y'] := Array.ext' e1
    subst a1
    exact mm_sound h hC hop hd hN h1.1 h1.2 hf
  · rename_i _ _ d x i opn y i' hop
    obtain ⟨⟨hd, rfl⟩, h1⟩ := hm
    obtain ⟨hd, hN⟩ := dstOk_spec hd hN
    exact ext_sound h hC hop hd hN h1 hf
  · rename_i _ _ d f as opn c hop
    obtain ⟨hd, h1⟩ := hm
    obtain ⟨hd, hN⟩ := dstOk_spec hd hN
    obtain ⟨callee, args, ts⟩ := c
    simp only at h1
    split at h1 <;> try (simp at h1; done)
    rename_i f'
    simp only [Bool.and_eq_true, decide_eq_true_eq, Bool.not_eq_true', beq_iff_eq] at h1
    obtain ⟨⟨⟨⟨⟨rfl, h1⟩, h2⟩, h3⟩, h4⟩, h5⟩ := h1
    unfold callOk at h1
    split at h1 <;> try (simp at h1; done)
    rename_i fn hfn
    simp only [Bool.and_eq_true, Bool.not_eq_true'] at h1
    obtain ⟨bd, hb⟩ := Option.isSome_iff_exists.1 h1.2
    refine call_sound hΓ h hC hop hd hN hfn h1.1 hb h2 h3 (by simpa using h4) (fun q hq hp => ?_) hf
    have := List.all_eq_true.1 h5 q hq
    rcases hp with ⟨n, hn, e⟩ | ⟨n, hn, e⟩ <;> cases q <;> simp [Rt.res] at e <;> subst e <;> simp at this <;> exact this hn
  · rename_i _ _ d x r t s y hop
    obtain ⟨⟨⟨hd, h1⟩, h2⟩, h3⟩ := hm
    obtain ⟨hd, hN⟩ := dstOk_spec hd hN
    split at h2 <;> try (simp at h2; done)
    rename_i el hel
    exact toStr_sound h hC hop hd hN (elOf_spec hel) (isStr_spec h1) (isInt_spec h2) h3 hf
  · rename_i _ _ d e n rs k x xr b c hop
    obtain ⟨hd, h1⟩ := hm
    obtain ⟨hd, hN⟩ := dstOk_spec hd hN
    obtain ⟨callee, args, ts⟩ := c
    simp only at h1
    split at h1 <;> try (simp at h1; done)
    split at h1 <;> try (simp at h1; done)
    rename_i n' y' t t' e1 e2
    simp only [Bool.and_eq_true, decide_eq_true_eq, Bool.not_eq_true', beq_iff_eq] at h1
    obtain ⟨⟨⟨⟨⟨rfl, h1⟩, h2⟩, h4⟩, h5⟩, h6⟩ := h1
    split at h1 <;> try (simp at h1; done)
    rename_i el e' b' hr
    simp only [Bool.and_eq_true, beq_iff_eq] at h1
    obtain ⟨rfl, rfl⟩ := h1
    obtain ⟨el', hel⟩ := Option.isSome_iff_exists.1 h2
    have a1 : args = #[.tmp n, y'] := Array.ext' e1
    have a2 : ts = #[t, t'] := Array.ext' e2
    subst a1 a2
    exact appa_sound h hC hop hd hN hr (elOf_spec hel) h4 h5 (by simpa using h6) hf
  · rename_i _ _ d ng x b t y tt hop
    obtain ⟨⟨⟨hd, h1⟩, h2⟩, h3⟩ := hm
    obtain ⟨hd, hN⟩ := dstOk_spec hd hN
    exact ieq_sound h hC hop h1 hd hN h2 h3 hf
  · rename_i _ _ d t hop
    obtain ⟨hd, hN⟩ := dstOk_spec hm hN
    exact mkmap_sound h hC hop hd hN hf
  · rename_i _ _ d m rs q k t m' y hop
    obtain ⟨⟨⟨hd, rfl⟩, h1⟩, h2⟩ := hm
    obtain ⟨hd, hN⟩ := dstOk_spec hd hN
    exact mlook_sound h hC hop hd hN h1 h2 hf
  · rename_i _ _ m rs q k x t m' y z hop
    obtain ⟨⟨⟨⟨hd, rfl⟩, h1⟩, h2⟩, h3⟩ := hm
    exact mset_sound h hC hop hd h1 h2 h3 hf
end
end Go.Fw
namespace Go.Fw
open Go

theorem appl_key {ws : List (Res × Val)} {r : Res} : ∀ {v v' : Res → Val}, (∃ y ∈ ws, y.1 = r) ∨ v r = v' r → appl v ws r = appl v' ws r := by
  induction ws with
  | nil =>
    intro v v' h
    rcases h with ⟨y, h, _⟩ | h
    · simp at h
    · exact h
  | cons x ws ih =>
    intro v v' h
    obtain ⟨s, e⟩ := x
    refine ih ?_
    rcases h with ⟨y, hy, hr⟩ | h
    · rcases List.mem_cons.1 hy with rfl | hy
      · right; simp only at hr; simp [hr]
      · exact .inl ⟨y, hy, hr⟩
    · right
      by_cases hs : r = s
      · simp [hs]
      · simp [hs, h]

section
variable {n : Nat} {vi : Nat → Res → Val} {ws : Nat → List (Res × Val)} {R W : Nat → List Res} {B : Nat → Nat → Prop}

/-- What was reached when the operations of a set are done. -/
def Inv (n : Nat) (vi : Nat → Res → Val) (W : Nat → List Res) (S : Nat → Prop) (v : Res → Val) : Prop :=
  ∀ r k, k ≤ n → (∀ j, j < k → r ∈ W j → S j) → (∀ j, k ≤ j → j < n → r ∈ W j → ¬ S j) → v r = vi k r

theorem inv_step (hstep : ∀ i, i < n → vi (i + 1) = appl (vi i) (ws i)) (hw : ∀ i, i < n → Wr (ws i) (W i))
    (hB : ∀ i j, i < j → j < n → (∃ r, (r ∈ W i ∧ (r ∈ R j ∨ r ∈ W j)) ∨ (r ∈ R i ∧ r ∈ W j)) → B i j) {S : Nat → Prop} (hcl : ∀ i j, j < n → B i j → S j → S i) {v : Res → Val} (hI : Inv n vi W S v)
    {i : Nat} (hi : i < n) (hni : ¬ S i) (hpre : ∀ j, B j i → S j) : Agr v (vi i) (R i ++ W i) ∧ Inv n vi W (fun j => S j ∨ j = i) (appl v (ws i)) := by
  have agr : Agr v (vi i) (R i ++ W i) := by
    intro r hr
    refine hI r i (by omega) (fun j hj hrj => hpre j (hB j i hj hi ⟨r, ?_⟩)) (fun j hj hjn hrj hs => ?_)
    · rcases List.mem_append.1 hr with h | h
      · exact .inl ⟨hrj, .inl h⟩
      · exact .inl ⟨hrj, .inr h⟩
    · rcases Nat.eq_or_lt_of_le hj with rfl | hlt
      · exact hni hs
      · refine hni (hcl i j hjn (hB i j hlt hjn ⟨r, ?_⟩) hs)
        rcases List.mem_append.1 hr with h | h
        · exact .inr ⟨h, hrj⟩
        · exact .inl ⟨h, .inr hrj⟩
  refine ⟨agr, fun r k hk h1 h2 => ?_⟩
  by_cases hr : r ∈ W i
  · have hik : i < k := by
      refine Nat.lt_of_not_le fun h => ?_
      exact h2 i h hi hr (.inr rfl)
    have e1 : appl v (ws i) r = appl (vi i) (ws i) r := appl_key (.inr (agr r (List.mem_append.2 (.inr hr))))
    rw [e1, ← hstep i hi]
    -- nobody else writes it up to k
    have key : ∀ m, i + 1 + m ≤ k → vi (i + 1 + m) r = vi (i + 1) r := by
      intro m
      induction m with
      | zero => intro _; rfl
      | succ m ih =>
        intro hm
        rw [← ih (by omega), show i + 1 + (m + 1) = (i + 1 + m) + 1 by omega, hstep _ (by omega)]
        refine appl_not fun y hy e => ?_
        have hyw := hw _ (by omega) y hy
        rw [e] at hyw
        have hs := h1 (i + 1 + m) (by omega) hyw
        rcases hs with hs | hs
        · exact hni (hcl i _ (by omega) (hB i _ (by omega) (by omega) ⟨r, .inl ⟨hr, .inr hyw⟩⟩) hs)
        · omega
    rw [show k = i + 1 + (k - (i + 1)) by omega]
    exact (key _ (by omega)).symm
  · have e1 : appl v (ws i) r = v r := appl_not fun y hy e => hr (e ▸ hw i hi y hy)
    rw [e1]
    refine hI r k hk (fun j hj hrj => ?_) (fun j hj hjn hrj hs => h2 j hj hjn hrj (.inl hs))
    rcases h1 j hj hrj with h | h
    · exact h
    · exact absurd hrj (h ▸ hr)

theorem inv_zero {v : Res → Val} (h0 : v = vi 0) (hstep : ∀ i, i < n → vi (i + 1) = appl (vi i) (ws i)) (hw : ∀ i, i < n → Wr (ws i) (W i)) : Inv n vi W (fun _ => False) v := by
  intro r k hk h1 h2
  subst h0
  induction k with
  | zero => rfl
  | succ k ih =>
    rw [hstep k (by omega), appl_not (fun y hy e => h1 k (by omega) (by have := hw k (by omega) y hy; rw [e] at this; exact this))]
    exact ih (by omega) (fun j hj hr => h1 j (by omega) hr) (fun j hj hjn hr hs => hs)

theorem inv_all {S : Nat → Prop} {v : Res → Val} (hI : Inv n vi W S v) (hall : ∀ j, j < n → S j) : v = vi n :=
  funext fun r => hI r n (Nat.le_refl _) (fun j hj _ => hall j hj) (fun j hj hjn _ => absurd hjn (by omega))
end

/-- Whom each operation waits for, through others too. -/
def closeA : List (List Nat) → List (List Nat) → List (List Nat)
  | acc, [] => acc
  | acc, ts :: rest => closeA (acc ++ [ts ++ ts.flatMap fun t => acc.getD t []]) rest

theorem closeA_spec {S : Nat → Prop} : ∀ (rest acc : List (List Nat)) (full : List (List Nat)), full.drop acc.length = rest →
    (∀ j, j < acc.length → ∀ i ∈ acc.getD j [], ∀ (_ : ∀ k, k < full.length → S k → ∀ t ∈ full.getD k [], S t), (∀ t ∈ full.getD j [], S t) → S i) →
    (∀ j, j < full.length → ∀ t ∈ full.getD j [], t < j) →
    ∀ j, j < full.length → ∀ i ∈ (closeA acc rest).getD j [], ∀ (_ : ∀ k, k < full.length → S k → ∀ t ∈ full.getD k [], S t), (∀ t ∈ full.getD j [], S t) → S i
  | [], acc, full, hd, hacc, _, j, hj, i, hi, hcl, hp => by
    have : full.length ≤ acc.length := by
      have := congrArg List.length hd
      simp at this
      omega
    exact hacc j (by omega) i hi hcl hp
  | ts :: rest, acc, full, hd, hacc, hlt, j, hj, i, hi, hcl, hp => by
    refine closeA_spec rest (acc ++ [ts ++ ts.flatMap fun t => acc.getD t []]) full ?_ ?_ hlt j hj i hi hcl hp
    · simp only [List.length_append, List.length_cons, List.length_nil]
      rw [← List.drop_drop, hd]
      rfl
    · intro m hm k hk hcl' hp'
      have hts : full.getD acc.length [] = ts := by
        have : (full.drop acc.length)[0]? = some ts := by rw [hd]; rfl
        rw [List.getElem?_drop] at this
        simp at this
        simp [List.getD, this]
      have hal : acc.length < full.length := by
        refine Nat.lt_of_not_le fun h => ?_
        rw [List.drop_eq_nil_of_le h] at hd
        simp at hd
      by_cases hma : m < acc.length
      · rw [List.getD_eq_getElem?_getD, List.getElem?_append_left hma, ← List.getD_eq_getElem?_getD] at hk
        exact hacc m hma k hk hcl' hp'
      · have : m = acc.length := by simp at hm; omega
        subst this
        rw [List.getD_eq_getElem?_getD, List.getElem?_append_right (Nat.le_refl _)] at hk
        simp at hk
        rw [hts] at hp'
        rcases hk with hk | ⟨t, ht, hk⟩
        · exact hp' k hk
        · have htl : t < acc.length := hlt acc.length hal t (by rw [hts]; exact ht)
          refine hacc t htl k (by simpa [List.getD] using hk) hcl' (hcl' t (by omega) (hp' t ht))
end Go.Fw
namespace Go.Fw
open Go

structure ROp where
  g : Option (Nat × Bool)
  x : IOp

def iDst : IOp → Option Nat
  | .mov d _ | .alias d _ _ | .pick d _ _ _ | .alloc d _ | .box d _ | .build d _ _ | .mkrow d _ _ _ _ | .load d _ _ _ _ _ _ | .nilc d _ _ | .fad d _ _ _ | .fld d _ _ _ _ | .iad d _ _ _ _ _ | .idx d _ _ | .len d _ _
  | .slen d _ | .bin d _ _ _ | .sbin d _ _ _ | .ceq d _ _ _ _ _ | .not d _ | .neg d _ | .make d _ _ _ _ | .slice d _ _ _ _ _ | .ssub d _ _ _ | .app d _ _ _ _ _
  | .mm d _ _ _ | .ext d _ _ _ | .call d _ _ _ | .toStr d _ _ | .mkmap d | .mlook d _ _ _ _ | .ieq d _ _ | .appa d _ _ _ _ _ _ _ | .mkrowa d _ _ _ _ | .mova d _ _ _ | .ldm d _ _ _ _ _ => some d
  | .store .. | .mset .. | .storea .. => none

def skipW (v : Res → Val) (x : IOp) : List (Res × Val) := match iDst x with | some d => putT v d [] .und | none => []

def rop (Γ : Gam) (v : Res → Val) (r : ROp) : Option (List (Res × Val)) :=
  match r.g with
  | none => fop Γ v r.x
  | some (s, want) => match v (.t s) with
    | .t [] (.pl false [.bool b]) => if b = want then fop Γ v r.x else some (skipW v r.x)
    | .t [] .und => some (skipW v r.x)
    | _ => none

def rrd (r : ROp) : List Res := (match r.g with | some (s, _) => [.t s] | none => []) ++ (rd r.x ++ (match iDst r.x with | some d => dR d | none => []))
def rwr (r : ROp) : List Res := wr r.x ++ (match r.g, iDst r.x with | some _, some d => dR d | _, _ => [])

section
variable {v v' : Res → Val}
theorem rop_congr {Γ : Gam} {r : ROp} (h : Agr v v' (rrd r)) : rop Γ v r = rop Γ v' r := by
  obtain ⟨h1, h2⟩ := Agr.app h
  obtain ⟨h2, h3⟩ := h2.app
  obtain ⟨g, x⟩ := r
  have hs : skipW v x = skipW v' x := by
    unfold skipW
    cases hx : iDst x with
    | none => rfl
    | some d => simp only [hx] at h3; exact putT_congr h3 _ _
  cases g with
  | none => exact fop_congr h2
  | some y =>
    obtain ⟨s, want⟩ := y
    simp only at h1
    have := h1 (.t s) (by simp)
    simp only [rop, this, hs, fop_congr h2]
theorem rop_wr {Γ : Gam} {r : ROp} {ws : List (Res × Val)} (h : rop Γ v r = some ws) : Wr ws (rwr r) := by
  obtain ⟨g, x⟩ := r
  cases g with
  | none => exact (fop_wr h).left
  | some y =>
    obtain ⟨s, want⟩ := y
    simp only [rop] at h
    have sk : Wr (skipW v x) (rwr ⟨some (s, want), x⟩) := by
      unfold skipW
      simp only [rwr]
      cases hx : iDst x with
      | none => exact .nil
      | some d => exact (Wr.putT d _ _).right
    split at h <;> try (simp at h; done)
    · split at h
      · exact (fop_wr h).left
      · simp only [Option.some.injEq] at h
        subst h
        exact sk
    · simp only [Option.some.injEq] at h
      subst h
      exact sk
end

/-- An operation with its guard fits. The guard looks at the slot that its operation yields. -/
def mrop (P : Program) (N : Nat) (ops : Array Oper) (r : ROp) (o : Oper) : Bool :=
  mop P N r.x o && o.dst == iDst r.x && (match iDst r.x with | some d => decide (d < N) | none => true) &&
  (match r.g, o.guard with
    | none, none => true
    | some (s, want), some (j, want') => want == want' && ((ops[j]?).bind (·.dst)) == some s
    | _, _ => false)
def mregion (P : Program) (N : Nat) (all : Array Oper) : List ROp → List Oper → Bool
  | [], [] => true
  | r :: rs, o :: os => mrop P N all r o && mregion P N all rs os
  | _, _ => false

def Pins (E : Env) (a : Act) : Prop := ∀ n u, E.tpin n = some u → tmv a n = u
def Rel (E : Env) (v : Res → Val) (a : Act) (w : World) : Prop := (∃ β φ, RelW E v (tmv a) w β φ) ∧ Pins E a

section
variable {P : Program} {E : Env} {v : Res → Val} {o : Oper} {a : Act} {w : World}

theorem RelW.dropped {tm tm' : Nat → Value} {β : Nat → Nat} {φ : Res → Foot} (h : RelW E v tm w β φ) (hC : ∀ b, E.C b → b < E.w0.heap.size) (d : Nat) (htm : ∀ n, n ≠ d → tm' n = tm n) :
    ∃ β' φ', RelW E (appl v (dropT v d)) tm' w β' φ' := by
  have T : ∀ n, appl v (dropT v d) (.t n) = if n = d then .nope else v (.t n) := by intro n; by_cases e : n = d <;> simp [dropT, appl, nrm, e]
  have B : ∀ n, appl v (dropT v d) (.b n) = v (.b n) := by intro n; simp [dropT, appl]
  have V : ∀ q, ver (appl v (dropT v d)) q = if q = .t d then ver v q + 1 else ver v q := by
    intro q
    by_cases e : q = .t d
    · subst e; simp [dropT, appl, nrm, ver]
    · simp [dropT, appl, ver, e]
  refine ⟨β, fun r => if r = .t d then fun _ => 0 else φ r, h.multi hC (fun r => r = .t d) ?_ ?_ ?_ ?_ ?_ ?_ ?_ ?_ (fun _ _ => rfl) ?_ (fun _ _ _ => rfl) rfl rfl rfl (Nat.le_refl _) ?_ ?_⟩
  · rintro r rfl b; simp
  · rintro r s b rfl rfl _ _; rfl
  · rintro r b rfl hb; simp at hb
  · intro r hq hr
    refine ⟨?_, if_neg hr⟩
    cases r with
    | v q => exact absurd rfl (hq q)
    | t n => rw [T, if_neg (fun e => hr (by rw [e]))]
    | b n => exact B n
  · intro r hr; exact if_neg hr
  · intro q; rw [V]; split <;> omega
  · intro q hq _
    cases q with
    | b n => simp [Rt.res] at hq
    | t n => simp [Rt.res] at hq; subst hq; rw [V, if_pos rfl]; omega
  · intro n hn; exact htm n (fun e => hn (by rw [e]))
  · intro n hn; simp at hn
  · rintro n hn; simp at hn; subst hn; exact .inl (by rw [T, if_pos rfl])
  · intro n cs hn; simp at hn


/-- A step of a region: the operation is done, or it is skipped. -/
theorem rop_step {Γ : Gam} (hΓ : SatE P E Γ) (hC : ∀ b, E.C b → b < E.w0.heap.size) {N : Nat} {ops : Array Oper} {r : ROp} (hm : mrop P N ops r o = true) (h : Rel E v a w) (hN : N ≤ a.tmps.size) {ws : List (Res × Val)}
    (hf : rop Γ v r = some ws) (hpt : ∀ d, iDst r.x = some d → E.tpin d = none) {i : Nat} (hi : ops[i]? = some o) {Q : Exit → Act → World → Prop} (K : Act → World → Prop)
    (hK : ∀ a' w', Rel E (appl v ws) a' w' → a'.tmps.size = a.tmps.size → a'.defers = a.defers → K a' w') : wpOp P ops Q i K a w := by
  obtain ⟨⟨β, φ, h⟩, hpin⟩ := h
  simp only [mrop, Bool.and_eq_true, beq_iff_eq] at hm
  obtain ⟨⟨⟨hm, hd⟩, hdN⟩, hg⟩ := hm
  have done : fop Γ v r.x = some ws → o.wp P a w K Q := fun hf => op_sound hΓ h hC hN hm hf K Q (fun a' w' g hw => hK a' w' ⟨g.rel, fun n u hn => by
    rw [hw n fun e => by rw [hpt n (hd.symm.trans e)] at hn; simp at hn]
    exact hpin n u hn⟩ g.size g.defers)
  unfold wpOp
  simp only [hi]
  obtain ⟨g, x⟩ := r
  cases g with
  | none =>
    have : o.guard = none := by
      simp only at hg
      split at hg <;> simp_all
    have hw : Region.wanted o (yielded ops a.tmps) = true := by simp [Region.wanted, this]
    rw [hw]
    simp only [if_true]
    exact .inl (done hf)
  | some y =>
    obtain ⟨s, want⟩ := y
    simp only at hg
    split at hg <;> try (simp at hg; done)
    · rename_i heq _; simp at heq
    rename_i _ _ s' want' j want'' heq hgo
    simp only [Option.some.injEq, Prod.mk.injEq] at heq
    obtain ⟨rfl, rfl⟩ := heq
    simp only [Bool.and_eq_true, beq_iff_eq] at hg
    obtain ⟨rfl, hgs⟩ := hg
    have skip : Region.wanted o (yielded ops a.tmps) = false → ws = skipW v x → (if Region.wanted o (yielded ops a.tmps) then o.wp P a w K Q ∨ (o.asks P a w ∧ LetsOut Q) else K (a.put o.dst undef) w) := by
      rintro hw rfl
      rw [hw]
      simp only [Bool.false_eq_true, if_false]
      rw [hd]
      cases hx : iDst x with
      | none =>
        refine hK _ _ ?_ rfl rfl
        simp only [skipW, hx, appl]
        exact ⟨⟨β, φ, h⟩, hpin⟩
      | some d =>
        simp only [hx, decide_eq_true_eq] at hdN
        refine hK _ _ ?_ (by simp [Act.put]) rfl
        simp only [skipW, hx]
        obtain ⟨φ', h'⟩ := h.putV (w' := w) (tm' := tmv (a.put (some d) undef)) (u := undef) (L := []) hC (by simp) (.refl w) (f := fun _ => 0) (tv := .und) (st := []) (by simp) (by simp)
          (fun n => tmv_put a d undef (by omega) n) (by simp) (by intro p hp; simp at hp) (by simp) rfl
        exact ⟨⟨β, φ', by simpa only [dropL, List.append_nil] using h'⟩, fun n u hn => by
          have hne : n ≠ d := fun e => by rw [e, hpt d hx] at hn; simp at hn
          rw [tmv_put_ne _ _ _ _ hne]
          exact hpin n u hn⟩
    simp only [rop] at hf
    split at hf <;> try (simp at hf; done)
    · rename_i b hv
      obtain ⟨vals, g1, g2⟩ := h.ent s _ _ hv (by intro p hp; simp at hp)
      simp only [Bool.false_eq_true, if_false] at g2
      subst g2
      have hb := g1.scal rfl
      simp only [Scal] at hb
      have hy : yielded ops a.tmps j = some b := by
        have hlt : s < a.tmps.size := by
          refine Nat.lt_of_not_le fun hle => ?_
          have : tmv a s = undef := by simp [tmv, Array.getD_eq_getD_getElem?, hle]
          rw [this] at hb
          simp [undef] at hb
        have : a.tmps[s]? = some (.bool b) := by
          simp only [tmv, Array.getD_eq_getD_getElem?, Array.getElem?_eq_getElem hlt] at hb
          rw [Array.getElem?_eq_getElem hlt]
          simpa using hb
        simp only [yielded, hgs, Option.bind_some, this]
      by_cases hbw : b = want
      · rw [if_pos hbw] at hf
        have hw : Region.wanted o (yielded ops a.tmps) = true := by simp [Region.wanted, hgo, hy, hbw]
        rw [hw]
        simp only [if_true]
        exact .inl (done hf)
      · rw [if_neg hbw] at hf
        simp only [Option.some.injEq] at hf
        exact skip (by simp [Region.wanted, hgo, hy, hbw]) hf.symm
    · rename_i hv
      simp only [Option.some.injEq] at hf
      have hu : tmv a s = undef := h.ent s _ _ hv (by intro p hp; simp at hp)
      refine skip ?_ hf.symm
      have hy : yielded ops a.tmps j = none := by
        simp only [yielded, hgs, Option.bind_some]
        cases ht : a.tmps[s]? with
        | none => rfl
        | some u =>
          have : u = undef := by
            simp only [tmv, Array.getD_eq_getD_getElem?, ht, Option.getD_some] at hu
            exact hu
          rw [this]; rfl
      simp [Region.wanted, hgo, hy]

/-- In the order of the text. -/
def evR (Γ : Gam) : List ROp → ASt → Option ASt
  | [], σ => some σ
  | r :: rs, σ => ob (rop Γ σ.val r) fun ws => evR Γ rs (σ.puts ws)

theorem region_plain {Γ : Gam} (hΓ : SatE P E Γ) (hC : ∀ b, E.C b → b < E.w0.heap.size) {N : Nat} {ops : Array Oper} {Q : Exit → Act → World → Prop} : ∀ (rs : List ROp) (k : Nat), mregion P N ops rs (ops.toList.drop k) = true → (∀ r ∈ rs, ∀ d, iDst r.x = some d → E.tpin d = none) →
    ∀ {σ σ' : ASt} {a : Act} {w : World}, Rel E σ.val a w → N ≤ a.tmps.size → evR Γ rs σ = some σ' →
      (∀ a' w', Rel E σ'.val a' w' → a'.tmps.size = a.tmps.size → a'.defers = a.defers → Q .normal a' w') → wpOps P ops Q (List.range' k (ops.size - k)) a w
  | [], k, hm, _, σ, σ', a, w, h, hN, he, hq => by
    have : ops.size ≤ k := by
      refine Nat.le_of_not_lt fun hlt => ?_
      have : ops.toList.drop k ≠ [] := by simp; omega
      cases hd : ops.toList.drop k with
      | nil => exact this hd
      | cons x xs => rw [hd] at hm; simp [mregion] at hm
    rw [show ops.size - k = 0 by omega]
    simp only [evR, Option.some.injEq] at he
    subst he
    exact hq a w h rfl rfl
  | r :: rs, k, hm, hpt, σ, σ', a, w, h, hN, he, hq => by
    have hk : k < ops.size := by
      refine Nat.lt_of_not_le fun hle => ?_
      rw [List.drop_eq_nil_of_le (by simpa using hle)] at hm
      simp [mregion] at hm
    have hd : ops.toList.drop k = ops[k] :: ops.toList.drop (k + 1) := by
      rw [List.drop_eq_getElem_cons (by simpa using hk)]; simp
    rw [hd] at hm
    simp only [mregion, Bool.and_eq_true] at hm
    obtain ⟨ws, h1, h2⟩ := ob_some he
    rw [show ops.size - k = (ops.size - (k + 1)) + 1 by omega, List.range'_succ, wpOps_cons]
    refine rop_step hΓ hC hm.1 h hN h1 (hpt r (by simp)) (Array.getElem?_eq_getElem hk) _ fun a' w' hr hs hdf => ?_
    refine region_plain hΓ hC rs (k + 1) hm.2 (fun r hr => hpt r (by simp [hr])) (σ := σ.puts ws) (by rw [val_puts]; exact hr) (by omega) h2 fun a2 w2 hr2 hs2 hd2 => hq a2 w2 hr2 (hs2.trans hs) (hd2.trans hdf)
end
end Go.Fw
