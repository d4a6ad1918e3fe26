/- The framework, part Zd: the words by which a place in the code is run on given data. The framework, part Ze: plain words for what code does with numbers, texts and rows, and how they read as cells. The framework, part Zf: what a deeper meaning of the calls keeps of a run. Conditions: none. -/
import Derived.Test.YtjldolmokfnkoaaGreatDoorFwZb
import Derived.IntWalk
namespace Go.Fw
open Go

attribute [go_sem ↓] D_skip D_seq D_block D_loop D_exit D_ret D_ns D_nb D_nl D_es D_el D_eb D_eb' D_end D_rend D_region D_gh D_cond
attribute [go_sem ↓] ob_some' obP_some cb_true cb_false

theorem ob_none' {α β : Type} (f : α → Option β) : ob none f = none := rfl
attribute [go_sem ↓] ob_none'

theorem evR_nil (Γ : Gam) (σ : ASt) : evR Γ [] σ = some σ := rfl
theorem evR_cons (Γ : Gam) (r : ROp) (rs : List ROp) (σ : ASt) : evR Γ (r :: rs) σ = ob (rop Γ σ.val r) fun ws => evR Γ rs (σ.puts ws) := rfl
theorem rop_none (Γ : Gam) (v : Res → Val) (x : IOp) : rop Γ v ⟨none, x⟩ = fop Γ v x := rfl
def rg (x : Val) (want : Bool) (a b : Option (List (Res × Val))) : Option (List (Res × Val)) := match x with
  | .t [] (.pl false [.bool b']) => if b' = want then a else b
  | .t [] .und => b
  | _ => none
@[congr] theorem rg_congr1 {x y : Val} {w : Bool} {a b : Option (List (Res × Val))} (h : x = y) : rg x w a b = rg y w a b := by rw [h]
theorem rop_some (Γ : Gam) (v : Res → Val) (s : Nat) (want : Bool) (x : IOp) : rop Γ v ⟨some (s, want), x⟩ = rg (v (.t s)) want (fop Γ v x) (some (skipW v x)) := rfl
theorem rg_tt (a b : Option (List (Res × Val))) : rg (.t [] (.pl false [.bool true])) true a b = a := rfl
theorem rg_ff (a b : Option (List (Res × Val))) : rg (.t [] (.pl false [.bool false])) false a b = a := rfl
theorem rg_tf (a b : Option (List (Res × Val))) : rg (.t [] (.pl false [.bool true])) false a b = b := rfl
theorem rg_ft (a b : Option (List (Res × Val))) : rg (.t [] (.pl false [.bool false])) true a b = b := rfl
theorem rg_und (w : Bool) (a b : Option (List (Res × Val))) : rg (.t [] .und) w a b = b := rfl
def putX (x : Val) (d : Nat) (st : Stamps) (tv : TV) (a : List (Res × Val)) : List (Res × Val) := match x with
  | .nope => [(.t d, .t st tv)]
  | _ => a
@[congr] theorem putX_congr1 {x y : Val} {d : Nat} {st : Stamps} {tv : TV} {a : List (Res × Val)} (h : x = y) : putX x d st tv a = putX y d st tv a := by rw [h]
theorem putT_X (v : Res → Val) (d : Nat) (st : Stamps) (tv : TV) : putT v d st tv = putX (v (.t d)) d st tv [(.t d, .t st tv), (.v (.t d), .v (ver v (.t d) + 1))] := rfl
theorem putX_nope (d : Nat) (st : Stamps) (tv : TV) (a : List (Res × Val)) : putX .nope d st tv a = [(.t d, .t st tv)] := rfl
theorem putX_t (s1 : Stamps) (t1 : TV) (d : Nat) (st : Stamps) (tv : TV) (a : List (Res × Val)) : putX (.t s1 t1) d st tv a = a := rfl
attribute [go_sem] putT_X
attribute [go_sem ↓] putX_nope putX_t rg_tt rg_ff rg_tf rg_ft rg_und
theorem evR_mk (Γ : Gam) (r : ROp) (rs : List ROp) (ts bs : List (Nat × Val)) (vs : List (Rt × Nat)) : evR Γ (r :: rs) ⟨ts, bs, vs⟩ = ob (rop Γ (ASt.val ⟨ts, bs, vs⟩) r) fun ws => evR Γ rs (ASt.puts ⟨ts, bs, vs⟩ ws) := rfl
attribute [go_sem ↓] evR_nil evR_mk
attribute [go_sem] rop_none rop_some
theorem skip_mov (v : Res → Val) (d : Nat) a0 : skipW v (.mov d a0) = putT v d [] .und := rfl
theorem skip_alias (v : Res → Val) (d : Nat) a0 a1 : skipW v (.alias d a0 a1) = putT v d [] .und := rfl
theorem skip_pick (v : Res → Val) (d : Nat) a0 a1 a2 : skipW v (.pick d a0 a1 a2) = putT v d [] .und := rfl
theorem skip_alloc (v : Res → Val) (d : Nat) a0 : skipW v (.alloc d a0) = putT v d [] .und := rfl
theorem skip_box (v : Res → Val) (d : Nat) a0 : skipW v (.box d a0) = putT v d [] .und := rfl
theorem skip_build (v : Res → Val) (d : Nat) a0 a1 : skipW v (.build d a0 a1) = putT v d [] .und := rfl
theorem skip_mkrow (v : Res → Val) (d : Nat) a0 a1 a2 a3 : skipW v (.mkrow d a0 a1 a2 a3) = putT v d [] .und := rfl
theorem skip_ldm (v : Res → Val) (d : Nat) a0 a1 a2 a3 a4 : skipW v (.ldm d a0 a1 a2 a3 a4) = putT v d [] .und := rfl
theorem skip_load (v : Res → Val) (d : Nat) a0 a1 a2 a3 a4 a5 : skipW v (.load d a0 a1 a2 a3 a4 a5) = putT v d [] .und := rfl
theorem skip_nilc (v : Res → Val) (d : Nat) a0 a1 : skipW v (.nilc d a0 a1) = putT v d [] .und := rfl
theorem skip_fad (v : Res → Val) (d : Nat) a0 a1 a2 : skipW v (.fad d a0 a1 a2) = putT v d [] .und := rfl
theorem skip_fld (v : Res → Val) (d : Nat) a0 a1 a2 a3 : skipW v (.fld d a0 a1 a2 a3) = putT v d [] .und := rfl
theorem skip_iad (v : Res → Val) (d : Nat) a0 a1 a2 a3 a4 : skipW v (.iad d a0 a1 a2 a3 a4) = putT v d [] .und := rfl
theorem skip_idx (v : Res → Val) (d : Nat) a0 a1 : skipW v (.idx d a0 a1) = putT v d [] .und := rfl
theorem skip_len (v : Res → Val) (d : Nat) a0 a1 : skipW v (.len d a0 a1) = putT v d [] .und := rfl
theorem skip_slen (v : Res → Val) (d : Nat) a0 : skipW v (.slen d a0) = putT v d [] .und := rfl
theorem skip_bin (v : Res → Val) (d : Nat) a0 a1 a2 : skipW v (.bin d a0 a1 a2) = putT v d [] .und := rfl
theorem skip_sbin (v : Res → Val) (d : Nat) a0 a1 a2 : skipW v (.sbin d a0 a1 a2) = putT v d [] .und := rfl
theorem skip_ceq (v : Res → Val) (d : Nat) a0 a1 a2 a3 a4 : skipW v (.ceq d a0 a1 a2 a3 a4) = putT v d [] .und := rfl
theorem skip_not (v : Res → Val) (d : Nat) a0 : skipW v (.not d a0) = putT v d [] .und := rfl
theorem skip_neg (v : Res → Val) (d : Nat) a0 : skipW v (.neg d a0) = putT v d [] .und := rfl
theorem skip_make (v : Res → Val) (d : Nat) a0 a1 a2 a3 : skipW v (.make d a0 a1 a2 a3) = putT v d [] .und := rfl
theorem skip_slice (v : Res → Val) (d : Nat) a0 a1 a2 a3 a4 : skipW v (.slice d a0 a1 a2 a3 a4) = putT v d [] .und := rfl
theorem skip_ssub (v : Res → Val) (d : Nat) a0 a1 a2 : skipW v (.ssub d a0 a1 a2) = putT v d [] .und := rfl
theorem skip_app (v : Res → Val) (d : Nat) a0 a1 a2 a3 a4 : skipW v (.app d a0 a1 a2 a3 a4) = putT v d [] .und := rfl
theorem skip_mm (v : Res → Val) (d : Nat) a0 a1 a2 : skipW v (.mm d a0 a1 a2) = putT v d [] .und := rfl
theorem skip_ext (v : Res → Val) (d : Nat) a0 a1 a2 : skipW v (.ext d a0 a1 a2) = putT v d [] .und := rfl
theorem skip_call (v : Res → Val) (d : Nat) a0 a1 a2 : skipW v (.call d a0 a1 a2) = putT v d [] .und := rfl
theorem skip_toStr (v : Res → Val) (d : Nat) a0 a1 : skipW v (.toStr d a0 a1) = putT v d [] .und := rfl
theorem skip_mkmap (v : Res → Val) (d : Nat) : skipW v (.mkmap d ) = putT v d [] .und := rfl
theorem skip_mlook (v : Res → Val) (d : Nat) a0 a1 a2 a3 : skipW v (.mlook d a0 a1 a2 a3) = putT v d [] .und := rfl
theorem skip_ieq (v : Res → Val) (d : Nat) a0 a1 : skipW v (.ieq d a0 a1) = putT v d [] .und := rfl
theorem skip_appa (v : Res → Val) (d : Nat) a0 a1 a2 a3 a4 a5 a6 : skipW v (.appa d a0 a1 a2 a3 a4 a5 a6) = putT v d [] .und := rfl
theorem skip_mova (v : Res → Val) (d : Nat) a0 a1 a2 : skipW v (.mova d a0 a1 a2) = putT v d [] .und := rfl
theorem skip_mkrowa (v : Res → Val) (d : Nat) a0 a1 a2 a3 : skipW v (.mkrowa d a0 a1 a2 a3) = putT v d [] .und := rfl
attribute [go_sem] skip_ldm skip_mova skip_mkrowa skip_mov skip_alias skip_pick skip_alloc skip_box skip_build skip_mkrow skip_load skip_nilc skip_fad skip_fld skip_iad skip_idx skip_len skip_slen skip_bin skip_sbin skip_ceq skip_not skip_neg skip_make skip_slice skip_ssub skip_app skip_mm skip_ext skip_call skip_toStr skip_mkmap skip_mlook skip_ieq skip_appa

theorem val_t (ts bs : List (Nat × Val)) (vs : List (Rt × Nat)) (n : Nat) : ASt.val ⟨ts, bs, vs⟩ (.t n) = look ts n := rfl
theorem val_b (ts bs : List (Nat × Val)) (vs : List (Rt × Nat)) (n : Nat) : ASt.val ⟨ts, bs, vs⟩ (.b n) = look bs n := rfl
theorem val_v (ts bs : List (Nat × Val)) (vs : List (Rt × Nat)) (r : Rt) : ASt.val ⟨ts, bs, vs⟩ (.v r) = .v (lookv vs r) := rfl
attribute [go_sem] val_t val_b val_v look lookv ASt.put ASt.puts
def wk {β : Type} (x : Val) (f : Val → β) : β := f x
@[congr] theorem wk_congr1 {β : Type} {x y : Val} {f : Val → β} (h : x = y) : wk x f = wk y f := by rw [h]
theorem wk_t {β : Type} (st : Stamps) (tv : TV) (f : Val → β) : wk (.t st tv) f = f (.t st tv) := rfl
theorem wk_b {β : Type} (cs : List AC) (f : Val → β) : wk (.b cs) f = f (.b cs) := rfl
theorem wk_v {β : Type} (k : Nat) (f : Val → β) : wk (.v k) f = f (.v k) := rfl
theorem wk_nope {β : Type} (f : Val → β) : wk .nope f = f .nope := rfl
def wo {α β : Type} (x : Option α) (f : Option α → β) : β := f x
@[congr] theorem wo_congr1 {α β : Type} {x y : Option α} {f : Option α → β} (h : x = y) : wo x f = wo y f := by rw [h]
theorem wo_some {α β : Type} (a : α) (f : Option α → β) : wo (some a) f = f (some a) := rfl
theorem wo_none {α β : Type} (f : Option α → β) : wo none f = f none := rfl
attribute [go_sem ↓] wk_t wk_b wk_v wk_nope wo_some wo_none
theorem w_fop_mov (Γ : Gam) (v : Res → Val) (d : Nat) (x : Opr) : fop Γ v (.mov d x) = (ob (opr v x) fun (st, tv, ws) => some (putT v d st tv ++ ws)) := rfl
theorem w_fop_alias (Γ : Gam) (v : Res → Val) (d : Nat) (s : Nat) (rs : List Rt) : fop Γ v (.alias d s rs) = (wk (v (.t s)) fun
    | .t st tv => if d = s then none else if tv.noOwn then (if stOk v rs st then some (putT v d st tv) else none) else match st, tv with
      | [], .pl false [_] => some (putT v d [(.t s, ver v (.t s))] (.ali (.t s) [] 0))
      | [], .pl true cs => some (putT v d [(.t s, ver v (.t s))] (.pl true (brwL cs)))
      | [], .mp _ => some (putT v d [(.t s, ver v (.t s))] (.ali (.t s) [] 0))
      | _, _ => none
    | _ => none) := rfl
theorem w_fop_pick (Γ : Gam) (v : Res → Val) (d : Nat) (c : Opr) (a : Opr) (b : Opr) : fop Γ v (.pick d c a b) = (ob (sca v c) fun
    | .bool true => ob (opr v a) fun (st, tv, ws) => if ws.isEmpty then some (putT v d st tv) else none
    | .bool false => ob (opr v b) fun (st, tv, ws) => if ws.isEmpty then some (putT v d st tv) else none
    | _ => none) := rfl
theorem w_fop_alloc (Γ : Gam) (v : Res → Val) (d : Nat) (cs : List AC) : fop Γ v (.alloc d cs) = (wk (v (.b d)) fun
    | .nope => some (putT v d [] (.ptr (.b d) [] 0) ++ [(.b d, .b cs)])
    | _ => none) := rfl
theorem w_fop_box (Γ : Gam) (v : Res → Val) (d : Nat) (x : Opr) : fop Γ v (.box d x) = (wk (v (.b d)) fun
    | .nope => ob (opr v x) fun
      | ([], .pl _ cs, ws) => some (putT v d [] (.ptr (.b d) [] 0) ++ (.b d, .b cs) :: ws)
      | _ => none
    | _ => none) := rfl
theorem w_fop_build (Γ : Gam) (v : Res → Val) (d : Nat) (z : List AC) (ps : List (Nat × Nat × Opr)) : fop Γ v (.build d z ps) = (ob (oprs v ps) fun (st, ps', ws) => ob (fillP z ps') fun cs => some (putT v d st (.pl true cs) ++ ws)) := rfl
theorem w_fop_mkrow (Γ : Gam) (v : Res → Val) (d : Nat) (e : Nat) (z : List AC) (n : Nat) (ps : List (Nat × Nat × Opr)) : fop Γ v (.mkrow d e z n ps) = (ob (oprs v ps) fun
    | ([], ps', ws) => ob (fillP (List.replicate n z).flatten ps') fun cs => some (putT v d [] (.pl false [.sl .own e (rowsOf e n cs)]) ++ ws)
    | _ => none) := rfl
theorem w_fop_ldm (Γ : Gam) (v : Res → Val) (d p k off n : Nat) (a : Bool) : fop Γ v (.ldm d p k off n a) = (wk (v (.t p)) fun
    | .t [] (.ptr (.b k') [] off') => if k' = k ∧ off' = off ∧ d ≠ p then (wk (v (.b k)) fun
      | .b cs => if off + n ≤ cs.length ∧ noOwnL ((cs.drop off).take n) = false then some (putC v (.b k) (cs.take off ++ (List.replicate n .gone ++ cs.drop (off + n))) ++ putT v d [] (.pl a ((cs.drop off).take n))) else none
      | _ => none) else none
    | _ => none) := rfl
theorem w_fop_load (Γ : Gam) (v : Res → Val) (d : Nat) (p : Nat) (rs : List Rt) (r : Option Rt) (n : Nat) (a : Bool) (m : Lm) : fop Γ v (.load d p rs r n a m) = (wk (v (.t p)) fun
    | .t st (.view cs) => if stOk v rs st && decide (n ≤ cs.length) && noOwnL (cs.take n) then some (putT v d (if (cs.take n).all AC.flat then [] else st) (.pl a (cs.take n))) else none
    | .t st (.ptr q path off) => if stOk v rs st && r == some q then ob (content v q) fun cs => ob (cellsAt cs path off) fun xs =>
        if n ≤ xs.length then (if noOwnL (xs.take n) then some (putT v d [] (.pl a (xs.take n))) else match m with
        | .cp => none
        | .bo => some (putT v d [(q, ver v q)] (.pl a (brwL (xs.take n))))
        | .al => if n = 1 ∧ a = false then some (putT v d [(q, ver v q)] (.ali q path off)) else none
        | .mv => ob (setAt cs path off (List.replicate n .gone)) fun cs' => some (putC v q cs' ++ putT v d [] (.pl a (xs.take n)))
        | .fz => ob (setAt cs path off (frzL (xs.take n))) fun cs' => some (putC v q cs' ++ putT v d [] (.pl a (frzL (xs.take n))))) else none
      else none
    | _ => none) := rfl
theorem w_fop_store (Γ : Gam) (v : Res → Val) (p : Nat) (rs : List Rt) (q : Rt) (n : Nat) (x : Opr) : fop Γ v (.store p rs q n x) = (wk (v (.t p)) fun
    | .t st (.ptr q' path off) => if stOk v rs st && decide (q' = q) then ob (opr v x) fun
        | ([], .pl _ xs, ws) => if xs.length = n then ob (content v q) fun cs => ob (setAt cs path off xs) fun cs' => some (putC v q cs' ++ ws) else none
        | _ => none
      else none
    | _ => none) := rfl
theorem w_named (v : Res → Val) (s k : Nat) (ks : List Rt) : named v s k ks = if k = s then some ([], 0) else (wk (v (.t k)) fun
  | .t st (.ali q p off) => if stOk v ks st && decide (q = .t s) then some (p, off) else none
  | _ => none) := rfl
theorem w_fop_mova (Γ : Gam) (v : Res → Val) (d s k : Nat) (ks : List Rt) : fop Γ v (.mova d s k ks) = (wk (v (.t s)) fun
    | .t [] (.pl false [c]) => if d = s ∨ d = k then none else ob (named v s k ks) fun (p, off) => if nameFits c p off then some ((putT v d [] (.pl false [c]) ++ dropT v s) ++ putN (appl v (putT v d [] (.pl false [c]) ++ dropT v s)) k (.t d) p off) else none
    | _ => none) := rfl
theorem w_fop_mkrowa (Γ : Gam) (v : Res → Val) (d s k : Nat) (ks : List Rt) (z : List AC) : fop Γ v (.mkrowa d s k ks z) = (wk (v (.t s)) fun
    | .t [] (.pl false [.sl .own e rows]) => if d = s ∨ d = k ∨ k = s then none else ob (named v s k ks) fun
      | ([], 0) => some ((putT v d [] (.pl false [.sl .own 1 [[.sl .own e rows]]]) ++ dropT v s) ++ putN (appl v (putT v d [] (.pl false [.sl .own 1 [[.sl .own e rows]]]) ++ dropT v s)) k (.t d) [(0, 0, 1)] 0)
      | _ => none
    | _ => none) := rfl
theorem w_fop_storea (Γ : Gam) (v : Res → Val) (p : Nat) (rs : List Rt) (q : Rt) (x : Opr) (k : Nat) (ks : List Rt) : fop Γ v (.storea p rs q x k ks) = (wk (v (.t p)) fun
    | .t st (.ptr q' path off) => if stOk v rs st && decide (q' = q) && decide (q ≠ .t k) then (wk (v (.t k)) fun
      | .t st2 (.ali q2 p2 off2) => if stOk v ks st2 && decide (q2 = q) && !p2.isEmpty then ob (sca v x) fun
        | .int kd c => ob (content v q) fun cs => ob (cellsAt cs path off) fun xs => if isInt1 xs then ob (cellsAt cs p2 off2) fun ys => if isRow1 ys then
            ob (setAt cs path off [.int kd c]) fun cs' => ob (cellsAt cs' p2 off2) fun _ => some (putC v q cs' ++ putN (appl v (putC v q cs')) k q p2 off2)
            else none else none
        | _ => none
        else none
      | _ => none) else none
    | _ => none) := rfl
theorem w_fop_nilc (Γ : Gam) (v : Res → Val) (d : Nat) (p : Nat) (rs : List Rt) : fop Γ v (.nilc d p rs) = (wk (v (.t p)) fun
    | .t st (.ptr q path off) => if stOk v rs st then some (putT v d st (.ptr q path off)) else none
    | .t st (.view cs) => if stOk v rs st then some (putT v d st (.view cs)) else none
    | .t st (.pl false [.ref m cs]) => if stOk v rs st && decide (m ≠ .own) then some (putT v d st (.view (if m = .sh then cs else brwL cs))) else none
    | _ => none) := rfl
theorem w_fop_fad (Γ : Gam) (v : Res → Val) (d : Nat) (p : Nat) (rs : List Rt) (o : Nat) : fop Γ v (.fad d p rs o) = (wk (v (.t p)) fun
    | .t st (.ptr q path off) => if stOk v rs st then some (putT v d st (.ptr q path (off + o))) else none
    | .t st (.view cs) => if stOk v rs st then some (putT v d st (.view (cs.drop o))) else none
    | _ => none) := rfl
theorem w_fop_fld (Γ : Gam) (v : Res → Val) (d : Nat) (x : Opr) (o : Nat) (n : Nat) (a : Bool) : fop Γ v (.fld d x o n a) = (ob (opr v x) fun
    | (st, .pl true cs, []) => if o + n ≤ cs.length then some (putT v d (if ((cs.drop o).take n).all AC.flat then [] else st) (.pl a ((cs.drop o).take n))) else none
    | _ => none) := rfl
theorem w_fop_iad (Γ : Gam) (v : Res → Val) (d : Nat) (x : Nat) (rs : List Rt) (r : Option Rt) (i : Opr) (e : Nat) : fop Γ v (.iad d x rs r i e) = (ob (sca v i) fun
    | .int _ n => (wk (v (.t x)) fun
      | .t st (.pl false [.sl m e' rows]) => if stOk v rs st && decide (m ≠ .own) && decide (e' = e) && decide (0 ≤ n) then
          (wo (rows[n.toNat]?) fun | some row => some (putT v d st (.view (if m = .sh then row else brwL row))) | none => none)
        else if stOk v rs st && decide (m = .own) && decide (e' = e) && decide (0 ≤ n) && r == some (.t x) && decide (d ≠ x) then
          (wo (rows[n.toNat]?) fun | some _ => some (putT v d [(.t x, ver v (.t x))] (.ptr (.t x) [(0, n.toNat, e)] 0)) | none => none)
        else none
      | .t st (.ali q path off) => if stOk v rs st && r == some q && decide (0 ≤ n) then ob (content v q) fun cs => ob (cellsAt cs path off) fun
          | .sl .own e' rows :: _ => if e' = e then (wo (rows[n.toNat]?) fun
            | some _ => some (putT v d [(q, ver v q)] (.ptr q (path ++ [(off, n.toNat, e)]) 0))
            | none => none) else none
          | _ => none
        else none
      | _ => none)
    | _ => none) := rfl
theorem w_fop_idx (Γ : Gam) (v : Res → Val) (d : Nat) (x : Opr) (i : Opr) : fop Γ v (.idx d x i) = (ob (sca v i) fun
    | .int _ n => ob (sca v x) fun
      | .str s => if 0 ≤ n then (wo (s[n.toNat]?) fun | some c => some (putT v d [] (.pl false [.int .u8 c.toNat])) | none => none) else none
      | _ => none
    | _ => none) := rfl
theorem w_fop_len (Γ : Gam) (v : Res → Val) (d : Nat) (x : Opr) (r : Option Rt) : fop Γ v (.len d x r) = (ob (rdSl v x r) fun (_, _, rows, _) => some (putT v d [] (.pl false [.int .i64 rows.length]))) := rfl
theorem w_fop_slen (Γ : Gam) (v : Res → Val) (d : Nat) (x : Opr) : fop Γ v (.slen d x) = (ob (sca v x) fun
    | .str s => some (putT v d [] (.pl false [.int .i64 s.length]))
    | _ => none) := rfl
theorem w_fop_bin (Γ : Gam) (v : Res → Val) (d : Nat) (op : IBin) (x : Opr) (y : Opr) : fop Γ v (.bin d op x y) = (ob (sca v x) fun
    | .int k a => ob (sca v y) fun
      | .int k' b => ob (intOp op k k' a b) fun c => some (putT v d [] (.pl false [c]))
      | _ => none
    | _ => none) := rfl
theorem w_fop_sbin (Γ : Gam) (v : Res → Val) (d : Nat) (op : IBin) (x : Opr) (y : Opr) : fop Γ v (.sbin d op x y) = (ob (sca v x) fun
    | .str a => ob (sca v y) fun
      | .str b => (match op with
        | .add => if a.length + b.length ≤ 9223372036854775807 then some (putT v d [] (.pl false [.str (a ++ b)])) else none
        | .eql => some (putT v d [] (.pl false [.bool (decide (a = b))]))
        | .neq => some (putT v d [] (.pl false [.bool (!decide (a = b))]))
        | _ => none)
      | _ => none
    | _ => none) := rfl
theorem w_fop_ceq (Γ : Gam) (v : Res → Val) (d : Nat) (neg : Bool) (g : Bool) (ks : List FK) (x : Opr) (y : Opr) : fop Γ v (.ceq d neg g ks x y) = (ob (opr v x) fun
    | (_, .pl ga as, []) => ob (opr v y) fun
      | (_, .pl gb bs, []) => if fitsL ks as && fitsL ks bs && decide (ga = g ∧ gb = g) then some (putT v d [] (.pl false [.bool (if neg then !eqcs as bs else eqcs as bs)])) else none
      | _ => none
    | _ => none) := rfl
theorem w_fop_not (Γ : Gam) (v : Res → Val) (d : Nat) (x : Opr) : fop Γ v (.not d x) = (ob (sca v x) fun
    | .bool b => some (putT v d [] (.pl false [.bool !b]))
    | _ => none) := rfl
theorem w_fop_neg (Γ : Gam) (v : Res → Val) (d : Nat) (x : Opr) : fop Γ v (.neg d x) = (ob (sca v x) fun
    | .int k n => some (putT v d [] (.pl false [.int k (k.wrap (-n))]))
    | _ => none) := rfl
theorem w_fop_make (Γ : Gam) (v : Res → Val) (d : Nat) (e : Nat) (z : List AC) (by_ : Nat) (n : Opr) : fop Γ v (.make d e z by_ n) = (ob (sca v n) fun
    | .int _ n => if 0 ≤ n ∧ n * by_ ≤ 281474976710656 ∧ n ≤ 9223372036854775807 then some (putT v d [] (.pl false [.sl .own e (List.replicate n.toNat z)])) else none
    | _ => none) := rfl
theorem w_fop_slice (Γ : Gam) (v : Res → Val) (d : Nat) (e' : Nat) (x : Opr) (r : Option Rt) (lo : Option Opr) (hi : Option Opr) : fop Γ v (.slice d e' x r lo hi) = (ob (rdSl v x r) fun (md, e, rows, st) => ob (optI v lo 0) fun l => ob (optI v hi rows.length) fun h =>
      if e = e' ∧ 0 ≤ l ∧ l ≤ h ∧ h ≤ rows.length then
        if md = .own then (match x, r with
            | .t _ _, some q => some (putT v d ((q, ver v q) :: st) (.pl false [.sl .bor e (brwLL ((rows.drop l.toNat).take (h.toNat - l.toNat)))]))
            | _, _ => none)
        else some (putT v d st (.pl false [.sl md e ((rows.drop l.toNat).take (h.toNat - l.toNat))]))
      else none) := rfl
theorem w_fop_ssub (Γ : Gam) (v : Res → Val) (d : Nat) (x : Opr) (lo : Option Opr) (hi : Option Opr) : fop Γ v (.ssub d x lo hi) = (ob (sca v x) fun
      | .str s => ob (optI v lo 0) fun l => ob (optI v hi s.length) fun h =>
        if 0 ≤ l ∧ l ≤ h ∧ h ≤ s.length then some (putT v d [] (.pl false [.str ((s.drop l.toNat).take (h.toNat - l.toNat))])) else none
      | _ => none) := rfl
theorem w_fop_app (Γ : Gam) (v : Res → Val) (d : Nat) (e : Nat) (s : Opr) (x : Opr) (xr : Option Rt) (by_ : Nat) : fop Γ v (.app d e s x xr by_) = (appW v d e s x xr by_) := rfl
theorem w_fop_appa (Γ : Gam) (v : Res → Val) (d : Nat) (e : Nat) (n : Nat) (rs : List Rt) (k : Nat) (x : Opr) (xr : Option Rt) (by_ : Nat) : fop Γ v (.appa d e n rs k x xr by_) = (ob (steal v n rs k) fun ws1 => ob (appW (appl v ws1) d e (.m n) x xr by_) fun ws2 => some (ws1 ++ ws2)) := rfl
theorem w_fop_mm (Γ : Gam) (v : Res → Val) (d : Nat) (mx : Bool) (x : Opr) (y : Opr) : fop Γ v (.mm d mx x y) = (ob (sca v x) fun
    | .int k a => ob (sca v y) fun
      | .int k' b => if k = k' then some (putT v d [] (.pl false [.int k (if mx then max a b else min a b)])) else none
      | _ => none
    | _ => none) := rfl
theorem w_fop_ext (Γ : Gam) (v : Res → Val) (d n : Nat) (rs : List Rt) (i : Nat) (opn : Bool) : fop Γ v (.ext d (.t n rs) i opn) = ((wk (v (.t n)) fun
      | .t [] (.tup vs) => (wo (vs[i]?) fun
        | some (a, cs) => ob (putR v d opn (.pl a cs)) fun ws => if noOwnL cs then some ws else if d = n then none else some (ws ++ [(.t n, .t [] (.tup (vs.set i (a, List.replicate cs.length .gone)))), (.v (.t n), .v (ver v (.t n) + 1))])
        | none => none)
      | _ => none)) := rfl
theorem w_fop_call (Γ : Gam) (v : Res → Val) (d : Nat) (f : FuncId) (as : List Arg) (opn : Bool) : fop Γ v (.call d f as opn) = (ob (argsOf v as) fun (ps, ws, bs) => ob (Γ f ps) fun out => ob (extsBack v bs out.exts) fun back => ob (putR v d opn out.tv) fun ws' => some (ws' ++ (ws ++ back))) := rfl
theorem w_fop_mkmap (Γ : Gam) (v : Res → Val) (d : Nat) : fop Γ v (.mkmap d) = (some (putT v d [] (.mp []))) := rfl
theorem w_fop_ieq (Γ : Gam) (v : Res → Val) (d : Nat) (neg : Bool) (x : Opr) : fop Γ v (.ieq d neg x) = (ob (sca v x) fun
    | .err b => some (putT v d [] (.pl false [.bool (if neg then !b else b)]))
    | _ => none) := rfl
theorem w_fop_mlook (Γ : Gam) (v : Res → Val) (d : Nat) (m : Nat) (rs : List Rt) (q : Nat) (k : Opr) : fop Γ v (.mlook d m rs q k) = (ob (mapAt v m rs q) fun es => ob (sca v k) fun
      | .int .i64 n => some (putT v d [] (.pl false [.bool (mget es n)]))
      | _ => none) := rfl
theorem w_fop_mset (Γ : Gam) (v : Res → Val) (m : Nat) (rs : List Rt) (q : Nat) (k : Opr) (x : Opr) : fop Γ v (.mset m rs q k x) = (ob (mapAt v m rs q) fun es => ob (sca v k) fun
      | .int .i64 n => ob (sca v x) fun
        | .bool b => some [(.t q, .t [] (.mp (mput es n b))), (.v (.t q), .v (ver v (.t q) + 1))]
        | _ => none
      | _ => none) := rfl
theorem w_fop_toStr (Γ : Gam) (v : Res → Val) (d : Nat) (x : Opr) (r : Option Rt) : fop Γ v (.toStr d x r) = (ob (rdSl v x r) fun (_, e, rows, _) => if e = 1 then ob (bytesOf rows) fun s => some (putT v d [] (.pl false [.str s])) else none) := rfl
theorem w_opr_0 (v : Res → Val) (n : Nat) (rs : List Rt) : opr v (.t n rs) = (wk (v (.t n)) fun
    | .t st tv => if stOk v rs st && tv.noOwn then some (st, tv, []) else none
    | _ => none) := rfl
theorem w_opr_1 (v : Res → Val) (n : Nat) : opr v (.m n) = (wk (v (.t n)) fun
    | .t [] tv => some ([], tv, dropT v n)
    | _ => none) := rfl
theorem w_opr_2 (v : Res → Val) (c : AC) : opr v (.c c) = (some ([], .pl false [c], [])) := rfl
theorem w_opr_3 (v : Res → Val) (n : Nat) (rs : List Rt) (q : Nat) : opr v (.p n rs q) = (none) := rfl
theorem w_content_0 (v : Res → Val) (n : Nat) : content v (.b n) = (wk (v (.b n)) fun | .b cs => some cs | _ => none) := rfl
theorem w_content_1 (v : Res → Val) (n : Nat) : content v (.t n) = (wk (v (.t n)) fun | .t [] (.pl false [c]) => some [c] | _ => none) := rfl
theorem w_rdSl_0 (v : Res → Val) (r : Option Rt) (m : Md) (e : Nat) (rows : List (List AC)) : rdSl v (.c (.sl m e rows)) r = some (m, e, rows, []) := rfl
theorem w_rdSl_1 (v : Res → Val) (r : Option Rt) (n : Nat) (rs : List Rt) : rdSl v (.t n rs) r = (wk (v (.t n)) fun
    | .t st (.pl false [.sl m e rows]) => if stOk v rs st && (decide (m ≠ .own) || r == some (.t n)) then some (m, e, rows, st) else none
    | .t st (.ali q path off) => if stOk v rs st && r == some q then
        ob (content v q) fun cs => ob (cellsAt cs path off) fun
          | .sl .own e rows :: _ => some (.own, e, rows, st)
          | _ => none
      else none
    | _ => none) := rfl
theorem w_rdSl_2 (v : Res → Val) (r : Option Rt) (n : Nat) : rdSl v (.m n) r = (wk (v (.t n)) fun
    | .t [] (.pl false [.sl m e rows]) => some (m, e, rows, [])
    | _ => none) := rfl
theorem w_takeSl_0 (v : Res → Val) (e : Nat) (m : Md) (e2 : Nat) : takeSl v e (.c (.sl m e2 [])) = some [] := rfl
theorem w_takeSl_1 (v : Res → Val) (e : Nat) (n : Nat) : takeSl v e (.m n) = (wk (v (.t n)) fun
    | .t [] (.pl false [.sl .own e' rows]) => if e' = e then some rows else none
    | _ => none) := rfl
theorem w_takeSl_2 (v : Res → Val) (e : Nat) (n : Nat) (rs : List Rt) (q : Nat) : takeSl v e (.p n rs q) = (wk (v (.t n)) fun
    | .t st (.pfx q' k) => if q' = q ∧ stOk v rs st = true then (wk (v (.t q)) fun
      | .t [] (.pl false [.sl .own e' rows]) => if e' = e then some (rows.take k) else none
      | _ => none) else none
    | _ => none) := rfl
theorem w_stOk_0 (v : Res → Val) (rs : List Rt) : stOk v rs [] = true := rfl
theorem w_stOk_1 (v : Res → Val) (rs : List Rt) (r : Rt) (k : Nat) (st : Stamps) : stOk v rs ((r, k) :: st) = (rs.contains r && (wk (v (.v r)) fun | .v j => j == k | _ => false) && stOk v rs st) := rfl
theorem w_ver (v : Res → Val) (r : Rt) : ver v r = (wk (v (.v r)) fun | .v k => k | _ => 0) := rfl
theorem w_nameOf (v : Res → Val) (m : Nat) (rs : List Rt) (q : Nat) : nameOf v m rs q = (m == q || (wk (v (.t m)) fun | .t st (.ali (.t q') [] _) => decide (q' = q) && stOk v rs st | _ => false)) := rfl
theorem w_mapAt (v : Res → Val) (m : Nat) (rs : List Rt) (q : Nat) : mapAt v m rs q = (if nameOf v m rs q = true then
    wk (v (.t q)) fun
    | .t [] (.mp es) => some es
    | _ => none
  else none) := rfl
theorem w_steal (v : Res → Val) (n : Nat) (rs : List Rt) (k : Nat) : steal v n rs k = (wk (v (.t n)) fun
  | .t st (.ali (.b k') path off) => if k' = k ∧ stOk v rs st = true then ob (content v (.b k)) fun cs => ob (cellsAt cs path off) fun
      | .sl .own e rows :: _ => ob (setAt cs path off [.gone]) fun cs' => some (putC v (.b k) cs' ++ putT v n [] (.pl false [.sl .own e rows]))
      | _ => none
    else none
  | _ => none) := rfl
theorem w_argsOf_0 (v : Res → Val)  : argsOf v ([]) = (some ([], [], [])) := rfl
theorem w_argsOf_1 (v : Res → Val) (x : Opr) (as : List Arg) : argsOf v (.v x :: as) = (ob (opr v x) fun
    | ([], .pl a cs, ws) => ob (argsOf v as) fun (ps, ws', bs) => some (.val a cs :: ps, ws ++ ws', bs)
    | _ => none) := rfl
theorem w_argsOf_2 (v : Res → Val) (n : Nat) (rs : List Rt) (r : Option Rt) (as : List Arg) : argsOf v (.lend n rs r :: as) = ((wk (v (.t n)) fun
    | .t st (.pl a cs) => if stOk v rs st then ob (argsOf v as) fun (ps, ws, bs) => some (.val a (if st.isEmpty && noOwnL cs then cs else brwL cs) :: ps, ws, bs) else none
    | .t st (.ali q path off) => if stOk v rs st && r == some q then
        ob (content v q) fun cs => ob (cellsAt cs path off) fun
          | c :: _ => ob (argsOf v as) fun (ps, ws, bs) => some (.val false [c.brw] :: ps, ws, bs)
          | _ => none
      else none
    | .t st (.ptr q path off) => if stOk v rs st && r == some q then
        ob (content v q) fun cs => ob (cellsAt cs path off) fun xs => ob (argsOf v as) fun (ps, ws, bs) => some (.vw (brwL xs) :: ps, ws, bs)
      else none
    | .t st (.view cs) => if stOk v rs st then ob (argsOf v as) fun (ps, ws, bs) => some (.vw (brwL cs) :: ps, ws, bs) else none
    | .t st (.fn f caps) => if stOk v rs st then ob (argsOf v as) fun (ps, ws, bs) => some (.fn f caps :: ps, ws, bs) else none
    | _ => none)) := rfl
theorem w_argsOf_3 (v : Res → Val) (n r : Nat) (as : List Arg) : argsOf v (.bx n r :: as) = ((wk (v (.t n)) fun y1 => wk (v (.b r)) fun y2 => match y1, y2 with
    | .t [] (.ptr q [] 0), .b cs => if q = .b r then ob (argsOf v as) fun (ps, ws, bs) => if bs.contains r then none else some (.box cs :: ps, ws, r :: bs) else none
    | _, _ => none)) := rfl
theorem w_putR_0 (v : Res → Val) (d : Nat) (cells : List AC) : putR v d true (.pl false [.ref .own cells]) = (wk (v (.b d)) fun
      | .nope => some (putT v d [] (.ptr (.b d) [] 0) ++ [(.b d, .b cells)])
      | _ => none) := rfl
theorem w_putR_1 (v : Res → Val) (d : Nat) (a : Bool) (cs : List AC) : putR v d false (.pl a cs) = some (putT v d [] (.pl a cs)) := rfl
theorem w_putR_2 (v : Res → Val) (d : Nat) (vs : List (Bool × List AC)) : putR v d false (.tup vs) = some (putT v d [] (.tup vs)) := rfl
theorem w_cellsAt_0 (cs : List AC) (off : Nat) : cellsAt cs [] off = some (cs.drop off) := by cases cs <;> rfl
theorem w_cellsAt_1 (cs : List AC) (k i e : Nat) (p : Path) (off : Nat) : cellsAt cs ((k, i, e) :: p) off = (wo cs[k]? fun
    | some (.sl .own e' rows) => if e' = e then (wo rows[i]? fun | some r => cellsAt r p off | none => none) else none
    | _ => none) := by cases cs <;> rfl
theorem w_setAt_0 (cs : List AC) (off : Nat) (new : List AC) : setAt cs [] off new = (if off + new.length ≤ cs.length then some (cs.take off ++ (new ++ cs.drop (off + new.length))) else none) := by cases cs <;> rfl
theorem w_setAt_1 (cs : List AC) (k i e : Nat) (p : Path) (off : Nat) (new : List AC) : setAt cs ((k, i, e) :: p) off new = (wo cs[k]? fun
    | some (.sl .own e' rows) =>
      if e' = e then (wo rows[i]? fun
        | some r => (wo (setAt r p off new) fun | some r' => some (cs.set k (.sl .own e (rows.set i r'))) | none => none)
        | none => none) else none
    | _ => none) := by cases cs <;> rfl
theorem w_ioPlace (v : Res → Val) (n : Nat) (rs : List Rt) (r : Option Rt) : ioPlace v n rs r = (wk (v (.t n)) fun
  | .t [] (.pl false [_]) => if r.isNone then some (.t n, [], 0) else none
  | .t st (.ali q path off) => if stOk v rs st && r == some q then some (q, path, off) else none
  | _ => none) := rfl
attribute [go_sem] w_fop_ldm w_named w_fop_mova w_fop_mkrowa w_fop_storea w_fop_mov w_fop_alias w_fop_pick w_fop_alloc w_fop_box w_fop_build w_fop_mkrow w_fop_load w_fop_store w_fop_nilc w_fop_fad w_fop_fld w_fop_iad w_fop_idx w_fop_len w_fop_slen w_fop_bin w_fop_sbin w_fop_ceq w_fop_not w_fop_neg w_fop_make w_fop_slice w_fop_ssub w_fop_app w_fop_appa w_fop_mm w_fop_ext w_fop_call w_fop_mkmap w_fop_ieq w_fop_mlook w_fop_mset w_fop_toStr w_opr_0 w_opr_1 w_opr_2 w_opr_3 w_content_0 w_content_1 w_rdSl_0 w_rdSl_1 w_rdSl_2 w_takeSl_0 w_takeSl_1 w_takeSl_2 w_stOk_0 w_stOk_1 w_ver w_nameOf w_mapAt w_steal w_argsOf_0 w_argsOf_1 w_argsOf_2 w_argsOf_3 w_putR_0 w_putR_1 w_putR_2 w_ioPlace w_cellsAt_0 w_cellsAt_1 w_setAt_0 w_setAt_1
attribute [go_sem] oprL dropT dropL sca putC bytesOf fillP oprs rowsOf intOp eqc eqcs fitsL FK.fits optI extsBack appW
theorem copyRows_sh (st : Stamps) (more : List (List AC)) : copyRows .sh st more = some more := by unfold copyRows; split <;> rfl
theorem copyRows_own (st : Stamps) (more : List (List AC)) : copyRows .own st more = if flatLL more then some more else if st.isEmpty && noOwnLL more then some more else none := rfl
theorem copyRows_bor0 (st : Stamps) (more : List (List AC)) : copyRows .bor st more = if flatLL more then some more else if st.isEmpty then some (brwLL more) else none := rfl
theorem flatLL_nil : flatLL [] = true := rfl
theorem flatLL_cons (r : List AC) (rs : List (List AC)) : flatLL (r :: rs) = (r.all AC.flat && flatLL rs) := rfl
theorem flatLL_append (rs qs : List (List AC)) : flatLL (rs ++ qs) = (flatLL rs && flatLL qs) := by simp [flatLL]
theorem flatLL_take (n : Nat) (rs : List (List AC)) (h : flatLL rs = true) : flatLL (rs.take n) = true := List.all_eq_true.2 fun r hr => List.all_eq_true.1 h r (List.mem_of_mem_take hr)
theorem flatLL_drop (n : Nat) (rs : List (List AC)) (h : flatLL rs = true) : flatLL (rs.drop n) = true := List.all_eq_true.2 fun r hr => List.all_eq_true.1 h r (List.mem_of_mem_drop hr)
theorem appl_puts (ts bs : List (Nat × Val)) (vs : List (Rt × Nat)) (ws : List (Res × Val)) : appl (ASt.val ⟨ts, bs, vs⟩) ws = (ASt.puts ⟨ts, bs, vs⟩ ws).val := (val_puts ws _).symm
attribute [go_sem] copyRows_sh copyRows_own copyRows_bor0 flatLL_nil flatLL_cons flatLL_append flatLL_take flatLL_drop Rt.t.injEq Rt.b.injEq
attribute [go_sem ↓] appl_puts
attribute [go_sem] fzFlag TV.noOwn AC.noOwn AC.flat noOwnL noOwnLL mget mput
theorem toNat_lit (n : Nat) : (no_index (@OfNat.ofNat Int n instOfNat)).toNat = @OfNat.ofNat Nat n (instOfNatNat n) := rfl
attribute [go_sem] putN nameFits toNat_lit isInt1 isRow1 frzaOk List.set_cons_zero List.set_cons_succ List.length_replicate or_self or_false false_or List.isEmpty_cons Bool.not_false Bool.not_true ne_eq not_false_eq_true decide_true Option.isSome_some Option.isSome_none
attribute [go_sem] gh zeroSt stays keepT keepB rootsIn isNope
attribute [go_sem] resB resIn ndp finB outsOf outOf extsB liveB outTV clnL AC.cln clnLL frzL AC.frz frzLL brwL AC.brw brwLL
attribute [go_sem] Option.isNone_none Option.isNone_some List.isEmpty_nil
attribute [go_sem] entry entryT entryB boxesOf iosOf backsOf
end Go.Fw
namespace Go.Fw
open Go

abbrev Str := List UInt8
def w64 (x : Int) : Int := IntKind.wrap .i64 x
theorem wrap_w64 (x : Int) : IntKind.wrap .i64 x = w64 x := rfl
attribute [go_sem] wrap_w64
theorem w64_id {x : Int} (h0 : -9223372036854775808 ≤ x) (h1 : x < 9223372036854775808) : w64 x = x := IntWalk.i64_in x (by omega)

def rdx {α : Type} (xs : List α) (i : Int) : Option α := if 0 ≤ i then xs[i.toNat]? else none
def sub {α : Type} (xs : List α) (l h : Int) : List α := (xs.drop l.toNat).take (h.toNat - l.toNat)
def apOk {α β : Type} (by_ : Nat) (xs : List α) (ys : List β) : Prop := (xs.length + ys.length) * by_ ≤ 140737488355328 ∧ xs.length + ys.length ≤ 9223372036854775807
instance {α β : Type} (by_ : Nat) (xs : List α) (ys : List β) : Decidable (apOk by_ xs ys) := by unfold apOk; infer_instance

theorem bnd {α β : Type} {x : Option α} {f : α → Option β} {r : β} (h : x.bind f = some r) : ∃ a, x = some a ∧ f a = some r := by
  cases x with
  | none => simp at h
  | some a => exact ⟨a, rfl, h⟩
theorem ifB {α : Type} {b : Bool} {x y : Option α} {r : α} (h : (if b = true then x else y) = some r) : (b = true ∧ x = some r) ∨ (b = false ∧ y = some r) := by
  cases b
  · exact .inr ⟨rfl, by simpa using h⟩
  · exact .inl ⟨rfl, by simpa using h⟩
theorem ifP {α : Type} {p : Prop} [Decidable p] {x : Option α} {r : α} (h : (if p then x else none) = some r) : p ∧ x = some r := by
  by_cases hp : p
  · exact ⟨hp, by simpa [hp] using h⟩
  · simp [hp] at h
theorem rdp {α : Type} {xs : List α} {i : Int} {v : α} (h : rdx xs i = some v) : 0 ≤ i := by
  unfold rdx at h
  split at h
  · assumption
  · simp at h
theorem rdb {α : Type} {xs : List α} {i : Int} {v : α} (h : rdx xs i = some v) : decide (0 ≤ i) = true := decide_eq_true (rdp h)
theorem rds {α : Type} {xs : List α} {i : Int} {v : α} (h : rdx xs i = some v) : xs[i.toNat]? = some v := by
  unfold rdx at h
  rwa [if_pos (rdp h)] at h
theorem rdm {α : Type} {xs : List α} {i : Int} {v : α} (e : α → List AC) (h : rdx xs i = some v) : (xs.map e)[i.toNat]? = some (e v) := by
  rw [List.getElem?_map, rds h]
  rfl
theorem apL {α β : Type} {by_ : Nat} {xs : List α} {ys : List β} (h : apOk by_ xs ys) : (xs.length + ys.length) * by_ ≤ 140737488355328 ∧ xs.length + ys.length ≤ 9223372036854775807 := h

def eI (n : Int) : List AC := [.int .i64 n]
def eU8 (n : Int) : List AC := [.int .u8 n]
def eB (b : Bool) : List AC := [.bool b]
def eS (s : Str) : List AC := [.str s]
attribute [go_sem] eI eU8 eB eS
attribute [go_sem] List.nil_append List.cons_append List.append_nil List.isEmpty_nil List.isEmpty_cons List.contains_nil List.contains_cons List.take_succ_cons List.take_zero List.drop_succ_cons List.drop_zero List.all_nil List.all_cons List.replicate_succ List.replicate_zero List.flatten_cons List.flatten_nil
attribute [go_sem] List.map_cons List.map_nil List.map_append List.length_map List.length_cons List.length_nil List.length_append List.map_take List.map_drop sub
attribute [go_sem] ne_eq not_true_eq_false not_false_eq_true eq_self beq_self_eq_true Bool.or_false Bool.or_true Bool.false_or Bool.true_or Option.some.injEq
attribute [go_sem] decide_true decide_false true_and and_true false_and and_false Bool.true_and Bool.and_true Bool.false_and Bool.and_false Bool.not_true Bool.not_false if_true if_false ite_true ite_false reduceCtorEq

theorem Option.some_inj' {α : Type} {a b : α} (h : some a = some b) : a = b := Option.some.inj h
/-- A row of bytes as a text. -/
def tos (xs : List Int) : Option Str := bytesOf (xs.map eU8)
theorem tosm {xs : List Int} {s : Str} (h : tos xs = some s) : bytesOf (xs.map eU8) = some s := h
end Go.Fw
namespace Go.Fw
open Go

theorem go_sub {Γ Γ' : Gam} (hs : Sub Γ Γ') : ∀ {n : Nat} {c : Ctl} {K : List Fr} {σ : ASt} {r : Ex × ASt}, go Γ n c K σ = some r → go Γ' n c K σ = some r
  | 0, c, K, σ, r, h => by simp [go] at h
  | n + 1, c, K, σ, r, h => by
    cases c with
    | d e =>
      cases K with
      | nil => simpa [go] using h
      | cons f K =>
        cases f <;> cases e <;> simp only [go] at h ⊢ <;> first | exact go_sub hs h | (split at h <;> rename_i hj <;> first | (rw [if_pos hj]; exact go_sub hs h) | (rw [if_neg hj]; exact go_sub hs h))
    | c x =>
      cases x <;> simp only [go] at h ⊢
      case cond =>
        split at h
        · exact go_sub hs h
        · exact go_sub hs h
        · simp at h
      case region =>
        obtain ⟨σ', h1, h2⟩ := ob_some h
        rw [evR_mono hs h1]
        exact go_sub hs h2
      case gh =>
        obtain ⟨σ', h1, h2⟩ := ob_some h
        rw [h1]
        exact go_sub hs h2
      all_goals exact go_sub hs h
theorem Lim_sub (T : Tab) (m : Nat) : Sub (callN T m) (Lim T) := fun _ _ _ h => Lim_iff.2 ⟨m, h⟩

/-- A run from a place in the code to the function's end, for the kernel to do. -/
def runB (Γ : Gam) (m : Nat) (c : Ir) (σ : ASt) (R : List RS) (bx : List Res) : Option AOut := match go Γ m (.c c) [] σ with
  | some (.norm, s) => finB s R bx
  | some (.ret, s) => finB s R bx
  | _ => none
theorem runB_done {T : Tab} {k m : Nat} {c : Ir} {σ : ASt} {R : List RS} {bx : List Res} {o : AOut} (h : runB (callN T k) m c σ R bx = some o) : Done (Lim T) R bx (.c c) [] σ o := by
  unfold runB at h
  split at h
  · rename_i s hs; exact ⟨m, .norm, s, go_sub (Lim_sub T k) hs, .inl rfl, h⟩
  · rename_i s hs; exact ⟨m, .ret, s, go_sub (Lim_sub T k) hs, .inr rfl, h⟩
  · simp at h
/-- A run says nothing but yes. -/
def isT (x : Option AOut) : Bool := match x with
  | some ⟨.pl false [.bool true], []⟩ => true
  | _ => false
theorem isT_eq {x : Option AOut} (h : isT x = true) : x = some ⟨.pl false [.bool true], []⟩ := by
  unfold isT at h
  split at h
  · rfl
  · simp at h
def eBo (b : Bool) : AOut := ⟨.pl false [.bool b], []⟩
theorem eBo_inj : ∀ a b, eBo a = eBo b → a = b := by
  intro a b h
  simpa [eBo] using h
end Go.Fw
