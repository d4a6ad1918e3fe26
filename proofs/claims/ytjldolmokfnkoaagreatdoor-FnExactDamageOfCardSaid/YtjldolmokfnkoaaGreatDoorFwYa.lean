/- The framework, part Ya: strconv.Itoa and strconv.Atoi as functions on plain data, by the shelf's contracts. Conditions: what the contracts ask of the library's variables. The framework, part Yc: more words on plain data: rows of simple cells, results of calls into the library. The framework, part Yd: what a row's data say of memory: rows that are read. The framework, part Ye: short words for operations and states. Conditions: none. -/
import Derived.Test.YtjldolmokfnkoaaGreatDoorFwZd
import Derived.Shelf.Strconv.AtoiAll
import Derived.Shelf.Strconv.Itoa3
import Derived.ChangeArms
namespace Go.Fw
open Go Go.RowKit

/-- A call that owns nothing, turns nothing that was there and hands back plain cells. -/
theorem callOut_plain {w w' : World} {C : Nat → Prop} {ps : List PA} {us : List Value} {out : AOut} {u : Value} (hb : Below w.heap.size w w') (hbox : BoxRel w' (AXs w' C (fun x => (fun _ => 0 : Foot) x + tot [] x)) ps us out.exts [])
    (ho : OutOk w' (AXs w' C (fun x => (fun _ => 0 : Foot) x + tot [] x)) u (fun _ => 0) out.tv) (φ : Foot) : CallOut w C ps us φ out u w' :=
  ⟨fun _ => 0, [], fun _ => by simp [tot], fun x hx => by simp [tot] at hx, ho, hbox, hb.os, hb.tape, hb.output, hb.size, fun x hx _ => hb.block x hx⟩

theorem arg_int {w : World} {Xs Xb : Nat → Prop} {k : IntKind} {n : Int} {u : Value} {f : Foot} (h : ArgOk w Xs Xb u f (.val false [.int k n])) : u = .int k n := by
  obtain ⟨vals, h1, h2⟩ := h
  cases h1 with
  | sc hs t => cases t; simp at h2; subst h2; exact hs
theorem arg_str {w : World} {Xs Xb : Nat → Prop} {s : List UInt8} {u : Value} {f : Foot} (h : ArgOk w Xs Xb u f (.val false [.str s])) : u = .string ⟨s.toArray⟩ := by
  obtain ⟨vals, h1, h2⟩ := h
  cases h1 with
  | sc hs t => cases t; simp at h2; subst h2; exact hs

def extItoa : List PA → Option AOut
  | [.val false [.int .i64 n]] => if -9223372036854775808 ≤ n ∧ n ≤ 9223372036854775807 then some ⟨.pl false [.str (Lib.itoa n)], []⟩ else none
  | _ => none
def extAtoi : List PA → Option AOut
  | [.val false [.str s]] => if s.length ≤ 281474976710656 then match Lib.atoiAll s with
      | .ok v => some ⟨.tup [(false, [.int .i64 v]), (false, [.err true])], []⟩
      | .range => some ⟨.tup [(false, [.int .i64 (Lib.atoiSat s)]), (false, [.err false])], []⟩
      | _ => some ⟨.tup [(false, [.int .i64 0]), (false, [.err false])], []⟩
    else none
  | _ => none

theorem out_two {w : World} {Xs : Nat → Prop} {c d : AC} {u x : Value} (h : Scal c u) (k : Scal d x) : OutOk w Xs (.tuple #[u, x]) (fun _ => 0) (.tup [(false, [c]), (false, [d])]) := by
  have h1 : RepPl w Xs (fun _ => False) false [c] u (fun _ => 0) := ⟨[u], .sc h .nil, rfl⟩
  have h2 : RepPl w Xs (fun _ => False) false [d] x (fun _ => 0) := ⟨[x], .sc k .nil, rfl⟩
  exact ⟨[u, x], rfl, .cons h1 (.cons h2 .nil)⟩

theorem itoa_sat {P : Program} {ρ : Go.Shelf.Ren} (L : Go.Proofs.LaysM.n171 P ρ) {I : Kpt} (hI : ∀ w φ, I.ok w φ → Lib.TabIs P w "internal/strconv.uint64pow10" .u64 Lib.pow10Tab) : SatF P I (ρ.f 171) extItoa := by
  intro ps out h w C us φ hin hk
  unfold extItoa at h
  split at h <;> try (simp at h; done)
  split at h <;> simp only [Option.some.injEq, reduceCtorEq] at h
  rename_i n hn
  subst h
  cases hin.args with
  | cons h1 t =>
    cases t
    have := arg_int h1
    subst this
    refine (Go.Proofs.Any.strconv_Itoa L n hn.1 hn.2 w (hI w _ hk)).mono fun e w' hh => ?_
    obtain ⟨rfl, k, os, rfl⟩ := hh
    show CallOut w C _ _ _ _ _ _
    refine callOut_plain ?_ (.other (by simp) .nil) ?_ _
    rotate_left
    · exact ⟨_, .sc rfl .nil, rfl⟩
    refine ⟨rfl, rfl, rfl, by simp [Sort.grow, World.drewN], fun j hj => ?_⟩
    simp only [Sort.grow, World.drewN]
    rw [Array.getElem?_append_left hj]

theorem atoi_sat {P : Program} {ρ : Go.Shelf.Ren} (L : Go.Proofs.LaysC.n172 P ρ) {I : Kpt}
    (hI : ∀ w φ, I.ok w φ → (∃ ev, w.cell? ⟨ρ.g 15, 0, none⟩ = some ev ∧ (ev = .nilIface ∨ ∃ te pe, ev = .iface te pe)) ∧ (∃ ev, w.cell? ⟨ρ.g 16, 0, none⟩ = some ev ∧ (ev = .nilIface ∨ ∃ te pe, ev = .iface te pe))) :
    SatF P I (ρ.f 172) extAtoi := by
  intro ps out h w C us φ hin hk
  obtain ⟨⟨ev1, h11, h12⟩, ev2, h21, h22⟩ := hI w φ hk
  unfold extAtoi at h
  split at h <;> try (simp at h; done)
  split at h <;> try (simp at h; done)
  rename_i s hn
  cases hin.args with
  | cons h1 t =>
    cases t
    have := arg_str h1
    subst this
    have hs : (⟨s.toArray⟩ : ByteArray).size = s.length := by simp [ByteArray.size]
    cases hv : Lib.atoiAll s with
    | ok v =>
      simp only [hv, Option.some.injEq] at h
      subst h
      refine (Go.Proofs.Any.strconv_Atoi_ok L ⟨s.toArray⟩ (by omega) v hv w).mono fun e w' hh => ?_
      obtain ⟨rfl, hw⟩ := hh
      have hb : Below w.heap.size w w' := by
        rcases hw with rfl | ⟨t, rfl⟩
        · exact Below.refl _ _
        · exact Lib.bytesWorld_below w _ _
      show CallOut w C _ _ _ _ _ _
      refine callOut_plain hb (.other (by simp) .nil) ?_ _
      exact out_two rfl rfl
    | range =>
      simp only [hv, Option.some.injEq] at h
      subst h
      refine (Go.Proofs.Any.strconv_Atoi_range L ⟨s.toArray⟩ (by omega) hv ev2 w h21 h22).mono fun e w' hh => ?_
      obtain ⟨N, rfl, _, _, hb⟩ := hh
      show CallOut w C _ _ _ _ _ _
      refine callOut_plain hb (.other (by simp) .nil) ?_ _
      exact out_two rfl ⟨_, _, rfl⟩
    | _ =>
      simp only [hv, Option.some.injEq] at h
      subst h
      refine (Go.Proofs.Any.strconv_Atoi_syntax L ⟨s.toArray⟩ (by omega) hv ev1 w h11 h12).mono fun e w' hh => ?_
      obtain ⟨N, rfl, _, _, hb⟩ := hh
      show CallOut w C _ _ _ _ _ _
      refine callOut_plain hb (.other (by simp) .nil) ?_ _
      exact out_two rfl ⟨_, _, rfl⟩
end Go.Fw
namespace Go.Fw
open Go

theorem mapInj {α : Type} {e : α → List AC} (he : ∀ a b, e a = e b → a = b) {xs ys : List α} (h : xs.map e = ys.map e) : xs = ys := (List.map_inj_right (fun a b => he a b)).1 h
theorem eI_inj : ∀ a b, eI a = eI b → a = b := by intro a b h; simpa [eI] using h
theorem eU8_inj : ∀ a b, eU8 a = eU8 b → a = b := by intro a b h; simpa [eU8] using h
theorem eB_inj : ∀ a b, eB a = eB b → a = b := by intro a b h; simpa [eB] using h
theorem eS_inj : ∀ a b, eS a = eS b → a = b := by intro a b h; simpa [eS] using h
theorem copyRows_bor {more : List (List AC)} (h : brwLL more = more) : copyRows .bor [] more = some more := by unfold copyRows; split <;> simp [h]
theorem meI_frz (xs : List Int) : frzLL (xs.map eI) = xs.map eI := by rw [frzLL_map, List.map_map]; rfl
theorem meI_brw (xs : List Int) : brwLL (xs.map eI) = xs.map eI := by rw [brwLL_map, List.map_map]; rfl
theorem meI_cln (xs : List Int) : clnLL (xs.map eI) = true := by rw [clnLL_all, List.all_map]; exact List.all_eq_true.2 fun x _ => rfl
theorem meI_flat (xs : List Int) : flatLL (xs.map eI) = true := by rw [flatLL, List.all_map]; exact List.all_eq_true.2 fun x _ => rfl
theorem meU8_frz (xs : List Int) : frzLL (xs.map eU8) = xs.map eU8 := by rw [frzLL_map, List.map_map]; rfl
theorem meU8_brw (xs : List Int) : brwLL (xs.map eU8) = xs.map eU8 := by rw [brwLL_map, List.map_map]; rfl
theorem meU8_cln (xs : List Int) : clnLL (xs.map eU8) = true := by rw [clnLL_all, List.all_map]; exact List.all_eq_true.2 fun x _ => rfl
theorem meU8_flat (xs : List Int) : flatLL (xs.map eU8) = true := by rw [flatLL, List.all_map]; exact List.all_eq_true.2 fun x _ => rfl
theorem meB_frz (xs : List Bool) : frzLL (xs.map eB) = xs.map eB := by rw [frzLL_map, List.map_map]; rfl
theorem meB_brw (xs : List Bool) : brwLL (xs.map eB) = xs.map eB := by rw [brwLL_map, List.map_map]; rfl
theorem meB_cln (xs : List Bool) : clnLL (xs.map eB) = true := by rw [clnLL_all, List.all_map]; exact List.all_eq_true.2 fun x _ => rfl
theorem meB_flat (xs : List Bool) : flatLL (xs.map eB) = true := by rw [flatLL, List.all_map]; exact List.all_eq_true.2 fun x _ => rfl
theorem meS_frz (xs : List Str) : frzLL (xs.map eS) = xs.map eS := by rw [frzLL_map, List.map_map]; rfl
theorem meS_brw (xs : List Str) : brwLL (xs.map eS) = xs.map eS := by rw [brwLL_map, List.map_map]; rfl
theorem meS_cln (xs : List Str) : clnLL (xs.map eS) = true := by rw [clnLL_all, List.all_map]; exact List.all_eq_true.2 fun x _ => rfl
theorem meS_flat (xs : List Str) : flatLL (xs.map eS) = true := by rw [flatLL, List.all_map]; exact List.all_eq_true.2 fun x _ => rfl
attribute [go_sem] meI_frz meI_brw meI_cln meI_flat meU8_frz meU8_brw meU8_cln meU8_flat meB_frz meB_brw meB_cln meB_flat meS_frz meS_brw meS_cln meS_flat

theorem castLit (n : Nat) : ((no_index (OfNat.ofNat n) : Nat) : Int) = OfNat.ofNat n := rfl
attribute [go_sem] castLit
theorem toNat0 : Int.toNat 0 = 0 := rfl
theorem clnLL_append (a b : List (List AC)) : clnLL (a ++ b) = (clnLL a && clnLL b) := by simp [clnLL_all]
theorem frzLL_append (a b : List (List AC)) : frzLL (a ++ b) = frzLL a ++ frzLL b := by simp [frzLL_map]
theorem brwLL_append (a b : List (List AC)) : brwLL (a ++ b) = brwLL a ++ brwLL b := by simp [brwLL_map]
theorem frzLL_set (a : List (List AC)) (i : Nat) (r : List AC) : frzLL (a.set i r) = (frzLL a).set i (frzL r) := by simp [frzLL_map, List.map_set]
theorem brwLL_set (a : List (List AC)) (i : Nat) (r : List AC) : brwLL (a.set i r) = (brwLL a).set i (brwL r) := by simp [brwLL_map, List.map_set]
theorem clnLL_set {a : List (List AC)} {i : Nat} {r : List AC} (h : clnLL a = true) (k : clnL r = true) : clnLL (a.set i r) = true := by
  rw [clnLL_all] at h ⊢
  refine List.all_eq_true.2 fun x hx => ?_
  rcases List.mem_or_eq_of_mem_set hx with hx | rfl
  · exact List.all_eq_true.1 h x hx
  · exact k
theorem clnLL_take {a : List (List AC)} {n : Nat} (h : clnLL a = true) : clnLL (a.take n) = true := by
  rw [clnLL_all] at h ⊢
  exact List.all_eq_true.2 fun x hx => List.all_eq_true.1 h x (List.mem_of_mem_take hx)
theorem clnLL_drop {a : List (List AC)} {n : Nat} (h : clnLL a = true) : clnLL (a.drop n) = true := by
  rw [clnLL_all] at h ⊢
  exact List.all_eq_true.2 fun x hx => List.all_eq_true.1 h x (List.mem_of_mem_drop hx)
theorem frzLL_take (a : List (List AC)) (n : Nat) : frzLL (a.take n) = (frzLL a).take n := by simp [frzLL_map]
theorem frzLL_drop (a : List (List AC)) (n : Nat) : frzLL (a.drop n) = (frzLL a).drop n := by simp [frzLL_map]
theorem brwLL_take (a : List (List AC)) (n : Nat) : brwLL (a.take n) = (brwLL a).take n := by simp [brwLL_map]
theorem brwLL_drop (a : List (List AC)) (n : Nat) : brwLL (a.drop n) = (brwLL a).drop n := by simp [brwLL_map]
attribute [go_sem] clnLL_append frzLL_append brwLL_append frzLL_set brwLL_set clnLL_set clnLL_take clnLL_drop frzLL_take frzLL_drop brwLL_take brwLL_drop Int.le_refl Int.toNat_natCast
attribute [go_sem] toNat0 Nat.sub_zero List.length_take List.length_drop
attribute [go_sem] List.map_replicate List.map_set List.getElem?_cons_zero List.getElem?_cons_succ List.set_cons_zero List.set_cons_succ

/-- What strconv.Atoi gives back: the number, and whether there is no error. -/
def atoiP (s : List UInt8) : Int × Bool := match Lib.atoiAll s with
  | .ok v => (v, true)
  | .range => (Lib.atoiSat s, false)
  | _ => (0, false)

theorem Fn.ofExt {β : Type} {T : Tab} {Γ : Gam} (hΓ : Γ = Lim T) {f : FuncId} {ps : List PA} {enc : β → AOut} {b : β} (hi : ∀ a b, enc a = enc b → a = b) (hf : T.fi f = none) (h : T.ext f ps = some (enc b)) : Fn Γ f ps enc = some b := by
  subst hΓ
  refine Fn.out hi ?_
  exact Lim_iff.2 ⟨1, by simp only [callN, hf]; exact h⟩
end Go.Fw
namespace Go.Fw
open Go

section
variable {H : Type} {enc : TypeId × Value → H} {P : Program} {w : World} {Xs Xb : Nat → Prop}

theorem cells_some {base n : Nat} {a : Addr} {cs : List Value} (h : w.cells? base a n = some cs) : cs.length = n ∧ ∀ i, i < n → w.cell? (a.add i) = cs[i]? := by
  unfold World.cells? at h
  split at h
  · exact ⟨by simpa using mapM_some_length h, fun i hi => by
      have := mapM_some_get h i i (by simp [hi])
      simpa using this⟩
  · cases h

theorem cell_plain {a : Addr} {v : Value} (h : w.cell? a = some v) : a.spot = none ∧ a.block < w.heap.size := by
  unfold World.cell? at h
  split at h
  · rename_i c e f hc
    refine ⟨?_, (Array.getElem?_eq_some_iff.1 hc).1⟩
    by_cases hs : a.spot.isSome
    · simp [hs] at h
    · simpa using hs
  · cases h

theorem rep_app {cs ds : List AC} {us vs : List Value} (h : RepL w Xs Xb cs us (fun _ => 0)) (k : RepL w Xs Xb ds vs (fun _ => 0)) : RepL w Xs Xb (cs ++ ds) (us ++ vs) (fun _ => 0) :=
  (h.append k).cast fun _ => rfl

/-- A row whose elements read one by one is a row that may be read. -/
theorem read_row {α : Type} {t e : TypeId} {sz fuel : Nat} {cs : List Value} {x : DataW H × List MemPlace} (enc' : α → List AC) (Q : α → Prop) (hX : ∀ b, b < w.heap.size → Xs b)
    (ht : P.underlying t = some (.slice e)) (hc : P.cellsOf e = sz) (h0 : 0 < sz)
    (hel : ∀ n, n < fuel → ∀ (cs : List Value) (y : DataW H × List MemPlace), DataW.trod enc P w 0 (fun _ => true) true n e cs = some y → ∃ a, RepL w Xs Xs (enc' a) cs (fun _ => 0) ∧ Q a ∧ (enc' a).length = sz)
    (h : DataW.trod enc P w 0 (fun _ => true) true fuel t cs = some x) :
    ∃ xs : List α, (∀ a ∈ xs, Q a) ∧ xs.length ≤ 9223372036854775807 ∧ RepL w Xs Xb [.sl .sh sz (xs.map enc')] cs (fun _ => 0) := by
  rcases DataW.trod_slice ht h with ⟨rfl, _⟩ | ⟨a, len, cap, elems, rest, n, rfl, rfl, rfl, _, hl, hm, hlen, hE, hR, _⟩
  · exact ⟨[], by simp, by simp, .sc (Emp.nil _) .nil⟩
  · rw [hc] at hE hR
    by_cases hcap : cap = 0
    · subst hcap
      have : len = 0 := by omega
      subst this
      exact ⟨[], by simp, by simp, .sc (.inr ⟨by decide, a, rfl⟩) .nil⟩
    · -- a cell of the block
      have hat : ∃ v, w.cell? a = some v := by
        have one : ∀ (o : Option (DataW H × List MemPlace)), (w.cells? 0 (a.add (0 * sz)) sz).bind (DataW.trod enc P w 0 (fun _ => true) true n e) = o → o.isSome = true → ∃ v, w.cell? a = some v := by
          intro o ho hs
          rw [Nat.zero_mul] at ho
          cases hcs : w.cells? 0 (a.add 0) sz with
          | none => rw [hcs] at ho; subst ho; simp at hs
          | some c =>
            obtain ⟨k1, k2⟩ := cells_some hcs
            have := k2 0 h0
            have e0 : (a.add 0).add 0 = a := rfl
            rw [e0] at this
            exact ⟨c[0]'(by omega), by rw [this, List.getElem?_eq_getElem (by omega)]⟩
        by_cases hl0 : len = 0
        · subst hl0
          obtain ⟨r1, r2⟩ := hR rfl
          exact one _ (by simpa using r2 0 (by omega)) (by rw [List.getElem?_eq_getElem (by omega)]; rfl)
        · exact one _ (hE 0 (by omega)) (by rw [List.getElem?_eq_getElem (by omega)]; rfl)
      obtain ⟨v0, hv0⟩ := hat
      obtain ⟨hs, hb⟩ := cell_plain hv0
      obtain ⟨b, o, sp⟩ := a
      simp only at hs hb
      subst hs
      -- the elements, from the first on
      have go : ∀ k, k ≤ len → ∃ (xs : List α) (vals : List Value), xs.length = k ∧ vals.length = k * sz ∧ (∀ a ∈ xs, Q a ∧ (enc' a).length = sz) ∧ RepL w Xs Xs (xs.map enc').flatten vals (fun _ => 0) ∧ Cells w b o vals := by
        intro k
        induction k with
        | zero => intro _; exact ⟨[], [], rfl, by simp, by simp, .nil, fun j hj => by simp at hj⟩
        | succ k ih =>
          intro hk
          obtain ⟨xs, vals, g1, g2, g3, g4, g5⟩ := ih (by omega)
          have hEk := hE k (by omega)
          rw [List.getElem?_eq_getElem (by omega)] at hEk
          obtain ⟨c, hc1, hc2⟩ := Option.bind_eq_some_iff.1 hEk
          obtain ⟨k1, k2⟩ := cells_some hc1
          obtain ⟨y, hy1, hy2, hy3⟩ := hel n (by omega) c _ hc2
          refine ⟨xs ++ [y], vals ++ c, by simp [g1], by rw [List.length_append, g2, k1, Nat.succ_mul], ?_, ?_, ?_⟩
          · intro a ha
            rcases List.mem_append.1 ha with h | h
            · exact g3 a h
            · rw [List.mem_singleton] at h; subst h; exact ⟨hy2, hy3⟩
          · rw [List.map_append, List.flatten_append]
            exact rep_app g4 (by simpa using hy1)
          · rw [Cells.app, g2]
            refine ⟨g5, fun j hj => ?_⟩
            have := k2 j (by omega)
            rw [Addr.add_lit, Addr.add_lit] at this
            rw [this, List.getElem?_eq_getElem hj]
      obtain ⟨xs, vals, g1, g2, g3, g4, g5⟩ := go len (Nat.le_refl _)
      refine ⟨xs, fun a ha => (g3 a ha).1, by unfold maxLen at hm; omega, .sh (by simp [g1]) hl h0 ?_ (hX b hb) g5 g4 .nil⟩
      intro r hr
      obtain ⟨a, ha, rfl⟩ := List.mem_map.1 hr
      exact (g3 a ha).2
end
end Go.Fw
namespace Go.Fw
open Go
def T (n : Nat) : Opr := .t n []
def I (n : Int) : Opr := .c (.int .i64 n)
def oM (d s : Nat) : IOp := .mov d (.t s [])
def oL (d p b : Nat) : IOp := .load d p [] (some (.b b)) 1 false .cp
def iv (n : Nat) (x : Int) : Nat × Val := (n, .t [] (.pl false [.int .i64 x]))
def sv (n : Nat) (m : Md) (e : Nat) (rows : List (List AC)) : Nat × Val := (n, .t [] (.pl false [.sl m e rows]))
def pv (n b : Nat) : Nat × Val := (n, .t [] (.ptr (.b b) [] 0))
def reg (xs : List IOp) : Ir := .region (xs.map fun x => ⟨none, x⟩)
def evI (Γ : Gam) (xs : List IOp) (σ : ASt) : Option ASt := evR Γ (xs.map fun x => ⟨none, x⟩) σ
theorem evI_nil (Γ : Gam) (σ : ASt) : evI Γ [] σ = some σ := rfl
theorem evI_cons (Γ : Gam) (x : IOp) (xs : List IOp) (ts bs : List (Nat × Val)) (vs : List (Rt × Nat)) : evI Γ (x :: xs) ⟨ts, bs, vs⟩ = ob (fop Γ (ASt.val ⟨ts, bs, vs⟩) x) fun ws => evI Γ xs (ASt.puts ⟨ts, bs, vs⟩ ws) := rfl
theorem D_reg {Γ : Gam} {R : List RS} {bx : List Res} {xs : List IOp} {K : List Fr} {σ : ASt} {o : AOut} : Done Γ R bx (.c (reg xs)) K σ o = obP (evI Γ xs σ) fun σ' => Done Γ R bx (.d .norm) K σ' o := D_region
attribute [go_sem ↓] evI_nil evI_cons D_reg
attribute [go_sem] T I oM oL iv sv pv
end Go.Fw
