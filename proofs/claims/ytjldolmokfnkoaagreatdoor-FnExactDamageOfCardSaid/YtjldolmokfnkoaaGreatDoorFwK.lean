/- The framework, part K: new rows: made, listed, of a string's bytes; a string of bytes. The framework, part L: append, heads and tails of one's own rows, strings and bytes. Conditions: none. -/
import Derived.Test.YtjldolmokfnkoaaGreatDoorFwI
import Derived.Laws.MakeOwn
import Derived.Laws.IdiomStrings
import Derived.Deep.AppendSrc
import Derived.Laws.BytesArg
namespace Go.Fw
open Go

section
variable {P : Program} {E : Env} {v : Res → Val} {o : Oper} {a : Act} {w : World} {β : Nat → Nat} {φ : Res → Foot}

/-- The element type of a slice type, its size and its bytes. -/
def rowTy (P : Program) (t : TypeId) : Option (TypeId × Nat × Nat) :=
  match P.underlying t with
  | some (.slice el) => match P.info? el with
    | some i => match i.zero with
      | some z => if 0 < i.size ∧ z.cells.size = i.size then some (el, i.size, i.bytes) else none
      | none => none
    | none => none
  | _ => none
theorem rowTy_spec {t el : TypeId} {e by_ : Nat} (h : rowTy P t = some (el, e, by_)) :
    ∃ i z, P.underlying t = some (.slice el) ∧ P.info? el = some i ∧ i.size = e ∧ i.bytes = by_ ∧ i.zero = some z ∧ z.cells.size = e ∧ 0 < e := by
  unfold rowTy at h
  split at h <;> try (simp at h; done)
  rename_i el' hu
  split at h <;> try (simp at h; done)
  rename_i i hi
  split at h <;> try (simp at h; done)
  rename_i z hz
  split at h <;> try (simp at h; done)
  rename_i hc
  simp only [Option.some.injEq, Prod.mk.injEq] at h
  obtain ⟨rfl, rfl, rfl⟩ := h
  exact ⟨i, z, hu, hi, rfl, rfl, hz, hc.2, hc.1⟩

/-- A new row's cells: the first ones are what the slice shows. -/
theorem cells_fresh (w : World) (vals rest : List Value) (t : TypeId) (fr : Nat × Nat) : Cells (w.alloc (.cells (vals ++ rest).toArray t fr)) w.heap.size 0 vals := fun j hj => by
  simp only [World.cell?, World.alloc]
  rw [show (w.heap.push (Obj.cells (vals ++ rest).toArray t fr))[w.heap.size]? = some (Obj.cells (vals ++ rest).toArray t fr) by simp]
  simp [List.getElem?_append_left hj, List.getElem?_eq_getElem hj]
theorem avail_fresh (w : World) (vals : List Value) (t : TypeId) (fr : Nat × Nat) (n : Nat) (hn : n ≤ vals.length) (hf : n ≤ fr.1 ∨ fr.2 = 0) (hz : fzFlag = true ∨ fr.2 = 0) : Avail (w.alloc (.cells vals.toArray t fr)) w.heap.size 0 n := by
  refine ⟨fun j hj => ?_, hz.imp id fun hz k => by simp only [World.frozen?, World.alloc]; simp [hz]⟩
  have hb : (w.heap.push (Obj.cells vals.toArray t fr))[w.heap.size]? = some (Obj.cells vals.toArray t fr) := by simp
  constructor
  · simp only [World.cell?, World.alloc]
    rw [hb]
    simp
    omega
  · simp only [World.frozen?, World.alloc]
    rw [hb]
    obtain ⟨f1, f2⟩ := fr
    simp at *
    omega

/-- A new row is put into a slot. -/
theorem RelW.rowed (h : RelW E v (tmv a) w β φ) (hC : ∀ b, E.C b → b < E.w0.heap.size) {d : Nat} {L : List Nat} (hdL : d ∉ L) {w1 w' : World} (hw1 : Still w w1) {vals rest : List Value} {t : TypeId} {fr : Nat × Nat}
    (hw : w' = w1.alloc (.cells (vals ++ rest).toArray t fr)) {e cap len : Nat} {rows : List (List AC)} {f : Foot} (hf1 : ∀ b, f b ≤ 1) (hsrc : ∀ b, f b ≠ 0 → ∃ n ∈ L, φ (.t n) b ≠ 0)
    (hrep : RepL w (XS E w φ) (XB w φ []) rows.flatten vals f) (hl : rows.length = len) (hc : len ≤ cap ∧ cap ≤ 9223372036854775807) (he : 0 < e) (hr : ∀ r ∈ rows, r.length = e) (hcap : cap * e ≤ (vals ++ rest).length) (hfr : cap * e ≤ fr.1 ∨ fr.2 = 0) (hfz : fzFlag = true ∨ fr.2 = 0)
    {tm' : Nat → Value} (htm : ∀ n, tm' n = if n = d then .slice (some ⟨w.heap.size, 0, none⟩) len cap else tmv a n) :
    ∃ β' φ', RelW E (appl v (putT v d [] (.pl false [.sl .own e rows]) ++ dropL v L)) tm' w' β' φ' := by
  obtain ⟨e1, e2, e3, e4⟩ := hw1
  have hsz : w1.heap.size = w.heap.size := by rw [e1]
  have hp := PutD.of v d [] (.pl false [.sl .own e rows]) L hdL
  have hfs : ∀ b, f b ≠ 0 → b < w.heap.size := fun b hb => by obtain ⟨n, _, h2⟩ := hsrc b hb; exact (h.dom _ b h2).1
  have hsz' : w'.heap.size = w.heap.size + 1 := by rw [hw]; simp [hsz]
  have hold : ∀ b, b < w.heap.size → w'.heap[b]? = w.heap[b]? := fun b hb => by rw [hw, heap_alloc _ _ (by omega), e1]
  let F : Foot := fun x => (if x = w.heap.size then 1 else 0) + f x
  have hF1 : ∀ b, F b ≤ 1 := fun b => by
    show (if b = w.heap.size then 1 else 0) + f b ≤ 1
    have := hf1 b
    by_cases e : b = w.heap.size
    · have : f b = 0 := Classical.byContradiction fun h => by have := hfs b h; omega
      simp [e] at *; omega
    · simp [e]; exact this
  have hs := Stp.slot (w' := w') (tm' := tm') h hC hp F hF1 (fun b hb => by
      have hb' : (if b = w.heap.size then 1 else 0) + f b ≠ 0 := hb
      by_cases e : b = w.heap.size
      · right; omega
      · left; simp [e] at hb'; exact hsrc b hb') (fun n hn => by rw [htm, if_neg hn]) (fun b hb _ => hold b hb) (by rw [hw]; exact e2) (by rw [hw]; exact e3) (by rw [hw]; exact e4) (by omega)
  refine ⟨β, _, h.slot hp hdL hs (by simp) (by intro p hp; simp at hp) (by simp) ?_⟩
  rw [htm, if_pos rfl]
  refine ⟨[_], (RepL.own (b := w.heap.size) (o := 0) hl hc he hr (by omega) ?_ ?_ (hrep.frame hs.size hs.xs (hs.xb (by simp)) (fun b hb => hold b (hfs b hb))) .nil).cast (fun x => by simp [F]), by simp⟩
  · rw [hw, ← hsz]; exact avail_fresh _ _ _ _ _ hcap hfr hfz
  · rw [hw, ← hsz]; exact cells_fresh _ _ _ _ _

/-- Zero cells, again and again. -/
theorem madeCells_eq (z : Array Value) (n : Nat) : (madeCells z (n * z.size)).toList = (List.replicate n z.toList).flatten := by
  apply List.ext_getElem?
  intro j
  simp only [madeCells, Array.toList_map, Array.toList_range, List.getElem?_map]
  induction n generalizing j with
  | zero => simp
  | succ n ih =>
    rw [List.replicate_succ, List.flatten_cons]
    by_cases hj : j < z.size
    · rw [List.getElem?_append_left (by simpa using hj), List.getElem?_range (by rw [Nat.add_mul]; omega)]
      simp [Nat.mod_eq_of_lt hj, hj]
    · rw [List.getElem?_append_right (by simp; omega)]
      have := ih (j - z.size)
      simp only [Array.length_toList]
      rw [← this]
      by_cases hk : j < (n + 1) * z.size
      · rw [List.getElem?_range hk, List.getElem?_range (by rw [Nat.add_mul] at hk; omega)]
        simp only [Option.map_some]
        congr 2
        exact (Nat.mod_eq_sub_mod (by omega))
      · rw [List.getElem?_eq_none (by simp; omega), List.getElem?_eq_none (by rw [Nat.add_mul] at hk; simp; omega)]

theorem RepL.replicate {Xs X : Nat → Prop} {z : List AC} {vs : List Value} (h : RepL w Xs X z vs (fun _ => 0)) : ∀ n, RepL w Xs X (List.replicate n z).flatten (List.replicate n vs).flatten (fun _ => 0)
  | 0 => .nil
  | n + 1 => by
    rw [List.replicate_succ, List.flatten_cons, List.replicate_succ, List.flatten_cons]
    exact (h.append (RepL.replicate h n)).cast (fun _ => rfl)

theorem zeroOk_info {t : TypeId} {cs : List AC} (h : zeroOk P t cs = true) {i : TypeInfo} {z : Value} (hi : P.info? t = some i) (hz : i.zero = some z) (Xs X : Nat → Prop) (w : World) : RepL w Xs X cs z.cells.toList (fun _ => 0) := by
  obtain ⟨z', h1, h2⟩ := zeroOk_spec (P := P) h Xs X w
  have : (zeroValue t).run P w = .ok z w := by simp [zeroValue, typeInfo, hi, hz]
  rw [this] at h1
  simp at h1
  subst h1
  exact h2

theorem make_sound {Γ : Gam} (h : RelW E v (tmv a) w β φ) (hC : ∀ b, E.C b → b < E.w0.heap.size) {d e by_ : Nat} {z : List AC} {n : Opr} {y y' : Operand} {t el : TypeId} (hop : o.op = .makeSlice t y y') (hd : o.dst = some d) (hN : d < a.tmps.size)
    (ht : rowTy P t = some (el, e, by_)) (hz : zeroOk P el z = true) (hny : oprOk n y = true) (hny' : oprOk n y' = true) {ws : List (Res × Val)} (hf : fop Γ v (.make d e z by_ n) = some ws) : OpSound P E (appl v ws) o a w := by
  obtain ⟨c, h1, h2⟩ := ob_some hf
  try dsimp only at h2
  split at h2 <;> try (simp at h2; done)
  rename_i k m
  split at h2 <;> simp only [Option.some.injEq, reduceCtorEq] at h2
  rename_i hb
  subst h2
  obtain ⟨b1, b2, b3⟩ := hb
  have hzv := sca_val h hny h1 rfl
  have hzv' := sca_val h hny' h1 rfl
  simp only [Scal] at hzv hzv'
  obtain ⟨i, zz, t1, t2, t3, t4, t5, t6, t7⟩ := rowTy_spec ht
  have hrep := (zeroOk_info (P := P) hz t2 t5 (XS E w φ) (XB w φ []) w)
  have hzl : z.length = e := by have := hrep.length; simp at this; omega
  have hmc : (madeCells zz.cells (m.toNat * i.size)) = ((List.replicate m.toNat zz.cells.toList).flatten ++ []).toArray := by
    apply Array.ext'
    rw [List.append_nil, t3, ← t6, madeCells_eq]
  intro next Q hn
  refine wp_of next Q hd hN (u := .slice (some ⟨w.heap.size, 0, none⟩) m.toNat m.toNat) (w' := w.alloc (.cells (madeCells zz.cells (m.toNat * i.size)) el)) ?_ ?_ hn
  · simp only [execOp, hop, hzv, hzv']
    simp [run_make (P := P) w t el i zz t1 t2 t5 k k m m b1 (Int.le_refl _) (by rw [t4, Int.mul_comm]; exact b2) b3]
  · intro tm' htm
    obtain ⟨β', φ', hr⟩ := h.rowed hC (L := []) (by simp) (.refl w) (vals := (List.replicate m.toNat zz.cells.toList).flatten) (rest := []) (t := el) (fr := (0, 0)) (w' := w.alloc (.cells (madeCells zz.cells (m.toNat * i.size)) el)) (by rw [hmc])
      (e := e) (cap := m.toNat) (len := m.toNat) (rows := List.replicate m.toNat z) (f := fun _ => 0) (by simp) (by simp) (hrep.replicate _) (by simp) ⟨Nat.le_refl _, by omega⟩ t7 (by intro r hr; rw [List.eq_of_mem_replicate hr]; exact hzl)
      (by have : zz.cells.toList.length = e := by simpa using t6
          simp [this]) (.inr rfl) (.inr rfl) htm
    exact ⟨β', φ', by simpa [dropL] using hr⟩

theorem rowsOf_flatten (e : Nat) : ∀ (n : Nat) (cs : List AC), cs.length = n * e → (rowsOf e n cs).flatten = cs ∧ (rowsOf e n cs).length = n ∧ ∀ r ∈ rowsOf e n cs, r.length = e
  | 0, cs, h => by
    have : cs = [] := List.eq_nil_of_length_eq_zero (by omega)
    subst this
    simp [rowsOf]
  | n + 1, cs, h => by
    rw [Nat.add_mul] at h
    obtain ⟨h1, h2, h3⟩ := rowsOf_flatten e n (cs.drop e) (by rw [List.length_drop]; omega)
    refine ⟨by simp [rowsOf, h1], by simp [rowsOf, h2], fun r hr => ?_⟩
    simp only [rowsOf, List.mem_cons] at hr
    rcases hr with rfl | hr
    · rw [List.length_take]; omega
    · exact h3 r hr

theorem fillP_length : ∀ (ps : List (Nat × List AC)) {z cs : List AC}, fillP z ps = some cs → cs.length = z.length
  | [], z, cs, h => by simp [fillP] at h; rw [h]
  | (o, xs) :: ps, z, cs, h => by
    simp only [fillP] at h
    split at h <;> try (simp at h; done)
    rw [fillP_length ps h]
    simp
    omega

theorem mkrow_sound {Γ : Gam} (h : RelW E v (tmv a) w β φ) (hC : ∀ b, E.C b → b < E.w0.heap.size) {d e n by_ : Nat} {z : List AC} {ps : List (Nat × Nat × Opr)} {qs : Array (Nat × Operand)} {t el : TypeId}
    (hop : o.op = .buildSlice t n qs) (hd : o.dst = some d) (hN : d < a.tmps.size) (ht : rowTy P t = some (el, e, by_)) (hz : zeroOk P el z = true) (hsz : n * e ≤ 16777216)
    (hps : psOk (fun i => some (i * e, e)) ps qs.toList = true)
    (hnd : (oprsL ps).Nodup) (hdL : d ∉ oprsL ps) {ws : List (Res × Val)} (hf : fop Γ v (.mkrow d e z n ps) = some ws) : OpSound P E (appl v ws) o a w := by
  obtain ⟨⟨st, ps', ws1⟩, h1, hf1⟩ := ob_some hf
  try dsimp only at hf1
  split at hf1 <;> try (simp at hf1; done)
  rename_i _ ps2 ws2 he
  simp only [Prod.mk.injEq] at he
  obtain ⟨rfl, rfl, rfl⟩ := he
  obtain ⟨cs, h2, hf2⟩ := ob_some hf1
  simp only [Option.some.injEq] at hf2
  subst hf2
  obtain ⟨rfl, l3, g3, r3, F, F1, F2, F3⟩ := parts_sound h _ hps hnd h1
  obtain ⟨i, zz, t1, t2, t3, t4, t5, t6, t7⟩ := rowTy_spec ht
  have hrep := (zeroOk_info (P := P) hz t2 t5 (XS E w φ) (XB w φ []) w)
  have hzl : z.length = e := by have := hrep.length; simp at this; omega
  obtain ⟨zv', f, k1, k2, k3⟩ := F3 [] (fun _ h => h) (hrep.replicate n) h2
  have hcl : cs.length = n * e := by rw [fillP_length _ h2]; simp [hzl]
  have hvl : zv'.length = n * e := by rw [k2.length, hcl]
  obtain ⟨q1, q2, q3⟩ := rowsOf_flatten e n cs hcl
  have hmc : (madeCells zz.cells (n * e)) = ((List.replicate n zz.cells.toList).flatten).toArray := by
    apply Array.ext'
    rw [← t6, madeCells_eq]
  have hqs : (qs.map fun (i, x) => (i, a.eval x)).toList = qs.toList.map fun x => (x.1, a.eval x.2) := by simp
  intro next Q hn
  refine wp_of next Q hd hN (u := .slice (some ⟨w.heap.size, 0, none⟩) n n) (w' := w.alloc (.cells zv'.toArray el)) ?_ ?_ hn
  · simp only [execOp, hop, Sem.run_bind]
    have hle : ¬ (16777216 < n * i.size) := by rw [t3]; omega
    have hm2 : madeCells zz.cells (n * i.size) = ((List.replicate n zz.cells.toList).flatten).toArray := by rw [t3]; exact hmc
    simp only [madeCells] at hm2
    have hk : Instr.fill (fun j => some (j * i.size, i.size)) (List.replicate n zz.cells.toList).flatten.toArray (qs.map fun (i, x) => (i, a.eval x)).toList = some zv'.toArray := by rw [hqs, t3]; exact k1
    by_cases h0 : n * i.size = 0
    · have : n = 0 := by
        rcases Nat.mul_eq_zero.1 h0 with h | h
        · exact h
        · omega
      subst this
      simp at hk
      have hr0 : Array.range 0 = #[] := rfl
      simp [Instr.buildSlice, run_underlying t1, sizeOf, typeInfo, t2, newRow, hr0, hk]
    · simp [Instr.buildSlice, run_underlying t1, sizeOf, typeInfo, t2, hle, h0, zeroValue, t5, newRow, hm2]
      simp at hk
      simp [hk]
  · intro tm' htm
    obtain ⟨β', φ', hr⟩ := h.rowed hC hdL (.refl w) (vals := zv') (rest := []) (t := el) (fr := (0, 0)) (w' := w.alloc (.cells zv'.toArray el)) (by simp)
      (e := e) (cap := n) (len := n) (rows := rowsOf e n cs) (f := f) (fun b => by have := k3 b; have := F1 b; omega) (fun b hb => F2 b (by have := k3 b; omega)) (by rw [q1]; exact k2) q2 ⟨Nat.le_refl _, by have := Nat.le_mul_of_pos_right n t7; omega⟩ t7 q3
      (by simp [hvl]) (.inr rfl) (.inr rfl) htm
    exact ⟨β', φ', hr⟩
end
end Go.Fw
namespace Go.Fw
open Go

section
variable {P : Program} {E : Env} {v : Res → Val} {o : Oper} {a : Act} {w : World} {β : Nat → Nat} {φ : Res → Foot}

/-- A row that is used up: nothing, or a block of its own with its cells. -/
theorem takeSl_sound (h : RelW E v (tmv a) w β φ) {e : Nat} {x : Opr} {y : Operand} (hxy : oprOk x y = true) {rows : List (List AC)} (hx : takeSl v e x = some rows) :
    (rows = [] ∧ a.eval y = .slice none 0 0) ∨
    ∃ n b o len cap vals ψ, n ∈ oprL x ∧ a.eval y = .slice (some ⟨b, o, none⟩) len cap ∧ rows.length = len ∧ (len ≤ cap ∧ cap ≤ 9223372036854775807) ∧ 0 < e ∧ (∀ r ∈ rows, r.length = e) ∧ b < w.heap.size ∧ Avail w b o (cap * e) ∧ Cells w b o vals ∧
      RepL w (XS E w φ) (XB w φ []) rows.flatten vals ψ ∧ ∀ z, (if z = b then 1 else 0) + ψ z ≤ φ (.t n) z := by
  cases x with
  | t n rs => simp [takeSl] at hx
  | c c =>
    cases y <;> simp [oprOk] at hxy
    have hcs : ∃ m' e', c = .sl m' e' [] ∧ rows = [] := by
      cases c with
      | sl m' e' rws =>
        cases rws with
        | nil => simp [takeSl] at hx; exact ⟨_, _, rfl, hx⟩
        | cons => simp [takeSl] at hx
      | _ => simp [takeSl] at hx
    obtain ⟨m', e', rfl, rfl⟩ := hcs
    have : ∀ {u : Value}, constOk (.sl m' e' []) u = true → u = .slice none 0 0 := fun {u} hu => by
      unfold constOk at hu
      split at hu <;> simp_all
    exact .inl ⟨rfl, this hxy⟩
  | m n =>
    cases y <;> simp [oprOk] at hxy
    subst hxy
    simp only [takeSl] at hx
    split at hx <;> try (simp at hx; done)
    rename_i e' rows' hv
    split at hx <;> simp at hx
    rename_i he
    subst he hx
    obtain ⟨vals, g1, g2⟩ := h.ent n _ _ hv (by intro p hp; simp at hp)
    simp only [Bool.false_eq_true, if_false] at g2
    subst g2
    generalize hu : tmv a n = u at g1
    have hu' : a.eval (.tmp n) = u := hu
    generalize hf : φ (.t n) = f at g1
    cases g1 with
    | sc hs => cases rows' <;> simp [Scal] at hs; exact .inl ⟨rfl, hu'.trans hs⟩
    | @own _ _ _ b o len cap rows vals φ1 cs vs ψ hl hc he hr hb ha hv h t =>
      cases t
      exact .inr ⟨n, b, o, _, _, vals, φ1, by simp [oprL], hu', hl, hc, he, hr, hb, ha, hv, h, fun z => by simp [hf]⟩
  | p n rs q =>
    cases y <;> simp [oprOk] at hxy
    subst hxy
    simp only [takeSl] at hx
    split at hx <;> try (simp at hx; done)
    rename_i st q' k hv
    split at hx <;> try (simp at hx; done)
    rename_i hc0
    obtain ⟨rfl, hst⟩ := hc0
    split at hx <;> try (simp at hx; done)
    rename_i e' rows' hvq
    split at hx <;> simp at hx
    rename_i he0
    subst he0 hx
    obtain ⟨_, _, base, len, cap, e1, e2, e3⟩ := h.ent n _ _ hv (stOk_spec hst).1
    obtain ⟨vals, g1, g2⟩ := h.ent q' _ _ hvq (by intro p hp; simp at hp)
    simp only [Bool.false_eq_true, if_false] at g2
    subst g2
    rw [e1] at g1
    have hu' : a.eval (.tmp n) = .slice base k cap := e3
    generalize hf : φ (.t q') = f at g1
    cases g1 with
    | sc hs =>
      cases rows' <;> simp [Scal] at hs
      obtain ⟨rfl, rfl, rfl⟩ := hs
      have : k = 0 := by omega
      subst this
      exact .inl ⟨by simp, hu'⟩
    | @own _ _ _ b o len cap rows vals φ1 cs vs ψ hl hc he hr hb ha hv h t =>
      cases t
      obtain ⟨f3, r1, r2⟩ := h.sub 0 (k * e')
      rw [List.drop_zero, List.drop_zero] at r1
      have hrp := rows_part (rows := rows') (l := 0) (n := k) hr (by omega)
      rw [List.drop_zero, Nat.zero_mul, List.drop_zero] at hrp
      refine .inr ⟨q', b, o, k, cap, vals.take (k * e'), f3, by simp [oprL], hu', by rw [List.length_take]; omega, by omega, he, fun r hr' => hr r (List.mem_of_mem_take hr'), hb, ha, ?_, by rw [hrp]; exact r1, fun z => ?_⟩
      · intro j hj
        rw [List.getElem_take]
        exact hv j (by rw [List.length_take] at hj; omega)
      · rw [hf]
        have := r2 z
        simp only
        omega

theorem flatLL_all {rows : List (List AC)} (h : flatLL rows = true) : rows.flatten.all AC.flat = true := by
  simp only [flatLL, List.all_eq_true] at h ⊢
  intro c hc
  obtain ⟨r, hr, hc⟩ := List.mem_flatten.1 hc
  exact h r hr c hc

theorem noOwnL_append (a b : List AC) : noOwnL (a ++ b) = (noOwnL a && noOwnL b) := by
  induction a with
  | nil => rfl
  | cons x a ih => simp [noOwnL, ih, Bool.and_assoc]
theorem noOwnLL_flatten {rows : List (List AC)} (h : noOwnLL rows = true) : noOwnL rows.flatten = true := by
  induction rows with
  | nil => rfl
  | cons r rows ih =>
    simp only [noOwnLL, Bool.and_eq_true] at h
    rw [List.flatten_cons, noOwnL_append, h.1, ih h.2]
    rfl

/-- What a slice that is read shows: as many elements, their cells; and what is kept of them. -/
theorem read_rows (h : RelW E v (tmv a) w β φ) {x : Opr} {y : Operand} {r : Option Rt} (hxy : oprOk x y = true) {m : Md} {e : Nat} {rows rows' : List (List AC)} {st : Stamps} (hx : rdSl v x r = some (m, e, rows, st))
    (hk : (if m = .own ∧ (oprL x).isEmpty = false then some rows else copyRows m st rows) = some rows') :
    ∃ vs ψ, RepL w (XS E w φ) (XB w φ []) rows'.flatten vs ψ ∧ rows'.length = rows.length ∧ (rows ≠ [] → 0 < e ∧ ∀ r ∈ rows', r.length = e) ∧ (∀ b, ψ b ≠ 0 → ∃ n ∈ oprL x, φ (.t n) b ≠ 0) ∧ (∀ b, ψ b ≤ 1) ∧
      ((rows = [] ∧ ∃ bo, a.eval y = .slice bo 0 0) ∨ ∃ b o cap, a.eval y = .slice (some ⟨b, o, none⟩) rows.length cap ∧ Cells w b o vs ∧ ((∃ n ∈ oprL x, m = .own ∧ φ (.t n) b ≠ 0 ∧ ∀ z, (if z = b then 1 else 0) + ψ z ≤ φ (.t n) z) ∨ ∀ z, ψ z = 0)) := by
  obtain ⟨f, g1, k1, k2, k3⟩ := rdSl_sound h hxy hx
  by_cases hmv : m = .own ∧ (oprL x).isEmpty = false
  · rw [if_pos hmv] at hk
    simp only [Option.some.injEq] at hk
    subst hk
    obtain ⟨rfl, hL⟩ := hmv
    cases x with
    | t n rs => simp [oprL] at hL
    | c c => simp [oprL] at hL
    | p n rs q => simp [rdSl] at hx
    | m n =>
      cases y <;> simp [oprOk] at hxy
      subst hxy
      simp only [rdSl] at hx
      split at hx <;> simp only [Option.some.injEq, Prod.mk.injEq, reduceCtorEq] at hx
      rename_i m' e' rows' hv
      obtain ⟨rfl, rfl, rfl, rfl⟩ := hx
      obtain ⟨vals, g1, g2⟩ := h.ent n _ _ hv (by intro p hp; simp at hp)
      simp only [Bool.false_eq_true, if_false] at g2
      subst g2
      generalize hu : tmv a n = u at g1
      have hu' : a.eval (.tmp n) = u := hu
      have hle := h.le1 (.t n)
      generalize hf : φ (.t n) = f at g1
      cases g1 with
      | sc hs => cases rows' <;> simp [Scal] at hs; exact ⟨[], fun _ => 0, .nil, rfl, by simp, by simp, by simp, .inl ⟨rfl, _, hu'.trans hs⟩⟩
      | @own _ _ _ b o len cap rows vals φ1 cs vs ψ hl hc he hr hb ha hv h t =>
        cases t
        subst hl
        refine ⟨vals, φ1, h, rfl, fun _ => ⟨he, hr⟩, fun z hz => ⟨n, by simp [oprL], by rw [hf]; simp; omega⟩, fun z => ?_, .inr ⟨b, o, cap, hu', hv, .inl ⟨n, by simp [oprL], rfl, by simp [hf], fun z => by simp [hf]⟩⟩⟩
        have := hle z
        rw [hf] at this
        simp at this
        omega
  · rw [if_neg hmv] at hk
    -- the cells as they are read
    have main : (rows = [] ∧ ∃ bo, a.eval y = .slice bo 0 0) ∨ ∃ b o cap vs ψ, a.eval y = .slice (some ⟨b, o, none⟩) rows.length cap ∧ Cells w b o vs ∧ 0 < e ∧ (∀ r ∈ rows, r.length = e) ∧
        (match m with
          | .own => RepL w (XS E w φ) (XB w φ st) rows.flatten vs ψ
          | .sh => RepL w (XS E w φ) (XS E w φ) rows.flatten vs (fun _ => 0)
          | .bor => RepL w (XB w φ st) (XB w φ st) rows.flatten vs (fun _ => 0)) := by
      generalize a.eval y = u at g1
      cases g1 with
      | sc hs => cases rows <;> simp [Scal] at hs; exact .inl ⟨rfl, hs.from⟩
      | own hl hc he hr hb ha hv h t => subst hl; exact .inr ⟨_, _, _, _, _, rfl, hv, he, hr, h⟩
      | sh hl hc he hr hX hv h t => subst hl; exact .inr ⟨_, _, _, _, fun _ => 0, rfl, hv, he, hr, h⟩
      | bor hl hc he hr hX hv h t => subst hl; exact .inr ⟨_, _, _, _, fun _ => 0, rfl, hv, he, hr, h⟩
    rcases main with ⟨rfl, hu⟩ | ⟨b, o', cap, vs, ψ, hu, hcv, he, hr, hrep⟩
    · refine ⟨[], fun _ => 0, ?_, ?_, by simp, by simp, by simp, .inl ⟨rfl, hu⟩⟩
      · have : rows' = [] := by
          unfold copyRows at hk
          simp [flatLL] at hk
          first | exact hk.symm | exact hk
        subst this
        exact .nil
      · unfold copyRows at hk
        simp [flatLL] at hk
        simp [hk]
    · have fin : RepL w (XS E w φ) (XB w φ []) rows'.flatten vs (fun _ => 0) ∧ rows'.length = rows.length ∧ ∀ r ∈ rows', r.length = e := by
        unfold copyRows at hk
        split at hk
        · rename_i hfl
          simp only [Option.some.injEq] at hk
          subst hk
          refine ⟨?_, rfl, hr⟩
          have := flatLL_all hfl
          cases m <;> exact flat_rep hrep this _ _
        · cases m with
          | sh =>
            simp only [Option.some.injEq] at hk
            subst hk
            refine ⟨?_, rfl, hr⟩
            exact hrep.weak (fun _ h => h) XS_XB
          | bor =>
            simp only at hk
            split at hk <;> simp only [Option.some.injEq, reduceCtorEq] at hk
            subst hk
            rename_i hst
            have : st = [] := by simpa using hst
            subst this
            refine ⟨?_, by rw [brwLL_map]; simp, ?_⟩
            · rw [brwLL_flatten]
              exact hrep.brw _ (fun _ h => h) (fun _ h => h) (fun _ hz => absurd rfl hz)
            · intro r hr'
              rw [brwLL_map] at hr'
              obtain ⟨q, hq, rfl⟩ := List.mem_map.1 hr'
              rw [brwL_length]
              exact hr q hq
          | own =>
            simp only at hk
            split at hk <;> simp only [Option.some.injEq, reduceCtorEq] at hk
            subst hk
            rename_i hst
            simp only [Bool.and_eq_true, List.isEmpty_iff] at hst
            obtain ⟨rfl, hno⟩ := hst
            refine ⟨?_, rfl, hr⟩
            exact hrep.cast (hrep.foot0 (noOwnLL_flatten hno))
      exact ⟨vs, fun _ => 0, fin.1, fin.2.1, fun _ => ⟨he, fin.2.2⟩, by simp, by simp, .inr ⟨b, o', cap, hu, hcv, .inr (fun _ => rfl)⟩⟩

theorem app_sound {Γ : Gam} (h : RelW E v (tmv a) w β φ) (hC : ∀ b, E.C b → b < E.w0.heap.size) {d e by_ : Nat} {s x : Opr} {xr : Option Rt} {y y' : Operand} {t t' el el' : TypeId}
    (hop : o.op = .call { callee := .builtin .append, args := #[y, y'], argTypes := #[t, t'] }) (hd : o.dst = some d) (hN : d < a.tmps.size) (ht : rowTy P t = some (el, e, by_)) (ht' : P.underlying t' = some (.slice el'))
    (hsy : oprOk s y = true) (hxy : oprOk x y' = true) (hnd : (oprL s ++ oprL x).Nodup) (hdL : d ∉ oprL s ++ oprL x) {ws : List (Res × Val)} (hf : fop Γ v (.app d e s x xr by_) = some ws) : OpSound P E (appl v ws) o a w := by
  obtain ⟨rows, h1, hf1⟩ := ob_some hf
  obtain ⟨⟨md, e', more, st⟩, h2, hf2⟩ := ob_some hf1
  try dsimp only at hf2
  split at hf2 <;> try (simp at hf2; done)
  rename_i hb
  obtain ⟨rfl, b1, b2⟩ := hb
  obtain ⟨more', h3, hf3⟩ := ob_some hf2
  simp only [Option.some.injEq] at hf3
  subst hf3
  clear hf hf1 hf2
  obtain ⟨i, zz, t1, t2, t3, t4, t5, t6, t7⟩ := rowTy_spec ht
  obtain ⟨vs, ψ, g1, g2, g3, g4, g5, g6⟩ := read_rows h hxy h2 h3
  have hs := takeSl_sound h hsy h1
  have hmr : ∀ r ∈ more', r.length = e' := by
    intro r hr
    by_cases hm : more = []
    · subst hm; simp at g2; subst g2; simp at hr
    · exact (g3 hm).2 r hr
  have hvl : vs.length = more.length * e' := by rw [g1.length, flatten_len hmr, g2]
  have one : ∀ u ∈ vs, u.oneCell' = true := g1.one
  have hsrc : Src P i.size t' (a.eval y') more.length vs w := by
    rcases g6 with ⟨rfl, bo, hu⟩ | ⟨b, o', cap, hu, hcv, _⟩
    · rw [hu]
      simp at hvl
      subst hvl
      cases bo with
      | none => exact .ofNil w ht' 0
      | some ad => exact .ofSlice w ht' _ _ _ _ (by simp) (fun j u hj => by simp at hj) one
    · rw [hu]
      exact .ofSlice w ht' _ _ _ _ (by rw [hvl, t3]) (fun j u hj => by
        obtain ⟨hlt, rfl⟩ := List.getElem?_eq_some_iff.1 hj
        rw [Addr.add_lit]; exact hcv j hlt) one
  have run : (execOp a.eval o).run P w = ((Builtin.append_ #[t, t'] o.type #[a.eval y, a.eval y']).run P w).andThen fun u w' => .ok (.value u) w' := by
    simp [execOp, hop, resolve, invoke, builtin]
  -- the arm that grows
  have grow : ∀ (base : Option Addr) (sLen sCap : Nat) (olds : List Value) (ψs : Foot), a.eval y = .slice base sLen sCap → rows.length = sLen → (Builtin.firstCells i.size sLen (.slice base sLen sCap)).run P w.drew = .ok olds.toArray w.drew →
      RepL w (XS E w φ) (XB w φ []) rows.flatten olds ψs → (∀ b, ψs b ≠ 0 → ∃ n ∈ oprL s, φ (.t n) b ≠ 0) → (∀ b, ψs b ≤ 1) → (∀ r ∈ rows, r.length = e') → sCap < sLen + more.length →
      OpSound P E (appl v (putT v d [] (.pl false [.sl .own e' (rows ++ more')]) ++ dropL v (oprL s ++ oprL x))) o a w := by
    intro base sLen sCap olds ψs hy hl hold hrep hso hs1 hr hg next Q hn
    subst hl
    have hrun := run_append_grow_src (P := P) w t t' o.type el i zz t1 t2 t5 base rows.length sCap olds hold (a.eval y') more.length vs hsrc hg (by omega) (growslice_fits hg (by rw [t4]; exact b1))
    have hge := grownCap_ge w (rows.length + more.length) sCap el
    have hle := grownCap_le_maxLen w (rows.length + more.length) sCap el (by unfold maxLen; omega)
    refine wp_of next Q hd hN (u := _) (w' := _) (by rw [run, hy, hrun]; rfl) ?_ hn
    intro tm' htm
    have dis : ∀ b, ψ b ≠ 0 → ψs b = 0 := fun b hb => Classical.byContradiction fun hb' => by
      obtain ⟨n1, m1, k1⟩ := g4 b hb
      obtain ⟨n2, m2, k2⟩ := hso b hb'
      have := h.uniq _ _ b k1 k2
      simp at this
      subst this
      exact (List.nodup_append.1 hnd).2.2 _ m2 _ m1 rfl
    have hfl : (rows ++ more').flatten = rows.flatten ++ more'.flatten := by simp
    have hol : olds.length = rows.length * e' := by rw [hrep.length, flatten_len hr]
    obtain ⟨β', φ', hR⟩ := h.rowed hC hdL (w1 := w.drew) ⟨rfl, rfl, rfl, rfl⟩ (vals := olds ++ vs) (rest := (Builtin.zeroCells zz.cells (grownCap w (rows.length + more.length) sCap el - (rows.length + more.length))).toList) (t := el) (fr := (0, 0))
      (w' := w.drew.alloc (.cells ((olds ++ vs).toArray ++ Builtin.zeroCells zz.cells (grownCap w (rows.length + more.length) sCap el - (rows.length + more.length))) el))
      (by congr 2; apply Array.ext'; simp) (e := e') (cap := grownCap w (rows.length + more.length) sCap el) (len := rows.length + more.length) (rows := rows ++ more') (f := fun b => ψs b + ψ b)
      (fun b => by
        have := hs1 b
        have := g5 b
        by_cases hb : ψ b = 0
        · simp only [hb]; omega
        · have := dis b hb; omega)
      (fun b hb => by
        by_cases h0 : ψs b = 0
        · obtain ⟨n, m, k⟩ := g4 b (by simp only [h0] at hb; omega); exact ⟨n, List.mem_append.2 (.inr m), k⟩
        · obtain ⟨n, m, k⟩ := hso b h0; exact ⟨n, List.mem_append.2 (.inl m), k⟩)
      (by rw [hfl]; exact hrep.append g1) (by rw [List.length_append, g2]) ⟨hge, by unfold maxLen at hle; omega⟩ t7
      (fun r hr' => by rcases List.mem_append.1 hr' with h | h; exact hr r h; exact hmr r h)
      (by
        have hzl : ∀ k, (Builtin.zeroCells zz.cells k).toList.length = k * e' := fun k => by simp [size_zeroCells, t6]
        rw [List.length_append, List.length_append, hol, hvl, hzl, ← Nat.add_mul, ← Nat.add_mul]
        exact Nat.mul_le_mul_right _ (by omega)) (.inr rfl) (.inr rfl) htm
    exact ⟨β', φ', hR⟩
  rcases hs with ⟨rfl, hu⟩ | ⟨n, b, o', len, cap, vals, ψs, hns, hu, hl, hc, he, hr, hbs, ha, hcv, hrep, hφ⟩
  · by_cases hm : more = []
    · -- nothing onto nothing
      subst hm
      have : more' = [] := List.eq_nil_of_length_eq_zero g2
      subst this
      have hv0 : vs = [] := List.eq_nil_of_length_eq_zero (by simpa using hvl)
      subst hv0
      refine .val h hC hd hN (u := .slice none 0 0) (w' := w) ?_ (.refl w) hdL (f := fun _ => 0) (by simp) (by simp) (by simp) (by intro p hp; simp at hp) (by simp) ⟨[.slice none 0 0], .sc (by simp [Scal]) .nil, by simp⟩
      rw [run, hu]
      have k1 := hsrc.len
      have k2 := hsrc.cells
      simp at k1 k2
      simp [Builtin.append_, run_underlying t1, run_underlying ht', sizeOf, typeInfo, t2, k1, k2]
    · exact grow none 0 0 [] (fun _ => 0) hu rfl (run_firstCells_none _ _ _ _ _) .nil (by simp) (by simp) (by simp) (by
        have : 0 < more.length := List.length_pos_iff.2 hm
        omega)
  · have hvall : vals.length = len * e' := by rw [hrep.length, flatten_len hr, hl]
    have hn1 : ∀ z, ψs z ≤ 1 := fun z => by have := h.le1 (.t n) z; have := hφ z; omega
    by_cases hroom : len + more.length ≤ cap
    · -- there is room
      have hcap : ∀ j, j < vs.length → o' + len * e' + j < o' + cap * e' := fun j hj => by
        have : (len + more.length) * e' ≤ cap * e' := Nat.mul_le_mul_right _ hroom
        rw [Nat.add_mul, ← hvl] at this
        omega
      have hpres : ∀ j, j < vs.length → (w.cell? ⟨b, o' + len * i.size + j, none⟩).isSome = true ∧ w.frozen? ⟨b, o' + len * i.size + j, none⟩ = false := fun j hj => by
        have := ha.1 (len * e' + j) (by have := hcap j hj; omega)
        rw [t3, Nat.add_assoc]
        exact this
      have hrun := run_append_room_src (P := P) w t t' o.type el i t1 t2 b o' len cap (a.eval y') more.length vs hsrc hroom (fun j hj => (hpres j hj).1) (fun j hj => (hpres j hj).2)
      intro next Q hn
      refine wp_of next Q hd hN (u := _) (w' := _) (by rw [run, hu, hrun]; rfl) ?_ hn
      rw [t3] at *
      intro tm' htm
      have hob : φ (.t n) b ≠ 0 := by have := hφ b; simp at this; omega
      have disx : ∀ z, ψ z ≠ 0 → φ (.t n) z = 0 := fun z hz => Classical.byContradiction fun hz' => by
        obtain ⟨n1, m1, k1⟩ := g4 z hz
        have := h.uniq _ _ z k1 hz'
        simp at this
        subst this
        exact (List.nodup_append.1 hnd).2.2 _ hns _ m1 rfl
      have hp := PutD.of v d [] (.pl false [.sl .own e' (rows ++ more')]) (oprL s ++ oprL x) hdL
      let F : Foot := fun z => (if z = b then 1 else 0) + ψs z + ψ z
      have hF1 : ∀ z, F z ≤ 1 := fun z => by
        show (if z = b then 1 else 0) + ψs z + ψ z ≤ 1
        have := h.le1 (.t n) z
        have := hφ z
        have := g5 z
        by_cases hz : ψ z = 0
        · omega
        · have := disx z hz; omega
      have hs := Stp.slot (w' := w.setCells b (o' + len * e') vs) (tm' := tm') h hC hp F hF1 (fun z hz => .inl (by
          have hz' : (if z = b then 1 else 0) + ψs z + ψ z ≠ 0 := hz
          by_cases h0 : ψ z = 0
          · exact ⟨n, List.mem_append.2 (.inl hns), by have := hφ z; omega⟩
          · obtain ⟨n1, m1, k1⟩ := g4 z h0; exact ⟨n1, List.mem_append.2 (.inr m1), k1⟩)) (fun m hm => by rw [htm, if_neg hm])
        (fun z hz hf => heap_setCells (fun e => hob (by rw [← e]; exact hf n (List.mem_append.2 (.inl hns)))) _ _ _) (os_setCells _ _ _).1 (os_setCells _ _ _).2.1 (os_setCells _ _ _).2.2 (by rw [size_setCells]; exact Nat.le_refl _)
      refine ⟨β, _, h.slot hp hdL hs (by simp) (by intro p hp; simp at hp) (by simp) ?_⟩
      rw [htm, if_pos rfl]
      have hne : ∀ z, ψs z ≠ 0 → z ≠ b := fun z hz e => by have := h.le1 (.t n) z; have := hφ z; simp [e] at *; omega
      have hfl : (rows ++ more').flatten = rows.flatten ++ more'.flatten := by simp
      have hrep' := hrep.frame hs.size hs.xs (hs.xb (by simp)) (fun z hz => heap_setCells (hne z hz) vs (o' + len * e') w)
      have g1' := g1.frame hs.size hs.xs (hs.xb (by simp)) (fun z hz => heap_setCells (fun e => by have := disx z hz; rw [e] at this; exact hob this) vs (o' + len * e') w)
      refine ⟨[_], (RepL.own (b := b) (o := o') (len := len + more.length) (cap := cap) (vals := vals ++ vs) (by rw [List.length_append, g2, hl]) ⟨hroom, hc.2⟩ he (fun r hr' => by rcases List.mem_append.1 hr' with h | h; exact hr r h; exact hmr r h)
        (by rw [size_setCells]; exact hbs) (ha.setCells (fun j hj => (hpres j hj).1)) ?_ (by rw [hfl]; exact hrep'.append g1') .nil).cast (fun z => by simp only [F]; omega), by simp⟩
      rw [Cells.app]
      refine ⟨fun j hj => ?_, fun j hj => ?_⟩
      · rw [World.cell?_setCells_out _ _ _ _ _ (fun _ _ => .inl (by dsimp only; omega))]
        exact hcv j hj
      · rw [hvall]
        exact World.cell?_setCells_in _ _ _ _ (fun j hj => (hpres j hj).1) j hj
    · exact grow (some ⟨b, o', none⟩) len cap vals ψs hu hl (run_firstCells_some _ _ _ _ _ _ _ (by rw [hvall, t3]) (fun j u hj => by
          obtain ⟨hlt, rfl⟩ := List.getElem?_eq_some_iff.1 hj
          rw [Addr.add_lit]; simpa using hcv j hlt)) hrep (fun z hz => ⟨n, hns, by have := hφ z; omega⟩) hn1 hr (by omega)

theorem bytes_flatten (s : List UInt8) : (s.map fun c => [AC.int .u8 c.toNat]).flatten = s.map fun c => AC.int .u8 c.toNat := by
  induction s with
  | nil => rfl
  | cons c s ih => simp [ih]
theorem bytes_rep {Xs X : Nat → Prop} : ∀ (s : List UInt8), RepL w Xs X (s.map fun c => AC.int .u8 c.toNat) (s.map fun c => Value.int .u8 c.toNat) (fun _ => 0)
  | [] => .nil
  | _ :: s => .sc rfl (bytes_rep s)

theorem bytesOf_spec : ∀ {rows : List (List AC)} {s : List UInt8}, bytesOf rows = some s → rows = s.map fun c => [AC.int .u8 c.toNat]
  | [], s, h => by simp [bytesOf] at h; subst h; rfl
  | r :: rs, s, h => by
    unfold bytesOf at h
    split at h <;> try (simp at h; done)
    · rename_i e1; simp at e1
    · rename_i n rs' e1
      simp only [List.cons.injEq] at e1
      obtain ⟨rfl, rfl⟩ := e1
      split at h <;> try (simp at h; done)
      rename_i hn
      obtain ⟨s', h1, h2⟩ := ob_some h
      simp only [Option.some.injEq] at h2
      subst h2
      rw [bytesOf_spec h1, List.map_cons, ← hn]

theorem bytes_vals {Xs X : Nat → Prop} : ∀ {str : List UInt8} {vals : List Value} {ψ : Foot}, RepL w Xs X (str.map fun c => AC.int .u8 c.toNat) vals ψ → vals = str.map fun c => Value.int .u8 c.toNat
  | [], vals, ψ, h => by cases h; rfl
  | c :: str, vals, ψ, h => by
    cases h with
    | sc hs t => simp only [Scal] at hs; rw [hs, bytes_vals t]; rfl

theorem toStr_sound {Γ : Gam} (h : RelW E v (tmv a) w β φ) (hC : ∀ b, E.C b → b < E.w0.heap.size) {d : Nat} {x : Opr} {r : Option Rt} {y : Operand} {t s el : TypeId} (hop : o.op = .convert t s y) (hd : o.dst = some d) (hN : d < a.tmps.size)
    (ht : P.underlying t = some (.slice el)) (hs : P.underlying s = some .string) (hel : P.underlying el = some (.int .u8)) (hxy : oprOk x y = true) {ws : List (Res × Val)} (hf : fop Γ v (.toStr d x r) = some ws) : OpSound P E (appl v ws) o a w := by
  obtain ⟨⟨m, e, rows, st⟩, hx, h2⟩ := ob_some hf
  try dsimp only at h2
  split at h2 <;> try (simp at h2; done)
  rename_i he
  subst he
  obtain ⟨str, h3, h4⟩ := ob_some h2
  simp only [Option.some.injEq] at h4
  subst h4
  have hrows := bytesOf_spec h3
  obtain ⟨f, g1, _⟩ := rdSl_sound h hxy hx
  refine .plain h hC hd hN (u := .string ⟨str.toArray⟩) ?_ rfl
  simp only [execOp, hop]
  have flat : rows.flatten = str.map fun c => AC.int .u8 c.toNat := by rw [hrows, bytes_flatten]
  have vals_eq : ∀ {Xs X : Nat → Prop} {vals : List Value} {ψ : Foot}, RepL w Xs X rows.flatten vals ψ → vals = str.map fun c => Value.int .u8 c.toNat := fun hr => by
    rw [flat] at hr
    exact bytes_vals hr
  have main : ∀ b o' cap vals, a.eval y = .slice (some ⟨b, o', none⟩) rows.length cap → Cells w b o' vals → vals = (str.map fun c => Value.int .u8 c.toNat) →
      (convert t s (a.eval y)).run P w = .ok (.string ⟨str.toArray⟩) w := by
    intro b o' cap vals hu hcv hve
    have hl : rows.length = str.length := by rw [hrows]; simp
    rw [hu, run_convert_bytes_arg w t el ht hel b o' rows.length cap (str.map fun c => (c.toNat : Int)) (by simp [hl]) (fun i hi => ?_) s hs]
    · congr 2
      simp [strOfNums, List.map_map, Function.comp_def]
    · have := hcv i (by rw [hve]; simp; omega)
      rw [this]
      subst hve
      simp [List.getD_eq_getElem?_getD, List.getElem?_map]
      rw [List.getElem?_eq_getElem (by omega)]
      simp
  have goal : (convert t s (a.eval y)).run P w = .ok (.string ⟨str.toArray⟩) w := by
    generalize hu : a.eval y = u at g1
    rw [← hu]
    cases g1 with
    | sc hs' =>
      cases rows <;> simp [Scal] at hs'
      have hs0 : str = [] := by
        cases str with
        | nil => rfl
        | cons => simp at hrows
      subst hs0
      obtain ⟨bo, rfl⟩ := hs'.from
      rw [hu]
      cases bo with
      | none => rw [run_convert_bytes_nil w t el ht hel _ _ s hs]; rfl
      | some ad =>
        have h0 := run_loadCells_list (P := P) w ad [] (fun j v hj => by simp at hj)
        simp only [List.length_nil] at h0
        rw [run_convert_bytes_string w t s el _ 0 0 ht hel hs]
        simp [Conv.bytesToString, h0]
        rfl
    | own hl _ _ _ _ _ hcv hh _ => subst hl; exact main _ _ _ _ hu hcv (vals_eq hh)
    | sh hl _ _ _ _ hcv hh _ => subst hl; exact main _ _ _ _ hu hcv (vals_eq hh)
    | bor hl _ _ _ _ hcv hh _ => subst hl; exact main _ _ _ _ hu hcv (vals_eq hh)
  simp [goal]
end
end Go.Fw
