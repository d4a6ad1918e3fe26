/- The framework, part K: new rows: made, listed, of a string's bytes; a string of bytes. Conditions: none. -/
import Derived.Test.YtmbkipogmaimaaaGreatDoorFwJ
import Derived.Laws.MakeOwn
import Derived.Laws.IdiomStrings
import Derived.Deep.AppendSrc
namespace Go.Fw
open Go

section
variable {P : Program} {E : Env} {v : Res → Val} {o : Oper} {a : Act} {w : World} {β : Nat → Nat} {φ : Res → Foot}

/-- The element type of a slice type, its size and its bytes. -/
def rowTy (P : Program) (t : TypeId) : Option (TypeId × Nat × Nat) :=
  match P.underlying t with
  | some (.slice el) => match P.info? el with
    | some i => match i.zero with
      | some z => if 0 < i.size ∧ z.cells.size = i.size then some (el, i.size, i.bytes) else none
      | none => none
    | none => none
  | _ => none
theorem rowTy_spec {t el : TypeId} {e by_ : Nat} (h : rowTy P t = some (el, e, by_)) :
    ∃ i z, P.underlying t = some (.slice el) ∧ P.info? el = some i ∧ i.size = e ∧ i.bytes = by_ ∧ i.zero = some z ∧ z.cells.size = e ∧ 0 < e := by
  unfold rowTy at h
  split at h <;> try (simp at h; done)
  rename_i el' hu
  split at h <;> try (simp at h; done)
  rename_i i hi
  split at h <;> try (simp at h; done)
  rename_i z hz
  split at h <;> try (simp at h; done)
  rename_i hc
  simp only [Option.some.injEq, Prod.mk.injEq] at h
  obtain ⟨rfl, rfl, rfl⟩ := h
  exact ⟨i, z, hu, hi, rfl, rfl, hz, hc.2, hc.1⟩

/-- A new row's cells: the first ones are what the slice shows. -/
theorem cells_fresh (w : World) (vals rest : List Value) (t : TypeId) (fr : Nat × Nat) : Cells (w.alloc (.cells (vals ++ rest).toArray t fr)) w.heap.size 0 vals := fun j hj => by
  simp only [World.cell?, World.alloc]
  rw [show (w.heap.push (Obj.cells (vals ++ rest).toArray t fr))[w.heap.size]? = some (Obj.cells (vals ++ rest).toArray t fr) by simp]
  simp [List.getElem?_append_left hj, List.getElem?_eq_getElem hj]
theorem avail_fresh (w : World) (vals : List Value) (t : TypeId) (fr : Nat × Nat) (n : Nat) (hn : n ≤ vals.length) (hf : n ≤ fr.1 ∨ fr.2 = 0) : Avail (w.alloc (.cells vals.toArray t fr)) w.heap.size 0 n := fun j hj => by
  have hb : (w.heap.push (Obj.cells vals.toArray t fr))[w.heap.size]? = some (Obj.cells vals.toArray t fr) := by simp
  constructor
  · simp only [World.cell?, World.alloc]
    rw [hb]
    simp
    omega
  · simp only [World.frozen?, World.alloc]
    rw [hb]
    obtain ⟨f1, f2⟩ := fr
    simp at *
    omega

/-- A new row is put into a slot. -/
theorem RelW.rowed (h : RelW E v (tmv a) w β φ) (hC : ∀ b, E.C b → b < E.w0.heap.size) {d : Nat} {L : List Nat} (hdL : d ∉ L) {w1 w' : World} (hw1 : Still w w1) {vals rest : List Value} {t : TypeId} {fr : Nat × Nat}
    (hw : w' = w1.alloc (.cells (vals ++ rest).toArray t fr)) {e cap len : Nat} {rows : List (List AC)} {f : Foot} (hf1 : ∀ b, f b ≤ 1) (hsrc : ∀ b, f b ≠ 0 → ∃ n ∈ L, φ (.t n) b ≠ 0)
    (hrep : RepL w (XS E w φ) (XB w φ []) rows.flatten vals f) (hl : rows.length = len) (hc : len ≤ cap) (he : 0 < e) (hr : ∀ r ∈ rows, r.length = e) (hcap : cap * e ≤ (vals ++ rest).length) (hfr : cap * e ≤ fr.1 ∨ fr.2 = 0)
    {tm' : Nat → Value} (htm : ∀ n, tm' n = if n = d then .slice (some ⟨w.heap.size, 0, none⟩) len cap else tmv a n) :
    ∃ β' φ', RelW E (appl v (putT v d [] (.pl false [.sl .own e rows]) ++ dropL v L)) tm' w' β' φ' := by
  obtain ⟨e1, e2, e3, e4⟩ := hw1
  have hsz : w1.heap.size = w.heap.size := by rw [e1]
  have hp := PutD.of v d [] (.pl false [.sl .own e rows]) L hdL
  have hfs : ∀ b, f b ≠ 0 → b < w.heap.size := fun b hb => by obtain ⟨n, _, h2⟩ := hsrc b hb; exact (h.dom _ b h2).1
  have hsz' : w'.heap.size = w.heap.size + 1 := by rw [hw]; simp [hsz]
  have hold : ∀ b, b < w.heap.size → w'.heap[b]? = w.heap[b]? := fun b hb => by rw [hw, heap_alloc _ _ (by omega), e1]
  let F : Foot := fun x => (if x = w.heap.size then 1 else 0) + f x
  have hF1 : ∀ b, F b ≤ 1 := fun b => by
    show (if b = w.heap.size then 1 else 0) + f b ≤ 1
    have := hf1 b
    by_cases e : b = w.heap.size
    · have : f b = 0 := Classical.byContradiction fun h => by have := hfs b h; omega
      simp [e] at *; omega
    · simp [e]; exact this
  have hs := Stp.slot (w' := w') (tm' := tm') h hC hp F hF1 (fun b hb => by
      have hb' : (if b = w.heap.size then 1 else 0) + f b ≠ 0 := hb
      by_cases e : b = w.heap.size
      · right; omega
      · left; simp [e] at hb'; exact hsrc b hb') (fun n hn => by rw [htm, if_neg hn]) (fun b hb _ => hold b hb) (by rw [hw]; exact e2) (by rw [hw]; exact e3) (by rw [hw]; exact e4) (by omega)
  refine ⟨β, _, h.slot hp hdL hs (by simp) (by intro p hp; simp at hp) (by simp) ?_⟩
  rw [htm, if_pos rfl]
  refine ⟨[_], (RepL.own (b := w.heap.size) (o := 0) hl hc he hr (by omega) ?_ ?_ (hrep.frame hs.size hs.xs (hs.xb (by simp)) (fun b hb => hold b (hfs b hb))) .nil).cast (fun x => by simp [F]), by simp⟩
  · rw [hw, ← hsz]; exact avail_fresh _ _ _ _ _ hcap hfr
  · rw [hw, ← hsz]; exact cells_fresh _ _ _ _ _

/-- Zero cells, again and again. -/
theorem madeCells_eq (z : Array Value) (n : Nat) : (madeCells z (n * z.size)).toList = (List.replicate n z.toList).flatten := by
  apply List.ext_getElem?
  intro j
  simp only [madeCells, Array.toList_map, Array.toList_range, List.getElem?_map]
  induction n generalizing j with
  | zero => simp
  | succ n ih =>
    rw [List.replicate_succ, List.flatten_cons]
    by_cases hj : j < z.size
    · rw [List.getElem?_append_left (by simpa using hj), List.getElem?_range (by rw [Nat.add_mul]; omega)]
      simp [Nat.mod_eq_of_lt hj, hj]
    · rw [List.getElem?_append_right (by simp; omega)]
      have := ih (j - z.size)
      simp only [Array.length_toList]
      rw [← this]
      by_cases hk : j < (n + 1) * z.size
      · rw [List.getElem?_range hk, List.getElem?_range (by rw [Nat.add_mul] at hk; omega)]
        simp only [Option.map_some]
        congr 2
        exact (Nat.mod_eq_sub_mod (by omega))
      · rw [List.getElem?_eq_none (by simp; omega), List.getElem?_eq_none (by rw [Nat.add_mul] at hk; simp; omega)]

theorem RepL.replicate {Xs X : Nat → Prop} {z : List AC} {vs : List Value} (h : RepL w Xs X z vs (fun _ => 0)) : ∀ n, RepL w Xs X (List.replicate n z).flatten (List.replicate n vs).flatten (fun _ => 0)
  | 0 => .nil
  | n + 1 => by
    rw [List.replicate_succ, List.flatten_cons, List.replicate_succ, List.flatten_cons]
    exact (h.append (RepL.replicate h n)).cast (fun _ => rfl)

theorem zeroOk_info {t : TypeId} {cs : List AC} (h : zeroOk P t cs = true) {i : TypeInfo} {z : Value} (hi : P.info? t = some i) (hz : i.zero = some z) (Xs X : Nat → Prop) (w : World) : RepL w Xs X cs z.cells.toList (fun _ => 0) := by
  obtain ⟨z', h1, h2⟩ := zeroOk_spec (P := P) h Xs X w
  have : (zeroValue t).run P w = .ok z w := by simp [zeroValue, typeInfo, hi, hz]
  rw [this] at h1
  simp at h1
  subst h1
  exact h2

theorem make_sound {Γ : Gam} (h : RelW E v (tmv a) w β φ) (hC : ∀ b, E.C b → b < E.w0.heap.size) {d e by_ : Nat} {z : List AC} {n : Opr} {y y' : Operand} {t el : TypeId} (hop : o.op = .makeSlice t y y') (hd : o.dst = some d) (hN : d < a.tmps.size)
    (ht : rowTy P t = some (el, e, by_)) (hz : zeroOk P el z = true) (hny : oprOk n y = true) (hny' : oprOk n y' = true) {ws : List (Res × Val)} (hf : fop Γ v (.make d e z by_ n) = some ws) : OpSound P E (appl v ws) o a w := by
  obtain ⟨c, h1, h2⟩ := ob_some hf
  try dsimp only at h2
  split at h2 <;> try (simp at h2; done)
  rename_i k m
  split at h2 <;> simp only [Option.some.injEq, reduceCtorEq] at h2
  rename_i hb
  subst h2
  obtain ⟨b1, b2, b3⟩ := hb
  have hzv := sca_val h hny h1 rfl
  have hzv' := sca_val h hny' h1 rfl
  simp only [Scal] at hzv hzv'
  obtain ⟨i, zz, t1, t2, t3, t4, t5, t6, t7⟩ := rowTy_spec ht
  have hrep := (zeroOk_info (P := P) hz t2 t5 (XS E w φ) (XB w φ []) w)
  have hzl : z.length = e := by have := hrep.length; simp at this; omega
  have hmc : (madeCells zz.cells (m.toNat * i.size)) = ((List.replicate m.toNat zz.cells.toList).flatten ++ []).toArray := by
    apply Array.ext'
    rw [List.append_nil, t3, ← t6, madeCells_eq]
  intro next Q hn
  refine wp_of next Q hd hN (u := .slice (some ⟨w.heap.size, 0, none⟩) m.toNat m.toNat) (w' := w.alloc (.cells (madeCells zz.cells (m.toNat * i.size)) el)) ?_ ?_ hn
  · simp only [execOp, hop, hzv, hzv']
    simp [run_make (P := P) w t el i zz t1 t2 t5 k k m m b1 (Int.le_refl _) (by rw [t4, Int.mul_comm]; exact b2) b3]
  · intro tm' htm
    obtain ⟨β', φ', hr⟩ := h.rowed hC (L := []) (by simp) (.refl w) (vals := (List.replicate m.toNat zz.cells.toList).flatten) (rest := []) (t := el) (fr := (0, 0)) (w' := w.alloc (.cells (madeCells zz.cells (m.toNat * i.size)) el)) (by rw [hmc])
      (e := e) (cap := m.toNat) (len := m.toNat) (rows := List.replicate m.toNat z) (f := fun _ => 0) (by simp) (by simp) (hrep.replicate _) (by simp) (Nat.le_refl _) t7 (by intro r hr; rw [List.eq_of_mem_replicate hr]; exact hzl)
      (by have : zz.cells.toList.length = e := by simpa using t6
          simp [this]) (.inr rfl) htm
    exact ⟨β', φ', by simpa [dropL] using hr⟩

theorem rowsOf_flatten (e : Nat) : ∀ (n : Nat) (cs : List AC), cs.length = n * e → (rowsOf e n cs).flatten = cs ∧ (rowsOf e n cs).length = n ∧ ∀ r ∈ rowsOf e n cs, r.length = e
  | 0, cs, h => by
    have : cs = [] := List.eq_nil_of_length_eq_zero (by omega)
    subst this
    simp [rowsOf]
  | n + 1, cs, h => by
    rw [Nat.add_mul] at h
    obtain ⟨h1, h2, h3⟩ := rowsOf_flatten e n (cs.drop e) (by rw [List.length_drop]; omega)
    refine ⟨by simp [rowsOf, h1], by simp [rowsOf, h2], fun r hr => ?_⟩
    simp only [rowsOf, List.mem_cons] at hr
    rcases hr with rfl | hr
    · rw [List.length_take]; omega
    · exact h3 r hr

theorem fillP_length : ∀ (ps : List (Nat × List AC)) {z cs : List AC}, fillP z ps = some cs → cs.length = z.length
  | [], z, cs, h => by simp [fillP] at h; rw [h]
  | (o, xs) :: ps, z, cs, h => by
    simp only [fillP] at h
    split at h <;> try (simp at h; done)
    rw [fillP_length ps h]
    simp
    omega

theorem mkrow_sound {Γ : Gam} (h : RelW E v (tmv a) w β φ) (hC : ∀ b, E.C b → b < E.w0.heap.size) {d e n by_ : Nat} {z : List AC} {ps : List (Nat × Nat × Opr)} {qs : Array (Nat × Operand)} {t el : TypeId}
    (hop : o.op = .buildSlice t n qs) (hd : o.dst = some d) (hN : d < a.tmps.size) (ht : rowTy P t = some (el, e, by_)) (hz : zeroOk P el z = true) (hsz : n * e ≤ 16777216)
    (hps : psOk (fun i => some (i * e, e)) ps qs.toList = true)
    (hnd : (oprsL ps).Nodup) (hdL : d ∉ oprsL ps) {ws : List (Res × Val)} (hf : fop Γ v (.mkrow d e z n ps) = some ws) : OpSound P E (appl v ws) o a w := by
  obtain ⟨⟨st, ps', ws1⟩, h1, hf1⟩ := ob_some hf
  try dsimp only at hf1
  split at hf1 <;> try (simp at hf1; done)
  rename_i _ ps2 ws2 he
  simp only [Prod.mk.injEq] at he
  obtain ⟨rfl, rfl, rfl⟩ := he
  obtain ⟨cs, h2, hf2⟩ := ob_some hf1
  simp only [Option.some.injEq] at hf2
  subst hf2
  obtain ⟨rfl, l3, g3, r3, F, F1, F2, F3⟩ := parts_sound h _ hps hnd h1
  obtain ⟨i, zz, t1, t2, t3, t4, t5, t6, t7⟩ := rowTy_spec ht
  have hrep := (zeroOk_info (P := P) hz t2 t5 (XS E w φ) (XB w φ []) w)
  have hzl : z.length = e := by have := hrep.length; simp at this; omega
  obtain ⟨zv', f, k1, k2, k3⟩ := F3 [] (fun _ h => h) (hrep.replicate n) h2
  have hcl : cs.length = n * e := by rw [fillP_length _ h2]; simp [hzl]
  have hvl : zv'.length = n * e := by rw [k2.length, hcl]
  obtain ⟨q1, q2, q3⟩ := rowsOf_flatten e n cs hcl
  have hmc : (madeCells zz.cells (n * e)) = ((List.replicate n zz.cells.toList).flatten).toArray := by
    apply Array.ext'
    rw [← t6, madeCells_eq]
  have hqs : (qs.map fun (i, x) => (i, a.eval x)).toList = qs.toList.map fun x => (x.1, a.eval x.2) := by simp
  intro next Q hn
  refine wp_of next Q hd hN (u := .slice (some ⟨w.heap.size, 0, none⟩) n n) (w' := w.alloc (.cells zv'.toArray el)) ?_ ?_ hn
  · simp only [execOp, hop, Sem.run_bind]
    have hle : ¬ (16777216 < n * i.size) := by rw [t3]; omega
    have hm2 : madeCells zz.cells (n * i.size) = ((List.replicate n zz.cells.toList).flatten).toArray := by rw [t3]; exact hmc
    simp only [madeCells] at hm2
    have hk : Instr.fill (fun j => some (j * i.size, i.size)) (List.replicate n zz.cells.toList).flatten.toArray (qs.map fun (i, x) => (i, a.eval x)).toList = some zv'.toArray := by rw [hqs, t3]; exact k1
    by_cases h0 : n * i.size = 0
    · have : n = 0 := by
        rcases Nat.mul_eq_zero.1 h0 with h | h
        · exact h
        · omega
      subst this
      simp at hk
      have hr0 : Array.range 0 = #[] := rfl
      simp [Instr.buildSlice, run_underlying t1, sizeOf, typeInfo, t2, newRow, hr0, hk]
    · simp [Instr.buildSlice, run_underlying t1, sizeOf, typeInfo, t2, hle, h0, zeroValue, t5, newRow, hm2]
      simp at hk
      simp [hk]
  · intro tm' htm
    obtain ⟨β', φ', hr⟩ := h.rowed hC hdL (.refl w) (vals := zv') (rest := []) (t := el) (fr := (0, 0)) (w' := w.alloc (.cells zv'.toArray el)) (by simp)
      (e := e) (cap := n) (len := n) (rows := rowsOf e n cs) (f := f) (fun b => by have := k3 b; have := F1 b; omega) (fun b hb => F2 b (by have := k3 b; omega)) (by rw [q1]; exact k2) q2 (Nat.le_refl _) t7 q3
      (by simp [hvl]) (.inr rfl) htm
    exact ⟨β', φ', hr⟩
end
end Go.Fw
