/- The framework, part Ya: strconv.Itoa and strconv.Atoi as functions on plain data, by the shelf's contracts. Conditions: what the contracts ask of the library's variables. The framework, part Yb: slices.Delete and slices.Insert at rows of ints as functions on plain data, by the shelf's contracts. The framework, part Yc: more words on plain data: rows of simple cells, results of calls into the library. The framework, part Yd: what a row's data say of memory: rows that are read. Conditions: none. -/
import Derived.Test.YtjldolmokfnkoaaGreatDoorFwZd
import Derived.Shelf.Strconv.AtoiAll
import Derived.Shelf.Strconv.Itoa3
import Derived.Shelf.SlicesG.Delete
import Derived.Shelf.Spec.SlicesInsert
import Derived.Shelf.Spec.SlicesInsertGrow
import Derived.ChangeArms
namespace Go.Fw
open Go Go.RowKit

/-- A call that owns nothing, turns nothing that was there and hands back plain cells. -/
theorem callOut_plain {w w' : World} {C : Nat → Prop} {ps : List PA} {us : List Value} {out : AOut} {u : Value} (hb : Below w.heap.size w w') (hbox : BoxRel w' (AXs w' C (fun x => (fun _ => 0 : Foot) x + tot [] x)) ps us out.exts [])
    (ho : OutOk w' (AXs w' C (fun x => (fun _ => 0 : Foot) x + tot [] x)) u (fun _ => 0) out.tv) (φ : Foot) : CallOut w C ps us φ out u w' :=
  ⟨fun _ => 0, [], fun _ => by simp [tot], fun x hx => by simp [tot] at hx, ho, hbox, hb.os, hb.tape, hb.output, hb.size, fun x hx _ => hb.block x hx⟩

theorem arg_int {w : World} {Xs Xb : Nat → Prop} {k : IntKind} {n : Int} {u : Value} {f : Foot} (h : ArgOk w Xs Xb u f (.val false [.int k n])) : u = .int k n := by
  obtain ⟨vals, h1, h2⟩ := h
  cases h1 with
  | sc hs t => cases t; simp at h2; subst h2; exact hs
theorem arg_str {w : World} {Xs Xb : Nat → Prop} {s : List UInt8} {u : Value} {f : Foot} (h : ArgOk w Xs Xb u f (.val false [.str s])) : u = .string ⟨s.toArray⟩ := by
  obtain ⟨vals, h1, h2⟩ := h
  cases h1 with
  | sc hs t => cases t; simp at h2; subst h2; exact hs

def extItoa : List PA → Option AOut
  | [.val false [.int .i64 n]] => if -9223372036854775808 ≤ n ∧ n ≤ 9223372036854775807 then some ⟨.pl false [.str (Lib.itoa n)], []⟩ else none
  | _ => none
def extAtoi : List PA → Option AOut
  | [.val false [.str s]] => if s.length ≤ 281474976710656 then match Lib.atoiAll s with
      | .ok v => some ⟨.tup [(false, [.int .i64 v]), (false, [.err true])], []⟩
      | .range => some ⟨.tup [(false, [.int .i64 (Lib.atoiSat s)]), (false, [.err false])], []⟩
      | _ => some ⟨.tup [(false, [.int .i64 0]), (false, [.err false])], []⟩
    else none
  | _ => none

theorem out_two {w : World} {Xs : Nat → Prop} {c d : AC} {u x : Value} (h : Scal c u) (k : Scal d x) : OutOk w Xs (.tuple #[u, x]) (fun _ => 0) (.tup [(false, [c]), (false, [d])]) := by
  have h1 : RepPl w Xs (fun _ => False) false [c] u (fun _ => 0) := ⟨[u], .sc h .nil, rfl⟩
  have h2 : RepPl w Xs (fun _ => False) false [d] x (fun _ => 0) := ⟨[x], .sc k .nil, rfl⟩
  exact ⟨[u, x], rfl, .cons h1 (.cons h2 .nil)⟩

theorem itoa_sat {P : Program} {ρ : Go.Shelf.Ren} (L : Go.Proofs.LaysM.n171 P ρ) {I : Kpt} (hI : ∀ w φ, I.ok w φ → Lib.TabIs P w "internal/strconv.uint64pow10" .u64 Lib.pow10Tab) : SatF P I (ρ.f 171) extItoa := by
  intro ps out h w C us φ hin hk
  unfold extItoa at h
  split at h <;> try (simp at h; done)
  split at h <;> simp only [Option.some.injEq, reduceCtorEq] at h
  rename_i n hn
  subst h
  cases hin.args with
  | cons h1 t =>
    cases t
    have := arg_int h1
    subst this
    refine (Go.Proofs.Any.strconv_Itoa L n hn.1 hn.2 w (hI w _ hk)).mono fun e w' hh => ?_
    obtain ⟨rfl, k, os, rfl⟩ := hh
    show CallOut w C _ _ _ _ _ _
    refine callOut_plain ?_ (.other (by simp) .nil) ?_ _
    rotate_left
    · exact ⟨_, .sc rfl .nil, rfl⟩
    refine ⟨rfl, rfl, rfl, by simp [Sort.grow, World.drewN], fun j hj => ?_⟩
    simp only [Sort.grow, World.drewN]
    rw [Array.getElem?_append_left hj]

theorem atoi_sat {P : Program} {ρ : Go.Shelf.Ren} (L : Go.Proofs.LaysC.n172 P ρ) {I : Kpt}
    (hI : ∀ w φ, I.ok w φ → (∃ ev, w.cell? ⟨ρ.g 15, 0, none⟩ = some ev ∧ (ev = .nilIface ∨ ∃ te pe, ev = .iface te pe)) ∧ (∃ ev, w.cell? ⟨ρ.g 16, 0, none⟩ = some ev ∧ (ev = .nilIface ∨ ∃ te pe, ev = .iface te pe))) :
    SatF P I (ρ.f 172) extAtoi := by
  intro ps out h w C us φ hin hk
  obtain ⟨⟨ev1, h11, h12⟩, ev2, h21, h22⟩ := hI w φ hk
  unfold extAtoi at h
  split at h <;> try (simp at h; done)
  split at h <;> try (simp at h; done)
  rename_i s hn
  cases hin.args with
  | cons h1 t =>
    cases t
    have := arg_str h1
    subst this
    have hs : (⟨s.toArray⟩ : ByteArray).size = s.length := by simp [ByteArray.size]
    cases hv : Lib.atoiAll s with
    | ok v =>
      simp only [hv, Option.some.injEq] at h
      subst h
      refine (Go.Proofs.Any.strconv_Atoi_ok L ⟨s.toArray⟩ (by omega) v hv w).mono fun e w' hh => ?_
      obtain ⟨rfl, hw⟩ := hh
      have hb : Below w.heap.size w w' := by
        rcases hw with rfl | ⟨t, rfl⟩
        · exact Below.refl _ _
        · exact Lib.bytesWorld_below w _ _
      show CallOut w C _ _ _ _ _ _
      refine callOut_plain hb (.other (by simp) .nil) ?_ _
      exact out_two rfl rfl
    | range =>
      simp only [hv, Option.some.injEq] at h
      subst h
      refine (Go.Proofs.Any.strconv_Atoi_range L ⟨s.toArray⟩ (by omega) hv ev2 w h21 h22).mono fun e w' hh => ?_
      obtain ⟨N, rfl, _, _, hb⟩ := hh
      show CallOut w C _ _ _ _ _ _
      refine callOut_plain hb (.other (by simp) .nil) ?_ _
      exact out_two rfl ⟨_, _, rfl⟩
    | _ =>
      simp only [hv, Option.some.injEq] at h
      subst h
      refine (Go.Proofs.Any.strconv_Atoi_syntax L ⟨s.toArray⟩ (by omega) hv ev1 w h11 h12).mono fun e w' hh => ?_
      obtain ⟨N, rfl, _, _, hb⟩ := hh
      show CallOut w C _ _ _ _ _ _
      refine callOut_plain hb (.other (by simp) .nil) ?_ _
      exact out_two rfl ⟨_, _, rfl⟩
end Go.Fw
namespace Go.Fw
open Go Go.RowKit

/-- Rows of one int each. -/
def intsOf : List (List AC) → Option (List Int)
  | [] => some []
  | [.int .i64 n] :: rs => ob (intsOf rs) fun ns => some (n :: ns)
  | _ => none
theorem intsOf_map (ns : List Int) : intsOf (ns.map eI) = some ns := by
  induction ns with
  | nil => rfl
  | cons n ns ih => simp [eI, intsOf, ih, ob]
theorem intsOf_eq : ∀ {rs : List (List AC)} {ns : List Int}, intsOf rs = some ns → rs = ns.map eI
  | [], ns, h => by simp [intsOf] at h; subst h; rfl
  | r :: rs, ns, h => by
    unfold intsOf at h
    split at h <;> try (simp at h; done)
    · simp at *
    · rename_i n rs' e
      simp only [List.cons.injEq] at e
      obtain ⟨rfl, rfl⟩ := e
      obtain ⟨ms, h1, h2⟩ := ob_some h
      simp only [Option.some.injEq] at h2
      subst h2
      rw [intsOf_eq h1]
      rfl

def extDel : List PA → Option AOut
  | [.val false [.sl .own 1 rows], .val false [.int .i64 i], .val false [.int .i64 j]] => ob (intsOf rows) fun ns =>
      if 0 ≤ i ∧ i < j ∧ j ≤ ns.length then some ⟨.pl false [.sl .own 1 ((ns.take i.toNat ++ ns.drop j.toNat).map eI)], []⟩ else none
  | _ => none
def extIns : List PA → Option AOut
  | [.val false [.sl .own 1 rows], .val false [.int .i64 i], .val false [.sl .own 1 more]] => ob (intsOf rows) fun ns => ob (intsOf more) fun ms =>
      if 0 ≤ i ∧ i ≤ ns.length ∧ 0 < ms.length ∧ (ns.length + ms.length) * 8 ≤ 140737488355328 then some ⟨.pl false [.sl .own 1 ((ns.take i.toNat ++ (ms ++ ns.drop i.toNat)).map eI)], []⟩ else none
  | _ => none

theorem ints_rep {w : World} {Xs Xb : Nat → Prop} : ∀ {ns : List Int} {vals : List Value} {φ : Foot}, RepL w Xs Xb (ns.map eI).flatten vals φ → vals = ns.map (Value.int .i64) ∧ ∀ x, φ x = 0
  | [], vals, φ, h => by cases h; exact ⟨rfl, fun _ => rfl⟩
  | n :: ns, vals, φ, h => by
    simp only [List.map_cons, eI, List.flatten_cons, List.cons_append, List.nil_append] at h
    cases h with
    | sc hs t =>
      obtain ⟨rfl, h2⟩ := ints_rep (ns := ns) t
      simp only [Scal] at hs
      subst hs
      exact ⟨rfl, h2⟩
theorem ints_mk {w : World} {Xs Xb : Nat → Prop} : ∀ {ns : List Int}, RepL w Xs Xb (ns.map eI).flatten (ns.map (Value.int .i64)) (fun _ => 0)
  | [] => .nil
  | n :: ns => by
    simp only [List.map_cons, eI, List.flatten_cons, List.cons_append, List.nil_append]
    exact .sc rfl ints_mk

/-- A row of ints that is held alone. -/
theorem arg_ints {w : World} {Xs Xb : Nat → Prop} {ns : List Int} {u : Value} {f : Foot} (h : ArgOk w Xs Xb u f (.val false [.sl .own 1 (ns.map eI)])) :
    (ns = [] ∧ u = .slice none 0 0 ∧ ∀ x, f x = 0) ∨ ∃ b o cap, u = .slice (some ⟨b, o, none⟩) ns.length cap ∧ (ns.length ≤ cap ∧ cap ≤ 9223372036854775807) ∧ b < w.heap.size ∧ Avail w b o cap ∧ Cells w b o (ns.map (Value.int .i64)) ∧ ∀ x, f x = if x = b then 1 else 0 := by
  obtain ⟨vals, h1, h2⟩ := h
  cases h1 with
  | @sc _ _ c v cs vs ψ hs t =>
    cases t
    simp at h2
    subst h2
    cases ns with
    | nil => simp only [List.map_nil, Scal, Emp.own] at hs; exact .inl ⟨rfl, hs, fun _ => rfl⟩
    | cons n ns => simp [Scal] at hs
  | @own _ _ e b o len cap rows vals φ cs vs ψ hl hc he hr hb ha hv h t =>
    cases t
    simp at h2
    subst h2
    obtain ⟨rfl, h0⟩ := ints_rep h
    have hl' : ns.length = len := by simpa using hl
    subst hl'
    exact .inr ⟨b, o, cap, rfl, hc, hb, by simpa using ha, hv, fun x => by simp [h0]⟩

theorem arg_int0 {w : World} {Xs Xb : Nat → Prop} {k : IntKind} {n : Int} {u : Value} {f : Foot} (h : ArgOk w Xs Xb u f (.val false [.int k n])) : u = .int k n ∧ ∀ x, f x = 0 := by
  obtain ⟨vals, h1, h2⟩ := h
  cases h1 with
  | sc hs t => cases t; simp at h2; subst h2; exact ⟨hs, fun _ => rfl⟩

/-- A call that hands back the row of ints that it was given, turned. -/
theorem out_row {w w' : World} {C : Nat → Prop} {ps : List PA} {us : List Value} {φ : Foot} {b o cap : Nat} {ns : List Int} {u : Value} (hb : b < w'.heap.size) (hC : ¬ C b) (hφ : w.heap.size ≤ b ∨ φ b ≠ 0) (hu : u = .slice (some ⟨b, o, none⟩) ns.length cap)
    (hcap : ns.length ≤ cap ∧ cap ≤ 9223372036854775807) (ha : Avail w' b o cap) (hc : Cells w' b o (ns.map (Value.int .i64))) (hbox : ∀ Xs, BoxRel w' Xs ps us [] []) (hos : w'.os = w.os) (ht : w'.tape = w.tape) (ho : w'.output = w.output) (hs : w.heap.size ≤ w'.heap.size)
    (hh : ∀ x, x < w.heap.size → φ x = 0 → w'.heap[x]? = w.heap[x]?) : CallOut w C ps us φ ⟨.pl false [.sl .own 1 (ns.map eI)], []⟩ u w' := by
  refine ⟨fun x => if x = b then 1 else 0, [], fun x => by simp only [tot]; split <;> omega, fun x hx => ?_, ?_, hbox _, hos, ht, ho, hs, hh⟩
  · by_cases e : x = b
    · subst e; exact ⟨hb, hC, hφ⟩
    · simp [tot, e] at hx
  · subst hu
    refine ⟨[_], (RepL.own (by simp) hcap (by decide) (fun r hr => ?_) hb (by simpa using ha) hc ints_mk .nil).cast (fun x => by simp), rfl⟩
    obtain ⟨n, _, rfl⟩ := List.mem_map.1 hr
    rfl

theorem putRow_size (w : World) (b o : Nat) (d : Array Int) : (Sort.putRow (Value.int .i64) w b o d).heap.size = w.heap.size := by simp [Sort.putRow, Sort.mapBlock]
theorem putRow_heap (w : World) (b o : Nat) (d : Array Int) (x : Nat) (h : x ≠ b) : (Sort.putRow (Value.int .i64) w b o d).heap[x]? = w.heap[x]? := by
  simp only [Sort.putRow, Sort.mapBlock, Array.getElem?_modify]
  rw [if_neg (Ne.symm h)]

theorem delete_sat {P : Program} {ρ : Go.Shelf.Ren} (L : Go.Proofs.SlLaysN.n45 P ρ) {I : Kpt} : SatF P I (ρ.f 45) extDel := by
  intro ps out h w C us φ hin hk
  unfold extDel at h
  split at h <;> try (simp at h; done)
  rename_i rows i j
  obtain ⟨ns, h1, h2⟩ := ob_some h
  split at h2 <;> simp only [Option.some.injEq, reduceCtorEq] at h2
  rename_i hij
  subst h2
  have := intsOf_eq h1
  subst this
  obtain ⟨hle, hdom, hlow, hargs⟩ := hin
  cases hargs with
  | @cons _ _ u1 us1 f1 g1 k1 t =>
  cases t with
  | @cons _ _ u2 us2 f2 g2 k2 t =>
  cases t with
  | @cons _ _ u3 us3 f3 g3 k3 t =>
  cases t
  obtain ⟨rfl, z2⟩ := arg_int0 k2
  obtain ⟨rfl, z3⟩ := arg_int0 k3
  rcases arg_ints k1 with ⟨rfl, _, _⟩ | ⟨b, o, cap, rfl, hcap, hb, ha, hc, hf⟩
  · simp at hij; omega
  · have hn : ns.length = (ns.map (Value.int .i64)).length := by simp
    have hH : Sort.Holds (Value.int .i64) w b o ns.toArray := fun q hq => by
      have hq' : q < ns.length := by simpa using hq
      refine ⟨?_, (ha.1 q (by omega)).2⟩
      rw [hc q (by simpa using hq'), List.getElem_map]
      simp [hq']
    obtain ⟨i', rfl⟩ := Int.eq_ofNat_of_zero_le hij.1
    obtain ⟨j', rfl⟩ := Int.eq_ofNat_of_zero_le (show 0 ≤ j by omega)
    refine (Go.Proofs.AnyG.slices_Delete_int L b o cap i' j' ns w hH hcap.1 hcap.2 (by omega) (by omega)).mono fun e w' hh => ?_
    obtain ⟨rfl, q, rfl⟩ := hh
    have hH' := Sort.holds_ahead (Value.int .i64) w q b o ns.toArray hH
    have hsz : (ns.take i' ++ ns.drop j' ++ List.replicate (j' - i') (0 : Int)).toArray.size = ns.toArray.size := by simp; omega
    have hp := Sort.cell?_putRow (Value.int .i64) (Sort.ahead w q) b o ns.toArray _ hH' hsz
    have hlen : (ns.take i' ++ ns.drop j').length = ns.length - (j' - i') := by simp; omega
    refine out_row (b := b) (o := o) (cap := cap) (by rw [putRow_size]; exact hb) (hdom b (by simp [hf])).2 (.inr (by simp [hf])) (by simp; omega) ⟨by simp; omega, hcap.2⟩ ⟨fun q' hq' => ⟨?_, ?_⟩, ha.2.imp id fun h k => by rw [Sort.putRow, Sort.frozen?_mapBlock]; exact h k⟩ (fun q' hq' => ?_) (fun Xs => .other (by simp) (.other (by simp) (.other (by simp) .nil)))
      rfl rfl rfl (by rw [putRow_size]; exact Nat.le_refl _) (fun x hx h0 => ?_)
    · by_cases hq2 : q' < ns.length
      · rw [hp q' (by rw [hsz]; simpa using hq2)]; rfl
      · rw [Sort.cell?_putRow_other _ _ _ _ _ _ (.inr (.inr (by rw [hsz]; simp; omega)))]
        exact (ha.1 q' hq').1
    · rw [Sort.putRow, Sort.frozen?_mapBlock]
      exact (ha.1 q' hq').2
    · have hq2 : q' < (ns.take i' ++ ns.drop j').length := by simpa using hq'
      rw [hp q' (by rw [hsz]; simp; omega), List.getElem_map]
      have hq3 : q' < (ns.take i' ++ ns.drop j' ++ List.replicate (j' - i') (0 : Int)).length := by simp at hq2 ⊢; omega
      simp only [List.getElem!_toArray, List.getElem!_eq_getElem?_getD]
      rw [List.getElem?_append_left hq2, List.getElem?_eq_getElem hq2]
      simp
    · have hx' : x ≠ b := fun e => by subst e; simp [hf] at h0
      rw [putRow_heap _ _ _ _ _ hx']
      rfl

/-- A row of a block that was laid. -/
theorem avail_some {w : World} {b n : Nat} {c : Array Value} {t : TypeId} (h : w.heap[b]? = some (.cells c t)) (hn : n ≤ c.size) : Avail w b 0 n := by
  refine ⟨fun j hj => ⟨?_, ?_⟩, .inr fun k => ?_⟩
  · simp only [World.cell?, h]; simp; omega
  · simp [World.frozen?, h]
  · simp [World.frozen?, h]

theorem alloc_last (w : World) (ob : Obj) : (w.alloc ob).heap[w.heap.size]? = some ob := by
  show (w.heap.push ob)[w.heap.size]? = _
  simp
theorem alloc_size (w : World) (ob : Obj) : (w.alloc ob).heap.size = w.heap.size + 1 := by
  show (w.heap.push ob).size = _
  simp

theorem insert_sat {P : Program} {ρ : Go.Shelf.Ren} (L : Go.Proofs.Lays2.n21 P ρ) {I : Kpt} : SatF P I (ρ.f 21) extIns := by
  intro ps out h w C us φ hin hk
  unfold extIns at h
  split at h <;> try (simp at h; done)
  rename_i rows i more
  obtain ⟨ns, h1, h2⟩ := ob_some h
  obtain ⟨ms, h3, h4⟩ := ob_some h2
  split at h4 <;> simp only [Option.some.injEq, reduceCtorEq] at h4
  rename_i hij
  subst h4
  have := intsOf_eq h1
  subst this
  have := intsOf_eq h3
  subst this
  obtain ⟨hle, hdom, hlow, hargs⟩ := hin
  cases hargs with
  | @cons _ _ u1 us1 f1 g1 k1 t =>
  cases t with
  | @cons _ _ u2 us2 f2 g2 k2 t =>
  cases t with
  | @cons _ _ u3 us3 f3 g3 k3 t =>
  cases t
  obtain ⟨rfl, z2⟩ := arg_int0 k2
  obtain ⟨i', rfl⟩ := Int.eq_ofNat_of_zero_le hij.1
  simp only [Int.toNat_natCast]
  obtain ⟨_, hi, hm, hbig⟩ := hij
  have hi : i' ≤ ns.length := by omega
  have hbox : ∀ (w' : World) Xs, BoxRel w' Xs [.val false [.sl .own 1 (ns.map eI)], .val false [.int .i64 i'], .val false [.sl .own 1 (ms.map eI)]] [u1, .int .i64 i', u3] [] [] := fun w' Xs => .other (by simp) (.other (by simp) (.other (by simp) .nil))
  have h1v : ∀ v ∈ ms.map (Value.int .i64), v.oneCell' = true := fun v hv => by obtain ⟨_, _, rfl⟩ := List.mem_map.1 hv; rfl
  have h1c : ∀ v ∈ ns.map (Value.int .i64), v.oneCell' = true := fun v hv => by obtain ⟨_, _, rfl⟩ := List.mem_map.1 hv; rfl
  have hms : (ms.map (Value.int .i64)).length = ms.length := by simp
  have hns : (ns.map (Value.int .i64)).length = ns.length := by simp
  have hlen : (ns.take i' ++ (ms ++ ns.drop i')).length = ns.length + ms.length := by simp; omega
  have hmap : (ns.take i' ++ (ms ++ ns.drop i')).map (Value.int .i64) = (ns.map (Value.int .i64)).take i' ++ (ms.map (Value.int .i64) ++ (ns.map (Value.int .i64)).drop i') := by simp
  rcases arg_ints k3 with ⟨rfl, _, _⟩ | ⟨vb, vo, vcap, rfl, hvcap, hvb, hva, hvc, hf3⟩
  · simp at hm
  have cellsOf : ∀ {b o : Nat} {vals : List Value}, Cells w b o vals → ∀ j v, vals[j]? = some v → w.cell? ⟨b, o + j, none⟩ = some v := fun hc j v hj => by
    obtain ⟨hlt, e⟩ := List.getElem?_eq_some_iff.1 hj
    rw [hc j hlt, e]
  -- a new row
  have fresh : ∀ (N : Nat) (t : TypeId) (old : Nat) (w' : World) (c : Array Value), N = ns.length + ms.length → w'.heap[w.heap.size]? = some (.cells c t) → grownCap w N old t ≤ c.size → w'.heap.size = w.heap.size + 1 → w'.os = w.os → w'.tape = w.tape →
      w'.output = w.output → (∀ x, x < w.heap.size → w'.heap[x]? = w.heap[x]?) → Cells w' w.heap.size 0 ((ns.map (Value.int .i64)).take i' ++ (ms.map (Value.int .i64) ++ (ns.map (Value.int .i64)).drop i')) →
      CallOut w C [.val false [.sl .own 1 (ns.map eI)], .val false [.int .i64 i'], .val false [.sl .own 1 (ms.map eI)]] [u1, .int .i64 i', .slice (some ⟨vb, vo, none⟩) ms.length vcap] (fun x => f1 x + (f2 x + (f3 x + 0)))
        ⟨.pl false [.sl .own 1 ((ns.take i' ++ (ms ++ ns.drop i')).map eI)], []⟩ (.slice (some ⟨w.heap.size, 0, none⟩) N (grownCap w N old t)) w' := by
    intro N t old w' c hN hc hcs hsz hos htp ho hh hcell
    have hge := grownCap_ge w N old t
    have hmx := grownCap_le_maxLen w N old t (by unfold maxLen; omega)
    unfold maxLen at hmx
    exact out_row (b := w.heap.size) (o := 0) (cap := grownCap w N old t) (by omega) (fun hc => Nat.lt_irrefl _ (hlow _ hc)) (.inl (Nat.le_refl _)) (by rw [hlen, hN]) ⟨by omega, by omega⟩ (avail_some hc hcs) (by rw [hmap]; exact hcell) (hbox w') hos htp ho (by omega) (fun x hx _ => hh x hx)
  rcases arg_ints k1 with ⟨rfl, rfl, _⟩ | ⟨b, o, cap, rfl, hcap, hb, ha, hc, hf1⟩
  · have : i' = 0 := by simpa using hi
    subst this
    refine (Go.Proofs.Any2.slices_Insert_int_end_grow L none 0 0 vb vo ms.length vcap [] (ms.map (Value.int .i64)) w hm (Nat.le_refl _) (by omega) (by simpa using hbig) rfl hms (fun _ => rfl) (fun a h => by simp at h) (cellsOf hvc) h1v).mono fun e w' hh => ?_
    obtain ⟨rfl, rfl⟩ := hh
    simp only [Nat.zero_add]
    have hge := grownCap_ge w ms.length 0 (ρ.t 3)
    refine fresh ms.length (ρ.t 3) 0 _ _ (by simp) (alloc_last w.drew _) ?_ (alloc_size w.drew _) rfl rfl rfl (fun x hx => ?_) (fun j hj => ?_)
    · simp only [Array.size_append, size_zeroCells, show (Value.int .i64 0).cells.size = 1 from rfl, Nat.mul_one, List.size_toArray, List.length_append, List.length_map]
      omega
    · exact heap_alloc w.drew _ hx
    · rw [show w.heap.size = w.drew.heap.size from rfl, World.cell?_alloc_new]
      have hj' : j < ms.length := by simpa using hj
      simp [hj', Array.getElem?_append_left]
  · have hne : vb ≠ b := fun e => by subst e; have := hle vb; simp [hf1, hf3] at this; omega
    have hbC : ¬ C b := (hdom b (by simp [hf1])).2
    have hvsC : ∀ j v, (ms.map (Value.int .i64))[j]? = some v → w.cell? ⟨vb, vo + j, none⟩ = some v := cellsOf hvc
    have hcsC : ∀ j v, (ns.map (Value.int .i64))[j]? = some v → w.cell? ⟨b, o + j, none⟩ = some v := cellsOf hc
    have hpre : ∀ (q m : Nat), q + m ≤ cap → ∀ j, j < m → (w.cell? ⟨b, o + q + j, none⟩).isSome = true := fun q m hq j hj => by
      have := (ha.1 (q + j) (by omega)).1
      rwa [← Nat.add_assoc] at this
    have hsplit := (Cells.app (u := (ns.map (Value.int .i64)).take i') (v := (ns.map (Value.int .i64)).drop i')).1 (by rw [List.take_append_drop]; exact hc)
    have htl : ((ns.map (Value.int .i64)).take i').length = i' := by simp; omega
    have hdl : ((ns.map (Value.int .i64)).drop i').length = ns.length - i' := by simp
    rw [htl] at hsplit
    -- the row as it was, with cells written
    have room : ∀ (w' : World), ns.length + ms.length ≤ cap → w'.heap.size = w.heap.size → (∀ a, w'.frozen? a = w.frozen? a) → (∀ j, j < cap → (w'.cell? ⟨b, o + j, none⟩).isSome = true) → w'.os = w.os → w'.tape = w.tape → w'.output = w.output →
        (∀ x, x ≠ b → w'.heap[x]? = w.heap[x]?) → Cells w' b o ((ns.map (Value.int .i64)).take i' ++ (ms.map (Value.int .i64) ++ (ns.map (Value.int .i64)).drop i')) →
        CallOut w C [.val false [.sl .own 1 (ns.map eI)], .val false [.int .i64 i'], .val false [.sl .own 1 (ms.map eI)]] [.slice (some ⟨b, o, none⟩) ns.length cap, .int .i64 i', .slice (some ⟨vb, vo, none⟩) ms.length vcap] (fun x => f1 x + (f2 x + (f3 x + 0)))
          ⟨.pl false [.sl .own 1 ((ns.take i' ++ (ms ++ ns.drop i')).map eI)], []⟩ (.slice (some ⟨b, o, none⟩) (ns.length + ms.length) cap) w' := by
      intro w' hr hsz hfz hpr hos htp ho hh hcell
      refine out_row (b := b) (o := o) (cap := cap) (by omega) hbC (.inr (by simp [hf1])) (by rw [hlen]) ⟨by omega, hcap.2⟩ ⟨fun j hj => ⟨hpr j hj, by rw [hfz]; exact (ha.1 j hj).2⟩, ha.2.imp id fun h k => by rw [hfz]; exact h k⟩ (by rw [hmap]; exact hcell) (hbox w') hos htp ho (by omega) (fun x hx h0 => hh x fun e => by subst e; simp [hf1] at h0)
    by_cases hin : i' < ns.length
    · by_cases hroom : ns.length + ms.length ≤ cap
      · -- in place
        obtain ⟨cv, tv, frv, hv1⟩ := Sort.cells_of_cell? (hvc 0 (by simpa using hm))
        obtain ⟨cb, tb, frb, hb1, hb2⟩ := Sort.cells_of_cell? (hc 0 (by simp; omega))
        have hv2 : ∀ k, w.frozen? ⟨vb, k, none⟩ = false := hva.2.resolve_left (by decide)
        refine (Go.Proofs.Any2.slices_Insert_int_shift L b o ns.length cap i' vb vo ms.length vcap (ns.map (Value.int .i64)) (ms.map (Value.int .i64)) w hin hm hroom hcap.2 hne hns hms hcsC (fun j hj => (ha.1 j (by omega)).1) (fun j hj => (ha.1 j (by omega)).2) hvsC h1c h1v
          tv tb cv.size cb.size (by simp [World.shape?, hv1.1]) (by simp [World.shape?, hb1]) (by obtain ⟨hlt, _⟩ := Array.getElem?_eq_some_iff.1 hb2; omega) (hv2 _) (hv2 _)).mono fun e w' hh => ?_
        obtain ⟨rfl, rfl⟩ := hh
        have p1 : ∀ j, j < ((ns.map (Value.int .i64)).drop i').length → (w.drew.cell? ⟨b, o + (i' + ms.length) + j, none⟩).isSome = true := fun j hj => hpre (i' + ms.length) (ns.length - i') (by omega) j (by rw [hdl] at hj; exact hj)
        have p2 : ∀ j, j < (ms.map (Value.int .i64)).length → ((w.drew.setCells b (o + (i' + ms.length)) ((ns.map (Value.int .i64)).drop i')).cell? ⟨b, o + i' + j, none⟩).isSome = true := fun j hj =>
          isSome_setCells _ _ _ rfl p1 (hpre i' ms.length (by omega) j (by rw [hms] at hj; exact hj))
        refine room _ hroom (by rw [size_setCells, size_setCells]; rfl) (fun a => by rw [World.frozen?_setCells, World.frozen?_setCells]; rfl) (fun j hj => isSome_setCells _ _ _ rfl p2 (isSome_setCells _ _ _ rfl p1 (ha.1 j hj).1))
          ((os_setCells _ _ _).1.trans (os_setCells _ _ _).1) ((os_setCells _ _ _).2.1.trans (os_setCells _ _ _).2.1) ((os_setCells _ _ _).2.2.trans (os_setCells _ _ _).2.2) (fun x hx => by rw [heap_setCells hx, heap_setCells hx]; rfl) ?_
        rw [Cells.app, Cells.app, htl, hms]
        refine ⟨fun j hj => ?_, fun j hj => World.cell?_setCells_in b _ _ _ p2 j hj, fun j hj => ?_⟩
        · rw [World.cell?_setCells_out _ _ _ _ _ (fun _ _ => .inl (by dsimp only; omega)), World.cell?_setCells_out _ _ _ _ _ (fun _ _ => .inl (by dsimp only; omega))]
          exact hsplit.1 j hj
        · rw [World.cell?_setCells_out _ _ _ _ _ (fun _ _ => .inr (by dsimp only; omega))]
          have := World.cell?_setCells_in b _ _ _ p1 j hj
          rw [show o + i' + ms.length + j = o + (i' + ms.length) + j by omega]
          exact this
      · refine (Go.Proofs.Any2.slices_Insert_int_grow L b o ns.length cap i' vb vo ms.length vcap (ns.map (Value.int .i64)) (ms.map (Value.int .i64)) w hin hm hcap.1 (by omega) hbig hns hms hcsC hvsC h1c h1v).mono fun e w' hh => ?_
        obtain ⟨rfl, rfl⟩ := hh
        have hge := grownCap_ge w (ns.length + ms.length) cap (ρ.t 3)
        generalize hcc : ((ns.map (Value.int .i64)).take i').toArray ++ Builtin.zeroCells (Value.int .i64 0).cells (ns.length + ms.length - i') ++ Builtin.zeroCells (Value.int .i64 0).cells (grownCap w (ns.length + ms.length) cap (ρ.t 3) - (ns.length + ms.length)) = cc
        have hone : (Value.int .i64 0).cells.size = 1 := rfl
        have hcz : cc.size = grownCap w (ns.length + ms.length) cap (ρ.t 3) := by
          rw [← hcc]
          simp only [Array.size_append, size_zeroCells, hone, List.size_toArray, htl]
          omega
        have hnew : ∀ j, j < cc.size → ((w.alloc (.cells cc (ρ.t 3))).drew.cell? ⟨w.heap.size, j, none⟩).isSome = true := fun j hj => by
          rw [show ((w.alloc (.cells cc (ρ.t 3))).drew).cell? ⟨w.heap.size, j, none⟩ = (w.alloc (.cells cc (ρ.t 3))).cell? ⟨w.heap.size, j, none⟩ from rfl, World.cell?_alloc_new]
          simp [hj]
        have p1 : ∀ j, j < (ms.map (Value.int .i64)).length → ((w.alloc (.cells cc (ρ.t 3))).drew.cell? ⟨w.heap.size, i' + j, none⟩).isSome = true := fun j hj => hnew _ (by rw [hms] at hj; omega)
        have p2 : ∀ j, j < ((ns.map (Value.int .i64)).drop i').length → ((((w.alloc (.cells cc (ρ.t 3))).drew.setCells w.heap.size i' (ms.map (Value.int .i64))).drew).cell? ⟨w.heap.size, i' + ms.length + j, none⟩).isSome = true := fun j hj =>
          isSome_setCells _ _ _ rfl p1 (hnew _ (by rw [hdl] at hj; omega))
        show CallOut w C _ _ _ _ _ _
        have hsh : ∃ c2, ((((w.alloc (.cells cc (ρ.t 3))).drew.setCells w.heap.size i' (ms.map (Value.int .i64))).drew).setCells w.heap.size (i' + ms.length) ((ns.map (Value.int .i64)).drop i')).heap[w.heap.size]? = some (.cells c2 (ρ.t 3)) ∧ c2.size = cc.size := by
          have key : ∀ (vs : List Value) (q : Nat) (v : World), (∃ c2, v.heap[w.heap.size]? = some (.cells c2 (ρ.t 3)) ∧ c2.size = cc.size) → ∃ c2, (v.setCells w.heap.size q vs).heap[w.heap.size]? = some (.cells c2 (ρ.t 3)) ∧ c2.size = cc.size := by
            intro vs
            induction vs with
            | nil => intro q v h; exact h
            | cons x vs ih =>
              intro q v ⟨c2, h1, h2⟩
              rw [World.setCells]
              refine ih (q + 1) _ ⟨c2.setIfInBounds q x, ?_, by simpa using h2⟩
              rw [Sort.setCell_eq]
              simp [Sort.mapBlock, Array.getElem?_modify, h1, Sort.onCells]
          exact key _ _ _ (key _ _ _ ⟨cc, alloc_last w _, rfl⟩)
        obtain ⟨c2, hc2, hc2s⟩ := hsh
        refine fresh (ns.length + ms.length) (ρ.t 3) cap _ c2 rfl hc2 (by omega) (by rw [size_setCells]; show (World.setCells _ _ _ _).heap.size = _; rw [size_setCells]; exact alloc_size w _) ?_ ?_ ?_ (fun x hx => ?_) ?_
        · exact (os_setCells _ _ _).1.trans (os_setCells _ _ _).1
        · exact (os_setCells _ _ _).2.1.trans (os_setCells _ _ _).2.1
        · exact (os_setCells _ _ _).2.2.trans (os_setCells _ _ _).2.2
        · rw [heap_setCells (by omega)]
          show (World.setCells _ _ _ _).heap[x]? = _
          rw [heap_setCells (by omega)]
          exact heap_alloc w _ hx
        · rw [Cells.app, Cells.app, htl, hms]
          simp only [Nat.zero_add]
          refine ⟨fun j hj => ?_, fun j hj => ?_, fun j hj => World.cell?_setCells_in _ _ _ _ p2 j hj⟩
          · rw [World.cell?_setCells_out _ _ _ _ _ (fun _ _ => .inl (by dsimp only; omega))]
            show (World.setCells _ _ _ _).cell? _ = _
            rw [World.cell?_setCells_out _ _ _ _ _ (fun _ _ => .inl (by dsimp only; omega))]
            show (w.alloc (.cells cc (ρ.t 3))).cell? _ = _
            rw [World.cell?_alloc_new, ← hcc]
            simp only [Nat.zero_add]
            rw [Array.getElem?_append_left (by simp [size_zeroCells, hone]; omega), Array.getElem?_append_left (by simp; omega)]
            rw [List.getElem?_toArray]
            exact List.getElem?_eq_getElem hj
          · rw [World.cell?_setCells_out _ _ _ _ _ (fun _ _ => .inl (by dsimp only; rw [hms] at hj; omega))]
            exact World.cell?_setCells_in _ _ _ _ p1 j hj
    · have hi2 : i' = ns.length := by omega
      subst hi2
      have hd0 : (ns.map (Value.int .i64)).drop ns.length = [] := by simp
      have ht0 : (ns.map (Value.int .i64)).take ns.length = ns.map (Value.int .i64) := by rw [← hns, List.take_length]
      by_cases hroom : ns.length + ms.length ≤ cap
      · refine (Go.Proofs.Any2.slices_Insert_int_end_room L b o ns.length cap vb vo ms.length vcap (ms.map (Value.int .i64)) w hm hroom hcap.2 hms (fun j hj => hpre ns.length ms.length hroom j hj) (fun j hj => by rw [Nat.add_assoc]; exact (ha.1 (ns.length + j) (by omega)).2) hvsC h1v).mono fun e w' hh => ?_
        obtain ⟨rfl, rfl⟩ := hh
        have p1 : ∀ j, j < (ms.map (Value.int .i64)).length → (w.cell? ⟨b, o + ns.length + j, none⟩).isSome = true := fun j hj => hpre ns.length ms.length hroom j (by rw [hms] at hj; exact hj)
        refine room _ hroom (by rw [size_setCells]) (fun a => by rw [World.frozen?_setCells]) (fun j hj => isSome_setCells _ _ _ rfl p1 (ha.1 j hj).1) (os_setCells _ _ _).1 (os_setCells _ _ _).2.1 (os_setCells _ _ _).2.2 (fun x hx => heap_setCells hx _ _ _) ?_
        rw [hd0, List.append_nil, Cells.app, htl]
        refine ⟨fun j hj => ?_, fun j hj => World.cell?_setCells_in b _ _ _ p1 j hj⟩
        rw [World.cell?_setCells_out _ _ _ _ _ (fun _ _ => .inl (by dsimp only; omega))]
        exact hsplit.1 j hj
      · refine (Go.Proofs.Any2.slices_Insert_int_end_grow L (some ⟨b, o, none⟩) ns.length cap vb vo ms.length vcap (ns.map (Value.int .i64)) (ms.map (Value.int .i64)) w hm hcap.1 (by omega) hbig hns hms (fun h => by cases h) (fun a h j v hj => ?_) hvsC h1v).mono fun e w' hh => ?_
        · cases h
          have := hcsC j v hj
          simpa [Addr.add_lit] using this
        · obtain ⟨rfl, rfl⟩ := hh
          have hge := grownCap_ge w (ns.length + ms.length) cap (ρ.t 3)
          refine fresh (ns.length + ms.length) (ρ.t 3) cap _ _ rfl (alloc_last w.drew _) ?_ (alloc_size w.drew _) rfl rfl rfl (fun x hx => ?_) (fun j hj => ?_)
          · simp only [Array.size_append, size_zeroCells, show (Value.int .i64 0).cells.size = 1 from rfl, Nat.mul_one, List.size_toArray, List.length_append, List.length_map]
            omega
          · exact heap_alloc w.drew _ hx
          · rw [show w.heap.size = w.drew.heap.size from rfl, World.cell?_alloc_new]
            simp only [hd0, ht0, List.append_nil, Nat.zero_add] at hj ⊢
            rw [Array.getElem?_append_left (by simpa using hj)]
            simp [List.getElem?_eq_getElem hj]
end Go.Fw
namespace Go.Fw
open Go

theorem mapInj {α : Type} {e : α → List AC} (he : ∀ a b, e a = e b → a = b) {xs ys : List α} (h : xs.map e = ys.map e) : xs = ys := (List.map_inj_right (fun a b => he a b)).1 h
theorem eI_inj : ∀ a b, eI a = eI b → a = b := by intro a b h; simpa [eI] using h
theorem eU8_inj : ∀ a b, eU8 a = eU8 b → a = b := by intro a b h; simpa [eU8] using h
theorem eB_inj : ∀ a b, eB a = eB b → a = b := by intro a b h; simpa [eB] using h
theorem eS_inj : ∀ a b, eS a = eS b → a = b := by intro a b h; simpa [eS] using h
theorem copyRows_bor {more : List (List AC)} (h : brwLL more = more) : copyRows .bor [] more = some more := by unfold copyRows; split <;> simp [h]
theorem meI_frz (xs : List Int) : frzLL (xs.map eI) = xs.map eI := by rw [frzLL_map, List.map_map]; rfl
theorem meI_brw (xs : List Int) : brwLL (xs.map eI) = xs.map eI := by rw [brwLL_map, List.map_map]; rfl
theorem meI_cln (xs : List Int) : clnLL (xs.map eI) = true := by rw [clnLL_all, List.all_map]; exact List.all_eq_true.2 fun x _ => rfl
theorem meI_flat (xs : List Int) : flatLL (xs.map eI) = true := by rw [flatLL, List.all_map]; exact List.all_eq_true.2 fun x _ => rfl
theorem meU8_frz (xs : List Int) : frzLL (xs.map eU8) = xs.map eU8 := by rw [frzLL_map, List.map_map]; rfl
theorem meU8_brw (xs : List Int) : brwLL (xs.map eU8) = xs.map eU8 := by rw [brwLL_map, List.map_map]; rfl
theorem meU8_cln (xs : List Int) : clnLL (xs.map eU8) = true := by rw [clnLL_all, List.all_map]; exact List.all_eq_true.2 fun x _ => rfl
theorem meU8_flat (xs : List Int) : flatLL (xs.map eU8) = true := by rw [flatLL, List.all_map]; exact List.all_eq_true.2 fun x _ => rfl
theorem meB_frz (xs : List Bool) : frzLL (xs.map eB) = xs.map eB := by rw [frzLL_map, List.map_map]; rfl
theorem meB_brw (xs : List Bool) : brwLL (xs.map eB) = xs.map eB := by rw [brwLL_map, List.map_map]; rfl
theorem meB_cln (xs : List Bool) : clnLL (xs.map eB) = true := by rw [clnLL_all, List.all_map]; exact List.all_eq_true.2 fun x _ => rfl
theorem meB_flat (xs : List Bool) : flatLL (xs.map eB) = true := by rw [flatLL, List.all_map]; exact List.all_eq_true.2 fun x _ => rfl
theorem meS_frz (xs : List Str) : frzLL (xs.map eS) = xs.map eS := by rw [frzLL_map, List.map_map]; rfl
theorem meS_brw (xs : List Str) : brwLL (xs.map eS) = xs.map eS := by rw [brwLL_map, List.map_map]; rfl
theorem meS_cln (xs : List Str) : clnLL (xs.map eS) = true := by rw [clnLL_all, List.all_map]; exact List.all_eq_true.2 fun x _ => rfl
theorem meS_flat (xs : List Str) : flatLL (xs.map eS) = true := by rw [flatLL, List.all_map]; exact List.all_eq_true.2 fun x _ => rfl
attribute [go_sem] meI_frz meI_brw meI_cln meI_flat meU8_frz meU8_brw meU8_cln meU8_flat meB_frz meB_brw meB_cln meB_flat meS_frz meS_brw meS_cln meS_flat

theorem castLit (n : Nat) : ((no_index (OfNat.ofNat n) : Nat) : Int) = OfNat.ofNat n := rfl
attribute [go_sem] castLit
theorem toNat0 : Int.toNat 0 = 0 := rfl
theorem clnLL_append (a b : List (List AC)) : clnLL (a ++ b) = (clnLL a && clnLL b) := by simp [clnLL_all]
theorem frzLL_append (a b : List (List AC)) : frzLL (a ++ b) = frzLL a ++ frzLL b := by simp [frzLL_map]
theorem brwLL_append (a b : List (List AC)) : brwLL (a ++ b) = brwLL a ++ brwLL b := by simp [brwLL_map]
theorem frzLL_set (a : List (List AC)) (i : Nat) (r : List AC) : frzLL (a.set i r) = (frzLL a).set i (frzL r) := by simp [frzLL_map, List.map_set]
theorem brwLL_set (a : List (List AC)) (i : Nat) (r : List AC) : brwLL (a.set i r) = (brwLL a).set i (brwL r) := by simp [brwLL_map, List.map_set]
theorem clnLL_set {a : List (List AC)} {i : Nat} {r : List AC} (h : clnLL a = true) (k : clnL r = true) : clnLL (a.set i r) = true := by
  rw [clnLL_all] at h ⊢
  refine List.all_eq_true.2 fun x hx => ?_
  rcases List.mem_or_eq_of_mem_set hx with hx | rfl
  · exact List.all_eq_true.1 h x hx
  · exact k
theorem clnLL_take {a : List (List AC)} {n : Nat} (h : clnLL a = true) : clnLL (a.take n) = true := by
  rw [clnLL_all] at h ⊢
  exact List.all_eq_true.2 fun x hx => List.all_eq_true.1 h x (List.mem_of_mem_take hx)
theorem clnLL_drop {a : List (List AC)} {n : Nat} (h : clnLL a = true) : clnLL (a.drop n) = true := by
  rw [clnLL_all] at h ⊢
  exact List.all_eq_true.2 fun x hx => List.all_eq_true.1 h x (List.mem_of_mem_drop hx)
theorem frzLL_take (a : List (List AC)) (n : Nat) : frzLL (a.take n) = (frzLL a).take n := by simp [frzLL_map]
theorem frzLL_drop (a : List (List AC)) (n : Nat) : frzLL (a.drop n) = (frzLL a).drop n := by simp [frzLL_map]
theorem brwLL_take (a : List (List AC)) (n : Nat) : brwLL (a.take n) = (brwLL a).take n := by simp [brwLL_map]
theorem brwLL_drop (a : List (List AC)) (n : Nat) : brwLL (a.drop n) = (brwLL a).drop n := by simp [brwLL_map]
attribute [go_sem] clnLL_append frzLL_append brwLL_append frzLL_set brwLL_set clnLL_set clnLL_take clnLL_drop frzLL_take frzLL_drop brwLL_take brwLL_drop Int.le_refl Int.toNat_natCast
attribute [go_sem] toNat0 Nat.sub_zero List.length_take List.length_drop
attribute [go_sem] List.map_replicate List.map_set List.getElem?_cons_zero List.getElem?_cons_succ List.set_cons_zero List.set_cons_succ

/-- What strconv.Atoi gives back: the number, and whether there is no error. -/
def atoiP (s : List UInt8) : Int × Bool := match Lib.atoiAll s with
  | .ok v => (v, true)
  | .range => (Lib.atoiSat s, false)
  | _ => (0, false)

theorem Fn.ofExt {β : Type} {T : Tab} {Γ : Gam} (hΓ : Γ = Lim T) {f : FuncId} {ps : List PA} {enc : β → AOut} {b : β} (hi : ∀ a b, enc a = enc b → a = b) (hf : T.fi f = none) (h : T.ext f ps = some (enc b)) : Fn Γ f ps enc = some b := by
  subst hΓ
  refine Fn.out hi ?_
  exact Lim_iff.2 ⟨1, by simp only [callN, hf]; exact h⟩
end Go.Fw
namespace Go.Fw
open Go

section
variable {H : Type} {enc : TypeId × Value → H} {P : Program} {w : World} {Xs Xb : Nat → Prop}

theorem cells_some {base n : Nat} {a : Addr} {cs : List Value} (h : w.cells? base a n = some cs) : cs.length = n ∧ ∀ i, i < n → w.cell? (a.add i) = cs[i]? := by
  unfold World.cells? at h
  split at h
  · exact ⟨by simpa using mapM_some_length h, fun i hi => by
      have := mapM_some_get h i i (by simp [hi])
      simpa using this⟩
  · cases h

theorem cell_plain {a : Addr} {v : Value} (h : w.cell? a = some v) : a.spot = none ∧ a.block < w.heap.size := by
  unfold World.cell? at h
  split at h
  · rename_i c e f hc
    refine ⟨?_, (Array.getElem?_eq_some_iff.1 hc).1⟩
    by_cases hs : a.spot.isSome
    · simp [hs] at h
    · simpa using hs
  · cases h

theorem rep_app {cs ds : List AC} {us vs : List Value} (h : RepL w Xs Xb cs us (fun _ => 0)) (k : RepL w Xs Xb ds vs (fun _ => 0)) : RepL w Xs Xb (cs ++ ds) (us ++ vs) (fun _ => 0) :=
  (h.append k).cast fun _ => rfl

/-- A row whose elements read one by one is a row that may be read. -/
theorem read_row {α : Type} {t e : TypeId} {sz fuel : Nat} {cs : List Value} {x : DataW H × List MemPlace} (enc' : α → List AC) (Q : α → Prop) (hX : ∀ b, b < w.heap.size → Xs b)
    (ht : P.underlying t = some (.slice e)) (hc : P.cellsOf e = sz) (h0 : 0 < sz)
    (hel : ∀ n, n < fuel → ∀ (cs : List Value) (y : DataW H × List MemPlace), DataW.trod enc P w 0 (fun _ => true) true n e cs = some y → ∃ a, RepL w Xs Xs (enc' a) cs (fun _ => 0) ∧ Q a ∧ (enc' a).length = sz)
    (h : DataW.trod enc P w 0 (fun _ => true) true fuel t cs = some x) :
    ∃ xs : List α, (∀ a ∈ xs, Q a) ∧ xs.length ≤ 9223372036854775807 ∧ RepL w Xs Xb [.sl .sh sz (xs.map enc')] cs (fun _ => 0) := by
  rcases DataW.trod_slice ht h with ⟨rfl, _⟩ | ⟨a, len, cap, elems, rest, n, rfl, rfl, rfl, _, hl, hm, hlen, hE, hR, _⟩
  · exact ⟨[], by simp, by simp, .sc (Emp.nil _) .nil⟩
  · rw [hc] at hE hR
    by_cases hcap : cap = 0
    · subst hcap
      have : len = 0 := by omega
      subst this
      exact ⟨[], by simp, by simp, .sc (.inr ⟨by decide, a, rfl⟩) .nil⟩
    · -- a cell of the block
      have hat : ∃ v, w.cell? a = some v := by
        have one : ∀ (o : Option (DataW H × List MemPlace)), (w.cells? 0 (a.add (0 * sz)) sz).bind (DataW.trod enc P w 0 (fun _ => true) true n e) = o → o.isSome = true → ∃ v, w.cell? a = some v := by
          intro o ho hs
          rw [Nat.zero_mul] at ho
          cases hcs : w.cells? 0 (a.add 0) sz with
          | none => rw [hcs] at ho; subst ho; simp at hs
          | some c =>
            obtain ⟨k1, k2⟩ := cells_some hcs
            have := k2 0 h0
            have e0 : (a.add 0).add 0 = a := rfl
            rw [e0] at this
            exact ⟨c[0]'(by omega), by rw [this, List.getElem?_eq_getElem (by omega)]⟩
        by_cases hl0 : len = 0
        · subst hl0
          obtain ⟨r1, r2⟩ := hR rfl
          exact one _ (by simpa using r2 0 (by omega)) (by rw [List.getElem?_eq_getElem (by omega)]; rfl)
        · exact one _ (hE 0 (by omega)) (by rw [List.getElem?_eq_getElem (by omega)]; rfl)
      obtain ⟨v0, hv0⟩ := hat
      obtain ⟨hs, hb⟩ := cell_plain hv0
      obtain ⟨b, o, sp⟩ := a
      simp only at hs hb
      subst hs
      -- the elements, from the first on
      have go : ∀ k, k ≤ len → ∃ (xs : List α) (vals : List Value), xs.length = k ∧ vals.length = k * sz ∧ (∀ a ∈ xs, Q a ∧ (enc' a).length = sz) ∧ RepL w Xs Xs (xs.map enc').flatten vals (fun _ => 0) ∧ Cells w b o vals := by
        intro k
        induction k with
        | zero => intro _; exact ⟨[], [], rfl, by simp, by simp, .nil, fun j hj => by simp at hj⟩
        | succ k ih =>
          intro hk
          obtain ⟨xs, vals, g1, g2, g3, g4, g5⟩ := ih (by omega)
          have hEk := hE k (by omega)
          rw [List.getElem?_eq_getElem (by omega)] at hEk
          obtain ⟨c, hc1, hc2⟩ := Option.bind_eq_some_iff.1 hEk
          obtain ⟨k1, k2⟩ := cells_some hc1
          obtain ⟨y, hy1, hy2, hy3⟩ := hel n (by omega) c _ hc2
          refine ⟨xs ++ [y], vals ++ c, by simp [g1], by rw [List.length_append, g2, k1, Nat.succ_mul], ?_, ?_, ?_⟩
          · intro a ha
            rcases List.mem_append.1 ha with h | h
            · exact g3 a h
            · rw [List.mem_singleton] at h; subst h; exact ⟨hy2, hy3⟩
          · rw [List.map_append, List.flatten_append]
            exact rep_app g4 (by simpa using hy1)
          · rw [Cells.app, g2]
            refine ⟨g5, fun j hj => ?_⟩
            have := k2 j (by omega)
            rw [Addr.add_lit, Addr.add_lit] at this
            rw [this, List.getElem?_eq_getElem hj]
      obtain ⟨xs, vals, g1, g2, g3, g4, g5⟩ := go len (Nat.le_refl _)
      refine ⟨xs, fun a ha => (g3 a ha).1, by unfold maxLen at hm; omega, .sh (by simp [g1]) hl h0 ?_ (hX b hb) g5 g4 .nil⟩
      intro r hr
      obtain ⟨a, ha, rfl⟩ := List.mem_map.1 hr
      exact (g3 a ha).2
end
end Go.Fw
