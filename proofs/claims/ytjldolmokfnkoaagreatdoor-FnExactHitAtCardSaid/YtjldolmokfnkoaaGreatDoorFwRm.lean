/- The framework, part Rm: maps of numbers to truth values. Conditions: none. -/
import Derived.Test.YtjldolmokfnkoaaGreatDoorFwQ
namespace Go.Fw
open Go

def mfind : List (Int × Bool) → Int → Option (Nat × Bool)
  | [], _ => none
  | (k, b) :: es, n => if n = k then some (0, b) else match mfind es n with | some (j, c) => some (j + 1, c) | none => none
theorem mget_find : ∀ (es : List (Int × Bool)) (n : Int), mget es n = match mfind es n with | some (_, b) => b | none => false
  | [], n => rfl
  | (k, b) :: es, n => by
    simp only [mget, mfind]
    split
    · rfl
    · rw [mget_find es n]
      cases mfind es n <;> rfl
theorem mput_find : ∀ (es : List (Int × Bool)) (n : Int) (b : Bool), mput es n b = match mfind es n with | some (j, _) => es.set j (n, b) | none => es ++ [(n, b)]
  | [], n, b => rfl
  | (k, c) :: es, n, b => by
    simp only [mput, mfind]
    split
    · rfl
    · rw [mput_find es n b]
      cases h : mfind es n with
      | none => rfl
      | some x => rfl
theorem mfind_lt : ∀ {es : List (Int × Bool)} {n : Int} {j : Nat} {b : Bool}, mfind es n = some (j, b) → es[j]? = some (n, b)
  | [], n, j, b, h => by simp [mfind] at h
  | (k, c) :: es, n, j, b, h => by
    simp only [mfind] at h
    split at h
    · rename_i e; simp at h; obtain ⟨rfl, rfl⟩ := h; simp [e]
    · split at h <;> simp at h
      rename_i j' c' hh
      obtain ⟨rfl, rfl⟩ := h
      simpa using mfind_lt hh

def entryPair (e : MapEntry) : Value × Value := (e.key, e.val)
def pairOf (e : Int × Bool) : Value × Value := (.int .i64 e.1, .bool e.2)

theorem findNow_es (n : Int) : ∀ (l : List MapEntry) (es : List (Int × Bool)) (i : Nat), l.map entryPair = es.map pairOf →
    Instr.findNow (.int .i64) (.int .i64 n) l i = some (match mfind es n with | some (j, b) => some (i + j, .bool b) | none => none)
  | [], [], i, _ => rfl
  | [], _ :: _, i, h => by simp at h
  | _ :: _, [], i, h => by simp at h
  | e :: l, (k, b) :: es, i, h => by
    simp only [List.map_cons, List.cons.injEq, entryPair, pairOf, Prod.mk.injEq] at h
    obtain ⟨⟨h1, h2⟩, h3⟩ := h
    simp only [Instr.findNow, h1, Instr.sameNow, if_true, mfind]
    by_cases e0 : n = k
    · subst e0
      simp [h2]
    · have : (n == k) = false := by simpa using e0
      rw [this, if_neg e0]
      simp only
      rw [findNow_es n l es (i + 1) h3]
      cases mfind es n with
      | none => rfl
      | some x => obtain ⟨j, c⟩ := x; simp; omega

section
variable {P : Program} {E : Env} {v : Res → Val} {o : Oper} {a : Act} {w : World} {β : Nat → Nat} {φ : Res → Foot}

/-- A map type of numbers to truth values. -/
def mapTy (P : Program) (t : TypeId) : Bool :=
  match P.underlying t with
  | some (.map k e) => (match P.underlying k with | some (.int .i64) => true | _ => false) && (match (P.info? e).bind (·.zero) with | some (.bool false) => true | _ => false)
  | _ => false
theorem mapTy_spec {t : TypeId} (h : mapTy P t = true) : ∃ k e, P.underlying t = some (.map k e) ∧ P.underlying k = some (.int .i64) ∧ ∀ w, (zeroValue e).run P w = .ok (.bool false) w := by
  unfold mapTy at h
  split at h <;> try (simp at h; done)
  rename_i k e hu
  simp only [Bool.and_eq_true] at h
  refine ⟨k, e, hu, ?_, fun w => ?_⟩
  · have := h.1
    split at this <;> simp_all
  · have h2 := h.2
    split at h2 <;> try (simp at h2; done)
    rename_i hz
    obtain ⟨i, hi, hz⟩ := Option.bind_eq_some_iff.1 hz
    simp [zeroValue, typeInfo, hi, hz]

theorem mapAt_sound (h : RelW E v (tmv a) w β φ) {m : Nat} {rs : List Rt} {q : Nat} {es : List (Int × Bool)} (hm : mapAt v m rs q = some es) :
    v (.t q) = .t [] (.mp es) ∧ tmv a m = tmv a q ∧ ∃ b ents clock, tmv a q = .map (some b) ∧ w.heap[b]? = some (.map ents clock) ∧ ents.toList.map entryPair = es.map pairOf ∧ φ (.t q) = fun x => if x = b then 1 else 0 := by
  unfold mapAt at hm
  by_cases hc : nameOf v m rs q = true
  case neg => rw [if_neg hc] at hm; simp at hm
  rw [if_pos hc] at hm
  split at hm <;> try (simp at hm; done)
  rename_i es' hv
  simp only [Option.some.injEq] at hm
  subst hm
  obtain ⟨b, ents, clock, e1, e2, e3, e4⟩ := h.ent q _ _ hv (by intro p hp; simp at hp)
  refine ⟨hv, ?_, b, ents, clock, e1, e2, e3, e4⟩
  simp only [nameOf, Bool.or_eq_true, beq_iff_eq] at hc
  rcases hc with rfl | hc
  · rfl
  · split at hc <;> try (simp at hc; done)
    rename_i st q' off hv'
    simp only [Bool.and_eq_true, decide_eq_true_eq] at hc
    obtain ⟨rfl, hst⟩ := hc
    obtain ⟨_, _, h2⟩ := h.ent m _ _ hv' (stOk_spec hst).1
    exact h2.2

theorem checkKey_int {k : TypeId} (hk : P.underlying k = some (.int .i64)) (emp : Bool) (n : Int) (w : World) : (Instr.checkKey emp 10000 k (.int .i64 n)).run P w = .ok () w := by
  exact MapKept.run_checkKey (n := 9999) hk (show MapKept.IsKey (.int .i64) (.int .i64 n) from rfl) emp

theorem findKey_run {k : TypeId} (hk : P.underlying k = some (.int .i64)) {l : List MapEntry} {es : List (Int × Bool)} (he : l.map entryPair = es.map pairOf) (n : Int) (w : World) :
    (Instr.findKey k (.int .i64 n) l).run P w = .ok (match mfind es n with | some (j, b) => some (j, .bool b) | none => none) w := by
  have := findNow_es n l es 0 he
  simp only [Instr.findKey, Sem.run_bind, run_underlying hk, Result.andThen_ok, this]
  cases mfind es n with
  | none => rfl
  | some x => obtain ⟨j, c⟩ := x; simp

theorem mlook_sound {Γ : Gam} (h : RelW E v (tmv a) w β φ) (hC : ∀ b, E.C b → b < E.w0.heap.size) {d m q : Nat} {rs : List Rt} {k : Opr} {y : Operand} {t : TypeId} (hop : o.op = .lookup t (.tmp m) y false) (hd : o.dst = some d) (hN : d < a.tmps.size)
    (ht : mapTy P t = true) (hky : oprOk k y = true) {ws : List (Res × Val)} (hf : fop Γ v (.mlook d m rs q k) = some ws) : OpSound P E (appl v ws) o a w := by
  obtain ⟨es, h0, h1⟩ := ob_some hf
  obtain ⟨c, h2, h3⟩ := ob_some h1
  try dsimp only at h3
  split at h3 <;> simp only [Option.some.injEq, reduceCtorEq] at h3
  subst h3
  obtain ⟨hv, hmq, b, ents, clock, e1, e2, e3, e4⟩ := mapAt_sound h h0
  obtain ⟨kt, et, t1, t2, t3⟩ := mapTy_spec ht
  have hz := sca_val h hky h2 rfl
  simp only [Scal] at hz
  rename_i n
  have hev : a.eval (.tmp m) = .map (some b) := by show tmv a m = _; rw [hmq, e1]
  refine .plain h hC hd hN (u := .bool (mget es n)) ?_ rfl
  have hck := checkKey_int (P := P) t2 ents.isEmpty n w
  have hfk := findKey_run (P := P) t2 e3 n w
  rw [mget_find]
  simp only [execOp, hop, hev, hz]
  cases hm : mfind es n with
  | none =>
    rw [hm] at hfk
    simp [Instr.lookup, run_underlying t1, MapKept.run_getObj_map e2, hck, hfk, t3, Result.andThen]
  | some x =>
    obtain ⟨j, c⟩ := x
    rw [hm] at hfk
    simp [Instr.lookup, run_underlying t1, MapKept.run_getObj_map e2, hck, hfk, Result.andThen]

theorem mkmap_sound {Γ : Gam} (h : RelW E v (tmv a) w β φ) (hC : ∀ b, E.C b → b < E.w0.heap.size) {d : Nat} {t : TypeId} (hop : o.op = .makeMap t none) (hd : o.dst = some d) (hN : d < a.tmps.size)
    {ws : List (Res × Val)} (hf : fop Γ v (.mkmap d) = some ws) : OpSound P E (appl v ws) o a w := by
  simp only [fop, Option.some.injEq] at hf
  subst hf
  intro next Q hn
  refine wp_of next Q hd hN (u := .map (some w.heap.size)) (w' := w.alloc (.map #[] 0)) ?_ ?_ hn
  · simp only [execOp, hop, Sem.run_bind]
    rfl
  · intro tm' htm
    have hp := PutD.of v d [] (.mp []) [] (by simp)
    let F : Foot := fun x => if x = w.heap.size then 1 else 0
    have hs := Stp.slot (w' := w.alloc (.map #[] 0)) (tm' := tm') h hC hp F (fun b => by simp only [F]; split <;> omega) (fun b hb => .inr (by
        simp only [F] at hb
        split at hb
        · rename_i e; subst e; simp
        · exact absurd rfl hb)) (fun n hn => by rw [htm, if_neg hn]) (fun b hb _ => heap_alloc _ _ hb) rfl rfl rfl (by simp)
    have := h.slot hp (by simp) hs (by simp) (by intro p hp; simp at hp) (by simp) ⟨w.heap.size, #[], 0, by rw [htm, if_pos rfl], by
      show (w.heap.push _)[w.heap.size]? = _
      simp, rfl, rfl⟩
    exact ⟨β, _, by simpa only [dropL, List.append_nil] using this⟩

theorem mset_sound {Γ : Gam} (h : RelW E v (tmv a) w β φ) (hC : ∀ b, E.C b → b < E.w0.heap.size) {m q : Nat} {rs : List Rt} {k x : Opr} {y z : Operand} {t : TypeId} (hop : o.op = .mapUpdate t (.tmp m) y z) (hd : o.dst = none)
    (ht : mapTy P t = true) (hky : oprOk k y = true) (hxz : oprOk x z = true) {ws : List (Res × Val)} (hf : fop Γ v (.mset m rs q k x) = some ws) : OpSound P E (appl v ws) o a w := by
  obtain ⟨es, h0, h1⟩ := ob_some hf
  obtain ⟨c, h2, h3⟩ := ob_some h1
  try dsimp only at h3
  split at h3 <;> try (simp at h3; done)
  rename_i n
  obtain ⟨c2, h4, h5⟩ := ob_some h3
  try dsimp only at h5
  split at h5 <;> try (simp at h5; done)
  rename_i bv
  simp only [Option.some.injEq] at h5
  subst h5
  obtain ⟨hv, hmq, b, ents, clock, e1, e2, e3, e4⟩ := mapAt_sound h h0
  obtain ⟨kt, et, t1, t2, t3⟩ := mapTy_spec ht
  have hz := sca_val h hky h2 rfl
  have hz2 := sca_val h hxz h4 rfl
  simp only [Scal] at hz hz2
  have hev : a.eval (.tmp m) = .map (some b) := by show tmv a m = _; rw [hmq, e1]
  have hrun : ∃ ents' clock', (Instr.mapUpdate t (.map (some b)) (.int .i64 n) (.bool bv)).run P w = .ok () { w with heap := w.heap.setIfInBounds b (.map ents' clock') } ∧
      ents'.toList.map entryPair = (mput es n bv).map pairOf := by
    have hfn := findNow_es n ents.toList es 0 e3
    have hkey : MapKept.IsKey (.int .i64) (.int .i64 n) := rfl
    cases hm : mfind es n with
    | none =>
      rw [hm] at hfn
      refine ⟨ents.push ⟨.int .i64 n, .bool bv, clock⟩, clock + 1, ?_, ?_⟩
      · simp [Instr.mapUpdate, run_underlying t1, MapKept.run_getObj_map e2, MapKept.run_checkKey t2 hkey, MapKept.run_findKey t2 hfn, MapKept.run_setObj_map _ e2, Result.andThen]
      · rw [mput_find, hm, Array.toList_push, List.map_append, List.map_append, e3]
        rfl
    | some jb =>
      obtain ⟨j, b0⟩ := jb
      rw [hm] at hfn
      have hg := mfind_lt hm
      have he : ∃ e0, ents.toList[j]? = some e0 ∧ entryPair e0 = pairOf (n, b0) := by
        have h6 : (ents.toList.map entryPair)[j]? = some (pairOf (n, b0)) := by rw [e3, List.getElem?_map, hg]; rfl
        rw [List.getElem?_map] at h6
        cases h7 : ents.toList[j]? with
        | none => rw [h7] at h6; simp at h6
        | some e0 => rw [h7] at h6; exact ⟨e0, rfl, by simpa using h6⟩
      obtain ⟨e0, he0, he1⟩ := he
      have hj : ents[j]? = some e0 := by simpa using he0
      have hk0 : e0.key = .int .i64 n := by simp only [entryPair, pairOf, Prod.mk.injEq] at he1; exact he1.1
      simp only [Nat.zero_add] at hfn
      refine ⟨ents.modify j (fun e' => { e' with key := .int .i64 n, val := .bool bv }), clock, ?_, ?_⟩
      · simp [Instr.mapUpdate, run_underlying t1, MapKept.run_getObj_map e2, MapKept.run_checkKey t2 hkey, MapKept.run_findKey t2 hfn, hj, hk0, MapKept.run_keyThatStays hkey, MapKept.run_setObj_map _ e2, Result.andThen]
      · rw [mput_find, hm]
        refine List.ext_getElem? fun i => ?_
        have e3' := congrArg (fun l => l[i]?) e3
        simp only [List.getElem?_map] at e3' ⊢
        rw [Array.toList_modify, List.getElem?_modify, List.getElem?_set]
        by_cases hij : j = i
        · subst hij
          have hlt : j < es.length := (List.getElem?_eq_some_iff.1 hg).1
          simp [he0, hlt, entryPair, pairOf]
        · simp only [if_neg hij]
          rw [← e3']
          cases ents.toList[i]? <;> rfl
  obtain ⟨ents', clock', hrun, he'⟩ := hrun
  intro next Q hn
  unfold Oper.wp
  have hex : (execOp a.eval o).run P w = .ok .skip { w with heap := w.heap.setIfInBounds b (.map ents' clock') } := by
    simp only [execOp, hop, hev, hz, hz2, Sem.run_bind, hrun]
    rfl
  rw [hex, Oper.upon_skip, hd]
  refine hn _ _ ⟨⟨β, φ, ?_⟩, rfl, rfl⟩ (Wrote.refl _ _)
  generalize hv' : appl v [(Res.t q, Val.t [] (.mp (mput es n bv))), (.v (.t q), .v (ver v (.t q) + 1))] = v'
  have T : ∀ m, v' (.t m) = if m = q then .t [] (.mp (mput es n bv)) else v (.t m) := by intro m; rw [← hv']; by_cases e : m = q <;> simp [appl, nrm, e]
  have B : ∀ m, v' (.b m) = v (.b m) := by intro m; rw [← hv']; simp [appl]
  have V : ∀ r, ver v' r = if r = .t q then ver v r + 1 else ver v r := by
    intro r
    rw [← hv']
    by_cases e : r = .t q
    · subst e; simp [appl, nrm, ver]
    · simp [appl, ver, e]
  have hlt : b < w.heap.size := (Array.getElem?_eq_some_iff.1 e2).1
  have hheap : ∀ c, c ≠ b → (w.heap.setIfInBounds b (.map ents' clock'))[c]? = w.heap[c]? := fun c hc => by
    rw [Array.getElem?_setIfInBounds]
    rw [if_neg (fun e => hc e.symm)]
  have hself : (w.heap.setIfInBounds b (.map ents' clock'))[b]? = some (.map ents' clock') := by
    rw [Array.getElem?_setIfInBounds]
    simp [hlt]
  refine h.multi hC (fun r => r = .t q) ?_ ?_ ?_ ?_ (fun _ _ => rfl) ?_ ?_ (fun _ _ => rfl) (fun _ _ => rfl) ?_ ?_ rfl rfl rfl ?_ ?_ ?_
  · rintro r rfl c; exact h.le1 _ c
  · rintro r s c rfl rfl _ _; rfl
  · rintro r c rfl hc; exact .inl ⟨.t q, rfl, hc⟩
  · intro r hq hr
    refine ⟨?_, rfl⟩
    cases r with
    | v q => exact absurd rfl (hq q)
    | t m => rw [T, if_neg (fun e => hr (by rw [e]))]
    | b m => exact B m
  · intro r; rw [V]; split <;> omega
  · intro r hr _
    cases r with
    | b m => simp [Rt.res] at hr
    | t m => simp [Rt.res] at hr; subst hr; rw [V, if_pos rfl]; omega
  · intro m hm; simp at hm
  · intro c hc hf
    refine hheap c fun e => ?_
    have := hf (.t q) rfl
    rw [e4, e] at this
    simp at this
  · show w.heap.size ≤ (w.heap.setIfInBounds b _).size
    simp
  · rintro m hm
    simp at hm
    subst hm
    refine .inr ⟨_, by rw [T, if_pos rfl], ?_⟩
    exact ⟨b, ents', clock', e1, hself, he', e4⟩
  · intro m cs hm; simp at hm

theorem nameOf_sound (h : RelW E v (tmv a) w β φ) {x q : Nat} {rs : List Rt} (hc : nameOf v x rs q = true) : tmv a x = tmv a q := by
  simp only [nameOf, Bool.or_eq_true, beq_iff_eq] at hc
  rcases hc with rfl | hc
  · rfl
  · split at hc <;> try (simp at hc; done)
    rename_i st q' off hv'
    simp only [Bool.and_eq_true, decide_eq_true_eq] at hc
    obtain ⟨rfl, hst⟩ := hc
    obtain ⟨_, _, h2⟩ := h.ent x _ _ hv' (stOk_spec hst).1
    exact h2.2

def isIface (P : Program) (t : TypeId) : Bool := match P.underlying t with | some (.interface _) => true | _ => false
theorem isIface_spec {t : TypeId} (h : isIface P t = true) : ∃ ms, P.underlying t = some (.interface ms) := by unfold isIface at h; split at h <;> simp_all
theorem equalIn_nil {t : TypeId} {ms : Array (String × TypeId)} (h : P.underlying t = some (.interface ms)) (d : Nat) : (Op.equalIn (d + 1) t .nilIface .nilIface).run P w = .ok true w := by
  simp [Op.equalIn, run_underlying h]
theorem equalIn_not {t t' : TypeId} {x : Value} {ms : Array (String × TypeId)} (h : P.underlying t = some (.interface ms)) (d : Nat) : (Op.equalIn (d + 1) t (.iface t' x) .nilIface).run P w = .ok false w := by
  simp [Op.equalIn, run_underlying h]
theorem equal_nil {t : TypeId} {ms : Array (String × TypeId)} (h : P.underlying t = some (.interface ms)) : (Op.equal t .nilIface .nilIface).run P w = .ok true w := equalIn_nil h 9999
theorem equal_not {t t' : TypeId} {x : Value} {ms : Array (String × TypeId)} (h : P.underlying t = some (.interface ms)) : (Op.equal t (.iface t' x) .nilIface).run P w = .ok false w := equalIn_not h 9999
theorem ieq_sound {Γ : Gam} (h : RelW E v (tmv a) w β φ) (hC : ∀ b, E.C b → b < E.w0.heap.size) {d : Nat} {neg : Bool} {x : Opr} {y : Operand} {t tt : TypeId} {bo : BinOp} (hop : o.op = .binOp bo t y (.const .nilIface) tt) (hbo : bo = if neg then .neq else .eql)
    (hd : o.dst = some d) (hN : d < a.tmps.size) (hxy : oprOk x y = true) (ht : isIface P t = true) {ws : List (Res × Val)} (hf : fop Γ v (.ieq d neg x) = some ws) : OpSound P E (appl v ws) o a w := by
  obtain ⟨c, h1, h2⟩ := ob_some hf
  try dsimp only at h2
  split at h2 <;> simp only [Option.some.injEq, reduceCtorEq] at h2
  rename_i b
  subst h2
  have hz := sca_val h hxy h1 rfl
  obtain ⟨ms, hms⟩ := isIface_spec ht
  have hc : a.eval (.const .nilIface) = .nilIface := rfl
  refine .plain h hC hd hN (u := .bool (if neg then !b else b)) ?_ rfl
  cases b with
  | true =>
    simp only [Scal] at hz
    have he := equal_nil (w := w) hms
    cases neg <;> subst hbo <;> simp [execOp, hop, hz, hc, eqGuard, binOp, he]
  | false =>
    obtain ⟨t', x', hz⟩ := hz
    have he := equal_not (w := w) (t' := t') (x := x') hms
    cases neg <;> subst hbo <;> simp [execOp, hop, hz, hc, eqGuard, binOp, he]

theorem steal_rel (h : RelW E v (tmv a) w β φ) (hC : ∀ b, E.C b → b < E.w0.heap.size) {n k : Nat} {rs : List Rt} {ws : List (Res × Val)} (hf : steal v n rs k = some ws) : ∃ φ', RelW E (appl v ws) (tmv a) w β φ' := by
  unfold steal at hf
  split at hf <;> try (simp at hf; done)
  rename_i st k' path off hv
  split at hf <;> try (simp at hf; done)
  rename_i hc
  obtain ⟨rfl, hst⟩ := hc
  obtain ⟨cs, hcs, hf2⟩ := ob_some hf
  obtain ⟨xs, hxs, hf3⟩ := ob_some hf2
  try dsimp only at hf3
  split at hf3 <;> try (simp at hf3; done)
  rename_i e rows tl
  obtain ⟨cs', hset, hf4⟩ := ob_some hf3
  simp only [Option.some.injEq] at hf4
  subst hf4
  obtain ⟨k1, k2⟩ := stOk_spec hst
  obtain ⟨r0, r1, r2⟩ := h.ent n _ _ hv k1
  simp only at r2
  obtain ⟨b, o', hreach, hcell⟩ := r2
  have hdq := fun x hx => h.dom (Rt.b k').res x hx
  obtain ⟨vs, ψ, s1, s2, s3, s4, s5⟩ := (h.root hcs).swap hreach hxs hset
  simp only [List.length_singleton, List.take_succ_cons, List.take_zero] at s2 s3
  obtain ⟨u0, rfl⟩ : ∃ u, vs = [u] := List.length_eq_one_iff.1 s2
  have hu0 : tmv a n = u0 := by
    have := s1 0 (by simp)
    rw [Nat.add_zero, hcell] at this
    simpa using this
  obtain ⟨f0, _, f2⟩ := s5 (XS E w φ) (XB w φ []) (fun _ => 0) (fun _ hb => hb) (fun _ hb => hb) (gone_rep s3.one)
  have hzero : ∀ b, (∀ r, φ r b = 0) → ∀ r, upF φ (placeN (.b k') f0 (some (n, false, [AC.sl .own e rows])) ψ []) r b = 0 := fun b hb r => upF_zero (fun x hx hx0 => by
    refine ⟨(Rt.b k').res, ?_⟩
    rcases placeN_mem hx with rfl | ⟨d', _, rfl⟩ | ⟨n', hn', rfl⟩
    · have := f2 b; dsimp only at hx0; omega
    · have := s4 b; dsimp only at hx0; omega
    · simp at hn') hb r
  have monoS : ∀ b, XS E w φ b → XS E w (upF φ (placeN (.b k') f0 (some (n, false, [AC.sl .own e rows])) ψ [])) b := fun b hb => ⟨hb.1, hzero b hb.2.1, hb.2.2⟩
  have monoB : ∀ b, XB w φ [] b → XB w (upF φ (placeN (.b k') f0 (some (n, false, [AC.sl .own e rows])) ψ [])) [] b := fun b hb =>
    ⟨hb.1, fun r hr => absurd (hzero b (fun r' => Classical.byContradiction fun e => by obtain ⟨_, h1, _⟩ := hb.2 r' e; simp at h1) r) hr⟩
  obtain ⟨f1, q1, q2⟩ := s5 _ _ _ monoS monoB (gone_rep s3.one)
  have hf01 : f1 = f0 := funext fun x => by have := q2 x; have := f2 x; omega
  subst hf01
  have key := h.place (w' := w) (tm' := tmv a) hC hcs (setAt_len _ hset) (L := []) (D := some (n, false, [AC.sl .own e rows])) (by simp) (by
      rintro d' ⟨a', c', e'⟩
      simp at e'
      exact ⟨by simp, by simp⟩) (fq := f1) (fd := ψ) (fun x => by have := f2 x; have := h.le1 (Rt.b k').res x; omega) (fun x => by have := s4 x; have := h.le1 (Rt.b k').res x; omega)
    (fun x hx => by have := f2 x; have := h.le1 (Rt.b k').res x; omega) (fun x hx => .inl (by have := f2 x; omega)) (fun x hx => .inl (by have := s4 x; omega)) (fun n hn => q1.keep n hn)
    (fun _ _ _ _ => rfl) rfl rfl rfl (Nat.le_refl _) (fun _ _ => rfl) q1
    (fun d' a' ds e' => by
      simp at e'
      obtain ⟨rfl, rfl, rfl⟩ := e'
      exact ⟨[u0], s3.weak monoS monoB, by simp [hu0]⟩)
  have e2 : putC v (.b k') cs' ++ (DP.ws v (some (n, false, [AC.sl .own e rows])) ++ dropL v []) = putC v (.b k') cs' ++ putT v n [] (.pl false [AC.sl .own e rows]) := by simp [DP.ws, dropL]
  rw [e2] at key
  exact ⟨_, key⟩

theorem appa_sound {Γ : Gam} (h : RelW E v (tmv a) w β φ) (hC : ∀ b, E.C b → b < E.w0.heap.size) {d e n k by_ : Nat} {rs : List Rt} {x : Opr} {xr : Option Rt} {y' : Operand} {t t' el el' : TypeId}
    (hop : o.op = .call { callee := .builtin .append, args := #[.tmp n, y'], argTypes := #[t, t'] }) (hd : o.dst = some d) (hN : d < a.tmps.size) (ht : rowTy P t = some (el, e, by_)) (ht' : P.underlying t' = some (.slice el'))
    (hxy : oprOk x y' = true) (hnd : (oprL (.m n) ++ oprL x).Nodup) (hdL : d ∉ oprL (.m n) ++ oprL x) {ws : List (Res × Val)} (hf : fop Γ v (.appa d e n rs k x xr by_) = some ws) : OpSound P E (appl v ws) o a w := by
  simp only [fop] at hf
  obtain ⟨ws1, h1, h2⟩ := ob_some hf
  obtain ⟨ws2, h3, h4⟩ := ob_some h2
  simp only [Option.some.injEq] at h4
  subst h4
  obtain ⟨φ', hR⟩ := steal_rel h hC h1
  rw [appl_append]
  exact app_sound (Γ := Γ) hR hC hop hd hN ht ht' (by simp [oprOk]) hxy hnd hdL h3
end
end Go.Fw
