/- The framework, part Rm: maps of numbers to truth values. The framework, part Rp: another name of a row that stays while the row is moved and while its cells are written. Conditions: none. -/
import Derived.Test.YtjldolmokfnkoaaGreatDoorFwQ
namespace Go.Fw
open Go

def mfind : List (Int × Bool) → Int → Option (Nat × Bool)
  | [], _ => none
  | (k, b) :: es, n => if n = k then some (0, b) else match mfind es n with | some (j, c) => some (j + 1, c) | none => none
theorem mget_find : ∀ (es : List (Int × Bool)) (n : Int), mget es n = match mfind es n with | some (_, b) => b | none => false
  | [], n => rfl
  | (k, b) :: es, n => by
    simp only [mget, mfind]
    split
    · rfl
    · rw [mget_find es n]
      cases mfind es n <;> rfl
theorem mput_find : ∀ (es : List (Int × Bool)) (n : Int) (b : Bool), mput es n b = match mfind es n with | some (j, _) => es.set j (n, b) | none => es ++ [(n, b)]
  | [], n, b => rfl
  | (k, c) :: es, n, b => by
    simp only [mput, mfind]
    split
    · rfl
    · rw [mput_find es n b]
      cases h : mfind es n with
      | none => rfl
      | some x => rfl
theorem mfind_lt : ∀ {es : List (Int × Bool)} {n : Int} {j : Nat} {b : Bool}, mfind es n = some (j, b) → es[j]? = some (n, b)
  | [], n, j, b, h => by simp [mfind] at h
  | (k, c) :: es, n, j, b, h => by
    simp only [mfind] at h
    split at h
    · rename_i e; simp at h; obtain ⟨rfl, rfl⟩ := h; simp [e]
    · split at h <;> simp at h
      rename_i j' c' hh
      obtain ⟨rfl, rfl⟩ := h
      simpa using mfind_lt hh

def entryPair (e : MapEntry) : Value × Value := (e.key, e.val)
def pairOf (e : Int × Bool) : Value × Value := (.int .i64 e.1, .bool e.2)

theorem findNow_es (n : Int) : ∀ (l : List MapEntry) (es : List (Int × Bool)) (i : Nat), l.map entryPair = es.map pairOf →
    Instr.findNow (.int .i64) (.int .i64 n) l i = some (match mfind es n with | some (j, b) => some (i + j, .bool b) | none => none)
  | [], [], i, _ => rfl
  | [], _ :: _, i, h => by simp at h
  | _ :: _, [], i, h => by simp at h
  | e :: l, (k, b) :: es, i, h => by
    simp only [List.map_cons, List.cons.injEq, entryPair, pairOf, Prod.mk.injEq] at h
    obtain ⟨⟨h1, h2⟩, h3⟩ := h
    simp only [Instr.findNow, h1, Instr.sameNow, if_true, mfind]
    by_cases e0 : n = k
    · subst e0
      simp [h2]
    · have : (n == k) = false := by simpa using e0
      rw [this, if_neg e0]
      simp only
      rw [findNow_es n l es (i + 1) h3]
      cases mfind es n with
      | none => rfl
      | some x => obtain ⟨j, c⟩ := x; simp; omega

section
variable {P : Program} {E : Env} {v : Res → Val} {o : Oper} {a : Act} {w : World} {β : Nat → Nat} {φ : Res → Foot}

/-- A map type of numbers to truth values. -/
def mapTy (P : Program) (t : TypeId) : Bool :=
  match P.underlying t with
  | some (.map k e) => (match P.underlying k with | some (.int .i64) => true | _ => false) && (match (P.info? e).bind (·.zero) with | some (.bool false) => true | _ => false)
  | _ => false
theorem mapTy_spec {t : TypeId} (h : mapTy P t = true) : ∃ k e, P.underlying t = some (.map k e) ∧ P.underlying k = some (.int .i64) ∧ ∀ w, (zeroValue e).run P w = .ok (.bool false) w := by
  unfold mapTy at h
  split at h <;> try (simp at h; done)
  rename_i k e hu
  simp only [Bool.and_eq_true] at h
  refine ⟨k, e, hu, ?_, fun w => ?_⟩
  · have := h.1
    split at this <;> simp_all
  · have h2 := h.2
    split at h2 <;> try (simp at h2; done)
    rename_i hz
    obtain ⟨i, hi, hz⟩ := Option.bind_eq_some_iff.1 hz
    simp [zeroValue, typeInfo, hi, hz]

theorem mapAt_sound (h : RelW E v (tmv a) w β φ) {m : Nat} {rs : List Rt} {q : Nat} {es : List (Int × Bool)} (hm : mapAt v m rs q = some es) :
    v (.t q) = .t [] (.mp es) ∧ tmv a m = tmv a q ∧ ∃ b ents clock, tmv a q = .map (some b) ∧ w.heap[b]? = some (.map ents clock) ∧ ents.toList.map entryPair = es.map pairOf ∧ φ (.t q) = fun x => if x = b then 1 else 0 := by
  unfold mapAt at hm
  by_cases hc : nameOf v m rs q = true
  case neg => rw [if_neg hc] at hm; simp at hm
  rw [if_pos hc] at hm
  split at hm <;> try (simp at hm; done)
  rename_i es' hv
  simp only [Option.some.injEq] at hm
  subst hm
  obtain ⟨b, ents, clock, e1, e2, e3, e4⟩ := h.ent q _ _ hv (by intro p hp; simp at hp)
  refine ⟨hv, ?_, b, ents, clock, e1, e2, e3, e4⟩
  simp only [nameOf, Bool.or_eq_true, beq_iff_eq] at hc
  rcases hc with rfl | hc
  · rfl
  · split at hc <;> try (simp at hc; done)
    rename_i st q' off hv'
    simp only [Bool.and_eq_true, decide_eq_true_eq] at hc
    obtain ⟨rfl, hst⟩ := hc
    obtain ⟨_, _, h2⟩ := h.ent m _ _ hv' (stOk_spec hst).1
    exact h2.2

theorem checkKey_int {k : TypeId} (hk : P.underlying k = some (.int .i64)) (emp : Bool) (n : Int) (w : World) : (Instr.checkKey emp 10000 k (.int .i64 n)).run P w = .ok () w := by
  exact MapKept.run_checkKey (n := 9999) hk (show MapKept.IsKey (.int .i64) (.int .i64 n) from rfl) emp

theorem findKey_run {k : TypeId} (hk : P.underlying k = some (.int .i64)) {l : List MapEntry} {es : List (Int × Bool)} (he : l.map entryPair = es.map pairOf) (n : Int) (w : World) :
    (Instr.findKey k (.int .i64 n) l).run P w = .ok (match mfind es n with | some (j, b) => some (j, .bool b) | none => none) w := by
  have := findNow_es n l es 0 he
  simp only [Instr.findKey, Sem.run_bind, run_underlying hk, Result.andThen_ok, this]
  cases mfind es n with
  | none => rfl
  | some x => obtain ⟨j, c⟩ := x; simp

theorem mlook_sound {Γ : Gam} (h : RelW E v (tmv a) w β φ) (hC : ∀ b, E.C b → b < E.w0.heap.size) {d m q : Nat} {rs : List Rt} {k : Opr} {y : Operand} {t : TypeId} (hop : o.op = .lookup t (.tmp m) y false) (hd : o.dst = some d) (hN : d < a.tmps.size)
    (ht : mapTy P t = true) (hky : oprOk k y = true) {ws : List (Res × Val)} (hf : fop Γ v (.mlook d m rs q k) = some ws) : OpSound P E (appl v ws) o a w := by
  obtain ⟨es, h0, h1⟩ := ob_some hf
  obtain ⟨c, h2, h3⟩ := ob_some h1
  try dsimp only at h3
  split at h3 <;> simp only [Option.some.injEq, reduceCtorEq] at h3
  subst h3
  obtain ⟨hv, hmq, b, ents, clock, e1, e2, e3, e4⟩ := mapAt_sound h h0
  obtain ⟨kt, et, t1, t2, t3⟩ := mapTy_spec ht
  have hz := sca_val h hky h2 rfl
  simp only [Scal] at hz
  rename_i n
  have hev : a.eval (.tmp m) = .map (some b) := by show tmv a m = _; rw [hmq, e1]
  refine .plain h hC hd hN (u := .bool (mget es n)) ?_ rfl
  have hck := checkKey_int (P := P) t2 ents.isEmpty n w
  have hfk := findKey_run (P := P) t2 e3 n w
  rw [mget_find]
  simp only [execOp, hop, hev, hz]
  cases hm : mfind es n with
  | none =>
    rw [hm] at hfk
    simp [Instr.lookup, run_underlying t1, MapKept.run_getObj_map e2, hck, hfk, t3, Result.andThen]
  | some x =>
    obtain ⟨j, c⟩ := x
    rw [hm] at hfk
    simp [Instr.lookup, run_underlying t1, MapKept.run_getObj_map e2, hck, hfk, Result.andThen]

theorem mkmap_sound {Γ : Gam} (h : RelW E v (tmv a) w β φ) (hC : ∀ b, E.C b → b < E.w0.heap.size) {d : Nat} {t : TypeId} (hop : o.op = .makeMap t none) (hd : o.dst = some d) (hN : d < a.tmps.size)
    {ws : List (Res × Val)} (hf : fop Γ v (.mkmap d) = some ws) : OpSound P E (appl v ws) o a w := by
  simp only [fop, Option.some.injEq] at hf
  subst hf
  intro next Q hn
  refine wp_of next Q hd hN (u := .map (some w.heap.size)) (w' := w.alloc (.map #[] 0)) ?_ ?_ hn
  · simp only [execOp, hop, Sem.run_bind]
    rfl
  · intro tm' htm
    have hp := PutD.of v d [] (.mp []) [] (by simp)
    let F : Foot := fun x => if x = w.heap.size then 1 else 0
    have hs := Stp.slot (w' := w.alloc (.map #[] 0)) (tm' := tm') h hC hp F (fun b => by simp only [F]; split <;> omega) (fun b hb => .inr (by
        simp only [F] at hb
        split at hb
        · rename_i e; subst e; simp
        · exact absurd rfl hb)) (fun n hn => by rw [htm, if_neg hn]) (fun b hb _ => heap_alloc _ _ hb) rfl rfl rfl (by simp)
    have := h.slot hp (by simp) hs (by simp) (by intro p hp; simp at hp) (by simp) ⟨w.heap.size, #[], 0, by rw [htm, if_pos rfl], by
      show (w.heap.push _)[w.heap.size]? = _
      simp, rfl, rfl⟩
    exact ⟨β, _, by simpa only [dropL, List.append_nil] using this⟩

theorem mset_sound {Γ : Gam} (h : RelW E v (tmv a) w β φ) (hC : ∀ b, E.C b → b < E.w0.heap.size) {m q : Nat} {rs : List Rt} {k x : Opr} {y z : Operand} {t : TypeId} (hop : o.op = .mapUpdate t (.tmp m) y z) (hd : o.dst = none)
    (ht : mapTy P t = true) (hky : oprOk k y = true) (hxz : oprOk x z = true) {ws : List (Res × Val)} (hf : fop Γ v (.mset m rs q k x) = some ws) : OpSound P E (appl v ws) o a w := by
  obtain ⟨es, h0, h1⟩ := ob_some hf
  obtain ⟨c, h2, h3⟩ := ob_some h1
  try dsimp only at h3
  split at h3 <;> try (simp at h3; done)
  rename_i n
  obtain ⟨c2, h4, h5⟩ := ob_some h3
  try dsimp only at h5
  split at h5 <;> try (simp at h5; done)
  rename_i bv
  simp only [Option.some.injEq] at h5
  subst h5
  obtain ⟨hv, hmq, b, ents, clock, e1, e2, e3, e4⟩ := mapAt_sound h h0
  obtain ⟨kt, et, t1, t2, t3⟩ := mapTy_spec ht
  have hz := sca_val h hky h2 rfl
  have hz2 := sca_val h hxz h4 rfl
  simp only [Scal] at hz hz2
  have hev : a.eval (.tmp m) = .map (some b) := by show tmv a m = _; rw [hmq, e1]
  have hrun : ∃ ents' clock', (Instr.mapUpdate t (.map (some b)) (.int .i64 n) (.bool bv)).run P w = .ok () { w with heap := w.heap.setIfInBounds b (.map ents' clock') } ∧
      ents'.toList.map entryPair = (mput es n bv).map pairOf := by
    have hfn := findNow_es n ents.toList es 0 e3
    have hkey : MapKept.IsKey (.int .i64) (.int .i64 n) := rfl
    cases hm : mfind es n with
    | none =>
      rw [hm] at hfn
      refine ⟨ents.push ⟨.int .i64 n, .bool bv, clock⟩, clock + 1, ?_, ?_⟩
      · simp [Instr.mapUpdate, run_underlying t1, MapKept.run_getObj_map e2, MapKept.run_checkKey t2 hkey, MapKept.run_findKey t2 hfn, MapKept.run_setObj_map _ e2, Result.andThen]
      · rw [mput_find, hm, Array.toList_push, List.map_append, List.map_append, e3]
        rfl
    | some jb =>
      obtain ⟨j, b0⟩ := jb
      rw [hm] at hfn
      have hg := mfind_lt hm
      have he : ∃ e0, ents.toList[j]? = some e0 ∧ entryPair e0 = pairOf (n, b0) := by
        have h6 : (ents.toList.map entryPair)[j]? = some (pairOf (n, b0)) := by rw [e3, List.getElem?_map, hg]; rfl
        rw [List.getElem?_map] at h6
        cases h7 : ents.toList[j]? with
        | none => rw [h7] at h6; simp at h6
        | some e0 => rw [h7] at h6; exact ⟨e0, rfl, by simpa using h6⟩
      obtain ⟨e0, he0, he1⟩ := he
      have hj : ents[j]? = some e0 := by simpa using he0
      have hk0 : e0.key = .int .i64 n := by simp only [entryPair, pairOf, Prod.mk.injEq] at he1; exact he1.1
      simp only [Nat.zero_add] at hfn
      refine ⟨ents.modify j (fun e' => { e' with key := .int .i64 n, val := .bool bv }), clock, ?_, ?_⟩
      · simp [Instr.mapUpdate, run_underlying t1, MapKept.run_getObj_map e2, MapKept.run_checkKey t2 hkey, MapKept.run_findKey t2 hfn, hj, hk0, MapKept.run_keyThatStays hkey, MapKept.run_setObj_map _ e2, Result.andThen]
      · rw [mput_find, hm]
        refine List.ext_getElem? fun i => ?_
        have e3' := congrArg (fun l => l[i]?) e3
        simp only [List.getElem?_map] at e3' ⊢
        rw [Array.toList_modify, List.getElem?_modify, List.getElem?_set]
        by_cases hij : j = i
        · subst hij
          have hlt : j < es.length := (List.getElem?_eq_some_iff.1 hg).1
          simp [he0, hlt, entryPair, pairOf]
        · simp only [if_neg hij]
          rw [← e3']
          cases ents.toList[i]? <;> rfl
  obtain ⟨ents', clock', hrun, he'⟩ := hrun
  intro next Q hn
  unfold Oper.wp
  have hex : (execOp a.eval o).run P w = .ok .skip { w with heap := w.heap.setIfInBounds b (.map ents' clock') } := by
    simp only [execOp, hop, hev, hz, hz2, Sem.run_bind, hrun]
    rfl
  rw [hex, Oper.upon_skip, hd]
  refine hn _ _ ⟨⟨β, φ, ?_⟩, rfl, rfl⟩ (Wrote.refl _ _)
  generalize hv' : appl v [(Res.t q, Val.t [] (.mp (mput es n bv))), (.v (.t q), .v (ver v (.t q) + 1))] = v'
  have T : ∀ m, v' (.t m) = if m = q then .t [] (.mp (mput es n bv)) else v (.t m) := by intro m; rw [← hv']; by_cases e : m = q <;> simp [appl, nrm, e]
  have B : ∀ m, v' (.b m) = v (.b m) := by intro m; rw [← hv']; simp [appl]
  have V : ∀ r, ver v' r = if r = .t q then ver v r + 1 else ver v r := by
    intro r
    rw [← hv']
    by_cases e : r = .t q
    · subst e; simp [appl, nrm, ver]
    · simp [appl, ver, e]
  have hlt : b < w.heap.size := (Array.getElem?_eq_some_iff.1 e2).1
  have hheap : ∀ c, c ≠ b → (w.heap.setIfInBounds b (.map ents' clock'))[c]? = w.heap[c]? := fun c hc => by
    rw [Array.getElem?_setIfInBounds]
    rw [if_neg (fun e => hc e.symm)]
  have hself : (w.heap.setIfInBounds b (.map ents' clock'))[b]? = some (.map ents' clock') := by
    rw [Array.getElem?_setIfInBounds]
    simp [hlt]
  refine h.multi hC (fun r => r = .t q) ?_ ?_ ?_ ?_ (fun _ _ => rfl) ?_ ?_ (fun _ _ => rfl) (fun _ _ => rfl) ?_ ?_ rfl rfl rfl ?_ ?_ ?_
  · rintro r rfl c; exact h.le1 _ c
  · rintro r s c rfl rfl _ _; rfl
  · rintro r c rfl hc; exact .inl ⟨.t q, rfl, hc⟩
  · intro r hq hr
    refine ⟨?_, rfl⟩
    cases r with
    | v q => exact absurd rfl (hq q)
    | t m => rw [T, if_neg (fun e => hr (by rw [e]))]
    | b m => exact B m
  · intro r; rw [V]; split <;> omega
  · intro r hr _
    cases r with
    | b m => simp [Rt.res] at hr
    | t m => simp [Rt.res] at hr; subst hr; rw [V, if_pos rfl]; omega
  · intro m hm; simp at hm
  · intro c hc hf
    refine hheap c fun e => ?_
    have := hf (.t q) rfl
    rw [e4, e] at this
    simp at this
  · show w.heap.size ≤ (w.heap.setIfInBounds b _).size
    simp
  · rintro m hm
    simp at hm
    subst hm
    refine .inr ⟨_, by rw [T, if_pos rfl], ?_⟩
    exact ⟨b, ents', clock', e1, hself, he', e4⟩
  · intro m cs hm; simp at hm

theorem nameOf_sound (h : RelW E v (tmv a) w β φ) {x q : Nat} {rs : List Rt} (hc : nameOf v x rs q = true) : tmv a x = tmv a q := by
  simp only [nameOf, Bool.or_eq_true, beq_iff_eq] at hc
  rcases hc with rfl | hc
  · rfl
  · split at hc <;> try (simp at hc; done)
    rename_i st q' off hv'
    simp only [Bool.and_eq_true, decide_eq_true_eq] at hc
    obtain ⟨rfl, hst⟩ := hc
    obtain ⟨_, _, h2⟩ := h.ent x _ _ hv' (stOk_spec hst).1
    exact h2.2

def isIface (P : Program) (t : TypeId) : Bool := match P.underlying t with | some (.interface _) => true | _ => false
theorem isIface_spec {t : TypeId} (h : isIface P t = true) : ∃ ms, P.underlying t = some (.interface ms) := by unfold isIface at h; split at h <;> simp_all
theorem equalIn_nil {t : TypeId} {ms : Array (String × TypeId)} (h : P.underlying t = some (.interface ms)) (d : Nat) : (Op.equalIn (d + 1) t .nilIface .nilIface).run P w = .ok true w := by
  simp [Op.equalIn, run_underlying h]
theorem equalIn_not {t t' : TypeId} {x : Value} {ms : Array (String × TypeId)} (h : P.underlying t = some (.interface ms)) (d : Nat) : (Op.equalIn (d + 1) t (.iface t' x) .nilIface).run P w = .ok false w := by
  simp [Op.equalIn, run_underlying h]
theorem equal_nil {t : TypeId} {ms : Array (String × TypeId)} (h : P.underlying t = some (.interface ms)) : (Op.equal t .nilIface .nilIface).run P w = .ok true w := equalIn_nil h 9999
theorem equal_not {t t' : TypeId} {x : Value} {ms : Array (String × TypeId)} (h : P.underlying t = some (.interface ms)) : (Op.equal t (.iface t' x) .nilIface).run P w = .ok false w := equalIn_not h 9999
theorem ieq_sound {Γ : Gam} (h : RelW E v (tmv a) w β φ) (hC : ∀ b, E.C b → b < E.w0.heap.size) {d : Nat} {neg : Bool} {x : Opr} {y : Operand} {t tt : TypeId} {bo : BinOp} (hop : o.op = .binOp bo t y (.const .nilIface) tt) (hbo : bo = if neg then .neq else .eql)
    (hd : o.dst = some d) (hN : d < a.tmps.size) (hxy : oprOk x y = true) (ht : isIface P t = true) {ws : List (Res × Val)} (hf : fop Γ v (.ieq d neg x) = some ws) : OpSound P E (appl v ws) o a w := by
  obtain ⟨c, h1, h2⟩ := ob_some hf
  try dsimp only at h2
  split at h2 <;> simp only [Option.some.injEq, reduceCtorEq] at h2
  rename_i b
  subst h2
  have hz := sca_val h hxy h1 rfl
  obtain ⟨ms, hms⟩ := isIface_spec ht
  have hc : a.eval (.const .nilIface) = .nilIface := rfl
  refine .plain h hC hd hN (u := .bool (if neg then !b else b)) ?_ rfl
  cases b with
  | true =>
    simp only [Scal] at hz
    have he := equal_nil (w := w) hms
    cases neg <;> subst hbo <;> simp [execOp, hop, hz, hc, eqGuard, binOp, he]
  | false =>
    obtain ⟨t', x', hz⟩ := hz
    have he := equal_not (w := w) (t' := t') (x := x') hms
    cases neg <;> subst hbo <;> simp [execOp, hop, hz, hc, eqGuard, binOp, he]

theorem steal_rel (h : RelW E v (tmv a) w β φ) (hC : ∀ b, E.C b → b < E.w0.heap.size) {n k : Nat} {rs : List Rt} {ws : List (Res × Val)} (hf : steal v n rs k = some ws) : ∃ φ', RelW E (appl v ws) (tmv a) w β φ' := by
  unfold steal at hf
  split at hf <;> try (simp at hf; done)
  rename_i st k' path off hv
  split at hf <;> try (simp at hf; done)
  rename_i hc
  obtain ⟨rfl, hst⟩ := hc
  obtain ⟨cs, hcs, hf2⟩ := ob_some hf
  obtain ⟨xs, hxs, hf3⟩ := ob_some hf2
  try dsimp only at hf3
  split at hf3 <;> try (simp at hf3; done)
  rename_i e rows tl
  obtain ⟨cs', hset, hf4⟩ := ob_some hf3
  simp only [Option.some.injEq] at hf4
  subst hf4
  obtain ⟨k1, k2⟩ := stOk_spec hst
  obtain ⟨r0, r1, r2⟩ := h.ent n _ _ hv k1
  simp only at r2
  obtain ⟨b, o', hreach, hcell⟩ := r2
  have hdq := fun x hx => h.dom (Rt.b k').res x hx
  obtain ⟨vs, ψ, s1, s2, s3, s4, s5⟩ := (h.root hcs).swap hreach hxs hset
  simp only [List.length_singleton, List.take_succ_cons, List.take_zero] at s2 s3
  obtain ⟨u0, rfl⟩ : ∃ u, vs = [u] := List.length_eq_one_iff.1 s2
  have hu0 : tmv a n = u0 := by
    have := s1 0 (by simp)
    rw [Nat.add_zero, hcell] at this
    simpa using this
  obtain ⟨f0, _, f2⟩ := s5 (XS E w φ) (XB w φ []) (fun _ => 0) (fun _ hb => hb) (fun _ hb => hb) (gone_rep s3.one)
  have hzero : ∀ b, (∀ r, φ r b = 0) → ∀ r, upF φ (placeN (.b k') f0 (some (n, false, [AC.sl .own e rows])) ψ []) r b = 0 := fun b hb r => upF_zero (fun x hx hx0 => by
    refine ⟨(Rt.b k').res, ?_⟩
    rcases placeN_mem hx with rfl | ⟨d', _, rfl⟩ | ⟨n', hn', rfl⟩
    · have := f2 b; dsimp only at hx0; omega
    · have := s4 b; dsimp only at hx0; omega
    · simp at hn') hb r
  have monoS : ∀ b, XS E w φ b → XS E w (upF φ (placeN (.b k') f0 (some (n, false, [AC.sl .own e rows])) ψ [])) b := fun b hb => ⟨hb.1, hzero b hb.2.1, hb.2.2⟩
  have monoB : ∀ b, XB w φ [] b → XB w (upF φ (placeN (.b k') f0 (some (n, false, [AC.sl .own e rows])) ψ [])) [] b := fun b hb =>
    ⟨hb.1, fun r hr => absurd (hzero b (fun r' => Classical.byContradiction fun e => by obtain ⟨_, h1, _⟩ := hb.2 r' e; simp at h1) r) hr⟩
  obtain ⟨f1, q1, q2⟩ := s5 _ _ _ monoS monoB (gone_rep s3.one)
  have hf01 : f1 = f0 := funext fun x => by have := q2 x; have := f2 x; omega
  subst hf01
  have key := h.place (w' := w) (tm' := tmv a) hC hcs (setAt_len _ hset) (L := []) (D := some (n, false, [AC.sl .own e rows])) (by simp) (by
      rintro d' ⟨a', c', e'⟩
      simp at e'
      exact ⟨by simp, by simp⟩) (fq := f1) (fd := ψ) (fun x => by have := f2 x; have := h.le1 (Rt.b k').res x; omega) (fun x => by have := s4 x; have := h.le1 (Rt.b k').res x; omega)
    (fun x hx => by have := f2 x; have := h.le1 (Rt.b k').res x; omega) (fun x hx => .inl (by have := f2 x; omega)) (fun x hx => .inl (by have := s4 x; omega)) (fun n hn => q1.keep n hn)
    (fun _ _ _ _ => rfl) rfl rfl rfl (Nat.le_refl _) (fun _ _ => rfl) q1
    (fun d' a' ds e' => by
      simp at e'
      obtain ⟨rfl, rfl, rfl⟩ := e'
      exact ⟨[u0], s3.weak monoS monoB, by simp [hu0]⟩)
  have e2 : putC v (.b k') cs' ++ (DP.ws v (some (n, false, [AC.sl .own e rows])) ++ dropL v []) = putC v (.b k') cs' ++ putT v n [] (.pl false [AC.sl .own e rows]) := by simp [DP.ws, dropL]
  rw [e2] at key
  exact ⟨_, key⟩

theorem appa_sound {Γ : Gam} (h : RelW E v (tmv a) w β φ) (hC : ∀ b, E.C b → b < E.w0.heap.size) {d e n k by_ : Nat} {rs : List Rt} {x : Opr} {xr : Option Rt} {y' : Operand} {t t' el el' : TypeId}
    (hop : o.op = .call { callee := .builtin .append, args := #[.tmp n, y'], argTypes := #[t, t'] }) (hd : o.dst = some d) (hN : d < a.tmps.size) (ht : rowTy P t = some (el, e, by_)) (ht' : P.underlying t' = some (.slice el'))
    (hxy : oprOk x y' = true) (hnd : (oprL (.m n) ++ oprL x).Nodup) (hdL : d ∉ oprL (.m n) ++ oprL x) {ws : List (Res × Val)} (hf : fop Γ v (.appa d e n rs k x xr by_) = some ws) : OpSound P E (appl v ws) o a w := by
  simp only [fop] at hf
  obtain ⟨ws1, h1, h2⟩ := ob_some hf
  obtain ⟨ws2, h3, h4⟩ := ob_some h2
  simp only [Option.some.injEq] at h4
  subst h4
  obtain ⟨φ', hR⟩ := steal_rel h hC h1
  rw [appl_append]
  exact app_sound (Γ := Γ) hR hC hop hd hN ht ht' (by simp [oprOk]) hxy hnd hdL h3
end
end Go.Fw
namespace Go.Fw
open Go

/-- Through headers that are as they were. -/
theorem Along.stay {w w' : World} {own : Nat → Prop} (hw : ∀ b o x l c, w.cell? ⟨b, o, none⟩ = some (.slice x l c) → w'.cell? ⟨b, o, none⟩ = some (.slice x l c)) : ∀ {p : Path} {b o off b' o' : Nat},
    Along w own b o p off b' o' → Along w' (fun _ => True) b o p off b' o'
  | [], _, _, _, _, _, ⟨_, h2, h3⟩ => ⟨trivial, h2, h3⟩
  | _ :: _, _, _, _, _, _, ⟨_, s, so, len, cap, h2, h3⟩ => ⟨trivial, s, so, len, cap, hw _ _ _ _ _ h2, Along.stay hw h3⟩
theorem Reach.stay {w w' : World} {tm tm' : Nat → Value} {β β' : Nat → Nat} {own : Nat → Prop} (hw : ∀ b o x l c, w.cell? ⟨b, o, none⟩ = some (.slice x l c) → w'.cell? ⟨b, o, none⟩ = some (.slice x l c)) {r r' : Rt} {p : Path} {off b o : Nat}
    (hb : ∀ n, r = .b n → r' = .b n ∧ β' n = β n) (ht : ∀ n, r = .t n → ∃ n', r' = .t n' ∧ tm' n' = tm n) (hr : Reach w tm β own r p off b o) : Reach w' tm' β' (fun _ => True) r' p off b o := by
  cases r with
  | b n =>
    obtain ⟨rfl, e⟩ := hb n rfl
    simp only [Reach] at *
    rw [e]
    exact hr.stay hw
  | t n =>
    obtain ⟨n', rfl, e⟩ := ht n rfl
    cases p with
    | nil => exact hr
    | cons x p =>
      obtain ⟨h0, s, so, len, cap, h1, h2⟩ := hr
      exact ⟨h0, s, so, len, cap, e.trans h1, h2.stay hw⟩

theorem row_at {w : World} {Xs Xb : Nat → Prop} {cs : List AC} {vals : List Value} {φ : Foot} (hr : RepL w Xs Xb cs vals φ) {k i e s so len cap : Nat} {rows : List (List AC)} {r : List AC}
    (hk : cs[k]? = some (.sl .own e rows)) (hv : vals[k]? = some (.slice (some ⟨s, so, none⟩) len cap)) (hri : rows[i]? = some r) :
    ∃ vs ψ, Cells w s (so + i * e) vs ∧ RepL w Xs Xb r vs ψ ∧ φ s ≠ 0 ∧ ∀ x, ψ x ≠ 0 → φ x ≠ 0 := by
  obtain ⟨vs, χ, c1, c2, v1, v2, φ1, φ2, rfl, e1, rfl, e2, g1, g2, r1, r2, r3, r4, r5, r6, r7, r8, r9⟩ := hr.at_own hk hv
  obtain ⟨hrow, hi⟩ := row_split hri
  have hfl : rows.flatten = (rows.take i).flatten ++ (r ++ (rows.drop (i + 1)).flatten) := by conv => lhs; rw [hrow]; simp
  rw [hfl] at r8
  obtain ⟨u1, u2, ψ1, ψ2, rfl, k1, k2, ks⟩ := RepL.split _ _ r8
  obtain ⟨u2, u3, ψ3, ψ4, rfl, k3, k4, ks'⟩ := RepL.split _ _ k2
  have hlen : u1.length = i * e := by
    rw [k1.length, flatten_len (fun q hq => r4 q (List.mem_of_mem_take hq)), List.length_take, Nat.min_eq_left (by omega)]
  rw [Cells.app, Cells.app, hlen] at r7
  refine ⟨u2, ψ3, r7.2.1, k3, by have := r9 s; simp at this; omega, fun x hx => ?_⟩
  have h1 := r9 x
  have h2 := ks x
  have h3 := ks' x
  omega

/-- What lies on the way to a place is the root's own. -/
theorem along_own {w : World} {Xs Xb own : Nat → Prop} : ∀ (p : Path) {cs xs : List AC} {off b o b' o' : Nat} {vals : List Value} {φ : Foot}, own b → (∀ x, φ x ≠ 0 → own x) → Cells w b o vals → RepL w Xs Xb cs vals φ →
    Along w (fun _ => True) b o p off b' o' → cellsAt cs p off = some xs → Along w own b o p off b' o'
  | [], _, _, _, _, _, _, _, _, _, hb, _, _, _, ⟨_, h2, h3⟩, _ => ⟨hb, h2, h3⟩
  | (k, i, e) :: p, _, _, _, _, _, _, _, _, _, hb, ho, hc, hr, ⟨_, s, so, len, cap, hcell, hal⟩, hx => by
    obtain ⟨rows, r, hk, hri, hx1⟩ := cellsAt_cons hx
    obtain ⟨vs, ψ, h1, h2, h3, h4⟩ := row_at hr hk (hr.at_val hc hk hcell) hri
    exact ⟨hb, s, so, len, cap, hcell, along_own p (ho s h3) (fun x hx => ho x (h4 x hx)) h1 h2 hal hx1⟩

theorem reach_own {w : World} {Xs Xb : Nat → Prop} {tm : Nat → Value} {β : Nat → Nat} {cs xs : List AC} {f : Foot} {q : Rt} (hq : RootIs w Xs Xb tm β cs f q) {p : Path} {off b o : Nat} (hr : Reach w tm β (fun _ => True) q p off b o)
    (hx : cellsAt cs p off = some xs) : Reach w tm β (fun x => f x ≠ 0) q p off b o := by
  cases q with
  | b n =>
    obtain ⟨vals, ψ, h1, _, h3, h4⟩ := hq
    exact along_own p (by rw [h4]; simp) (fun x hx => by rw [h4]; omega) h1 h3 hr hx
  | t n =>
    obtain ⟨c, rfl, h1⟩ := hq
    cases p with
    | nil => exact hr.elim
    | cons y p =>
      obtain ⟨k, i, e⟩ := y
      obtain ⟨rfl, s, so, len, cap, htm, hal⟩ := hr
      obtain ⟨rows, r, hk, hri, hx1⟩ := cellsAt_cons hx
      obtain ⟨vs, ψ, k1, k2, k3, k4⟩ := row_at h1 hk (show [tm n][0]? = some (.slice (some ⟨s, so, none⟩) len cap) by simp [htm]) hri
      exact ⟨rfl, s, so, len, cap, htm, along_own p k3 k4 k1 k2 hal hx1⟩

section
variable {P : Program} {E : Env} {v : Res → Val} {o : Oper} {a : Act} {w : World} {β : Nat → Nat} {φ : Res → Foot}

/-- A slot becomes another name of a place. -/
theorem RelW.name {tm : Nat → Value} (h : RelW E v tm w β φ) (hC : ∀ b, E.C b → b < E.w0.heap.size) {k : Nat} {q : Rt} {p : Path} {off : Nat} (hqk : q ≠ .t k) (hq : isNope (v q.res) = false)
    (hp : (∃ s, q = .t s ∧ p = [] ∧ off = 0 ∧ tm k = tm s) ∨ ((∀ s, q = .t s → p ≠ []) ∧ ∃ b o, Reach w tm β (fun x => φ q.res x ≠ 0) q p off b o ∧ w.cell? ⟨b, o, none⟩ = some (tm k))) :
    ∃ φ', RelW E (appl v (putN v k q p off)) tm w β φ' := by
  obtain ⟨φ', h'⟩ := h.putV (w' := w) (tm' := tm) hC (d := k) (st := [(q, ver v q)]) (tv := .ali q p off) (L := []) (by simp) (.refl w) (f := fun _ => 0) (by simp) (by simp) (u := tm k)
    (fun n => by by_cases e : n = k <;> simp [e]) (by intro p hp; simp at hp; subst hp; exact ⟨hqk, by simp⟩) (by intro p hp; simp at hp; subst hp; rfl) (by intro p hp; simp at hp; subst hp; exact hq)
    ⟨hq, ⟨(q, ver v q), by simp, rfl⟩, by
      rcases hp with ⟨s, rfl, rfl, h1, h2⟩ | ⟨h1, h2⟩
      · exact ⟨h1, h2⟩
      · cases p with
        | nil =>
          cases q with
          | t s => exact absurd rfl (h1 s rfl)
          | b s => exact h2
        | cons y p => cases q <;> exact h2⟩
  exact ⟨φ', by simpa [putN, dropL] using h'⟩

/-- What a slot that is known as another name of a slot's row says. -/
theorem named_spec {tm : Nat → Value} (h : RelW E v tm w β φ) {s k : Nat} {ks : List Rt} {p : Path} {off : Nat} (hn : named v s k ks = some (p, off)) :
    (p = [] ∧ off = 0 ∧ tm k = tm s) ∨ (p ≠ [] ∧ ∃ b o, Reach w tm β (fun x => φ (.t s) x ≠ 0) (.t s) p off b o ∧ w.cell? ⟨b, o, none⟩ = some (tm k)) := by
  unfold named at hn
  split at hn
  · rename_i e
    simp only [Option.some.injEq, Prod.mk.injEq] at hn
    exact .inl ⟨hn.1.symm, hn.2.symm, by rw [e]⟩
  · split at hn <;> try (simp at hn; done)
    rename_i st q p' off' hv
    split at hn <;> simp only [Option.some.injEq, Prod.mk.injEq, reduceCtorEq] at hn
    rename_i hc
    obtain ⟨rfl, rfl⟩ := hn
    simp only [Bool.and_eq_true, decide_eq_true_eq] at hc
    obtain ⟨hst, rfl⟩ := hc
    obtain ⟨_, _, h2⟩ := h.ent k _ _ hv (stOk_spec hst).1
    cases p' with
    | nil => exact .inl ⟨rfl, h2.1, h2.2⟩
    | cons y p' => exact .inr ⟨by simp, h2⟩

theorem mova_sound {Γ : Gam} (h : RelW E v (tmv a) w β φ) (hC : ∀ b, E.C b → b < E.w0.heap.size) {d s k : Nat} {ks : List Rt} (hop : o.op = .move (.tmp s) ∨ o.op = .assign (.tmp s)) (hd : o.dst = some d) (hN : d < a.tmps.size)
    (hdk : d ≠ k) {ws : List (Res × Val)} (hf : fop Γ v (.mova d s k ks) = some ws) : OpSound P E (appl v ws) o a w := by
  simp only [fop] at hf
  split at hf <;> try (simp at hf; done)
  rename_i c hv
  split at hf <;> try (simp at hf; done)
  rename_i hds
  simp only [not_or] at hds
  obtain ⟨⟨p, off⟩, hn, hf2⟩ := ob_some hf
  try dsimp only at hf2
  split at hf2 <;> simp only [Option.some.injEq, reduceCtorEq] at hf2
  rename_i hfit
  subst hf2
  have hnm := named_spec h hn
  intro next Q hnx
  refine wp_val hd (u := tmv a s) (w' := w) (by rcases hop with e | e <;> simp [execOp, e, Act.eval, tmv]) (hnx _ _ (Good.put hN fun tm' htm => ?_) (Wrote.put hd _))
  obtain ⟨vals, g1, g2⟩ := h.ent s _ _ hv (by intro p hp; simp at hp)
  simp only [Bool.false_eq_true, if_false] at g2
  subst g2
  obtain ⟨φ1, h1⟩ := h.putV (w' := w) (tm' := tm') hC (d := d) (st := []) (tv := .pl false [c]) (L := [s]) (by simpa using hds.1) (.refl w) (f := φ (.t s)) (h.le1 _) (fun b hb => ⟨s, by simp, hb⟩) htm
    (by simp) (by intro p hp; simp at hp) (by simp) ⟨[tmv a s], g1, by simp⟩
  have ew : putT v d [] (.pl false [c]) ++ dropL v [s] = putT v d [] (.pl false [c]) ++ dropT v s := by simp [dropL]
  rw [ew] at h1
  generalize hv1 : appl v (putT v d [] (.pl false [c]) ++ dropT v s) = v1 at h1
  have hd1 : v1 (.t d) = .t [] (.pl false [c]) := by
    rw [← hv1, appl_append]
    have := (appl_dropL v [s] (appl v (putT v d [] (.pl false [c])))).1 d
    simp only [dropL, List.append_nil] at this
    rw [this, if_neg (by simpa using hds.1)]
    exact ((appl_putT v v d [] _).1 d).trans (if_pos rfl)
  have hcd : content v1 (.t d) = some [c] := by simp only [content, hd1]
  have hroot := h1.root hcd
  have tk : tm' k = tmv a k := by rw [htm, if_neg (Ne.symm hdk)]
  have td : tm' d = tmv a s := by rw [htm, if_pos rfl]
  obtain ⟨φ2, h2⟩ := h1.name hC (k := k) (q := .t d) (p := p) (off := off) (by simpa using hdk) (by simp [Rt.res, hd1, isNope]) (by
    rcases hnm with ⟨rfl, rfl, e⟩ | ⟨hp, b, o', hr, hcell⟩
    · exact .inl ⟨d, rfl, rfl, rfl, by rw [tk, td]; exact e⟩
    · cases p with
      | nil => exact absurd rfl hp
      | cons y p =>
        simp only [nameFits, List.isEmpty_cons, Bool.false_and, Bool.false_or] at hfit
        obtain ⟨xs, hxs⟩ := Option.isSome_iff_exists.1 hfit
        refine .inr ⟨by simp, b, o', reach_own hroot (hr.stay (r' := .t d) (fun _ _ _ _ _ h => h) (fun n e => by simp at e) (fun n e => ⟨d, rfl, by simp at e; subst e; exact td⟩)) hxs, by rw [tk]; exact hcell⟩)
  rw [appl_append, hv1]
  exact ⟨β, φ2, h2⟩

theorem mkrowa_sound {Γ : Gam} (h : RelW E v (tmv a) w β φ) (hC : ∀ b, E.C b → b < E.w0.heap.size) {d s k by_ : Nat} {ks : List Rt} {z : List AC} {t el : TypeId}
    (hop : o.op = .buildSlice t 1 #[(0, .tmp s)]) (hd : o.dst = some d) (hN : d < a.tmps.size) (ht : rowTy P t = some (el, 1, by_)) (hz : zeroOk P el z = true)
    (hdk : d ≠ k) {ws : List (Res × Val)} (hf : fop Γ v (.mkrowa d s k ks z) = some ws) : OpSound P E (appl v ws) o a w := by
  simp only [fop] at hf
  split at hf <;> try (simp at hf; done)
  rename_i e rows hv
  split at hf <;> try (simp at hf; done)
  rename_i hds
  simp only [not_or] at hds
  obtain ⟨⟨p, off⟩, hn, hf2⟩ := ob_some hf
  try dsimp only at hf2
  split at hf2 <;> simp only [Option.some.injEq, reduceCtorEq] at hf2
  rename_i _ e1
  simp only [Prod.mk.injEq] at e1
  obtain ⟨rfl, rfl⟩ := e1
  subst hf2
  have hks : tmv a k = tmv a s := by
    rcases named_spec h hn with ⟨_, _, e⟩ | ⟨hp, _⟩
    · exact e
    · exact absurd rfl hp
  obtain ⟨vals, g1, g2⟩ := h.ent s _ _ hv (by intro p hp; simp at hp)
  simp only [Bool.false_eq_true, if_false] at g2
  subst g2
  obtain ⟨ad, cp, hu⟩ := slice_val g1
  obtain ⟨i, zz, t1, t2, t3, t4, t5, t6, t7⟩ := rowTy_spec ht
  have hrep := (zeroOk_info (P := P) hz t2 t5 (XS E w φ) (XB w φ []) w)
  have hev : a.eval (.tmp s) = tmv a s := rfl
  intro next Q hnx
  refine wp_of next Q hd hN (u := .slice (some ⟨w.heap.size, 0, none⟩) 1 1) (w' := w.alloc (.cells #[tmv a s] el)) ?_ ?_ hnx
  · simp only [execOp, hop, Sem.run_bind]
    have hk : ∀ zs : Array Value, zs.size = 1 → Instr.fill (fun j => some (j, 1)) zs [(0, tmv a s)] = some #[tmv a s] := by
      intro zs hzs
      match zs, hzs with
      | ⟨[z0]⟩, _ => rw [hu]; simp [Instr.fill, Value.cells]
    simp [Instr.buildSlice, run_underlying t1, sizeOf, typeInfo, t2, t3, zeroValue, t5, newRow, hev, hk]
  · intro tm' htm
    have ew : putT v d [] (.pl false [.sl .own 1 [[.sl .own e rows]]]) ++ dropL v [s] = putT v d [] (.pl false [.sl .own 1 [[.sl .own e rows]]]) ++ dropT v s := by simp [dropL]
    obtain ⟨β1, φ1, h1⟩ := h.rowed hC (d := d) (L := [s]) (by simpa using hds.1) (.refl w) (vals := [tmv a s]) (rest := []) (t := el) (fr := (0, 0)) (w' := w.alloc (.cells #[tmv a s] el)) (by simp)
      (e := 1) (cap := 1) (len := 1) (rows := [[.sl .own e rows]]) (f := φ (.t s)) (h.le1 _) (fun b hb => ⟨s, by simp, hb⟩) (by simpa using g1) rfl ⟨Nat.le_refl _, by decide⟩ (by decide) (by simp) (by simp) (.inr rfl) (.inr rfl) htm
    rw [ew] at h1
    generalize hv1 : appl v (putT v d [] (.pl false [.sl .own 1 [[.sl .own e rows]]]) ++ dropT v s) = v1 at h1
    have hd1 : v1 (.t d) = .t [] (.pl false [.sl .own 1 [[.sl .own e rows]]]) := by
      rw [← hv1, appl_append]
      have := (appl_dropL v [s] (appl v (putT v d [] (.pl false [.sl .own 1 [[.sl .own e rows]]])))).1 d
      simp only [dropL, List.append_nil] at this
      rw [this, if_neg (by simpa using hds.1)]
      exact ((appl_putT v v d [] _).1 d).trans (if_pos rfl)
    have hcd : content v1 (.t d) = some [.sl .own 1 [[.sl .own e rows]]] := by simp only [content, hd1]
    have hroot := h1.root hcd
    have tk : tm' k = tmv a s := by rw [htm, if_neg (Ne.symm hdk)]; exact hks
    have td : tm' d = .slice (some ⟨w.heap.size, 0, none⟩) 1 1 := by rw [htm, if_pos rfl]
    have hcell : (w.alloc (.cells #[tmv a s] el)).cell? ⟨w.heap.size, 0, none⟩ = some (tmv a s) := by
      simp
    obtain ⟨φ2, h2⟩ := h1.name hC (k := k) (q := .t d) (p := [(0, 0, 1)]) (off := 0) (by simpa using hdk) (by simp [Rt.res, hd1, isNope])
      (.inr ⟨by simp, w.heap.size, 0, reach_own hroot (xs := [.sl .own e rows]) ⟨rfl, w.heap.size, 0, 1, 1, td, trivial, rfl, rfl⟩ (by simp [cellsAt]), by rw [tk]; exact hcell⟩)
    rw [appl_append, hv1]
    exact ⟨β1, φ2, h2⟩

theorem storea_sound {Γ : Gam} (h : RelW E v (tmv a) w β φ) (hC : ∀ b, E.C b → b < E.w0.heap.size) {p k : Nat} {rs ks : List Rt} {q : Rt} {x : Opr} {y : Operand} {t : TypeId}
    (hop : o.op = .store t (.tmp p) y) (hd : o.dst = none) (ht : tySize P t = some 1) (hxy : oprOk x y = true)
    {ws : List (Res × Val)} (hf : fop Γ v (.storea p rs q x k ks) = some ws) : OpSound P E (appl v ws) o a w := by
  simp only [fop] at hf
  split at hf <;> try (simp at hf; done)
  rename_i st q' path off hv
  split at hf <;> try (simp at hf; done)
  rename_i hc
  simp only [Bool.and_eq_true, decide_eq_true_eq] at hc
  obtain ⟨⟨hst, rfl⟩, hqk⟩ := hc
  split at hf <;> try (simp at hf; done)
  rename_i st2 q2 p2 off2 hvk
  split at hf <;> try (simp at hf; done)
  rename_i hc2
  simp only [Bool.and_eq_true, decide_eq_true_eq, Bool.not_eq_true', List.isEmpty_eq_false_iff] at hc2
  obtain ⟨⟨hst2, rfl⟩, hp2⟩ := hc2
  obtain ⟨c0, hx, hf1⟩ := ob_some hf
  try dsimp only at hf1
  split at hf1 <;> try (simp at hf1; done)
  rename_i kd c
  obtain ⟨cs, hcs, hf2⟩ := ob_some hf1
  obtain ⟨xs, hxs, hf3⟩ := ob_some hf2
  try dsimp only at hf3
  split at hf3 <;> try (simp at hf3; done)
  rename_i hi1
  obtain ⟨ys, hys, hf4⟩ := ob_some hf3
  try dsimp only at hf4
  split at hf4 <;> try (simp at hf4; done)
  rename_i hr1
  obtain ⟨cs', hset, hf5⟩ := ob_some hf4
  obtain ⟨zs, hzs, hf6⟩ := ob_some hf5
  simp only [Option.some.injEq] at hf6
  subst hf6
  clear hf hf1 hf2 hf3 hf4 hf5
  obtain ⟨k1, k2⟩ := stOk_spec hst
  obtain ⟨⟨r0, r1, b', o', e, hreach⟩, k3⟩ := h.slotRep hv k1
  have hal := (h.slotRep hvk (stOk_spec hst2).1).1
  have hsc := sca_val h hxy hx rfl
  simp only [Scal] at hsc
  -- what is written over is a number
  obtain ⟨vs, ψ, c1, c2, _⟩ := content_at h hcs hreach hxs
  have hold : ∃ kd' n', w.cell? ⟨b', o', none⟩ = some (.int kd' n') := by
    match xs, hi1 with
    | .int kd' n' :: _, _ =>
      obtain ⟨u, us, ψ1, ψ2, rfl, d1, _, _⟩ := c2.uncons
      have := d1.scal rfl
      simp only [Scal] at this
      have h0 := c1 0 (by simp)
      simp at h0
      exact ⟨kd', n', by rw [h0, this]⟩
  obtain ⟨kd', n', hold⟩ := hold
  -- the other name's value is a slice
  have hsl : ∃ ad l cp, tmv a k = .slice ad l cp := by
    match ys, hr1 with
    | .sl .own e rows :: _, _ =>
      obtain ⟨ψ', d1, _⟩ := alias_at h hcs hal hys
      obtain ⟨ad, cp, hu⟩ := slice_val d1
      exact ⟨ad, _, cp, hu⟩
  obtain ⟨ad, l, cp, hsl⟩ := hsl
  obtain ⟨fq, w1, w2, w3, w4, w5⟩ := (h.root hcs).write hreach hset (nvals := [.int kd c]) (ψ := fun _ => 0) (.sc rfl .nil) (fun z => by have := h.le1 q2.res z; simpa using this)
    (fun z hz => ⟨fun hx => hz (hx.2.1 _), fun hx => by obtain ⟨_, h1, _⟩ := hx.2 _ hz; simp at h1⟩)
  have hrun := storeAt_run (P := P) ht (vals := [.int kd c]) (u := .int kd c) rfl rfl w4 (by simp [Value.oneCell'])
  have hev : a.eval (.tmp p) = .pointer (some ⟨b', o', none⟩) := e
  intro next Q hn
  unfold Oper.wp
  have hex : (execOp a.eval o).run P w = .ok .skip (w.setCells b' o' [.int kd c]) := by simp [execOp, hop, hev, hsc, hrun]
  rw [hex, Oper.upon_skip, hd]
  refine hn _ _ ⟨?_, rfl, rfl⟩ (Wrote.refl _ _)
  have hzero : ∀ z, (∀ r, φ r z = 0) → ∀ r, upF φ (placeN q2 fq none (fun _ => 0) []) r z = 0 := fun z hz r => upF_zero (fun y hy hy0 => by
    rcases placeN_mem hy with rfl | ⟨d', hd', rfl⟩ | ⟨n', hn', rfl⟩
    · dsimp only at hy0
      have := w2 z
      exact ⟨_, show φ q2.res z ≠ 0 by omega⟩
    · exact absurd rfl hy0
    · exact absurd rfl hy0) hz r
  have hsz : (w.setCells b' o' [.int kd c]).heap.size = w.heap.size := size_setCells _ _ _
  have monoS : ∀ z, XS E w φ z → XS E (w.setCells b' o' [.int kd c]) (upF φ (placeN q2 fq none (fun _ => 0) [])) z := fun z hz => ⟨by rw [hsz]; exact hz.1, hzero z hz.2.1, hz.2.2⟩
  have monoB : ∀ z, XB w φ [] z → XB (w.setCells b' o' [.int kd c]) (upF φ (placeN q2 fq none (fun _ => 0) [])) [] z := fun z hz =>
    ⟨by rw [hsz]; exact hz.1, fun r hr => absurd (hzero z (fun r' => Classical.byContradiction fun e => by obtain ⟨_, h1, _⟩ := hz.2 r' e; simp at h1) r) hr⟩
  have key := h.place (w' := w.setCells b' o' [.int kd c]) (tm' := tmv a) hC hcs (setAt_len _ hset) (L := []) (D := none) (by simp) (by rintro d ⟨_, _, e⟩; simp at e) (fq := fq) (fd := fun _ => 0)
    (fun z => by have h5 : fq z ≤ φ q2.res z + 0 := w2 z; have := h.le1 q2.res z; omega) (by simp) (by simp) (fun z hz => by
      have h5 : fq z ≤ φ q2.res z + 0 := w2 z
      exact .inl (by omega)) (by simp) (fun n hn => w5 n hn) (fun z hz h0 hL => heap_setCells (fun e => w3 (by rw [← e]; exact h0)) _ _ _) (os_setCells _ _ _).1 (os_setCells _ _ _).2.1 (os_setCells _ _ _).2.2 (by rw [hsz]; exact Nat.le_refl _)
    (fun _ _ => rfl) (w1.weak monoS monoB) (by simp)
  have e2 : putC v q2 cs' ++ (DP.ws v none ++ dropL v []) = putC v q2 cs' := by simp [DP.ws, dropL]
  rw [e2] at key
  have fQ : upF φ (placeN q2 fq none (fun _ => 0) []) q2.res = fq := by simp [placeN, upF]
  generalize upF φ (placeN q2 fq none (fun _ => 0) []) = φ1 at key fQ
  -- headers are as they were
  have stay : ∀ b2 o2 x l c2, w.cell? ⟨b2, o2, none⟩ = some (.slice x l c2) → (w.setCells b' o' [.int kd c]).cell? ⟨b2, o2, none⟩ = some (.slice x l c2) := by
    intro b2 o2 x l c2 hcell
    by_cases hh : b2 = b' ∧ o2 = o'
    · obtain ⟨rfl, rfl⟩ := hh
      rw [hold] at hcell
      simp at hcell
    · rw [World.cell?_setCells_out _ _ _ _ _ (fun h1 _ => by simp at h1 ⊢; omega)]
      exact hcell
  have hone : ∀ n, q2 = .t n → ∃ c, cs' = [c] := by
    intro n e
    subst e
    have hl := setAt_len _ hset
    simp only [content] at hcs
    split at hcs <;> simp only [Option.some.injEq, reduceCtorEq] at hcs
    subst hcs
    match cs', hl with
    | [c], _ => exact ⟨c, rfl⟩
  obtain ⟨a1, a2, a3⟩ := appl_putC v hone
  have hqn : isNope (appl v (putC v q2 cs') q2.res) = false := by
    cases q2 with
    | b n => rw [show (Rt.b n).res = Res.b n from rfl, a2, if_pos rfl]; rfl
    | t n => rw [show (Rt.t n).res = Res.t n from rfl, a1, if_pos rfl]; rfl
  have hname : ∃ b2 o2, Reach w (tmv a) β (fun x => φ q2.res x ≠ 0) q2 p2 off2 b2 o2 ∧ w.cell? ⟨b2, o2, none⟩ = some (tmv a k) := by
    obtain ⟨_, _, h2⟩ := hal
    cases p2 with
    | nil => exact absurd rfl hp2
    | cons y p2 => cases q2 <;> exact h2
  obtain ⟨b2, o2, hr2, hc2⟩ := hname
  have hr3 := reach_own w1 (hr2.stay (tm' := tmv a) (β' := β) (r' := q2) stay (fun n e => ⟨e, rfl⟩) (fun n e => ⟨n, e, rfl⟩)) hzs
  rw [hsl] at hc2
  obtain ⟨φ2, h2⟩ := key.name hC (k := k) (q := q2) (p := p2) (off := off2) hqk hqn (.inr ⟨fun _ _ => hp2, b2, o2, by rw [fQ]; exact hr3, by rw [hsl]; exact stay _ _ _ _ _ hc2⟩)
  rw [appl_append]
  exact ⟨β, φ2, h2⟩

/-- What another name leads to is held by all from now on. -/
theorem RelW.frzAt {tm : Nat → Value} (h : RelW E v tm w β φ) (hC : ∀ b, E.C b → b < E.w0.heap.size) {k : Nat} {q : Rt} {p : Path} {off : Nat} {cs rest cs' : List AC} {c : AC} (hqk : q ≠ .t k) (hcs : content v q = some cs)
    (hx : cellsAt cs p off = some (c :: rest)) (hset : setAt cs p off [c.frz] = some cs') (hpl : ∃ b o, Reach w tm β (fun x => φ q.res x ≠ 0) q p off b o ∧ w.cell? ⟨b, o, none⟩ = some (tm k)) :
    ∃ φ', RelW E (appl v (putC v q cs' ++ putT v k [] (.pl false [c.frz]))) tm w β φ' := by
  obtain ⟨b, o', hreach, hcell⟩ := hpl
  obtain ⟨vs, ψ, s1, s2, s3, s4, s5⟩ := (h.root hcs).swap hreach hx hset
  have hvs : vs = [tm k] := by
    match vs, s2 with
    | [u], _ =>
      have := s1 0 (by simp)
      simp [hcell] at this
      rw [this]
  subst hvs
  simp only [List.length_cons, List.length_nil, Nat.zero_add, List.take_succ_cons, List.take_zero] at s3
  have hdq := fun x hx => h.dom q.res x hx
  have both : ∀ (Xs' Xb' : Nat → Prop), (∀ b, XS E w φ b → Xs' b) → (∀ b, ψ b ≠ 0 → Xs' b) → RepL w Xs' Xb' [c.frz] [tm k] (fun _ => 0) := fun Xs' Xb' hs hz => s3.frz Xb' hs hz
  obtain ⟨f0, _, f2⟩ := s5 (fun b => XS E w φ b ∨ ψ b ≠ 0) (fun b => XB w φ [] b) (fun _ => 0) (fun b hb => .inl hb) (fun _ hb => hb) (both _ _ (fun b hb => .inl hb) (fun b hb => .inr hb))
  have hzero : ∀ b, (∀ r, φ r b = 0) → ∀ r, upF φ (placeN q f0 (some (k, false, [c.frz])) (fun _ => 0) []) r b = 0 := fun b hb r => upF_zero (fun x hx hx0 => by
    refine ⟨q.res, ?_⟩
    rcases placeN_mem hx with rfl | ⟨d', _, rfl⟩ | ⟨n', hn', rfl⟩
    · have := f2 b; dsimp only at hx0; omega
    · exact absurd rfl hx0
    · simp at hn') hb r
  have monoS : ∀ b, XS E w φ b → XS E w (upF φ (placeN q f0 (some (k, false, [c.frz])) (fun _ => 0) [])) b := fun b hb => ⟨hb.1, hzero b hb.2.1, hb.2.2⟩
  have monoB : ∀ b, XB w φ [] b → XB w (upF φ (placeN q f0 (some (k, false, [c.frz])) (fun _ => 0) [])) [] b := fun b hb =>
    ⟨hb.1, fun r hr => absurd (hzero b (fun r' => Classical.byContradiction fun e => by obtain ⟨_, h1, _⟩ := hb.2 r' e; simp at h1) r) hr⟩
  have frzS : ∀ b, ψ b ≠ 0 → XS E w (upF φ (placeN q f0 (some (k, false, [c.frz])) (fun _ => 0) [])) b := fun b hb => by
    have hq0 : φ q.res b ≠ 0 := by have := s4 b; omega
    refine ⟨(hdq b hq0).1, fun r => ?_, (hdq b hq0).2.1⟩
    by_cases hr : r ∈ (placeN q f0 (some (k, false, [c.frz])) (fun _ => 0) []).map (·.1)
    · obtain ⟨f, g1, g2⟩ := upF_mem (φ := φ) hr
      rw [g2]
      rcases placeN_mem g1 with e | ⟨d', _, e⟩ | ⟨n', hn', _⟩
      · simp only [Prod.mk.injEq] at e
        rw [e.2]
        have := f2 b
        have := h.le1 q.res b
        omega
      · simp only [Prod.mk.injEq] at e
        rw [e.2]
      · simp at hn'
    · rw [upF_not hr]
      refine Classical.byContradiction fun e => hr ?_
      have := h.uniq r q.res b e hq0
      rw [placeN_fst]
      exact .inl this
  have b1 := both _ (XB w (upF φ (placeN q f0 (some (k, false, [c.frz])) (fun _ => 0) [])) []) monoS frzS
  obtain ⟨f1, q1, q2⟩ := s5 _ _ _ monoS monoB b1
  have hf01 : f1 = f0 := funext fun x => by have := q2 x; have := f2 x; omega
  subst hf01
  have key := h.place (w' := w) (tm' := tm) hC hcs (setAt_len _ hset) (L := []) (D := some (k, false, [c.frz])) (by simp) (by
      rintro d' ⟨a', c', e'⟩
      simp at e'
      obtain ⟨rfl, _, _⟩ := e'
      exact ⟨hqk, by simp⟩) (fq := f1) (fd := fun _ => 0) (fun x => by have := f2 x; have := h.le1 q.res x; omega) (by simp) (by simp) (fun x hx => .inl (by have := f2 x; omega)) (by simp) (fun n hn => q1.keep n hn)
    (fun _ _ _ _ => rfl) rfl rfl rfl (Nat.le_refl _) (fun _ _ => rfl) q1
    (fun d' a' ds e' => by
      simp at e'
      obtain ⟨rfl, rfl, rfl⟩ := e'
      exact ⟨[tm k], b1, by simp⟩)
  have e2 : putC v q cs' ++ (DP.ws v (some (k, false, [c.frz])) ++ dropL v []) = putC v q cs' ++ putT v k [] (.pl false [c.frz]) := by simp [DP.ws, dropL]
  rw [e2] at key
  exact ⟨_, key⟩
end
end Go.Fw
