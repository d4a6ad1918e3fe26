/- FnExactHitAt, part G: THE ROW: whatever the input, the law returns true and the input reads as it did. Conditions: the row's own (the listed variables read as their texts say). -/
import Derived.Test.YtjldolmokfnkoaaGreatDoorRows
import Derived.Test.YtjldolmokfnkoaaGreatDoorLgF
import Derived.ProofKit
import Derived.LaidMore
import Derived.OpenShut
import Derived.Stop.Joined
import Derived.Stop.LaidErr
import Derived.MakeChecks
namespace Go.Proofs.YtjldolmokfnkoaaGreatDoor
open Go.ChangeShapes Go.WideShapes Go.ChangeAt Go.WideMaps Go.WideElems Go.RowKit Go.Fw

theorem Lg.trodAll_n {H : Type} {enc : TypeId × Value → H} {P : Program} {w : World} {base : Nat} {spare : Nat → Bool} {held : Bool} {s0 s1 s2 s3 s4 s5 : TypeId} {args : Array Value} {ds : List (DataW H)} {ps : List MemPlace} (h : DataW.TrodAll enc P w base spare held [s0, s1, s2, s3, s4, s5] args.toList ds ps) :
    ∃ v0 v1 v2 v3 v4 v5 d0 d1 d2 d3 d4 d5 p0 p1 p2 p3 p4 p5, args = #[v0, v1, v2, v3, v4, v5] ∧ ds = [d0, d1, d2, d3, d4, d5] ∧ ps = p0 ++ (p1 ++ (p2 ++ (p3 ++ (p4 ++ (p5 ++ []))))) ∧ DataW.Trod enc P w base spare held s0 v0 d0 p0 ∧ DataW.Trod enc P w base spare held s1 v1 d1 p1 ∧ DataW.Trod enc P w base spare held s2 v2 d2 p2 ∧ DataW.Trod enc P w base spare held s3 v3 d3 p3 ∧ DataW.Trod enc P w base spare held s4 v4 d4 p4 ∧ DataW.Trod enc P w base spare held s5 v5 d5 p5 := by
  obtain ⟨v0, w0, d0, e0, p0, q0, hargs, rfl, rfl, h0, g0⟩ := trodAll_cons h
  obtain ⟨v1, w1, d1, e1, p1, q1, rfl, rfl, rfl, h1, g1⟩ := trodAll_cons g0
  obtain ⟨v2, w2, d2, e2, p2, q2, rfl, rfl, rfl, h2, g2⟩ := trodAll_cons g1
  obtain ⟨v3, w3, d3, e3, p3, q3, rfl, rfl, rfl, h3, g3⟩ := trodAll_cons g2
  obtain ⟨v4, w4, d4, e4, p4, q4, rfl, rfl, rfl, h4, g4⟩ := trodAll_cons g3
  obtain ⟨v5, w5, d5, e5, p5, q5, rfl, rfl, rfl, h5, g5⟩ := trodAll_cons g4
  obtain ⟨rfl, rfl, rfl⟩ := trodAll_nil g5
  exact ⟨v0, v1, v2, v3, v4, v5, d0, d1, d2, d3, d4, d5, p0, p1, p2, p3, p4, p5, by cases args; simp_all, rfl, rfl, h0, h1, h2, h3, h4, h5⟩
theorem Lg.own : ownKnob Tryz.prog.godebug = none := by kernel_rfl
theorem Lg.laidOut : laidOutB Tryz.prog = true := by kernel_rfl
theorem Lg.door_met (os : Os) (args : Array Value) : laidMetH Tryz.prog Rows.fnExactHitAtRow.laid ((World.doorLaid Tryz.prog 400 os).forCall (fun _ _ => 0) ⟨#[], args, []⟩).memory :=
  laidMetH_of_parts3 (fuel := 8) (laidMet_of_run' 8 (by kernel_rfl) (by kernel_rfl)) (by kernel_rfl) (by kernel_rfl)
theorem Lg.row181 (u : TypeId) (h : Tryz.prog.typeName? 3 u = some "*errors.errorString") : u = 181 := by
  have star : "*" ++ "errors.errorString" = "*errors.errorString" := by decide
  exact typeName_ptr_named (nm := "errors.errorString") (by rw [star]; kernel_rfl) (by kernel_rfl) (by decide) u (by rw [star]; exact h)
theorem Lg.cells183 : Tryz.prog.cellsOf 183 = 1 := by kernel_rfl

/-- What the row lists is what the functions read. -/
theorem Lg.vars {W : World} (h : laidMetH Tryz.prog Rows.fnExactHitAtRow.laid W) : Fw.Law.Vars W := by
  rw [MakeChecks.laidMetH_plain _ _ _ (by kernel_rfl)] at h
  have h2 := h.tail.tail
  obtain ⟨a0, s0, hv0, -⟩ := laid_sentinel h2.tail (g := 1) (by kernel_rfl) (by kernel_rfl) Tryz.underlying153 Lg.row181 Tryz.underlying181 Tryz.underlying183 rfl rfl Tryz.underlying9 Lg.cells183 Fw.Law.cs9
  obtain ⟨a1, s1, hv1, -⟩ := laid_sentinel h2.tail.tail (g := 0) (by kernel_rfl) (by kernel_rfl) Tryz.underlying153 Lg.row181 Tryz.underlying181 Tryz.underlying183 rfl rfl Tryz.underlying9 Lg.cells183 Fw.Law.cs9
  refine ⟨Lib.tabIs_of_head (g := 2) (t := 186) (e := 166) (n := 20) (zs := Lib.pow10Tab) (by kernel_rfl) (by kernel_rfl) Tryz.underlying186 Tryz.underlying166 (by kernel_rfl) (by kernel_rfl) h2, ?_, ?_⟩
  · exact ⟨_, by have h0 := World.var?_cell (g := 0) (by kernel_rfl) hv1 0; simpa using h0, .inr ⟨_, _, rfl⟩⟩
  · exact ⟨_, by have h0 := World.var?_cell (g := 1) (by kernel_rfl) hv0 0; simpa using h0, .inr ⟨_, _, rfl⟩⟩

set_option maxRecDepth 100000 in
theorem Lg.lifted (os : Os) (started : os.Started) (H : Type) (enc : TypeId × Value → H) :
    ReturnsInHanded {} Tryz.checked os 3 .any (fun w args => (Rows.fnExactHitAtSpec.pre enc Tryz.prog Tryz.f3 [] false w args ∧ laidMetH Tryz.prog Rows.fnExactHitAtRow.laid w) ∧ sizedMet enc Tryz.prog Tryz.f3 (OpenSpec.ofChange Rows.fnExactHitAtSpec) false w args)
      (Rows.fnExactHitAtSpec.post enc Tryz.prog Tryz.f3 false true false false) := by
  refine returnsInHanded_of_change_and (C := Tryz.checked) (X := fun w _ => laidMetH Tryz.prog Rows.fnExactHitAtRow.laid w) (fun _ _ _ hh h => h.of_heap hh) Lg.own started (by kernel_rfl) Tryz.func3
    (ChangeSpec.witness_shaped (enc := enc) (C := Tryz.checked) (os := os) (X := fun w _ => laidMetH Tryz.prog Rows.fnExactHitAtRow.laid w) false (World.doorLaid Tryz.prog 400 os)
      #[.agg #[.int .i64 0, .int .i64 0, .string ⟨#[]⟩, .slice none 0 0, .slice none 0 0], .slice none 0 0, .int .i64 0, .int .i64 0, .int .i64 0, .int .i64 0] 8 rfl (World.shaped_of_RefB (by kernel_rfl) (by kernel_rfl)) (by kernel_rfl) (by kernel_rfl) (by kernel_rfl) (Lg.door_met os _)) ?_
  intro W base args ds gs before hval0 hW _ _ hL _
  have hval : ∀ (j : Nat) t v, Tryz.f3.params[j]? = some t → args[j]? = some v → Value.okWide Tryz.prog W .any base t v := hval0
  have hW' := hW
  obtain ⟨p, q, hA0, hV, rfl, hfz, hnd⟩ := hW
  have hA : DataW.TrodAll enc Tryz.prog W 0 (fun _ => true) true Tryz.f3.params.toList args.toList ds p := hA0
  rw [Tryz.params3] at hA hval
  obtain ⟨v0, v1, v2, v3, v4, v5, d0, d1, d2, d3, d4, d5, p0, p1, p2, p3, p4, p5, rfl, rfl, rfl, h0, h1, h2, h3, h4, h5⟩ := Lg.trodAll_n hA
  obtain ⟨rfl, rfl⟩ := trodVars_none hV
  have hok0 := hval 0 25 v0 rfl rfl
  simp only [Value.okWide, Tryz.underlying25] at hok0
  obtain ⟨c0, rfl, _, _⟩ := hok0
  obtain ⟨a1, len1, cap1, rfl⟩ := okWide_slice Tryz.underlying26 (hval 1 26 v1 rfl rfl)
  obtain ⟨k2, rfl, _, _, _⟩ := open_int Tryz.underlying3 (hval 2 3 v2 rfl rfl) h2
  obtain ⟨k3, rfl, _, _, _⟩ := open_int Tryz.underlying3 (hval 3 3 v3 rfl rfl) h3
  obtain ⟨k4, rfl, _, _, _⟩ := open_int Tryz.underlying3 (hval 4 3 v4 rfl rfl) h4
  obtain ⟨k5, rfl, _, _, _⟩ := open_int Tryz.underlying3 (hval 5 3 v5 rfl rfl) h5
  have q0 := h0
  have q1 := h1
  have q2 := h2
  have q3 := h3
  have q4 := h4
  have q5 := h5
  have lt0 : ∀ x ∈ p0, x.block < W.heap.size := by obtain ⟨m, hm⟩ := q0; exact DataW.trod_lt m _ _ _ hm
  have lt1 : ∀ x ∈ p1, x.block < W.heap.size := by obtain ⟨m, hm⟩ := q1; exact DataW.trod_lt m _ _ _ hm
  have lt2 : ∀ x ∈ p2, x.block < W.heap.size := by obtain ⟨m, hm⟩ := q2; exact DataW.trod_lt m _ _ _ hm
  have lt3 : ∀ x ∈ p3, x.block < W.heap.size := by obtain ⟨m, hm⟩ := q3; exact DataW.trod_lt m _ _ _ hm
  have lt4 : ∀ x ∈ p4, x.block < W.heap.size := by obtain ⟨m, hm⟩ := q4; exact DataW.trod_lt m _ _ _ hm
  have lt5 : ∀ x ∈ p5, x.block < W.heap.size := by obtain ⟨m, hm⟩ := q5; exact DataW.trod_lt m _ _ _ hm
  have walk : Calls Tryz.prog 3 #[.agg c0, .slice a1 len1 cap1, .int .i64 k2, .int .i64 k3, .int .i64 k4, .int .i64 k5] W fun e W' => e = .returned (.bool true) ∧ Below W.heap.size W W' := by
    obtain ⟨m0, e0⟩ := h0
    obtain ⟨t0, r0, l0, _⟩ := Fw.Law.read_tree (Xs := AXs W (fun _ => False) (fun _ => 0)) (fun b hb => ⟨hb, rfl, fun h => h⟩) (m0 + 1) m0 (Nat.lt_succ_self _) (Xb := AXb W (fun _ => 0)) _ _ e0
    obtain ⟨m1, e1⟩ := h1
    obtain ⟨rs1, x1, l1, r1⟩ := Fw.Law.read_rules (Xs := AXs W (fun _ => False) (fun _ => 0)) (Xb := AXb W (fun _ => 0)) (fun b hb => ⟨hb, rfl, fun h => h⟩) e1
    have := Fw.Law.calls3 W (Lg.vars hL) _ t0 l0 r0 _ rs1 l1 x1 r1 k2 k3 k4 k5
    simpa [Value.cells] using this
  refine walk.mono fun e W' ⟨he, bel⟩ => ?_
  subst he
  exact ⟨_, rfl, _, _, _, [], _, [], hW', trodAll_mk1 (shut_bool Tryz.underlying4 _), (trodAll_cons_mk (Below.trod Lg.laidOut (by kernel_rfl) (of_decide_eq_true (by kernel_rfl)) q0 bel lt0) (trodAll_cons_mk (Below.trod Lg.laidOut (by kernel_rfl) (of_decide_eq_true (by kernel_rfl)) q1 bel lt1) (trodAll_cons_mk (Below.trod Lg.laidOut (by kernel_rfl) (of_decide_eq_true (by kernel_rfl)) q2 bel lt2) (trodAll_cons_mk (Below.trod Lg.laidOut (by kernel_rfl) (of_decide_eq_true (by kernel_rfl)) q3 bel lt3) (trodAll_cons_mk (Below.trod Lg.laidOut (by kernel_rfl) (of_decide_eq_true (by kernel_rfl)) q4 bel lt4) (trodAll_cons_mk (Below.trod Lg.laidOut (by kernel_rfl) (of_decide_eq_true (by kernel_rfl)) q5 bel lt5) trodAll_mk0)))))), rfl, bel.frame _, fun h => by cases h⟩

end Go.Proofs.YtjldolmokfnkoaaGreatDoor
