/- FnExactDamageOf, part G: THE ROW: whatever the input, the law returns true and the input reads as it did. Conditions: the row's own (the listed variables read as their texts say). -/
import Derived.Test.YtjldolmokfnkoaaGreatDoorRows
import Derived.Test.YtjldolmokfnkoaaGreatDoorLyF
import Derived.ProofKit
import Derived.LaidMore
import Derived.OpenShut
import Derived.Stop.Joined
import Derived.Stop.LaidErr
import Derived.MakeChecks
namespace Go.Proofs.YtjldolmokfnkoaaGreatDoor
open Go.ChangeShapes Go.WideShapes Go.ChangeAt Go.WideMaps Go.WideElems Go.RowKit Go.Fw

theorem Ly.trodAll_n {H : Type} {enc : TypeId × Value → H} {P : Program} {w : World} {base : Nat} {spare : Nat → Bool} {held : Bool} {s0 s1 s2 s3 s4 : TypeId} {args : Array Value} {ds : List (DataW H)} {ps : List MemPlace} (h : DataW.TrodAll enc P w base spare held [s0, s1, s2, s3, s4] args.toList ds ps) :
    ∃ v0 v1 v2 v3 v4 d0 d1 d2 d3 d4 p0 p1 p2 p3 p4, args = #[v0, v1, v2, v3, v4] ∧ ds = [d0, d1, d2, d3, d4] ∧ ps = p0 ++ (p1 ++ (p2 ++ (p3 ++ (p4 ++ [])))) ∧ DataW.Trod enc P w base spare held s0 v0 d0 p0 ∧ DataW.Trod enc P w base spare held s1 v1 d1 p1 ∧ DataW.Trod enc P w base spare held s2 v2 d2 p2 ∧ DataW.Trod enc P w base spare held s3 v3 d3 p3 ∧ DataW.Trod enc P w base spare held s4 v4 d4 p4 := by
  obtain ⟨v0, w0, d0, e0, p0, q0, hargs, rfl, rfl, h0, g0⟩ := trodAll_cons h
  obtain ⟨v1, w1, d1, e1, p1, q1, rfl, rfl, rfl, h1, g1⟩ := trodAll_cons g0
  obtain ⟨v2, w2, d2, e2, p2, q2, rfl, rfl, rfl, h2, g2⟩ := trodAll_cons g1
  obtain ⟨v3, w3, d3, e3, p3, q3, rfl, rfl, rfl, h3, g3⟩ := trodAll_cons g2
  obtain ⟨v4, w4, d4, e4, p4, q4, rfl, rfl, rfl, h4, g4⟩ := trodAll_cons g3
  obtain ⟨rfl, rfl, rfl⟩ := trodAll_nil g4
  exact ⟨v0, v1, v2, v3, v4, d0, d1, d2, d3, d4, p0, p1, p2, p3, p4, by cases args; simp_all, rfl, rfl, h0, h1, h2, h3, h4⟩
theorem Ly.own : ownKnob Tryz.prog.godebug = none := by kernel_rfl
theorem Ly.laidOut : laidOutB Tryz.prog = true := by kernel_rfl
theorem Ly.door_met (os : Os) (args : Array Value) : laidMetH Tryz.prog Rows.fnExactDamageOfRow.laid ((World.doorLaid Tryz.prog 400 os).forCall (fun _ _ => 0) ⟨#[], args, []⟩).memory :=
  laidMetH_of_parts3 (fuel := 8) (laidMet_of_run' 8 (by kernel_rfl) (by kernel_rfl)) (by kernel_rfl) (by kernel_rfl)
theorem Ly.row181 (u : TypeId) (h : Tryz.prog.typeName? 3 u = some "*errors.errorString") : u = 181 := by
  have star : "*" ++ "errors.errorString" = "*errors.errorString" := by decide
  exact typeName_ptr_named (nm := "errors.errorString") (by rw [star]; kernel_rfl) (by kernel_rfl) (by decide) u (by rw [star]; exact h)
theorem Ly.cells183 : Tryz.prog.cellsOf 183 = 1 := by kernel_rfl

/-- What the row lists is what the functions read. -/
theorem Ly.vars {W : World} (h : laidMetH Tryz.prog Rows.fnExactDamageOfRow.laid W) : Fw.Law.Vars W := by
  rw [MakeChecks.laidMetH_plain _ _ _ (by kernel_rfl)] at h
  have h2 := h.tail.tail
  obtain ⟨a0, s0, hv0, -⟩ := laid_sentinel h2.tail (g := 1) (by kernel_rfl) (by kernel_rfl) Tryz.underlying153 Ly.row181 Tryz.underlying181 Tryz.underlying183 rfl rfl Tryz.underlying9 Ly.cells183 Fw.Law.cs9
  obtain ⟨a1, s1, hv1, -⟩ := laid_sentinel h2.tail.tail (g := 0) (by kernel_rfl) (by kernel_rfl) Tryz.underlying153 Ly.row181 Tryz.underlying181 Tryz.underlying183 rfl rfl Tryz.underlying9 Ly.cells183 Fw.Law.cs9
  refine ⟨Lib.tabIs_of_head (g := 2) (t := 186) (e := 166) (n := 20) (zs := Lib.pow10Tab) (by kernel_rfl) (by kernel_rfl) Tryz.underlying186 Tryz.underlying166 (by kernel_rfl) (by kernel_rfl) h2, ?_, ?_⟩
  · exact ⟨_, by have h0 := World.var?_cell (g := 0) (by kernel_rfl) hv1 0; simpa using h0, .inr ⟨_, _, rfl⟩⟩
  · exact ⟨_, by have h0 := World.var?_cell (g := 1) (by kernel_rfl) hv0 0; simpa using h0, .inr ⟨_, _, rfl⟩⟩

set_option maxRecDepth 100000 in
theorem Ly.lifted (os : Os) (started : os.Started) (H : Type) (enc : TypeId × Value → H) :
    ReturnsInHanded {} Tryz.checked os 5 .any (fun w args => (Rows.fnExactDamageOfSpec.pre enc Tryz.prog Tryz.f5 [] false w args ∧ laidMetH Tryz.prog Rows.fnExactDamageOfRow.laid w) ∧ sizedMet enc Tryz.prog Tryz.f5 (OpenSpec.ofChange Rows.fnExactDamageOfSpec) false w args)
      (Rows.fnExactDamageOfSpec.post enc Tryz.prog Tryz.f5 false true false false) := by
  refine returnsInHanded_of_change_and (C := Tryz.checked) (X := fun w _ => laidMetH Tryz.prog Rows.fnExactDamageOfRow.laid w) (fun _ _ _ hh h => h.of_heap hh) Ly.own started (by kernel_rfl) Tryz.func5
    (ChangeSpec.witness_shaped (enc := enc) (C := Tryz.checked) (os := os) (X := fun w _ => laidMetH Tryz.prog Rows.fnExactDamageOfRow.laid w) false (World.doorLaid Tryz.prog 400 os)
      #[.agg #[.int .i64 0, .int .i64 0, .string ⟨#[]⟩, .slice none 0 0, .slice none 0 0], .agg #[.int .i64 0, .int .i64 0, .string ⟨#[]⟩, .slice none 0 0, .slice none 0 0], .slice none 0 0, .int .i64 0, .int .i64 0] 8 rfl (World.shaped_of_RefB (by kernel_rfl) (by kernel_rfl)) (by kernel_rfl) (by kernel_rfl) (by kernel_rfl) (Ly.door_met os _)) ?_
  intro W base args ds gs before hval0 hW _ _ hL _
  have hval : ∀ (j : Nat) t v, Tryz.f5.params[j]? = some t → args[j]? = some v → Value.okWide Tryz.prog W .any base t v := hval0
  have hW' := hW
  obtain ⟨p, q, hA0, hV, rfl, hfz, hnd⟩ := hW
  have hA : DataW.TrodAll enc Tryz.prog W 0 (fun _ => true) true Tryz.f5.params.toList args.toList ds p := hA0
  rw [Tryz.params5] at hA hval
  obtain ⟨v0, v1, v2, v3, v4, d0, d1, d2, d3, d4, p0, p1, p2, p3, p4, rfl, rfl, rfl, h0, h1, h2, h3, h4⟩ := Ly.trodAll_n hA
  obtain ⟨rfl, rfl⟩ := trodVars_none hV
  have hok0 := hval 0 25 v0 rfl rfl
  simp only [Value.okWide, Tryz.underlying25] at hok0
  obtain ⟨c0, rfl, _, _⟩ := hok0
  have hok1 := hval 1 25 v1 rfl rfl
  simp only [Value.okWide, Tryz.underlying25] at hok1
  obtain ⟨c1, rfl, _, _⟩ := hok1
  obtain ⟨a2, len2, cap2, rfl⟩ := okWide_slice Tryz.underlying26 (hval 2 26 v2 rfl rfl)
  obtain ⟨k3, rfl, _, _, _⟩ := open_int Tryz.underlying3 (hval 3 3 v3 rfl rfl) h3
  obtain ⟨k4, rfl, _, _, _⟩ := open_int Tryz.underlying3 (hval 4 3 v4 rfl rfl) h4
  have q0 := h0
  have q1 := h1
  have q2 := h2
  have q3 := h3
  have q4 := h4
  have lt0 : ∀ x ∈ p0, x.block < W.heap.size := by obtain ⟨m, hm⟩ := q0; exact DataW.trod_lt m _ _ _ hm
  have lt1 : ∀ x ∈ p1, x.block < W.heap.size := by obtain ⟨m, hm⟩ := q1; exact DataW.trod_lt m _ _ _ hm
  have lt2 : ∀ x ∈ p2, x.block < W.heap.size := by obtain ⟨m, hm⟩ := q2; exact DataW.trod_lt m _ _ _ hm
  have lt3 : ∀ x ∈ p3, x.block < W.heap.size := by obtain ⟨m, hm⟩ := q3; exact DataW.trod_lt m _ _ _ hm
  have lt4 : ∀ x ∈ p4, x.block < W.heap.size := by obtain ⟨m, hm⟩ := q4; exact DataW.trod_lt m _ _ _ hm
  have walk : Calls Tryz.prog 5 #[.agg c0, .agg c1, .slice a2 len2 cap2, .int .i64 k3, .int .i64 k4] W fun e W' => e = .returned (.bool true) ∧ Below W.heap.size W W' := by
    obtain ⟨m0, e0⟩ := h0
    obtain ⟨t0, r0, l0, _⟩ := Fw.Law.read_tree (Xs := AXs W (fun _ => False) (fun _ => 0)) (fun b hb => ⟨hb, rfl, fun h => h⟩) (m0 + 1) m0 (Nat.lt_succ_self _) (Xb := AXb W (fun _ => 0)) _ _ e0
    obtain ⟨m1, e1⟩ := h1
    obtain ⟨t1, r1, l1, _⟩ := Fw.Law.read_tree (Xs := AXs W (fun _ => False) (fun _ => 0)) (fun b hb => ⟨hb, rfl, fun h => h⟩) (m1 + 1) m1 (Nat.lt_succ_self _) (Xb := AXb W (fun _ => 0)) _ _ e1
    obtain ⟨m2, e2⟩ := h2
    obtain ⟨rs2, x2, l2, r2⟩ := Fw.Law.read_rules (Xs := AXs W (fun _ => False) (fun _ => 0)) (Xb := AXb W (fun _ => 0)) (fun b hb => ⟨hb, rfl, fun h => h⟩) e2
    have := Fw.Law.calls5 W (Ly.vars hL) _ t0 l0 r0 _ t1 l1 r1 _ rs2 l2 x2 r2 k3 k4
    simpa [Value.cells] using this
  refine walk.mono fun e W' ⟨he, bel⟩ => ?_
  subst he
  exact ⟨_, rfl, _, _, _, [], _, [], hW', trodAll_mk1 (shut_bool Tryz.underlying4 _), (trodAll_cons_mk (Below.trod Ly.laidOut (by kernel_rfl) (of_decide_eq_true (by kernel_rfl)) q0 bel lt0) (trodAll_cons_mk (Below.trod Ly.laidOut (by kernel_rfl) (of_decide_eq_true (by kernel_rfl)) q1 bel lt1) (trodAll_cons_mk (Below.trod Ly.laidOut (by kernel_rfl) (of_decide_eq_true (by kernel_rfl)) q2 bel lt2) (trodAll_cons_mk (Below.trod Ly.laidOut (by kernel_rfl) (of_decide_eq_true (by kernel_rfl)) q3 bel lt3) (trodAll_cons_mk (Below.trod Ly.laidOut (by kernel_rfl) (of_decide_eq_true (by kernel_rfl)) q4 bel lt4) trodAll_mk0))))), rfl, bel.frame _, fun h => by cases h⟩

end Go.Proofs.YtjldolmokfnkoaaGreatDoor
