/- FnExactTreeMoves, part G: THE ROW: whatever the input, the law returns true and the input reads as it did. Conditions: the row's own (the listed variables read as their texts say). -/
import Derived.Test.YtdafhkchonfkjaaDoorRows
import Derived.Test.YtdafhkchonfkjaaDoorLdF
import Derived.ProofKit
import Derived.LaidMore
import Derived.OpenShut
import Derived.Stop.Joined
import Derived.Stop.LaidErr
import Derived.MakeChecks
namespace Go.Proofs.YtdafhkchonfkjaaDoor
open Go.ChangeShapes Go.WideShapes Go.ChangeAt Go.WideMaps Go.WideElems Go.RowKit Go.Fw

theorem Ld.own : ownKnob Tryd.prog.godebug = none := by kernel_rfl
theorem Ld.laidOut : laidOutB Tryd.prog = true := by kernel_rfl
theorem Ld.door_met (os : Os) (args : Array Value) : laidMetH Tryd.prog Rows.fnExactTreeMovesRow.laid ((World.doorLaid Tryd.prog 400 os).forCall (fun _ _ => 0) ⟨#[], args, []⟩).memory :=
  laidMetH_of_parts3 (fuel := 8) (laidMet_of_run' 8 (by kernel_rfl) (by kernel_rfl)) (by kernel_rfl) (by kernel_rfl)
theorem Ld.row118 (u : TypeId) (h : Tryd.prog.typeName? 3 u = some "*errors.errorString") : u = 118 := by
  have star : "*" ++ "errors.errorString" = "*errors.errorString" := by decide
  exact typeName_ptr_named (nm := "errors.errorString") (by rw [star]; kernel_rfl) (by kernel_rfl) (by decide) u (by rw [star]; exact h)
theorem Ld.cells120 : Tryd.prog.cellsOf 120 = 1 := by kernel_rfl

/-- What the row lists is what the functions read. -/
theorem Ld.vars {W : World} (h : laidMetH Tryd.prog Rows.fnExactTreeMovesRow.laid W) : Fw.Law.Vars W := by
  rw [MakeChecks.laidMetH_plain _ _ _ (by kernel_rfl)] at h
  have h2 := h.tail.tail
  obtain ⟨a0, s0, hv0, -⟩ := laid_sentinel h2.tail (g := 1) (by kernel_rfl) (by kernel_rfl) Tryd.underlying89 Ld.row118 Tryd.underlying118 Tryd.underlying120 rfl rfl Tryd.underlying9 Ld.cells120 Fw.Law.cs9
  obtain ⟨a1, s1, hv1, -⟩ := laid_sentinel h2.tail.tail (g := 0) (by kernel_rfl) (by kernel_rfl) Tryd.underlying89 Ld.row118 Tryd.underlying118 Tryd.underlying120 rfl rfl Tryd.underlying9 Ld.cells120 Fw.Law.cs9
  refine ⟨Lib.tabIs_of_head (g := 2) (t := 123) (e := 103) (n := 20) (zs := Lib.pow10Tab) (by kernel_rfl) (by kernel_rfl) Tryd.underlying123 Tryd.underlying103 (by kernel_rfl) (by kernel_rfl) h2, ?_, ?_⟩
  · exact ⟨_, by have h0 := World.var?_cell (g := 0) (by kernel_rfl) hv1 0; simpa using h0, .inr ⟨_, _, rfl⟩⟩
  · exact ⟨_, by have h0 := World.var?_cell (g := 1) (by kernel_rfl) hv0 0; simpa using h0, .inr ⟨_, _, rfl⟩⟩

set_option maxRecDepth 100000 in
theorem Ld.lifted (os : Os) (started : os.Started) (H : Type) (enc : TypeId × Value → H) :
    ReturnsInHanded {} Tryd.checked os 3 .any (fun w args => (Rows.fnExactTreeMovesSpec.pre enc Tryd.prog Tryd.f3 [] false w args ∧ laidMetH Tryd.prog Rows.fnExactTreeMovesRow.laid w) ∧ sizedMet enc Tryd.prog Tryd.f3 (OpenSpec.ofChange Rows.fnExactTreeMovesSpec) false w args)
      (Rows.fnExactTreeMovesSpec.post enc Tryd.prog Tryd.f3 false true false false) := by
  refine returnsInHanded_of_change_and (C := Tryd.checked) (X := fun w _ => laidMetH Tryd.prog Rows.fnExactTreeMovesRow.laid w) (fun _ _ _ hh h => h.of_heap hh) Ld.own started (by kernel_rfl) Tryd.func3
    (ChangeSpec.witness_shaped (enc := enc) (C := Tryd.checked) (os := os) (X := fun w _ => laidMetH Tryd.prog Rows.fnExactTreeMovesRow.laid w) false (World.doorLaid Tryd.prog 400 os)
      #[.agg #[.int .i64 0, .int .i64 0, .string ⟨#[]⟩, .slice none 0 0, .slice none 0 0], .agg #[.int .i64 0, .int .i64 0, .string ⟨#[]⟩, .slice none 0 0, .slice none 0 0], .int .i64 0] 8 rfl (World.shaped_of_RefB (by kernel_rfl) (by kernel_rfl)) (by kernel_rfl) (by kernel_rfl) (by kernel_rfl) (Ld.door_met os _)) ?_
  intro W base args ds gs before hval0 hW _ _ hL _
  have hval : ∀ (j : Nat) t v, Tryd.f3.params[j]? = some t → args[j]? = some v → Value.okWide Tryd.prog W .any base t v := hval0
  have hW' := hW
  obtain ⟨p, q, hA0, hV, rfl, hfz, hnd⟩ := hW
  have hA : DataW.TrodAll enc Tryd.prog W 0 (fun _ => true) true Tryd.f3.params.toList args.toList ds p := hA0
  rw [Tryd.params3] at hA hval
  obtain ⟨v0, v1, v2, d0, d1, d2, p0, p1, p2, rfl, rfl, rfl, h0, h1, h2⟩ := trodAll_three hA
  obtain ⟨rfl, rfl⟩ := trodVars_none hV
  have hok0 := hval 0 25 v0 rfl rfl
  have hok1 := hval 1 25 v1 rfl rfl
  simp only [Value.okWide, Tryd.underlying25] at hok0 hok1
  obtain ⟨c0, rfl, _, _⟩ := hok0
  obtain ⟨c1, rfl, _, _⟩ := hok1
  obtain ⟨k, rfl, _, _, _⟩ := open_int Tryd.underlying3 (hval 2 3 v2 rfl rfl) h2
  have k0 := h0
  have k1 := h1
  have k2 := h2
  have lt0 : ∀ x ∈ p0, x.block < W.heap.size := by obtain ⟨m, hm⟩ := k0; exact DataW.trod_lt m _ _ _ hm
  have lt1 : ∀ x ∈ p1, x.block < W.heap.size := by obtain ⟨m, hm⟩ := k1; exact DataW.trod_lt m _ _ _ hm
  have lt2 : ∀ x ∈ p2, x.block < W.heap.size := by obtain ⟨m, hm⟩ := k2; exact DataW.trod_lt m _ _ _ hm
  have walk : Calls Tryd.prog 3 #[.agg c0, .agg c1, .int .i64 k] W fun e W' => e = .returned (.bool true) ∧ Below W.heap.size W W' := by
    obtain ⟨m0, e0⟩ := h0
    obtain ⟨m1, e1⟩ := h1
    obtain ⟨a, ra, la, _⟩ := Fw.Law.read_tree (Xs := AXs W (fun _ => False) (fun _ => 0)) (fun b hb => ⟨hb, rfl, fun h => h⟩) (m0 + 1) m0 (Nat.lt_succ_self _) (Xb := AXb W (fun _ => 0)) _ _ e0
    obtain ⟨b, rb, lb, _⟩ := Fw.Law.read_tree (Xs := AXs W (fun _ => False) (fun _ => 0)) (fun b hb => ⟨hb, rfl, fun h => h⟩) (m1 + 1) m1 (Nat.lt_succ_self _) (Xb := AXb W (fun _ => 0)) _ _ e1
    have := Fw.Law.calls3 W (Ld.vars hL) _ _ a b k la lb ra rb
    simpa [Value.cells] using this
  refine walk.mono fun e W' ⟨he, bel⟩ => ?_
  subst he
  exact ⟨_, rfl, _, _, _, [], _, [], hW', trodAll_mk1 (shut_bool Tryd.underlying4 _), (trodAll_cons_mk (Below.trod Ld.laidOut (by kernel_rfl) (of_decide_eq_true (by kernel_rfl)) k0 bel lt0) (trodAll_cons_mk (Below.trod Ld.laidOut (by kernel_rfl) (of_decide_eq_true (by kernel_rfl)) k1 bel lt1) (trodAll_cons_mk (Below.trod Ld.laidOut (by kernel_rfl) (of_decide_eq_true (by kernel_rfl)) k2 bel lt2) trodAll_mk0))), rfl, bel.frame _, fun h => by cases h⟩

end Go.Proofs.YtdafhkchonfkjaaDoor
