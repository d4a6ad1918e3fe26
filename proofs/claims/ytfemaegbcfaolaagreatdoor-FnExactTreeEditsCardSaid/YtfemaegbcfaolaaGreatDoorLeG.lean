/- FnExactTreeEdits, part G: THE ROW: whatever the input, the law returns true and the input reads as it did. Conditions: the row's own (the listed variables read as their texts say). -/
import Derived.Test.YtfemaegbcfaolaaGreatDoorRows
import Derived.Test.YtfemaegbcfaolaaGreatDoorLeF
import Derived.ProofKit
import Derived.LaidMore
import Derived.OpenShut
import Derived.Stop.Joined
import Derived.Stop.LaidErr
import Derived.MakeChecks
namespace Go.Proofs.YtfemaegbcfaolaaGreatDoor
open Go.ChangeShapes Go.WideShapes Go.ChangeAt Go.WideMaps Go.WideElems Go.RowKit Go.Fw

theorem Le.own : ownKnob Tryz.prog.godebug = none := by kernel_rfl
theorem Le.laidOut : laidOutB Tryz.prog = true := by kernel_rfl
theorem Le.door_met (os : Os) (args : Array Value) : laidMetH Tryz.prog Rows.fnExactTreeEditsRow.laid ((World.doorLaid Tryz.prog 400 os).forCall (fun _ _ => 0) ⟨#[], args, []⟩).memory :=
  laidMetH_of_parts3 (fuel := 8) (laidMet_of_run' 8 (by kernel_rfl) (by kernel_rfl)) (by kernel_rfl) (by kernel_rfl)
theorem Le.row162 (u : TypeId) (h : Tryz.prog.typeName? 3 u = some "*errors.errorString") : u = 162 := by
  have star : "*" ++ "errors.errorString" = "*errors.errorString" := by decide
  exact typeName_ptr_named (nm := "errors.errorString") (by rw [star]; kernel_rfl) (by kernel_rfl) (by decide) u (by rw [star]; exact h)
theorem Le.cells164 : Tryz.prog.cellsOf 164 = 1 := by kernel_rfl

/-- What the row lists is what the functions read. -/
theorem Le.vars {W : World} (h : laidMetH Tryz.prog Rows.fnExactTreeEditsRow.laid W) : Fw.Law.Vars W := by
  rw [MakeChecks.laidMetH_plain _ _ _ (by kernel_rfl)] at h
  have h2 := h.tail.tail
  obtain ⟨a0, s0, hv0, -⟩ := laid_sentinel h2.tail (g := 1) (by kernel_rfl) (by kernel_rfl) Tryz.underlying128 Le.row162 Tryz.underlying162 Tryz.underlying164 rfl rfl Tryz.underlying9 Le.cells164 Fw.Law.cs9
  obtain ⟨a1, s1, hv1, -⟩ := laid_sentinel h2.tail.tail (g := 0) (by kernel_rfl) (by kernel_rfl) Tryz.underlying128 Le.row162 Tryz.underlying162 Tryz.underlying164 rfl rfl Tryz.underlying9 Le.cells164 Fw.Law.cs9
  refine ⟨Lib.tabIs_of_head (g := 2) (t := 166) (e := 148) (n := 20) (zs := Lib.pow10Tab) (by kernel_rfl) (by kernel_rfl) Tryz.underlying166 Tryz.underlying148 (by kernel_rfl) (by kernel_rfl) h2, ?_, ?_⟩
  · exact ⟨_, by have h0 := World.var?_cell (g := 0) (by kernel_rfl) hv1 0; simpa using h0, .inr ⟨_, _, rfl⟩⟩
  · exact ⟨_, by have h0 := World.var?_cell (g := 1) (by kernel_rfl) hv0 0; simpa using h0, .inr ⟨_, _, rfl⟩⟩

set_option maxRecDepth 100000 in
theorem Le.lifted (os : Os) (started : os.Started) (H : Type) (enc : TypeId × Value → H) :
    ReturnsInHanded {} Tryz.checked os 5 .any (fun w args => (Rows.fnExactTreeEditsSpec.pre enc Tryz.prog Tryz.f5 [] false w args ∧ laidMetH Tryz.prog Rows.fnExactTreeEditsRow.laid w) ∧ sizedMet enc Tryz.prog Tryz.f5 (OpenSpec.ofChange Rows.fnExactTreeEditsSpec) false w args)
      (Rows.fnExactTreeEditsSpec.post enc Tryz.prog Tryz.f5 false true false false) := by
  refine returnsInHanded_of_change_and (C := Tryz.checked) (X := fun w _ => laidMetH Tryz.prog Rows.fnExactTreeEditsRow.laid w) (fun _ _ _ hh h => h.of_heap hh) Le.own started (by kernel_rfl) Tryz.func5
    (ChangeSpec.witness_shaped (enc := enc) (C := Tryz.checked) (os := os) (X := fun w _ => laidMetH Tryz.prog Rows.fnExactTreeEditsRow.laid w) false (World.doorLaid Tryz.prog 400 os)
      #[.agg #[.int .i64 0, .int .i64 0, .string ⟨#[]⟩, .slice none 0 0, .slice none 0 0], .agg #[.int .i64 0, .int .i64 0, .string ⟨#[]⟩, .slice none 0 0, .slice none 0 0]] 8 rfl (World.shaped_of_RefB (by kernel_rfl) (by kernel_rfl)) (by kernel_rfl) (by kernel_rfl) (by kernel_rfl) (Le.door_met os _)) ?_
  intro W base args ds gs before hval0 hW _ _ hL _
  have hval : ∀ (j : Nat) t v, Tryz.f5.params[j]? = some t → args[j]? = some v → Value.okWide Tryz.prog W .any base t v := hval0
  have hW' := hW
  obtain ⟨p, q, hA0, hV, rfl, hfz, hnd⟩ := hW
  have hA : DataW.TrodAll enc Tryz.prog W 0 (fun _ => true) true Tryz.f5.params.toList args.toList ds p := hA0
  rw [Tryz.params5] at hA hval
  obtain ⟨v0, v1, d0, d1, p0, p1, rfl, rfl, rfl, h0, h1⟩ := trodAll_two hA
  obtain ⟨rfl, rfl⟩ := trodVars_none hV
  have hok0 := hval 0 42 v0 rfl rfl
  have hok1 := hval 1 42 v1 rfl rfl
  simp only [Value.okWide, Tryz.underlying42] at hok0 hok1
  obtain ⟨c0, rfl, _, _⟩ := hok0
  obtain ⟨c1, rfl, _, _⟩ := hok1
  have k0 := h0
  have k1 := h1
  have lt0 : ∀ x ∈ p0, x.block < W.heap.size := by obtain ⟨m, hm⟩ := k0; exact DataW.trod_lt m _ _ _ hm
  have lt1 : ∀ x ∈ p1, x.block < W.heap.size := by obtain ⟨m, hm⟩ := k1; exact DataW.trod_lt m _ _ _ hm
  have walk : Calls Tryz.prog 5 #[.agg c0, .agg c1] W fun e W' => e = .returned (.bool true) ∧ Below W.heap.size W W' := by
    obtain ⟨m0, e0⟩ := h0
    obtain ⟨m1, e1⟩ := h1
    obtain ⟨a, ra, la, _⟩ := Fw.Law.read_tree (Xs := AXs W (fun _ => False) (fun _ => 0)) (fun b hb => ⟨hb, rfl, fun h => h⟩) (m0 + 1) m0 (Nat.lt_succ_self _) (Xb := AXb W (fun _ => 0)) _ _ e0
    obtain ⟨b, rb, lb, _⟩ := Fw.Law.read_tree (Xs := AXs W (fun _ => False) (fun _ => 0)) (fun b hb => ⟨hb, rfl, fun h => h⟩) (m1 + 1) m1 (Nat.lt_succ_self _) (Xb := AXb W (fun _ => 0)) _ _ e1
    have := Fw.Law.calls5 W (Le.vars hL) _ _ a b la lb ra rb
    simpa [Value.cells] using this
  refine walk.mono fun e W' ⟨he, bel⟩ => ?_
  subst he
  exact ⟨_, rfl, _, _, _, [], _, [], hW', trodAll_mk1 (shut_bool Tryz.underlying4 _), (trodAll_cons_mk (Below.trod Le.laidOut (by kernel_rfl) (of_decide_eq_true (by kernel_rfl)) k0 bel lt0) (trodAll_cons_mk (Below.trod Le.laidOut (by kernel_rfl) (of_decide_eq_true (by kernel_rfl)) k1 bel lt1) trodAll_mk0)), rfl, bel.frame _, fun h => by cases h⟩

end Go.Proofs.YtfemaegbcfaolaaGreatDoor
