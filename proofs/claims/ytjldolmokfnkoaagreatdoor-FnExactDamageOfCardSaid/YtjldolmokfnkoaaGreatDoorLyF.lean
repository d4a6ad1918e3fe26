/- What the law's function does: it returns true and leaves memory as it was. Conditions: what the row lists of the library's variables. -/
import Derived.Test.YtjldolmokfnkoaaGreatDoorLyE
import Derived.Test.YtjldolmokfnkoaaGreatDoorLyB
import Derived.Test.YtjldolmokfnkoaaGreatDoorLyS
import Derived.Below
namespace Go.Fw.Law
open Go Go.Fw Go.RowKit Go.Proofs

/-- The library's variables that the functions read. -/
structure Vars (w : World) : Prop where
  tab : Lib.TabIs Tryz.prog w "internal/strconv.uint64pow10" .u64 Lib.pow10Tab
  syn : ∃ ev, w.cell? ⟨0, 0, none⟩ = some ev ∧ (ev = .nilIface ∨ ∃ te pe, ev = .iface te pe)
  rng : ∃ ev, w.cell? ⟨1, 0, none⟩ = some ev ∧ (ev = .nilIface ∨ ∃ te pe, ev = .iface te pe)

theorem pow10Named : Tryz.prog.globalNamed "internal/strconv.uint64pow10" = some 2 := by kernel_rfl

/-- The three variables are as they were, and nobody's own. -/
def keep (w0 : World) : Kpt where
  ok w φ := ∀ g, g < 3 → g < w.heap.size ∧ φ g = 0 ∧ w.heap[g]? = w0.heap[g]?
  frame := fun h hs hf g hg => by
    obtain ⟨h1, h2, h3⟩ := h g hg
    obtain ⟨k1, k2⟩ := hf g h1 h2
    exact ⟨Nat.lt_of_lt_of_le h1 hs, k1, k2.trans h3⟩

theorem Vars.of_keep {w0 w : World} {φ : Foot} (h : Vars w0) (hk : (keep w0).ok w φ) : Vars w where
  tab := by
    have e := (hk 2 (by decide)).2.2
    have := h.tab
    unfold Lib.TabIs World.var? at this ⊢
    rw [pow10Named] at this ⊢
    simp only [Option.bind_some] at this ⊢
    rw [e]
    exact this
  syn := by
    obtain ⟨ev, h1, h2⟩ := h.syn
    exact ⟨ev, (cell?_same (hk 0 (by decide)).2.2 0).trans h1, h2⟩
  rng := by
    obtain ⟨ev, h1, h2⟩ := h.rng
    exact ⟨ev, (cell?_same (hk 1 (by decide)).2.2 0).trans h1, h2⟩

theorem ext_sat {w0 : World} (hv : Vars w0) (f : FuncId) : SatF Tryz.prog (keep w0) f (ext f) := by
  intro ps out h
  unfold ext at h
  split at h
  · rename_i e
    subst e
    exact itoa_sat Tryz.laysM171 (I := keep w0) (fun w φ hk => (hv.of_keep hk).tab) ps out h
  · split at h
    · rename_i e
      subst e
      exact atoi_sat Tryz.laysC172 (I := keep w0) (fun w φ hk => ⟨(hv.of_keep hk).syn, (hv.of_keep hk).rng⟩) ps out h
    · simp at h

theorem sat {w0 : World} (hv : Vars w0) : Sat Tryz.prog (keep w0) L := by
  rw [L_eq]
  refine Lim_sat (callN_sat (by kernel_rfl) (fun f fi h => tabOk (lk_mem h)) (ext_sat hv))

theorem Vars.size {w : World} (h : Vars w) : ∀ g, g < 3 → g < w.heap.size := by
  have h1 := h.tab
  unfold Lib.TabIs World.var? at h1
  rw [pow10Named] at h1
  simp only [Option.bind_some] at h1
  intro g hg
  have : 2 < w.heap.size := by
    split at h1
    · rename_i c e f hc
      exact (Array.getElem?_eq_some_iff.1 hc).1
    · cases h1
  omega

/-- The law's function, at arguments that may be read. -/
theorem calls5 (W : World) (hv : Vars W) (v0 : List Value) (t0 : TTree) (l0 : Lm 9223372036854775807 t0) (r0 : RepL W (AXs W (fun _ => False) (fun _ => 0)) (AXb W (fun _ => 0)) (eTTree .sh t0) v0 (fun _ => 0)) (v1 : List Value) (t1 : TTree) (l1 : Lm 9223372036854775807 t1) (r1 : RepL W (AXs W (fun _ => False) (fun _ => 0)) (AXb W (fun _ => 0)) (eTTree .sh t1) v1 (fun _ => 0)) (u2 : Value) (rs2 : List TRule) (l2 : rs2.length ≤ 9223372036854775807) (x2 : ∀ p ∈ rs2, p.Val.Text.length ≤ 9223372036854775807) (r2 : RepL W (AXs W (fun _ => False) (fun _ => 0)) (AXb W (fun _ => 0)) [.sl .sh 8 (rs2.map eTRule)] [u2] (fun _ => 0)) (k3 : Int) (k4 : Int) :
    Calls Tryz.prog 5 #[.agg v0.toArray, .agg v1.toArray, u2, .int .i64 k3, .int .i64 k4] W fun e W' => e = .returned (.bool true) ∧ Below W.heap.size W W' := by
  have hrun := laws_FnExactDamageOf_run (law_DamageOf t0 l0 t1 l1 rs2 l2 x2 k3 k4)
  rw [eTTree_eq] at r0 r1
  have hin : CallIn W (fun _ => False) [.val true [.int .i64 t0.Tag, .int .i64 t0.Key, .str t0.Text, .sl .sh 4 (t0.Props.map eTProp), .sl .sh 5 (t0.Kids.map (eTTree .sh))], .val true [.int .i64 t1.Tag, .int .i64 t1.Key, .str t1.Text, .sl .sh 4 (t1.Props.map eTProp), .sl .sh 5 (t1.Kids.map (eTTree .sh))], .val false [.sl .sh 8 (rs2.map eTRule)], .val false [.int .i64 k3], .val false [.int .i64 k4]]
      [.agg v0.toArray, .agg v1.toArray, u2, .int .i64 k3, .int .i64 k4] (fun _ => 0) := by
    refine ⟨fun _ => Nat.zero_le _, fun x hx => absurd rfl hx, fun x hx => hx.elim, ?_⟩
    have h0 : ArgsRel W (AXs W (fun _ => False) (fun _ => 0)) (AXb W (fun _ => 0)) [.val true [.int .i64 t0.Tag, .int .i64 t0.Key, .str t0.Text, .sl .sh 4 (t0.Props.map eTProp), .sl .sh 5 (t0.Kids.map (eTTree .sh))], .val true [.int .i64 t1.Tag, .int .i64 t1.Key, .str t1.Text, .sl .sh 4 (t1.Props.map eTProp), .sl .sh 5 (t1.Kids.map (eTTree .sh))], .val false [.sl .sh 8 (rs2.map eTRule)], .val false [.int .i64 k3], .val false [.int .i64 k4]]
      [.agg v0.toArray, .agg v1.toArray, u2, .int .i64 k3, .int .i64 k4] (fun y4 => (fun _ => 0 : Foot) y4 + (fun y3 => (fun _ => 0 : Foot) y3 + (fun y2 => (fun _ => 0 : Foot) y2 + (fun y1 => (fun _ => 0 : Foot) y1 + (fun y0 => (fun _ => 0 : Foot) y0 + (fun _ => 0 : Foot) y0 : Foot) y1 : Foot) y2 : Foot) y3 : Foot) y4 : Foot) :=
      .cons ⟨v0, r0, by simp⟩ (.cons ⟨v1, r1, by simp⟩ (.cons ⟨[u2], r2, by simp⟩ (.cons ⟨[.int .i64 k3], .sc rfl .nil, by simp⟩ (.cons ⟨[.int .i64 k4], .sc rfl .nil, by simp⟩ .nil))))
    exact h0
  refine (sat hv 5 _ _ hrun W _ _ _ hin (fun g hg => ⟨hv.size g hg, rfl, rfl⟩)).mono fun e W' h => ?_
  cases e with
  | returned u =>
    obtain ⟨f, gs, _, _, ho, _, h1, h2, h3, h4, h5⟩ := h
    refine ⟨?_, h1, h2, h3, h4, fun k hk => h5 k hk rfl⟩
    obtain ⟨vals, r1, r2⟩ := ho
    cases r1 with
    | @sc _ _ c v cs vs ψ hs t2 =>
      cases t2
      simp only [Scal] at hs
      simp at r2
      subst r2
      rw [hs]
  | _ => exact h.elim
end Go.Fw.Law
