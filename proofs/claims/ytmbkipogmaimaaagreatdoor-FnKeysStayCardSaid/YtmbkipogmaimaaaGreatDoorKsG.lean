/- The stay of keys, part G: THE ROW: whatever the input, the law returns true and the input reads as it did. Conditions: the row's own (the listed tables read as their texts say). -/
import Derived.Test.YtmbkipogmaimaaaGreatDoorKsF
namespace Go.Proofs.YtmbkipogmaimaaaGreatDoor
open Go.ChangeShapes Go.WideShapes Go.ChangeAt Go.WideMaps Go.WideElems Go.RowKit Go.Fw

theorem Ks.own : ownKnob Tryz.prog.godebug = none := by kernel_rfl
theorem Ks.laidOut : laidOutB Tryz.prog = true := by kernel_rfl
theorem Ks.door_met (os : Os) (args : Array Value) : laidMetH Tryz.prog Rows.fnKeysStayRow.laid ((World.doorLaid Tryz.prog 400 os).forCall (fun _ _ => 0) ⟨#[], args, []⟩).memory :=
  laidMetH_of_parts3 (fuel := 8) (laidMet_of_run' 8 (by kernel_rfl) (by kernel_rfl)) (by kernel_rfl) (by kernel_rfl)

theorem Ks.bytes_rep {w : World} {Xs Xb : Nat → Prop} : ∀ {code : List Int}, RepL w Xs Xb (code.map eU8).flatten (code.map fun n => Value.int .u8 n) (fun _ => 0)
  | [] => .nil
  | n :: r => by
    simp only [List.map_cons, List.flatten_cons, eU8, List.cons_append, List.nil_append]
    exact .sc rfl bytes_rep

/-- A row of bytes in the caller's memory is an argument that may be read. -/
theorem Ks.in_some {W : World} {b o len cap : Nat} {code : List Int} (hlen : code.length = len) (hc : len ≤ cap) (hb : b < W.heap.size)
    (hcell : ∀ j, j < code.length → W.cell? ⟨b, o + j, none⟩ = some (.int .u8 (code.getD j 0))) :
    CallIn W (fun _ => False) [.val false [.sl .sh 1 (code.map eU8)]] [.slice (some ⟨b, o, none⟩) len cap] (fun _ => 0) := by
  refine ⟨fun _ => Nat.zero_le _, fun x hx => absurd rfl hx, fun x hx => hx.elim, ?_⟩
  have h0 : ArgsRel W (AXs W (fun _ => False) (fun _ => 0)) (AXb W (fun _ => 0)) [.val false [.sl .sh 1 (code.map eU8)]] [.slice (some ⟨b, o, none⟩) len cap] (fun x => (fun _ => 0 : Foot) x + (fun _ => 0 : Foot) x) := by
    refine .cons ⟨[.slice (some ⟨b, o, none⟩) len cap], ?_, by simp⟩ .nil
    refine .sh (vals := code.map fun n => Value.int .u8 n) (by simpa using hlen) hc (by decide) (fun r hr => ?_) ⟨hb, rfl, fun h => h⟩ (fun j hj => ?_) Ks.bytes_rep .nil
    · obtain ⟨n, _, rfl⟩ := List.mem_map.1 hr
      rfl
    · rw [List.length_map] at hj
      rw [hcell j hj, List.getElem_map]
      simp [List.getD, hj]
  exact h0
theorem Ks.in_none {W : World} : CallIn W (fun _ => False) [.val false [.sl .sh 1 (([] : List Int).map eU8)]] [.slice none 0 0] (fun _ => 0) := by
  refine ⟨fun _ => Nat.zero_le _, fun x hx => absurd rfl hx, fun x hx => hx.elim, ?_⟩
  have h0 : ArgsRel W (AXs W (fun _ => False) (fun _ => 0)) (AXb W (fun _ => 0)) [.val false [.sl .sh 1 (([] : List Int).map eU8)]] [.slice none 0 0] (fun x => (fun _ => 0 : Foot) x + (fun _ => 0 : Foot) x) := by
    refine .cons ⟨[.slice none 0 0], ?_, by simp⟩ .nil
    exact .sc rfl .nil
  exact h0

theorem Ks.shape_lt {w : World} {b : Nat} {x : TypeId × Nat} (h : w.shape? b = some x) : b < w.heap.size := by
  unfold World.shape? at h
  split at h
  · rename_i c e z hh
    exact (Array.getElem?_eq_some_iff.1 hh).1
  · cases h

set_option maxRecDepth 100000 in
theorem Ks.lifted (os : Os) (started : os.Started) (H : Type) (enc : TypeId × Value → H) :
    ReturnsInHanded {} Tryz.checked os 4 .any (fun w args => (Rows.fnKeysStaySpec.pre enc Tryz.prog Tryz.f4 [] false w args ∧ laidMetH Tryz.prog Rows.fnKeysStayRow.laid w) ∧ sizedMet enc Tryz.prog Tryz.f4 (OpenSpec.ofChange Rows.fnKeysStaySpec) false w args)
      (Rows.fnKeysStaySpec.post enc Tryz.prog Tryz.f4 false true false false) := by
  refine returnsInHanded_of_change_and (C := Tryz.checked) (X := fun w _ => laidMetH Tryz.prog Rows.fnKeysStayRow.laid w) (fun _ _ _ hh h => h.of_heap hh) Ks.own started (by kernel_rfl) Tryz.func4
    (ChangeSpec.witness_shaped (enc := enc) (C := Tryz.checked) (os := os) (X := fun w _ => laidMetH Tryz.prog Rows.fnKeysStayRow.laid w) false (World.doorLaid Tryz.prog 400 os) #[.slice none 0 0] 8 rfl (World.shaped_of_RefB (by kernel_rfl) (by kernel_rfl)) (by kernel_rfl) (by kernel_rfl) (by kernel_rfl) (Ks.door_met os _)) ?_
  intro W base args ds gs before hval0 hW _ _ _ _
  have hval : ∀ (j : Nat) t v, Tryz.f4.params[j]? = some t → args[j]? = some v → Value.okWide Tryz.prog W .any base t v := hval0
  have hW' := hW
  obtain ⟨p, q, hA0, hV, rfl, hfz, hnd⟩ := hW
  have hA : DataW.TrodAll enc Tryz.prog W 0 (fun _ => true) true Tryz.f4.params.toList args.toList ds p := hA0
  rw [Tryz.params4] at hA hval
  obtain ⟨v0, d0, rfl, rfl, h0⟩ := trodAll_one hA
  obtain ⟨rfl, rfl⟩ := trodVars_none hV
  have hok := hval 0 22 v0 rfl rfl
  obtain ⟨a0, len0, cap0, rfl⟩ := okWide_slice Tryz.underlying22 hok
  have k0 := h0
  have lt0 : ∀ x ∈ p, x.block < W.heap.size := by obtain ⟨m, hm⟩ := k0; exact DataW.trod_lt m _ _ _ hm
  have walk : Calls Tryz.prog 4 #[.slice a0 len0 cap0] W fun e W' => e = .returned (.bool true) ∧ Below W.heap.size W W' := by
    obtain ⟨fuel, hf⟩ := h0
    rcases open_ints Tryz.underlying22 Tryz.underlying5 (by kernel_rfl) hf with ⟨hcs, _⟩ | ⟨x, l, c, zs, hcs, _, hl, hm, hz, _, hcell, hwz⟩
    · simp [Value.cells] at hcs
      obtain ⟨rfl, rfl, rfl⟩ := hcs
      exact Fw.Ks.calls4 W _ [] (by simp) Ks.in_none
    · simp [Value.cells] at hcs
      obtain ⟨rfl, rfl, rfl⟩ := hcs
      obtain ⟨b, off, spot⟩ := x
      have hok' := hok
      simp only [Value.okWide, Tryz.underlying22, Cell.okWide, Cell.ok] at hok'
      obtain ⟨_, _, _, hspot, row, cells, hsh, _⟩ := hok'
      simp only at hspot
      subst hspot
      have hb : b < W.heap.size := Ks.shape_lt hsh
      have hz' : zs.length = cap0 := by simpa using hz
      refine Fw.Ks.calls4 W _ (zs.take len0) (fun n hn => ?_) (Ks.in_some (by simp; omega) hl hb fun j hj => ?_)
      · have hw := hwz n (List.mem_of_mem_take hn)
        simp only [Lit.wf, Bool.and_eq_true, decide_eq_true_eq] at hw
        have h1 : IntKind.min .u8 = 0 := by decide
        have h2 : IntKind.max .u8 = 255 := by decide
        omega
      · have hj' : j < len0 ∧ j < zs.length := by
          rw [List.length_take] at hj
          omega
        have hcc := hcell j hj'.2
        rw [Go.WideShapes.add_plain] at hcc
        rw [hcc]
        simp [List.getD, hj'.1]
  refine walk.mono fun e W' ⟨he, bel⟩ => ?_
  subst he
  exact ⟨_, rfl, _, _, _, [], _, [], hW', trodAll_mk1 (shut_bool Tryz.underlying4 _), (trodAll_cons_mk (Below.trod Ks.laidOut (by kernel_rfl) (of_decide_eq_true (by kernel_rfl)) k0 bel lt0) trodAll_mk0), rfl, bel.frame _, fun h => by cases h⟩

end Go.Proofs.YtmbkipogmaimaaaGreatDoor
