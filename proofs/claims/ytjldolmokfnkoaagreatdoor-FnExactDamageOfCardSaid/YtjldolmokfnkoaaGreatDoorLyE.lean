/- The row's data as trees. Conditions: none. -/
import Derived.Test.YtjldolmokfnkoaaGreatDoorFwYa
import Derived.Test.YtjldolmokfnkoaaGreatDoorPcD
import Derived.Test.YtjldolmokfnkoaaGreatDoorProg
import Derived.ChangeSame
import Derived.Deep.Strs
namespace Go.Fw.Law
open Go Go.Fw Go.Proofs

theorem len3 {cs : List Value} (h : cs.length = 3) : ∃ a b c, cs = [a, b, c] := by
  match cs, h with
  | [a, b, c], _ => exact ⟨a, b, c, rfl⟩
theorem len4 {cs : List Value} (h : cs.length = 4) : ∃ a b c d, cs = [a, b, c, d] := by
  match cs, h with
  | [a, b, c, d], _ => exact ⟨a, b, c, d, rfl⟩
theorem len5 {cs : List Value} (h : cs.length = 5) : ∃ a b c d e, cs = [a, b, c, d, e] := by
  match cs, h with
  | [a, b, c, d, e], _ => exact ⟨a, b, c, d, e, rfl⟩
section
variable {H : Type} {enc : TypeId × Value → H} {w : World} {Xs Xb : Nat → Prop}

theorem read_int {fuel : Nat} {t : TypeId} {cs : List Value} {x : DataW H × List MemPlace} (ht : Tryz.prog.underlying t = some (.int .i64)) (h : DataW.trod enc Tryz.prog w 0 (fun _ => true) true fuel t cs = some x) : ∃ n : Int, cs = [.int .i64 n] := by
  obtain ⟨n, h1, _⟩ := DataW.trod_int ht h
  exact ⟨n, h1⟩
theorem read_str {fuel : Nat} {t : TypeId} {cs : List Value} {x : DataW H × List MemPlace} (ht : Tryz.prog.underlying t = some .string) (h : DataW.trod enc Tryz.prog w 0 (fun _ => true) true fuel t cs = some x) :
    ∃ s : Str, cs = [.string ⟨s.toArray⟩] ∧ s.length ≤ 9223372036854775807 := by
  obtain ⟨s, h1, _, h2⟩ := DataW.trod_string ht h
  refine ⟨s.data.toList, by rw [h1], ?_⟩
  unfold maxLen at h2
  have e1 : s.size = s.data.size := rfl
  rw [Array.length_toList]
  omega

theorem cs3 : Tryz.prog.cellsOf 3 = 1 := by kernel_rfl
theorem cs9 : Tryz.prog.cellsOf 9 = 1 := by kernel_rfl
theorem cs22 : Tryz.prog.cellsOf 22 = 1 := by kernel_rfl
theorem cs23 : Tryz.prog.cellsOf 23 = 1 := by kernel_rfl
theorem cs25 : Tryz.prog.cellsOf 25 = 5 := by kernel_rfl
theorem cs63 : Tryz.prog.cellsOf 63 = 3 := by kernel_rfl
theorem cs104 : Tryz.prog.cellsOf 104 = 4 := by kernel_rfl

theorem read_value {fuel : Nat} {cs : List Value} {x : DataW H × List MemPlace} (h : DataW.trod enc Tryz.prog w 0 (fun _ => true) true fuel 63 cs = some x) :
    ∃ v : TValue, cs = [.int .i64 v.Kind, .int .i64 v.Num, .string ⟨v.Text.toArray⟩] ∧ v.Text.length ≤ 9223372036854775807 := by
  obtain ⟨xs, n, _, _, hl, hn, hf⟩ := DataW.trod_struct Tryz.underlying63 h
  rw [cs63] at hl
  have f0 : DataW.trod enc Tryz.prog w 0 (fun _ => true) true n 3 ((cs.drop 0).take (Tryz.prog.cellsOf 3)) = xs[0]? := hf 0 _ rfl
  have f1 : DataW.trod enc Tryz.prog w 0 (fun _ => true) true n 3 ((cs.drop 1).take (Tryz.prog.cellsOf 3)) = xs[1]? := hf 1 _ rfl
  have f2 : DataW.trod enc Tryz.prog w 0 (fun _ => true) true n 9 ((cs.drop 2).take (Tryz.prog.cellsOf 9)) = xs[2]? := hf 2 _ rfl
  rw [cs3] at f0 f1; rw [cs9] at f2
  have hn' : xs.length = 3 := hn
  rw [List.getElem?_eq_getElem (by omega)] at f0 f1 f2
  obtain ⟨a, ha⟩ := read_int Tryz.underlying3 f0
  obtain ⟨b, hb⟩ := read_int Tryz.underlying3 f1
  obtain ⟨c, hc, hc2⟩ := read_str Tryz.underlying9 f2
  obtain ⟨c0, c1, c2, rfl⟩ := len3 hl
  simp at ha hb hc
  subst ha hb hc
  exact ⟨⟨a, b, c⟩, rfl, hc2⟩

theorem read_prop {fuel : Nat} {cs : List Value} {x : DataW H × List MemPlace} (h : DataW.trod enc Tryz.prog w 0 (fun _ => true) true fuel 104 cs = some x) :
    ∃ p : TProp, RepL w Xs Xb (eTProp p) cs (fun _ => 0) ∧ p.Val.Text.length ≤ 9223372036854775807 ∧ (eTProp p).length = 4 := by
  obtain ⟨xs, n, _, _, hl, hn, hf⟩ := DataW.trod_struct Tryz.underlying104 h
  rw [cs104] at hl
  have f0 : DataW.trod enc Tryz.prog w 0 (fun _ => true) true n 3 ((cs.drop 0).take (Tryz.prog.cellsOf 3)) = xs[0]? := hf 0 _ rfl
  have f1 : DataW.trod enc Tryz.prog w 0 (fun _ => true) true n 63 ((cs.drop 1).take (Tryz.prog.cellsOf 63)) = xs[1]? := hf 1 _ rfl
  rw [cs3] at f0; rw [cs63] at f1
  have hn' : xs.length = 2 := hn
  rw [List.getElem?_eq_getElem (by omega)] at f0 f1
  obtain ⟨a, ha⟩ := read_int Tryz.underlying3 f0
  obtain ⟨v, hv, hv2⟩ := read_value f1
  obtain ⟨c0, c1, c2, c3, rfl⟩ := len4 hl
  simp at ha hv
  obtain ⟨rfl, rfl, rfl⟩ := hv
  subst ha
  exact ⟨⟨a, v⟩, .sc rfl (.sc rfl (.sc rfl (.sc rfl .nil))), hv2, rfl⟩

theorem read_tree (hX : ∀ b, b < w.heap.size → Xs b) : ∀ (N fuel : Nat), fuel < N → ∀ {Xb : Nat → Prop} (cs : List Value) (x : DataW H × List MemPlace), DataW.trod enc Tryz.prog w 0 (fun _ => true) true fuel 25 cs = some x →
    ∃ t : TTree, RepL w Xs Xb (eTTree .sh t) cs (fun _ => 0) ∧ Lm 9223372036854775807 t ∧ (eTTree .sh t).length = 5
  | 0, fuel, hN, _, _, _, _ => absurd hN (Nat.not_lt_zero _)
  | N + 1, fuel, hN, Xb, cs, x, h => by
    obtain ⟨xs, n, e, _, hl, hn, hf⟩ := DataW.trod_struct Tryz.underlying25 h
    subst e
    rw [cs25] at hl
    have f0 : DataW.trod enc Tryz.prog w 0 (fun _ => true) true n 3 ((cs.drop 0).take (Tryz.prog.cellsOf 3)) = xs[0]? := hf 0 _ rfl
    have f1 : DataW.trod enc Tryz.prog w 0 (fun _ => true) true n 3 ((cs.drop 1).take (Tryz.prog.cellsOf 3)) = xs[1]? := hf 1 _ rfl
    have f2 : DataW.trod enc Tryz.prog w 0 (fun _ => true) true n 9 ((cs.drop 2).take (Tryz.prog.cellsOf 9)) = xs[2]? := hf 2 _ rfl
    have f3 : DataW.trod enc Tryz.prog w 0 (fun _ => true) true n 22 ((cs.drop 3).take (Tryz.prog.cellsOf 22)) = xs[3]? := hf 3 _ rfl
    have f4 : DataW.trod enc Tryz.prog w 0 (fun _ => true) true n 23 ((cs.drop 4).take (Tryz.prog.cellsOf 23)) = xs[4]? := hf 4 _ rfl
    rw [cs3] at f0 f1; rw [cs9] at f2; rw [cs22] at f3; rw [cs23] at f4
    have hn' : xs.length = 5 := hn
    rw [List.getElem?_eq_getElem (by omega)] at f0 f1 f2 f3 f4
    obtain ⟨a, ha⟩ := read_int Tryz.underlying3 f0
    obtain ⟨b, hb⟩ := read_int Tryz.underlying3 f1
    obtain ⟨c, hc, hc2⟩ := read_str Tryz.underlying9 f2
    obtain ⟨ps, p1, p2, p3⟩ := read_row (Xb := Xb) eTProp (fun p => p.Val.Text.length ≤ 9223372036854775807) hX Tryz.underlying22 cs104 (by decide) (fun m _ cs y hy => read_prop hy) f3
    obtain ⟨ks, k1, k2, k3⟩ := read_row (Xb := Xb) (eTTree .sh) (Lm 9223372036854775807) hX Tryz.underlying23 cs25 (by decide) (fun m hm cs y hy => read_tree hX N m (by omega) cs y hy) f4
    obtain ⟨c0, c1, c2, c3, c4, rfl⟩ := len5 hl
    simp at ha hb hc p3 k3
    subst ha hb hc
    refine ⟨⟨a, b, c, ps, ks⟩, ?_, .mk hc2 p2 p1 k2 k1, by rw [eTTree_eq]; rfl⟩
    rw [eTTree_eq]
    have := (p3.append k3).cast (ψ := fun _ => 0) (fun _ => rfl)
    exact .sc rfl (.sc rfl (.sc rfl this))

theorem cs65 : Tryz.prog.cellsOf 65 = 8 := by kernel_rfl
theorem len8 {cs : List Value} (h : cs.length = 8) : ∃ a b c d e f g k, cs = [a, b, c, d, e, f, g, k] := by
  match cs, h with
  | [a, b, c, d, e, f, g, k], _ => exact ⟨a, b, c, d, e, f, g, k, rfl⟩
theorem read_rule {fuel : Nat} {cs : List Value} {x : DataW H × List MemPlace} (h : DataW.trod enc Tryz.prog w 0 (fun _ => true) true fuel 65 cs = some x) :
    ∃ p : TRule, RepL w Xs Xb (eTRule p) cs (fun _ => 0) ∧ p.Val.Text.length ≤ 9223372036854775807 ∧ (eTRule p).length = 8 := by
  obtain ⟨xs, n, _, _, hl, hn, hf⟩ := DataW.trod_struct Tryz.underlying65 h
  rw [cs65] at hl
  have f0 : DataW.trod enc Tryz.prog w 0 (fun _ => true) true n 3 ((cs.drop 0).take (Tryz.prog.cellsOf 3)) = xs[0]? := hf 0 _ rfl
  have f1 : DataW.trod enc Tryz.prog w 0 (fun _ => true) true n 3 ((cs.drop 1).take (Tryz.prog.cellsOf 3)) = xs[1]? := hf 1 _ rfl
  have f2 : DataW.trod enc Tryz.prog w 0 (fun _ => true) true n 3 ((cs.drop 2).take (Tryz.prog.cellsOf 3)) = xs[2]? := hf 2 _ rfl
  have f3 : DataW.trod enc Tryz.prog w 0 (fun _ => true) true n 63 ((cs.drop 3).take (Tryz.prog.cellsOf 63)) = xs[3]? := hf 3 _ rfl
  have f4 : DataW.trod enc Tryz.prog w 0 (fun _ => true) true n 3 ((cs.drop 6).take (Tryz.prog.cellsOf 3)) = xs[4]? := hf 4 _ rfl
  have f5 : DataW.trod enc Tryz.prog w 0 (fun _ => true) true n 3 ((cs.drop 7).take (Tryz.prog.cellsOf 3)) = xs[5]? := hf 5 _ rfl
  rw [cs3] at f0 f1 f2 f4 f5; rw [cs63] at f3
  have hn' : xs.length = 6 := hn
  rw [List.getElem?_eq_getElem (by omega)] at f0 f1 f2 f3 f4 f5
  obtain ⟨a0, h0⟩ := read_int Tryz.underlying3 f0
  obtain ⟨a1, h1⟩ := read_int Tryz.underlying3 f1
  obtain ⟨a2, h2⟩ := read_int Tryz.underlying3 f2
  obtain ⟨v, h3, hv⟩ := read_value f3
  obtain ⟨a4, h4⟩ := read_int Tryz.underlying3 f4
  obtain ⟨a5, h5⟩ := read_int Tryz.underlying3 f5
  obtain ⟨c0, c1, c2, c3, c4, c5, c6, c7, rfl⟩ := len8 hl
  simp at h0 h1 h2 h3 h4 h5
  obtain ⟨rfl, rfl, rfl⟩ := h3
  subst h0 h1 h2 h4 h5
  exact ⟨⟨a0, a1, a2, v, a4, a5⟩, .sc rfl (.sc rfl (.sc rfl (.sc rfl (.sc rfl (.sc rfl (.sc rfl (.sc rfl .nil))))))), hv, rfl⟩
theorem read_rules (hX : ∀ b, b < w.heap.size → Xs b) {fuel : Nat} {cs : List Value} {x : DataW H × List MemPlace} (h : DataW.trod enc Tryz.prog w 0 (fun _ => true) true fuel 26 cs = some x) :
    ∃ rs : List TRule, (∀ p ∈ rs, p.Val.Text.length ≤ 9223372036854775807) ∧ rs.length ≤ 9223372036854775807 ∧ RepL w Xs Xb [.sl .sh 8 (rs.map eTRule)] cs (fun _ => 0) :=
  read_row (Xb := Xb) eTRule (fun p => p.Val.Text.length ≤ 9223372036854775807) hX Tryz.underlying26 cs65 (by decide) (fun m _ cs y hy => read_rule hy) h
end
end Go.Fw.Law
