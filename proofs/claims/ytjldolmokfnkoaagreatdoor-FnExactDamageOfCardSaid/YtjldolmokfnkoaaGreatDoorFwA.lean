/- The framework, part A: abstract cells, what they read as in memory, and how that is kept when other memory turns. Conditions: none; all is generic over the program. -/
import Derived.Calls
import Derived.Orders
import Derived.Below
import Derived.Laws.IdiomCopy
namespace Go.Fw
open Go

/-- How a slice or an object behind a pointer is held: alone, with others for ever, or lent. -/
inductive Md where
  | own | sh | bor
  deriving DecidableEq

/-- One abstract cell. -/
inductive AC where
  | int (k : IntKind) (n : Int)
  | bool (b : Bool)
  | str (s : List UInt8)
  | sl (m : Md) (e : Nat) (rows : List (List AC))
  | nilp
  | ref (m : Md) (cells : List AC)
  | gone
  | err (b : Bool)

abbrev Foot := Nat → Nat

def Cells (w : World) (b o : Nat) (vals : List Value) : Prop :=
  ∀ j (h : j < vals.length), w.cell? ⟨b, o + j, none⟩ = some vals[j]
/-- Whether rows that were made of texts are read (their ends are frozen); where they are not, no row has a frozen end. -/
def fzFlag : Bool := false
def Ends (w : World) (b : Nat) : Prop := fzFlag = true ∨ ∀ k, w.frozen? ⟨b, k, none⟩ = false
def Avail (w : World) (b o n : Nat) : Prop :=
  (∀ j, j < n → (w.cell? ⟨b, o + j, none⟩).isSome = true ∧ w.frozen? ⟨b, o + j, none⟩ = false) ∧ Ends w b

/-- An empty row: none at all, or one of no length and no room that is only read, wherever it lies. -/
def Emp (m : Md) (v : Value) : Prop := v = .slice none 0 0 ∨ (m ≠ .own ∧ ∃ a, v = .slice (some a) 0 0)
@[simp] theorem Emp.own (v : Value) : Emp .own v ↔ v = .slice none 0 0 := by simp [Emp]
theorem Emp.nil (m : Md) : Emp m (.slice none 0 0) := .inl rfl
theorem Emp.from {m : Md} {v : Value} (h : Emp m v) : ∃ x, v = .slice x 0 0 := by
  rcases h with h | ⟨_, a, h⟩
  · exact ⟨_, h⟩
  · exact ⟨_, h⟩
theorem Emp.weak {m m' : Md} {v : Value} (h : Emp m v) (hm : m = .own ∨ m' ≠ .own) : Emp m' v := by
  rcases h with h | ⟨h1, a, h⟩
  · exact .inl h
  · exact .inr ⟨hm.resolve_left h1, a, h⟩
/-- What is one word and leads nowhere. -/
def Scal : AC → Value → Prop
  | .int k n, v => v = .int k n
  | .bool b, v => v = .bool b
  | .str s, v => v = .string ⟨s.toArray⟩
  | .nilp, v => v = .pointer none
  | .gone, v => v.oneCell' = true
  | .err true, v => v = .nilIface
  | .err false, v => ∃ t x, v = .iface t x
  | .sl m _ [], v => Emp m v
  | _, _ => False

/-- Cells read as values; the last argument counts the blocks that they own. -/
inductive RepL (w : World) : (Nat → Prop) → (Nat → Prop) → List AC → List Value → Foot → Prop where
  | nil {Xs Xb : Nat → Prop} : RepL w Xs Xb [] [] (fun _ => 0)
  | sc {Xs Xb : Nat → Prop} {c : AC} {v : Value} {cs : List AC} {vs : List Value} {ψ : Foot} (h : Scal c v) (t : RepL w Xs Xb cs vs ψ) : RepL w Xs Xb (c :: cs) (v :: vs) ψ
  | own {Xs Xb : Nat → Prop} {e b o len cap : Nat} {rows : List (List AC)} {vals : List Value} {φ : Foot} {cs : List AC} {vs : List Value} {ψ : Foot}
      (hl : rows.length = len) (hc : len ≤ cap ∧ cap ≤ 9223372036854775807) (he : 0 < e) (hr : ∀ r ∈ rows, r.length = e) (hb : b < w.heap.size) (ha : Avail w b o (cap * e)) (hv : Cells w b o vals)
      (h : RepL w Xs Xb rows.flatten vals φ) (t : RepL w Xs Xb cs vs ψ) :
      RepL w Xs Xb (.sl .own e rows :: cs) (.slice (some ⟨b, o, none⟩) len cap :: vs) (fun x => (if x = b then 1 else 0) + φ x + ψ x)
  | sh {Xs Xb : Nat → Prop} {e b o len cap : Nat} {rows : List (List AC)} {vals : List Value} {cs : List AC} {vs : List Value} {ψ : Foot}
      (hl : rows.length = len) (hc : len ≤ cap) (he : 0 < e) (hr : ∀ r ∈ rows, r.length = e) (hX : Xs b) (hv : Cells w b o vals)
      (h : RepL w Xs Xs rows.flatten vals (fun _ => 0)) (t : RepL w Xs Xb cs vs ψ) : RepL w Xs Xb (.sl .sh e rows :: cs) (.slice (some ⟨b, o, none⟩) len cap :: vs) ψ
  | bor {Xs Xb : Nat → Prop} {e b o len cap : Nat} {rows : List (List AC)} {vals : List Value} {cs : List AC} {vs : List Value} {ψ : Foot}
      (hl : rows.length = len) (hc : len ≤ cap) (he : 0 < e) (hr : ∀ r ∈ rows, r.length = e) (hX : Xb b) (hv : Cells w b o vals)
      (h : RepL w Xb Xb rows.flatten vals (fun _ => 0)) (t : RepL w Xs Xb cs vs ψ) : RepL w Xs Xb (.sl .bor e rows :: cs) (.slice (some ⟨b, o, none⟩) len cap :: vs) ψ
  | refOwn {Xs Xb : Nat → Prop} {b : Nat} {cells : List AC} {vals : List Value} {φ : Foot} {cs : List AC} {vs : List Value} {ψ : Foot}
      (hb : b < w.heap.size) (ha : Avail w b 0 cells.length) (hv : Cells w b 0 vals) (h : RepL w Xs Xb cells vals φ) (t : RepL w Xs Xb cs vs ψ) :
      RepL w Xs Xb (.ref .own cells :: cs) (.pointer (some ⟨b, 0, none⟩) :: vs) (fun x => (if x = b then 1 else 0) + φ x + ψ x)
  | refSh {Xs Xb : Nat → Prop} {b o : Nat} {cells : List AC} {vals : List Value} {cs : List AC} {vs : List Value} {ψ : Foot} (hX : Xs b) (hv : Cells w b o vals)
      (h : RepL w Xs Xs cells vals (fun _ => 0)) (t : RepL w Xs Xb cs vs ψ) : RepL w Xs Xb (.ref .sh cells :: cs) (.pointer (some ⟨b, o, none⟩) :: vs) ψ
  | refBor {Xs Xb : Nat → Prop} {b o : Nat} {cells : List AC} {vals : List Value} {cs : List AC} {vs : List Value} {ψ : Foot} (hX : Xb b) (hv : Cells w b o vals)
      (h : RepL w Xb Xb cells vals (fun _ => 0)) (t : RepL w Xs Xb cs vs ψ) : RepL w Xs Xb (.ref .bor cells :: cs) (.pointer (some ⟨b, o, none⟩) :: vs) ψ

theorem cell?_same {w w' : World} {b : Nat} (h : w'.heap[b]? = w.heap[b]?) (o : Nat) : w'.cell? ⟨b, o, none⟩ = w.cell? ⟨b, o, none⟩ := by
  simp only [World.cell?, h]
theorem frozen?_same {w w' : World} {b : Nat} (h : w'.heap[b]? = w.heap[b]?) (o : Nat) : w'.frozen? ⟨b, o, none⟩ = w.frozen? ⟨b, o, none⟩ := by
  simp only [World.frozen?, h]
theorem Cells.same {w w' : World} {b o : Nat} {vals : List Value} (h : Cells w b o vals) (hs : w'.heap[b]? = w.heap[b]?) : Cells w' b o vals :=
  fun j hj => (cell?_same hs _).trans (h j hj)
theorem Avail.same {w w' : World} {b o n : Nat} (h : Avail w b o n) (hs : w'.heap[b]? = w.heap[b]?) : Avail w' b o n :=
  ⟨fun j hj => by rw [cell?_same hs, frozen?_same hs]; exact h.1 j hj, h.2.imp id fun h k => by rw [frozen?_same hs]; exact h k⟩

/-- What reads as it did: the blocks that are read and those that are owned have not turned; what may be shared has not shrunk. -/
theorem RepL.frame {w w' : World} {Xs Xb : Nat → Prop} {c : List AC} {v : List Value} {φ : Foot} (h : RepL w Xs Xb c v φ) (hz : w.heap.size ≤ w'.heap.size) :
    ∀ {Xs' Xb' : Nat → Prop}, (∀ b, Xs b → Xs' b ∧ w'.heap[b]? = w.heap[b]?) → (∀ b, Xb b → Xb' b ∧ w'.heap[b]? = w.heap[b]?) → (∀ b, φ b ≠ 0 → w'.heap[b]? = w.heap[b]?) →
    RepL w' Xs' Xb' c v φ := by
  induction h with
  | nil => intros; exact .nil
  | sc h t ih => intro _ _ hs hb ho; exact .sc h (ih hs hb ho)
  | @own _ _ e b o len cap rows vals φ cs vs ψ hl hc he hr hbs ha hv h t ih iht =>
    intro _ _ hs hb ho
    have hbb := ho b (by simp)
    exact .own hl hc he hr (by omega) (ha.same hbb) (hv.same hbb) (ih hs hb (fun x hx => ho x (by simp; omega))) (iht hs hb (fun x hx => ho x (by simp; omega)))
  | sh hl hc he hr hX hv h t ih iht =>
    intro _ _ hs hb ho
    exact .sh hl hc he hr (hs _ hX).1 (hv.same (hs _ hX).2) (ih hs hs (fun x hx => absurd rfl hx)) (iht hs hb ho)
  | bor hl hc he hr hX hv h t ih iht =>
    intro _ _ hs hb ho
    exact .bor hl hc he hr (hb _ hX).1 (hv.same (hb _ hX).2) (ih hb hb (fun x hx => absurd rfl hx)) (iht hs hb ho)
  | @refOwn _ _ b cells vals φ cs vs ψ hbs ha hv h t ih iht =>
    intro _ _ hs hb ho
    have hbb := ho b (by simp)
    exact .refOwn (by omega) (ha.same hbb) (hv.same hbb) (ih hs hb (fun x hx => ho x (by simp; omega))) (iht hs hb (fun x hx => ho x (by simp; omega)))
  | refSh hX hv h t ih iht =>
    intro _ _ hs hb ho
    exact .refSh (hs _ hX).1 (hv.same (hs _ hX).2) (ih hs hs (fun x hx => absurd rfl hx)) (iht hs hb ho)
  | refBor hX hv h t ih iht =>
    intro _ _ hs hb ho
    exact .refBor (hb _ hX).1 (hv.same (hb _ hX).2) (ih hb hb (fun x hx => absurd rfl hx)) (iht hs hb ho)

theorem RepL.weak {w : World} {Xs Xb Xs' Xb' : Nat → Prop} {c : List AC} {v : List Value} {φ : Foot} (h : RepL w Xs Xb c v φ) (hs : ∀ b, Xs b → Xs' b) (hb : ∀ b, Xb b → Xb' b) : RepL w Xs' Xb' c v φ :=
  h.frame (Nat.le_refl _) (fun b h => ⟨hs b h, rfl⟩) (fun b h => ⟨hb b h, rfl⟩) (fun _ _ => rfl)

theorem RepL.length {w : World} {Xs Xb : Nat → Prop} {c : List AC} {v : List Value} {φ : Foot} (h : RepL w Xs Xb c v φ) : v.length = c.length := by
  induction h <;> simp_all

theorem Scal.one {c : AC} {v : Value} (h : Scal c v) : v.oneCell' = true := by
  unfold Scal at h
  split at h <;> first | (subst h; rfl) | exact h | (obtain ⟨_, rfl⟩ := Emp.from h; rfl) | (obtain ⟨_, _, rfl⟩ := h; rfl) | exact h.elim

theorem RepL.one {w : World} {Xs Xb : Nat → Prop} {c : List AC} {v : List Value} {φ : Foot} (h : RepL w Xs Xb c v φ) : ∀ u ∈ v, u.oneCell' = true := by
  induction h with
  | nil => simp
  | sc h t ih => intro u hu; rcases List.mem_cons.1 hu with rfl | hu <;> first | exact h.one | exact ih u hu
  | _ => rename_i ih; intro u hu; rcases List.mem_cons.1 hu with rfl | hu <;> first | rfl | exact ih u hu

theorem RepL.cast {w : World} {Xs Xb : Nat → Prop} {c : List AC} {v : List Value} {φ ψ : Foot} (h : RepL w Xs Xb c v φ) (e : ∀ x, φ x = ψ x) : RepL w Xs Xb c v ψ := by
  have : φ = ψ := funext e
  exact this ▸ h

theorem RepL.append {w : World} {Xs Xb : Nat → Prop} {c : List AC} {v : List Value} {φ : Foot} (h : RepL w Xs Xb c v φ) {d : List AC} {u : List Value} {ψ : Foot} (k : RepL w Xs Xb d u ψ) :
    RepL w Xs Xb (c ++ d) (v ++ u) (fun x => φ x + ψ x) := by
  induction h with
  | nil => exact k.cast (fun x => by simp)
  | sc h t ih => exact .sc h (ih k)
  | own hl hc he hr hbs ha hv h t _ iht => exact (RepL.own hl hc he hr hbs ha hv h (iht k)).cast (fun x => by dsimp only; omega)
  | sh hl hc he hr hX hv h t _ iht => exact .sh hl hc he hr hX hv h (iht k)
  | bor hl hc he hr hX hv h t _ iht => exact .bor hl hc he hr hX hv h (iht k)
  | refOwn hbs ha hv h t _ iht => exact (RepL.refOwn hbs ha hv h (iht k)).cast (fun x => by dsimp only; omega)
  | refSh hX hv h t _ iht => exact .refSh hX hv h (iht k)
  | refBor hX hv h t _ iht => exact .refBor hX hv h (iht k)

/-- The first cell, and the others. -/
theorem RepL.uncons {w : World} {Xs Xb : Nat → Prop} {c : AC} {cs : List AC} {vs : List Value} {φ : Foot} (h : RepL w Xs Xb (c :: cs) vs φ) :
    ∃ v vs' φ1 φ2, vs = v :: vs' ∧ RepL w Xs Xb [c] [v] φ1 ∧ RepL w Xs Xb cs vs' φ2 ∧ (∀ x, φ x = φ1 x + φ2 x) := by
  cases h with
  | sc h t => exact ⟨_, _, _, _, rfl, .sc h .nil, t, fun x => by simp⟩
  | own hl hc he hr hbs ha hv h t => exact ⟨_, _, _, _, rfl, .own hl hc he hr hbs ha hv h .nil, t, fun x => by dsimp only; omega⟩
  | sh hl hc he hr hX hv h t => exact ⟨_, _, _, _, rfl, .sh hl hc he hr hX hv h .nil, t, fun x => by simp⟩
  | bor hl hc he hr hX hv h t => exact ⟨_, _, _, _, rfl, .bor hl hc he hr hX hv h .nil, t, fun x => by simp⟩
  | refOwn hbs ha hv h t => exact ⟨_, _, _, _, rfl, .refOwn hbs ha hv h .nil, t, fun x => by dsimp only; omega⟩
  | refSh hX hv h t => exact ⟨_, _, _, _, rfl, .refSh hX hv h .nil, t, fun x => by simp⟩
  | refBor hX hv h t => exact ⟨_, _, _, _, rfl, .refBor hX hv h .nil, t, fun x => by simp⟩

theorem RepL.split {w : World} {Xs Xb : Nat → Prop} : ∀ (c d : List AC) {v : List Value} {φ : Foot}, RepL w Xs Xb (c ++ d) v φ →
    ∃ v1 v2 φ1 φ2, v = v1 ++ v2 ∧ RepL w Xs Xb c v1 φ1 ∧ RepL w Xs Xb d v2 φ2 ∧ (∀ x, φ x = φ1 x + φ2 x)
  | [], d, v, φ, h => ⟨[], v, fun _ => 0, φ, rfl, .nil, h, fun x => by simp⟩
  | c :: cs, d, v, φ, h => by
    obtain ⟨u, us, φ1, φ2, rfl, h1, h2, hs⟩ := RepL.uncons h
    obtain ⟨v1, v2, ψ1, ψ2, rfl, k1, k2, ks⟩ := RepL.split cs d h2
    exact ⟨u :: v1, v2, _, ψ2, rfl, h1.append k1, k2, fun x => by simp only [hs x, ks x]; omega⟩

mutual
/-- Held by all, for ever. -/
def AC.frz : AC → AC
  | .sl .own e rows => .sl .sh e (frzLL rows)
  | .sl .sh e rows => .sl .sh e rows
  | .sl .bor _ _ => .gone
  | .ref .own cells => .ref .sh (frzL cells)
  | .ref .sh cells => .ref .sh cells
  | .ref .bor _ => .gone
  | c => c
def frzL : List AC → List AC
  | [] => []
  | c :: cs => c.frz :: frzL cs
def frzLL : List (List AC) → List (List AC)
  | [] => []
  | r :: rs => frzL r :: frzLL rs
end
mutual
/-- Lent. -/
def AC.brw : AC → AC
  | .sl _ e rows => .sl .bor e (brwLL rows)
  | .ref _ cells => .ref .bor (brwL cells)
  | c => c
def brwL : List AC → List AC
  | [] => []
  | c :: cs => c.brw :: brwL cs
def brwLL : List (List AC) → List (List AC)
  | [] => []
  | r :: rs => brwL r :: brwLL rs
end
mutual
/-- Nothing in it is lent. -/
def AC.cln : AC → Bool
  | .sl .own _ rows => clnLL rows
  | .sl .sh _ _ => true
  | .sl .bor _ _ => false
  | .ref .own cells => clnL cells
  | .ref .sh _ => true
  | .ref .bor _ => false
  | _ => true
def clnL : List AC → Bool
  | [] => true
  | c :: cs => c.cln && clnL cs
def clnLL : List (List AC) → Bool
  | [] => true
  | r :: rs => clnL r && clnLL rs
end
theorem frzL_append (a b : List AC) : frzL (a ++ b) = frzL a ++ frzL b := by
  induction a with
  | nil => rfl
  | cons x a ih => simp [frzL, ih]
theorem frzL_length (a : List AC) : (frzL a).length = a.length := by
  induction a with
  | nil => rfl
  | cons x a ih => simp [frzL, ih]
theorem brwL_append (a b : List AC) : brwL (a ++ b) = brwL a ++ brwL b := by
  induction a with
  | nil => rfl
  | cons x a ih => simp [brwL, ih]
theorem brwL_length (a : List AC) : (brwL a).length = a.length := by
  induction a with
  | nil => rfl
  | cons x a ih => simp [brwL, ih]
theorem clnL_append (a b : List AC) : clnL (a ++ b) = (clnL a && clnL b) := by
  induction a with
  | nil => rfl
  | cons x a ih => simp [clnL, ih, Bool.and_assoc]
theorem frzLL_flatten (a : List (List AC)) : (frzLL a).flatten = frzL a.flatten := by
  induction a with
  | nil => rfl
  | cons x a ih => simp [frzLL, ih, frzL_append]
theorem brwLL_flatten (a : List (List AC)) : (brwLL a).flatten = brwL a.flatten := by
  induction a with
  | nil => rfl
  | cons x a ih => simp [brwLL, ih, brwL_append]
theorem clnLL_flatten (a : List (List AC)) : clnLL a = clnL a.flatten := by
  induction a with
  | nil => rfl
  | cons x a ih => simp [clnLL, ih, clnL_append]
theorem frzLL_map (a : List (List AC)) : frzLL a = a.map frzL := by
  induction a with
  | nil => rfl
  | cons x a ih => simp [frzLL, ih]
theorem brwLL_map (a : List (List AC)) : brwLL a = a.map brwL := by
  induction a with
  | nil => rfl
  | cons x a ih => simp [brwLL, ih]
theorem clnLL_all (a : List (List AC)) : clnLL a = a.all clnL := by
  induction a with
  | nil => rfl
  | cons x a ih => simp [clnLL, ih]

theorem Scal.frz {c : AC} {v : Value} (h : Scal c v) : Scal c.frz v := by
  have h1 := h.one
  unfold Scal at h
  split at h <;> first | (subst h; rfl) | exact h | (rename_i m e; cases m <;> first | exact h1 | exact Emp.weak h (.inl rfl) | exact Emp.weak h (.inr (by decide))) | exact h.elim
theorem Scal.brw {c : AC} {v : Value} (h : Scal c v) : Scal c.brw v := by
  unfold Scal at h
  split at h <;> first | (subst h; rfl) | exact h | exact Emp.weak h (.inr (by decide)) | exact h.elim

theorem RepL.frz {w : World} {Xs Xb : Nat → Prop} {c : List AC} {v : List Value} {φ : Foot} (h : RepL w Xs Xb c v φ) : ∀ {Xs' : Nat → Prop} (Xb' : Nat → Prop), (∀ b, Xs b → Xs' b) → (∀ b, φ b ≠ 0 → Xs' b) →
    RepL w Xs' Xb' (frzL c) v (fun _ => 0) := by
  induction h with
  | nil => intros; exact .nil
  | sc h t ih => intro _ _ hs ho; exact .sc h.frz (ih _ hs ho)
  | @own _ _ e b o len cap rows vals φ cs vs ψ hl hc he hr hbs ha hv h t ih iht =>
    intro _ _ hs ho
    exact .sh (by simp [frzLL_map, hl]) hc.1 he (by intro r hr'; rw [frzLL_map] at hr'; obtain ⟨q, hq, rfl⟩ := List.mem_map.1 hr'; rw [frzL_length]; exact hr q hq)
      (ho b (by simp)) hv (by rw [frzLL_flatten]; exact ih _ hs (fun x hx => ho x (by simp; omega))) (iht _ hs (fun x hx => ho x (by simp; omega)))
  | sh hl hc he hr hX hv h t _ iht => intro _ _ hs ho; exact .sh hl hc he hr (hs _ hX) hv (h.weak hs hs) (iht _ hs ho)
  | bor hl hc he hr hX hv h t _ iht => intro _ _ hs ho; exact .sc rfl (iht _ hs ho)
  | @refOwn _ _ b cells vals φ cs vs ψ hbs ha hv h t ih iht =>
    intro _ _ hs ho
    exact .refSh (ho b (by simp)) hv (ih _ hs (fun x hx => ho x (by simp; omega))) (iht _ hs (fun x hx => ho x (by simp; omega)))
  | refSh hX hv h t _ iht => intro _ _ hs ho; exact .refSh (hs _ hX) hv (h.weak hs hs) (iht _ hs ho)
  | refBor hX hv h t _ iht => intro _ _ hs ho; exact .sc rfl (iht _ hs ho)

theorem RepL.brw {w : World} {Xs Xb : Nat → Prop} {c : List AC} {v : List Value} {φ : Foot} (h : RepL w Xs Xb c v φ) : ∀ (Xs' : Nat → Prop) {Xb' : Nat → Prop}, (∀ b, Xs b → Xb' b) → (∀ b, Xb b → Xb' b) → (∀ b, φ b ≠ 0 → Xb' b) →
    RepL w Xs' Xb' (brwL c) v (fun _ => 0) := by
  have aux : ∀ {rows : List (List AC)} {e len : Nat}, rows.length = len → (∀ r ∈ rows, r.length = e) → (brwLL rows).length = len ∧ (∀ r ∈ brwLL rows, r.length = e) := fun hl hr =>
    ⟨by simp [brwLL_map, hl], by intro r hr'; rw [brwLL_map] at hr'; obtain ⟨q, hq, rfl⟩ := List.mem_map.1 hr'; rw [brwL_length]; exact hr q hq⟩
  induction h with
  | nil => intros; exact .nil
  | sc h t ih => intro _ _ hs hb ho; exact .sc h.brw (ih _ hs hb ho)
  | @own _ _ e b o len cap rows vals φ cs vs ψ hl hc he hr hbs ha hv h t ih iht =>
    intro _ _ hs hb ho
    exact .bor (aux hl hr).1 hc.1 he (aux hl hr).2 (ho b (by simp)) hv (by rw [brwLL_flatten]; exact ih _ hs hb (fun x hx => ho x (by simp; omega))) (iht _ hs hb (fun x hx => ho x (by simp; omega)))
  | sh hl hc he hr hX hv h t ih iht => intro _ _ hs hb ho; exact .bor (aux hl hr).1 hc he (aux hl hr).2 (hs _ hX) hv (by rw [brwLL_flatten]; exact ih _ hs hs (fun x hx => absurd rfl hx)) (iht _ hs hb ho)
  | bor hl hc he hr hX hv h t ih iht => intro _ _ hs hb ho; exact .bor (aux hl hr).1 hc he (aux hl hr).2 (hb _ hX) hv (by rw [brwLL_flatten]; exact ih _ hb hb (fun x hx => absurd rfl hx)) (iht _ hs hb ho)
  | @refOwn _ _ b cells vals φ cs vs ψ hbs ha hv h t ih iht =>
    intro _ _ hs hb ho
    exact .refBor (ho b (by simp)) hv (ih _ hs hb (fun x hx => ho x (by simp; omega))) (iht _ hs hb (fun x hx => ho x (by simp; omega)))
  | refSh hX hv h t ih iht => intro _ _ hs hb ho; exact .refBor (hs _ hX) hv (ih _ hs hs (fun x hx => absurd rfl hx)) (iht _ hs hb ho)
  | refBor hX hv h t ih iht => intro _ _ hs hb ho; exact .refBor (hb _ hX) hv (ih _ hb hb (fun x hx => absurd rfl hx)) (iht _ hs hb ho)

theorem RepL.cln {w : World} {Xs Xb : Nat → Prop} {c : List AC} {v : List Value} {φ : Foot} (h : RepL w Xs Xb c v φ) : ∀ (Xb' : Nat → Prop), clnL c = true → RepL w Xs Xb' c v φ := by
  induction h with
  | nil => intros; exact .nil
  | sc h t ih => intro _ hc; simp only [clnL, Bool.and_eq_true] at hc; exact .sc h (ih _ hc.2)
  | own hl hcap he hr hbs ha hv h t ih iht =>
    intro _ hc
    simp only [clnL, AC.cln, clnLL_flatten, Bool.and_eq_true] at hc
    exact .own hl hcap he hr hbs ha hv (ih _ hc.1) (iht _ hc.2)
  | sh hl hcap he hr hX hv h t _ iht => intro _ hc; simp only [clnL, Bool.and_eq_true] at hc; exact .sh hl hcap he hr hX hv h (iht _ hc.2)
  | bor => intro _ hc; simp [clnL, AC.cln] at hc
  | refOwn hbs ha hv h t ih iht =>
    intro _ hc
    simp only [clnL, AC.cln, Bool.and_eq_true] at hc
    exact .refOwn hbs ha hv (ih _ hc.1) (iht _ hc.2)
  | refSh hX hv h t _ iht => intro _ hc; simp only [clnL, Bool.and_eq_true] at hc; exact .refSh hX hv h (iht _ hc.2)
  | refBor => intro _ hc; simp [clnL, AC.cln] at hc
end Go.Fw
