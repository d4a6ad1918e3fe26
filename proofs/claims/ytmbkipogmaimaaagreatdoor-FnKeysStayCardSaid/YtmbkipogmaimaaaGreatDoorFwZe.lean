/- The framework, part Ze: plain words for what code does with numbers, texts and rows, and how they read as cells. Conditions: none. -/
import Derived.Test.YtmbkipogmaimaaaGreatDoorFwZd
import Derived.IntWalk
namespace Go.Fw
open Go

abbrev Str := List UInt8
def w64 (x : Int) : Int := IntKind.wrap .i64 x
theorem wrap_w64 (x : Int) : IntKind.wrap .i64 x = w64 x := rfl
attribute [go_sem] wrap_w64
theorem w64_id {x : Int} (h0 : -9223372036854775808 ≤ x) (h1 : x < 9223372036854775808) : w64 x = x := IntWalk.i64_in x (by omega)

def rdx {α : Type} (xs : List α) (i : Int) : Option α := if 0 ≤ i then xs[i.toNat]? else none
def sub {α : Type} (xs : List α) (l h : Int) : List α := (xs.drop l.toNat).take (h.toNat - l.toNat)
def apOk {α β : Type} (by_ : Nat) (xs : List α) (ys : List β) : Prop := (xs.length + ys.length) * by_ ≤ 140737488355328 ∧ xs.length + ys.length ≤ 9223372036854775807
instance {α β : Type} (by_ : Nat) (xs : List α) (ys : List β) : Decidable (apOk by_ xs ys) := by unfold apOk; infer_instance

theorem bnd {α β : Type} {x : Option α} {f : α → Option β} {r : β} (h : x.bind f = some r) : ∃ a, x = some a ∧ f a = some r := by
  cases x with
  | none => simp at h
  | some a => exact ⟨a, rfl, h⟩
theorem ifB {α : Type} {b : Bool} {x y : Option α} {r : α} (h : (if b = true then x else y) = some r) : (b = true ∧ x = some r) ∨ (b = false ∧ y = some r) := by
  cases b
  · exact .inr ⟨rfl, by simpa using h⟩
  · exact .inl ⟨rfl, by simpa using h⟩
theorem ifP {α : Type} {p : Prop} [Decidable p] {x : Option α} {r : α} (h : (if p then x else none) = some r) : p ∧ x = some r := by
  by_cases hp : p
  · exact ⟨hp, by simpa [hp] using h⟩
  · simp [hp] at h
theorem rdp {α : Type} {xs : List α} {i : Int} {v : α} (h : rdx xs i = some v) : 0 ≤ i := by
  unfold rdx at h
  split at h
  · assumption
  · simp at h
theorem rdb {α : Type} {xs : List α} {i : Int} {v : α} (h : rdx xs i = some v) : decide (0 ≤ i) = true := decide_eq_true (rdp h)
theorem rds {α : Type} {xs : List α} {i : Int} {v : α} (h : rdx xs i = some v) : xs[i.toNat]? = some v := by
  unfold rdx at h
  rwa [if_pos (rdp h)] at h
theorem rdm {α : Type} {xs : List α} {i : Int} {v : α} (e : α → List AC) (h : rdx xs i = some v) : (xs.map e)[i.toNat]? = some (e v) := by
  rw [List.getElem?_map, rds h]
  rfl
theorem apL {α β : Type} {by_ : Nat} {xs : List α} {ys : List β} (h : apOk by_ xs ys) : (xs.length + ys.length) * by_ ≤ 140737488355328 ∧ xs.length + ys.length ≤ 9223372036854775807 := h

def eI (n : Int) : List AC := [.int .i64 n]
def eU8 (n : Int) : List AC := [.int .u8 n]
def eB (b : Bool) : List AC := [.bool b]
def eS (s : Str) : List AC := [.str s]
attribute [go_sem] eI eU8 eB eS
attribute [go_sem] List.nil_append List.cons_append List.append_nil List.isEmpty_nil List.isEmpty_cons List.contains_nil List.contains_cons List.take_succ_cons List.take_zero List.drop_succ_cons List.drop_zero List.all_nil List.all_cons List.replicate_succ List.replicate_zero List.flatten_cons List.flatten_nil
attribute [go_sem] List.map_cons List.map_nil List.map_append List.length_map List.length_cons List.length_nil List.length_append List.map_take List.map_drop sub
attribute [go_sem] ne_eq not_true_eq_false not_false_eq_true eq_self beq_self_eq_true Bool.or_false Bool.or_true Bool.false_or Bool.true_or Option.some.injEq
attribute [go_sem] decide_true decide_false true_and and_true false_and and_false Bool.true_and Bool.and_true Bool.false_and Bool.and_false Bool.not_true Bool.not_false if_true if_false ite_true ite_false reduceCtorEq

theorem Option.some_inj' {α : Type} {a b : α} (h : some a = some b) : a = b := Option.some.inj h
end Go.Fw
