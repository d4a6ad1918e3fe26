/- The stay of keys, part B: the functions fit the program. Conditions: none. -/
import Derived.Test.YtmbkipogmaimaaaGreatDoorKsA
import Derived.Test.YtmbkipogmaimaaaGreatDoorChecked
namespace Go.Fw.Ks
open Go Go.Fw
theorem tabB : (tab.all fun p => decide (p.2.ress.length ≤ 4) && fnOk Go.Proofs.Tryz.prog p.1 p.2) = true := by decide +kernel
theorem tabOk {k : Nat} {f : Fi} (h : (k, f) ∈ tab) : f.ress.length ≤ 4 ∧ fnOk Go.Proofs.Tryz.prog k f = true := by
  have := List.all_eq_true.1 tabB _ h
  simpa only [Bool.and_eq_true, decide_eq_true_eq] using this
theorem lk_mem : ∀ {l : List (Nat × Fi)} {n : Nat} {f : Fi}, lk l n = some f → (n, f) ∈ l
  | [], n, f, h => by simp [lk] at h
  | (k, g) :: r, n, f, h => by
    unfold lk at h
    split at h
    · rename_i e
      rw [Option.some.injEq] at h
      subst e h
      simp
    · exact List.mem_cons_of_mem _ (lk_mem h)
end Go.Fw.Ks
