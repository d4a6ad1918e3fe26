/- The functions fit the program. Conditions: none. -/
import Derived.Test.YtjldolmokfnkoaaGreatDoorLyL
import Derived.Test.YtjldolmokfnkoaaGreatDoorChecked
namespace Go.Fw.Law
open Go Go.Fw
theorem tabB : (tab.all fun p => decide (p.2.ress.length ≤ 4) && fnOk Go.Proofs.Tryz.prog p.1 p.2) = true := by decide +kernel
theorem tabOk {k : Nat} {f : Fi} (h : (k, f) ∈ tab) : f.ress.length ≤ 4 ∧ fnOk Go.Proofs.Tryz.prog k f = true := by
  have := List.all_eq_true.1 tabB _ h
  simpa only [Bool.and_eq_true, decide_eq_true_eq] using this
end Go.Fw.Law
