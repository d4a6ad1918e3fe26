/- The table of the functions. Conditions: none. -/
import Derived.Test.YtdafhkchonfkjaaDoorLdA
import Derived.Test.YtdafhkchonfkjaaDoorFwYa
namespace Go.Fw.Law
open Go Go.Fw
def tab : List (Nat × Fi) := [(3, fi3), (4, fi4), (5, fi5), (6, fi6), (7, fi7), (8, fi8), (9, fi9), (10, fi10), (11, fi11), (12, fi12), (13, fi13), (14, fi14), (15, fi15), (16, fi16), (17, fi17), (18, fi18), (19, fi19), (20, fi20), (21, fi21), (22, fi22), (23, fi23), (24, fi24), (25, fi25), (26, fi26), (27, fi27), (28, fi28), (29, fi29), (30, fi30), (32, fi32), (33, fi33), (35, fi35), (36, fi36), (37, fi37), (38, fi38), (39, fi39), (40, fi40), (41, fi41), (42, fi42), (43, fi43), (44, fi44), (45, fi45), (46, fi46), (47, fi47), (48, fi48), (49, fi49), (50, fi50), (53, fi53), (54, fi54), (55, fi55), (56, fi56), (57, fi57), (58, fi58), (59, fi59), (60, fi60), (61, fi61), (62, fi62), (66, fi66)]
def lk : List (Nat × Fi) → Nat → Option Fi
  | [], _ => none
  | (k, f) :: r, n => if k = n then some f else lk r n
def ext (f : FuncId) (ps : List PA) : Option AOut := if f = 64 then extItoa ps else if f = 63 then extAtoi ps else if f = 34 then extIns ps else if f = 31 then extDel ps else none
def TB : Tab := ⟨lk tab, ext⟩
noncomputable def L : Gam := Lim TB
theorem L_eq : L = Lim TB := rfl
theorem lk_mem : ∀ {l : List (Nat × Fi)} {n : Nat} {f : Fi}, lk l n = some f → (n, f) ∈ l
  | [], n, f, h => by simp [lk] at h
  | (k, g) :: r, n, f, h => by
    unfold lk at h
    split at h
    · rename_i e
      rw [Option.some.injEq] at h
      subst e h
      simp
    · exact List.mem_cons_of_mem _ (lk_mem h)
end Go.Fw.Law
