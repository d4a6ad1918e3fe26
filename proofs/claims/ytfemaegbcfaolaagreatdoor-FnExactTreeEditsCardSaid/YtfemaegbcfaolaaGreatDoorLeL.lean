/- The table of the functions. Conditions: none. -/
import Derived.Test.YtfemaegbcfaolaaGreatDoorLeA
import Derived.Test.YtfemaegbcfaolaaGreatDoorFwYa
namespace Go.Fw.Law
open Go Go.Fw
def tab : List (Nat × Fi) := [(5, fi5), (10, fi10), (12, fi12), (13, fi13), (15, fi15), (16, fi16), (17, fi17), (18, fi18), (19, fi19), (20, fi20), (21, fi21), (23, fi23), (24, fi24), (28, fi28), (31, fi31), (34, fi34), (37, fi37), (39, fi39), (40, fi40), (41, fi41), (42, fi42), (43, fi43), (44, fi44), (45, fi45), (46, fi46), (47, fi47), (48, fi48), (49, fi49), (50, fi50), (51, fi51), (52, fi52), (53, fi53), (54, fi54), (55, fi55), (56, fi56), (61, fi61), (64, fi64), (68, fi68), (70, fi70), (71, fi71), (75, fi75), (76, fi76), (78, fi78), (79, fi79), (81, fi81), (82, fi82), (83, fi83), (84, fi84), (85, fi85), (86, fi86), (87, fi87), (88, fi88), (89, fi89), (90, fi90), (91, fi91), (92, fi92), (99, fi99), (103, fi103), (104, fi104), (105, fi105), (108, fi108), (109, fi109), (110, fi110), (111, fi111), (112, fi112), (113, fi113), (114, fi114), (115, fi115), (116, fi116), (124, fi124)]
def lk : List (Nat × Fi) → Nat → Option Fi
  | [], _ => none
  | (k, f) :: r, n => if k = n then some f else lk r n
def ext (f : FuncId) (ps : List PA) : Option AOut := if f = 101 then extItoa ps else if f = 100 then extAtoi ps else if f = 80 then extIns ps else if f = 77 then extDel ps else none
def TB : Tab := ⟨lk tab, ext⟩
noncomputable def L : Gam := Lim TB
theorem L_eq : L = Lim TB := rfl
theorem lk_mem : ∀ {l : List (Nat × Fi)} {n : Nat} {f : Fi}, lk l n = some f → (n, f) ∈ l
  | [], n, f, h => by simp [lk] at h
  | (k, g) :: r, n, f, h => by
    unfold lk at h
    split at h
    · rename_i e
      rw [Option.some.injEq] at h
      subst e h
      simp
    · exact List.mem_cons_of_mem _ (lk_mem h)
end Go.Fw.Law
