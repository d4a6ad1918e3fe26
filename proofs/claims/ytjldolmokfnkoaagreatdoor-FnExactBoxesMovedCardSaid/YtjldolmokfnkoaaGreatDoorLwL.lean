/- The table of the functions. Conditions: none. -/
import Derived.Test.YtjldolmokfnkoaaGreatDoorLwA
import Derived.Test.YtjldolmokfnkoaaGreatDoorFwYa
namespace Go.Fw.Law
open Go Go.Fw
def tab : List (Nat × Fi) := [(7, fi7), (8, fi8), (9, fi9), (11, fi11), (12, fi12), (14, fi14), (15, fi15), (18, fi18), (19, fi19), (20, fi20), (21, fi21), (22, fi22), (25, fi25), (31, fi31), (32, fi32), (33, fi33), (34, fi34), (35, fi35), (37, fi37), (39, fi39), (40, fi40), (41, fi41), (43, fi43), (45, fi45), (46, fi46), (47, fi47), (48, fi48), (49, fi49), (50, fi50), (51, fi51), (52, fi52), (53, fi53), (54, fi54), (55, fi55), (56, fi56), (60, fi60), (61, fi61), (62, fi62), (63, fi63), (64, fi64), (65, fi65), (66, fi66), (67, fi67), (68, fi68), (70, fi70), (71, fi71), (72, fi72), (74, fi74), (75, fi75), (76, fi76), (77, fi77), (78, fi78), (79, fi79), (80, fi80), (81, fi81), (82, fi82), (83, fi83), (84, fi84), (85, fi85), (86, fi86), (87, fi87), (88, fi88), (89, fi89), (90, fi90), (91, fi91), (95, fi95), (96, fi96), (99, fi99), (100, fi100), (101, fi101), (102, fi102), (103, fi103), (104, fi104), (105, fi105), (106, fi106), (107, fi107), (108, fi108), (109, fi109), (110, fi110), (111, fi111), (112, fi112), (114, fi114), (115, fi115), (116, fi116), (119, fi119), (120, fi120), (121, fi121), (125, fi125), (126, fi126)]
def lk : List (Nat × Fi) → Nat → Option Fi
  | [], _ => none
  | (k, f) :: r, n => if k = n then some f else lk r n
def ext (f : FuncId) (ps : List PA) : Option AOut := if f = 118 then extItoa ps else if f = 117 then extAtoi ps else none
def TB : Tab := ⟨lk tab, ext⟩
noncomputable def L : Gam := Lim TB
theorem L_eq : L = Lim TB := rfl
theorem lk_mem : ∀ {l : List (Nat × Fi)} {n : Nat} {f : Fi}, lk l n = some f → (n, f) ∈ l
  | [], n, f, h => by simp [lk] at h
  | (k, g) :: r, n, f, h => by
    unfold lk at h
    split at h
    · rename_i e
      rw [Option.some.injEq] at h
      subst e h
      simp
    · exact List.mem_cons_of_mem _ (lk_mem h)
end Go.Fw.Law
