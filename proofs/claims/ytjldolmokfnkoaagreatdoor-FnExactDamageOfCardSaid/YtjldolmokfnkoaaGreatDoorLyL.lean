/- The table of the functions. Conditions: none. -/
import Derived.Test.YtjldolmokfnkoaaGreatDoorLyA
import Derived.Test.YtjldolmokfnkoaaGreatDoorFwYa
namespace Go.Fw.Law
open Go Go.Fw
def tab : List (Nat × Fi) := [(5, fi5), (8, fi8), (9, fi9), (11, fi11), (12, fi12), (14, fi14), (15, fi15), (23, fi23), (24, fi24), (25, fi25), (33, fi33), (34, fi34), (35, fi35), (36, fi36), (37, fi37), (38, fi38), (39, fi39), (40, fi40), (41, fi41), (42, fi42), (43, fi43), (44, fi44), (45, fi45), (46, fi46), (47, fi47), (48, fi48), (49, fi49), (50, fi50), (51, fi51), (52, fi52), (53, fi53), (57, fi57), (58, fi58), (59, fi59), (67, fi67), (68, fi68), (69, fi69), (70, fi70), (71, fi71), (72, fi72), (73, fi73), (74, fi74), (75, fi75), (76, fi76), (77, fi77), (78, fi78), (79, fi79), (80, fi80), (81, fi81), (82, fi82), (87, fi87), (91, fi91), (92, fi92), (93, fi93), (94, fi94), (95, fi95), (96, fi96), (97, fi97), (98, fi98), (99, fi99), (100, fi100), (101, fi101), (102, fi102), (103, fi103), (104, fi104), (105, fi105), (106, fi106), (107, fi107), (111, fi111), (112, fi112), (113, fi113), (114, fi114), (115, fi115), (116, fi116), (119, fi119), (120, fi120), (121, fi121), (125, fi125), (126, fi126)]
def lk : List (Nat × Fi) → Nat → Option Fi
  | [], _ => none
  | (k, f) :: r, n => if k = n then some f else lk r n
def ext (f : FuncId) (ps : List PA) : Option AOut := if f = 118 then extItoa ps else if f = 117 then extAtoi ps else none
def TB : Tab := ⟨lk tab, ext⟩
noncomputable def L : Gam := Lim TB
theorem L_eq : L = Lim TB := rfl
theorem lk_mem : ∀ {l : List (Nat × Fi)} {n : Nat} {f : Fi}, lk l n = some f → (n, f) ∈ l
  | [], n, f, h => by simp [lk] at h
  | (k, g) :: r, n, f, h => by
    unfold lk at h
    split at h
    · rename_i e
      rw [Option.some.injEq] at h
      subst e h
      simp
    · exact List.mem_cons_of_mem _ (lk_mem h)
end Go.Fw.Law
