/- The table of the functions. -/
import Derived.Test.YtimonbmadmfhfaaFn1
namespace Go.Proofs.Ytimonbmadmfhfaa
open Go.AL

def pgAll : List (FuncId × AFun) := [(2, fn2), (3, fn3), (4, fn4), (5, fn5), (6, fn6), (7, fn7), (8, fn8), (9, fn9), (10, fn10), (11, fn11), (12, fn12), (13, fn13), (14, fn14), (15, fn15), (16, fn16), (17, fn17), (18, fn18), (19, fn19), (20, fn20), (21, fn21), (22, fn22), (23, fn23), (24, fn24), (25, fn25), (26, fn26), (27, fn27), (28, fn28), (29, fn29), (30, fn30), (31, fn31), (32, fn32), (34, fn34), (35, fn35), (36, fn36), (37, fn37), (38, fn38), (39, fn39), (40, fn40), (41, fn41), (42, fn42), (43, fn43), (44, fn44), (45, fn45), (46, fn46), (47, fn47), (48, fn48), (49, fn49), (51, fn51), (52, fn52), (53, fn53), (54, fn54), (55, fn55), (56, fn56), (58, fn58), (59, fn59), (61, fn61), (62, fn62), (63, fn63), (64, fn64), (65, fn65), (67, fn67), (68, fn68), (69, fn69), (71, fn71), (72, fn72), (73, fn73), (74, fn74), (75, fn75), (76, fn76), (81, fn81), (82, fn82), (84, fn84), (86, fn86), (87, fn87), (88, fn88), (89, fn89), (91, fn91), (92, fn92), (94, fn94), (95, fn95), (96, fn96), (97, fn97), (98, fn98), (99, fn99), (100, fn100)]
/-- All of a list but some. -/
def pgOf (l : List (FuncId × AFun)) (f : FuncId) : Option AFun :=
  match l with
  | [] => none
  | p :: r => if p.1 = f then some p.2 else pgOf r f
def AllOk (P : Program) : List (FuncId × AFun) → Prop
  | [] => True
  | p :: r => compFun P p.1 = some p.2 ∧ AllOk P r
theorem AllOk.ok {P : Program} : ∀ {l : List (FuncId × AFun)}, AllOk P l → AProgOk P (pgOf l)
  | [], _, f, af, h => by simp [pgOf] at h
  | p :: r, hh, f, af, h => by
    simp only [pgOf] at h
    split at h
    · rename_i he
      injection h with h
      rw [← he, ← h]; exact hh.1
    · exact AllOk.ok hh.2 f af h
theorem all_ok : AllOk Try.prog pgAll := ⟨ok2, ok3, ok4, ok5, ok6, ok7, ok8, ok9, ok10, ok11, ok12, ok13, ok14, ok15, ok16, ok17, ok18, ok19, ok20, ok21, ok22, ok23, ok24, ok25, ok26, ok27, ok28, ok29, ok30, ok31, ok32, ok34, ok35, ok36, ok37, ok38, ok39, ok40, ok41, ok42, ok43, ok44, ok45, ok46, ok47, ok48, ok49, ok51, ok52, ok53, ok54, ok55, ok56, ok58, ok59, ok61, ok62, ok63, ok64, ok65, ok67, ok68, ok69, ok71, ok72, ok73, ok74, ok75, ok76, ok81, ok82, ok84, ok86, ok87, ok88, ok89, ok91, ok92, ok94, ok95, ok96, ok97, ok98, ok99, ok100, trivial⟩
theorem mixed : Try.prog.follows .mixedOrders = true := by kernel_rfl

end Go.Proofs.Ytimonbmadmfhfaa
