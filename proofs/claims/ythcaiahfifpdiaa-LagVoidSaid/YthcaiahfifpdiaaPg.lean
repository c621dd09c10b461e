/- The table of the functions. -/
import Derived.Test.YthcaiahfifpdiaaFn0
namespace Go.Proofs.Ythcaiahfifpdiaa
open Go.AL

def pgAll : List (FuncId × AFun) := [(2, fn2), (3, fn3), (4, fn4), (5, fn5), (6, fn6), (7, fn7), (8, fn8), (9, fn9), (10, fn10), (11, fn11), (12, fn12), (13, fn13), (14, fn14), (15, fn15), (16, fn16), (17, fn17), (18, fn18), (19, fn19), (20, fn20), (21, fn21), (22, fn22), (23, fn23), (24, fn24), (25, fn25), (26, fn26)]
/-- All of a list but some. -/
def pgOf (l : List (FuncId × AFun)) (f : FuncId) : Option AFun :=
  match l with
  | [] => none
  | p :: r => if p.1 = f then some p.2 else pgOf r f
def AllOk (P : Program) : List (FuncId × AFun) → Prop
  | [] => True
  | p :: r => compFun P p.1 = some p.2 ∧ AllOk P r
theorem AllOk.ok {P : Program} : ∀ {l : List (FuncId × AFun)}, AllOk P l → AProgOk P (pgOf l)
  | [], _, f, af, h => by simp [pgOf] at h
  | p :: r, hh, f, af, h => by
    simp only [pgOf] at h
    split at h
    · rename_i he
      injection h with h
      rw [← he, ← h]; exact hh.1
    · exact AllOk.ok hh.2 f af h
theorem all_ok : AllOk Try.prog pgAll := ⟨ok2, ok3, ok4, ok5, ok6, ok7, ok8, ok9, ok10, ok11, ok12, ok13, ok14, ok15, ok16, ok17, ok18, ok19, ok20, ok21, ok22, ok23, ok24, ok25, ok26, trivial⟩
theorem mixed : Try.prog.follows .mixedOrders = true := by kernel_rfl

end Go.Proofs.Ythcaiahfifpdiaa
