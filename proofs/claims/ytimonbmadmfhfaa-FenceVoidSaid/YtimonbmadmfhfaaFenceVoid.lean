/-
  FenceVoid: for every number the function returns true, and what it was given reads as it did. No conditions.
-/
import Derived.Test.YtimonbmadmfhfaaRows
import Derived.WalkKit
import Derived.ProofKit
import Derived.OpenShut
import Derived.Test.YtimonbmadmfhfaaALv
import Derived.Test.YtimonbmadmfhfaaPg
namespace Go.Proofs.Ytimonbmadmfhfaa.fenceVoid
open Go.ChangeShapes Go.WideShapes Go.ChangeAt Go.RowKit
set_option linter.unusedVariables false

theorem own : ownKnob Try.prog.godebug = none := by kernel_rfl

abbrev rom0 : AL.Rom := fun _ => none
def isT : AL.AVal → Prop | .bool true => True | _ => False
theorem isT_eq {v : AL.AVal} (h : isT v) : v = .bool true := by
  unfold isT at h
  split at h
  · rfl
  · exact h.elim

set_option maxRecDepth 1000000 in
/-- The function by evaluation: it comes to true, whatever the id. -/
theorem told (a0 : Int) : AL.CallT Try.prog rom0 4 [.int .i64 a0] (fun _ => none) 0 (fun v _ _ => isT v) := by
  refine AL.callT_of_EC all_ok.ok mixed (some 40) 40 (af := fn4) ok4 (Nat.le_of_ble_eq_true rfl) ?_
  show _
  apply of_eq_true
  kernel_rfl

theorem walk (a0 : Int) (w : World) : Calls Try.prog 4 #[.int .i64 a0] w fun e w' => e = .returned (.bool true) ∧ AL.OldSame w w' :=
  AL.calls_of_callT ((told a0).mono fun _ _ _ h => isT_eq h) (fun _ => 0) (fun _ => 0) (fun i cs e h => by cases h) ⟨_, _, rfl, rfl, rfl⟩

set_option maxRecDepth 100000 in
theorem lifted (os : Os) (started : os.Started) (H : Type) (enc : TypeId × Value → H) :
    ReturnsInHanded {} Try.checked os 4 .any (Rows.fenceVoidSpec.pre6 enc Try.prog Try.f4 Rows.fenceVoidRow.domain false) (Rows.fenceVoidSpec.post enc Try.prog Try.f4 false true false false) := by
  refine returnsInHanded_of_change (C := Try.checked) own started (by kernel_rfl) Try.func4
    (ChangeSpec.witness6 (enc := enc) (C := Try.checked) false ⟨#[], #[.int .i64 0], []⟩ 8 (by kernel_rfl) (by kernel_rfl) (by kernel_rfl) (by kernel_rfl)) ?_
  intro W base args ds gs before hval0 hW hcnd _
  have hval : ∀ (j : Nat) t v, Try.f4.params[j]? = some t → args[j]? = some v → Value.okWide Try.prog W .any base t v := hval0
  have hW' := hW
  obtain ⟨p, q, hA0, hV, rfl, hfz, hnd⟩ := hW
  have hA : DataW.TrodAll enc Try.prog W 0 (fun _ => true) true Try.f4.params.toList args.toList ds p := hA0
  rw [Try.params4] at hA hval
  obtain ⟨v0, vs0, d0, ds0, p0, q0, hargs, rfl, rfl, h0, r0⟩ := trodAll_cons hA
  obtain ⟨rfl, rfl, rfl⟩ := trodAll_nil r0
  obtain rfl : args = #[v0] := by cases args; simp_all
  obtain ⟨rfl, rfl⟩ := trodVars_none hV
  obtain ⟨a0, rfl, rfl, rfl, w0⟩ := open_int Try.underlying3 (hval 0 3 v0 rfl rfl) h0
  clear hA0 hval0
  refine (walk a0 W).mono fun e W' ⟨he, hg⟩ => ?_
  subst he
  exact ⟨_, rfl, AL.post_of_old (tb := 4) (by kernel_rfl) (by kernel_rfl) rfl rfl (by kernel_rfl) Try.underlying4 hW' hg⟩

theorem over : Rows.fenceVoidRow.holds Try.pinned (OpenSpec.ofChange Rows.fenceVoidSpec) :=
  OpenClaim.holds_of_wide 4 Try.f4 rfl rfl rfl rfl rfl rfl rfl ⟨rfl, rfl, rfl, rfl, rfl⟩ rfl rfl rfl rfl rfl (by kernel_rfl) Try.func4 (by kernel_rfl)
    (of_decide_eq_true (by kernel_rfl)) (by unfold Func.isWrapper; first | (rw [if_pos (by decide +kernel)]; kernel_rfl) | (rw [if_neg (by decide +kernel)]; exact ⟨rfl, rfl⟩))
    (fun os started H enc _ => lifted os started H enc)

/-- ████ THE STATEMENT ████ -/
theorem proved : Rows.FenceVoidSaid :=
  over
#print axioms proved
end Go.Proofs.Ytimonbmadmfhfaa.fenceVoid
