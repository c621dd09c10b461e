/-
  LagNever: whatever it is given, the function returns true, and what it was given reads as it did. No conditions.
-/
import Derived.Test.YthcaiahfifpdiaaRows
import Derived.WalkKit
import Derived.ProofKit
import Derived.OpenShut
import Derived.Test.YthcaiahfifpdiaaL2
import Derived.Test.YthcaiahfifpdiaaF0
namespace Go.Proofs.Ythcaiahfifpdiaa.lagNever
open Go.ChangeShapes Go.WideShapes Go.ChangeAt Go.RowKit Go.SL
set_option linter.unusedVariables false

theorem own : ownKnob Try.prog.godebug = none := by kernel_rfl

set_option maxRecDepth 100000 in
theorem lifted (os : Os) (started : os.Started) (H : Type) (enc : TypeId × Value → H) :
    ReturnsInHanded {} Try.checked os 5 .any (Rows.lagNeverSpec.pre6 enc Try.prog Try.f5 Rows.lagNeverRow.domain false) (Rows.lagNeverSpec.post enc Try.prog Try.f5 false true false false) := by
  refine returnsInHanded_of_change (C := Try.checked) own started (by kernel_rfl) Try.func5
    (ChangeSpec.witness6 (enc := enc) (C := Try.checked) false ⟨#[], #[.int .i64 0, .slice none 0 0], []⟩ 8 (by kernel_rfl) (by kernel_rfl) (by kernel_rfl) (by kernel_rfl)) ?_
  intro W base args ds gs before hval0 hW hcnd _
  have hval : ∀ (j : Nat) t v, Try.f5.params[j]? = some t → args[j]? = some v → Value.okWide Try.prog W .any base t v := hval0
  have hW' := hW
  obtain ⟨p, q, hA0, hV, rfl, hfz, hnd⟩ := hW
  have hA : DataW.TrodAll enc Try.prog W 0 (fun _ => true) true Try.f5.params.toList args.toList ds p := hA0
  rw [Try.params5] at hA hval
  obtain ⟨v0, vs0, d0, ds0, p0, q0, hargs, rfl, rfl, h0, r0⟩ := trodAll_cons hA
  obtain ⟨v1, vs1, d1, ds1, p1, q1, rfl, rfl, rfl, h1, r1⟩ := trodAll_cons r0
  obtain ⟨rfl, rfl, rfl⟩ := trodAll_nil r1
  obtain rfl : args = #[v0, v1] := by cases args; simp_all
  obtain ⟨rfl, rfl⟩ := trodVars_none hV
  obtain ⟨a0, rfl, rfl, rfl, w0⟩ := open_int Try.underlying3 (hval 0 3 v0 rfl rfl) h0
  obtain ⟨b1, o1, n1, l1, hn1, hl1, s1⟩ := open_sl_ints Try.underlying23 Try.underlying3 (by kernel_rfl) (hval 1 23 v1 rfl rfl) h1
  clear hA0 hval0
  refine (law_walk okN ⟨a0, (n1 : Int), l1⟩ ⟨inR_of_wf w0, (by simp only; omega), hn1, hl1⟩ rfl rfl ⟨fun _ _ => rfl, trivial⟩ [b1] [o1] ⟨(s1 _ 0 rfl rfl).2 _, trivial⟩ (AL.VRels.cons (show AL.VRel _ (.int .i64 a0) _ from rfl) (AL.VRels.cons (s1 _ 0 rfl rfl).1 (AL.VRels.nil)))).mono fun e W' ⟨he, hg⟩ => ?_
  subst he
  exact ⟨_, rfl, AL.post_of_old (tb := 4) (by kernel_rfl) (by kernel_rfl) rfl rfl (by kernel_rfl) Try.underlying4 hW' hg⟩

theorem over : Rows.lagNeverRow.holds Try.pinned (OpenSpec.ofChange Rows.lagNeverSpec) :=
  OpenClaim.holds_of_wide 5 Try.f5 rfl rfl rfl rfl rfl rfl rfl ⟨rfl, rfl, rfl, rfl, rfl⟩ rfl rfl rfl rfl rfl (by kernel_rfl) Try.func5 (by kernel_rfl)
    (of_decide_eq_true (by kernel_rfl)) (by unfold Func.isWrapper; first | (rw [if_pos (by decide +kernel)]; kernel_rfl) | (rw [if_neg (by decide +kernel)]; exact ⟨rfl, rfl⟩))
    (fun os started H enc _ => lifted os started H enc)

/-- ████ THE STATEMENT ████ -/
theorem proved : Rows.LagNeverSaid :=
  over
#print axioms proved
end Go.Proofs.Ythcaiahfifpdiaa.lagNever
