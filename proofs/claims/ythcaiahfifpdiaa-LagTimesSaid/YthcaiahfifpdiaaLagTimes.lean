/-
  LagTimes: whatever it is given, the function returns true, and what it was given reads as it did. No conditions.
-/
import Derived.Test.YthcaiahfifpdiaaRows
import Derived.WalkKit
import Derived.ProofKit
import Derived.OpenShut
import Derived.Test.YthcaiahfifpdiaaL2
import Derived.Test.YthcaiahfifpdiaaF0
namespace Go.Proofs.Ythcaiahfifpdiaa.lagTimes
open Go.ChangeShapes Go.WideShapes Go.ChangeAt Go.RowKit Go.SL
set_option linter.unusedVariables false

theorem own : ownKnob Try.prog.godebug = none := by kernel_rfl

set_option maxRecDepth 100000 in
theorem lifted (os : Os) (started : os.Started) (H : Type) (enc : TypeId × Value → H) :
    ReturnsInHanded {} Try.checked os 4 .any (Rows.lagTimesSpec.pre6 enc Try.prog Try.f4 Rows.lagTimesRow.domain false) (Rows.lagTimesSpec.post enc Try.prog Try.f4 false true false false) := by
  refine returnsInHanded_of_change (C := Try.checked) own started (by kernel_rfl) Try.func4
    (ChangeSpec.witness6 (enc := enc) (C := Try.checked) false ⟨#[], #[.int .i64 0, .int .i64 0, .slice none 0 0, .slice none 0 0], []⟩ 8 (by kernel_rfl) (by kernel_rfl) (by kernel_rfl) (by kernel_rfl)) ?_
  intro W base args ds gs before hval0 hW hcnd _
  have hval : ∀ (j : Nat) t v, Try.f4.params[j]? = some t → args[j]? = some v → Value.okWide Try.prog W .any base t v := hval0
  have hW' := hW
  obtain ⟨p, q, hA0, hV, rfl, hfz, hnd⟩ := hW
  have hA : DataW.TrodAll enc Try.prog W 0 (fun _ => true) true Try.f4.params.toList args.toList ds p := hA0
  rw [Try.params4] at hA hval
  obtain ⟨v0, vs0, d0, ds0, p0, q0, hargs, rfl, rfl, h0, r0⟩ := trodAll_cons hA
  obtain ⟨v1, vs1, d1, ds1, p1, q1, rfl, rfl, rfl, h1, r1⟩ := trodAll_cons r0
  obtain ⟨v2, vs2, d2, ds2, p2, q2, rfl, rfl, rfl, h2, r2⟩ := trodAll_cons r1
  obtain ⟨v3, vs3, d3, ds3, p3, q3, rfl, rfl, rfl, h3, r3⟩ := trodAll_cons r2
  obtain ⟨rfl, rfl, rfl⟩ := trodAll_nil r3
  obtain rfl : args = #[v0, v1, v2, v3] := by cases args; simp_all
  obtain ⟨rfl, rfl⟩ := trodVars_none hV
  obtain ⟨a0, rfl, rfl, rfl, w0⟩ := open_int Try.underlying3 (hval 0 3 v0 rfl rfl) h0
  obtain ⟨a1, rfl, rfl, rfl, w1⟩ := open_int Try.underlying3 (hval 1 3 v1 rfl rfl) h1
  obtain ⟨b2, o2, n2, l2, hn2, hl2, s2⟩ := open_sl_ints Try.underlying23 Try.underlying3 (by kernel_rfl) (hval 2 23 v2 rfl rfl) h2
  obtain ⟨b3, o3, n3, l3, hn3, hl3, s3⟩ := open_sl_ints Try.underlying23 Try.underlying3 (by kernel_rfl) (hval 3 23 v3 rfl rfl) h3
  clear hA0 hval0
  refine (law_walk okX ⟨a0, a1, (n2 : Int), l2, (n3 : Int), l3⟩ ⟨inR_of_wf w0, inR_of_wf w1, (by simp only; omega), hn2, (by simp only; omega), hn3, hl2, hl3⟩ rfl rfl ⟨fun _ _ => rfl, trivial⟩ [b2, b3] [o2, o3] ⟨(s2 _ 0 rfl rfl).2 _, ⟨(s3 _ 1 rfl rfl).2 _, trivial⟩⟩ (AL.VRels.cons (show AL.VRel _ (.int .i64 a0) _ from rfl) (AL.VRels.cons (show AL.VRel _ (.int .i64 a1) _ from rfl) (AL.VRels.cons (s2 _ 0 rfl rfl).1 (AL.VRels.cons (s3 _ 1 rfl rfl).1 (AL.VRels.nil)))))).mono fun e W' ⟨he, hg⟩ => ?_
  subst he
  exact ⟨_, rfl, AL.post_of_old (tb := 4) (by kernel_rfl) (by kernel_rfl) rfl rfl (by kernel_rfl) Try.underlying4 hW' hg⟩

theorem over : Rows.lagTimesRow.holds Try.pinned (OpenSpec.ofChange Rows.lagTimesSpec) :=
  OpenClaim.holds_of_wide 4 Try.f4 rfl rfl rfl rfl rfl rfl rfl ⟨rfl, rfl, rfl, rfl, rfl⟩ rfl rfl rfl rfl rfl (by kernel_rfl) Try.func4 (by kernel_rfl)
    (of_decide_eq_true (by kernel_rfl)) (by unfold Func.isWrapper; first | (rw [if_pos (by decide +kernel)]; kernel_rfl) | (rw [if_neg (by decide +kernel)]; exact ⟨rfl, rfl⟩))
    (fun os started H enc _ => lifted os started H enc)

/-- ████ THE STATEMENT ████ -/
theorem proved : Rows.LagTimesSaid :=
  over
#print axioms proved
end Go.Proofs.Ythcaiahfifpdiaa.lagTimes
