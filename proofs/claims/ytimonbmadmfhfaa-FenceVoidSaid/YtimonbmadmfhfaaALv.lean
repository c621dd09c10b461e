/- Helper text: from a contract to the row of a law that returns true whatever it is given. -/
import Derived.Test.YtimonbmadmfhfaaALu
import Derived.WalkKit
import Derived.ProofKit
import Derived.OpenShut
namespace Go.AL
open Go.ChangeShapes Go.WideShapes Go.ChangeAt Go.RowKit

/-- Names at a call's beginning: what came in, nothing else. -/
def beta0 (blk off : Nat → Nat) : Beta := ⟨0, fun b => match b with | .own _ => 0 | .arg i => blk i, off, fun _ => 0, fun _ _ => False⟩

def OldSame (W W' : World) : Prop := (∀ b, b < W.heap.size → W'.heap[b]? = W.heap[b]?) ∧ W'.os = W.os ∧ W'.output = W.output

theorem calls_of_callT {P : Program} {rom : Rom} {f : FuncId} {args : List AVal} {b : Bool} (hc : CallT P rom f args (fun _ => none) 0 (fun v _ _ => v = .bool b))
    (blk off : Nat → Nat) {W : World} {rargs : Array Value} (hr : ∀ i cs e, rom i = some (cs, e) → ARel (beta0 blk off) i W cs e) (ha : VRels (beta0 blk off) args rargs.toList) :
    Calls P f rargs W fun e W' => e = .returned (.bool b) ∧ OldSame W W' := by
  rw [← callsIn_wide (n := 0)]
  refine (hc.2 (beta0 blk off) W rargs rfl ⟨fun i o h => (by cases h), fun i j b h => absurd rfl h, fun i b h => absurd rfl h, hr, fun i j _ h => absurd rfl h⟩ ha).mono ?_
  rintro e W' ⟨β', v, h', rv, rfl, rfl, h3, _, m⟩
  simp only [VRel] at h3
  subst h3
  exact ⟨rfl, fun b hb => m.same b hb fun i h => absurd rfl h, m.os, m.out⟩

theorem OldSame.kept {W W' : World} (h : OldSame W W') (may : MemPlace → Prop) : W.keptBut W' may := by
  refine ⟨h.2.1, h.2.2, fun i hi => ?_⟩
  rw [h.1 i hi]
  split <;> simp_all
theorem OldSame.same {W W' : World} (h : OldSame W W') {p : MemPlace} (hp : p.block < W.heap.size) : W.sameAt W' p := by
  cases p with
  | cell b o => exact World.cell?_of_block (w := W) (h.1 b hp)
  | map b => exact h.1 b hp

section
variable {H : Type} {enc : TypeId × Value → H} {P : Program}

theorem trodAll_old (hl : laidOutB P = true) {W W' : World} (hb : OldSame W W') : ∀ {ts : List TypeId} {vs : List Value} {ds : List (DataW H)} {ps : List MemPlace},
    (ts.all fun t => P.readableRec t && decide (t < P.types.size)) = true → DataW.TrodAll enc P W 0 (fun _ => true) true ts vs ds ps → DataW.TrodAll enc P W' 0 (fun b => decide (b < W.heap.size)) true ts vs ds ps
  | [], [], [], _, _, h => h
  | t :: ts, v :: vs, d :: ds, _, ht, ⟨p, q, h1, h2, e⟩ => by
    simp only [List.all_cons, Bool.and_eq_true, decide_eq_true_eq] at ht
    have hlt : ∀ x ∈ p, x.block < W.heap.size := fun x hx => by
      obtain ⟨n, hn⟩ := h1
      exact DataW.trod_lt n _ _ _ hn x hx
    exact ⟨p, q, WideElems.Trod_stays hl ht.1.1 ht.1.2 h1 (fun x hx => hb.same (hlt x hx)) (fun x hx => by simpa using hlt x hx), trodAll_old hl hb ht.2 h2, e⟩

theorem post_of_old {f : Func} {s : ChangeSpec} {W W' : World} {args : Array Value} {ds gs : List (DataW H)} {before : List MemPlace} {tb : TypeId}
    (hl : laidOutB P = true) (hts : (f.params.toList.all fun t => P.readableRec t && decide (t < P.types.size)) = true) (hv : s.vars = [])
    (hfn : s.fn H (ds ++ gs) = { results := [.lit (.bool true)], args := ds }) (hr : f.resultTypes = #[tb]) (htb : P.underlying tb = some .bool)
    (hW : DataW.Whole enc P f.params.toList s.vars false W args.toList ds gs before) (hb : OldSame W W') :
    s.post enc P f false true false false W args (.bool true) W' := by
  obtain ⟨p, q, hA, hV, rfl, h4⟩ := id hW
  rw [hv] at hV
  obtain ⟨rfl, rfl⟩ := trodVars_none hV
  refine ⟨ds, [], _, [], p, [], hW, ?_, ?_, ?_, hb.kept _ |> World.keptBut_mono (fun p (h : p ∈ _) => ⟨h, ?_⟩), fun h => by cases h⟩
  · rw [hfn, hr]
    exact trodAll_cons_mk (shut_bool htb _) trodAll_mk0
  · rw [hfn]
    exact trodAll_old hl hb hts hA
  · rw [hfn, hv]
    rfl
  · right; left; simpa using h
end
end Go.AL
