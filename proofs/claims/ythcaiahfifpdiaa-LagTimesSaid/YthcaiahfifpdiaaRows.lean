/-
  No cell of these rows narrows 'for every input' (looked for: loops, veiled, ifaces, maps, wideKeys, modest, calm, conditions, laid).
  DERIVED. THE GIVEN ROWS OF THIS SEAT. 5 by the template 'for every input the law returns true; each argument reads behind the call as it read before'; 0 by the template 'total and deterministic' (their statements: YthcaiahfifpdiaaTotals.lean).
  GIVEN WITH THE SEED: the statements are not yours to turn. If you find one false, say at which input.
  Laid BY PROGRAM, IN A SANDBOX (cutbox-rows.mjs): the forced cells as the released guide's own fill.sh prints them over the translation 201c9157cc2bab1b… (all of the seat's roots in one cut). By AI agents, Wed Nov 11 2026. No macro, syntax, notation, axiom, sorry.
-/
import Derived.Test.YthcaiahfifpdiaaChecked
import GoSem.Claim
import GoSem.ClaimJoined
import GoSem.ClaimMapViews
import Derived.JoinedTies
import Derived.KernelRfl
namespace Go.Proofs.Ythcaiahfifpdiaa
/- THE CELL 'sum', in the pinned program and in every row, IS THE sha256 OF THE DUMP (.gsa) THAT YthcaiahfifpdiaaProg.lean LOADS. Nothing in Lean hashes anything: it is a label: what it is worth is what the hold of that sum in a sandbox is worth. -/
noncomputable def Try.pinned : Pinned := { name := "ythcaiahfifpdiaa", sum := "201c9157cc2bab1b79f8977db09af2b6a8f3cf88ec03c6a67531c0a79145b3fc", checked := Try.checked }
namespace Rows
def none {H : Type} : Left H := { results := [], args := [] }

/-- 'postriderlaw20.LagTicks': WHATEVER THE INPUT: true; the input reads as it did. -/
def lagTicksSpec : ChangeSpec := { name := "lagTicks", fn := fun _ => fun
  | [d1, d2, d3, d4] => { results := [.lit (.bool true)], args := [d1, d2, d3, d4] }
  | _ => none }
def lagTicksRow : OpenClaim := { program := "ythcaiahfifpdiaa", sum := "201c9157cc2bab1b79f8977db09af2b6a8f3cf88ec03c6a67531c0a79145b3fc", func := "postrider/postriderlaw20.LagTicks", spec := "lagTicks", unfollowed := true, recurses := true, apart := false }
def LagTicksSaid : Prop := lagTicksRow.holds Try.pinned (OpenSpec.ofChange lagTicksSpec)

/-- ITS FALSE NEIGHBOUR: 'it returns false'. Refute it at one input. -/
def lagTicksWrong : ChangeSpec := { name := "lagTicks", fn := fun _ => fun
  | [d1, d2, d3, d4] => { results := [.lit (.bool false)], args := [d1, d2, d3, d4] }
  | _ => none }
def LagTicksWrongFalsely : Prop := lagTicksRow.holds Try.pinned (OpenSpec.ofChange lagTicksWrong)

/-- 'postriderlaw20.LagTimes': WHATEVER THE INPUT: true; the input reads as it did. -/
def lagTimesSpec : ChangeSpec := { name := "lagTimes", fn := fun _ => fun
  | [d1, d2, d3, d4] => { results := [.lit (.bool true)], args := [d1, d2, d3, d4] }
  | _ => none }
def lagTimesRow : OpenClaim := { program := "ythcaiahfifpdiaa", sum := "201c9157cc2bab1b79f8977db09af2b6a8f3cf88ec03c6a67531c0a79145b3fc", func := "postrider/postriderlaw20.LagTimes", spec := "lagTimes", unfollowed := true, recurses := true, apart := false }
def LagTimesSaid : Prop := lagTimesRow.holds Try.pinned (OpenSpec.ofChange lagTimesSpec)

/-- ITS FALSE NEIGHBOUR: 'it returns false'. Refute it at one input. -/
def lagTimesWrong : ChangeSpec := { name := "lagTimes", fn := fun _ => fun
  | [d1, d2, d3, d4] => { results := [.lit (.bool false)], args := [d1, d2, d3, d4] }
  | _ => none }
def LagTimesWrongFalsely : Prop := lagTimesRow.holds Try.pinned (OpenSpec.ofChange lagTimesWrong)

/-- 'postriderlaw20.LagNever': WHATEVER THE INPUT: true; the input reads as it did. -/
def lagNeverSpec : ChangeSpec := { name := "lagNever", fn := fun _ => fun
  | [d1, d2] => { results := [.lit (.bool true)], args := [d1, d2] }
  | _ => none }
def lagNeverRow : OpenClaim := { program := "ythcaiahfifpdiaa", sum := "201c9157cc2bab1b79f8977db09af2b6a8f3cf88ec03c6a67531c0a79145b3fc", func := "postrider/postriderlaw20.LagNever", spec := "lagNever", unfollowed := true, recurses := true, apart := false }
def LagNeverSaid : Prop := lagNeverRow.holds Try.pinned (OpenSpec.ofChange lagNeverSpec)

/-- ITS FALSE NEIGHBOUR: 'it returns false'. Refute it at one input. -/
def lagNeverWrong : ChangeSpec := { name := "lagNever", fn := fun _ => fun
  | [d1, d2] => { results := [.lit (.bool false)], args := [d1, d2] }
  | _ => none }
def LagNeverWrongFalsely : Prop := lagNeverRow.holds Try.pinned (OpenSpec.ofChange lagNeverWrong)

/-- 'postriderlaw20.LagVoid': WHATEVER THE INPUT: true; the input reads as it did. -/
def lagVoidSpec : ChangeSpec := { name := "lagVoid", fn := fun _ => fun
  | [d] => { results := [.lit (.bool true)], args := [d] }
  | _ => none }
def lagVoidRow : OpenClaim := { program := "ythcaiahfifpdiaa", sum := "201c9157cc2bab1b79f8977db09af2b6a8f3cf88ec03c6a67531c0a79145b3fc", func := "postrider/postriderlaw20.LagVoid", spec := "lagVoid", unfollowed := true, recurses := true, apart := false }
def LagVoidSaid : Prop := lagVoidRow.holds Try.pinned (OpenSpec.ofChange lagVoidSpec)

/-- ITS FALSE NEIGHBOUR: 'it returns false'. Refute it at one input. -/
def lagVoidWrong : ChangeSpec := { name := "lagVoid", fn := fun _ => fun
  | [d] => { results := [.lit (.bool false)], args := [d] }
  | _ => none }
def LagVoidWrongFalsely : Prop := lagVoidRow.holds Try.pinned (OpenSpec.ofChange lagVoidWrong)

/-- 'postriderlaw20.LagForgets': WHATEVER THE INPUT: true; the input reads as it did. -/
def lagForgetsSpec : ChangeSpec := { name := "lagForgets", fn := fun _ => fun
  | [d1, d2, d3, d4] => { results := [.lit (.bool true)], args := [d1, d2, d3, d4] }
  | _ => none }
def lagForgetsRow : OpenClaim := { program := "ythcaiahfifpdiaa", sum := "201c9157cc2bab1b79f8977db09af2b6a8f3cf88ec03c6a67531c0a79145b3fc", func := "postrider/postriderlaw20.LagForgets", spec := "lagForgets", unfollowed := true, recurses := true, apart := false }
def LagForgetsSaid : Prop := lagForgetsRow.holds Try.pinned (OpenSpec.ofChange lagForgetsSpec)

/-- ITS FALSE NEIGHBOUR: 'it returns false'. Refute it at one input. -/
def lagForgetsWrong : ChangeSpec := { name := "lagForgets", fn := fun _ => fun
  | [d1, d2, d3, d4] => { results := [.lit (.bool false)], args := [d1, d2, d3, d4] }
  | _ => none }
def LagForgetsWrongFalsely : Prop := lagForgetsRow.holds Try.pinned (OpenSpec.ofChange lagForgetsWrong)

/- THE SECOND FORM. 'bulk': how many values and letters a reading holds, each counted each time it is reached (what is shared counts as often as it is met; a slice's spare places count too). A statement '..UptoSaid' is the law's where the arguments, and the package variables that the reading takes, are together of bulk at most 1048576: NARROWER than '..Said'. Prove '..Said' where nothing that the law and all that it calls make is longer than what came in: it says more and counts as full. Else prove '..UptoSaid'. A law counts once. -/
mutual
def uptoBulk {H : Type} : DataW H → Nat
  | .lit (.string bytes) => bytes.length + 1
  | .lit _ => 1
  | .nil => 1
  | .ptr d => uptoBulk d + 1
  | .slice elems spare => uptoBulkAll elems + uptoBulkAll spare + 1
  | .agg parts => uptoBulkAll parts + 1
  | .iface _ d => uptoBulk d + 1
  | .map entries => uptoBulkEntries entries + 1
  | .held _ => 1
def uptoBulkAll {H : Type} : List (DataW H) → Nat
  | [] => 0
  | d :: r => uptoBulk d + uptoBulkAll r
def uptoBulkEntries {H : Type} : List (Lit × DataW H) → Nat
  | [] => 0
  | x :: r => uptoBulkEntry x + uptoBulkEntries r
def uptoBulkEntry {H : Type} : Lit × DataW H → Nat
  | (.string bytes, d) => bytes.length + uptoBulk d + 1
  | (_, d) => uptoBulk d + 1
 end
def uptoSmall : (H : Type) → List (DataW H) → Bool := fun _ ds => decide (uptoBulkAll ds ≤ 1048576)
def OpenSpec.upto (s : _root_.Go.ChangeSpec) : _root_.Go.OpenSpec := { _root_.Go.OpenSpec.ofChange s with cond := some uptoSmall }

/-- 'postriderlaw20.LagTicks', WHERE WHAT IT READS IS OF BULK AT MOST 1048576: true; the input reads as it did. -/
def lagTicksUptoRow : OpenClaim := { program := "ythcaiahfifpdiaa", sum := "201c9157cc2bab1b79f8977db09af2b6a8f3cf88ec03c6a67531c0a79145b3fc", func := "postrider/postriderlaw20.LagTicks", spec := "lagTicks", unfollowed := true, recurses := true, apart := false, narrowed := true }
def LagTicksUptoSaid : Prop := lagTicksUptoRow.holds Try.pinned (OpenSpec.upto lagTicksSpec)

/-- 'postriderlaw20.LagTimes', WHERE WHAT IT READS IS OF BULK AT MOST 1048576: true; the input reads as it did. -/
def lagTimesUptoRow : OpenClaim := { program := "ythcaiahfifpdiaa", sum := "201c9157cc2bab1b79f8977db09af2b6a8f3cf88ec03c6a67531c0a79145b3fc", func := "postrider/postriderlaw20.LagTimes", spec := "lagTimes", unfollowed := true, recurses := true, apart := false, narrowed := true }
def LagTimesUptoSaid : Prop := lagTimesUptoRow.holds Try.pinned (OpenSpec.upto lagTimesSpec)

/-- 'postriderlaw20.LagNever', WHERE WHAT IT READS IS OF BULK AT MOST 1048576: true; the input reads as it did. -/
def lagNeverUptoRow : OpenClaim := { program := "ythcaiahfifpdiaa", sum := "201c9157cc2bab1b79f8977db09af2b6a8f3cf88ec03c6a67531c0a79145b3fc", func := "postrider/postriderlaw20.LagNever", spec := "lagNever", unfollowed := true, recurses := true, apart := false, narrowed := true }
def LagNeverUptoSaid : Prop := lagNeverUptoRow.holds Try.pinned (OpenSpec.upto lagNeverSpec)

/-- 'postriderlaw20.LagVoid', WHERE WHAT IT READS IS OF BULK AT MOST 1048576: true; the input reads as it did. -/
def lagVoidUptoRow : OpenClaim := { program := "ythcaiahfifpdiaa", sum := "201c9157cc2bab1b79f8977db09af2b6a8f3cf88ec03c6a67531c0a79145b3fc", func := "postrider/postriderlaw20.LagVoid", spec := "lagVoid", unfollowed := true, recurses := true, apart := false, narrowed := true }
def LagVoidUptoSaid : Prop := lagVoidUptoRow.holds Try.pinned (OpenSpec.upto lagVoidSpec)

/-- 'postriderlaw20.LagForgets', WHERE WHAT IT READS IS OF BULK AT MOST 1048576: true; the input reads as it did. -/
def lagForgetsUptoRow : OpenClaim := { program := "ythcaiahfifpdiaa", sum := "201c9157cc2bab1b79f8977db09af2b6a8f3cf88ec03c6a67531c0a79145b3fc", func := "postrider/postriderlaw20.LagForgets", spec := "lagForgets", unfollowed := true, recurses := true, apart := false, narrowed := true }
def LagForgetsUptoSaid : Prop := lagForgetsUptoRow.holds Try.pinned (OpenSpec.upto lagForgetsSpec)

end Rows
end Go.Proofs.Ythcaiahfifpdiaa
