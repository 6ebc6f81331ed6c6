/-
  No cell of these rows narrows 'for every input' (looked for: loops, veiled, ifaces, maps, wideKeys, modest, calm, conditions, laid).
  DERIVED. THE GIVEN ROWS OF THIS SEAT. 5 by the template 'for every input the law returns true; each argument reads behind the call as it read before'; 0 by the template 'total and deterministic' (their statements: YtejaiaoiceknlaaTotals.lean).
  GIVEN WITH THE SEED: the statements are not yours to turn. If you find one false, say at which input.
  Laid BY PROGRAM, IN A SANDBOX (cutbox-rows.mjs): the forced cells as the released guide's own fill.sh prints them over the translation f722b63de658f95f… (all of the seat's roots in one cut). By AI agents, Wed Nov 11 2026. No macro, syntax, notation, axiom, sorry.
-/
import Derived.Test.YtejaiaoiceknlaaChecked
import GoSem.Claim
import GoSem.ClaimJoined
import GoSem.ClaimMapViews
import Derived.JoinedTies
import Derived.KernelRfl
namespace Go.Proofs.Ytejaiaoiceknlaa
/- THE CELL 'sum', in the pinned program and in every row, IS THE sha256 OF THE DUMP (.gsa) THAT YtejaiaoiceknlaaProg.lean LOADS. Nothing in Lean hashes anything: it is a label: what it is worth is what the hold of that sum in a sandbox is worth. -/
noncomputable def Try.pinned : Pinned := { name := "ytejaiaoiceknlaa", sum := "f722b63de658f95fb7599ba6d5b1e014ec46fe84efec7ea3b2ca2c6a9a114e8f", checked := Try.checked }
namespace Rows
def none {H : Type} : Left H := { results := [], args := [] }

/-- 'ringerlaw31.BackoffTotals': WHATEVER THE INPUT: true; the input reads as it did. -/
def backoffTotalsSpec : ChangeSpec := { name := "backoffTotals", fn := fun _ => fun
  | [d1, d2, d3, d4, d5] => { results := [.lit (.bool true)], args := [d1, d2, d3, d4, d5] }
  | _ => none }
def backoffTotalsRow : OpenClaim := { program := "ytejaiaoiceknlaa", sum := "f722b63de658f95fb7599ba6d5b1e014ec46fe84efec7ea3b2ca2c6a9a114e8f", func := "ringer/ringerlaw31.BackoffTotals", spec := "backoffTotals", unfollowed := true, recurses := true, apart := false }
def BackoffTotalsSaid : Prop := backoffTotalsRow.holds Try.pinned (OpenSpec.ofChange backoffTotalsSpec)

/-- ITS FALSE NEIGHBOUR: 'it returns false'. Refute it at one input. -/
def backoffTotalsWrong : ChangeSpec := { name := "backoffTotals", fn := fun _ => fun
  | [d1, d2, d3, d4, d5] => { results := [.lit (.bool false)], args := [d1, d2, d3, d4, d5] }
  | _ => none }
def BackoffTotalsWrongFalsely : Prop := backoffTotalsRow.holds Try.pinned (OpenSpec.ofChange backoffTotalsWrong)

/-- 'ringerlaw31.BackoffAlone': WHATEVER THE INPUT: true; the input reads as it did. -/
def backoffAloneSpec : ChangeSpec := { name := "backoffAlone", fn := fun _ => fun
  | [d1, d2, d3, d4, d5] => { results := [.lit (.bool true)], args := [d1, d2, d3, d4, d5] }
  | _ => none }
def backoffAloneRow : OpenClaim := { program := "ytejaiaoiceknlaa", sum := "f722b63de658f95fb7599ba6d5b1e014ec46fe84efec7ea3b2ca2c6a9a114e8f", func := "ringer/ringerlaw31.BackoffAlone", spec := "backoffAlone", unfollowed := true, recurses := true, apart := false }
def BackoffAloneSaid : Prop := backoffAloneRow.holds Try.pinned (OpenSpec.ofChange backoffAloneSpec)

/-- ITS FALSE NEIGHBOUR: 'it returns false'. Refute it at one input. -/
def backoffAloneWrong : ChangeSpec := { name := "backoffAlone", fn := fun _ => fun
  | [d1, d2, d3, d4, d5] => { results := [.lit (.bool false)], args := [d1, d2, d3, d4, d5] }
  | _ => none }
def BackoffAloneWrongFalsely : Prop := backoffAloneRow.holds Try.pinned (OpenSpec.ofChange backoffAloneWrong)

/-- 'ringerlaw31.BackoffWaits': WHATEVER THE INPUT: true; the input reads as it did. -/
def backoffWaitsSpec : ChangeSpec := { name := "backoffWaits", fn := fun _ => fun
  | [d1, d2, d3] => { results := [.lit (.bool true)], args := [d1, d2, d3] }
  | _ => none }
def backoffWaitsRow : OpenClaim := { program := "ytejaiaoiceknlaa", sum := "f722b63de658f95fb7599ba6d5b1e014ec46fe84efec7ea3b2ca2c6a9a114e8f", func := "ringer/ringerlaw31.BackoffWaits", spec := "backoffWaits", unfollowed := true, recurses := true, apart := false }
def BackoffWaitsSaid : Prop := backoffWaitsRow.holds Try.pinned (OpenSpec.ofChange backoffWaitsSpec)

/-- ITS FALSE NEIGHBOUR: 'it returns false'. Refute it at one input. -/
def backoffWaitsWrong : ChangeSpec := { name := "backoffWaits", fn := fun _ => fun
  | [d1, d2, d3] => { results := [.lit (.bool false)], args := [d1, d2, d3] }
  | _ => none }
def BackoffWaitsWrongFalsely : Prop := backoffWaitsRow.holds Try.pinned (OpenSpec.ofChange backoffWaitsWrong)

/-- 'ringerlaw31.BackoffBounds': WHATEVER THE INPUT: true; the input reads as it did. -/
def backoffBoundsSpec : ChangeSpec := { name := "backoffBounds", fn := fun _ => fun
  | [d1, d2] => { results := [.lit (.bool true)], args := [d1, d2] }
  | _ => none }
def backoffBoundsRow : OpenClaim := { program := "ytejaiaoiceknlaa", sum := "f722b63de658f95fb7599ba6d5b1e014ec46fe84efec7ea3b2ca2c6a9a114e8f", func := "ringer/ringerlaw31.BackoffBounds", spec := "backoffBounds", unfollowed := true, recurses := true, apart := false }
def BackoffBoundsSaid : Prop := backoffBoundsRow.holds Try.pinned (OpenSpec.ofChange backoffBoundsSpec)

/-- ITS FALSE NEIGHBOUR: 'it returns false'. Refute it at one input. -/
def backoffBoundsWrong : ChangeSpec := { name := "backoffBounds", fn := fun _ => fun
  | [d1, d2] => { results := [.lit (.bool false)], args := [d1, d2] }
  | _ => none }
def BackoffBoundsWrongFalsely : Prop := backoffBoundsRow.holds Try.pinned (OpenSpec.ofChange backoffBoundsWrong)

/-- 'ringerlaw31.BackoffFits': WHATEVER THE INPUT: true; the input reads as it did. -/
def backoffFitsSpec : ChangeSpec := { name := "backoffFits", fn := fun _ => fun
  | [d1, d2, d3] => { results := [.lit (.bool true)], args := [d1, d2, d3] }
  | _ => none }
def backoffFitsRow : OpenClaim := { program := "ytejaiaoiceknlaa", sum := "f722b63de658f95fb7599ba6d5b1e014ec46fe84efec7ea3b2ca2c6a9a114e8f", func := "ringer/ringerlaw31.BackoffFits", spec := "backoffFits", unfollowed := true, recurses := true, apart := false }
def BackoffFitsSaid : Prop := backoffFitsRow.holds Try.pinned (OpenSpec.ofChange backoffFitsSpec)

/-- ITS FALSE NEIGHBOUR: 'it returns false'. Refute it at one input. -/
def backoffFitsWrong : ChangeSpec := { name := "backoffFits", fn := fun _ => fun
  | [d1, d2, d3] => { results := [.lit (.bool false)], args := [d1, d2, d3] }
  | _ => none }
def BackoffFitsWrongFalsely : Prop := backoffFitsRow.holds Try.pinned (OpenSpec.ofChange backoffFitsWrong)

/- THE SECOND FORM. 'bulk': how many values and letters a reading holds, each counted each time it is reached (what is shared counts as often as it is met; a slice's spare places count too). A statement '..UptoSaid' is the law's where the arguments, and the package variables that the reading takes, are together of bulk at most 1048576: NARROWER than '..Said'. Prove '..Said' where nothing that the law and all that it calls make is longer than what came in: it says more and counts as full. Else prove '..UptoSaid'. A law counts once. -/
mutual
def uptoBulk {H : Type} : DataW H → Nat
  | .lit (.string bytes) => bytes.length + 1
  | .lit _ => 1
  | .nil => 1
  | .ptr d => uptoBulk d + 1
  | .slice elems spare => uptoBulkAll elems + uptoBulkAll spare + 1
  | .agg parts => uptoBulkAll parts + 1
  | .iface _ d => uptoBulk d + 1
  | .map entries => uptoBulkEntries entries + 1
  | .held _ => 1
def uptoBulkAll {H : Type} : List (DataW H) → Nat
  | [] => 0
  | d :: r => uptoBulk d + uptoBulkAll r
def uptoBulkEntries {H : Type} : List (Lit × DataW H) → Nat
  | [] => 0
  | x :: r => uptoBulkEntry x + uptoBulkEntries r
def uptoBulkEntry {H : Type} : Lit × DataW H → Nat
  | (.string bytes, d) => bytes.length + uptoBulk d + 1
  | (_, d) => uptoBulk d + 1
 end
def uptoSmall : (H : Type) → List (DataW H) → Bool := fun _ ds => decide (uptoBulkAll ds ≤ 1048576)
def OpenSpec.upto (s : _root_.Go.ChangeSpec) : _root_.Go.OpenSpec := { _root_.Go.OpenSpec.ofChange s with cond := some uptoSmall }

/-- 'ringerlaw31.BackoffTotals', WHERE WHAT IT READS IS OF BULK AT MOST 1048576: true; the input reads as it did. -/
def backoffTotalsUptoRow : OpenClaim := { program := "ytejaiaoiceknlaa", sum := "f722b63de658f95fb7599ba6d5b1e014ec46fe84efec7ea3b2ca2c6a9a114e8f", func := "ringer/ringerlaw31.BackoffTotals", spec := "backoffTotals", unfollowed := true, recurses := true, apart := false, narrowed := true }
def BackoffTotalsUptoSaid : Prop := backoffTotalsUptoRow.holds Try.pinned (OpenSpec.upto backoffTotalsSpec)

/-- 'ringerlaw31.BackoffAlone', WHERE WHAT IT READS IS OF BULK AT MOST 1048576: true; the input reads as it did. -/
def backoffAloneUptoRow : OpenClaim := { program := "ytejaiaoiceknlaa", sum := "f722b63de658f95fb7599ba6d5b1e014ec46fe84efec7ea3b2ca2c6a9a114e8f", func := "ringer/ringerlaw31.BackoffAlone", spec := "backoffAlone", unfollowed := true, recurses := true, apart := false, narrowed := true }
def BackoffAloneUptoSaid : Prop := backoffAloneUptoRow.holds Try.pinned (OpenSpec.upto backoffAloneSpec)

/-- 'ringerlaw31.BackoffWaits', WHERE WHAT IT READS IS OF BULK AT MOST 1048576: true; the input reads as it did. -/
def backoffWaitsUptoRow : OpenClaim := { program := "ytejaiaoiceknlaa", sum := "f722b63de658f95fb7599ba6d5b1e014ec46fe84efec7ea3b2ca2c6a9a114e8f", func := "ringer/ringerlaw31.BackoffWaits", spec := "backoffWaits", unfollowed := true, recurses := true, apart := false, narrowed := true }
def BackoffWaitsUptoSaid : Prop := backoffWaitsUptoRow.holds Try.pinned (OpenSpec.upto backoffWaitsSpec)

/-- 'ringerlaw31.BackoffBounds', WHERE WHAT IT READS IS OF BULK AT MOST 1048576: true; the input reads as it did. -/
def backoffBoundsUptoRow : OpenClaim := { program := "ytejaiaoiceknlaa", sum := "f722b63de658f95fb7599ba6d5b1e014ec46fe84efec7ea3b2ca2c6a9a114e8f", func := "ringer/ringerlaw31.BackoffBounds", spec := "backoffBounds", unfollowed := true, recurses := true, apart := false, narrowed := true }
def BackoffBoundsUptoSaid : Prop := backoffBoundsUptoRow.holds Try.pinned (OpenSpec.upto backoffBoundsSpec)

/-- 'ringerlaw31.BackoffFits', WHERE WHAT IT READS IS OF BULK AT MOST 1048576: true; the input reads as it did. -/
def backoffFitsUptoRow : OpenClaim := { program := "ytejaiaoiceknlaa", sum := "f722b63de658f95fb7599ba6d5b1e014ec46fe84efec7ea3b2ca2c6a9a114e8f", func := "ringer/ringerlaw31.BackoffFits", spec := "backoffFits", unfollowed := true, recurses := true, apart := false, narrowed := true }
def BackoffFitsUptoSaid : Prop := backoffFitsUptoRow.holds Try.pinned (OpenSpec.upto backoffFitsSpec)

end Rows
end Go.Proofs.Ytejaiaoiceknlaa
