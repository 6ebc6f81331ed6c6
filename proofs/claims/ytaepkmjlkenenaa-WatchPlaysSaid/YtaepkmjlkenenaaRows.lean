/-
  No cell of these rows narrows 'for every input' (looked for: loops, veiled, ifaces, maps, wideKeys, modest, calm, conditions, laid).
  DERIVED. THE GIVEN ROWS OF THIS SEAT. 6 by the template 'for every input the law returns true; each argument reads behind the call as it read before'; 0 by the template 'total and deterministic' (their statements: YtaepkmjlkenenaaTotals.lean).
  GIVEN WITH THE SEED: the statements are not yours to turn. If you find one false, say at which input.
  Laid BY PROGRAM, IN A SANDBOX (cutbox-rows.mjs): the forced cells as the released guide's own fill.sh prints them over the translation eabae5c66d80c014… (all of the seat's roots in one cut). By AI agents, Wed Nov 11 2026. No macro, syntax, notation, axiom, sorry.
-/
import Derived.Test.YtaepkmjlkenenaaChecked
import GoSem.Claim
import GoSem.ClaimJoined
import GoSem.ClaimMapViews
import Derived.JoinedTies
import Derived.KernelRfl
namespace Go.Proofs.Ytaepkmjlkenenaa
/- THE CELL 'sum', in the pinned program and in every row, IS THE sha256 OF THE DUMP (.gsa) THAT YtaepkmjlkenenaaProg.lean LOADS. Nothing in Lean hashes anything: it is a label: what it is worth is what the hold of that sum in a sandbox is worth. -/
noncomputable def Try.pinned : Pinned := { name := "ytaepkmjlkenenaa", sum := "eabae5c66d80c014ac4da29925aff18b4afd3116d9e5e781a8d280fbfafccf5b", checked := Try.checked }
namespace Rows
def none {H : Type} : Left H := { results := [], args := [] }

/-- 'ringerlaw16.LateOnce': WHATEVER THE INPUT: true; the input reads as it did. -/
def lateOnceSpec : ChangeSpec := { name := "lateOnce", fn := fun _ => fun
  | [d] => { results := [.lit (.bool true)], args := [d] }
  | _ => none }
def lateOnceRow : OpenClaim := { program := "ytaepkmjlkenenaa", sum := "eabae5c66d80c014ac4da29925aff18b4afd3116d9e5e781a8d280fbfafccf5b", func := "ringer/ringerlaw16.LateOnce", spec := "lateOnce", unfollowed := true, recurses := true, apart := false }
def LateOnceSaid : Prop := lateOnceRow.holds Try.pinned (OpenSpec.ofChange lateOnceSpec)

/-- ITS FALSE NEIGHBOUR: 'it returns false'. Refute it at one input. -/
def lateOnceWrong : ChangeSpec := { name := "lateOnce", fn := fun _ => fun
  | [d] => { results := [.lit (.bool false)], args := [d] }
  | _ => none }
def LateOnceWrongFalsely : Prop := lateOnceRow.holds Try.pinned (OpenSpec.ofChange lateOnceWrong)

/-- 'ringerlaw16.LateShift': WHATEVER THE INPUT: true; the input reads as it did. -/
def lateShiftSpec : ChangeSpec := { name := "lateShift", fn := fun _ => fun
  | [d1, d2, d3, d4] => { results := [.lit (.bool true)], args := [d1, d2, d3, d4] }
  | _ => none }
def lateShiftRow : OpenClaim := { program := "ytaepkmjlkenenaa", sum := "eabae5c66d80c014ac4da29925aff18b4afd3116d9e5e781a8d280fbfafccf5b", func := "ringer/ringerlaw16.LateShift", spec := "lateShift", unfollowed := true, recurses := true, apart := false }
def LateShiftSaid : Prop := lateShiftRow.holds Try.pinned (OpenSpec.ofChange lateShiftSpec)

/-- ITS FALSE NEIGHBOUR: 'it returns false'. Refute it at one input. -/
def lateShiftWrong : ChangeSpec := { name := "lateShift", fn := fun _ => fun
  | [d1, d2, d3, d4] => { results := [.lit (.bool false)], args := [d1, d2, d3, d4] }
  | _ => none }
def LateShiftWrongFalsely : Prop := lateShiftRow.holds Try.pinned (OpenSpec.ofChange lateShiftWrong)

/-- 'ringerlaw39.WatchAmiss': WHATEVER THE INPUT: true; the input reads as it did. -/
def watchAmissSpec : ChangeSpec := { name := "watchAmiss", fn := fun _ => fun
  | [d1, d2, d3] => { results := [.lit (.bool true)], args := [d1, d2, d3] }
  | _ => none }
def watchAmissRow : OpenClaim := { program := "ytaepkmjlkenenaa", sum := "eabae5c66d80c014ac4da29925aff18b4afd3116d9e5e781a8d280fbfafccf5b", func := "ringer/ringerlaw39.WatchAmiss", spec := "watchAmiss", unfollowed := true, recurses := true, apart := false }
def WatchAmissSaid : Prop := watchAmissRow.holds Try.pinned (OpenSpec.ofChange watchAmissSpec)

/-- ITS FALSE NEIGHBOUR: 'it returns false'. Refute it at one input. -/
def watchAmissWrong : ChangeSpec := { name := "watchAmiss", fn := fun _ => fun
  | [d1, d2, d3] => { results := [.lit (.bool false)], args := [d1, d2, d3] }
  | _ => none }
def WatchAmissWrongFalsely : Prop := watchAmissRow.holds Try.pinned (OpenSpec.ofChange watchAmissWrong)

/-- 'ringerlaw39.WatchTurns': WHATEVER THE INPUT: true; the input reads as it did. -/
def watchTurnsSpec : ChangeSpec := { name := "watchTurns", fn := fun _ => fun
  | [d1, d2] => { results := [.lit (.bool true)], args := [d1, d2] }
  | _ => none }
def watchTurnsRow : OpenClaim := { program := "ytaepkmjlkenenaa", sum := "eabae5c66d80c014ac4da29925aff18b4afd3116d9e5e781a8d280fbfafccf5b", func := "ringer/ringerlaw39.WatchTurns", spec := "watchTurns", unfollowed := true, recurses := true, apart := false }
def WatchTurnsSaid : Prop := watchTurnsRow.holds Try.pinned (OpenSpec.ofChange watchTurnsSpec)

/-- ITS FALSE NEIGHBOUR: 'it returns false'. Refute it at one input. -/
def watchTurnsWrong : ChangeSpec := { name := "watchTurns", fn := fun _ => fun
  | [d1, d2] => { results := [.lit (.bool false)], args := [d1, d2] }
  | _ => none }
def WatchTurnsWrongFalsely : Prop := watchTurnsRow.holds Try.pinned (OpenSpec.ofChange watchTurnsWrong)

/-- 'ringerlaw39.WatchMore': WHATEVER THE INPUT: true; the input reads as it did. -/
def watchMoreSpec : ChangeSpec := { name := "watchMore", fn := fun _ => fun
  | [d1, d2, d3, d4, d5] => { results := [.lit (.bool true)], args := [d1, d2, d3, d4, d5] }
  | _ => none }
def watchMoreRow : OpenClaim := { program := "ytaepkmjlkenenaa", sum := "eabae5c66d80c014ac4da29925aff18b4afd3116d9e5e781a8d280fbfafccf5b", func := "ringer/ringerlaw39.WatchMore", spec := "watchMore", unfollowed := true, recurses := true, apart := false }
def WatchMoreSaid : Prop := watchMoreRow.holds Try.pinned (OpenSpec.ofChange watchMoreSpec)

/-- ITS FALSE NEIGHBOUR: 'it returns false'. Refute it at one input. -/
def watchMoreWrong : ChangeSpec := { name := "watchMore", fn := fun _ => fun
  | [d1, d2, d3, d4, d5] => { results := [.lit (.bool false)], args := [d1, d2, d3, d4, d5] }
  | _ => none }
def WatchMoreWrongFalsely : Prop := watchMoreRow.holds Try.pinned (OpenSpec.ofChange watchMoreWrong)

/-- 'ringerlaw39.WatchPlays': WHATEVER THE INPUT: true; the input reads as it did. -/
def watchPlaysSpec : ChangeSpec := { name := "watchPlays", fn := fun _ => fun
  | [d1, d2, d3] => { results := [.lit (.bool true)], args := [d1, d2, d3] }
  | _ => none }
def watchPlaysRow : OpenClaim := { program := "ytaepkmjlkenenaa", sum := "eabae5c66d80c014ac4da29925aff18b4afd3116d9e5e781a8d280fbfafccf5b", func := "ringer/ringerlaw39.WatchPlays", spec := "watchPlays", unfollowed := true, recurses := true, apart := false }
def WatchPlaysSaid : Prop := watchPlaysRow.holds Try.pinned (OpenSpec.ofChange watchPlaysSpec)

/-- ITS FALSE NEIGHBOUR: 'it returns false'. Refute it at one input. -/
def watchPlaysWrong : ChangeSpec := { name := "watchPlays", fn := fun _ => fun
  | [d1, d2, d3] => { results := [.lit (.bool false)], args := [d1, d2, d3] }
  | _ => none }
def WatchPlaysWrongFalsely : Prop := watchPlaysRow.holds Try.pinned (OpenSpec.ofChange watchPlaysWrong)

/- THE SECOND FORM. 'bulk': how many values and letters a reading holds, each counted each time it is reached (what is shared counts as often as it is met; a slice's spare places count too). A statement '..UptoSaid' is the law's where the arguments, and the package variables that the reading takes, are together of bulk at most 1048576: NARROWER than '..Said'. Prove '..Said' where nothing that the law and all that it calls make is longer than what came in: it says more and counts as full. Else prove '..UptoSaid'. A law counts once. -/
mutual
def uptoBulk {H : Type} : DataW H → Nat
  | .lit (.string bytes) => bytes.length + 1
  | .lit _ => 1
  | .nil => 1
  | .ptr d => uptoBulk d + 1
  | .slice elems spare => uptoBulkAll elems + uptoBulkAll spare + 1
  | .agg parts => uptoBulkAll parts + 1
  | .iface _ d => uptoBulk d + 1
  | .map entries => uptoBulkEntries entries + 1
  | .held _ => 1
def uptoBulkAll {H : Type} : List (DataW H) → Nat
  | [] => 0
  | d :: r => uptoBulk d + uptoBulkAll r
def uptoBulkEntries {H : Type} : List (Lit × DataW H) → Nat
  | [] => 0
  | x :: r => uptoBulkEntry x + uptoBulkEntries r
def uptoBulkEntry {H : Type} : Lit × DataW H → Nat
  | (.string bytes, d) => bytes.length + uptoBulk d + 1
  | (_, d) => uptoBulk d + 1
 end
def uptoSmall : (H : Type) → List (DataW H) → Bool := fun _ ds => decide (uptoBulkAll ds ≤ 1048576)
def OpenSpec.upto (s : _root_.Go.ChangeSpec) : _root_.Go.OpenSpec := { _root_.Go.OpenSpec.ofChange s with cond := some uptoSmall }

/-- 'ringerlaw16.LateOnce', WHERE WHAT IT READS IS OF BULK AT MOST 1048576: true; the input reads as it did. -/
def lateOnceUptoRow : OpenClaim := { program := "ytaepkmjlkenenaa", sum := "eabae5c66d80c014ac4da29925aff18b4afd3116d9e5e781a8d280fbfafccf5b", func := "ringer/ringerlaw16.LateOnce", spec := "lateOnce", unfollowed := true, recurses := true, apart := false, narrowed := true }
def LateOnceUptoSaid : Prop := lateOnceUptoRow.holds Try.pinned (OpenSpec.upto lateOnceSpec)

/-- 'ringerlaw16.LateShift', WHERE WHAT IT READS IS OF BULK AT MOST 1048576: true; the input reads as it did. -/
def lateShiftUptoRow : OpenClaim := { program := "ytaepkmjlkenenaa", sum := "eabae5c66d80c014ac4da29925aff18b4afd3116d9e5e781a8d280fbfafccf5b", func := "ringer/ringerlaw16.LateShift", spec := "lateShift", unfollowed := true, recurses := true, apart := false, narrowed := true }
def LateShiftUptoSaid : Prop := lateShiftUptoRow.holds Try.pinned (OpenSpec.upto lateShiftSpec)

/-- 'ringerlaw39.WatchAmiss', WHERE WHAT IT READS IS OF BULK AT MOST 1048576: true; the input reads as it did. -/
def watchAmissUptoRow : OpenClaim := { program := "ytaepkmjlkenenaa", sum := "eabae5c66d80c014ac4da29925aff18b4afd3116d9e5e781a8d280fbfafccf5b", func := "ringer/ringerlaw39.WatchAmiss", spec := "watchAmiss", unfollowed := true, recurses := true, apart := false, narrowed := true }
def WatchAmissUptoSaid : Prop := watchAmissUptoRow.holds Try.pinned (OpenSpec.upto watchAmissSpec)

/-- 'ringerlaw39.WatchTurns', WHERE WHAT IT READS IS OF BULK AT MOST 1048576: true; the input reads as it did. -/
def watchTurnsUptoRow : OpenClaim := { program := "ytaepkmjlkenenaa", sum := "eabae5c66d80c014ac4da29925aff18b4afd3116d9e5e781a8d280fbfafccf5b", func := "ringer/ringerlaw39.WatchTurns", spec := "watchTurns", unfollowed := true, recurses := true, apart := false, narrowed := true }
def WatchTurnsUptoSaid : Prop := watchTurnsUptoRow.holds Try.pinned (OpenSpec.upto watchTurnsSpec)

/-- 'ringerlaw39.WatchMore', WHERE WHAT IT READS IS OF BULK AT MOST 1048576: true; the input reads as it did. -/
def watchMoreUptoRow : OpenClaim := { program := "ytaepkmjlkenenaa", sum := "eabae5c66d80c014ac4da29925aff18b4afd3116d9e5e781a8d280fbfafccf5b", func := "ringer/ringerlaw39.WatchMore", spec := "watchMore", unfollowed := true, recurses := true, apart := false, narrowed := true }
def WatchMoreUptoSaid : Prop := watchMoreUptoRow.holds Try.pinned (OpenSpec.upto watchMoreSpec)

/-- 'ringerlaw39.WatchPlays', WHERE WHAT IT READS IS OF BULK AT MOST 1048576: true; the input reads as it did. -/
def watchPlaysUptoRow : OpenClaim := { program := "ytaepkmjlkenenaa", sum := "eabae5c66d80c014ac4da29925aff18b4afd3116d9e5e781a8d280fbfafccf5b", func := "ringer/ringerlaw39.WatchPlays", spec := "watchPlays", unfollowed := true, recurses := true, apart := false, narrowed := true }
def WatchPlaysUptoSaid : Prop := watchPlaysUptoRow.holds Try.pinned (OpenSpec.upto watchPlaysSpec)

end Rows
end Go.Proofs.Ytaepkmjlkenenaa
