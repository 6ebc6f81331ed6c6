/-
  No cell of these rows narrows 'for every input' (looked for: loops, veiled, ifaces, maps, wideKeys, modest, calm, conditions, laid).
  DERIVED. THE GIVEN ROWS OF THIS SEAT. 9 by the template 'for every input the law returns true; each argument reads behind the call as it read before'; 0 by the template 'total and deterministic' (their statements: YtlcnjinabfbglaaTotals.lean).
  GIVEN WITH THE SEED: the statements are not yours to turn. If you find one false, say at which input.
  Laid BY PROGRAM, IN A SANDBOX (cutbox-rows.mjs): the forced cells as the released guide's own fill.sh prints them over the translation 035f67961bc5ec9f… (all of the seat's roots in one cut). By AI agents, Wed Nov 11 2026. No macro, syntax, notation, axiom, sorry.
-/
import Derived.Test.YtlcnjinabfbglaaChecked
import GoSem.Claim
import GoSem.ClaimJoined
import GoSem.ClaimMapViews
import Derived.JoinedTies
import Derived.KernelRfl
namespace Go.Proofs.Ytlcnjinabfbglaa
/- THE CELL 'sum', in the pinned program and in every row, IS THE sha256 OF THE DUMP (.gsa) THAT YtlcnjinabfbglaaProg.lean LOADS. Nothing in Lean hashes anything: it is a label: what it is worth is what the hold of that sum in a sandbox is worth. -/
noncomputable def Try.pinned : Pinned := { name := "ytlcnjinabfbglaa", sum := "035f67961bc5ec9fcf137a75353307c8a14fbb70ba4d3bda62ee40c0cbbce1df", checked := Try.checked }
namespace Rows
def none {H : Type} : Left H := { results := [], args := [] }

/-- 'ringerlaw02.CheckOf': WHATEVER THE INPUT: true; the input reads as it did. -/
def checkOfSpec : ChangeSpec := { name := "checkOf", fn := fun _ => fun
  | [d1, d2] => { results := [.lit (.bool true)], args := [d1, d2] }
  | _ => none }
def checkOfRow : OpenClaim := { program := "ytlcnjinabfbglaa", sum := "035f67961bc5ec9fcf137a75353307c8a14fbb70ba4d3bda62ee40c0cbbce1df", func := "ringer/ringerlaw02.CheckOf", spec := "checkOf", unfollowed := true, recurses := true, apart := false }
def CheckOfSaid : Prop := checkOfRow.holds Try.pinned (OpenSpec.ofChange checkOfSpec)

/-- ITS FALSE NEIGHBOUR: 'it returns false'. Refute it at one input. -/
def checkOfWrong : ChangeSpec := { name := "checkOf", fn := fun _ => fun
  | [d1, d2] => { results := [.lit (.bool false)], args := [d1, d2] }
  | _ => none }
def CheckOfWrongFalsely : Prop := checkOfRow.holds Try.pinned (OpenSpec.ofChange checkOfWrong)

/-- 'ringerlaw02.CheckTells': WHATEVER THE INPUT: true; the input reads as it did. -/
def checkTellsSpec : ChangeSpec := { name := "checkTells", fn := fun _ => fun
  | [d1, d2, d3, d4] => { results := [.lit (.bool true)], args := [d1, d2, d3, d4] }
  | _ => none }
def checkTellsRow : OpenClaim := { program := "ytlcnjinabfbglaa", sum := "035f67961bc5ec9fcf137a75353307c8a14fbb70ba4d3bda62ee40c0cbbce1df", func := "ringer/ringerlaw02.CheckTells", spec := "checkTells", unfollowed := true, recurses := true, apart := false }
def CheckTellsSaid : Prop := checkTellsRow.holds Try.pinned (OpenSpec.ofChange checkTellsSpec)

/-- ITS FALSE NEIGHBOUR: 'it returns false'. Refute it at one input. -/
def checkTellsWrong : ChangeSpec := { name := "checkTells", fn := fun _ => fun
  | [d1, d2, d3, d4] => { results := [.lit (.bool false)], args := [d1, d2, d3, d4] }
  | _ => none }
def CheckTellsWrongFalsely : Prop := checkTellsRow.holds Try.pinned (OpenSpec.ofChange checkTellsWrong)

/-- 'ringerlaw01.PackPuts': WHATEVER THE INPUT: true; the input reads as it did. -/
def packPutsSpec : ChangeSpec := { name := "packPuts", fn := fun _ => fun
  | [d1, d2, d3] => { results := [.lit (.bool true)], args := [d1, d2, d3] }
  | _ => none }
def packPutsRow : OpenClaim := { program := "ytlcnjinabfbglaa", sum := "035f67961bc5ec9fcf137a75353307c8a14fbb70ba4d3bda62ee40c0cbbce1df", func := "ringer/ringerlaw01.PackPuts", spec := "packPuts", recurses := true, apart := false }
def PackPutsSaid : Prop := packPutsRow.holds Try.pinned (OpenSpec.ofChange packPutsSpec)

/-- ITS FALSE NEIGHBOUR: 'it returns false'. Refute it at one input. -/
def packPutsWrong : ChangeSpec := { name := "packPuts", fn := fun _ => fun
  | [d1, d2, d3] => { results := [.lit (.bool false)], args := [d1, d2, d3] }
  | _ => none }
def PackPutsWrongFalsely : Prop := packPutsRow.holds Try.pinned (OpenSpec.ofChange packPutsWrong)

/-- 'ringerlaw01.PackBack': WHATEVER THE INPUT: true; the input reads as it did. -/
def packBackSpec : ChangeSpec := { name := "packBack", fn := fun _ => fun
  | [d1, d2, d3, d4, d5, d6] => { results := [.lit (.bool true)], args := [d1, d2, d3, d4, d5, d6] }
  | _ => none }
def packBackRow : OpenClaim := { program := "ytlcnjinabfbglaa", sum := "035f67961bc5ec9fcf137a75353307c8a14fbb70ba4d3bda62ee40c0cbbce1df", func := "ringer/ringerlaw01.PackBack", spec := "packBack", unfollowed := true, recurses := true, apart := false }
def PackBackSaid : Prop := packBackRow.holds Try.pinned (OpenSpec.ofChange packBackSpec)

/-- ITS FALSE NEIGHBOUR: 'it returns false'. Refute it at one input. -/
def packBackWrong : ChangeSpec := { name := "packBack", fn := fun _ => fun
  | [d1, d2, d3, d4, d5, d6] => { results := [.lit (.bool false)], args := [d1, d2, d3, d4, d5, d6] }
  | _ => none }
def PackBackWrongFalsely : Prop := packBackRow.holds Try.pinned (OpenSpec.ofChange packBackWrong)

/-- 'ringerlaw03.FramePuts': WHATEVER THE INPUT: true; the input reads as it did. -/
def framePutsSpec : ChangeSpec := { name := "framePuts", fn := fun _ => fun
  | [d] => { results := [.lit (.bool true)], args := [d] }
  | _ => none }
def framePutsRow : OpenClaim := { program := "ytlcnjinabfbglaa", sum := "035f67961bc5ec9fcf137a75353307c8a14fbb70ba4d3bda62ee40c0cbbce1df", func := "ringer/ringerlaw03.FramePuts", spec := "framePuts", unfollowed := true, recurses := true, apart := false }
def FramePutsSaid : Prop := framePutsRow.holds Try.pinned (OpenSpec.ofChange framePutsSpec)

/-- ITS FALSE NEIGHBOUR: 'it returns false'. Refute it at one input. -/
def framePutsWrong : ChangeSpec := { name := "framePuts", fn := fun _ => fun
  | [d] => { results := [.lit (.bool false)], args := [d] }
  | _ => none }
def FramePutsWrongFalsely : Prop := framePutsRow.holds Try.pinned (OpenSpec.ofChange framePutsWrong)

/-- 'ringerlaw03.FrameScans': WHATEVER THE INPUT: true; the input reads as it did. -/
def frameScansSpec : ChangeSpec := { name := "frameScans", fn := fun _ => fun
  | [d1, d2] => { results := [.lit (.bool true)], args := [d1, d2] }
  | _ => none }
def frameScansRow : OpenClaim := { program := "ytlcnjinabfbglaa", sum := "035f67961bc5ec9fcf137a75353307c8a14fbb70ba4d3bda62ee40c0cbbce1df", func := "ringer/ringerlaw03.FrameScans", spec := "frameScans", unfollowed := true, recurses := true, apart := false }
def FrameScansSaid : Prop := frameScansRow.holds Try.pinned (OpenSpec.ofChange frameScansSpec)

/-- ITS FALSE NEIGHBOUR: 'it returns false'. Refute it at one input. -/
def frameScansWrong : ChangeSpec := { name := "frameScans", fn := fun _ => fun
  | [d1, d2] => { results := [.lit (.bool false)], args := [d1, d2] }
  | _ => none }
def FrameScansWrongFalsely : Prop := frameScansRow.holds Try.pinned (OpenSpec.ofChange frameScansWrong)

/-- 'ringerlaw03.FrameTorn': WHATEVER THE INPUT: true; the input reads as it did. -/
def frameTornSpec : ChangeSpec := { name := "frameTorn", fn := fun _ => fun
  | [d1, d2, d3, d4, d5, d6] => { results := [.lit (.bool true)], args := [d1, d2, d3, d4, d5, d6] }
  | _ => none }
def frameTornRow : OpenClaim := { program := "ytlcnjinabfbglaa", sum := "035f67961bc5ec9fcf137a75353307c8a14fbb70ba4d3bda62ee40c0cbbce1df", func := "ringer/ringerlaw03.FrameTorn", spec := "frameTorn", unfollowed := true, recurses := true, apart := false }
def FrameTornSaid : Prop := frameTornRow.holds Try.pinned (OpenSpec.ofChange frameTornSpec)

/-- ITS FALSE NEIGHBOUR: 'it returns false'. Refute it at one input. -/
def frameTornWrong : ChangeSpec := { name := "frameTorn", fn := fun _ => fun
  | [d1, d2, d3, d4, d5, d6] => { results := [.lit (.bool false)], args := [d1, d2, d3, d4, d5, d6] }
  | _ => none }
def FrameTornWrongFalsely : Prop := frameTornRow.holds Try.pinned (OpenSpec.ofChange frameTornWrong)

/-- 'ringerlaw24.RpcPuts': WHATEVER THE INPUT: true; the input reads as it did. -/
def rpcPutsSpec : ChangeSpec := { name := "rpcPuts", fn := fun _ => fun
  | [d1, d2, d3] => { results := [.lit (.bool true)], args := [d1, d2, d3] }
  | _ => none }
def rpcPutsRow : OpenClaim := { program := "ytlcnjinabfbglaa", sum := "035f67961bc5ec9fcf137a75353307c8a14fbb70ba4d3bda62ee40c0cbbce1df", func := "ringer/ringerlaw24.RpcPuts", spec := "rpcPuts", unfollowed := true, recurses := true, apart := false }
def RpcPutsSaid : Prop := rpcPutsRow.holds Try.pinned (OpenSpec.ofChange rpcPutsSpec)

/-- ITS FALSE NEIGHBOUR: 'it returns false'. Refute it at one input. -/
def rpcPutsWrong : ChangeSpec := { name := "rpcPuts", fn := fun _ => fun
  | [d1, d2, d3] => { results := [.lit (.bool false)], args := [d1, d2, d3] }
  | _ => none }
def RpcPutsWrongFalsely : Prop := rpcPutsRow.holds Try.pinned (OpenSpec.ofChange rpcPutsWrong)

/-- 'ringerlaw24.RpcBack': WHATEVER THE INPUT: true; the input reads as it did. -/
def rpcBackSpec : ChangeSpec := { name := "rpcBack", fn := fun _ => fun
  | [d1, d2, d3, d4] => { results := [.lit (.bool true)], args := [d1, d2, d3, d4] }
  | _ => none }
def rpcBackRow : OpenClaim := { program := "ytlcnjinabfbglaa", sum := "035f67961bc5ec9fcf137a75353307c8a14fbb70ba4d3bda62ee40c0cbbce1df", func := "ringer/ringerlaw24.RpcBack", spec := "rpcBack", unfollowed := true, recurses := true, apart := false }
def RpcBackSaid : Prop := rpcBackRow.holds Try.pinned (OpenSpec.ofChange rpcBackSpec)

/-- ITS FALSE NEIGHBOUR: 'it returns false'. Refute it at one input. -/
def rpcBackWrong : ChangeSpec := { name := "rpcBack", fn := fun _ => fun
  | [d1, d2, d3, d4] => { results := [.lit (.bool false)], args := [d1, d2, d3, d4] }
  | _ => none }
def RpcBackWrongFalsely : Prop := rpcBackRow.holds Try.pinned (OpenSpec.ofChange rpcBackWrong)

/- THE SECOND FORM. 'bulk': how many values and letters a reading holds, each counted each time it is reached (what is shared counts as often as it is met; a slice's spare places count too). A statement '..UptoSaid' is the law's where the arguments, and the package variables that the reading takes, are together of bulk at most 1048576: NARROWER than '..Said'. Prove '..Said' where nothing that the law and all that it calls make is longer than what came in: it says more and counts as full. Else prove '..UptoSaid'. A law counts once. -/
mutual
def uptoBulk {H : Type} : DataW H → Nat
  | .lit (.string bytes) => bytes.length + 1
  | .lit _ => 1
  | .nil => 1
  | .ptr d => uptoBulk d + 1
  | .slice elems spare => uptoBulkAll elems + uptoBulkAll spare + 1
  | .agg parts => uptoBulkAll parts + 1
  | .iface _ d => uptoBulk d + 1
  | .map entries => uptoBulkEntries entries + 1
  | .held _ => 1
def uptoBulkAll {H : Type} : List (DataW H) → Nat
  | [] => 0
  | d :: r => uptoBulk d + uptoBulkAll r
def uptoBulkEntries {H : Type} : List (Lit × DataW H) → Nat
  | [] => 0
  | x :: r => uptoBulkEntry x + uptoBulkEntries r
def uptoBulkEntry {H : Type} : Lit × DataW H → Nat
  | (.string bytes, d) => bytes.length + uptoBulk d + 1
  | (_, d) => uptoBulk d + 1
 end
def uptoSmall : (H : Type) → List (DataW H) → Bool := fun _ ds => decide (uptoBulkAll ds ≤ 1048576)
def OpenSpec.upto (s : _root_.Go.ChangeSpec) : _root_.Go.OpenSpec := { _root_.Go.OpenSpec.ofChange s with cond := some uptoSmall }

/-- 'ringerlaw02.CheckOf', WHERE WHAT IT READS IS OF BULK AT MOST 1048576: true; the input reads as it did. -/
def checkOfUptoRow : OpenClaim := { program := "ytlcnjinabfbglaa", sum := "035f67961bc5ec9fcf137a75353307c8a14fbb70ba4d3bda62ee40c0cbbce1df", func := "ringer/ringerlaw02.CheckOf", spec := "checkOf", unfollowed := true, recurses := true, apart := false, narrowed := true }
def CheckOfUptoSaid : Prop := checkOfUptoRow.holds Try.pinned (OpenSpec.upto checkOfSpec)

/-- 'ringerlaw02.CheckTells', WHERE WHAT IT READS IS OF BULK AT MOST 1048576: true; the input reads as it did. -/
def checkTellsUptoRow : OpenClaim := { program := "ytlcnjinabfbglaa", sum := "035f67961bc5ec9fcf137a75353307c8a14fbb70ba4d3bda62ee40c0cbbce1df", func := "ringer/ringerlaw02.CheckTells", spec := "checkTells", unfollowed := true, recurses := true, apart := false, narrowed := true }
def CheckTellsUptoSaid : Prop := checkTellsUptoRow.holds Try.pinned (OpenSpec.upto checkTellsSpec)

/-- 'ringerlaw01.PackPuts', WHERE WHAT IT READS IS OF BULK AT MOST 1048576: true; the input reads as it did. -/
def packPutsUptoRow : OpenClaim := { program := "ytlcnjinabfbglaa", sum := "035f67961bc5ec9fcf137a75353307c8a14fbb70ba4d3bda62ee40c0cbbce1df", func := "ringer/ringerlaw01.PackPuts", spec := "packPuts", recurses := true, apart := false, narrowed := true }
def PackPutsUptoSaid : Prop := packPutsUptoRow.holds Try.pinned (OpenSpec.upto packPutsSpec)

/-- 'ringerlaw01.PackBack', WHERE WHAT IT READS IS OF BULK AT MOST 1048576: true; the input reads as it did. -/
def packBackUptoRow : OpenClaim := { program := "ytlcnjinabfbglaa", sum := "035f67961bc5ec9fcf137a75353307c8a14fbb70ba4d3bda62ee40c0cbbce1df", func := "ringer/ringerlaw01.PackBack", spec := "packBack", unfollowed := true, recurses := true, apart := false, narrowed := true }
def PackBackUptoSaid : Prop := packBackUptoRow.holds Try.pinned (OpenSpec.upto packBackSpec)

/-- 'ringerlaw03.FramePuts', WHERE WHAT IT READS IS OF BULK AT MOST 1048576: true; the input reads as it did. -/
def framePutsUptoRow : OpenClaim := { program := "ytlcnjinabfbglaa", sum := "035f67961bc5ec9fcf137a75353307c8a14fbb70ba4d3bda62ee40c0cbbce1df", func := "ringer/ringerlaw03.FramePuts", spec := "framePuts", unfollowed := true, recurses := true, apart := false, narrowed := true }
def FramePutsUptoSaid : Prop := framePutsUptoRow.holds Try.pinned (OpenSpec.upto framePutsSpec)

/-- 'ringerlaw03.FrameScans', WHERE WHAT IT READS IS OF BULK AT MOST 1048576: true; the input reads as it did. -/
def frameScansUptoRow : OpenClaim := { program := "ytlcnjinabfbglaa", sum := "035f67961bc5ec9fcf137a75353307c8a14fbb70ba4d3bda62ee40c0cbbce1df", func := "ringer/ringerlaw03.FrameScans", spec := "frameScans", unfollowed := true, recurses := true, apart := false, narrowed := true }
def FrameScansUptoSaid : Prop := frameScansUptoRow.holds Try.pinned (OpenSpec.upto frameScansSpec)

/-- 'ringerlaw03.FrameTorn', WHERE WHAT IT READS IS OF BULK AT MOST 1048576: true; the input reads as it did. -/
def frameTornUptoRow : OpenClaim := { program := "ytlcnjinabfbglaa", sum := "035f67961bc5ec9fcf137a75353307c8a14fbb70ba4d3bda62ee40c0cbbce1df", func := "ringer/ringerlaw03.FrameTorn", spec := "frameTorn", unfollowed := true, recurses := true, apart := false, narrowed := true }
def FrameTornUptoSaid : Prop := frameTornUptoRow.holds Try.pinned (OpenSpec.upto frameTornSpec)

/-- 'ringerlaw24.RpcPuts', WHERE WHAT IT READS IS OF BULK AT MOST 1048576: true; the input reads as it did. -/
def rpcPutsUptoRow : OpenClaim := { program := "ytlcnjinabfbglaa", sum := "035f67961bc5ec9fcf137a75353307c8a14fbb70ba4d3bda62ee40c0cbbce1df", func := "ringer/ringerlaw24.RpcPuts", spec := "rpcPuts", unfollowed := true, recurses := true, apart := false, narrowed := true }
def RpcPutsUptoSaid : Prop := rpcPutsUptoRow.holds Try.pinned (OpenSpec.upto rpcPutsSpec)

/-- 'ringerlaw24.RpcBack', WHERE WHAT IT READS IS OF BULK AT MOST 1048576: true; the input reads as it did. -/
def rpcBackUptoRow : OpenClaim := { program := "ytlcnjinabfbglaa", sum := "035f67961bc5ec9fcf137a75353307c8a14fbb70ba4d3bda62ee40c0cbbce1df", func := "ringer/ringerlaw24.RpcBack", spec := "rpcBack", unfollowed := true, recurses := true, apart := false, narrowed := true }
def RpcBackUptoSaid : Prop := rpcBackUptoRow.holds Try.pinned (OpenSpec.upto rpcBackSpec)

end Rows
end Go.Proofs.Ytlcnjinabfbglaa
