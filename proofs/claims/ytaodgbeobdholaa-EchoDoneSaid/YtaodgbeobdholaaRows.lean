/-
  No cell of these rows narrows 'for every input' (looked for: loops, veiled, ifaces, maps, wideKeys, modest, calm, conditions, laid).
  DERIVED. THE GIVEN ROWS OF THIS SEAT. 5 by the template 'for every input the law returns true; each argument reads behind the call as it read before'; 0 by the template 'total and deterministic' (their statements: YtaodgbeobdholaaTotals.lean).
  GIVEN WITH THE SEED: the statements are not yours to turn. If you find one false, say at which input.
  Laid BY PROGRAM, IN A SANDBOX (cutbox-rows.mjs): the forced cells as the released guide's own fill.sh prints them over the translation 80ec6918a5f33404… (all of the seat's roots in one cut). By AI agents, Wed Nov 11 2026. No macro, syntax, notation, axiom, sorry.
-/
import Derived.Test.YtaodgbeobdholaaChecked
import GoSem.Claim
import GoSem.ClaimJoined
import GoSem.ClaimMapViews
import Derived.JoinedTies
import Derived.KernelRfl
namespace Go.Proofs.Ytaodgbeobdholaa
/- THE CELL 'sum', in the pinned program and in every row, IS THE sha256 OF THE DUMP (.gsa) THAT YtaodgbeobdholaaProg.lean LOADS. Nothing in Lean hashes anything: it is a label: what it is worth is what the hold of that sum in a sandbox is worth. -/
noncomputable def Try.pinned : Pinned := { name := "ytaodgbeobdholaa", sum := "80ec6918a5f33404d1fc8ec8fa1f6df8317ad932b6c8d9dba0d44c107a237d81", checked := Try.checked }
namespace Rows
def none {H : Type} : Left H := { results := [], args := [] }

/-- 'beaconrykeep.TickOrder': WHATEVER THE INPUT: true; the input reads as it did. -/
def tickOrderSpec : ChangeSpec := { name := "tickOrder", fn := fun _ => fun
  | [d1, d2] => { results := [.lit (.bool true)], args := [d1, d2] }
  | _ => none }
def tickOrderRow : OpenClaim := { program := "ytaodgbeobdholaa", sum := "80ec6918a5f33404d1fc8ec8fa1f6df8317ad932b6c8d9dba0d44c107a237d81", func := "beaconry/beaconrykeep.TickOrder", spec := "tickOrder", unfollowed := true, recurses := true, apart := false }
def TickOrderSaid : Prop := tickOrderRow.holds Try.pinned (OpenSpec.ofChange tickOrderSpec)

/-- ITS FALSE NEIGHBOUR: 'it returns false'. Refute it at one input. -/
def tickOrderWrong : ChangeSpec := { name := "tickOrder", fn := fun _ => fun
  | [d1, d2] => { results := [.lit (.bool false)], args := [d1, d2] }
  | _ => none }
def TickOrderWrongFalsely : Prop := tickOrderRow.holds Try.pinned (OpenSpec.ofChange tickOrderWrong)

/-- 'beaconrykeep.EchoTree': WHATEVER THE INPUT: true; the input reads as it did. -/
def echoTreeSpec : ChangeSpec := { name := "echoTree", fn := fun _ => fun
  | [d1, d2, d3, d4] => { results := [.lit (.bool true)], args := [d1, d2, d3, d4] }
  | _ => none }
def echoTreeRow : OpenClaim := { program := "ytaodgbeobdholaa", sum := "80ec6918a5f33404d1fc8ec8fa1f6df8317ad932b6c8d9dba0d44c107a237d81", func := "beaconry/beaconrykeep.EchoTree", spec := "echoTree", recurses := true, apart := false }
def EchoTreeSaid : Prop := echoTreeRow.holds Try.pinned (OpenSpec.ofChange echoTreeSpec)

/-- ITS FALSE NEIGHBOUR: 'it returns false'. Refute it at one input. -/
def echoTreeWrong : ChangeSpec := { name := "echoTree", fn := fun _ => fun
  | [d1, d2, d3, d4] => { results := [.lit (.bool false)], args := [d1, d2, d3, d4] }
  | _ => none }
def EchoTreeWrongFalsely : Prop := echoTreeRow.holds Try.pinned (OpenSpec.ofChange echoTreeWrong)

/-- 'beaconrykeep.EchoDone': WHATEVER THE INPUT: true; the input reads as it did. -/
def echoDoneSpec : ChangeSpec := { name := "echoDone", fn := fun _ => fun
  | [d1, d2, d3, d4] => { results := [.lit (.bool true)], args := [d1, d2, d3, d4] }
  | _ => none }
def echoDoneRow : OpenClaim := { program := "ytaodgbeobdholaa", sum := "80ec6918a5f33404d1fc8ec8fa1f6df8317ad932b6c8d9dba0d44c107a237d81", func := "beaconry/beaconrykeep.EchoDone", spec := "echoDone", recurses := true, apart := false }
def EchoDoneSaid : Prop := echoDoneRow.holds Try.pinned (OpenSpec.ofChange echoDoneSpec)

/-- ITS FALSE NEIGHBOUR: 'it returns false'. Refute it at one input. -/
def echoDoneWrong : ChangeSpec := { name := "echoDone", fn := fun _ => fun
  | [d1, d2, d3, d4] => { results := [.lit (.bool false)], args := [d1, d2, d3, d4] }
  | _ => none }
def EchoDoneWrongFalsely : Prop := echoDoneRow.holds Try.pinned (OpenSpec.ofChange echoDoneWrong)

/-- 'beaconrykeep.EchoAll': WHATEVER THE INPUT: true; the input reads as it did. -/
def echoAllSpec : ChangeSpec := { name := "echoAll", fn := fun _ => fun
  | [d1, d2, d3, d4] => { results := [.lit (.bool true)], args := [d1, d2, d3, d4] }
  | _ => none }
def echoAllRow : OpenClaim := { program := "ytaodgbeobdholaa", sum := "80ec6918a5f33404d1fc8ec8fa1f6df8317ad932b6c8d9dba0d44c107a237d81", func := "beaconry/beaconrykeep.EchoAll", spec := "echoAll", recurses := true, apart := false }
def EchoAllSaid : Prop := echoAllRow.holds Try.pinned (OpenSpec.ofChange echoAllSpec)

/-- ITS FALSE NEIGHBOUR: 'it returns false'. Refute it at one input. -/
def echoAllWrong : ChangeSpec := { name := "echoAll", fn := fun _ => fun
  | [d1, d2, d3, d4] => { results := [.lit (.bool false)], args := [d1, d2, d3, d4] }
  | _ => none }
def EchoAllWrongFalsely : Prop := echoAllRow.holds Try.pinned (OpenSpec.ofChange echoAllWrong)

/-- 'beaconrykeep.CutWay': WHATEVER THE INPUT: true; the input reads as it did. -/
def cutWaySpec : ChangeSpec := { name := "cutWay", fn := fun _ => fun
  | [d1, d2, d3] => { results := [.lit (.bool true)], args := [d1, d2, d3] }
  | _ => none }
def cutWayRow : OpenClaim := { program := "ytaodgbeobdholaa", sum := "80ec6918a5f33404d1fc8ec8fa1f6df8317ad932b6c8d9dba0d44c107a237d81", func := "beaconry/beaconrykeep.CutWay", spec := "cutWay", unfollowed := true, recurses := true, apart := false }
def CutWaySaid : Prop := cutWayRow.holds Try.pinned (OpenSpec.ofChange cutWaySpec)

/-- ITS FALSE NEIGHBOUR: 'it returns false'. Refute it at one input. -/
def cutWayWrong : ChangeSpec := { name := "cutWay", fn := fun _ => fun
  | [d1, d2, d3] => { results := [.lit (.bool false)], args := [d1, d2, d3] }
  | _ => none }
def CutWayWrongFalsely : Prop := cutWayRow.holds Try.pinned (OpenSpec.ofChange cutWayWrong)

/- THE SECOND FORM. 'bulk': how many values and letters a reading holds, each counted each time it is reached (what is shared counts as often as it is met; a slice's spare places count too). A statement '..UptoSaid' is the law's where the arguments, and the package variables that the reading takes, are together of bulk at most 1048576: NARROWER than '..Said'. Prove '..Said' where nothing that the law and all that it calls make is longer than what came in: it says more and counts as full. Else prove '..UptoSaid'. A law counts once. -/
mutual
def uptoBulk {H : Type} : DataW H → Nat
  | .lit (.string bytes) => bytes.length + 1
  | .lit _ => 1
  | .nil => 1
  | .ptr d => uptoBulk d + 1
  | .slice elems spare => uptoBulkAll elems + uptoBulkAll spare + 1
  | .agg parts => uptoBulkAll parts + 1
  | .iface _ d => uptoBulk d + 1
  | .map entries => uptoBulkEntries entries + 1
  | .held _ => 1
def uptoBulkAll {H : Type} : List (DataW H) → Nat
  | [] => 0
  | d :: r => uptoBulk d + uptoBulkAll r
def uptoBulkEntries {H : Type} : List (Lit × DataW H) → Nat
  | [] => 0
  | x :: r => uptoBulkEntry x + uptoBulkEntries r
def uptoBulkEntry {H : Type} : Lit × DataW H → Nat
  | (.string bytes, d) => bytes.length + uptoBulk d + 1
  | (_, d) => uptoBulk d + 1
 end
def uptoSmall : (H : Type) → List (DataW H) → Bool := fun _ ds => decide (uptoBulkAll ds ≤ 1048576)
def OpenSpec.upto (s : _root_.Go.ChangeSpec) : _root_.Go.OpenSpec := { _root_.Go.OpenSpec.ofChange s with cond := some uptoSmall }

/-- 'beaconrykeep.TickOrder', WHERE WHAT IT READS IS OF BULK AT MOST 1048576: true; the input reads as it did. -/
def tickOrderUptoRow : OpenClaim := { program := "ytaodgbeobdholaa", sum := "80ec6918a5f33404d1fc8ec8fa1f6df8317ad932b6c8d9dba0d44c107a237d81", func := "beaconry/beaconrykeep.TickOrder", spec := "tickOrder", unfollowed := true, recurses := true, apart := false, narrowed := true }
def TickOrderUptoSaid : Prop := tickOrderUptoRow.holds Try.pinned (OpenSpec.upto tickOrderSpec)

/-- 'beaconrykeep.EchoTree', WHERE WHAT IT READS IS OF BULK AT MOST 1048576: true; the input reads as it did. -/
def echoTreeUptoRow : OpenClaim := { program := "ytaodgbeobdholaa", sum := "80ec6918a5f33404d1fc8ec8fa1f6df8317ad932b6c8d9dba0d44c107a237d81", func := "beaconry/beaconrykeep.EchoTree", spec := "echoTree", recurses := true, apart := false, narrowed := true }
def EchoTreeUptoSaid : Prop := echoTreeUptoRow.holds Try.pinned (OpenSpec.upto echoTreeSpec)

/-- 'beaconrykeep.EchoDone', WHERE WHAT IT READS IS OF BULK AT MOST 1048576: true; the input reads as it did. -/
def echoDoneUptoRow : OpenClaim := { program := "ytaodgbeobdholaa", sum := "80ec6918a5f33404d1fc8ec8fa1f6df8317ad932b6c8d9dba0d44c107a237d81", func := "beaconry/beaconrykeep.EchoDone", spec := "echoDone", recurses := true, apart := false, narrowed := true }
def EchoDoneUptoSaid : Prop := echoDoneUptoRow.holds Try.pinned (OpenSpec.upto echoDoneSpec)

/-- 'beaconrykeep.EchoAll', WHERE WHAT IT READS IS OF BULK AT MOST 1048576: true; the input reads as it did. -/
def echoAllUptoRow : OpenClaim := { program := "ytaodgbeobdholaa", sum := "80ec6918a5f33404d1fc8ec8fa1f6df8317ad932b6c8d9dba0d44c107a237d81", func := "beaconry/beaconrykeep.EchoAll", spec := "echoAll", recurses := true, apart := false, narrowed := true }
def EchoAllUptoSaid : Prop := echoAllUptoRow.holds Try.pinned (OpenSpec.upto echoAllSpec)

/-- 'beaconrykeep.CutWay', WHERE WHAT IT READS IS OF BULK AT MOST 1048576: true; the input reads as it did. -/
def cutWayUptoRow : OpenClaim := { program := "ytaodgbeobdholaa", sum := "80ec6918a5f33404d1fc8ec8fa1f6df8317ad932b6c8d9dba0d44c107a237d81", func := "beaconry/beaconrykeep.CutWay", spec := "cutWay", unfollowed := true, recurses := true, apart := false, narrowed := true }
def CutWayUptoSaid : Prop := cutWayUptoRow.holds Try.pinned (OpenSpec.upto cutWaySpec)

end Rows
end Go.Proofs.Ytaodgbeobdholaa
