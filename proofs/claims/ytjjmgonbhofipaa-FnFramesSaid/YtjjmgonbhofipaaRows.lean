/-
  No cell of these rows narrows 'for every input' (looked for: loops, veiled, ifaces, maps, wideKeys, modest, calm, conditions, laid).
  DERIVED. THE GIVEN ROWS OF THIS SEAT. 12 by the template 'for every input the law returns true; each argument reads behind the call as it read before'; 0 by the template 'total and deterministic' (their statements: YtjjmgonbhofipaaTotals.lean).
  GIVEN WITH THE SEED: the statements are not yours to turn. If you find one false, say at which input.
  Laid BY PROGRAM, IN A SANDBOX (cutbox-rows.mjs): the forced cells as the released guide's own fill.sh prints them over the translation fac0cc05d5076756… (all of the seat's roots in one cut). By AI agents, Wed Nov 11 2026. No macro, syntax, notation, axiom, sorry.
-/
import Derived.Test.YtjjmgonbhofipaaChecked
import GoSem.Claim
import GoSem.ClaimJoined
import GoSem.ClaimMapViews
import Derived.JoinedTies
import Derived.KernelRfl
namespace Go.Proofs.Ytjjmgonbhofipaa
/- THE CELL 'sum', in the pinned program and in every row, IS THE sha256 OF THE DUMP (.gsa) THAT YtjjmgonbhofipaaProg.lean LOADS. Nothing in Lean hashes anything: it is a label: what it is worth is what the hold of that sum in a sandbox is worth. -/
noncomputable def Try.pinned : Pinned := { name := "ytjjmgonbhofipaa", sum := "fac0cc05d50767561b297cbcd7406ac52efa0fb8a63e557e32c2b9df7c9055e6", checked := Try.checked }
namespace Rows
def none {H : Type} : Left H := { results := [], args := [] }

/-- 'laws.FnExactPayloadOf': WHATEVER THE INPUT: true; the input reads as it did. -/
def fnExactPayloadOfSpec : ChangeSpec := { name := "fnExactPayloadOf", fn := fun _ => fun
  | [d] => { results := [.lit (.bool true)], args := [d] }
  | _ => none }
def fnExactPayloadOfRow : OpenClaim := { program := "ytjjmgonbhofipaa", sum := "fac0cc05d50767561b297cbcd7406ac52efa0fb8a63e557e32c2b9df7c9055e6", func := "loop.example/g01171/laws.FnExactPayloadOf", spec := "fnExactPayloadOf", apart := false }
def FnExactPayloadOfSaid : Prop := fnExactPayloadOfRow.holds Try.pinned (OpenSpec.ofChange fnExactPayloadOfSpec)

/-- ITS FALSE NEIGHBOUR: 'it returns false'. Refute it at one input. -/
def fnExactPayloadOfWrong : ChangeSpec := { name := "fnExactPayloadOf", fn := fun _ => fun
  | [d] => { results := [.lit (.bool false)], args := [d] }
  | _ => none }
def FnExactPayloadOfWrongFalsely : Prop := fnExactPayloadOfRow.holds Try.pinned (OpenSpec.ofChange fnExactPayloadOfWrong)

/-- 'laws.FnExactCheckOf': WHATEVER THE INPUT: true; the input reads as it did. -/
def fnExactCheckOfSpec : ChangeSpec := { name := "fnExactCheckOf", fn := fun _ => fun
  | [d1, d2] => { results := [.lit (.bool true)], args := [d1, d2] }
  | _ => none }
def fnExactCheckOfRow : OpenClaim := { program := "ytjjmgonbhofipaa", sum := "fac0cc05d50767561b297cbcd7406ac52efa0fb8a63e557e32c2b9df7c9055e6", func := "loop.example/g01171/laws.FnExactCheckOf", spec := "fnExactCheckOf", named := ["encoding/binary.BigEndian"], apart := false }
def FnExactCheckOfSaid : Prop := fnExactCheckOfRow.holds Try.pinned (OpenSpec.ofChange fnExactCheckOfSpec)

/-- ITS FALSE NEIGHBOUR: 'it returns false'. Refute it at one input. -/
def fnExactCheckOfWrong : ChangeSpec := { name := "fnExactCheckOf", fn := fun _ => fun
  | [d1, d2] => { results := [.lit (.bool false)], args := [d1, d2] }
  | _ => none }
def FnExactCheckOfWrongFalsely : Prop := fnExactCheckOfRow.holds Try.pinned (OpenSpec.ofChange fnExactCheckOfWrong)

/-- 'laws.FnExactMakeFrame': WHATEVER THE INPUT: true; the input reads as it did. -/
def fnExactMakeFrameSpec : ChangeSpec := { name := "fnExactMakeFrame", fn := fun _ => fun
  | [d1, d2] => { results := [.lit (.bool true)], args := [d1, d2] }
  | _ => none }
def fnExactMakeFrameRow : OpenClaim := { program := "ytjjmgonbhofipaa", sum := "fac0cc05d50767561b297cbcd7406ac52efa0fb8a63e557e32c2b9df7c9055e6", func := "loop.example/g01171/laws.FnExactMakeFrame", spec := "fnExactMakeFrame", named := ["encoding/binary.BigEndian"], apart := false }
def FnExactMakeFrameSaid : Prop := fnExactMakeFrameRow.holds Try.pinned (OpenSpec.ofChange fnExactMakeFrameSpec)

/-- ITS FALSE NEIGHBOUR: 'it returns false'. Refute it at one input. -/
def fnExactMakeFrameWrong : ChangeSpec := { name := "fnExactMakeFrame", fn := fun _ => fun
  | [d1, d2] => { results := [.lit (.bool false)], args := [d1, d2] }
  | _ => none }
def FnExactMakeFrameWrongFalsely : Prop := fnExactMakeFrameRow.holds Try.pinned (OpenSpec.ofChange fnExactMakeFrameWrong)

/-- 'laws.FnExactIsSound': WHATEVER THE INPUT: true; the input reads as it did. -/
def fnExactIsSoundSpec : ChangeSpec := { name := "fnExactIsSound", fn := fun _ => fun
  | [d1, d2] => { results := [.lit (.bool true)], args := [d1, d2] }
  | _ => none }
def fnExactIsSoundRow : OpenClaim := { program := "ytjjmgonbhofipaa", sum := "fac0cc05d50767561b297cbcd7406ac52efa0fb8a63e557e32c2b9df7c9055e6", func := "loop.example/g01171/laws.FnExactIsSound", spec := "fnExactIsSound", named := ["encoding/binary.BigEndian"], apart := false }
def FnExactIsSoundSaid : Prop := fnExactIsSoundRow.holds Try.pinned (OpenSpec.ofChange fnExactIsSoundSpec)

/-- ITS FALSE NEIGHBOUR: 'it returns false'. Refute it at one input. -/
def fnExactIsSoundWrong : ChangeSpec := { name := "fnExactIsSound", fn := fun _ => fun
  | [d1, d2] => { results := [.lit (.bool false)], args := [d1, d2] }
  | _ => none }
def FnExactIsSoundWrongFalsely : Prop := fnExactIsSoundRow.holds Try.pinned (OpenSpec.ofChange fnExactIsSoundWrong)

/-- 'laws.FnExactFramesOfBytes': WHATEVER THE INPUT: true; the input reads as it did. -/
def fnExactFramesOfBytesSpec : ChangeSpec := { name := "fnExactFramesOfBytes", fn := fun _ => fun
  | [d] => { results := [.lit (.bool true)], args := [d] }
  | _ => none }
def fnExactFramesOfBytesRow : OpenClaim := { program := "ytjjmgonbhofipaa", sum := "fac0cc05d50767561b297cbcd7406ac52efa0fb8a63e557e32c2b9df7c9055e6", func := "loop.example/g01171/laws.FnExactFramesOfBytes", spec := "fnExactFramesOfBytes", apart := false }
def FnExactFramesOfBytesSaid : Prop := fnExactFramesOfBytesRow.holds Try.pinned (OpenSpec.ofChange fnExactFramesOfBytesSpec)

/-- ITS FALSE NEIGHBOUR: 'it returns false'. Refute it at one input. -/
def fnExactFramesOfBytesWrong : ChangeSpec := { name := "fnExactFramesOfBytes", fn := fun _ => fun
  | [d] => { results := [.lit (.bool false)], args := [d] }
  | _ => none }
def FnExactFramesOfBytesWrongFalsely : Prop := fnExactFramesOfBytesRow.holds Try.pinned (OpenSpec.ofChange fnExactFramesOfBytesWrong)

/-- 'laws.FnExactSpoilFrame': WHATEVER THE INPUT: true; the input reads as it did. -/
def fnExactSpoilFrameSpec : ChangeSpec := { name := "fnExactSpoilFrame", fn := fun _ => fun
  | [d1, d2, d3] => { results := [.lit (.bool true)], args := [d1, d2, d3] }
  | _ => none }
def fnExactSpoilFrameRow : OpenClaim := { program := "ytjjmgonbhofipaa", sum := "fac0cc05d50767561b297cbcd7406ac52efa0fb8a63e557e32c2b9df7c9055e6", func := "loop.example/g01171/laws.FnExactSpoilFrame", spec := "fnExactSpoilFrame", apart := false }
def FnExactSpoilFrameSaid : Prop := fnExactSpoilFrameRow.holds Try.pinned (OpenSpec.ofChange fnExactSpoilFrameSpec)

/-- ITS FALSE NEIGHBOUR: 'it returns false'. Refute it at one input. -/
def fnExactSpoilFrameWrong : ChangeSpec := { name := "fnExactSpoilFrame", fn := fun _ => fun
  | [d1, d2, d3] => { results := [.lit (.bool false)], args := [d1, d2, d3] }
  | _ => none }
def FnExactSpoilFrameWrongFalsely : Prop := fnExactSpoilFrameRow.holds Try.pinned (OpenSpec.ofChange fnExactSpoilFrameWrong)

/-- 'laws.FnExactBytesOfFrames': WHATEVER THE INPUT: true; the input reads as it did. -/
def fnExactBytesOfFramesSpec : ChangeSpec := { name := "fnExactBytesOfFrames", fn := fun _ => fun
  | [d] => { results := [.lit (.bool true)], args := [d] }
  | _ => none }
def fnExactBytesOfFramesRow : OpenClaim := { program := "ytjjmgonbhofipaa", sum := "fac0cc05d50767561b297cbcd7406ac52efa0fb8a63e557e32c2b9df7c9055e6", func := "loop.example/g01171/laws.FnExactBytesOfFrames", spec := "fnExactBytesOfFrames", apart := false }
def FnExactBytesOfFramesSaid : Prop := fnExactBytesOfFramesRow.holds Try.pinned (OpenSpec.ofChange fnExactBytesOfFramesSpec)

/-- ITS FALSE NEIGHBOUR: 'it returns false'. Refute it at one input. -/
def fnExactBytesOfFramesWrong : ChangeSpec := { name := "fnExactBytesOfFrames", fn := fun _ => fun
  | [d] => { results := [.lit (.bool false)], args := [d] }
  | _ => none }
def FnExactBytesOfFramesWrongFalsely : Prop := fnExactBytesOfFramesRow.holds Try.pinned (OpenSpec.ofChange fnExactBytesOfFramesWrong)

/-- 'laws.FnExactMendFrames': WHATEVER THE INPUT: true; the input reads as it did. -/
def fnExactMendFramesSpec : ChangeSpec := { name := "fnExactMendFrames", fn := fun _ => fun
  | [d1, d2] => { results := [.lit (.bool true)], args := [d1, d2] }
  | _ => none }
def fnExactMendFramesRow : OpenClaim := { program := "ytjjmgonbhofipaa", sum := "fac0cc05d50767561b297cbcd7406ac52efa0fb8a63e557e32c2b9df7c9055e6", func := "loop.example/g01171/laws.FnExactMendFrames", spec := "fnExactMendFrames", named := ["encoding/binary.BigEndian"], apart := false }
def FnExactMendFramesSaid : Prop := fnExactMendFramesRow.holds Try.pinned (OpenSpec.ofChange fnExactMendFramesSpec)

/-- ITS FALSE NEIGHBOUR: 'it returns false'. Refute it at one input. -/
def fnExactMendFramesWrong : ChangeSpec := { name := "fnExactMendFrames", fn := fun _ => fun
  | [d1, d2] => { results := [.lit (.bool false)], args := [d1, d2] }
  | _ => none }
def FnExactMendFramesWrongFalsely : Prop := fnExactMendFramesRow.holds Try.pinned (OpenSpec.ofChange fnExactMendFramesWrong)

/-- 'laws.FnExactBrokenFrames': WHATEVER THE INPUT: true; the input reads as it did. -/
def fnExactBrokenFramesSpec : ChangeSpec := { name := "fnExactBrokenFrames", fn := fun _ => fun
  | [d] => { results := [.lit (.bool true)], args := [d] }
  | _ => none }
def fnExactBrokenFramesRow : OpenClaim := { program := "ytjjmgonbhofipaa", sum := "fac0cc05d50767561b297cbcd7406ac52efa0fb8a63e557e32c2b9df7c9055e6", func := "loop.example/g01171/laws.FnExactBrokenFrames", spec := "fnExactBrokenFrames", named := ["encoding/binary.BigEndian"], apart := false }
def FnExactBrokenFramesSaid : Prop := fnExactBrokenFramesRow.holds Try.pinned (OpenSpec.ofChange fnExactBrokenFramesSpec)

/-- ITS FALSE NEIGHBOUR: 'it returns false'. Refute it at one input. -/
def fnExactBrokenFramesWrong : ChangeSpec := { name := "fnExactBrokenFrames", fn := fun _ => fun
  | [d] => { results := [.lit (.bool false)], args := [d] }
  | _ => none }
def FnExactBrokenFramesWrongFalsely : Prop := fnExactBrokenFramesRow.holds Try.pinned (OpenSpec.ofChange fnExactBrokenFramesWrong)

/-- 'laws.FnExactPackFrames': WHATEVER THE INPUT: true; the input reads as it did. -/
def fnExactPackFramesSpec : ChangeSpec := { name := "fnExactPackFrames", fn := fun _ => fun
  | [d1, d2, d3] => { results := [.lit (.bool true)], args := [d1, d2, d3] }
  | _ => none }
def fnExactPackFramesRow : OpenClaim := { program := "ytjjmgonbhofipaa", sum := "fac0cc05d50767561b297cbcd7406ac52efa0fb8a63e557e32c2b9df7c9055e6", func := "loop.example/g01171/laws.FnExactPackFrames", spec := "fnExactPackFrames", unfollowed := true, recurses := true, named := ["encoding/binary.BigEndian"], apart := false }
def FnExactPackFramesSaid : Prop := fnExactPackFramesRow.holds Try.pinned (OpenSpec.ofChange fnExactPackFramesSpec)

/-- ITS FALSE NEIGHBOUR: 'it returns false'. Refute it at one input. -/
def fnExactPackFramesWrong : ChangeSpec := { name := "fnExactPackFrames", fn := fun _ => fun
  | [d1, d2, d3] => { results := [.lit (.bool false)], args := [d1, d2, d3] }
  | _ => none }
def FnExactPackFramesWrongFalsely : Prop := fnExactPackFramesRow.holds Try.pinned (OpenSpec.ofChange fnExactPackFramesWrong)

/-- 'laws.FnExactUnpackFrames': WHATEVER THE INPUT: true; the input reads as it did. -/
def fnExactUnpackFramesSpec : ChangeSpec := { name := "fnExactUnpackFrames", fn := fun _ => fun
  | [d] => { results := [.lit (.bool true)], args := [d] }
  | _ => none }
def fnExactUnpackFramesRow : OpenClaim := { program := "ytjjmgonbhofipaa", sum := "fac0cc05d50767561b297cbcd7406ac52efa0fb8a63e557e32c2b9df7c9055e6", func := "loop.example/g01171/laws.FnExactUnpackFrames", spec := "fnExactUnpackFrames", unfollowed := true, recurses := true, named := ["encoding/binary.BigEndian"], apart := false }
def FnExactUnpackFramesSaid : Prop := fnExactUnpackFramesRow.holds Try.pinned (OpenSpec.ofChange fnExactUnpackFramesSpec)

/-- ITS FALSE NEIGHBOUR: 'it returns false'. Refute it at one input. -/
def fnExactUnpackFramesWrong : ChangeSpec := { name := "fnExactUnpackFrames", fn := fun _ => fun
  | [d] => { results := [.lit (.bool false)], args := [d] }
  | _ => none }
def FnExactUnpackFramesWrongFalsely : Prop := fnExactUnpackFramesRow.holds Try.pinned (OpenSpec.ofChange fnExactUnpackFramesWrong)

/-- 'laws.FnFrames': WHATEVER THE INPUT: true; the input reads as it did. -/
def fnFramesSpec : ChangeSpec := { name := "fnFrames", fn := fun _ => fun
  | [d1, d2] => { results := [.lit (.bool true)], args := [d1, d2] }
  | _ => none }
def fnFramesRow : OpenClaim := { program := "ytjjmgonbhofipaa", sum := "fac0cc05d50767561b297cbcd7406ac52efa0fb8a63e557e32c2b9df7c9055e6", func := "loop.example/g01171/laws.FnFrames", spec := "fnFrames", unfollowed := true, recurses := true, named := ["encoding/binary.BigEndian"], apart := false }
def FnFramesSaid : Prop := fnFramesRow.holds Try.pinned (OpenSpec.ofChange fnFramesSpec)

/-- ITS FALSE NEIGHBOUR: 'it returns false'. Refute it at one input. -/
def fnFramesWrong : ChangeSpec := { name := "fnFrames", fn := fun _ => fun
  | [d1, d2] => { results := [.lit (.bool false)], args := [d1, d2] }
  | _ => none }
def FnFramesWrongFalsely : Prop := fnFramesRow.holds Try.pinned (OpenSpec.ofChange fnFramesWrong)

/- THE SECOND FORM. 'bulk': how many values and letters a reading holds, each counted each time it is reached (what is shared counts as often as it is met; a slice's spare places count too). A statement '..UptoSaid' is the law's where the arguments, and the package variables that the reading takes, are together of bulk at most 1048576: NARROWER than '..Said'. Prove '..Said' where nothing that the law and all that it calls make is longer than what came in: it says more and counts as full. Else prove '..UptoSaid'. A law counts once. -/
mutual
def uptoBulk {H : Type} : DataW H → Nat
  | .lit (.string bytes) => bytes.length + 1
  | .lit _ => 1
  | .nil => 1
  | .ptr d => uptoBulk d + 1
  | .slice elems spare => uptoBulkAll elems + uptoBulkAll spare + 1
  | .agg parts => uptoBulkAll parts + 1
  | .iface _ d => uptoBulk d + 1
  | .map entries => uptoBulkEntries entries + 1
  | .held _ => 1
def uptoBulkAll {H : Type} : List (DataW H) → Nat
  | [] => 0
  | d :: r => uptoBulk d + uptoBulkAll r
def uptoBulkEntries {H : Type} : List (Lit × DataW H) → Nat
  | [] => 0
  | x :: r => uptoBulkEntry x + uptoBulkEntries r
def uptoBulkEntry {H : Type} : Lit × DataW H → Nat
  | (.string bytes, d) => bytes.length + uptoBulk d + 1
  | (_, d) => uptoBulk d + 1
 end
def uptoSmall : (H : Type) → List (DataW H) → Bool := fun _ ds => decide (uptoBulkAll ds ≤ 1048576)
def OpenSpec.upto (s : _root_.Go.ChangeSpec) : _root_.Go.OpenSpec := { _root_.Go.OpenSpec.ofChange s with cond := some uptoSmall }

/-- 'laws.FnExactPayloadOf', WHERE WHAT IT READS IS OF BULK AT MOST 1048576: true; the input reads as it did. -/
def fnExactPayloadOfUptoRow : OpenClaim := { program := "ytjjmgonbhofipaa", sum := "fac0cc05d50767561b297cbcd7406ac52efa0fb8a63e557e32c2b9df7c9055e6", func := "loop.example/g01171/laws.FnExactPayloadOf", spec := "fnExactPayloadOf", apart := false, narrowed := true }
def FnExactPayloadOfUptoSaid : Prop := fnExactPayloadOfUptoRow.holds Try.pinned (OpenSpec.upto fnExactPayloadOfSpec)

/-- 'laws.FnExactCheckOf', WHERE WHAT IT READS IS OF BULK AT MOST 1048576: true; the input reads as it did. -/
def fnExactCheckOfUptoRow : OpenClaim := { program := "ytjjmgonbhofipaa", sum := "fac0cc05d50767561b297cbcd7406ac52efa0fb8a63e557e32c2b9df7c9055e6", func := "loop.example/g01171/laws.FnExactCheckOf", spec := "fnExactCheckOf", named := ["encoding/binary.BigEndian"], apart := false, narrowed := true }
def FnExactCheckOfUptoSaid : Prop := fnExactCheckOfUptoRow.holds Try.pinned (OpenSpec.upto fnExactCheckOfSpec)

/-- 'laws.FnExactMakeFrame', WHERE WHAT IT READS IS OF BULK AT MOST 1048576: true; the input reads as it did. -/
def fnExactMakeFrameUptoRow : OpenClaim := { program := "ytjjmgonbhofipaa", sum := "fac0cc05d50767561b297cbcd7406ac52efa0fb8a63e557e32c2b9df7c9055e6", func := "loop.example/g01171/laws.FnExactMakeFrame", spec := "fnExactMakeFrame", named := ["encoding/binary.BigEndian"], apart := false, narrowed := true }
def FnExactMakeFrameUptoSaid : Prop := fnExactMakeFrameUptoRow.holds Try.pinned (OpenSpec.upto fnExactMakeFrameSpec)

/-- 'laws.FnExactIsSound', WHERE WHAT IT READS IS OF BULK AT MOST 1048576: true; the input reads as it did. -/
def fnExactIsSoundUptoRow : OpenClaim := { program := "ytjjmgonbhofipaa", sum := "fac0cc05d50767561b297cbcd7406ac52efa0fb8a63e557e32c2b9df7c9055e6", func := "loop.example/g01171/laws.FnExactIsSound", spec := "fnExactIsSound", named := ["encoding/binary.BigEndian"], apart := false, narrowed := true }
def FnExactIsSoundUptoSaid : Prop := fnExactIsSoundUptoRow.holds Try.pinned (OpenSpec.upto fnExactIsSoundSpec)

/-- 'laws.FnExactFramesOfBytes', WHERE WHAT IT READS IS OF BULK AT MOST 1048576: true; the input reads as it did. -/
def fnExactFramesOfBytesUptoRow : OpenClaim := { program := "ytjjmgonbhofipaa", sum := "fac0cc05d50767561b297cbcd7406ac52efa0fb8a63e557e32c2b9df7c9055e6", func := "loop.example/g01171/laws.FnExactFramesOfBytes", spec := "fnExactFramesOfBytes", apart := false, narrowed := true }
def FnExactFramesOfBytesUptoSaid : Prop := fnExactFramesOfBytesUptoRow.holds Try.pinned (OpenSpec.upto fnExactFramesOfBytesSpec)

/-- 'laws.FnExactSpoilFrame', WHERE WHAT IT READS IS OF BULK AT MOST 1048576: true; the input reads as it did. -/
def fnExactSpoilFrameUptoRow : OpenClaim := { program := "ytjjmgonbhofipaa", sum := "fac0cc05d50767561b297cbcd7406ac52efa0fb8a63e557e32c2b9df7c9055e6", func := "loop.example/g01171/laws.FnExactSpoilFrame", spec := "fnExactSpoilFrame", apart := false, narrowed := true }
def FnExactSpoilFrameUptoSaid : Prop := fnExactSpoilFrameUptoRow.holds Try.pinned (OpenSpec.upto fnExactSpoilFrameSpec)

/-- 'laws.FnExactBytesOfFrames', WHERE WHAT IT READS IS OF BULK AT MOST 1048576: true; the input reads as it did. -/
def fnExactBytesOfFramesUptoRow : OpenClaim := { program := "ytjjmgonbhofipaa", sum := "fac0cc05d50767561b297cbcd7406ac52efa0fb8a63e557e32c2b9df7c9055e6", func := "loop.example/g01171/laws.FnExactBytesOfFrames", spec := "fnExactBytesOfFrames", apart := false, narrowed := true }
def FnExactBytesOfFramesUptoSaid : Prop := fnExactBytesOfFramesUptoRow.holds Try.pinned (OpenSpec.upto fnExactBytesOfFramesSpec)

/-- 'laws.FnExactMendFrames', WHERE WHAT IT READS IS OF BULK AT MOST 1048576: true; the input reads as it did. -/
def fnExactMendFramesUptoRow : OpenClaim := { program := "ytjjmgonbhofipaa", sum := "fac0cc05d50767561b297cbcd7406ac52efa0fb8a63e557e32c2b9df7c9055e6", func := "loop.example/g01171/laws.FnExactMendFrames", spec := "fnExactMendFrames", named := ["encoding/binary.BigEndian"], apart := false, narrowed := true }
def FnExactMendFramesUptoSaid : Prop := fnExactMendFramesUptoRow.holds Try.pinned (OpenSpec.upto fnExactMendFramesSpec)

/-- 'laws.FnExactBrokenFrames', WHERE WHAT IT READS IS OF BULK AT MOST 1048576: true; the input reads as it did. -/
def fnExactBrokenFramesUptoRow : OpenClaim := { program := "ytjjmgonbhofipaa", sum := "fac0cc05d50767561b297cbcd7406ac52efa0fb8a63e557e32c2b9df7c9055e6", func := "loop.example/g01171/laws.FnExactBrokenFrames", spec := "fnExactBrokenFrames", named := ["encoding/binary.BigEndian"], apart := false, narrowed := true }
def FnExactBrokenFramesUptoSaid : Prop := fnExactBrokenFramesUptoRow.holds Try.pinned (OpenSpec.upto fnExactBrokenFramesSpec)

/-- 'laws.FnExactPackFrames', WHERE WHAT IT READS IS OF BULK AT MOST 1048576: true; the input reads as it did. -/
def fnExactPackFramesUptoRow : OpenClaim := { program := "ytjjmgonbhofipaa", sum := "fac0cc05d50767561b297cbcd7406ac52efa0fb8a63e557e32c2b9df7c9055e6", func := "loop.example/g01171/laws.FnExactPackFrames", spec := "fnExactPackFrames", unfollowed := true, recurses := true, named := ["encoding/binary.BigEndian"], apart := false, narrowed := true }
def FnExactPackFramesUptoSaid : Prop := fnExactPackFramesUptoRow.holds Try.pinned (OpenSpec.upto fnExactPackFramesSpec)

/-- 'laws.FnExactUnpackFrames', WHERE WHAT IT READS IS OF BULK AT MOST 1048576: true; the input reads as it did. -/
def fnExactUnpackFramesUptoRow : OpenClaim := { program := "ytjjmgonbhofipaa", sum := "fac0cc05d50767561b297cbcd7406ac52efa0fb8a63e557e32c2b9df7c9055e6", func := "loop.example/g01171/laws.FnExactUnpackFrames", spec := "fnExactUnpackFrames", unfollowed := true, recurses := true, named := ["encoding/binary.BigEndian"], apart := false, narrowed := true }
def FnExactUnpackFramesUptoSaid : Prop := fnExactUnpackFramesUptoRow.holds Try.pinned (OpenSpec.upto fnExactUnpackFramesSpec)

/-- 'laws.FnFrames', WHERE WHAT IT READS IS OF BULK AT MOST 1048576: true; the input reads as it did. -/
def fnFramesUptoRow : OpenClaim := { program := "ytjjmgonbhofipaa", sum := "fac0cc05d50767561b297cbcd7406ac52efa0fb8a63e557e32c2b9df7c9055e6", func := "loop.example/g01171/laws.FnFrames", spec := "fnFrames", unfollowed := true, recurses := true, named := ["encoding/binary.BigEndian"], apart := false, narrowed := true }
def FnFramesUptoSaid : Prop := fnFramesUptoRow.holds Try.pinned (OpenSpec.upto fnFramesSpec)

end Rows
end Go.Proofs.Ytjjmgonbhofipaa
