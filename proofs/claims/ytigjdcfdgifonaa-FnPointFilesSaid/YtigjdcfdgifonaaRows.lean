/-
  No cell of these rows narrows 'for every input' (looked for: loops, veiled, ifaces, maps, wideKeys, modest, calm, conditions, laid).
  DERIVED. THE GIVEN ROWS OF THIS SEAT. 5 by the template 'for every input the law returns true; each argument reads behind the call as it read before'; 0 by the template 'total and deterministic' (their statements: YtigjdcfdgifonaaTotals.lean).
  GIVEN WITH THE SEED: the statements are not yours to turn. If you find one false, say at which input.
  Laid BY PROGRAM, IN A SANDBOX (cutbox-rows.mjs): the forced cells as the released guide's own fill.sh prints them over the translation aa7e1ae5ba748774… (all of the seat's roots in one cut). By AI agents, Wed Nov 11 2026. No macro, syntax, notation, axiom, sorry.
-/
import Derived.Test.YtigjdcfdgifonaaChecked
import GoSem.Claim
import GoSem.ClaimJoined
import GoSem.ClaimMapViews
import Derived.JoinedTies
import Derived.KernelRfl
namespace Go.Proofs.Ytigjdcfdgifonaa
/- THE CELL 'sum', in the pinned program and in every row, IS THE sha256 OF THE DUMP (.gsa) THAT YtigjdcfdgifonaaProg.lean LOADS. Nothing in Lean hashes anything: it is a label: what it is worth is what the hold of that sum in a sandbox is worth. -/
noncomputable def Try.pinned : Pinned := { name := "ytigjdcfdgifonaa", sum := "aa7e1ae5ba7487740334221cb3fb4dbcd228a9364a2ea2ddad25dd195a1ccf4d", checked := Try.checked }
namespace Rows
def none {H : Type} : Left H := { results := [], args := [] }

/-- 'laws.FnExactReadPointFile': WHATEVER THE INPUT: true; the input reads as it did. -/
def fnExactReadPointFileSpec : ChangeSpec := { name := "fnExactReadPointFile", fn := fun _ => fun
  | [d] => { results := [.lit (.bool true)], args := [d] }
  | _ => none }
def fnExactReadPointFileRow : OpenClaim := { program := "ytigjdcfdgifonaa", sum := "aa7e1ae5ba7487740334221cb3fb4dbcd228a9364a2ea2ddad25dd195a1ccf4d", func := "loop.example/g01171/laws.FnExactReadPointFile", spec := "fnExactReadPointFile", inPlace := ["math.Float32frombits", "math.Float32bits"], unfollowed := true, recurses := true, named := ["encoding/binary.BigEndian"], apart := false }
def FnExactReadPointFileSaid : Prop := fnExactReadPointFileRow.holds Try.pinned (OpenSpec.ofChange fnExactReadPointFileSpec)

/-- ITS FALSE NEIGHBOUR: 'it returns false'. Refute it at one input. -/
def fnExactReadPointFileWrong : ChangeSpec := { name := "fnExactReadPointFile", fn := fun _ => fun
  | [d] => { results := [.lit (.bool false)], args := [d] }
  | _ => none }
def FnExactReadPointFileWrongFalsely : Prop := fnExactReadPointFileRow.holds Try.pinned (OpenSpec.ofChange fnExactReadPointFileWrong)

/-- 'laws.FnExactReadWordFile': WHATEVER THE INPUT: true; the input reads as it did. -/
def fnExactReadWordFileSpec : ChangeSpec := { name := "fnExactReadWordFile", fn := fun _ => fun
  | [d] => { results := [.lit (.bool true)], args := [d] }
  | _ => none }
def fnExactReadWordFileRow : OpenClaim := { program := "ytigjdcfdgifonaa", sum := "aa7e1ae5ba7487740334221cb3fb4dbcd228a9364a2ea2ddad25dd195a1ccf4d", func := "loop.example/g01171/laws.FnExactReadWordFile", spec := "fnExactReadWordFile", inPlace := ["internal/bytealg.IndexByteString"], unfollowed := true, recurses := true, named := ["encoding/binary.BigEndian"], apart := false }
def FnExactReadWordFileSaid : Prop := fnExactReadWordFileRow.holds Try.pinned (OpenSpec.ofChange fnExactReadWordFileSpec)

/-- ITS FALSE NEIGHBOUR: 'it returns false'. Refute it at one input. -/
def fnExactReadWordFileWrong : ChangeSpec := { name := "fnExactReadWordFile", fn := fun _ => fun
  | [d] => { results := [.lit (.bool false)], args := [d] }
  | _ => none }
def FnExactReadWordFileWrongFalsely : Prop := fnExactReadWordFileRow.holds Try.pinned (OpenSpec.ofChange fnExactReadWordFileWrong)

/-- 'laws.FnExactSeekPoint': WHATEVER THE INPUT: true; the input reads as it did. -/
def fnExactSeekPointSpec : ChangeSpec := { name := "fnExactSeekPoint", fn := fun _ => fun
  | [d1, d2] => { results := [.lit (.bool true)], args := [d1, d2] }
  | _ => none }
def fnExactSeekPointRow : OpenClaim := { program := "ytigjdcfdgifonaa", sum := "aa7e1ae5ba7487740334221cb3fb4dbcd228a9364a2ea2ddad25dd195a1ccf4d", func := "loop.example/g01171/laws.FnExactSeekPoint", spec := "fnExactSeekPoint", inPlace := ["math.Float32frombits", "math.Float32bits"], named := ["encoding/binary.BigEndian"], apart := false }
def FnExactSeekPointSaid : Prop := fnExactSeekPointRow.holds Try.pinned (OpenSpec.ofChange fnExactSeekPointSpec)

/-- ITS FALSE NEIGHBOUR: 'it returns false'. Refute it at one input. -/
def fnExactSeekPointWrong : ChangeSpec := { name := "fnExactSeekPoint", fn := fun _ => fun
  | [d1, d2] => { results := [.lit (.bool false)], args := [d1, d2] }
  | _ => none }
def FnExactSeekPointWrongFalsely : Prop := fnExactSeekPointRow.holds Try.pinned (OpenSpec.ofChange fnExactSeekPointWrong)

/-- 'laws.FnExactWordFile': WHATEVER THE INPUT: true; the input reads as it did. -/
def fnExactWordFileSpec : ChangeSpec := { name := "fnExactWordFile", fn := fun _ => fun
  | [d] => { results := [.lit (.bool true)], args := [d] }
  | _ => none }
def fnExactWordFileRow : OpenClaim := { program := "ytigjdcfdgifonaa", sum := "aa7e1ae5ba7487740334221cb3fb4dbcd228a9364a2ea2ddad25dd195a1ccf4d", func := "loop.example/g01171/laws.FnExactWordFile", spec := "fnExactWordFile", inPlace := ["internal/bytealg.IndexByteString"], unfollowed := true, recurses := true, named := ["encoding/binary.BigEndian"], apart := false }
def FnExactWordFileSaid : Prop := fnExactWordFileRow.holds Try.pinned (OpenSpec.ofChange fnExactWordFileSpec)

/-- ITS FALSE NEIGHBOUR: 'it returns false'. Refute it at one input. -/
def fnExactWordFileWrong : ChangeSpec := { name := "fnExactWordFile", fn := fun _ => fun
  | [d] => { results := [.lit (.bool false)], args := [d] }
  | _ => none }
def FnExactWordFileWrongFalsely : Prop := fnExactWordFileRow.holds Try.pinned (OpenSpec.ofChange fnExactWordFileWrong)

/-- 'laws.FnPointFiles': WHATEVER THE INPUT: true; the input reads as it did. -/
def fnPointFilesSpec : ChangeSpec := { name := "fnPointFiles", fn := fun _ => fun
  | [d1, d2] => { results := [.lit (.bool true)], args := [d1, d2] }
  | _ => none }
def fnPointFilesRow : OpenClaim := { program := "ytigjdcfdgifonaa", sum := "aa7e1ae5ba7487740334221cb3fb4dbcd228a9364a2ea2ddad25dd195a1ccf4d", func := "loop.example/g01171/laws.FnPointFiles", spec := "fnPointFiles", inPlace := ["math.Float32frombits", "math.Float64frombits", "math.Float64bits", "math.Float32bits", "internal/bytealg.IndexByteString"], unfollowed := true, recurses := true, named := ["encoding/binary.BigEndian"], apart := false }
def FnPointFilesSaid : Prop := fnPointFilesRow.holds Try.pinned (OpenSpec.ofChange fnPointFilesSpec)

/-- ITS FALSE NEIGHBOUR: 'it returns false'. Refute it at one input. -/
def fnPointFilesWrong : ChangeSpec := { name := "fnPointFiles", fn := fun _ => fun
  | [d1, d2] => { results := [.lit (.bool false)], args := [d1, d2] }
  | _ => none }
def FnPointFilesWrongFalsely : Prop := fnPointFilesRow.holds Try.pinned (OpenSpec.ofChange fnPointFilesWrong)

/- THE SECOND FORM. 'bulk': how many values and letters a reading holds, each counted each time it is reached (what is shared counts as often as it is met; a slice's spare places count too). A statement '..UptoSaid' is the law's where the arguments, and the package variables that the reading takes, are together of bulk at most 1048576: NARROWER than '..Said'. Prove '..Said' where nothing that the law and all that it calls make is longer than what came in: it says more and counts as full. Else prove '..UptoSaid'. A law counts once. -/
mutual
def uptoBulk {H : Type} : DataW H → Nat
  | .lit (.string bytes) => bytes.length + 1
  | .lit _ => 1
  | .nil => 1
  | .ptr d => uptoBulk d + 1
  | .slice elems spare => uptoBulkAll elems + uptoBulkAll spare + 1
  | .agg parts => uptoBulkAll parts + 1
  | .iface _ d => uptoBulk d + 1
  | .map entries => uptoBulkEntries entries + 1
  | .held _ => 1
def uptoBulkAll {H : Type} : List (DataW H) → Nat
  | [] => 0
  | d :: r => uptoBulk d + uptoBulkAll r
def uptoBulkEntries {H : Type} : List (Lit × DataW H) → Nat
  | [] => 0
  | x :: r => uptoBulkEntry x + uptoBulkEntries r
def uptoBulkEntry {H : Type} : Lit × DataW H → Nat
  | (.string bytes, d) => bytes.length + uptoBulk d + 1
  | (_, d) => uptoBulk d + 1
 end
def uptoSmall : (H : Type) → List (DataW H) → Bool := fun _ ds => decide (uptoBulkAll ds ≤ 1048576)
def OpenSpec.upto (s : _root_.Go.ChangeSpec) : _root_.Go.OpenSpec := { _root_.Go.OpenSpec.ofChange s with cond := some uptoSmall }

/-- 'laws.FnExactReadPointFile', WHERE WHAT IT READS IS OF BULK AT MOST 1048576: true; the input reads as it did. -/
def fnExactReadPointFileUptoRow : OpenClaim := { program := "ytigjdcfdgifonaa", sum := "aa7e1ae5ba7487740334221cb3fb4dbcd228a9364a2ea2ddad25dd195a1ccf4d", func := "loop.example/g01171/laws.FnExactReadPointFile", spec := "fnExactReadPointFile", inPlace := ["math.Float32frombits", "math.Float32bits"], unfollowed := true, recurses := true, named := ["encoding/binary.BigEndian"], apart := false, narrowed := true }
def FnExactReadPointFileUptoSaid : Prop := fnExactReadPointFileUptoRow.holds Try.pinned (OpenSpec.upto fnExactReadPointFileSpec)

/-- 'laws.FnExactReadWordFile', WHERE WHAT IT READS IS OF BULK AT MOST 1048576: true; the input reads as it did. -/
def fnExactReadWordFileUptoRow : OpenClaim := { program := "ytigjdcfdgifonaa", sum := "aa7e1ae5ba7487740334221cb3fb4dbcd228a9364a2ea2ddad25dd195a1ccf4d", func := "loop.example/g01171/laws.FnExactReadWordFile", spec := "fnExactReadWordFile", inPlace := ["internal/bytealg.IndexByteString"], unfollowed := true, recurses := true, named := ["encoding/binary.BigEndian"], apart := false, narrowed := true }
def FnExactReadWordFileUptoSaid : Prop := fnExactReadWordFileUptoRow.holds Try.pinned (OpenSpec.upto fnExactReadWordFileSpec)

/-- 'laws.FnExactSeekPoint', WHERE WHAT IT READS IS OF BULK AT MOST 1048576: true; the input reads as it did. -/
def fnExactSeekPointUptoRow : OpenClaim := { program := "ytigjdcfdgifonaa", sum := "aa7e1ae5ba7487740334221cb3fb4dbcd228a9364a2ea2ddad25dd195a1ccf4d", func := "loop.example/g01171/laws.FnExactSeekPoint", spec := "fnExactSeekPoint", inPlace := ["math.Float32frombits", "math.Float32bits"], named := ["encoding/binary.BigEndian"], apart := false, narrowed := true }
def FnExactSeekPointUptoSaid : Prop := fnExactSeekPointUptoRow.holds Try.pinned (OpenSpec.upto fnExactSeekPointSpec)

/-- 'laws.FnExactWordFile', WHERE WHAT IT READS IS OF BULK AT MOST 1048576: true; the input reads as it did. -/
def fnExactWordFileUptoRow : OpenClaim := { program := "ytigjdcfdgifonaa", sum := "aa7e1ae5ba7487740334221cb3fb4dbcd228a9364a2ea2ddad25dd195a1ccf4d", func := "loop.example/g01171/laws.FnExactWordFile", spec := "fnExactWordFile", inPlace := ["internal/bytealg.IndexByteString"], unfollowed := true, recurses := true, named := ["encoding/binary.BigEndian"], apart := false, narrowed := true }
def FnExactWordFileUptoSaid : Prop := fnExactWordFileUptoRow.holds Try.pinned (OpenSpec.upto fnExactWordFileSpec)

/-- 'laws.FnPointFiles', WHERE WHAT IT READS IS OF BULK AT MOST 1048576: true; the input reads as it did. -/
def fnPointFilesUptoRow : OpenClaim := { program := "ytigjdcfdgifonaa", sum := "aa7e1ae5ba7487740334221cb3fb4dbcd228a9364a2ea2ddad25dd195a1ccf4d", func := "loop.example/g01171/laws.FnPointFiles", spec := "fnPointFiles", inPlace := ["math.Float32frombits", "math.Float64frombits", "math.Float64bits", "math.Float32bits", "internal/bytealg.IndexByteString"], unfollowed := true, recurses := true, named := ["encoding/binary.BigEndian"], apart := false, narrowed := true }
def FnPointFilesUptoSaid : Prop := fnPointFilesUptoRow.holds Try.pinned (OpenSpec.upto fnPointFilesSpec)

end Rows
end Go.Proofs.Ytigjdcfdgifonaa
