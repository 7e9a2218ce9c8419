/-
  No cell of these rows narrows 'for every input' (looked for: loops, veiled, ifaces, maps, wideKeys, modest, calm, conditions, laid).
  DERIVED. THE GIVEN ROWS OF THIS SEAT. 4 by the template 'for every input the law returns true; each argument reads behind the call as it read before'; 0 by the template 'total and deterministic' (their statements: YtmagaapdijapiaaTotals.lean).
  GIVEN WITH THE SEED: the statements are not yours to turn. If you find one false, say at which input.
  Laid BY PROGRAM, IN A SANDBOX (cutbox-rows.mjs): the forced cells as the released guide's own fill.sh prints them over the translation e7086901dc4b553a… (all of the seat's roots in one cut). By AI agents, Wed Nov 11 2026. No macro, syntax, notation, axiom, sorry.
-/
import Derived.Test.YtmagaapdijapiaaChecked
import GoSem.Claim
import GoSem.ClaimJoined
import GoSem.ClaimMapViews
import Derived.JoinedTies
import Derived.KernelRfl
namespace Go.Proofs.Ytmagaapdijapiaa
/- THE CELL 'sum', in the pinned program and in every row, IS THE sha256 OF THE DUMP (.gsa) THAT YtmagaapdijapiaaProg.lean LOADS. Nothing in Lean hashes anything: it is a label: what it is worth is what the hold of that sum in a sandbox is worth. -/
noncomputable def Try.pinned : Pinned := { name := "ytmagaapdijapiaa", sum := "e7086901dc4b553a969e220c9d173e8b834fd22ba76a6b7d4bbbb059a35e32a4", checked := Try.checked }
namespace Rows
def none {H : Type} : Left H := { results := [], args := [] }

/-- 'laws.FnExactPictureFile': WHATEVER THE INPUT: true; the input reads as it did. -/
def fnExactPictureFileSpec : ChangeSpec := { name := "fnExactPictureFile", fn := fun _ => fun
  | [d] => { results := [.lit (.bool true)], args := [d] }
  | _ => none }
def fnExactPictureFileRow : OpenClaim := { program := "ytmagaapdijapiaa", sum := "e7086901dc4b553a969e220c9d173e8b834fd22ba76a6b7d4bbbb059a35e32a4", func := "loop.example/g01171/laws.FnExactPictureFile", spec := "fnExactPictureFile", unfollowed := true, recurses := true, named := ["encoding/binary.BigEndian"], plainKeys := false, apart := false }
def FnExactPictureFileSaid : Prop := fnExactPictureFileRow.holds Try.pinned (OpenSpec.ofChange fnExactPictureFileSpec)

/-- ITS FALSE NEIGHBOUR: 'it returns false'. Refute it at one input. -/
def fnExactPictureFileWrong : ChangeSpec := { name := "fnExactPictureFile", fn := fun _ => fun
  | [d] => { results := [.lit (.bool false)], args := [d] }
  | _ => none }
def FnExactPictureFileWrongFalsely : Prop := fnExactPictureFileRow.holds Try.pinned (OpenSpec.ofChange fnExactPictureFileWrong)

/-- 'laws.FnExactReadPictureFile': WHATEVER THE INPUT: true; the input reads as it did. -/
def fnExactReadPictureFileSpec : ChangeSpec := { name := "fnExactReadPictureFile", fn := fun _ => fun
  | [d] => { results := [.lit (.bool true)], args := [d] }
  | _ => none }
def fnExactReadPictureFileRow : OpenClaim := { program := "ytmagaapdijapiaa", sum := "e7086901dc4b553a969e220c9d173e8b834fd22ba76a6b7d4bbbb059a35e32a4", func := "loop.example/g01171/laws.FnExactReadPictureFile", spec := "fnExactReadPictureFile", unfollowed := true, recurses := true, named := ["encoding/binary.BigEndian"], plainKeys := false, apart := false }
def FnExactReadPictureFileSaid : Prop := fnExactReadPictureFileRow.holds Try.pinned (OpenSpec.ofChange fnExactReadPictureFileSpec)

/-- ITS FALSE NEIGHBOUR: 'it returns false'. Refute it at one input. -/
def fnExactReadPictureFileWrong : ChangeSpec := { name := "fnExactReadPictureFile", fn := fun _ => fun
  | [d] => { results := [.lit (.bool false)], args := [d] }
  | _ => none }
def FnExactReadPictureFileWrongFalsely : Prop := fnExactReadPictureFileRow.holds Try.pinned (OpenSpec.ofChange fnExactReadPictureFileWrong)

/-- 'laws.FnKeptFiles': WHATEVER THE INPUT: true; the input reads as it did. -/
def fnKeptFilesSpec : ChangeSpec := { name := "fnKeptFiles", fn := fun _ => fun
  | [d1, d2] => { results := [.lit (.bool true)], args := [d1, d2] }
  | _ => none }
def fnKeptFilesRow : OpenClaim := { program := "ytmagaapdijapiaa", sum := "e7086901dc4b553a969e220c9d173e8b834fd22ba76a6b7d4bbbb059a35e32a4", func := "loop.example/g01171/laws.FnKeptFiles", spec := "fnKeptFiles", inPlace := ["internal/bytealg.IndexByteString", "math.Float32frombits", "math.Float32bits"], unfollowed := true, recurses := true, named := ["encoding/binary.BigEndian"], plainKeys := false, apart := false }
def FnKeptFilesSaid : Prop := fnKeptFilesRow.holds Try.pinned (OpenSpec.ofChange fnKeptFilesSpec)

/-- ITS FALSE NEIGHBOUR: 'it returns false'. Refute it at one input. -/
def fnKeptFilesWrong : ChangeSpec := { name := "fnKeptFiles", fn := fun _ => fun
  | [d1, d2] => { results := [.lit (.bool false)], args := [d1, d2] }
  | _ => none }
def FnKeptFilesWrongFalsely : Prop := fnKeptFilesRow.holds Try.pinned (OpenSpec.ofChange fnKeptFilesWrong)

/-- 'laws.FnPictures': WHATEVER THE INPUT: true; the input reads as it did. -/
def fnPicturesSpec : ChangeSpec := { name := "fnPictures", fn := fun _ => fun
  | [d1, d2] => { results := [.lit (.bool true)], args := [d1, d2] }
  | _ => none }
def fnPicturesRow : OpenClaim := { program := "ytmagaapdijapiaa", sum := "e7086901dc4b553a969e220c9d173e8b834fd22ba76a6b7d4bbbb059a35e32a4", func := "loop.example/g01171/laws.FnPictures", spec := "fnPictures", unfollowed := true, recurses := true, plainKeys := false, apart := false }
def FnPicturesSaid : Prop := fnPicturesRow.holds Try.pinned (OpenSpec.ofChange fnPicturesSpec)

/-- ITS FALSE NEIGHBOUR: 'it returns false'. Refute it at one input. -/
def fnPicturesWrong : ChangeSpec := { name := "fnPictures", fn := fun _ => fun
  | [d1, d2] => { results := [.lit (.bool false)], args := [d1, d2] }
  | _ => none }
def FnPicturesWrongFalsely : Prop := fnPicturesRow.holds Try.pinned (OpenSpec.ofChange fnPicturesWrong)

/- THE SECOND FORM. 'bulk': how many values and letters a reading holds, each counted each time it is reached (what is shared counts as often as it is met; a slice's spare places count too). A statement '..UptoSaid' is the law's where the arguments, and the package variables that the reading takes, are together of bulk at most 1048576: NARROWER than '..Said'. Prove '..Said' where nothing that the law and all that it calls make is longer than what came in: it says more and counts as full. Else prove '..UptoSaid'. A law counts once. -/
mutual
def uptoBulk {H : Type} : DataW H → Nat
  | .lit (.string bytes) => bytes.length + 1
  | .lit _ => 1
  | .nil => 1
  | .ptr d => uptoBulk d + 1
  | .slice elems spare => uptoBulkAll elems + uptoBulkAll spare + 1
  | .agg parts => uptoBulkAll parts + 1
  | .iface _ d => uptoBulk d + 1
  | .map entries => uptoBulkEntries entries + 1
  | .held _ => 1
def uptoBulkAll {H : Type} : List (DataW H) → Nat
  | [] => 0
  | d :: r => uptoBulk d + uptoBulkAll r
def uptoBulkEntries {H : Type} : List (Lit × DataW H) → Nat
  | [] => 0
  | x :: r => uptoBulkEntry x + uptoBulkEntries r
def uptoBulkEntry {H : Type} : Lit × DataW H → Nat
  | (.string bytes, d) => bytes.length + uptoBulk d + 1
  | (_, d) => uptoBulk d + 1
 end
def uptoSmall : (H : Type) → List (DataW H) → Bool := fun _ ds => decide (uptoBulkAll ds ≤ 1048576)
def OpenSpec.upto (s : _root_.Go.ChangeSpec) : _root_.Go.OpenSpec := { _root_.Go.OpenSpec.ofChange s with cond := some uptoSmall }

/-- 'laws.FnExactPictureFile', WHERE WHAT IT READS IS OF BULK AT MOST 1048576: true; the input reads as it did. -/
def fnExactPictureFileUptoRow : OpenClaim := { program := "ytmagaapdijapiaa", sum := "e7086901dc4b553a969e220c9d173e8b834fd22ba76a6b7d4bbbb059a35e32a4", func := "loop.example/g01171/laws.FnExactPictureFile", spec := "fnExactPictureFile", unfollowed := true, recurses := true, named := ["encoding/binary.BigEndian"], plainKeys := false, apart := false, narrowed := true }
def FnExactPictureFileUptoSaid : Prop := fnExactPictureFileUptoRow.holds Try.pinned (OpenSpec.upto fnExactPictureFileSpec)

/-- 'laws.FnExactReadPictureFile', WHERE WHAT IT READS IS OF BULK AT MOST 1048576: true; the input reads as it did. -/
def fnExactReadPictureFileUptoRow : OpenClaim := { program := "ytmagaapdijapiaa", sum := "e7086901dc4b553a969e220c9d173e8b834fd22ba76a6b7d4bbbb059a35e32a4", func := "loop.example/g01171/laws.FnExactReadPictureFile", spec := "fnExactReadPictureFile", unfollowed := true, recurses := true, named := ["encoding/binary.BigEndian"], plainKeys := false, apart := false, narrowed := true }
def FnExactReadPictureFileUptoSaid : Prop := fnExactReadPictureFileUptoRow.holds Try.pinned (OpenSpec.upto fnExactReadPictureFileSpec)

/-- 'laws.FnKeptFiles', WHERE WHAT IT READS IS OF BULK AT MOST 1048576: true; the input reads as it did. -/
def fnKeptFilesUptoRow : OpenClaim := { program := "ytmagaapdijapiaa", sum := "e7086901dc4b553a969e220c9d173e8b834fd22ba76a6b7d4bbbb059a35e32a4", func := "loop.example/g01171/laws.FnKeptFiles", spec := "fnKeptFiles", inPlace := ["internal/bytealg.IndexByteString", "math.Float32frombits", "math.Float32bits"], unfollowed := true, recurses := true, named := ["encoding/binary.BigEndian"], plainKeys := false, apart := false, narrowed := true }
def FnKeptFilesUptoSaid : Prop := fnKeptFilesUptoRow.holds Try.pinned (OpenSpec.upto fnKeptFilesSpec)

/-- 'laws.FnPictures', WHERE WHAT IT READS IS OF BULK AT MOST 1048576: true; the input reads as it did. -/
def fnPicturesUptoRow : OpenClaim := { program := "ytmagaapdijapiaa", sum := "e7086901dc4b553a969e220c9d173e8b834fd22ba76a6b7d4bbbb059a35e32a4", func := "loop.example/g01171/laws.FnPictures", spec := "fnPictures", unfollowed := true, recurses := true, plainKeys := false, apart := false, narrowed := true }
def FnPicturesUptoSaid : Prop := fnPicturesUptoRow.holds Try.pinned (OpenSpec.upto fnPicturesSpec)

end Rows
end Go.Proofs.Ytmagaapdijapiaa
