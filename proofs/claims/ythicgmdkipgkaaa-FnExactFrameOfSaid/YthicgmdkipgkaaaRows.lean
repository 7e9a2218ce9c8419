/-
  No cell of these rows narrows 'for every input' (looked for: loops, veiled, ifaces, maps, wideKeys, modest, calm, conditions, laid).
  DERIVED. THE GIVEN ROWS OF THIS SEAT. 9 by the template 'for every input the law returns true; each argument reads behind the call as it read before'; 0 by the template 'total and deterministic' (their statements: YthicgmdkipgkaaaTotals.lean).
  GIVEN WITH THE SEED: the statements are not yours to turn. If you find one false, say at which input.
  Laid BY PROGRAM, IN A SANDBOX (cutbox-rows.mjs): the forced cells as the released guide's own fill.sh prints them over the translation f6fee199321a315b… (all of the seat's roots in one cut). By AI agents, Wed Nov 11 2026. No macro, syntax, notation, axiom, sorry.
-/
import Derived.Test.YthicgmdkipgkaaaChecked
import GoSem.Claim
import GoSem.ClaimJoined
import GoSem.ClaimMapViews
import Derived.JoinedTies
import Derived.KernelRfl
namespace Go.Proofs.Ythicgmdkipgkaaa
/- THE CELL 'sum', in the pinned program and in every row, IS THE sha256 OF THE DUMP (.gsa) THAT YthicgmdkipgkaaaProg.lean LOADS. Nothing in Lean hashes anything: it is a label: what it is worth is what the hold of that sum in a sandbox is worth. -/
noncomputable def Try.pinned : Pinned := { name := "ythicgmdkipgkaaa", sum := "f6fee199321a315b16868b024788a9955b6b41929f39453c665659124489ed98", checked := Try.checked }
namespace Rows
def none {H : Type} : Left H := { results := [], args := [] }

/-- 'laws.FnExactValidPicture': WHATEVER THE INPUT: true; the input reads as it did. -/
def fnExactValidPictureSpec : ChangeSpec := { name := "fnExactValidPicture", fn := fun _ => fun
  | [d] => { results := [.lit (.bool true)], args := [d] }
  | _ => none }
def fnExactValidPictureRow : OpenClaim := { program := "ythicgmdkipgkaaa", sum := "f6fee199321a315b16868b024788a9955b6b41929f39453c665659124489ed98", func := "loop.example/g01171/laws.FnExactValidPicture", spec := "fnExactValidPicture", unfollowed := true, recurses := true, plainKeys := false, apart := false }
def FnExactValidPictureSaid : Prop := fnExactValidPictureRow.holds Try.pinned (OpenSpec.ofChange fnExactValidPictureSpec)

/-- ITS FALSE NEIGHBOUR: 'it returns false'. Refute it at one input. -/
def fnExactValidPictureWrong : ChangeSpec := { name := "fnExactValidPicture", fn := fun _ => fun
  | [d] => { results := [.lit (.bool false)], args := [d] }
  | _ => none }
def FnExactValidPictureWrongFalsely : Prop := fnExactValidPictureRow.holds Try.pinned (OpenSpec.ofChange fnExactValidPictureWrong)

/-- 'laws.FnExactPictureHas': WHATEVER THE INPUT: true; the input reads as it did. -/
def fnExactPictureHasSpec : ChangeSpec := { name := "fnExactPictureHas", fn := fun _ => fun
  | [d1, d2, d3] => { results := [.lit (.bool true)], args := [d1, d2, d3] }
  | _ => none }
def fnExactPictureHasRow : OpenClaim := { program := "ythicgmdkipgkaaa", sum := "f6fee199321a315b16868b024788a9955b6b41929f39453c665659124489ed98", func := "loop.example/g01171/laws.FnExactPictureHas", spec := "fnExactPictureHas", unfollowed := true, recurses := true, plainKeys := false, apart := false }
def FnExactPictureHasSaid : Prop := fnExactPictureHasRow.holds Try.pinned (OpenSpec.ofChange fnExactPictureHasSpec)

/-- ITS FALSE NEIGHBOUR: 'it returns false'. Refute it at one input. -/
def fnExactPictureHasWrong : ChangeSpec := { name := "fnExactPictureHas", fn := fun _ => fun
  | [d1, d2, d3] => { results := [.lit (.bool false)], args := [d1, d2, d3] }
  | _ => none }
def FnExactPictureHasWrongFalsely : Prop := fnExactPictureHasRow.holds Try.pinned (OpenSpec.ofChange fnExactPictureHasWrong)

/-- 'laws.FnExactCountPicture': WHATEVER THE INPUT: true; the input reads as it did. -/
def fnExactCountPictureSpec : ChangeSpec := { name := "fnExactCountPicture", fn := fun _ => fun
  | [d] => { results := [.lit (.bool true)], args := [d] }
  | _ => none }
def fnExactCountPictureRow : OpenClaim := { program := "ythicgmdkipgkaaa", sum := "f6fee199321a315b16868b024788a9955b6b41929f39453c665659124489ed98", func := "loop.example/g01171/laws.FnExactCountPicture", spec := "fnExactCountPicture", unfollowed := true, recurses := true, plainKeys := false, apart := false }
def FnExactCountPictureSaid : Prop := fnExactCountPictureRow.holds Try.pinned (OpenSpec.ofChange fnExactCountPictureSpec)

/-- ITS FALSE NEIGHBOUR: 'it returns false'. Refute it at one input. -/
def fnExactCountPictureWrong : ChangeSpec := { name := "fnExactCountPicture", fn := fun _ => fun
  | [d] => { results := [.lit (.bool false)], args := [d] }
  | _ => none }
def FnExactCountPictureWrongFalsely : Prop := fnExactCountPictureRow.holds Try.pinned (OpenSpec.ofChange fnExactCountPictureWrong)

/-- 'laws.FnExactPictureOf': WHATEVER THE INPUT: true; the input reads as it did. -/
def fnExactPictureOfSpec : ChangeSpec := { name := "fnExactPictureOf", fn := fun _ => fun
  | [d] => { results := [.lit (.bool true)], args := [d] }
  | _ => none }
def fnExactPictureOfRow : OpenClaim := { program := "ythicgmdkipgkaaa", sum := "f6fee199321a315b16868b024788a9955b6b41929f39453c665659124489ed98", func := "loop.example/g01171/laws.FnExactPictureOf", spec := "fnExactPictureOf", unfollowed := true, recurses := true, plainKeys := false, apart := false }
def FnExactPictureOfSaid : Prop := fnExactPictureOfRow.holds Try.pinned (OpenSpec.ofChange fnExactPictureOfSpec)

/-- ITS FALSE NEIGHBOUR: 'it returns false'. Refute it at one input. -/
def fnExactPictureOfWrong : ChangeSpec := { name := "fnExactPictureOf", fn := fun _ => fun
  | [d] => { results := [.lit (.bool false)], args := [d] }
  | _ => none }
def FnExactPictureOfWrongFalsely : Prop := fnExactPictureOfRow.holds Try.pinned (OpenSpec.ofChange fnExactPictureOfWrong)

/-- 'laws.FnExactFrameOf': WHATEVER THE INPUT: true; the input reads as it did. -/
def fnExactFrameOfSpec : ChangeSpec := { name := "fnExactFrameOf", fn := fun _ => fun
  | [d] => { results := [.lit (.bool true)], args := [d] }
  | _ => none }
def fnExactFrameOfRow : OpenClaim := { program := "ythicgmdkipgkaaa", sum := "f6fee199321a315b16868b024788a9955b6b41929f39453c665659124489ed98", func := "loop.example/g01171/laws.FnExactFrameOf", spec := "fnExactFrameOf", unfollowed := true, recurses := true, plainKeys := false, apart := false }
def FnExactFrameOfSaid : Prop := fnExactFrameOfRow.holds Try.pinned (OpenSpec.ofChange fnExactFrameOfSpec)

/-- ITS FALSE NEIGHBOUR: 'it returns false'. Refute it at one input. -/
def fnExactFrameOfWrong : ChangeSpec := { name := "fnExactFrameOf", fn := fun _ => fun
  | [d] => { results := [.lit (.bool false)], args := [d] }
  | _ => none }
def FnExactFrameOfWrongFalsely : Prop := fnExactFrameOfRow.holds Try.pinned (OpenSpec.ofChange fnExactFrameOfWrong)

/-- 'laws.FnExactCellsOfPicture': WHATEVER THE INPUT: true; the input reads as it did. -/
def fnExactCellsOfPictureSpec : ChangeSpec := { name := "fnExactCellsOfPicture", fn := fun _ => fun
  | [d] => { results := [.lit (.bool true)], args := [d] }
  | _ => none }
def fnExactCellsOfPictureRow : OpenClaim := { program := "ythicgmdkipgkaaa", sum := "f6fee199321a315b16868b024788a9955b6b41929f39453c665659124489ed98", func := "loop.example/g01171/laws.FnExactCellsOfPicture", spec := "fnExactCellsOfPicture", unfollowed := true, recurses := true, plainKeys := false, apart := false }
def FnExactCellsOfPictureSaid : Prop := fnExactCellsOfPictureRow.holds Try.pinned (OpenSpec.ofChange fnExactCellsOfPictureSpec)

/-- ITS FALSE NEIGHBOUR: 'it returns false'. Refute it at one input. -/
def fnExactCellsOfPictureWrong : ChangeSpec := { name := "fnExactCellsOfPicture", fn := fun _ => fun
  | [d] => { results := [.lit (.bool false)], args := [d] }
  | _ => none }
def FnExactCellsOfPictureWrongFalsely : Prop := fnExactCellsOfPictureRow.holds Try.pinned (OpenSpec.ofChange fnExactCellsOfPictureWrong)

/-- 'laws.FnExactJoinPictures': WHATEVER THE INPUT: true; the input reads as it did. -/
def fnExactJoinPicturesSpec : ChangeSpec := { name := "fnExactJoinPictures", fn := fun _ => fun
  | [d1, d2] => { results := [.lit (.bool true)], args := [d1, d2] }
  | _ => none }
def fnExactJoinPicturesRow : OpenClaim := { program := "ythicgmdkipgkaaa", sum := "f6fee199321a315b16868b024788a9955b6b41929f39453c665659124489ed98", func := "loop.example/g01171/laws.FnExactJoinPictures", spec := "fnExactJoinPictures", unfollowed := true, recurses := true, plainKeys := false, apart := false }
def FnExactJoinPicturesSaid : Prop := fnExactJoinPicturesRow.holds Try.pinned (OpenSpec.ofChange fnExactJoinPicturesSpec)

/-- ITS FALSE NEIGHBOUR: 'it returns false'. Refute it at one input. -/
def fnExactJoinPicturesWrong : ChangeSpec := { name := "fnExactJoinPictures", fn := fun _ => fun
  | [d1, d2] => { results := [.lit (.bool false)], args := [d1, d2] }
  | _ => none }
def FnExactJoinPicturesWrongFalsely : Prop := fnExactJoinPicturesRow.holds Try.pinned (OpenSpec.ofChange fnExactJoinPicturesWrong)

/-- 'laws.FnExactMeetPictures': WHATEVER THE INPUT: true; the input reads as it did. -/
def fnExactMeetPicturesSpec : ChangeSpec := { name := "fnExactMeetPictures", fn := fun _ => fun
  | [d1, d2] => { results := [.lit (.bool true)], args := [d1, d2] }
  | _ => none }
def fnExactMeetPicturesRow : OpenClaim := { program := "ythicgmdkipgkaaa", sum := "f6fee199321a315b16868b024788a9955b6b41929f39453c665659124489ed98", func := "loop.example/g01171/laws.FnExactMeetPictures", spec := "fnExactMeetPictures", unfollowed := true, recurses := true, plainKeys := false, apart := false }
def FnExactMeetPicturesSaid : Prop := fnExactMeetPicturesRow.holds Try.pinned (OpenSpec.ofChange fnExactMeetPicturesSpec)

/-- ITS FALSE NEIGHBOUR: 'it returns false'. Refute it at one input. -/
def fnExactMeetPicturesWrong : ChangeSpec := { name := "fnExactMeetPictures", fn := fun _ => fun
  | [d1, d2] => { results := [.lit (.bool false)], args := [d1, d2] }
  | _ => none }
def FnExactMeetPicturesWrongFalsely : Prop := fnExactMeetPicturesRow.holds Try.pinned (OpenSpec.ofChange fnExactMeetPicturesWrong)

/-- 'laws.FnExactMinusPictures': WHATEVER THE INPUT: true; the input reads as it did. -/
def fnExactMinusPicturesSpec : ChangeSpec := { name := "fnExactMinusPictures", fn := fun _ => fun
  | [d1, d2] => { results := [.lit (.bool true)], args := [d1, d2] }
  | _ => none }
def fnExactMinusPicturesRow : OpenClaim := { program := "ythicgmdkipgkaaa", sum := "f6fee199321a315b16868b024788a9955b6b41929f39453c665659124489ed98", func := "loop.example/g01171/laws.FnExactMinusPictures", spec := "fnExactMinusPictures", unfollowed := true, recurses := true, plainKeys := false, apart := false }
def FnExactMinusPicturesSaid : Prop := fnExactMinusPicturesRow.holds Try.pinned (OpenSpec.ofChange fnExactMinusPicturesSpec)

/-- ITS FALSE NEIGHBOUR: 'it returns false'. Refute it at one input. -/
def fnExactMinusPicturesWrong : ChangeSpec := { name := "fnExactMinusPictures", fn := fun _ => fun
  | [d1, d2] => { results := [.lit (.bool false)], args := [d1, d2] }
  | _ => none }
def FnExactMinusPicturesWrongFalsely : Prop := fnExactMinusPicturesRow.holds Try.pinned (OpenSpec.ofChange fnExactMinusPicturesWrong)

/- THE SECOND FORM. 'bulk': how many values and letters a reading holds, each counted each time it is reached (what is shared counts as often as it is met; a slice's spare places count too). A statement '..UptoSaid' is the law's where the arguments, and the package variables that the reading takes, are together of bulk at most 1048576: NARROWER than '..Said'. Prove '..Said' where nothing that the law and all that it calls make is longer than what came in: it says more and counts as full. Else prove '..UptoSaid'. A law counts once. -/
mutual
def uptoBulk {H : Type} : DataW H → Nat
  | .lit (.string bytes) => bytes.length + 1
  | .lit _ => 1
  | .nil => 1
  | .ptr d => uptoBulk d + 1
  | .slice elems spare => uptoBulkAll elems + uptoBulkAll spare + 1
  | .agg parts => uptoBulkAll parts + 1
  | .iface _ d => uptoBulk d + 1
  | .map entries => uptoBulkEntries entries + 1
  | .held _ => 1
def uptoBulkAll {H : Type} : List (DataW H) → Nat
  | [] => 0
  | d :: r => uptoBulk d + uptoBulkAll r
def uptoBulkEntries {H : Type} : List (Lit × DataW H) → Nat
  | [] => 0
  | x :: r => uptoBulkEntry x + uptoBulkEntries r
def uptoBulkEntry {H : Type} : Lit × DataW H → Nat
  | (.string bytes, d) => bytes.length + uptoBulk d + 1
  | (_, d) => uptoBulk d + 1
 end
def uptoSmall : (H : Type) → List (DataW H) → Bool := fun _ ds => decide (uptoBulkAll ds ≤ 1048576)
def OpenSpec.upto (s : _root_.Go.ChangeSpec) : _root_.Go.OpenSpec := { _root_.Go.OpenSpec.ofChange s with cond := some uptoSmall }

/-- 'laws.FnExactValidPicture', WHERE WHAT IT READS IS OF BULK AT MOST 1048576: true; the input reads as it did. -/
def fnExactValidPictureUptoRow : OpenClaim := { program := "ythicgmdkipgkaaa", sum := "f6fee199321a315b16868b024788a9955b6b41929f39453c665659124489ed98", func := "loop.example/g01171/laws.FnExactValidPicture", spec := "fnExactValidPicture", unfollowed := true, recurses := true, plainKeys := false, apart := false, narrowed := true }
def FnExactValidPictureUptoSaid : Prop := fnExactValidPictureUptoRow.holds Try.pinned (OpenSpec.upto fnExactValidPictureSpec)

/-- 'laws.FnExactPictureHas', WHERE WHAT IT READS IS OF BULK AT MOST 1048576: true; the input reads as it did. -/
def fnExactPictureHasUptoRow : OpenClaim := { program := "ythicgmdkipgkaaa", sum := "f6fee199321a315b16868b024788a9955b6b41929f39453c665659124489ed98", func := "loop.example/g01171/laws.FnExactPictureHas", spec := "fnExactPictureHas", unfollowed := true, recurses := true, plainKeys := false, apart := false, narrowed := true }
def FnExactPictureHasUptoSaid : Prop := fnExactPictureHasUptoRow.holds Try.pinned (OpenSpec.upto fnExactPictureHasSpec)

/-- 'laws.FnExactCountPicture', WHERE WHAT IT READS IS OF BULK AT MOST 1048576: true; the input reads as it did. -/
def fnExactCountPictureUptoRow : OpenClaim := { program := "ythicgmdkipgkaaa", sum := "f6fee199321a315b16868b024788a9955b6b41929f39453c665659124489ed98", func := "loop.example/g01171/laws.FnExactCountPicture", spec := "fnExactCountPicture", unfollowed := true, recurses := true, plainKeys := false, apart := false, narrowed := true }
def FnExactCountPictureUptoSaid : Prop := fnExactCountPictureUptoRow.holds Try.pinned (OpenSpec.upto fnExactCountPictureSpec)

/-- 'laws.FnExactPictureOf', WHERE WHAT IT READS IS OF BULK AT MOST 1048576: true; the input reads as it did. -/
def fnExactPictureOfUptoRow : OpenClaim := { program := "ythicgmdkipgkaaa", sum := "f6fee199321a315b16868b024788a9955b6b41929f39453c665659124489ed98", func := "loop.example/g01171/laws.FnExactPictureOf", spec := "fnExactPictureOf", unfollowed := true, recurses := true, plainKeys := false, apart := false, narrowed := true }
def FnExactPictureOfUptoSaid : Prop := fnExactPictureOfUptoRow.holds Try.pinned (OpenSpec.upto fnExactPictureOfSpec)

/-- 'laws.FnExactFrameOf', WHERE WHAT IT READS IS OF BULK AT MOST 1048576: true; the input reads as it did. -/
def fnExactFrameOfUptoRow : OpenClaim := { program := "ythicgmdkipgkaaa", sum := "f6fee199321a315b16868b024788a9955b6b41929f39453c665659124489ed98", func := "loop.example/g01171/laws.FnExactFrameOf", spec := "fnExactFrameOf", unfollowed := true, recurses := true, plainKeys := false, apart := false, narrowed := true }
def FnExactFrameOfUptoSaid : Prop := fnExactFrameOfUptoRow.holds Try.pinned (OpenSpec.upto fnExactFrameOfSpec)

/-- 'laws.FnExactCellsOfPicture', WHERE WHAT IT READS IS OF BULK AT MOST 1048576: true; the input reads as it did. -/
def fnExactCellsOfPictureUptoRow : OpenClaim := { program := "ythicgmdkipgkaaa", sum := "f6fee199321a315b16868b024788a9955b6b41929f39453c665659124489ed98", func := "loop.example/g01171/laws.FnExactCellsOfPicture", spec := "fnExactCellsOfPicture", unfollowed := true, recurses := true, plainKeys := false, apart := false, narrowed := true }
def FnExactCellsOfPictureUptoSaid : Prop := fnExactCellsOfPictureUptoRow.holds Try.pinned (OpenSpec.upto fnExactCellsOfPictureSpec)

/-- 'laws.FnExactJoinPictures', WHERE WHAT IT READS IS OF BULK AT MOST 1048576: true; the input reads as it did. -/
def fnExactJoinPicturesUptoRow : OpenClaim := { program := "ythicgmdkipgkaaa", sum := "f6fee199321a315b16868b024788a9955b6b41929f39453c665659124489ed98", func := "loop.example/g01171/laws.FnExactJoinPictures", spec := "fnExactJoinPictures", unfollowed := true, recurses := true, plainKeys := false, apart := false, narrowed := true }
def FnExactJoinPicturesUptoSaid : Prop := fnExactJoinPicturesUptoRow.holds Try.pinned (OpenSpec.upto fnExactJoinPicturesSpec)

/-- 'laws.FnExactMeetPictures', WHERE WHAT IT READS IS OF BULK AT MOST 1048576: true; the input reads as it did. -/
def fnExactMeetPicturesUptoRow : OpenClaim := { program := "ythicgmdkipgkaaa", sum := "f6fee199321a315b16868b024788a9955b6b41929f39453c665659124489ed98", func := "loop.example/g01171/laws.FnExactMeetPictures", spec := "fnExactMeetPictures", unfollowed := true, recurses := true, plainKeys := false, apart := false, narrowed := true }
def FnExactMeetPicturesUptoSaid : Prop := fnExactMeetPicturesUptoRow.holds Try.pinned (OpenSpec.upto fnExactMeetPicturesSpec)

/-- 'laws.FnExactMinusPictures', WHERE WHAT IT READS IS OF BULK AT MOST 1048576: true; the input reads as it did. -/
def fnExactMinusPicturesUptoRow : OpenClaim := { program := "ythicgmdkipgkaaa", sum := "f6fee199321a315b16868b024788a9955b6b41929f39453c665659124489ed98", func := "loop.example/g01171/laws.FnExactMinusPictures", spec := "fnExactMinusPictures", unfollowed := true, recurses := true, plainKeys := false, apart := false, narrowed := true }
def FnExactMinusPicturesUptoSaid : Prop := fnExactMinusPicturesUptoRow.holds Try.pinned (OpenSpec.upto fnExactMinusPicturesSpec)

end Rows
end Go.Proofs.Ythicgmdkipgkaaa
