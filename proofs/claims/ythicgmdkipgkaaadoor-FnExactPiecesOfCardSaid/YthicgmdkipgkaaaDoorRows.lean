/-
  NARROWER THAN 'FOR EVERY INPUT', by the rows' own cells (each row's printed sentence says how): FnExactEdgeOf: laid · FnExactPieceOf: laid · FnExactPiecesOf: laid.
  DERIVED. THE GIVEN ROWS OF THIS SEAT. 3 by the template 'for every input the law returns true; each argument reads behind the call as it read before'; 0 by the template 'total and deterministic' (their statements: YthicgmdkipgkaaaDoorTotals.lean).
  GIVEN WITH THE SEED: the statements are not yours to turn. If you find one false, say at which input.
  Laid BY PROGRAM, IN A SANDBOX (cutbox-rows.mjs): the forced cells as the released guide's own fill.sh prints them over the translation 01689cd412f11436… (all of the seat's roots in one cut). By AI agents, Wed Nov 11 2026. No macro, syntax, notation, axiom, sorry.
-/
import Derived.Test.YthicgmdkipgkaaaDoorChecked
import GoSem.Claim
import GoSem.ClaimJoined
import GoSem.ClaimMapViews
import Derived.JoinedTies
import Derived.KernelRfl
namespace Go.Proofs.YthicgmdkipgkaaaDoor
/- THE CELL 'sum', in the pinned program and in every row, IS THE sha256 OF THE DUMP (.gsa) THAT YthicgmdkipgkaaaDoorProg.lean LOADS. Nothing in Lean hashes anything: it is a label: what it is worth is what the hold of that sum in a sandbox is worth. -/
noncomputable def Tryd.pinned : Pinned := { name := "ythicgmdkipgkaaadoor", sum := "01689cd412f11436c69326495962fdaa3ae4cbef0bdac8d3c28ba838cee176b3", checked := Tryd.checked }
namespace Rows
def none {H : Type} : Left H := { results := [], args := [] }

/- WHAT THE LISTED PACKAGE-LEVEL VARIABLES READ AS WHEN THE CALL BEGINS. Each datum BY PROGRAM (the guide's laid-datum.mjs) off the statement by which the dump's own 'gosem.cut.vars' lays the variable. In a bare row this is a premise. The card (YthicgmdkipgkaaaDoorCards.lean) ties it to the program's text. -/
def laid_loop_example_g01171_impl_around {H : Type} : DataW H := .agg [.agg [.lit (.int .i32 1), .lit (.int .i32 0)], .agg [.lit (.int .i32 (-1)), .lit (.int .i32 0)], .agg [.lit (.int .i32 0), .lit (.int .i32 1)], .agg [.lit (.int .i32 0), .lit (.int .i32 (-1))], .agg [.lit (.int .i32 1), .lit (.int .i32 1)], .agg [.lit (.int .i32 1), .lit (.int .i32 (-1))], .agg [.lit (.int .i32 (-1)), .lit (.int .i32 1)], .agg [.lit (.int .i32 (-1)), .lit (.int .i32 (-1))]]

/-- 'laws.FnExactEdgeOf': WHATEVER THE INPUT: true; the input reads as it did. -/
def fnExactEdgeOfSpec : ChangeSpec := { name := "fnExactEdgeOf", vars := ["loop.example/g01171/impl.around"], fn := fun _ => fun
  | [d, g1] => { results := [.lit (.bool true)], args := [d], vars := [g1] }
  | _ => none }
def fnExactEdgeOfRow : OpenClaim := { program := "ythicgmdkipgkaaadoor", sum := "01689cd412f11436c69326495962fdaa3ae4cbef0bdac8d3c28ba838cee176b3", func := "loop.example/g01171/laws.FnExactEdgeOf", spec := "fnExactEdgeOf", unfollowed := true, recurses := true, named := ["loop.example/g01171/impl.around"], plainKeys := false, apart := false, laid := [("loop.example/g01171/impl.around", laid_loop_example_g01171_impl_around)] }
def FnExactEdgeOfSaid : Prop := fnExactEdgeOfRow.holds Tryd.pinned (OpenSpec.ofChange fnExactEdgeOfSpec)

/-- ITS FALSE NEIGHBOUR: 'it returns false'. Refute it at one input. -/
def fnExactEdgeOfWrong : ChangeSpec := { name := "fnExactEdgeOf", vars := ["loop.example/g01171/impl.around"], fn := fun _ => fun
  | [d, g1] => { results := [.lit (.bool false)], args := [d], vars := [g1] }
  | _ => none }
def FnExactEdgeOfWrongFalsely : Prop := fnExactEdgeOfRow.holds Tryd.pinned (OpenSpec.ofChange fnExactEdgeOfWrong)

/-- 'laws.FnExactPieceOf': WHATEVER THE INPUT: true; the input reads as it did. -/
def fnExactPieceOfSpec : ChangeSpec := { name := "fnExactPieceOf", vars := ["loop.example/g01171/impl.around"], fn := fun _ => fun
  | [d1, d2, d3, d4, g1] => { results := [.lit (.bool true)], args := [d1, d2, d3, d4], vars := [g1] }
  | _ => none }
def fnExactPieceOfRow : OpenClaim := { program := "ythicgmdkipgkaaadoor", sum := "01689cd412f11436c69326495962fdaa3ae4cbef0bdac8d3c28ba838cee176b3", func := "loop.example/g01171/laws.FnExactPieceOf", spec := "fnExactPieceOf", unfollowed := true, recurses := true, named := ["loop.example/g01171/impl.around"], plainKeys := false, apart := false, laid := [("loop.example/g01171/impl.around", laid_loop_example_g01171_impl_around)] }
def FnExactPieceOfSaid : Prop := fnExactPieceOfRow.holds Tryd.pinned (OpenSpec.ofChange fnExactPieceOfSpec)

/-- ITS FALSE NEIGHBOUR: 'it returns false'. Refute it at one input. -/
def fnExactPieceOfWrong : ChangeSpec := { name := "fnExactPieceOf", vars := ["loop.example/g01171/impl.around"], fn := fun _ => fun
  | [d1, d2, d3, d4, g1] => { results := [.lit (.bool false)], args := [d1, d2, d3, d4], vars := [g1] }
  | _ => none }
def FnExactPieceOfWrongFalsely : Prop := fnExactPieceOfRow.holds Tryd.pinned (OpenSpec.ofChange fnExactPieceOfWrong)

/-- 'laws.FnExactPiecesOf': WHATEVER THE INPUT: true; the input reads as it did. -/
def fnExactPiecesOfSpec : ChangeSpec := { name := "fnExactPiecesOf", vars := ["loop.example/g01171/impl.around"], fn := fun _ => fun
  | [d1, d2, g1] => { results := [.lit (.bool true)], args := [d1, d2], vars := [g1] }
  | _ => none }
def fnExactPiecesOfRow : OpenClaim := { program := "ythicgmdkipgkaaadoor", sum := "01689cd412f11436c69326495962fdaa3ae4cbef0bdac8d3c28ba838cee176b3", func := "loop.example/g01171/laws.FnExactPiecesOf", spec := "fnExactPiecesOf", unfollowed := true, recurses := true, named := ["loop.example/g01171/impl.around"], plainKeys := false, apart := false, laid := [("loop.example/g01171/impl.around", laid_loop_example_g01171_impl_around)] }
def FnExactPiecesOfSaid : Prop := fnExactPiecesOfRow.holds Tryd.pinned (OpenSpec.ofChange fnExactPiecesOfSpec)

/-- ITS FALSE NEIGHBOUR: 'it returns false'. Refute it at one input. -/
def fnExactPiecesOfWrong : ChangeSpec := { name := "fnExactPiecesOf", vars := ["loop.example/g01171/impl.around"], fn := fun _ => fun
  | [d1, d2, g1] => { results := [.lit (.bool false)], args := [d1, d2], vars := [g1] }
  | _ => none }
def FnExactPiecesOfWrongFalsely : Prop := fnExactPiecesOfRow.holds Tryd.pinned (OpenSpec.ofChange fnExactPiecesOfWrong)

/- THE SECOND FORM. 'bulk': how many values and letters a reading holds, each counted each time it is reached (what is shared counts as often as it is met; a slice's spare places count too). A statement '..UptoSaid' is the law's where the arguments, and the package variables that the reading takes, are together of bulk at most 1048576: NARROWER than '..Said'. Prove '..Said' where nothing that the law and all that it calls make is longer than what came in: it says more and counts as full. Else prove '..UptoSaid'. A law counts once. -/
mutual
def uptoBulk {H : Type} : DataW H → Nat
  | .lit (.string bytes) => bytes.length + 1
  | .lit _ => 1
  | .nil => 1
  | .ptr d => uptoBulk d + 1
  | .slice elems spare => uptoBulkAll elems + uptoBulkAll spare + 1
  | .agg parts => uptoBulkAll parts + 1
  | .iface _ d => uptoBulk d + 1
  | .map entries => uptoBulkEntries entries + 1
  | .held _ => 1
def uptoBulkAll {H : Type} : List (DataW H) → Nat
  | [] => 0
  | d :: r => uptoBulk d + uptoBulkAll r
def uptoBulkEntries {H : Type} : List (Lit × DataW H) → Nat
  | [] => 0
  | x :: r => uptoBulkEntry x + uptoBulkEntries r
def uptoBulkEntry {H : Type} : Lit × DataW H → Nat
  | (.string bytes, d) => bytes.length + uptoBulk d + 1
  | (_, d) => uptoBulk d + 1
 end
def uptoSmall : (H : Type) → List (DataW H) → Bool := fun _ ds => decide (uptoBulkAll ds ≤ 1048576)
def OpenSpec.upto (s : _root_.Go.ChangeSpec) : _root_.Go.OpenSpec := { _root_.Go.OpenSpec.ofChange s with cond := some uptoSmall }

/-- 'laws.FnExactEdgeOf', WHERE WHAT IT READS IS OF BULK AT MOST 1048576: true; the input reads as it did. -/
def fnExactEdgeOfUptoRow : OpenClaim := { program := "ythicgmdkipgkaaadoor", sum := "01689cd412f11436c69326495962fdaa3ae4cbef0bdac8d3c28ba838cee176b3", func := "loop.example/g01171/laws.FnExactEdgeOf", spec := "fnExactEdgeOf", unfollowed := true, recurses := true, named := ["loop.example/g01171/impl.around"], plainKeys := false, apart := false, laid := [("loop.example/g01171/impl.around", laid_loop_example_g01171_impl_around)], narrowed := true }
def FnExactEdgeOfUptoSaid : Prop := fnExactEdgeOfUptoRow.holds Tryd.pinned (OpenSpec.upto fnExactEdgeOfSpec)

/-- 'laws.FnExactPieceOf', WHERE WHAT IT READS IS OF BULK AT MOST 1048576: true; the input reads as it did. -/
def fnExactPieceOfUptoRow : OpenClaim := { program := "ythicgmdkipgkaaadoor", sum := "01689cd412f11436c69326495962fdaa3ae4cbef0bdac8d3c28ba838cee176b3", func := "loop.example/g01171/laws.FnExactPieceOf", spec := "fnExactPieceOf", unfollowed := true, recurses := true, named := ["loop.example/g01171/impl.around"], plainKeys := false, apart := false, laid := [("loop.example/g01171/impl.around", laid_loop_example_g01171_impl_around)], narrowed := true }
def FnExactPieceOfUptoSaid : Prop := fnExactPieceOfUptoRow.holds Tryd.pinned (OpenSpec.upto fnExactPieceOfSpec)

/-- 'laws.FnExactPiecesOf', WHERE WHAT IT READS IS OF BULK AT MOST 1048576: true; the input reads as it did. -/
def fnExactPiecesOfUptoRow : OpenClaim := { program := "ythicgmdkipgkaaadoor", sum := "01689cd412f11436c69326495962fdaa3ae4cbef0bdac8d3c28ba838cee176b3", func := "loop.example/g01171/laws.FnExactPiecesOf", spec := "fnExactPiecesOf", unfollowed := true, recurses := true, named := ["loop.example/g01171/impl.around"], plainKeys := false, apart := false, laid := [("loop.example/g01171/impl.around", laid_loop_example_g01171_impl_around)], narrowed := true }
def FnExactPiecesOfUptoSaid : Prop := fnExactPiecesOfUptoRow.holds Tryd.pinned (OpenSpec.upto fnExactPiecesOfSpec)

end Rows
end Go.Proofs.YthicgmdkipgkaaaDoor
