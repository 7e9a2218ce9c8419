/- BytesOfFrames: the reference's and the program's walk come to the same bytes. -/
import Derived.Test.YtigjdcfdgifonaaRows
import Derived.Test.YtigjdcfdgifonaaSf
import Derived.Test.YtigjdcfdgifonaaSb
namespace Go.Proofs.Ytigjdcfdgifonaa
open Go.ChangeShapes Go.WideShapes Go.ChangeAt Go.RowKit

def bytesOf (l : List (List Int)) : List Int := if l.length ≤ 700 then l.flatten else []
def limitOf (n : Nat) : Int := if n ≤ 700 then 0 else 3
theorem bytesOf_length {l : List (List Int)} (h : Rows_ 16 l) : (bytesOf l).length ≤ 11200 := by
  unfold bytesOf
  split
  · rw [flat_length h]; omega
  · simp

/-- what BytesOfFrames gives -/
def GivesBytes (out : List Int) (code : Int) (w : World) (e : Ending) (w' : World) : Prop :=
  ∃ A c, e = .returned (.tuple #[.slice A out.length c, .int .i64 code]) ∧ Own w' w.heap.size w'.heap.size 5 1 A out.length c (out.map (.int .u8)) ∧ Below w.heap.size w w'

theorem flat_take_succ (l : List (List Int)) (k : Nat) (h : k < l.length) : (l.take (k + 1)).flatten = (l.take k).flatten ++ l[k] := by
  rw [List.take_succ_eq_append_getElem h, List.flatten_append, List.flatten_cons, List.flatten_nil, List.append_nil]

end Go.Proofs.Ytigjdcfdgifonaa
