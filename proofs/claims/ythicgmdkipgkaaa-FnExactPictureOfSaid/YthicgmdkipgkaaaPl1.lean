/- What is told of cells has at most 64 blocks. No program in sight. -/
import Derived.Test.YthicgmdkipgkaaaRows
import Derived.Test.YthicgmdkipgkaaaPf
import Derived.Test.YthicgmdkipgkaaaJb
namespace Go.Proofs.Ythicgmdkipgkaaa
open Go.ChangeShapes Go.WideShapes Go.ChangeAt Go.RowKit
theorem pofL_bls (l : List (List Int)) : Bls (pofL l) := by
  rw [pofL]
  split
  · exact fun b hb => by cases hb
  · split
    · exact picR_bls (picOf_bls _)
    · exact fun b hb => by cases hb
theorem pofL_length (l : List (List Int)) : (pofL l).length ≤ 64 := by
  rw [pofL]
  split
  · exact Nat.zero_le _
  · split
    · exact picR_length _
    · exact Nat.zero_le _
end Go.Proofs.Ythicgmdkipgkaaa
