/- Words out of codes: the reference's walk. -/
import Derived.Test.YtmagaapdijapiaaRows
import Derived.Test.YtmagaapdijapiaaWj
namespace Go.Proofs.Ytmagaapdijapiaa
open Go.ChangeShapes Go.WideShapes Go.ChangeAt Go.RowKit
theorem strOf_append (a b : List Int) : strOfNums (a ++ b) = strOfNums a ++ strOfNums b := by
  unfold strOfNums
  rw [ByteArray.mk_append_mk, List.map_append]
theorem run_letter (P : Nat) (h : P < 8) (W : World) : (Instr.slice 9 (.string { data := #[97, 65, 98, 66, 99, 67, 100, 68] }) (some (.int .i64 (P : Int))) (some (.int .i64 ((P : Int) + 1))) none).run Try.prog W = .ok (.string (strOfNums [lts.getD P 0])) W := by
  rcases (by omega : P = 0 ∨ P = 1 ∨ P = 2 ∨ P = 3 ∨ P = 4 ∨ P = 5 ∨ P = 6 ∨ P = 7) with rfl | rfl | rfl | rfl | rfl | rfl | rfl | rfl <;> kernel_rfl
end Go.Proofs.Ytmagaapdijapiaa
