/- Cells of a row counted. No program in sight. -/
import Derived.Test.YtmagaapdijapiaaDoorRows
import Derived.Test.YtmagaapdijapiaaDoorMa
namespace Go.Proofs.YtmagaapdijapiaaDoor
open Go.ChangeShapes Go.WideShapes Go.ChangeAt Go.RowKit
/-! ### the cells of a row -/
def popR (v : Int) : Nat := (List.range 16).countP (rowBit v)
theorem popR_le (v : Int) : popR v ≤ 16 := by
  have := List.countP_le_length (p := rowBit v) (l := List.range 16)
  rwa [List.length_range] at this
theorem cnt_row (M : List Int) (y : Nat) : cnt (bitB M) (16 * (y + 1)) = cnt (bitB M) (16 * y) + popR (M.getD y 0) := by
  rw [cnt, show 16 * (y + 1) = 16 * y + 16 by omega, List.range_add, List.countP_append, List.countP_map]
  congr 1
  refine List.countP_congr fun j hj => ?_
  have := List.mem_range.1 hj
  show bitB M _ _ = true ↔ rowBit _ _ = true
  rw [show (16 * y + j) % 16 = j by omega, show (16 * y + j) / 16 = y by omega]
  exact Iff.rfl
def cnt8 (v : Int) : Nat := (List.range 8).countP (rowBit v)
theorem popR_two {v : Int} (h0 : 0 ≤ v) (h1 : v < 65536) : popR v = cnt8 (v / 256) + cnt8 (v % 256) := by
  have hr : ∀ x, x < 8 → rowBit (v % 256) x = rowBit v x ∧ rowBit (v / 256) x = rowBit v (8 + x) := fun x hx => by
    rw [rowBit, rowBit, rowBit, rowBit]
    rcases (by omega : x = 0 ∨ x = 1 ∨ x = 2 ∨ x = 3 ∨ x = 4 ∨ x = 5 ∨ x = 6 ∨ x = 7) with rfl | rfl | rfl | rfl | rfl | rfl | rfl | rfl <;> exact ⟨decide_eq_decide.2 (by omega), decide_eq_decide.2 (by omega)⟩
  rw [popR, show (16 : Nat) = 8 + 8 from rfl, List.range_add, List.countP_append, List.countP_map, Nat.add_comm, cnt8, cnt8]
  congr 1
  · refine List.countP_congr fun j hj => ?_
    show rowBit v (8 + j) = true ↔ _
    rw [(hr j (List.mem_range.1 hj)).2]
  · refine List.countP_congr fun j hj => ?_
    rw [(hr j (List.mem_range.1 hj)).1]
end Go.Proofs.YtmagaapdijapiaaDoor
