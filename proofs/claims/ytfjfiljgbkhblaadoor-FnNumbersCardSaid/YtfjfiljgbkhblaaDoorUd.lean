/- Two lists of frames held against each other, by the reference and by the program. -/
import Derived.Test.YtfjfiljgbkhblaaDoorRows
import Derived.Test.YtfjfiljgbkhblaaDoorSf
import Derived.Test.YtfjfiljgbkhblaaDoorSb
import Derived.Test.YtfjfiljgbkhblaaDoorLd
import Derived.Test.YtfjfiljgbkhblaaDoorEqA
import Derived.Deep.QuietTactic
import Derived.BigQuiet
namespace Go.Proofs.YtfjfiljgbkhblaaDoor
open Go.ChangeShapes Go.WideShapes Go.ChangeAt Go.RowKit

theorem rowAt_drewN (W : World) (m g o n : Nat) : rowAt (W.drewN m) g o n = rowAt W g o n := rfl
theorem hasRow_drewN (W : World) (m g o n : Nat) : hasRow (W.drewN m) g o n = hasRow W g o n := rfl
theorem beq_of_takes {α : Type} [BEq α] [LawfulBEq α] {a b : List α} {n : Nat} (ha : a.length = n) (hb : b.length = n) (h : a.take n = b.take n) : (a == b) = true := by
  rw [List.take_of_length_le (by omega), List.take_of_length_le (by omega)] at h
  subst h
  exact beq_self_eq_true _
theorem bne_of_at {α : Type} [BEq α] [LawfulBEq α] {a b : List α} {k : Nat} (ha : k < a.length) (hb : k < b.length) (h : a[k] ≠ b[k]) : (a == b) = false := by
  rw [beq_eq_false_iff_ne]
  rintro rfl
  exact h rfl
theorem take_eq_succ {α : Type} {a b : List α} {k : Nat} (ha : k < a.length) (hb : k < b.length) (h : a.take k = b.take k) (he : a[k] = b[k]) : a.take (k + 1) = b.take (k + 1) := by
  rw [List.take_succ_eq_append_getElem ha, List.take_succ_eq_append_getElem hb, h, he]

section
end
end Go.Proofs.YtfjfiljgbkhblaaDoor
