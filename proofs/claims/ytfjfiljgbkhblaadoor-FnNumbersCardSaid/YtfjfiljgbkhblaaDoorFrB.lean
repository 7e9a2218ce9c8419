/- Whether a number lies between two others; the check of a payload; frames. Each function leaves what was there as it was. -/
import Derived.Test.YtfjfiljgbkhblaaDoorRows
import Derived.Test.YtfjfiljgbkhblaaDoorFrA
import Derived.Test.YtfjfiljgbkhblaaDoorInr
namespace Go.Proofs.YtfjfiljgbkhblaaDoor
open Go.ChangeShapes Go.WideShapes Go.ChangeAt Go.RowKit

set_option maxHeartbeats 400000 in
theorem inRange_any (n lo hi : Int) (w : World) : Calls Tryd.prog 47 #[.int .i64 n, .int .i64 lo, .int .i64 hi] w fun e w' => e = .returned (.bool (inB n lo hi)) ∧ w = w' := by
  go_enter Tryd.func47, Tryd.ntmps47
  go_wp2
  all_goals
    go_ret
    exact ⟨by simp [inB, *]; try omega, rfl⟩

def four (n : Int) : List Int := [n / 16777216 % 256, n / 65536 % 256, n / 256 % 256, n % 256]

theorem uint8_info : (Tryd.prog.info? 5).map (fun i => (i.zero, i.size, i.bytes)) = some (some (.int .u8 0), 1, 1) := by kernel_rfl

def put4 (l : List Int) (o : Nat) (n : Int) : List Int := (((l.set o (n / 16777216 % 256)).set (o + 1) (n / 65536 % 256)).set (o + 2) (n / 256 % 256)).set (o + 3) (n % 256)
theorem put4_length (l : List Int) (o : Nat) (n : Int) : (put4 l o n).length = l.length := by simp [put4]

end Go.Proofs.YtfjfiljgbkhblaaDoor
