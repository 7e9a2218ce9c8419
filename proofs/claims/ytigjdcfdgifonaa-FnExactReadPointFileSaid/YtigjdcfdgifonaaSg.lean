/- How much is left of the law's measure. -/
import Derived.Test.YtigjdcfdgifonaaRows
import Derived.Test.YtigjdcfdgifonaaSf
namespace Go.Proofs.Ytigjdcfdgifonaa
open Go.ChangeShapes Go.WideShapes Go.ChangeAt Go.RowKit
theorem szFrameS_in (A : Option Addr) (n c : Nat) (left : Int) (h : n ≤ left) (h2 : left ≤ 1048576) (w : World) :
    Calls Try.prog 8 #[.slice A n c, .int .i64 left] w fun e w' => e = .returned (.int .i64 (left - n)) ∧ w = w' := by
  go_enter Try.func8, Try.ntmps8
  go_wp2
  go_ret
  exact ⟨rfl, rfl⟩
theorem szFrameS_out (A : Option Addr) (n c : Nat) (left : Int) (h : left < n) (hn : n ≤ 9223372036854775807) (h0 : 0 ≤ left) (h2 : left ≤ 1048576) (w : World) :
    Calls Try.prog 8 #[.slice A n c, .int .i64 left] w fun e w' => e = .returned (.int .i64 (-1)) ∧ w = w' := by
  go_enter Try.func8, Try.ntmps8
  go_wp2
  go_ret
  exact ⟨rfl, rfl⟩
end Go.Proofs.Ytigjdcfdgifonaa
