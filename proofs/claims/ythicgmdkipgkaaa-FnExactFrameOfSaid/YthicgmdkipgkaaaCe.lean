/- Cells in bounds, corners in order. -/
import Derived.Test.YthicgmdkipgkaaaRows
import Derived.Test.YthicgmdkipgkaaaCd
namespace Go.Proofs.Ythicgmdkipgkaaa
open Go.ChangeShapes Go.WideShapes Go.ChangeAt Go.RowKit
def inB (n lo hi : Int) : Bool := decide (lo ≤ n) && decide (n ≤ hi)
theorem inR_any (n lo hi : Int) (w : World) : Calls Try.prog 79 #[.int .i64 n, .int .i64 lo, .int .i64 hi] w fun e w' => e = .returned (.bool (inB n lo hi)) ∧ w = w' := by
  go_enter Try.func79, Try.ntmps79
  by_cases h : lo ≤ n
  · go_wp2
    go_ret
    exact ⟨by simp [inB, h], rfl⟩
  · go_wp2
    go_ret
    exact ⟨by simp [inB]; omega, rfl⟩
theorem inR32_any (n lo hi : Int) (w : World) : Calls Try.prog 44 #[.int .i32 n, .int .i32 lo, .int .i32 hi] w fun e w' => e = .returned (.bool (inB n lo hi)) ∧ w = w' := by
  go_enter Try.func44, Try.ntmps44
  by_cases h : lo ≤ n
  · go_wp2
    go_ret
    exact ⟨by simp [inB, h], rfl⟩
  · go_wp2
    go_ret
    exact ⟨by simp [inB]; omega, rfl⟩
theorem l00In_any (n lo hi : Int) (w : World) : Calls Try.prog 81 #[.int .i64 n, .int .i64 lo, .int .i64 hi] w fun e w' => e = .returned (.bool (inB n lo hi)) ∧ w = w' := by
  go_enter Try.func81, Try.ntmps81
  by_cases h : lo ≤ n
  · go_wp2
    go_ret
    exact ⟨by simp [inB, h], rfl⟩
  · go_wp2
    go_ret
    exact ⟨by simp [inB]; omega, rfl⟩
def cellB (x y : Int) : Bool := inB x (-1000000) 1000000 && inB y (-1000000) 1000000
theorem isCell_any (x y : Int) (w : World) : Calls Try.prog 48 #[.int .i64 x, .int .i64 y] w fun e w' => e = .returned (.bool (cellB x y)) ∧ w = w' := by
  have h1 := fun W => inR_any x (-1000000) 1000000 W
  have h2 := fun W => inR_any y (-1000000) 1000000 W
  have hc : cellB x y = (inB x (-1000000) 1000000 && inB y (-1000000) 1000000) := rfl
  rw [hc]
  generalize inB x (-1000000) 1000000 = b1 at *
  generalize inB y (-1000000) 1000000 = b2 at *
  clear hc
  cases b1
  · go_enter Try.func48, Try.ntmps48
    go_wp2_with (go_at_call 79; refine (h1 _).mono ?_; rintro e w1 ⟨rfl, rfl⟩)
    go_ret
    exact ⟨rfl, rfl⟩
  · go_enter Try.func48, Try.ntmps48
    go_wp2_with fail
    refine (h1 _).mono ?_
    rintro e w1 ⟨rfl, rfl⟩
    go_wp2_with fail
    refine (h2 _).mono ?_
    rintro e w1 ⟨rfl, rfl⟩
    go_wp2
    go_ret
    exact ⟨rfl, rfl⟩
theorem l07Cell_any (x y : Int) (w : World) : Calls Try.prog 50 #[.int .i64 x, .int .i64 y] w fun e w' => e = .returned (.bool (cellB x y)) ∧ w = w' := by
  have h1 := fun W => l00In_any x (-1000000) 1000000 W
  have h2 := fun W => l00In_any y (-1000000) 1000000 W
  have hc : cellB x y = (inB x (-1000000) 1000000 && inB y (-1000000) 1000000) := rfl
  rw [hc]
  generalize inB x (-1000000) 1000000 = b1 at *
  generalize inB y (-1000000) 1000000 = b2 at *
  clear hc
  cases b1
  · go_enter Try.func50, Try.ntmps50
    go_wp2_with (go_at_call 81; refine (h1 _).mono ?_; rintro e w1 ⟨rfl, rfl⟩)
    go_ret
    exact ⟨rfl, rfl⟩
  · go_enter Try.func50, Try.ntmps50
    go_wp2_with fail
    refine (h1 _).mono ?_
    rintro e w1 ⟨rfl, rfl⟩
    go_wp2_with fail
    refine (h2 _).mono ?_
    rintro e w1 ⟨rfl, rfl⟩
    go_wp2
    go_ret
    exact ⟨rfl, rfl⟩
def cmpI (x y : Int) : Int := if x < y then -1 else if y < x then 1 else 0
theorem nan32_any (x : Int) (w : World) : Calls Try.prog 95 #[.int .i32 x] w fun e w' => e = .returned (.bool false) ∧ w = w' := by
  go_enter Try.func95, Try.ntmps95
  go_wp2
  go_ret
  exact ⟨by simp, rfl⟩
theorem cmpI_any (x y : Int) (w : World) : Calls Try.prog 76 #[.int .i32 x, .int .i32 y] w fun e w' => e = .returned (.int .i64 (cmpI x y)) ∧ w = w' := by
  have h1 := fun x W => nan32_any x W
  have hc : cmpI x y = if x < y then -1 else if y < x then 1 else 0 := rfl
  rw [hc]
  by_cases h : x < y
  · go_enter Try.func76, Try.ntmps76
    go_wp2_with (go_at_call 95; refine (h1 _ _).mono ?_; rintro e w1 ⟨rfl, rfl⟩)
    go_ret
    exact ⟨by simp, rfl⟩
  · by_cases h' : y < x
    · go_enter Try.func76, Try.ntmps76
      go_wp2_with (go_at_call 95; refine (h1 _ _).mono ?_; rintro e w1 ⟨rfl, rfl⟩)
      go_ret
      exact ⟨by simp, rfl⟩
    · go_enter Try.func76, Try.ntmps76
      go_wp2_with (go_at_call 95; refine (h1 _ _).mono ?_; rintro e w1 ⟨rfl, rfl⟩)
      go_ret
      exact ⟨by simp, rfl⟩
def orI (a b : Int) : Int := if a = 0 then b else a
end Go.Proofs.Ythicgmdkipgkaaa
