/- Cells in bounds, corners in order. -/
import Derived.Test.YthicgmdkipgkaaaDoorRows
import Derived.Test.YthicgmdkipgkaaaDoorCd
namespace Go.Proofs.YthicgmdkipgkaaaDoor
open Go.ChangeShapes Go.WideShapes Go.ChangeAt Go.RowKit
def inB (n lo hi : Int) : Bool := decide (lo ≤ n) && decide (n ≤ hi)
theorem inR_any (n lo hi : Int) (w : World) : Calls Tryd.prog 62 #[.int .i64 n, .int .i64 lo, .int .i64 hi] w fun e w' => e = .returned (.bool (inB n lo hi)) ∧ w = w' := by
  go_enter Tryd.func62, Tryd.ntmps62
  by_cases h : lo ≤ n
  · go_wp2
    go_ret
    exact ⟨by simp [inB, h], rfl⟩
  · go_wp2
    go_ret
    exact ⟨by simp [inB]; omega, rfl⟩
theorem inR32_any (n lo hi : Int) (w : World) : Calls Tryd.prog 49 #[.int .i32 n, .int .i32 lo, .int .i32 hi] w fun e w' => e = .returned (.bool (inB n lo hi)) ∧ w = w' := by
  go_enter Tryd.func49, Tryd.ntmps49
  by_cases h : lo ≤ n
  · go_wp2
    go_ret
    exact ⟨by simp [inB, h], rfl⟩
  · go_wp2
    go_ret
    exact ⟨by simp [inB]; omega, rfl⟩
theorem l00In_any (n lo hi : Int) (w : World) : Calls Tryd.prog 59 #[.int .i64 n, .int .i64 lo, .int .i64 hi] w fun e w' => e = .returned (.bool (inB n lo hi)) ∧ w = w' := by
  go_enter Tryd.func59, Tryd.ntmps59
  by_cases h : lo ≤ n
  · go_wp2
    go_ret
    exact ⟨by simp [inB, h], rfl⟩
  · go_wp2
    go_ret
    exact ⟨by simp [inB]; omega, rfl⟩
def cellB (x y : Int) : Bool := inB x (-1000000) 1000000 && inB y (-1000000) 1000000
theorem isCell_any (x y : Int) (w : World) : Calls Tryd.prog 35 #[.int .i64 x, .int .i64 y] w fun e w' => e = .returned (.bool (cellB x y)) ∧ w = w' := by
  have h1 := fun W => inR_any x (-1000000) 1000000 W
  have h2 := fun W => inR_any y (-1000000) 1000000 W
  have hc : cellB x y = (inB x (-1000000) 1000000 && inB y (-1000000) 1000000) := rfl
  rw [hc]
  generalize inB x (-1000000) 1000000 = b1 at *
  generalize inB y (-1000000) 1000000 = b2 at *
  clear hc
  cases b1
  · go_enter Tryd.func35, Tryd.ntmps35
    go_wp2_with (go_at_call 62; refine (h1 _).mono ?_; rintro e w1 ⟨rfl, rfl⟩)
    go_ret
    exact ⟨rfl, rfl⟩
  · go_enter Tryd.func35, Tryd.ntmps35
    go_wp2_with fail
    refine (h1 _).mono ?_
    rintro e w1 ⟨rfl, rfl⟩
    go_wp2_with fail
    refine (h2 _).mono ?_
    rintro e w1 ⟨rfl, rfl⟩
    go_wp2
    go_ret
    exact ⟨rfl, rfl⟩
theorem l07Cell_any (x y : Int) (w : World) : Calls Tryd.prog 33 #[.int .i64 x, .int .i64 y] w fun e w' => e = .returned (.bool (cellB x y)) ∧ w = w' := by
  have h1 := fun W => l00In_any x (-1000000) 1000000 W
  have h2 := fun W => l00In_any y (-1000000) 1000000 W
  have hc : cellB x y = (inB x (-1000000) 1000000 && inB y (-1000000) 1000000) := rfl
  rw [hc]
  generalize inB x (-1000000) 1000000 = b1 at *
  generalize inB y (-1000000) 1000000 = b2 at *
  clear hc
  cases b1
  · go_enter Tryd.func33, Tryd.ntmps33
    go_wp2_with (go_at_call 59; refine (h1 _).mono ?_; rintro e w1 ⟨rfl, rfl⟩)
    go_ret
    exact ⟨rfl, rfl⟩
  · go_enter Tryd.func33, Tryd.ntmps33
    go_wp2_with fail
    refine (h1 _).mono ?_
    rintro e w1 ⟨rfl, rfl⟩
    go_wp2_with fail
    refine (h2 _).mono ?_
    rintro e w1 ⟨rfl, rfl⟩
    go_wp2
    go_ret
    exact ⟨rfl, rfl⟩
def cmpI (x y : Int) : Int := if x < y then -1 else if y < x then 1 else 0
theorem nan32_any (x : Int) (w : World) : Calls Tryd.prog 75 #[.int .i32 x] w fun e w' => e = .returned (.bool false) ∧ w = w' := by
  go_enter Tryd.func75, Tryd.ntmps75
  go_wp2
  go_ret
  exact ⟨by simp, rfl⟩
theorem cmpI_any (x y : Int) (w : World) : Calls Tryd.prog 69 #[.int .i32 x, .int .i32 y] w fun e w' => e = .returned (.int .i64 (cmpI x y)) ∧ w = w' := by
  have h1 := fun x W => nan32_any x W
  have hc : cmpI x y = if x < y then -1 else if y < x then 1 else 0 := rfl
  rw [hc]
  by_cases h : x < y
  · go_enter Tryd.func69, Tryd.ntmps69
    go_wp2_with (go_at_call 75; refine (h1 _ _).mono ?_; rintro e w1 ⟨rfl, rfl⟩)
    go_ret
    exact ⟨by simp, rfl⟩
  · by_cases h' : y < x
    · go_enter Tryd.func69, Tryd.ntmps69
      go_wp2_with (go_at_call 75; refine (h1 _ _).mono ?_; rintro e w1 ⟨rfl, rfl⟩)
      go_ret
      exact ⟨by simp, rfl⟩
    · go_enter Tryd.func69, Tryd.ntmps69
      go_wp2_with (go_at_call 75; refine (h1 _ _).mono ?_; rintro e w1 ⟨rfl, rfl⟩)
      go_ret
      exact ⟨by simp, rfl⟩
def orI (a b : Int) : Int := if a = 0 then b else a
end Go.Proofs.YthicgmdkipgkaaaDoor
