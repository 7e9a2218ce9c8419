/- Cells in bounds, corners in order. -/
import Derived.Test.YtmagaapdijapiaaRows
import Derived.Test.YtmagaapdijapiaaCd
import Derived.Test.YtmagaapdijapiaaInr
namespace Go.Proofs.Ytmagaapdijapiaa
open Go.ChangeShapes Go.WideShapes Go.ChangeAt Go.RowKit
theorem inR_any (n lo hi : Int) (w : World) : Calls Try.prog 122 #[.int .i64 n, .int .i64 lo, .int .i64 hi] w fun e w' => e = .returned (.bool (inB n lo hi)) ∧ w = w' := by
  go_enter Try.func122, Try.ntmps122
  by_cases h : lo ≤ n
  · go_wp2
    go_ret
    exact ⟨by simp [inB, h], rfl⟩
  · go_wp2
    go_ret
    exact ⟨by simp [inB]; omega, rfl⟩
theorem inR32_any (n lo hi : Int) (w : World) : Calls Try.prog 72 #[.int .i32 n, .int .i32 lo, .int .i32 hi] w fun e w' => e = .returned (.bool (inB n lo hi)) ∧ w = w' := by
  go_enter Try.func72, Try.ntmps72
  by_cases h : lo ≤ n
  · go_wp2
    go_ret
    exact ⟨by simp [inB, h], rfl⟩
  · go_wp2
    go_ret
    exact ⟨by simp [inB]; omega, rfl⟩
def cellB (x y : Int) : Bool := inB x (-1000000) 1000000 && inB y (-1000000) 1000000
theorem isCell_any (x y : Int) (w : World) : Calls Try.prog 76 #[.int .i64 x, .int .i64 y] w fun e w' => e = .returned (.bool (cellB x y)) ∧ w = w' := by
  have h1 := fun W => inR_any x (-1000000) 1000000 W
  have h2 := fun W => inR_any y (-1000000) 1000000 W
  have hc : cellB x y = (inB x (-1000000) 1000000 && inB y (-1000000) 1000000) := rfl
  rw [hc]
  generalize inB x (-1000000) 1000000 = b1 at *
  generalize inB y (-1000000) 1000000 = b2 at *
  clear hc
  cases b1
  · go_enter Try.func76, Try.ntmps76
    go_wp2_with (go_at_call 122; refine (h1 _).mono ?_; rintro e w1 ⟨rfl, rfl⟩)
    go_ret
    exact ⟨rfl, rfl⟩
  · go_enter Try.func76, Try.ntmps76
    go_wp2_with fail
    refine (h1 _).mono ?_
    rintro e w1 ⟨rfl, rfl⟩
    go_wp2_with fail
    refine (h2 _).mono ?_
    rintro e w1 ⟨rfl, rfl⟩
    go_wp2
    go_ret
    exact ⟨rfl, rfl⟩
theorem l07Cell_any (x y : Int) (w : World) : Calls Try.prog 130 #[.int .i64 x, .int .i64 y] w fun e w' => e = .returned (.bool (cellB x y)) ∧ w = w' := by
  have h1 := fun W => l00In_any x (-1000000) 1000000 W
  have h2 := fun W => l00In_any y (-1000000) 1000000 W
  have hc : cellB x y = (inB x (-1000000) 1000000 && inB y (-1000000) 1000000) := rfl
  rw [hc]
  generalize inB x (-1000000) 1000000 = b1 at *
  generalize inB y (-1000000) 1000000 = b2 at *
  clear hc
  cases b1
  · go_enter Try.func130, Try.ntmps130
    go_wp2_with (go_at_call 136; refine (h1 _).mono ?_; rintro e w1 ⟨rfl, rfl⟩)
    go_ret
    exact ⟨rfl, rfl⟩
  · go_enter Try.func130, Try.ntmps130
    go_wp2_with fail
    refine (h1 _).mono ?_
    rintro e w1 ⟨rfl, rfl⟩
    go_wp2_with fail
    refine (h2 _).mono ?_
    rintro e w1 ⟨rfl, rfl⟩
    go_wp2
    go_ret
    exact ⟨rfl, rfl⟩
def cmpI (x y : Int) : Int := if x < y then -1 else if y < x then 1 else 0
theorem nan32_any (x : Int) (w : World) : Calls Try.prog 145 #[.int .i32 x] w fun e w' => e = .returned (.bool false) ∧ w = w' := by
  go_enter Try.func145, Try.ntmps145
  go_wp2
  go_ret
  exact ⟨by simp, rfl⟩
theorem cmpI_any (x y : Int) (w : World) : Calls Try.prog 119 #[.int .i32 x, .int .i32 y] w fun e w' => e = .returned (.int .i64 (cmpI x y)) ∧ w = w' := by
  have h1 := fun x W => nan32_any x W
  have hc : cmpI x y = if x < y then -1 else if y < x then 1 else 0 := rfl
  rw [hc]
  by_cases h : x < y
  · go_enter Try.func119, Try.ntmps119
    go_wp2_with (go_at_call 145; refine (h1 _ _).mono ?_; rintro e w1 ⟨rfl, rfl⟩)
    go_ret
    exact ⟨by simp, rfl⟩
  · by_cases h' : y < x
    · go_enter Try.func119, Try.ntmps119
      go_wp2_with (go_at_call 145; refine (h1 _ _).mono ?_; rintro e w1 ⟨rfl, rfl⟩)
      go_ret
      exact ⟨by simp, rfl⟩
    · go_enter Try.func119, Try.ntmps119
      go_wp2_with (go_at_call 145; refine (h1 _ _).mono ?_; rintro e w1 ⟨rfl, rfl⟩)
      go_ret
      exact ⟨by simp, rfl⟩
def orI (a b : Int) : Int := if a = 0 then b else a
end Go.Proofs.Ytmagaapdijapiaa
