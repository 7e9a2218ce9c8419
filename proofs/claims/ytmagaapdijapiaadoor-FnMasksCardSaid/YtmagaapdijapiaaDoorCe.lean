/- Cells in bounds, corners in order. -/
import Derived.Test.YtmagaapdijapiaaDoorRows
import Derived.Test.YtmagaapdijapiaaDoorCd
import Derived.Test.YtmagaapdijapiaaDoorInr
namespace Go.Proofs.YtmagaapdijapiaaDoor
open Go.ChangeShapes Go.WideShapes Go.ChangeAt Go.RowKit
theorem inR_any (n lo hi : Int) (w : World) : Calls Tryd.prog 60 #[.int .i64 n, .int .i64 lo, .int .i64 hi] w fun e w' => e = .returned (.bool (inB n lo hi)) ∧ w = w' := by
  go_enter Tryd.func60, Tryd.ntmps60
  by_cases h : lo ≤ n
  · go_wp2
    go_ret
    exact ⟨by simp [inB, h], rfl⟩
  · go_wp2
    go_ret
    exact ⟨by simp [inB]; omega, rfl⟩
theorem inR32_any (n lo hi : Int) (w : World) : Calls Tryd.prog 68 #[.int .i32 n, .int .i32 lo, .int .i32 hi] w fun e w' => e = .returned (.bool (inB n lo hi)) ∧ w = w' := by
  go_enter Tryd.func68, Tryd.ntmps68
  by_cases h : lo ≤ n
  · go_wp2
    go_ret
    exact ⟨by simp [inB, h], rfl⟩
  · go_wp2
    go_ret
    exact ⟨by simp [inB]; omega, rfl⟩
def cellB (x y : Int) : Bool := inB x (-1000000) 1000000 && inB y (-1000000) 1000000
theorem isCell_any (x y : Int) (w : World) : Calls Tryd.prog 47 #[.int .i64 x, .int .i64 y] w fun e w' => e = .returned (.bool (cellB x y)) ∧ w = w' := by
  have h1 := fun W => inR_any x (-1000000) 1000000 W
  have h2 := fun W => inR_any y (-1000000) 1000000 W
  have hc : cellB x y = (inB x (-1000000) 1000000 && inB y (-1000000) 1000000) := rfl
  rw [hc]
  generalize inB x (-1000000) 1000000 = b1 at *
  generalize inB y (-1000000) 1000000 = b2 at *
  clear hc
  cases b1
  · go_enter Tryd.func47, Tryd.ntmps47
    go_wp2_with (go_at_call 60; refine (h1 _).mono ?_; rintro e w1 ⟨rfl, rfl⟩)
    go_ret
    exact ⟨rfl, rfl⟩
  · go_enter Tryd.func47, Tryd.ntmps47
    go_wp2_with fail
    refine (h1 _).mono ?_
    rintro e w1 ⟨rfl, rfl⟩
    go_wp2_with fail
    refine (h2 _).mono ?_
    rintro e w1 ⟨rfl, rfl⟩
    go_wp2
    go_ret
    exact ⟨rfl, rfl⟩
theorem l07Cell_any (x y : Int) (w : World) : Calls Tryd.prog 86 #[.int .i64 x, .int .i64 y] w fun e w' => e = .returned (.bool (cellB x y)) ∧ w = w' := by
  have h1 := fun W => l00In_any x (-1000000) 1000000 W
  have h2 := fun W => l00In_any y (-1000000) 1000000 W
  have hc : cellB x y = (inB x (-1000000) 1000000 && inB y (-1000000) 1000000) := rfl
  rw [hc]
  generalize inB x (-1000000) 1000000 = b1 at *
  generalize inB y (-1000000) 1000000 = b2 at *
  clear hc
  cases b1
  · go_enter Tryd.func86, Tryd.ntmps86
    go_wp2_with (go_at_call 102; refine (h1 _).mono ?_; rintro e w1 ⟨rfl, rfl⟩)
    go_ret
    exact ⟨rfl, rfl⟩
  · go_enter Tryd.func86, Tryd.ntmps86
    go_wp2_with fail
    refine (h1 _).mono ?_
    rintro e w1 ⟨rfl, rfl⟩
    go_wp2_with fail
    refine (h2 _).mono ?_
    rintro e w1 ⟨rfl, rfl⟩
    go_wp2
    go_ret
    exact ⟨rfl, rfl⟩
def cmpI (x y : Int) : Int := if x < y then -1 else if y < x then 1 else 0
theorem nan32_any (x : Int) (w : World) : Calls Tryd.prog 91 #[.int .i32 x] w fun e w' => e = .returned (.bool false) ∧ w = w' := by
  go_enter Tryd.func91, Tryd.ntmps91
  go_wp2
  go_ret
  exact ⟨by simp, rfl⟩
theorem cmpI_any (x y : Int) (w : World) : Calls Tryd.prog 81 #[.int .i32 x, .int .i32 y] w fun e w' => e = .returned (.int .i64 (cmpI x y)) ∧ w = w' := by
  have h1 := fun x W => nan32_any x W
  have hc : cmpI x y = if x < y then -1 else if y < x then 1 else 0 := rfl
  rw [hc]
  by_cases h : x < y
  · go_enter Tryd.func81, Tryd.ntmps81
    go_wp2_with (go_at_call 91; refine (h1 _ _).mono ?_; rintro e w1 ⟨rfl, rfl⟩)
    go_ret
    exact ⟨by simp, rfl⟩
  · by_cases h' : y < x
    · go_enter Tryd.func81, Tryd.ntmps81
      go_wp2_with (go_at_call 91; refine (h1 _ _).mono ?_; rintro e w1 ⟨rfl, rfl⟩)
      go_ret
      exact ⟨by simp, rfl⟩
    · go_enter Tryd.func81, Tryd.ntmps81
      go_wp2_with (go_at_call 91; refine (h1 _ _).mono ?_; rintro e w1 ⟨rfl, rfl⟩)
      go_ret
      exact ⟨by simp, rfl⟩
def orI (a b : Int) : Int := if a = 0 then b else a
end Go.Proofs.YtmagaapdijapiaaDoor
