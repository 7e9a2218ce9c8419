/- sameFloat and sameComplex: alike floats are the same. -/
import Derived.Test.YtfjfiljgbkhblaaDoorRows
import Derived.Test.YtfjfiljgbkhblaaDoorSc
import Derived.Deep.RegionWith
namespace Go.Proofs.YtfjfiljgbkhblaaDoor
open Go.ChangeShapes Go.WideShapes Go.ChangeAt Go.RowKit

theorem int_compare_eq {x y : Int} (h : compare x y = .eq) : x = y := by
  have h' : compareOfLessAndEq x y = .eq := h
  unfold compareOfLessAndEq at h'
  split at h'
  · cases h'
  · split at h'
    · assumption
    · cases h'
theorem zero_quo {a : Nat} (h : Op.floatEq .f64 a 0 = true) : ∃ r, floatBits .quo .f64 4607182418800017408 a = some r := by
  have h1 : (FloatKind.f64.format.order a 0 == some .eq) = true := h
  rw [beq_iff_eq] at h1
  unfold Ieee.Format.order at h1
  have h0 : FloatKind.f64.format.read 0 = .number false 0 (-1074) := by decide +kernel
  have hone : FloatKind.f64.format.read 4607182418800017408 = .number false 4503599627370496 (-52) := by decide +kernel
  show ∃ r, FloatKind.f64.format.div 4607182418800017408 a = some r
  unfold Ieee.Format.div
  rw [hone]
  rw [h0] at h1
  cases hd : FloatKind.f64.format.read a with
  | nan s f => rw [hd] at h1; cases h1
  | infinity s => rw [hd] at h1; cases s <;> cases h1
  | number s m i =>
    rw [hd] at h1
    have hm : m = 0 := by
      simp only [Ieee.Datum.order, Option.some.injEq] at h1
      have h2 := int_compare_eq h1
      unfold Ieee.signed at h2
      simp only [Nat.shiftLeft_eq, Nat.zero_mul, Bool.false_eq_true, if_false] at h2
      by_cases e : m = 0
      · exact e
      · exfalso
        have hp : 0 < m * 2 ^ (i - min i (-1074)).toNat := Nat.mul_pos (Nat.pos_of_ne_zero e) (Nat.two_pow_pos _)
        generalize m * 2 ^ (i - min i (-1074)).toNat = p at *
        split at h2 <;> omega
    subst hm
    exact ⟨_, rfl⟩

set_option maxHeartbeats 800000 in
theorem sameFloat_alike (a b : Nat) (h : alike a b) (w : World) :
    Calls Tryd.prog 19 #[.float .f64 a, .float .f64 b] w fun e w' => e = .returned (.bool true) ∧ w' = w := by
  rcases h with ⟨rfl, h⟩ | ⟨ha, hb⟩
  · have hn := feq_self h
    have hn1 : FloatKind.f64.format.order a a = some .eq := order_self h
    cases hz : Op.floatEq .f64 a 0
    · have hz1 : (FloatKind.f64.format.order a 0 == some .eq) = false := hz
      clear h
      go_enter Tryd.func19, Tryd.ntmps19
      go_wp2_with (simp only [hn1, hz1])
      all_goals (go_ret; exact ⟨rfl, rfl⟩)
    · obtain ⟨r, hr⟩ := zero_quo hz
      have hq : ∀ t W, (binOp .quo t (.float .f64 4607182418800017408) (.float .f64 a)).run Tryd.prog W = .ok (.float .f64 r) W := fun t W => run_float_arith W .quo t .f64 _ a r hr
      have hz1 : (FloatKind.f64.format.order a 0 == some .eq) = true := hz
      clear h hr
      go_enter Tryd.func19, Tryd.ntmps19
      go_wp2_with (simp only [hn1, hz1, hq])
      all_goals (go_ret; exact ⟨rfl, rfl⟩)
  · have h1 := fun y => order_nan y ha
    have h2 := fun y => order_nan y hb
    go_enter Tryd.func19, Tryd.ntmps19
    go_wp2_with (simp only [h1, h2])
    all_goals (go_ret; exact ⟨rfl, rfl⟩)
end Go.Proofs.YtfjfiljgbkhblaaDoor
