/- Marks of texts, looked at again. -/
import Derived.Test.YtigjdcfdgifonaaRows
import Derived.Test.YtigjdcfdgifonaaSt
namespace Go.Proofs.Ytigjdcfdgifonaa
open Go.ChangeShapes Go.WideShapes Go.ChangeAt Go.RowKit
set_option maxHeartbeats 800000 in
theorem heldStringS_any (A : Option Addr) (n c : Nat) (k : Nat) (h0 : 0 < k) (h1 : k + n < 10000000) (w : World) (hR : Rd w w.heap.size 1 A n (marksT k n)) :
    Calls Try.prog 21 #[.slice A n c, .int .i64 k] w fun e w' => e = .returned (.int .i64 ((k + n : Nat) : Int)) ∧ Below w.heap.size w w' := by
  have HR := Lib.hid hR
  clear hR
  go_enter Try.func21, Try.ntmps21
  go_wp2_with fail
  go_loopw [1, 5] (fun q i wr => ∃ j : Nat, j ≤ n ∧ q = .int .i64 ((k + j : Nat) : Int) ∧ i = .int .i64 j ∧ Below w.heap.size w wr) (fun _ i _ => n - (intOf i).toNat)
  case atStart => exact ⟨0, by omega, rfl, rfl, Below.refl _ _⟩
  case round =>
    obtain ⟨j, hj, rfl, rfl, hb⟩ := hrel
    by_cases hlt : j < n
    · obtain ⟨b, o, rfl, hbB, hc⟩ := (HR.out.below hb (Nat.le_refl _)).at_ (by omega)
      have c1 := hc j _ (marksT_at hlt)
      have hm := fun W => markText_any (k + j) (by omega) (by omega) W
      have HM := Lib.hid hm
      have hlt' : (j : Int) < n := by omega
      have hz := hb.size
      have HB := Lib.hid hb
      clear hm hc hb
      generalize markT (k + j) = s at *
      go_wp2
      go_region_with (go_at_call 51; refine (HM.out _).mono ?_; rintro e w2 ⟨rfl, hb2⟩; have c2 := (hb2.cell (p := ⟨b, o + j, none⟩) (by show b < wr.heap.size; omega)).trans c1; have HB2 := Lib.hid hb2; clear hb2)
      all_goals
        go_wp2
        exact ⟨⟨j + 1, by omega, by go_num, by go_num, (below_drew HB.out).trans (HB2.out.mono hz)⟩, by simp [intOf]; omega⟩
    · obtain rfl : j = n := by omega
      go_wp2
      go_ret
      exact ⟨rfl, hb⟩
theorem heldStringS_one (A : Option Addr) (n c : Nat) (h1 : n ≤ 1048576) (w : World) (hR : Rd w w.heap.size 1 A n (marksT 1 n)) :
    Calls Try.prog 21 #[.slice A n c, .int .i64 1] w fun e w' => e = .returned (.int .i64 (1 + (n : Int))) ∧ Below w.heap.size w w' := by
  refine (heldStringS_any A n c 1 (by omega) (by omega) w hR).mono ?_
  rintro e w' ⟨rfl, h3⟩
  exact ⟨by rw [show ((1 + n : Nat) : Int) = 1 + (n : Int) by omega], h3⟩
end Go.Proofs.Ytigjdcfdgifonaa
