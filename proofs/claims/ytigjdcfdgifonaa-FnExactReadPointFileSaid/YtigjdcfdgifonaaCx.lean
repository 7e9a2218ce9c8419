/- Slices of points: compared, marked, looked at again. -/
import Derived.Test.YtigjdcfdgifonaaRows
import Derived.Test.YtigjdcfdgifonaaRp
import Derived.Test.YtigjdcfdgifonaaSe
import Derived.Test.YtigjdcfdgifonaaSs
namespace Go.Proofs.Ytigjdcfdgifonaa
open Go.ChangeShapes Go.WideShapes Go.ChangeAt Go.RowKit

theorem run_store_complex (P : Program) (w : World) (a : Addr) (m : Mode) (k : FloatKind) (x y : Nat) : (store a (.complex k x y) m).run P w = stored P w a (.complex k x y) m := run_store P w a _ m rfl
attribute [local go_sem] run_store_complex
/-- the mark k -/
def mkZ (k : Nat) : Nat × Nat := (cConvBits .f64 (floatOfInt .f64 (k : Int)) 4607182418800017408 .f32).getD (0, 0)
theorem mkZ_all : ∀ k : Nat, k < 300 → cConvBits .f64 (floatOfInt .f64 (k : Int)) 4607182418800017408 .f32 = some (mkZ k) ∧ (FloatKind.f32.format.order (mkZ k).1 (mkZ k).1 == some .eq) = true ∧ (FloatKind.f32.format.order (mkZ k).2 (mkZ k).2 == some .eq) = true := by decide +kernel
theorem run_mark (k : Nat) (h : k < 300) (W : World) : (convert 44 39 (.complex .f64 (floatOfInt .f64 (k : Int)) 4607182418800017408)).run Try.prog W = .ok (.complex .f32 (mkZ k).1 (mkZ k).2) W :=
  run_convert_complex W _ _ .f64 .f32 _ _ _ _ (by kernel_rfl) Try.underlying39 (mkZ_all k h).1
def marksC (k j : Nat) : List Value := (List.range j).map fun i => Value.complex .f32 (mkZ (k + i)).1 (mkZ (k + i)).2
theorem marksC_length (k j : Nat) : (marksC k j).length = j := by simp [marksC]
theorem marksC_at {k j i : Nat} (h : i < j) : (marksC k j)[i]? = some (.complex .f32 (mkZ (k + i)).1 (mkZ (k + i)).2) := by rw [marksC, List.getElem?_map, List.getElem?_range h]; rfl
theorem marksC_step {k j : Nat} {xs : List Value} (h : j < xs.length) : (marksC k j ++ xs.drop j).set j (.complex .f32 (mkZ (k + j)).1 (mkZ (k + j)).2) = marksC k (j + 1) ++ xs.drop (j + 1) := by
  rw [List.set_append_right _ _ (by rw [marksC_length]; omega), marksC_length, Nat.sub_self, List.drop_eq_getElem_cons h, List.set_cons_zero, marksC, marksC, List.range_succ, List.map_append, List.append_assoc]
  rfl
set_option maxRecDepth 20000 in
set_option maxHeartbeats 800000 in
theorem markComplex64S_any (lo hi : Nat) (A : Option Addr) (n c : Nat) (xs : List Value) (k : Nat) (h1 : k + n < 300) (w : World) (hO : Own w lo hi 39 1 A n c xs) :
    Calls Try.prog 15 #[.slice A n c, .int .i64 k] w fun e w' => e = .returned (.int .i64 ((k + n : Nat) : Int)) ∧ Own w' lo hi 39 1 A n c (marksC k n) ∧ w.grownBy w' (A.map (·.block)) := by
  have hxl : xs.length = n := by have := hO.1; omega
  have o0 : Own w lo hi 39 1 A n c (marksC k 0 ++ xs.drop 0) := hO
  have HO0 := Lib.hid o0
  clear o0 hO
  go_enter Try.func15, Try.ntmps15
  go_wp2_with fail
  go_loopw [1, 5] (fun q i wr => ∃ j : Nat, j ≤ n ∧ q = .int .i64 ((k + j : Nat) : Int) ∧ i = .int .i64 j ∧ Own wr lo hi 39 1 A n c (marksC k j ++ xs.drop j) ∧ w.grownBy wr (A.map (·.block))) (fun _ i _ => n - (intOf i).toNat)
  case atStart => exact ⟨0, by omega, rfl, rfl, HO0.out, World.grownBy.refl _ _⟩
  case round =>
    clear HO0
    obtain ⟨j, hj, rfl, rfl, hO, hg⟩ := hrel
    by_cases hlt : j < n
    · obtain ⟨g, cur, rfl, hg1, hg2, _, _, _, _, _⟩ := hO.at_ (by omega)
      have hm := fun W => run_mark (k + j) (by omega) W
      rw [show ((k + j : Nat) : Int) = (k : Int) + (j : Int) from by omega] at hm
      have hst := marksC_step (k := k) (j := j) (xs := xs) (by omega)
      have HST := Lib.hid hst
      have HO := Lib.hid hO
      have HG := Lib.hid hg
      have hlt' : (j : Int) < n := by omega
      obtain ⟨⟨u2, c2⟩, f2⟩ := hO.cell_ hlt
      clear hst hO hg
      go_wp2_with (simp only [hm])
      refine ⟨⟨j + 1, by omega, by go_num, by go_num, ?_, ?_⟩, by simp [intOf]; omega⟩
      · rw [← HST.out]; exact HO.out.setCell _ _
      · exact only_setCell (g := g) (p := ⟨g, j, none⟩) HG.out rfl _
    · obtain rfl : j = n := by omega
      rw [List.drop_of_length_le (by omega), List.append_nil] at hO
      have HO := Lib.hid hO
      clear hO
      go_wp2
      go_ret
      exact ⟨rfl, HO.out, hg⟩
set_option maxRecDepth 20000 in
set_option maxHeartbeats 800000 in
theorem heldComplex64S_any (A : Option Addr) (n c : Nat) (k : Nat) (h1 : k + n < 300) (w : World) (hR : Rd w w.heap.size 1 A n (marksC k n)) :
    Calls Try.prog 16 #[.slice A n c, .int .i64 k] w fun e w' => e = .returned (.int .i64 ((k + n : Nat) : Int)) ∧ Below w.heap.size w w' := by
  have HR := Lib.hid hR
  clear hR
  go_enter Try.func16, Try.ntmps16
  go_wp2_with fail
  go_loopw [1, 5] (fun q i wr => ∃ j : Nat, j ≤ n ∧ q = .int .i64 ((k + j : Nat) : Int) ∧ i = .int .i64 j ∧ Below w.heap.size w wr) (fun _ i _ => n - (intOf i).toNat)
  case atStart => exact ⟨0, by omega, rfl, rfl, Below.refl _ _⟩
  case round =>
    obtain ⟨j, hj, rfl, rfl, hb⟩ := hrel
    by_cases hlt : j < n
    · obtain ⟨b, o, rfl, hbB, hc⟩ := (HR.out.below hb (Nat.le_refl _)).at_ (by omega)
      have c1 := hc j _ (marksC_at hlt)
      have hm := fun W => run_mark (k + j) (by omega) W
      rw [show ((k + j : Nat) : Int) = (k : Int) + (j : Int) from by omega] at hm
      obtain ⟨-, e1, e2⟩ := mkZ_all (k + j) (by omega)
      have hlt' : (j : Int) < n := by omega
      have HB := Lib.hid hb
      clear hc hb
      generalize mkZ (k + j) = s at *
      go_wp2_with (simp only [hm, e1, e2])
      exact ⟨⟨j + 1, by omega, by go_num, by go_num, HB.out⟩, by simp [intOf]; omega⟩
    · obtain rfl : j = n := by omega
      go_wp2
      go_ret
      exact ⟨rfl, hb⟩
theorem cell_drewN_all {W : World} {a : Addr} {v : Option Value} (h : W.cell? a = v) : ∀ k, (W.drewN k).cell? a = v := fun _ => h
theorem cell_drew_all {W : World} {a : Addr} {v : Option Value} (h : W.cell? a = v) : ∀ k, (W.drew.drewN k).cell? a = v := fun _ => h
attribute [local go_sem] run_conv
set_option maxRecDepth 20000 in
set_option maxHeartbeats 800000 in
theorem eqComplex64S_same (A A' : Option Addr) (n c c' : Nat) (xs : List (Nat × Nat)) (hl : xs.length = n) (hn : n ≤ 100000000) (w : World) (hR : Rd w w.heap.size 1 A n (cxs xs)) (hR' : Rd w w.heap.size 1 A' n (cxs xs)) :
    Calls Try.prog 12 #[.slice A n c, .slice A' n c'] w fun e w' => e = .returned (.bool true) ∧ Below w.heap.size w w' := by
  go_enter Try.func12, Try.ntmps12
  go_wp2
  go_loopw [5] (fun i wr => ∃ k : Nat, k ≤ n ∧ i = .int .i64 k ∧ Below w.heap.size w wr) (fun i _ => n - (intOf i).toNat)
  case atStart => exact ⟨0, by omega, rfl, Below.refl _ _⟩
  case round =>
    obtain ⟨k, hk, rfl, hb⟩ := hrel
    by_cases hlt : k < n
    · obtain ⟨b, o, rfl, hbB, hc⟩ := (hR.below hb (Nat.le_refl _)).at_ (by omega)
      obtain ⟨b', o', rfl, hbB', hc'⟩ := (hR'.below hb (Nat.le_refl _)).at_ (by omega)
      obtain ⟨re, im, hx⟩ : ∃ re im, xs[k]'(by omega) = (re, im) := ⟨_, _, (Prod.eta (xs[k]'(by omega))).symm⟩
      have c1 := hc k (.complex .f32 re im) (by rw [cxs, List.getElem?_map, List.getElem?_eq_getElem (by omega), hx]; rfl)
      have c2 := hc' k (.complex .f32 re im) (by rw [cxs, List.getElem?_map, List.getElem?_eq_getElem (by omega), hx]; rfl)
      have hi0 : (0 : Int) ≤ (k : Int) := Int.natCast_nonneg _
      have hi1 : (k : Int) < (n : Int) := by omega
      clear hc hR hbB hc' hR' hbB'
      go_wp2
      have c1d := cell_drewN_all c1
      have c2d := cell_drewN_all c2
      go_region_with (go_at_call 24; refine (sameComplex_alike _ _ _ _ (wd_alike _ _ _) (wd_alike _ _ _) _).mono ?_; rintro e w2 ⟨rfl, rfl⟩)
      all_goals
        go_wp2
        exact ⟨⟨k + 1, by omega, by go_num, below_drewN hb _⟩, by simp [intOf]; omega⟩
    · have : k = n := by omega
      subst this
      go_wp2
      go_ret
      exact ⟨rfl, hb⟩
theorem markComplex64S_one (lo hi : Nat) (A : Option Addr) (n c : Nat) (xs : List Value) (h1 : n ≤ 256) (w : World) (hO : Own w lo hi 39 1 A n c xs) :
    Calls Try.prog 15 #[.slice A n c, .int .i64 1] w fun e w' => e = .returned (.int .i64 (1 + (n : Int))) ∧ Own w' lo hi 39 1 A n c (marksC 1 n) ∧ w.grownBy w' (A.map (·.block)) := by
  refine (markComplex64S_any lo hi A n c xs 1 (by omega) w hO).mono ?_
  rintro e w' ⟨rfl, h2, h3⟩
  exact ⟨by rw [show ((1 + n : Nat) : Int) = 1 + (n : Int) by omega], h2, h3⟩
theorem heldComplex64S_one (A : Option Addr) (n c : Nat) (h1 : n ≤ 256) (w : World) (hR : Rd w w.heap.size 1 A n (marksC 1 n)) :
    Calls Try.prog 16 #[.slice A n c, .int .i64 1] w fun e w' => e = .returned (.int .i64 (1 + (n : Int))) ∧ Below w.heap.size w w' := by
  refine (heldComplex64S_any A n c 1 (by omega) w hR).mono ?_
  rintro e w' ⟨rfl, h3⟩
  exact ⟨by rw [show ((1 + n : Nat) : Int) = 1 + (n : Int) by omega], h3⟩
theorem rpL_length (l : List (List Int)) : (rpL l).length ≤ 256 := by
  unfold rpL
  split
  · rename_i h
    rw [pts_length, rpN]
    unfold rpC at h
    split at h
    · split at h
      · rename_i hg
        unfold rpGood at hg
        rw [Bool.and_eq_true, Bool.and_eq_true, beq_iff_eq, beq_iff_eq, decide_eq_true_eq] at hg
        omega
      · cases h
    · rename_i h1
      exact absurd h h1
  · simp
end Go.Proofs.Ytigjdcfdgifonaa
