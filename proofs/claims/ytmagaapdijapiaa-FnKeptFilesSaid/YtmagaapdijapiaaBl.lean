/- Corners and masks by value: copied, held against each other. -/
import Derived.Test.YtmagaapdijapiaaRows
import Derived.Test.YtmagaapdijapiaaBase
namespace Go.Proofs.Ytmagaapdijapiaa
open Go.ChangeShapes Go.WideShapes Go.ChangeAt Go.RowKit

theorem size63 : (Try.prog.info? 63).map (·.size) = some 2 := by kernel_rfl
theorem size76 : (Try.prog.info? 76).map (·.size) = some 16 := by kernel_rfl

set_option maxHeartbeats 400000 in
theorem toCorner_any (L : List Int) (hL : L.length = 2) (w : World) :
    Calls Try.prog 91 #[.agg (ivs .i32 L)] w fun e w' => e = .returned (.agg (ivs .i32 L)) ∧ Below w.heap.size w w' := by
  go_enter Try.func91, Try.ntmps91
  go_wp2
  go_loopw [4] (fun i wr => ∃ k : Nat, k ≤ 2 ∧ i = .int .i64 k ∧ Blk wr w.heap.size 60 (ivs .i32 L) ∧ Blk wr (w.heap.size + 1) 63 (ivs .i32 (List.replicate 2 0)) ∧ Blk wr (w.heap.size + 1 + 1) 63 (ivs .i32 (L.take k ++ List.replicate (2 - k) 0)) ∧ wr.heap.size = w.heap.size + 1 + 1 + 1 ∧ Below w.heap.size w wr) (fun i _ => 2 - (intOf i).toNat)
  case atStart =>
    exact ⟨0, by omega, rfl, ((Blk.newAt rfl rfl).alloc _).alloc _, (Blk.newAt (by simp) rfl).alloc _, Blk.newAt (by simp) rfl, by simp, (((Below.refl _ _).alloc (Nat.le_refl _) _).alloc (by simp) _).alloc (by simp; omega) _⟩
  case round =>
    obtain ⟨k, hk, rfl, h1, h2, h3, hz, hb⟩ := hrel
    by_cases hlt : k < 2
    · have c1 := h1.cellI (i := k) (by omega)
      have c3 := h3.cellI (i := k) (by simp; omega)
      have f3 := h3.frozen k
      go_wp2
      go_roundw
      case rel =>
        refine ⟨k + 1, by omega, by go_num, h1.far (by simp; omega) _, h2.far (by simp) _, ?_, ?_, ?_⟩
        · rw [← fill_step hL hlt]; exact h3.setI _ _
        · rw [size_setCell]; exact hz
        · exact hb.setCell (by simp; omega) _
      case measure => simp [intOf]; omega
    · have : k = 2 := by omega
      subst this
      rw [fill_end hL] at h3
      go_wp2_with (first
        | refine wpList_load_row rfl _ _ rfl (w.heap.size + 1 + 1) rfl 63 (ivs .i32 L) (0, 0) _ h3 Try.underlying63 rfl (by rw [ivs_size, hL]; exact size63) ?_
        | refine wpList_store_row rfl _ _ _ rfl (w.heap.size + 1) (ivs .i32 L) rfl rfl 63 _ h2 (by rw [ivs_size, hL]; exact size63) (by simp [ivs_size, hL]) ivs_one ?_)
      exact bodyPost_ret (results_cell_row rfl _ _ (w.heap.size + 1) 63 (ivs .i32 L) (0, 0) _ rfl (h2.row _) Try.underlying63 rfl (by rw [ivs_size, hL]; exact size63)) rfl ⟨rfl, below_setRow hb (by omega) _⟩

set_option maxHeartbeats 400000 in
theorem toMask_any (L : List Int) (hL : L.length = 16) (w : World) :
    Calls Try.prog 92 #[.agg (ivs .u16 L)] w fun e w' => e = .returned (.agg (ivs .u16 L)) ∧ Below w.heap.size w w' := by
  go_enter Try.func92, Try.ntmps92
  go_wp2
  go_loopw [4] (fun i wr => ∃ k : Nat, k ≤ 16 ∧ i = .int .i64 k ∧ Blk wr w.heap.size 75 (ivs .u16 L) ∧ Blk wr (w.heap.size + 1) 76 (ivs .u16 (List.replicate 16 0)) ∧ Blk wr (w.heap.size + 1 + 1) 76 (ivs .u16 (L.take k ++ List.replicate (16 - k) 0)) ∧ wr.heap.size = w.heap.size + 1 + 1 + 1 ∧ Below w.heap.size w wr) (fun i _ => 16 - (intOf i).toNat)
  case atStart =>
    exact ⟨0, by omega, rfl, ((Blk.newAt rfl rfl).alloc _).alloc _, (Blk.newAt (by simp) rfl).alloc _, Blk.newAt (by simp) rfl, by simp, (((Below.refl _ _).alloc (Nat.le_refl _) _).alloc (by simp) _).alloc (by simp; omega) _⟩
  case round =>
    obtain ⟨k, hk, rfl, h1, h2, h3, hz, hb⟩ := hrel
    by_cases hlt : k < 16
    · have c1 := h1.cellI (i := k) (by omega)
      have c3 := h3.cellI (i := k) (by simp; omega)
      have f3 := h3.frozen k
      go_wp2
      go_roundw
      case rel =>
        refine ⟨k + 1, by omega, by go_num, h1.far (by simp; omega) _, h2.far (by simp) _, ?_, ?_, ?_⟩
        · rw [← fill_step hL hlt]; exact h3.setI _ _
        · rw [size_setCell]; exact hz
        · exact hb.setCell (by simp; omega) _
      case measure => simp [intOf]; omega
    · have : k = 16 := by omega
      subst this
      rw [fill_end hL] at h3
      go_wp2_with (first
        | refine wpList_load_row rfl _ _ rfl (w.heap.size + 1 + 1) rfl 76 (ivs .u16 L) (0, 0) _ h3 Try.underlying76 rfl (by rw [ivs_size, hL]; exact size76) ?_
        | refine wpList_store_row rfl _ _ _ rfl (w.heap.size + 1) (ivs .u16 L) rfl rfl 76 _ h2 (by rw [ivs_size, hL]; exact size76) (by simp [ivs_size, hL]) ivs_one ?_)
      exact bodyPost_ret (results_cell_row rfl _ _ (w.heap.size + 1) 76 (ivs .u16 L) (0, 0) _ rfl (h2.row _) Try.underlying76 rfl (by rw [ivs_size, hL]; exact size76)) rfl ⟨rfl, below_setRow hb (by omega) _⟩

set_option maxHeartbeats 400000 in
theorem eqCorner_same (L : List Int) (hL : L.length = 2) (w : World) :
    Calls Try.prog 96 #[.agg (ivs .i32 L), .agg (ivs .i32 L)] w fun e w' => e = .returned (.bool true) ∧ Below w.heap.size w w' := by
  go_enter Try.func96, Try.ntmps96
  go_wp2_with fail
  go_loopw [5] (fun i wr => ∃ k : Nat, k ≤ 2 ∧ i = .int .i64 k ∧ Blk wr w.heap.size 63 (ivs .i32 L) ∧ Blk wr (w.heap.size + 1) 63 (ivs .i32 L) ∧ Below w.heap.size w wr) (fun i _ => 2 - (intOf i).toNat)
  case atStart =>
    exact ⟨0, by omega, rfl, (Blk.newAt rfl rfl).alloc _, Blk.newAt (by simp) rfl, ((Below.refl _ _).alloc (Nat.le_refl _) _).alloc (by simp) _⟩
  case round =>
    obtain ⟨k, hk, rfl, h1, h2, hb⟩ := hrel
    by_cases hlt : k < 2
    · have c1 := h1.cellI (i := k) (by omega)
      have c2 := h2.cellI (i := k) (by omega)
      go_wp2
      go_quiet (fail)
      go_wp2
      go_roundw
      case rel => exact ⟨k + 1, by omega, by go_num, h1.drewN _, h2.drewN _, below_drewN hb _⟩
      case measure => simp [intOf]; omega
    · go_wp2
      go_ret
      exact ⟨rfl, hb⟩

set_option maxHeartbeats 400000 in
theorem eqMask_same (L : List Int) (hL : L.length = 16) (w : World) :
    Calls Try.prog 97 #[.agg (ivs .u16 L), .agg (ivs .u16 L)] w fun e w' => e = .returned (.bool true) ∧ Below w.heap.size w w' := by
  go_enter Try.func97, Try.ntmps97
  go_wp2_with fail
  go_loopw [5] (fun i wr => ∃ k : Nat, k ≤ 16 ∧ i = .int .i64 k ∧ Blk wr w.heap.size 76 (ivs .u16 L) ∧ Blk wr (w.heap.size + 1) 76 (ivs .u16 L) ∧ Below w.heap.size w wr) (fun i _ => 16 - (intOf i).toNat)
  case atStart =>
    exact ⟨0, by omega, rfl, (Blk.newAt rfl rfl).alloc _, Blk.newAt (by simp) rfl, ((Below.refl _ _).alloc (Nat.le_refl _) _).alloc (by simp) _⟩
  case round =>
    obtain ⟨k, hk, rfl, h1, h2, hb⟩ := hrel
    by_cases hlt : k < 16
    · have c1 := h1.cellI (i := k) (by omega)
      have c2 := h2.cellI (i := k) (by omega)
      go_wp2
      go_quiet (fail)
      go_wp2
      go_roundw
      case rel => exact ⟨k + 1, by omega, by go_num, h1.drewN _, h2.drewN _, below_drewN hb _⟩
      case measure => simp [intOf]; omega
    · go_wp2
      go_ret
      exact ⟨rfl, hb⟩
end Go.Proofs.Ytmagaapdijapiaa
