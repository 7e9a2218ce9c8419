/- Rows of bytes by value, walked: copied, cut, held against each other. Each function leaves what was there as it was. -/
import Derived.Test.YtmagaapdijapiaaRows
import Derived.Test.YtmagaapdijapiaaBase
namespace Go.Proofs.Ytmagaapdijapiaa
open Go.ChangeShapes Go.WideShapes Go.ChangeAt Go.RowKit

theorem size87 : (Try.prog.info? 87).map (·.size) = some 16 := by kernel_rfl
theorem size138 : (Try.prog.info? 138).map (·.size) = some 12 := by kernel_rfl
theorem size86 : (Try.prog.info? 86).map (·.size) = some 16 := by kernel_rfl

set_option maxHeartbeats 400000 in
theorem toFrame_any (L : List Int) (hL : L.length = 16) (w : World) :
    Calls Try.prog 56 #[.agg (ivs .u8 L)] w fun e w' => e = .returned (.agg (ivs .u8 L)) ∧ Below w.heap.size w w' := by
  go_enter Try.func56, Try.ntmps56
  go_wp2
  go_loopw [4] (fun i wr => ∃ k : Nat, k ≤ 16 ∧ i = .int .i64 k ∧ Blk wr w.heap.size 86 (ivs .u8 L) ∧ Blk wr (w.heap.size + 1) 87 (ivs .u8 (List.replicate 16 0)) ∧ Blk wr (w.heap.size + 1 + 1) 87 (ivs .u8 (L.take k ++ List.replicate (16 - k) 0)) ∧ wr.heap.size = w.heap.size + 1 + 1 + 1 ∧ Below w.heap.size w wr) (fun i _ => 16 - (intOf i).toNat)
  case atStart =>
    exact ⟨0, by omega, rfl, ((Blk.newAt rfl rfl).alloc _).alloc _, (Blk.newAt (by simp) rfl).alloc _, Blk.newAt (by simp) rfl, by simp, (((Below.refl _ _).alloc (Nat.le_refl _) _).alloc (by simp) _).alloc (by simp; omega) _⟩
  case round =>
    obtain ⟨k, hk, rfl, h1, h2, h3, hz, hb⟩ := hrel
    by_cases hlt : k < 16
    · have c1 := h1.cellI (i := k) (by omega)
      have c3 := h3.cellI (i := k) (by simp; omega)
      have f3 := h3.frozen k
      go_wp2
      go_roundw
      case rel =>
        refine ⟨k + 1, by omega, by go_num, h1.far (by simp; omega) _, h2.far (by simp) _, ?_, ?_, ?_⟩
        · rw [← fill_step hL hlt]; exact h3.setI _ _
        · rw [size_setCell]; exact hz
        · exact hb.setCell (by simp; omega) _
      case measure => simp [intOf]; omega
    · have : k = 16 := by omega
      subst this
      rw [fill_end hL] at h3
      go_wp2_with (first
        | refine wpList_load_row rfl _ _ rfl (w.heap.size + 1 + 1) rfl 87 (ivs .u8 L) (0, 0) _ h3 Try.underlying87 rfl (by rw [ivs_size, hL]; exact size87) ?_
        | refine wpList_store_row rfl _ _ _ rfl (w.heap.size + 1) (ivs .u8 L) rfl rfl 87 _ h2 (by rw [ivs_size, hL]; exact size87) (by simp [ivs_size, hL]) ivs_one ?_)
      exact bodyPost_ret (results_cell_row rfl _ _ (w.heap.size + 1) 87 (ivs .u8 L) (0, 0) _ rfl (h2.row _) Try.underlying87 rfl (by rw [ivs_size, hL]; exact size87)) rfl ⟨rfl, below_setRow hb (by omega) _⟩

set_option maxHeartbeats 400000 in
theorem sPayloadOf_any (L : List Int) (hL : L.length = 16) (w : World) :
    Calls Try.prog 147 #[.agg (ivs .u8 L)] w fun e w' => e = .returned (.agg (ivs .u8 (L.take 12))) ∧ Below w.heap.size w w' := by
  go_enter Try.func147, Try.ntmps147
  go_wp2
  go_loopw [4] (fun i wr => ∃ k : Nat, k ≤ 12 ∧ i = .int .i64 k ∧ Blk wr w.heap.size 87 (ivs .u8 L) ∧ Blk wr (w.heap.size + 1) 138 (ivs .u8 (List.replicate 12 0)) ∧ Blk wr (w.heap.size + 1 + 1) 138 (ivs .u8 ((L.take 12).take k ++ List.replicate (12 - k) 0)) ∧ wr.heap.size = w.heap.size + 1 + 1 + 1 ∧ Below w.heap.size w wr) (fun i _ => 12 - (intOf i).toNat)
  case atStart =>
    exact ⟨0, by omega, rfl, ((Blk.newAt rfl rfl).alloc _).alloc _, (Blk.newAt (by simp) rfl).alloc _, Blk.newAt (by simp) rfl, by simp, (((Below.refl _ _).alloc (Nat.le_refl _) _).alloc (by simp) _).alloc (by simp; omega) _⟩
  case round =>
    obtain ⟨k, hk, rfl, h1, h2, h3, hz, hb⟩ := hrel
    have hL' : (L.take 12).length = 12 := by simp [hL]
    by_cases hlt : k < 12
    · have c1 := h1.cellI (i := k) (by omega)
      have c3 := h3.cellI (i := k) (by simp; omega)
      have f3 := h3.frozen k
      go_wp2
      go_roundw
      case rel =>
        refine ⟨k + 1, by omega, by go_num, h1.far (by simp; omega) _, h2.far (by simp) _, ?_, ?_, ?_⟩
        · rw [← fill_at hL' hlt 0 (x := L[k]'(by omega)) (by simp [hlt])]; exact h3.setI _ _
        · rw [size_setCell]; exact hz
        · exact hb.setCell (by simp; omega) _
      case measure => simp [intOf]; omega
    · have : k = 12 := by omega
      subst this
      rw [fill_end hL'] at h3
      go_wp2_with (first
        | refine wpList_load_row rfl _ _ rfl (w.heap.size + 1 + 1) rfl 138 (ivs .u8 (L.take 12)) (0, 0) _ h3 Try.underlying138 rfl (by rw [ivs_size, hL']; exact size138) ?_
        | refine wpList_store_row rfl _ _ _ rfl (w.heap.size + 1) (ivs .u8 (L.take 12)) rfl rfl 138 _ h2 (by rw [ivs_size, hL']; exact size138) (by simp [ivs_size, hL']) ivs_one ?_)
      exact bodyPost_ret (results_cell_row rfl _ _ (w.heap.size + 1) 138 (ivs .u8 (L.take 12)) (0, 0) _ rfl (h2.row _) Try.underlying138 rfl (by rw [ivs_size, hL']; exact size138)) rfl ⟨rfl, below_setRow hb (by omega) _⟩
set_option maxHeartbeats 400000 in
theorem iPayloadOf_any (L : List Int) (hL : L.length = 16) (w : World) :
    Calls Try.prog 148 #[.agg (ivs .u8 L)] w fun e w' => e = .returned (.agg (ivs .u8 (L.take 12))) ∧ Below w.heap.size w w' := by
  go_enter Try.func148, Try.ntmps148
  have harr := fun (a : Option Addr) (x : World) => run_arrayAt (P := Try.prog) (w := x) 138 5 12 a 12 16 Try.underlying138 (by omega)
  have hb1 : Blk ((w.alloc (.cells (ivs .u8 L) 87)).alloc (.cells (ivs .u8 (List.replicate 12 0)) 138)) w.heap.size 87 (ivs .u8 L) := (Blk.newAt rfl rfl).alloc _
  have hb2 : Blk ((w.alloc (.cells (ivs .u8 L) 87)).alloc (.cells (ivs .u8 (List.replicate 12 0)) 138)) (w.heap.size + 1) 138 (ivs .u8 (List.replicate 12 0)) := Blk.newAt (by simp) rfl
  go_wp2_with (first
        | refine wpList_load_mid rfl _ _ rfl w.heap.size 0 rfl ((L.take 12).map (Value.int .u8)) _ (hb1.range 0 12) Try.underlying138 rfl (by rw [List.length_map, List.length_take, hL]; exact size138) ?_
        | refine wpList_store_row rfl _ _ _ rfl (w.heap.size + 1) (ivs .u8 (L.take 12)) rfl rfl 138 _ hb2 (by rw [ivs_size, List.length_take, hL]; exact size138) (by simp [ivs_size, hL]) ivs_one ?_)
  exact bodyPost_ret (results_cell_row rfl _ _ (w.heap.size + 1) 138 (ivs .u8 (L.take 12)) (0, 0) _ rfl (hb2.row _) Try.underlying138 rfl (by rw [ivs_size, List.length_take, hL]; exact size138)) rfl ⟨rfl, below_setRow (((Below.refl _ _).alloc (Nat.le_refl _) _).alloc (by simp) _) (by omega) _⟩

set_option maxHeartbeats 400000 in
theorem eqFrame_same (L : List Int) (hL : L.length = 16) (w : World) :
    Calls Try.prog 50 #[.agg (ivs .u8 L), .agg (ivs .u8 L)] w fun e w' => e = .returned (.bool true) ∧ Below w.heap.size w w' := by
  go_enter Try.func50, Try.ntmps50
  go_wp2_with fail
  go_loopw [5] (fun i wr => ∃ k : Nat, k ≤ 16 ∧ i = .int .i64 k ∧ Blk wr w.heap.size 87 (ivs .u8 L) ∧ Blk wr (w.heap.size + 1) 87 (ivs .u8 L) ∧ Below w.heap.size w wr) (fun i _ => 16 - (intOf i).toNat)
  case atStart =>
    exact ⟨0, by omega, rfl, (Blk.newAt rfl rfl).alloc _, Blk.newAt (by simp) rfl, ((Below.refl _ _).alloc (Nat.le_refl _) _).alloc (by simp) _⟩
  case round =>
    obtain ⟨k, hk, rfl, h1, h2, hb⟩ := hrel
    by_cases hlt : k < 16
    · have c1 := h1.cellI (i := k) (by omega)
      have c2 := h2.cellI (i := k) (by omega)
      go_wp2
      go_quiet (fail)
      go_wp2
      go_roundw
      case rel => exact ⟨k + 1, by omega, by go_num, h1.drewN _, h2.drewN _, below_drewN hb _⟩
      case measure => simp [intOf]; omega
    · go_wp2
      go_ret
      exact ⟨rfl, hb⟩
end Go.Proofs.Ytmagaapdijapiaa
