/- KeyOfMask: masks copied, keys compared, the law walked. -/
import Derived.Test.YtagcmgnakejlcaaRows
import Derived.Test.YtagcmgnakejlcaaKy
namespace Go.Proofs.Ytagcmgnakejlcaa
open Go.ChangeShapes Go.WideShapes Go.ChangeAt Go.RowKit

theorem size34 : (Try.prog.info? 34).map (·.size) = some 16 := by kernel_rfl

set_option maxHeartbeats 400000 in
theorem toMask_any (L : List Int) (hL : L.length = 16) (w : World) :
    Calls Try.prog 13 #[.agg (ivs .u16 L)] w fun e w' => e = .returned (.agg (ivs .u16 L)) ∧ Below w.heap.size w w' := by
  go_enter Try.func13, Try.ntmps13
  go_wp2
  go_loopw [4] (fun i wr => ∃ k : Nat, k ≤ 16 ∧ i = .int .i64 k ∧ Blk wr w.heap.size 34 (ivs .u16 L) ∧ Blk wr (w.heap.size + 1) 36 (ivs .u16 (List.replicate 16 0)) ∧ Blk wr (w.heap.size + 1 + 1) 36 (ivs .u16 (L.take k ++ List.replicate (16 - k) 0)) ∧ wr.heap.size = w.heap.size + 1 + 1 + 1 ∧ Below w.heap.size w wr) (fun i _ => 16 - (intOf i).toNat)
  case atStart =>
    exact ⟨0, by omega, rfl, ((Blk.newAt rfl rfl).alloc _).alloc _, (Blk.newAt (by simp) rfl).alloc _, Blk.newAt (by simp) rfl, by simp, (((Below.refl _ _).alloc (Nat.le_refl _) _).alloc (by simp) _).alloc (by simp; omega) _⟩
  case round =>
    obtain ⟨k, hk, rfl, h1, h2, h3, hz, hb⟩ := hrel
    by_cases hlt : k < 16
    · have c1 := h1.cellI (i := k) (by omega)
      have c3 := h3.cellI (i := k) (by simp; omega)
      have f3 := h3.frozen k
      go_wp2
      go_roundw
      case rel =>
        refine ⟨k + 1, by omega, by go_num, h1.far (by simp; omega) _, h2.far (by simp) _, ?_, ?_, ?_⟩
        · rw [← fill_step hL hlt]; exact h3.setI _ _
        · rw [size_setCell]; exact hz
        · exact hb.setCell (by simp; omega) _
      case measure => simp [intOf]; omega
    · have : k = 16 := by omega
      subst this
      rw [fill_end hL] at h3
      go_wp2_with (first
        | refine wpList_load_row rfl _ _ rfl (w.heap.size + 1 + 1) rfl 36 (ivs .u16 L) (0, 0) _ h3 Try.underlying36 rfl (by rw [ivs_size, hL]; exact size36) ?_
        | refine wpList_store_row rfl _ _ _ rfl (w.heap.size + 1) (ivs .u16 L) rfl rfl 36 _ h2 (by rw [ivs_size, hL]; exact size36) (by simp [ivs_size, hL]) ivs_one ?_)
      exact bodyPost_ret (results_cell_row rfl _ _ (w.heap.size + 1) 36 (ivs .u16 L) (0, 0) _ rfl (h2.row _) Try.underlying36 rfl (by rw [ivs_size, hL]; exact size36)) rfl ⟨rfl, below_setRow hb (by omega) _⟩

set_option maxHeartbeats 400000 in
theorem eqMaskKey_same (L : List Int) (hL : L.length = 16) (w : World) :
    Calls Try.prog 15 #[.agg (ivs .u8 L), .agg (ivs .u8 L)] w fun e w' => e = .returned (.bool true) ∧ Below w.heap.size w w' := by
  go_enter Try.func15, Try.ntmps15
  go_wp2_with fail
  go_loopw [5] (fun i wr => ∃ k : Nat, k ≤ 16 ∧ i = .int .i64 k ∧ Blk wr w.heap.size 24 (ivs .u8 L) ∧ Blk wr (w.heap.size + 1) 24 (ivs .u8 L) ∧ Below w.heap.size w wr) (fun i _ => 16 - (intOf i).toNat)
  case atStart =>
    exact ⟨0, by omega, rfl, (Blk.newAt rfl rfl).alloc _, Blk.newAt (by simp) rfl, ((Below.refl _ _).alloc (Nat.le_refl _) _).alloc (by simp) _⟩
  case round =>
    obtain ⟨k, hk, rfl, h1, h2, hb⟩ := hrel
    by_cases hlt : k < 16
    · have c1 := h1.cellI (i := k) (by omega)
      have c2 := h2.cellI (i := k) (by omega)
      go_wp2
      go_quiet (fail)
      go_wp2
      go_roundw
      case rel => exact ⟨k + 1, by omega, by go_num, h1.drewN _, h2.drewN _, below_drewN hb _⟩
      case measure => simp [intOf]; omega
    · go_wp2
      go_ret
      exact ⟨rfl, hb⟩

set_option maxHeartbeats 400000 in
theorem sKeyOfMask_any (L : List Int) (hL : L.length = 16) (w : World) :
    Calls Try.prog 12 #[.agg (ivs .u16 L)] w fun e w' => e = .returned (.agg (ivs .u8 (keyBytes L))) ∧ Below w.heap.size w w' := by
  have h1 : Blk ((w.alloc (.cells (ivs .u16 L) 36)).alloc (.cells #[.int .u8 0, .int .u8 0, .int .u8 0, .int .u8 0, .int .u8 0, .int .u8 0, .int .u8 0, .int .u8 0, .int .u8 0, .int .u8 0, .int .u8 0, .int .u8 0, .int .u8 0, .int .u8 0, .int .u8 0, .int .u8 0] 24)) w.heap.size 36 (ivs .u16 L) := (Blk.newAt rfl rfl).alloc _
  have h2 : Blk ((w.alloc (.cells (ivs .u16 L) 36)).alloc (.cells #[.int .u8 0, .int .u8 0, .int .u8 0, .int .u8 0, .int .u8 0, .int .u8 0, .int .u8 0, .int .u8 0, .int .u8 0, .int .u8 0, .int .u8 0, .int .u8 0, .int .u8 0, .int .u8 0, .int .u8 0, .int .u8 0] 24)) (w.heap.size + 1) 24 (ivs .u8 (List.replicate 16 0)) := Blk.newAt (by simp) rfl
  have hb0 : Below w.heap.size w ((w.alloc (.cells (ivs .u16 L) 36)).alloc (.cells #[.int .u8 0, .int .u8 0, .int .u8 0, .int .u8 0, .int .u8 0, .int .u8 0, .int .u8 0, .int .u8 0, .int .u8 0, .int .u8 0, .int .u8 0, .int .u8 0, .int .u8 0, .int .u8 0, .int .u8 0, .int .u8 0] 24)) := ((Below.refl _ _).alloc (Nat.le_refl _) _).alloc (by simp) _
  have hML : (keyBytes L).length = 16 := rfl
  go_enter Try.func12, Try.ntmps12
  go_wp2_with fail
  refine (l10Key_any w.heap.size L hL _ h1).mono ?_
  rintro e w1 ⟨rfl, hb⟩
  have k2 := h2.below hb (by simp)
  go_wp2_with (refine wpList_store_row rfl _ _ _ rfl (w.heap.size + 1) (ivs .u8 (keyBytes L)) rfl rfl 24 _ k2 (by rw [ivs_size, hML]; exact size24) (by simp [ivs_size, hML]) ivs_one ?_)
  exact bodyPost_ret (results_cell_row rfl _ _ (w.heap.size + 1) 24 (ivs .u8 (keyBytes L)) (0, 0) _ rfl (k2.row _) Try.underlying24 rfl (by rw [ivs_size, hML]; exact size24)) rfl ⟨rfl, below_setRow (hb0.trans (hb.mono (by simp; omega))) (by omega) _⟩

set_option maxHeartbeats 400000 in
theorem iKeyOfMask_any (L : List Int) (hL : L.length = 16) (w : World) :
    Calls Try.prog 14 #[.agg (ivs .u16 L)] w fun e w' => e = .returned (.agg (ivs .u8 (keyBytes L))) ∧ Below w.heap.size w w' := by
  have h1 : Blk ((w.alloc (.cells (ivs .u16 L) 36)).alloc (.cells #[.int .u8 0, .int .u8 0, .int .u8 0, .int .u8 0, .int .u8 0, .int .u8 0, .int .u8 0, .int .u8 0, .int .u8 0, .int .u8 0, .int .u8 0, .int .u8 0, .int .u8 0, .int .u8 0, .int .u8 0, .int .u8 0] 24)) w.heap.size 36 (ivs .u16 L) := (Blk.newAt rfl rfl).alloc _
  have h2 : Blk ((w.alloc (.cells (ivs .u16 L) 36)).alloc (.cells #[.int .u8 0, .int .u8 0, .int .u8 0, .int .u8 0, .int .u8 0, .int .u8 0, .int .u8 0, .int .u8 0, .int .u8 0, .int .u8 0, .int .u8 0, .int .u8 0, .int .u8 0, .int .u8 0, .int .u8 0, .int .u8 0] 24)) (w.heap.size + 1) 24 (ivs .u8 (List.replicate 16 0)) := Blk.newAt (by simp) rfl
  have hb0 : Below w.heap.size w ((w.alloc (.cells (ivs .u16 L) 36)).alloc (.cells #[.int .u8 0, .int .u8 0, .int .u8 0, .int .u8 0, .int .u8 0, .int .u8 0, .int .u8 0, .int .u8 0, .int .u8 0, .int .u8 0, .int .u8 0, .int .u8 0, .int .u8 0, .int .u8 0, .int .u8 0, .int .u8 0] 24)) := ((Below.refl _ _).alloc (Nat.le_refl _) _).alloc (by simp) _
  have hML : (keyBytes L).length = 16 := rfl
  go_enter Try.func14, Try.ntmps14
  go_wp2_with (refine wpList_load_row rfl _ _ rfl w.heap.size rfl 36 (ivs .u16 L) (0, 0) _ h1 Try.underlying36 rfl (by rw [ivs_size, hL]; exact size36) ?_)
  refine (keyOf_any L hL _).mono ?_
  rintro e w1 ⟨rfl, hb⟩
  have k2 := h2.below hb (by simp)
  go_wp2_with (refine wpList_store_row rfl _ _ _ rfl (w.heap.size + 1) (ivs .u8 (keyBytes L)) rfl rfl 24 _ k2 (by rw [ivs_size, hML]; exact size24) (by simp [ivs_size, hML]) ivs_one ?_)
  exact bodyPost_ret (results_cell_row rfl _ _ (w.heap.size + 1) 24 (ivs .u8 (keyBytes L)) (0, 0) _ rfl (k2.row _) Try.underlying24 rfl (by rw [ivs_size, hML]; exact size24)) rfl ⟨rfl, below_setRow (hb0.trans (hb.mono (by simp; omega))) (by omega) _⟩

set_option maxHeartbeats 800000 in
theorem lawKeyOfMask_any (L : List Int) (hL : L.length = 16) (w : World) :
    Calls Try.prog 5 #[.agg (ivs .u16 L)] w fun e w' => e = .returned (.bool true) ∧ Below w.heap.size w w' := by
  obtain ⟨M, hM⟩ : ∃ M, M = keyBytes L := ⟨_, rfl⟩
  have hML : M.length = 16 := by rw [hM]; rfl
  have sM := fun W => sKeyOfMask_any L hL W
  have iM := fun W => iKeyOfMask_any L hL W
  rw [← hM] at sM iM
  have SM := Lib.hid sM
  have IM := Lib.hid iM
  clear sM iM hM
  have h1 : Blk (w.alloc (.cells (ivs .u16 L) 34)) w.heap.size 34 (ivs .u16 L) := Blk.newAt rfl rfl
  have b1 : Below w.heap.size w (w.alloc (.cells (ivs .u16 L) 34)) := (Below.refl _ _).alloc (Nat.le_refl _) _
  go_enter Try.func5, Try.ntmps5
  go_wp2_with (refine wpList_load_row rfl _ _ rfl w.heap.size rfl 34 (ivs .u16 L) (0, 0) _ h1 Try.underlying34 rfl (by rw [ivs_size, hL]; exact size34) ?_)
  refine (toMask_any L hL _).mono ?_
  rintro e w2 ⟨rfl, hb2⟩
  go_wp2_with fail
  refine (SM.out _).mono ?_
  rintro e w3 ⟨rfl, hb3⟩
  have z2 := hb2.size
  rw [size_alloc] at z2
  have B3 : Below w.heap.size w w3 := (b1.trans (hb2.mono (by rw [size_alloc]; omega))).trans (hb3.mono (by omega))
  have h3 : Blk w3 w.heap.size 34 (ivs .u16 L) := (h1.below hb2 (by rw [size_alloc]; omega)).below hb3 (by omega)
  have z3 := hb3.size
  clear hb2 hb3 h1 b1
  go_wp2_with (first
    | refine wpList_store_row rfl _ _ _ rfl w3.heap.size (ivs .u8 M) rfl rfl 24 (ivs .u8 (List.replicate 16 0)) (Blk.newAt rfl rfl) (by rw [ivs_size, hML]; exact size24) (by simp [ivs_size, hML]) ivs_one ?_
    | refine wpList_load_row rfl _ _ rfl w.heap.size rfl 34 (ivs .u16 L) (0, 0) _ ((h3.alloc _).rowFar (by omega) _) Try.underlying34 rfl (by rw [ivs_size, hL]; exact size34) ?_)
  have r4 : Blk ((w3.alloc (.cells #[.int .u8 0, .int .u8 0, .int .u8 0, .int .u8 0, .int .u8 0, .int .u8 0, .int .u8 0, .int .u8 0, .int .u8 0, .int .u8 0, .int .u8 0, .int .u8 0, .int .u8 0, .int .u8 0, .int .u8 0, .int .u8 0] 24)).setRow w3.heap.size (ivs .u8 M)) w3.heap.size 24 (ivs .u8 M) := (Blk.new _ _ _).row _
  have B4 := below_setRow (B3.alloc (by omega) (.cells #[.int .u8 0, .int .u8 0, .int .u8 0, .int .u8 0, .int .u8 0, .int .u8 0, .int .u8 0, .int .u8 0, .int .u8 0, .int .u8 0, .int .u8 0, .int .u8 0, .int .u8 0, .int .u8 0, .int .u8 0, .int .u8 0] 24)) (g := w3.heap.size) (by omega) (ivs .u8 M)
  have s4 : ((w3.alloc (.cells #[.int .u8 0, .int .u8 0, .int .u8 0, .int .u8 0, .int .u8 0, .int .u8 0, .int .u8 0, .int .u8 0, .int .u8 0, .int .u8 0, .int .u8 0, .int .u8 0, .int .u8 0, .int .u8 0, .int .u8 0, .int .u8 0] 24)).setRow w3.heap.size (ivs .u8 M)).heap.size = w3.heap.size + 1 := by rw [size_setRow, size_alloc]
  generalize (w3.alloc (.cells #[.int .u8 0, .int .u8 0, .int .u8 0, .int .u8 0, .int .u8 0, .int .u8 0, .int .u8 0, .int .u8 0, .int .u8 0, .int .u8 0, .int .u8 0, .int .u8 0, .int .u8 0, .int .u8 0, .int .u8 0, .int .u8 0] 24)).setRow w3.heap.size (ivs .u8 M) = w4 at *
  refine (toMask_any L hL _).mono ?_
  rintro e w5 ⟨rfl, hb5⟩
  go_wp2_with fail
  refine (IM.out _).mono ?_
  rintro e w6 ⟨rfl, hb6⟩
  have z5 := hb5.size
  have z6 := hb6.size
  have B6 : Below w.heap.size w w6 := (B4.trans (hb5.mono (by omega))).trans (hb6.mono (by omega))
  have r6 : Blk w6 w3.heap.size 24 (ivs .u8 M) := (r4.below hb5 (by omega)).below hb6 (by omega)
  have q6 : w3.heap.size < w6.heap.size := by omega
  have q0 : w.heap.size ≤ w6.heap.size := by omega
  clear hb5 hb6 r4 B4 h3 B3 s4 z2 z3 z5 z6
  go_wp2_with (first
    | refine wpList_store_row rfl _ _ _ rfl w6.heap.size (ivs .u8 M) rfl rfl 24 (ivs .u8 (List.replicate 16 0)) (Blk.newAt rfl rfl) (by rw [ivs_size, hML]; exact size24) (by simp [ivs_size, hML]) ivs_one ?_
    | refine wpList_load_row rfl _ _ rfl w6.heap.size rfl 24 (ivs .u8 M) (0, 0) _ ((Blk.newAt rfl rfl).row _) Try.underlying24 rfl (by rw [ivs_size, hML]; exact size24) ?_
    | refine wpList_load_row rfl _ _ rfl w3.heap.size rfl 24 (ivs .u8 M) (0, 0) _ ((r6.alloc _).rowFar (by omega) _) Try.underlying24 rfl (by rw [ivs_size, hML]; exact size24) ?_)
  have B7 := below_setRow (B6.alloc q0 (.cells #[.int .u8 0, .int .u8 0, .int .u8 0, .int .u8 0, .int .u8 0, .int .u8 0, .int .u8 0, .int .u8 0, .int .u8 0, .int .u8 0, .int .u8 0, .int .u8 0, .int .u8 0, .int .u8 0, .int .u8 0, .int .u8 0] 24)) (g := w6.heap.size) q0 (ivs .u8 M)
  have s7 : ((w6.alloc (.cells #[.int .u8 0, .int .u8 0, .int .u8 0, .int .u8 0, .int .u8 0, .int .u8 0, .int .u8 0, .int .u8 0, .int .u8 0, .int .u8 0, .int .u8 0, .int .u8 0, .int .u8 0, .int .u8 0, .int .u8 0, .int .u8 0] 24)).setRow w6.heap.size (ivs .u8 M)).heap.size = w6.heap.size + 1 := by rw [size_setRow, size_alloc]
  generalize (w6.alloc (.cells #[.int .u8 0, .int .u8 0, .int .u8 0, .int .u8 0, .int .u8 0, .int .u8 0, .int .u8 0, .int .u8 0, .int .u8 0, .int .u8 0, .int .u8 0, .int .u8 0, .int .u8 0, .int .u8 0, .int .u8 0, .int .u8 0] 24)).setRow w6.heap.size (ivs .u8 M) = w8 at *
  refine (eqMaskKey_same M hML _).mono ?_
  rintro e w7 ⟨rfl, hb7⟩
  have B9 := B7.trans (hb7.mono (by omega))
  clear hb7 B7 s7
  go_wp2
  go_ret
  exact ⟨rfl, B9⟩
end Go.Proofs.Ytagcmgnakejlcaa
