/- The law FnExactKeyText, walked. -/
import Derived.Test.YtagcmgnakejlcaaRows
import Derived.Test.YtagcmgnakejlcaaHx
import Derived.Test.YtagcmgnakejlcaaOpen
namespace Go.Proofs.Ytagcmgnakejlcaa
open Go.ChangeShapes Go.WideShapes Go.ChangeAt Go.RowKit

theorem size22 : (Try.prog.info? 22).map (·.size) = some 16 := by kernel_rfl
theorem wfs_u8 {l : List Int} (h : wfs .u8 l) : ∀ x ∈ l, 0 ≤ x ∧ x ≤ 255 := fun x hx => by simpa [Lit.wf, IntKind.min, IntKind.max, IntKind.signed, IntKind.bits] using h x hx

set_option maxHeartbeats 400000 in
theorem toMaskKey_any (L : List Int) (hL : L.length = 16) (w : World) :
    Calls Try.prog 7 #[.agg (ivs .u8 L)] w fun e w' => e = .returned (.agg (ivs .u8 L)) ∧ Below w.heap.size w w' := by
  go_enter Try.func7, Try.ntmps7
  go_wp2
  go_loopw [4] (fun i wr => ∃ k : Nat, k ≤ 16 ∧ i = .int .i64 k ∧ Blk wr w.heap.size 22 (ivs .u8 L) ∧ Blk wr (w.heap.size + 1) 24 (ivs .u8 (List.replicate 16 0)) ∧ Blk wr (w.heap.size + 1 + 1) 24 (ivs .u8 (L.take k ++ List.replicate (16 - k) 0)) ∧ wr.heap.size = w.heap.size + 1 + 1 + 1 ∧ Below w.heap.size w wr) (fun i _ => 16 - (intOf i).toNat)
  case atStart =>
    exact ⟨0, by omega, rfl, ((Blk.newAt rfl rfl).alloc _).alloc _, (Blk.newAt (by simp) rfl).alloc _, Blk.newAt (by simp) rfl, by simp, (((Below.refl _ _).alloc (Nat.le_refl _) _).alloc (by simp) _).alloc (by simp; omega) _⟩
  case round =>
    obtain ⟨k, hk, rfl, h1, h2, h3, hz, hb⟩ := hrel
    by_cases hlt : k < 16
    · have c1 := h1.cellI (i := k) (by omega)
      have c3 := h3.cellI (i := k) (by simp; omega)
      have f3 := h3.frozen k
      go_wp2
      go_roundw
      case rel =>
        refine ⟨k + 1, by omega, by go_num, h1.far (by simp; omega) _, h2.far (by simp) _, ?_, ?_, ?_⟩
        · rw [← fill_step hL hlt]; exact h3.setI _ _
        · rw [size_setCell]; exact hz
        · exact hb.setCell (by simp; omega) _
      case measure => simp [intOf]; omega
    · have : k = 16 := by omega
      subst this
      rw [fill_end hL] at h3
      go_wp2_with (first
        | refine wpList_load_row rfl _ _ rfl (w.heap.size + 1 + 1) rfl 24 (ivs .u8 L) (0, 0) _ h3 Try.underlying24 rfl (by rw [ivs_size, hL]; exact size24) ?_
        | refine wpList_store_row rfl _ _ _ rfl (w.heap.size + 1) (ivs .u8 L) rfl rfl 24 _ h2 (by rw [ivs_size, hL]; exact size24) (by simp [ivs_size, hL]) ivs_one ?_)
      exact bodyPost_ret (results_cell_row rfl _ _ (w.heap.size + 1) 24 (ivs .u8 L) (0, 0) _ rfl (h2.row _) Try.underlying24 rfl (by rw [ivs_size, hL]; exact size24)) rfl ⟨rfl, below_setRow hb (by omega) _⟩

set_option maxHeartbeats 800000 in
theorem lawKeyText_any (L : List Int) (hL : L.length = 16) (hw : wfs .u8 L) (w : World) :
    Calls Try.prog 3 #[.agg (ivs .u8 L)] w fun e w' => e = .returned (.bool true) ∧ Below w.heap.size w w' := by
  have h1 : Blk (w.alloc (.cells (ivs .u8 L) 22)) w.heap.size 22 (ivs .u8 L) := Blk.newAt rfl rfl
  have b1 : Below w.heap.size w (w.alloc (.cells (ivs .u8 L) 22)) := (Below.refl _ _).alloc (Nat.le_refl _) _
  have HW := Lib.hid (wfs_u8 hw)
  clear hw
  go_enter Try.func3, Try.ntmps3
  go_wp2_with (refine wpList_load_row rfl _ _ rfl w.heap.size rfl 22 (ivs .u8 L) (0, 0) _ h1 Try.underlying22 rfl (by rw [ivs_size, hL]; exact size22) ?_)
  refine (toMaskKey_any L hL _).mono ?_
  rintro e w2 ⟨rfl, hb2⟩
  go_wp2_with fail
  refine (sKeyText_any L hL HW.out _).mono ?_
  rintro e w3 ⟨rfl, hb3⟩
  have z2 := hb2.size
  rw [size_alloc] at z2
  have B3 : Below w.heap.size w w3 := (b1.trans (hb2.mono (by rw [size_alloc]; omega))).trans (hb3.mono (by omega))
  have h3 : Blk w3 w.heap.size 22 (ivs .u8 L) := (h1.below hb2 (by rw [size_alloc]; omega)).below hb3 (by omega)
  have z3 := hb3.size
  clear hb2 hb3 h1 b1
  go_wp2_with (refine wpList_load_row rfl _ _ rfl w.heap.size rfl 22 (ivs .u8 L) (0, 0) _ h3 Try.underlying22 rfl (by rw [ivs_size, hL]; exact size22) ?_)
  refine (toMaskKey_any L hL _).mono ?_
  rintro e w5 ⟨rfl, hb5⟩
  go_wp2_with fail
  refine (iKeyText_any L hL HW.out _).mono ?_
  rintro e w6 ⟨rfl, hb6⟩
  have z5 := hb5.size
  have B6 : Below w.heap.size w w6 := (B3.trans (hb5.mono (by omega))).trans (hb6.mono (by omega))
  clear hb5 hb6 h3 B3
  go_wp2
  go_ret
  exact ⟨rfl, B6⟩
end Go.Proofs.Ytagcmgnakejlcaa
