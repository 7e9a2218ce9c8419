/- The code of a word: the program's walk. -/
import Derived.Test.YtmagaapdijapiaaRows
import Derived.Test.YtmagaapdijapiaaWe
import Derived.Deep.RegionHeld3
namespace Go.Proofs.Ytmagaapdijapiaa
open Go.ChangeShapes Go.WideShapes Go.ChangeAt Go.RowKit
set_option maxRecDepth 20000 in
set_option maxHeartbeats 6400000 in
theorem iCodeOfWord_any (s : ByteArray) (hs : s.size ≤ 1048576) (w : World) :
    Calls Try.prog 66 #[.string s] w fun e w' => e = .returned (.tuple #[.agg (ivs .u8 (wcV s)), .int .i64 (wcC s)]) ∧ Below w.heap.size w w' := by
  have hok := fun W => validWord_any s hs W
  have r1 : Blk (w.alloc (.cells #[.int .u8 0, .int .u8 0, .int .u8 0, .int .u8 0, .int .u8 0, .int .u8 0, .int .u8 0, .int .u8 0, .int .u8 0, .int .u8 0, .int .u8 0, .int .u8 0, .int .u8 0, .int .u8 0, .int .u8 0, .int .u8 0] 103)) w.heap.size 103 (ivs .u8 (List.replicate 16 0)) := Blk.newAt rfl rfl
  have b1 : Below w.heap.size w (w.alloc (.cells #[.int .u8 0, .int .u8 0, .int .u8 0, .int .u8 0, .int .u8 0, .int .u8 0, .int .u8 0, .int .u8 0, .int .u8 0, .int .u8 0, .int .u8 0, .int .u8 0, .int .u8 0, .int .u8 0, .int .u8 0, .int .u8 0] 103)) := (Below.refl _ _).alloc (Nat.le_refl _) _
  rcases hw : wOk s with _ | _
  · have e2 : wcV s = List.replicate 16 0 := by rw [wcV, hw]; rfl
    have e3 : wcC s = 1 := by rw [wcC, hw]; rfl
    rw [e2, e3]
    rw [hw] at hok
    have HOK := Lib.hid hok
    clear hok hw e2 e3
    go_enter Try.func66, Try.ntmps66
    go_wp2_with (first
      | (go_at_call 111; refine (HOK.out _).mono ?_; rintro e w' ⟨rfl, rfl⟩)
      | refine wpList_store_row rfl _ _ _ rfl w.heap.size (ivs .u8 (List.replicate 16 0)) rfl rfl 103 _ r1 (by rw [ivs_size]; exact size103) (by simp [ivs_size]) ivs_one ?_)
    exact bodyPost_ret (results_row_tmp rfl _ _ w.heap.size 103 (ivs .u8 (List.replicate 16 0)) (0, 0) _ rfl (r1.row _) Try.underlying103 rfl (by rw [ivs_size]; exact size103)) rfl ⟨rfl, below_setRow b1 (by omega) _⟩
  · have e2 : wcV s = cw s (3 * s.size) := by rw [wcV, hw]; rfl
    have e3 : wcC s = 0 := by rw [wcC, hw]; rfl
    rw [e2, e3]
    have h40 := wOk_size hw
    have hL := fun k hk => wOk_isL (k := k) hw hk
    rw [hw] at hok
    have HOK := Lib.hid hok
    have HL := Lib.hid hL
    clear hok hw e2 e3 hL
    have hw8 : (s.size : Int) % 256 = s.size := by omega
    have q1 := r1.alloc (.cells #[.int .u8 0, .int .u8 0, .int .u8 0, .int .u8 0, .int .u8 0, .int .u8 0, .int .u8 0, .int .u8 0, .int .u8 0, .int .u8 0, .int .u8 0, .int .u8 0, .int .u8 0, .int .u8 0, .int .u8 0, .int .u8 0] 103)
    have q2 : Blk ((w.alloc (.cells #[.int .u8 0, .int .u8 0, .int .u8 0, .int .u8 0, .int .u8 0, .int .u8 0, .int .u8 0, .int .u8 0, .int .u8 0, .int .u8 0, .int .u8 0, .int .u8 0, .int .u8 0, .int .u8 0, .int .u8 0, .int .u8 0] 103)).alloc (.cells #[.int .u8 0, .int .u8 0, .int .u8 0, .int .u8 0, .int .u8 0, .int .u8 0, .int .u8 0, .int .u8 0, .int .u8 0, .int .u8 0, .int .u8 0, .int .u8 0, .int .u8 0, .int .u8 0, .int .u8 0, .int .u8 0] 103)) (w.heap.size + 1) 103 (ivs .u8 (List.replicate 16 0)) := Blk.newAt (by simp) rfl
    have p2 := b1.alloc (by simp) (.cells #[.int .u8 0, .int .u8 0, .int .u8 0, .int .u8 0, .int .u8 0, .int .u8 0, .int .u8 0, .int .u8 0, .int .u8 0, .int .u8 0, .int .u8 0, .int .u8 0, .int .u8 0, .int .u8 0, .int .u8 0, .int .u8 0] 103)
    have q3 := q1.rowFar (show w.heap.size ≠ w.heap.size + 1 by omega) (ivs .u8 (cw s 0))
    have q4 := q2.row (ivs .u8 (cw s 0))
    have p3 := below_setRow p2 (g := w.heap.size + 1) (by omega) (ivs .u8 (cw s 0))
    go_enter Try.func66, Try.ntmps66
    go_wp2_with (first
      | (go_at_call 111; refine (HOK.out _).mono ?_; rintro e w' ⟨rfl, rfl⟩)
      | refine wpList_store_row rfl _ _ _ rfl (w.heap.size + 1) (ivs .u8 (cw s 0)) rfl rfl 103 _ q2 (by rw [ivs_size, cw_length]; exact size103) (by simp [ivs_size, cw_length]) ivs_one ?_)
    go_loopw [5, 6, 7, 18, 21] (fun _ _ _ i _ wr => ∃ k : Nat, k ≤ s.size ∧ i = .int .i64 k ∧ Blk wr w.heap.size 103 (ivs .u8 (List.replicate 16 0)) ∧ Blk wr (w.heap.size + 1) 103 (ivs .u8 (cw s (3 * k))) ∧ Below w.heap.size w wr) (fun _ _ _ i _ _ => s.size - (intOf i).toNat)
    case atStart => exact ⟨0, by omega, rfl, q3, q4, p3⟩
    case round =>
      clear q1 q2 p2 q3 q4 p3 r1 b1 hw8
      obtain ⟨k, hk, rfl, h1, h2, hb⟩ := hrel
      by_cases hlt : k < s.size
      · have hlt' : (k : Int) < s.size := by omega
        go_wp2
        obtain ⟨wo, rfl⟩ : ∃ wo : World, wo = wr := ⟨_, rfl⟩
        go_loopw [6, 7, 21] (fun _ _ j wr => ∃ b : Nat, b ≤ 3 ∧ j = .int .i64 b ∧ Blk wr w.heap.size 103 (ivs .u8 (List.replicate 16 0)) ∧ Blk wr (w.heap.size + 1) 103 (ivs .u8 (cw s (3 * k + b))) ∧ Below w.heap.size w wr) (fun _ _ j _ => 3 - (intOf j).toNat)
        case atStart => exact ⟨0, by omega, rfl, h1, h2, hb⟩
        case round =>
          clear h1 h2 hb
          obtain ⟨b, hb3, rfl, h1, h2, hb⟩ := hrel
          by_cases hlt3 : b < 3
          · have hlt3' : (b : Int) < 3 := by omega
            have hr := fun W => run_bAt (w := W) s k hlt
            have hL := fun W => placeOf_any (bAt s k) (HL.out k hlt) W
            have hv := lt_of_isL (HL.out k hlt)
            obtain ⟨v0, v1⟩ := hv
            obtain ⟨v, hvv⟩ : ∃ v, v = lt (bAt s k) := ⟨_, rfl⟩
            rw [← hvv] at v0 v1 hL
            have HV := Lib.hid hvv.symm
            have HLT := Lib.hid hL
            clear hvv hL
            rcases (by omega : b = 0 ∨ b = 1 ∨ b = 2) with rfl | rfl | rfl
            · have hwb : wbit s (3 * k + 0) = (bits .and .i64 (v / 4) 1 == 1) := by
                rw [wbit_b s k 0 (by omega), btest _ (by omega) (by omega), HV.out]
                simp
              have hi1 : 1 + (3 * (k : Int)) / 8 < 16 := by omega
              have hi0 : 0 ≤ 1 + (3 * (k : Int)) / 8 := by omega
              obtain ⟨y, hy⟩ : ∃ y, y = (cw s (3 * k + 0)).getD (1 + (3 * k) / 8) 0 := ⟨_, rfl⟩
              have c2 : wr.cell? ⟨w.heap.size + 1, 1 + (3 * k) / 8, none⟩ = some (.int .u8 y) := by rw [hy]; have := h2.getD (1 + (3 * k) / 8) (by rw [cw_length]; omega); rwa [Nat.zero_add] at this
              have f2 := h2.frozen (1 + (3 * k) / 8)
              have HWB := Lib.hid hwb
              have HY := Lib.hid hy
              clear hwb hy
              rcases ht : (bits .and .i64 (v / 4) 1 == 1) with _ | _
              · rw [ht] at HWB
                go_wp2_with (go_at_call 112; refine (HLT.out _).mono ?_; rintro e w' ⟨rfl, rfl⟩)
                exact ⟨⟨1, by omega, by go_num, h1, by have e := cw_no HWB.out; rw [show 3 * k + 1 = 3 * k + 0 + 1 by omega, e]; exact h2, hb⟩, by simp [intOf]⟩
              · rw [ht] at HWB
                go_wp2_with (go_at_call 112; refine (HLT.out _).mono ?_; rintro e w' ⟨rfl, rfl⟩)
                go_region
                go_wp2
                exact ⟨⟨1, by omega, by go_num, (h1.far (by simp) _ : Blk (wr.setCell _ _) _ _ _), by have e := cw_yes HWB.out; rw [show 3 * k + 1 = 3 * k + 0 + 1 by omega, e, show (cw s (3 * k + 0)).getD (1 + (3 * k + 0) / 8) 0 = y from HY.out.symm]; exact (h2.setI _ _ : Blk (wr.setCell _ _) _ _ _), below_drew (hb.setCell (by simp) _)⟩, by simp [intOf]⟩
            · have hwb : wbit s (3 * k + 1) = (bits .and .i64 (v / 2) 1 == 1) := by
                rw [wbit_b s k 1 (by omega), btest _ (by omega) (by omega), HV.out]
                simp
              have hi1 : 1 + (3 * (k : Int) + 1) / 8 < 16 := by omega
              have hi0 : 0 ≤ 1 + (3 * (k : Int) + 1) / 8 := by omega
              obtain ⟨y, hy⟩ : ∃ y, y = (cw s (3 * k + 1)).getD (1 + (3 * k + 1) / 8) 0 := ⟨_, rfl⟩
              have c2 : wr.cell? ⟨w.heap.size + 1, 1 + (3 * k + 1) / 8, none⟩ = some (.int .u8 y) := by rw [hy]; have := h2.getD (1 + (3 * k + 1) / 8) (by rw [cw_length]; omega); rwa [Nat.zero_add] at this
              have f2 := h2.frozen (1 + (3 * k + 1) / 8)
              have HWB := Lib.hid hwb
              have HY := Lib.hid hy
              clear hwb hy
              rcases ht : (bits .and .i64 (v / 2) 1 == 1) with _ | _
              · rw [ht] at HWB
                go_wp2_with (go_at_call 112; refine (HLT.out _).mono ?_; rintro e w' ⟨rfl, rfl⟩)
                exact ⟨⟨2, by omega, by go_num, h1, by have e := cw_no HWB.out; rw [show 3 * k + 2 = 3 * k + 1 + 1 by omega, e]; exact h2, hb⟩, by simp [intOf]⟩
              · rw [ht] at HWB
                go_wp2_with (go_at_call 112; refine (HLT.out _).mono ?_; rintro e w' ⟨rfl, rfl⟩)
                go_region
                go_wp2
                exact ⟨⟨2, by omega, by go_num, (h1.far (by simp) _ : Blk (wr.setCell _ _) _ _ _), by have e := cw_yes HWB.out; rw [show 3 * k + 2 = 3 * k + 1 + 1 by omega, e, show (cw s (3 * k + 1)).getD (1 + (3 * k + 1) / 8) 0 = y from HY.out.symm]; exact (h2.setI _ _ : Blk (wr.setCell _ _) _ _ _), below_drew (hb.setCell (by simp) _)⟩, by simp [intOf]⟩
            · have hwb : wbit s (3 * k + 2) = (bits .and .i64 (v) 1 == 1) := by
                rw [wbit_b s k 2 (by omega), btest _ (by omega) (by omega), HV.out]
                simp
              have hi1 : 1 + (3 * (k : Int) + 2) / 8 < 16 := by omega
              have hi0 : 0 ≤ 1 + (3 * (k : Int) + 2) / 8 := by omega
              obtain ⟨y, hy⟩ : ∃ y, y = (cw s (3 * k + 2)).getD (1 + (3 * k + 2) / 8) 0 := ⟨_, rfl⟩
              have c2 : wr.cell? ⟨w.heap.size + 1, 1 + (3 * k + 2) / 8, none⟩ = some (.int .u8 y) := by rw [hy]; have := h2.getD (1 + (3 * k + 2) / 8) (by rw [cw_length]; omega); rwa [Nat.zero_add] at this
              have f2 := h2.frozen (1 + (3 * k + 2) / 8)
              have HWB := Lib.hid hwb
              have HY := Lib.hid hy
              clear hwb hy
              rcases ht : (bits .and .i64 (v) 1 == 1) with _ | _
              · rw [ht] at HWB
                go_wp2_with (go_at_call 112; refine (HLT.out _).mono ?_; rintro e w' ⟨rfl, rfl⟩)
                exact ⟨⟨3, by omega, by go_num, h1, by have e := cw_no HWB.out; rw [show 3 * k + 3 = 3 * k + 2 + 1 by omega, e]; exact h2, hb⟩, by simp [intOf]⟩
              · rw [ht] at HWB
                go_wp2_with (go_at_call 112; refine (HLT.out _).mono ?_; rintro e w' ⟨rfl, rfl⟩)
                go_region
                go_wp2
                exact ⟨⟨3, by omega, by go_num, (h1.far (by simp) _ : Blk (wr.setCell _ _) _ _ _), by have e := cw_yes HWB.out; rw [show 3 * k + 3 = 3 * k + 2 + 1 by omega, e, show (cw s (3 * k + 2)).getD (1 + (3 * k + 2) / 8) 0 = y from HY.out.symm]; exact (h2.setI _ _ : Blk (wr.setCell _ _) _ _ _), below_drew (hb.setCell (by simp) _)⟩, by simp [intOf]⟩
          · obtain rfl : b = 3 := by omega
            go_wp2
            exact ⟨⟨k + 1, by omega, by go_num, h1, h2, hb⟩, by simp [intOf]; omega⟩
      · obtain rfl : k = s.size := by omega
        have hl := cw_length s (3 * s.size)
        have HLN := Lib.hid hl
        clear hl
        go_wp2_with (first
          | refine wpList_load_row rfl _ _ rfl (w.heap.size + 1) rfl 103 (ivs .u8 (cw s (3 * s.size))) (0, 0) _ h2 Try.underlying103 rfl (by rw [ivs_size, HLN.out]; exact size103) ?_
          | refine wpList_store_row rfl _ _ _ rfl w.heap.size (ivs .u8 (cw s (3 * s.size))) rfl rfl 103 _ h1 (by rw [ivs_size, HLN.out]; exact size103) (by simp [ivs_size, HLN.out]) ivs_one ?_)
        exact bodyPost_ret (results_row_tmp rfl _ _ w.heap.size 103 (ivs .u8 (cw s (3 * s.size))) (0, 0) _ rfl (h1.row _) Try.underlying103 rfl (by rw [ivs_size, HLN.out]; exact size103)) rfl ⟨rfl, below_setRow hb (by omega) _⟩
end Go.Proofs.Ytmagaapdijapiaa
