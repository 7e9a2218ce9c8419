/- Points and their keys: floats by their bits. -/
import Derived.Test.YtigjdcfdgifonaaRows
import Derived.Test.YtigjdcfdgifonaaFrE
import Derived.Test.YtigjdcfdgifonaaUa
import Derived.Test.YtigjdcfdgifonaaUb
import Derived.Deep.RegionHeld3
import Derived.Deep.RegionWith
namespace Go.Proofs.Ytigjdcfdgifonaa
open Go.ChangeShapes Go.WideShapes Go.ChangeAt Go.RowKit
theorem size73 : (Try.prog.info? 73).map (·.size) = some 8 := by kernel_rfl
def nan (x : Nat) : Bool := FloatKind.f32.format.order x x != some Ordering.eq
theorem sNan_any (x : Nat) (w : World) : Calls Try.prog 110 #[.float .f32 x] w fun e w' => e = .returned (.bool (nan x)) ∧ w = w' := by
  go_enter Try.func110, Try.ntmps110
  go_wp2
  go_ret
  exact ⟨rfl, rfl⟩
theorem iNan_any (x : Nat) (w : World) : Calls Try.prog 108 #[.float .f32 x] w fun e w' => e = .returned (.bool (nan x)) ∧ w = w' := by
  go_enter Try.func108, Try.ntmps108
  go_wp2
  go_ret
  exact ⟨rfl, rfl⟩
theorem frombits_run (x : Int) (W : World) : (callFunc 79 #[.int .u32 x]).run Try.prog W = .ok (.value (.float .f32 x.toNat)) W := by kernel_rfl
theorem bits_run (x : Nat) (W : World) : (callFunc 109 #[.float .f32 x]).run Try.prog W = .ok (.value (.int .u32 x)) W := by kernel_rfl
/-- the bits of a number, one pattern for what is none -/
def cb (x : Nat) : Int := if nan x then 2143289344 else x
theorem sBits_any (x : Nat) (w : World) : Calls Try.prog 111 #[.float .f32 x] w fun e w' => e = .returned (.int .u32 (cb x)) ∧ w = w' := by
  have hn := fun W => sNan_any x W
  unfold cb
  generalize nan x = b at *
  have HN := Lib.hid hn
  clear hn
  cases b
  · go_enter Try.func111, Try.ntmps111
    have hb := fun W => bits_run x W
    go_wp2_with (go_at_call 110; refine (HN.out _).mono ?_; rintro e w' ⟨rfl, rfl⟩)
    go_ret
    exact ⟨rfl, rfl⟩
  · go_enter Try.func111, Try.ntmps111
    go_wp2_with (go_at_call 110; refine (HN.out _).mono ?_; rintro e w' ⟨rfl, rfl⟩)
    go_ret
    exact ⟨rfl, rfl⟩
theorem iBits_any (x : Nat) (w : World) : Calls Try.prog 98 #[.float .f32 x] w fun e w' => e = .returned (.int .u32 (cb x)) ∧ w = w' := by
  have hn := fun W => iNan_any x W
  unfold cb
  generalize nan x = b at *
  have HN := Lib.hid hn
  clear hn
  cases b
  · go_enter Try.func98, Try.ntmps98
    have hb := fun W => bits_run x W
    go_wp2_with (go_at_call 108; refine (HN.out _).mono ?_; rintro e w' ⟨rfl, rfl⟩)
    go_ret
    exact ⟨rfl, rfl⟩
  · go_enter Try.func98, Try.ntmps98
    go_wp2_with (go_at_call 108; refine (HN.out _).mono ?_; rintro e w' ⟨rfl, rfl⟩)
    go_ret
    exact ⟨rfl, rfl⟩
/-- the key of a point -/
def keyB (re im : Nat) : List Int := four (cb re) ++ four (cb im)
theorem keyB_length (re im : Nat) : (keyB re im).length = 8 := rfl
theorem cb_range {x : Nat} (h : x < 4294967296) : 0 ≤ cb x ∧ cb x < 4294967296 := by
  unfold cb
  split <;> omega
def kst (x y : Int) (k : Nat) : List Int := ((four x).take k ++ List.replicate (4 - k) 0) ++ ((four y).take k ++ List.replicate (4 - k) 0)

set_option maxRecDepth 20000 in
set_option maxHeartbeats 3200000 in
theorem sKey_any (re im : Nat) (h1 : re < 4294967296) (h2 : im < 4294967296) (w : World) :
    Calls Try.prog 100 #[.complex .f32 re im] w fun e w' => e = .returned (.agg (ivs .u8 (keyB re im))) ∧ Below w.heap.size w w' := by
  have hx := fun W => sBits_any re W
  have hy := fun W => sBits_any im W
  have rx := cb_range h1
  have ry := cb_range h2
  unfold keyB
  obtain ⟨x, hcx⟩ : ∃ x, x = cb re := ⟨_, rfl⟩
  obtain ⟨y, hcy⟩ : ∃ y, y = cb im := ⟨_, rfl⟩
  rw [← hcx] at hx rx ⊢
  rw [← hcy] at hy ry ⊢
  have HX := Lib.hid hx
  have HY := Lib.hid hy
  obtain ⟨x0, x1⟩ := rx
  obtain ⟨y0, y1⟩ := ry
  clear hx hy hcx hcy
  have r1 : Blk ((w.alloc (.cells #[.int .u8 0, .int .u8 0, .int .u8 0, .int .u8 0, .int .u8 0, .int .u8 0, .int .u8 0, .int .u8 0] 73)).alloc (.cells #[.int .u8 0, .int .u8 0, .int .u8 0, .int .u8 0, .int .u8 0, .int .u8 0, .int .u8 0, .int .u8 0] 73)) w.heap.size 73 (ivs .u8 (List.replicate 8 0)) := (Blk.newAt rfl rfl).alloc _
  have r2 : Blk ((w.alloc (.cells #[.int .u8 0, .int .u8 0, .int .u8 0, .int .u8 0, .int .u8 0, .int .u8 0, .int .u8 0, .int .u8 0] 73)).alloc (.cells #[.int .u8 0, .int .u8 0, .int .u8 0, .int .u8 0, .int .u8 0, .int .u8 0, .int .u8 0, .int .u8 0] 73)) (w.heap.size + 1) 73 (ivs .u8 (List.replicate 8 0)) := Blk.newAt (by simp) rfl
  have b2 : Below w.heap.size w ((w.alloc (.cells #[.int .u8 0, .int .u8 0, .int .u8 0, .int .u8 0, .int .u8 0, .int .u8 0, .int .u8 0, .int .u8 0] 73)).alloc (.cells #[.int .u8 0, .int .u8 0, .int .u8 0, .int .u8 0, .int .u8 0, .int .u8 0, .int .u8 0, .int .u8 0] 73)) := ((Below.refl _ _).alloc (Nat.le_refl _) _).alloc (by simp) _
  have r3 := r1.rowFar (show w.heap.size ≠ w.heap.size + 1 by omega) (ivs .u8 (List.replicate 8 0))
  have r4 := r2.row (ivs .u8 (List.replicate 8 0))
  have b3 := below_setRow b2 (g := w.heap.size + 1) (by omega) (ivs .u8 (List.replicate 8 0))
  go_enter Try.func100, Try.ntmps100
  go_wp2_with (first
    | refine wpList_store_row rfl _ _ _ rfl (w.heap.size + 1) (ivs .u8 (List.replicate 8 0)) rfl rfl 73 _ r2 (by rw [ivs_size]; exact size73) (by simp [ivs_size]) ivs_one ?_
    | (go_at_call_of 111 re; refine (HX.out _).mono ?_; rintro e w' ⟨rfl, rfl⟩)
    | (go_at_call_of 111 im; refine (HY.out _).mono ?_; rintro e w' ⟨rfl, rfl⟩))
  go_loopw [6] (fun i wr => ∃ k : Nat, k ≤ 4 ∧ i = .int .i64 k ∧ Blk wr w.heap.size 73 (ivs .u8 (List.replicate 8 0)) ∧ Blk wr (w.heap.size + 1) 73 (ivs .u8 (kst x y k)) ∧ Below w.heap.size w wr) (fun i _ => 4 - (intOf i).toNat)
  case atStart => exact ⟨0, by omega, rfl, r3, r4, b3⟩
  case round =>
    clear r1 r2 r3 r4 b2 b3
    obtain ⟨k, hk, rfl, h1, h2, hb⟩ := hrel
    rcases (by omega : k = 0 ∨ k = 1 ∨ k = 2 ∨ k = 3 ∨ k = 4) with rfl | rfl | rfl | rfl | rfl
    · have c1 : wr.cell? ⟨w.heap.size + 1, 0, none⟩ = some (.int .u8 0) := (h2.cell 0).trans rfl
      have c2 : wr.cell? ⟨w.heap.size + 1, 4, none⟩ = some (.int .u8 0) := (h2.cell 4).trans rfl
      have f1 := h2.frozen 0
      have f2 := h2.frozen 4
      have h3 : Blk ((wr.setCell ⟨w.heap.size + 1, 0, none⟩ (.int .u8 (x / 16777216 % 256))).setCell ⟨w.heap.size + 1, 4, none⟩ (.int .u8 (y / 16777216 % 256))) (w.heap.size + 1) 73 (ivs .u8 (kst x y 1)) := (h2.setI 0 (x / 16777216 % 256)).setI 4 (y / 16777216 % 256)
      rw [show x / 16777216 % 256 = x / 16777216 by omega, show y / 16777216 % 256 = y / 16777216 by omega] at h3
      have H3 := Lib.hid h3
      clear h3 h2
      go_wp2
      exact ⟨⟨1, by omega, by go_num, (h1.far (by simp) _).far (by simp) _, H3.out, (hb.setCell (by simp) _).setCell (by simp) _⟩, by simp [intOf]⟩
    · have c1 : wr.cell? ⟨w.heap.size + 1, 1, none⟩ = some (.int .u8 0) := (h2.cell 1).trans rfl
      have c2 : wr.cell? ⟨w.heap.size + 1, 5, none⟩ = some (.int .u8 0) := (h2.cell 5).trans rfl
      have f1 := h2.frozen 1
      have f2 := h2.frozen 5
      have h3 : Blk ((wr.setCell ⟨w.heap.size + 1, 1, none⟩ (.int .u8 (x / 65536 % 256))).setCell ⟨w.heap.size + 1, 5, none⟩ (.int .u8 (y / 65536 % 256))) (w.heap.size + 1) 73 (ivs .u8 (kst x y 2)) := (h2.setI 1 (x / 65536 % 256)).setI 5 (y / 65536 % 256)
      have H3 := Lib.hid h3
      clear h3 h2
      go_wp2
      exact ⟨⟨2, by omega, by go_num, (h1.far (by simp) _).far (by simp) _, H3.out, (hb.setCell (by simp) _).setCell (by simp) _⟩, by simp [intOf]⟩
    · have c1 : wr.cell? ⟨w.heap.size + 1, 2, none⟩ = some (.int .u8 0) := (h2.cell 2).trans rfl
      have c2 : wr.cell? ⟨w.heap.size + 1, 6, none⟩ = some (.int .u8 0) := (h2.cell 6).trans rfl
      have f1 := h2.frozen 2
      have f2 := h2.frozen 6
      have h3 : Blk ((wr.setCell ⟨w.heap.size + 1, 2, none⟩ (.int .u8 (x / 256 % 256))).setCell ⟨w.heap.size + 1, 6, none⟩ (.int .u8 (y / 256 % 256))) (w.heap.size + 1) 73 (ivs .u8 (kst x y 3)) := (h2.setI 2 (x / 256 % 256)).setI 6 (y / 256 % 256)
      have H3 := Lib.hid h3
      clear h3 h2
      go_wp2
      exact ⟨⟨3, by omega, by go_num, (h1.far (by simp) _).far (by simp) _, H3.out, (hb.setCell (by simp) _).setCell (by simp) _⟩, by simp [intOf]⟩
    · have c1 : wr.cell? ⟨w.heap.size + 1, 3, none⟩ = some (.int .u8 0) := (h2.cell 3).trans rfl
      have c2 : wr.cell? ⟨w.heap.size + 1, 7, none⟩ = some (.int .u8 0) := (h2.cell 7).trans rfl
      have f1 := h2.frozen 3
      have f2 := h2.frozen 7
      have h3 : Blk ((wr.setCell ⟨w.heap.size + 1, 3, none⟩ (.int .u8 (x % 256))).setCell ⟨w.heap.size + 1, 7, none⟩ (.int .u8 (y % 256))) (w.heap.size + 1) 73 (ivs .u8 (kst x y 4)) := (h2.setI 3 (x % 256)).setI 7 (y % 256)
      have H3 := Lib.hid h3
      clear h3 h2
      go_wp2
      exact ⟨⟨4, by omega, by go_num, (h1.far (by simp) _).far (by simp) _, H3.out, (hb.setCell (by simp) _).setCell (by simp) _⟩, by simp [intOf]⟩
    · have h3 : Blk wr (w.heap.size + 1) 73 (ivs .u8 (four x ++ four y)) := h2
      clear h2
      have hl : (four x ++ four y).length = 8 := rfl
      have HL := Lib.hid hl
      clear hl
      obtain ⟨K, hK⟩ : ∃ K, K = four x ++ four y := ⟨_, rfl⟩
      rw [← hK] at h3 HL
      have HK := Lib.hid hK
      clear hK
      go_wp2_with (first
        | refine wpList_load_row rfl _ _ rfl (w.heap.size + 1) rfl 73 (ivs .u8 K) (0, 0) _ h3 Try.underlying73 rfl (by rw [ivs_size, HL.out]; exact size73) ?_
        | refine wpList_store_row rfl _ _ _ rfl w.heap.size (ivs .u8 K) rfl rfl 73 _ h1 (by rw [ivs_size, HL.out]; exact size73) (by simp [ivs_size, HL.out]) ivs_one ?_)
      exact bodyPost_ret (results_cell_row rfl _ _ w.heap.size 73 (ivs .u8 K) (0, 0) _ rfl (h1.row _) Try.underlying73 rfl (by rw [ivs_size, HL.out]; exact size73)) rfl ⟨by rw [HK.out], below_setRow hb (by omega) _⟩

theorem put8 (x y : Int) : put4 (put4 (List.replicate 8 0) 0 x) 4 y = four x ++ four y := rfl
set_option maxRecDepth 20000 in
set_option maxHeartbeats 12800000 in
theorem iKey_any (re im : Nat) (_h1 : re < 4294967296) (_h2 : im < 4294967296) (w : World) :
    Calls Try.prog 66 #[.complex .f32 re im] w fun e w' => e = .returned (.agg (ivs .u8 (keyB re im))) ∧ Below w.heap.size w w' := by
  have hx := fun W => iBits_any re W
  have hy := fun W => iBits_any im W
  unfold keyB
  obtain ⟨x, hcx⟩ : ∃ x, x = cb re := ⟨_, rfl⟩
  obtain ⟨y, hcy⟩ : ∃ y, y = cb im := ⟨_, rfl⟩
  rw [← hcx] at hx ⊢
  rw [← hcy] at hy ⊢
  have HX := Lib.hid hx
  have HY := Lib.hid hy
  clear hx hy hcx hcy
  have r1 : Blk ((w.alloc (.cells #[.int .u8 0, .int .u8 0, .int .u8 0, .int .u8 0, .int .u8 0, .int .u8 0, .int .u8 0, .int .u8 0] 73)).alloc (.cells #[.int .u8 0, .int .u8 0, .int .u8 0, .int .u8 0, .int .u8 0, .int .u8 0, .int .u8 0, .int .u8 0] 73)) w.heap.size 73 (ivs .u8 (List.replicate 8 0)) := (Blk.newAt rfl rfl).alloc _
  have r2 : Blk ((w.alloc (.cells #[.int .u8 0, .int .u8 0, .int .u8 0, .int .u8 0, .int .u8 0, .int .u8 0, .int .u8 0, .int .u8 0] 73)).alloc (.cells #[.int .u8 0, .int .u8 0, .int .u8 0, .int .u8 0, .int .u8 0, .int .u8 0, .int .u8 0, .int .u8 0] 73)) (w.heap.size + 1) 73 (ivs .u8 (List.replicate 8 0)) := Blk.newAt (by simp) rfl
  have b2 : Below w.heap.size w ((w.alloc (.cells #[.int .u8 0, .int .u8 0, .int .u8 0, .int .u8 0, .int .u8 0, .int .u8 0, .int .u8 0, .int .u8 0] 73)).alloc (.cells #[.int .u8 0, .int .u8 0, .int .u8 0, .int .u8 0, .int .u8 0, .int .u8 0, .int .u8 0, .int .u8 0] 73)) := ((Below.refl _ _).alloc (Nat.le_refl _) _).alloc (by simp) _
  have r3 := r1.rowFar (show w.heap.size ≠ w.heap.size + 1 by omega) (ivs .u8 (List.replicate 8 0))
  have r4 := r2.row (ivs .u8 (List.replicate 8 0))
  have b3 := below_setRow b2 (g := w.heap.size + 1) (by omega) (ivs .u8 (List.replicate 8 0))
  go_enter Try.func66, Try.ntmps66
  go_wp2_with (refine wpList_store_row rfl _ _ _ rfl (w.heap.size + 1) (ivs .u8 (List.replicate 8 0)) rfl rfl 73 _ r2 (by rw [ivs_size]; exact size73) (by simp [ivs_size]) ivs_one ?_)
  have z4 := r4.lt
  go_region_with (first
    | (go_at_call 98; refine (HX.out _).mono ?_; rintro e w' ⟨rfl, rfl⟩)
    | (go_at_call 97; refine (put32_any x (w.heap.size + 1) 0 4 8 73 (List.replicate 8 0) _ (by omega) (by simp) r4.drew).mono ?_; rintro e w5 ⟨rfl, h5, hg5⟩; have H5 := Lib.hid h5; have HG5 := Lib.hid hg5; clear h5 hg5))
  all_goals
    have B5 : Below w.heap.size w w5 := (below_drew b3).grown HG5.out (Nat.le_of_lt (Nat.lt_of_succ_lt z4)) (fun j e => by injection e; omega)
    have R5 : Blk w5 w.heap.size 73 (ivs .u8 (List.replicate 8 0)) := r3.drew.grown HG5.out (ne_some (by omega))
    have z5 : w.heap.size + 1 < w5.heap.size := H5.out.lt
    clear HG5
    go_wp2
    go_region_with (first
      | (go_at_call 98; refine (HY.out _).mono ?_; rintro e w' ⟨rfl, rfl⟩)
      | (go_at_call 97; refine (put32_any y (w.heap.size + 1) 4 4 4 73 (put4 (List.replicate 8 0) 0 x) _ (by omega) (by rw [put4_length]; simp) H5.out.drew).mono ?_; rintro e w6 ⟨rfl, h6, hg6⟩; have H6 := Lib.hid h6; have HG6 := Lib.hid hg6; clear h6 hg6))
  all_goals
    have B6 : Below w.heap.size w w6 := (below_drew B5).grown HG6.out (Nat.le_of_lt (Nat.lt_of_succ_lt z5)) (fun j e => by injection e; omega)
    have R6 : Blk w6 w.heap.size 73 (ivs .u8 (List.replicate 8 0)) := R5.drew.grown HG6.out (ne_some (by omega))
    have h6 := H6.out
    rw [put8] at h6
    have hl : (four x ++ four y).length = 8 := rfl
    obtain ⟨K, hK⟩ : ∃ K, K = four x ++ four y := ⟨_, rfl⟩
    rw [← hK] at h6 hl
    have HL := Lib.hid hl
    have HK := Lib.hid hK
    have H7 := Lib.hid h6
    clear hK hl h6 H6 HG6
    go_wp2_with (first
      | refine wpList_load_row rfl _ _ rfl (w.heap.size + 1) rfl 73 (ivs .u8 K) (0, 0) _ H7.out Try.underlying73 rfl (by rw [ivs_size, HL.out]; exact size73) ?_
      | refine wpList_store_row rfl _ _ _ rfl w.heap.size (ivs .u8 K) rfl rfl 73 _ R6 (by rw [ivs_size, HL.out]; exact size73) (by simp [ivs_size, HL.out]) ivs_one ?_)
    exact bodyPost_ret (results_cell_row rfl _ _ w.heap.size 73 (ivs .u8 K) (0, 0) _ rfl (R6.row _) Try.underlying73 rfl (by rw [ivs_size, HL.out]; exact size73)) rfl ⟨by rw [HK.out], below_setRow B6 (by omega) _⟩
end Go.Proofs.Ytigjdcfdgifonaa
