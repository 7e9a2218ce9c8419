/- Points out of keys: the reference's walk. -/
import Derived.Test.YtigjdcfdgifonaaRows
import Derived.Test.YtigjdcfdgifonaaFl
namespace Go.Proofs.Ytigjdcfdgifonaa
open Go.ChangeShapes Go.WideShapes Go.ChangeAt Go.RowKit
attribute [local go_sem ↓] exec_loadKey
attribute [local go_sem] run_ldKey
set_option maxRecDepth 20000 in
set_option maxHeartbeats 6400000 in
theorem sFromKey_any (K : List Int) (hK : K.length = 8) (h255 : is255 K) (w : World) :
    Calls Try.prog 74 #[.agg (ivs .u8 K)] w fun e w' => e = .returned (.tuple #[.complex .f32 (pRe K) (pIm K), .bool (fkOk K)]) ∧ Below w.heap.size w w' := by
  obtain ⟨i0, hi0, -, -, -⟩ := info_parts uint8_info
  have hkb := keyB_length (pRe K) (pIm K)
  have heq : ∀ W : World, (Op.equalIn 10000 73 (.agg (ivs .u8 (keyB (pRe K) (pIm K)))) (.agg (ivs .u8 K))).run Try.prog W = .ok (fkOk K) W := fun W => run_eql_arr W Try.underlying73 Try.underlying5 hi0 (by kernel_rfl) hkb hK
  have h1 : Blk (w.alloc (.cells (ivs .u8 K) 73)) w.heap.size 73 (ivs .u8 K) := Blk.newAt rfl rfl
  have bb1 : Below w.heap.size w (w.alloc (.cells (ivs .u8 K) 73)) := (Below.refl _ _).alloc (Nat.le_refl _) _
  have hfb := frombits_run
  have hky := fun W => sKey_any (pRe K) (pIm K) (pRe_lt h255) (pIm_lt h255) W
  have hr0 : (numAt K 0).toNat = pRe K := rfl
  have hr4 : (numAt K 4).toNat = pIm K := rfl
  have HR0 := Lib.hid hr0
  have HR4 := Lib.hid hr4
  have HKY := Lib.hid hky
  have HEQ := Lib.hid heq
  obtain ⟨b0, hb0⟩ : ∃ x, x = K.getD 0 0 := ⟨_, rfl⟩
  obtain ⟨p0, q0⟩ := h255.getD 0
  rw [← hb0] at p0 q0
  have hc0 : (w.alloc (.cells (ivs .u8 K) 73)).cell? ⟨w.heap.size, 0, none⟩ = some (.int .u8 b0) := by rw [hb0]; exact h1.getAt (by omega)
  obtain ⟨b1, hb1⟩ : ∃ x, x = K.getD 1 0 := ⟨_, rfl⟩
  obtain ⟨p1, q1⟩ := h255.getD 1
  rw [← hb1] at p1 q1
  have hc1 : (w.alloc (.cells (ivs .u8 K) 73)).cell? ⟨w.heap.size, 1, none⟩ = some (.int .u8 b1) := by rw [hb1]; exact h1.getAt (by omega)
  obtain ⟨b2, hb2⟩ : ∃ x, x = K.getD 2 0 := ⟨_, rfl⟩
  obtain ⟨p2, q2⟩ := h255.getD 2
  rw [← hb2] at p2 q2
  have hc2 : (w.alloc (.cells (ivs .u8 K) 73)).cell? ⟨w.heap.size, 2, none⟩ = some (.int .u8 b2) := by rw [hb2]; exact h1.getAt (by omega)
  obtain ⟨b3, hb3⟩ : ∃ x, x = K.getD 3 0 := ⟨_, rfl⟩
  obtain ⟨p3, q3⟩ := h255.getD 3
  rw [← hb3] at p3 q3
  have hc3 : (w.alloc (.cells (ivs .u8 K) 73)).cell? ⟨w.heap.size, 3, none⟩ = some (.int .u8 b3) := by rw [hb3]; exact h1.getAt (by omega)
  obtain ⟨c0, hd0⟩ : ∃ x, x = K.getD 4 0 := ⟨_, rfl⟩
  obtain ⟨r0, s0⟩ := h255.getD 4
  rw [← hd0] at r0 s0
  have hc4 : (w.alloc (.cells (ivs .u8 K) 73)).cell? ⟨w.heap.size, 4, none⟩ = some (.int .u8 c0) := by rw [hd0]; exact h1.getAt (by omega)
  obtain ⟨c1, hd1⟩ : ∃ x, x = K.getD 5 0 := ⟨_, rfl⟩
  obtain ⟨r1, s1⟩ := h255.getD 5
  rw [← hd1] at r1 s1
  have hc5 : (w.alloc (.cells (ivs .u8 K) 73)).cell? ⟨w.heap.size, 5, none⟩ = some (.int .u8 c1) := by rw [hd1]; exact h1.getAt (by omega)
  obtain ⟨c2, hd2⟩ : ∃ x, x = K.getD 6 0 := ⟨_, rfl⟩
  obtain ⟨r2, s2⟩ := h255.getD 6
  rw [← hd2] at r2 s2
  have hc6 : (w.alloc (.cells (ivs .u8 K) 73)).cell? ⟨w.heap.size, 6, none⟩ = some (.int .u8 c2) := by rw [hd2]; exact h1.getAt (by omega)
  obtain ⟨c3, hd3⟩ : ∃ x, x = K.getD 7 0 := ⟨_, rfl⟩
  obtain ⟨r3, s3⟩ := h255.getD 7
  rw [← hd3] at r3 s3
  have hc7 : (w.alloc (.cells (ivs .u8 K) 73)).cell? ⟨w.heap.size, 7, none⟩ = some (.int .u8 c3) := by rw [hd3]; exact h1.getAt (by omega)
  have hn0 : num4 b0 b1 b2 b3 = numAt K 0 := by rw [hb0, hb1, hb2, hb3]; rfl
  have hn4 : num4 c0 c1 c2 c3 = numAt K 4 := by rw [hd0, hd1, hd2, hd3]; rfl
  have HN0 := Lib.hid hn0
  have HN4 := Lib.hid hn4
  have H1 := Lib.hid h1
  have B1 := Lib.hid bb1
  have e1 := h1.drew.rowAt_eq hK
  have e2 := h1.drew.hasRow_eq hK
  have HK := Lib.hid hK
  clear hn0 hn4 h1 bb1 heq hky hr0 hr4 hkb hb0 hb1 hb2 hb3 hd0 hd1 hd2 hd3 hK h255
  go_enter Try.func74, Try.ntmps74
  go_wp2
  go_loopw [4, 5, 6] (fun a c i wr => ∃ k : Nat, k ≤ 4 ∧ i = .int .i64 k ∧ a = .int .u32 (numTo b0 b1 b2 b3 k) ∧ c = .int .u32 (numTo c0 c1 c2 c3 k) ∧ wr = w.alloc (.cells (ivs .u8 K) 73)) (fun _ _ i _ => 4 - (intOf i).toNat)
  case atStart => exact ⟨0, by omega, rfl, rfl, rfl, rfl⟩
  case round =>
    obtain ⟨k, hk, rfl, rfl, rfl, rfl⟩ := hrel
    rcases (by omega : k = 0 ∨ k = 1 ∨ k = 2 ∨ k = 3 ∨ k = 4) with rfl | rfl | rfl | rfl | rfl
    · have d1 : (w.alloc (.cells (ivs .u8 K) 73)).cell? ⟨w.heap.size, 0, none⟩ = some (.int .u8 b0) := hc0
      have d2 : (w.alloc (.cells (ivs .u8 K) 73)).cell? ⟨w.heap.size, 4, none⟩ = some (.int .u8 c0) := hc4
      have e0 : bits .or .u32 0 b0 = b0 := by have := shl8_or 0 b0 (by omega) (by omega) p0 q0; simpa using this
      have e1 : bits .or .u32 0 c0 = c0 := by have := shl8_or 0 c0 (by omega) (by omega) r0 s0; simpa using this
      have E0 := Lib.hid e0
      have E1 := Lib.hid e1
      clear e0 e1
      simp only [numTo]
      go_wp2
      exact ⟨⟨1, by omega, by go_num, congrArg (Value.int .u32) E0.out, congrArg (Value.int .u32) E1.out, by first | rfl | trivial⟩, by simp [intOf]⟩
    · have d1 : (w.alloc (.cells (ivs .u8 K) 73)).cell? ⟨w.heap.size, 1, none⟩ = some (.int .u8 b1) := hc1
      have d2 : (w.alloc (.cells (ivs .u8 K) 73)).cell? ⟨w.heap.size, 5, none⟩ = some (.int .u8 c1) := hc5
      have e0 := shl8_or (b0) b1 (by omega) (by omega) p1 q1
      have e1 := shl8_or (c0) c1 (by omega) (by omega) r1 s1
      have E0 := Lib.hid e0
      have E1 := Lib.hid e1
      clear e0 e1
      simp only [numTo]
      go_wp2
      exact ⟨⟨2, by omega, by go_num, congrArg (Value.int .u32) E0.out, congrArg (Value.int .u32) E1.out, by first | rfl | trivial⟩, by simp [intOf]⟩
    · have d1 : (w.alloc (.cells (ivs .u8 K) 73)).cell? ⟨w.heap.size, 2, none⟩ = some (.int .u8 b2) := hc2
      have d2 : (w.alloc (.cells (ivs .u8 K) 73)).cell? ⟨w.heap.size, 6, none⟩ = some (.int .u8 c2) := hc6
      have e0 := shl8_or (b0 * 256 + b1) b2 (by omega) (by omega) p2 q2
      rw [show (b0 * 256 + b1) * 256 + b2 = b0 * 65536 + b1 * 256 + b2 by omega] at e0
      have e1 := shl8_or (c0 * 256 + c1) c2 (by omega) (by omega) r2 s2
      rw [show (c0 * 256 + c1) * 256 + c2 = c0 * 65536 + c1 * 256 + c2 by omega] at e1
      have E0 := Lib.hid e0
      have E1 := Lib.hid e1
      clear e0 e1
      simp only [numTo]
      go_wp2
      exact ⟨⟨3, by omega, by go_num, congrArg (Value.int .u32) E0.out, congrArg (Value.int .u32) E1.out, by first | rfl | trivial⟩, by simp [intOf]⟩
    · have d1 : (w.alloc (.cells (ivs .u8 K) 73)).cell? ⟨w.heap.size, 3, none⟩ = some (.int .u8 b3) := hc3
      have d2 : (w.alloc (.cells (ivs .u8 K) 73)).cell? ⟨w.heap.size, 7, none⟩ = some (.int .u8 c3) := hc7
      have e0 := shl8_or (b0 * 65536 + b1 * 256 + b2) b3 (by omega) (by omega) p3 q3
      rw [show (b0 * 65536 + b1 * 256 + b2) * 256 + b3 = num4 b0 b1 b2 b3 by unfold num4; omega] at e0
      have e1 := shl8_or (c0 * 65536 + c1 * 256 + c2) c3 (by omega) (by omega) r3 s3
      rw [show (c0 * 65536 + c1 * 256 + c2) * 256 + c3 = num4 c0 c1 c2 c3 by unfold num4; omega] at e1
      have E0 := Lib.hid e0
      have E1 := Lib.hid e1
      clear e0 e1
      simp only [numTo]
      go_wp2
      exact ⟨⟨4, by omega, by go_num, congrArg (Value.int .u32) E0.out, congrArg (Value.int .u32) E1.out, by first | rfl | trivial⟩, by simp [intOf]⟩
    · have m0 : numTo b0 b1 b2 b3 4 = numAt K 0 := HN0.out
      have m4 : numTo c0 c1 c2 c3 4 = numAt K 4 := HN4.out
      rw [m0, m4]
      clear m0 m4 hc0 hc1 hc2 hc3 hc4 hc5 hc6 hc7
      have hp0 := HR0.out
      have hp4 := HR4.out
      go_wp2
      go_region_law (go_simp; go_at_call 100; refine (HKY.out _).mono ?_; rintro e w6 ⟨rfl, hb6⟩; have h6 := H1.out.drew.below hb6 H1.out.lt; have e3 := h6.rowAt_eq HK.out; have e4 := h6.hasRow_eq HK.out; have heq := HEQ.out; have hd6 : Hid (Below w.heap.size w w6) := Lib.hid ((below_drew B1.out).trans (hb6.mono B1.out.size)); clear h6 hb6)
      all_goals
        go_wp2
        go_ret2
        exact ⟨rfl, hd6.out⟩
end Go.Proofs.Ytigjdcfdgifonaa
