/- Numbers of four bytes, the highest one first; whether bytes begin with three others. -/
import Derived.Test.YtmagaapdijapiaaRows
import Derived.Test.YtmagaapdijapiaaSf
import Derived.Test.YtmagaapdijapiaaSb
import Derived.Laws.BytesArg
import Derived.Lib.EndianBits
namespace Go.Proofs.Ytmagaapdijapiaa
open Go.ChangeShapes Go.WideShapes Go.ChangeAt Go.RowKit

def num4 (b0 b1 b2 b3 : Int) : Int := b0 * 16777216 + b1 * 65536 + b2 * 256 + b3

theorem cell_alloc {w : World} {g i : Nat} {v : Value} (o : Obj) (h : w.cell? ⟨g, i, none⟩ = some v) : (w.alloc o).cell? ⟨g, i, none⟩ = some v :=
  (((Below.refl w.heap.size w).alloc (Nat.le_refl _) o).cell (p := ⟨g, i, none⟩) (World.block_lt_of_cell? w _ h)).trans h

set_option maxHeartbeats 800000 in
theorem beUint32_any (g o n c : Nat) (b0 b1 b2 b3 : Int) (w : World) (hn : 4 ≤ n) (h0 : 0 ≤ b0 ∧ b0 ≤ 255) (h1 : 0 ≤ b1 ∧ b1 ≤ 255) (h2 : 0 ≤ b2 ∧ b2 ≤ 255) (h3 : 0 ≤ b3 ∧ b3 ≤ 255)
    (c0 : w.cell? ⟨g, o, none⟩ = some (.int .u8 b0)) (c1 : w.cell? ⟨g, o + 1, none⟩ = some (.int .u8 b1)) (c2 : w.cell? ⟨g, o + 2, none⟩ = some (.int .u8 b2)) (c3 : w.cell? ⟨g, o + 3, none⟩ = some (.int .u8 b3)) :
    Calls Try.prog 59 #[.agg #[], .slice (some ⟨g, o, none⟩) n c] w fun e w' => e = .returned (.int .u32 (num4 b0 b1 b2 b3)) ∧ Below w.heap.size w w' := by
  obtain ⟨p0, q0⟩ := h0
  obtain ⟨p1, q1⟩ := h1
  obtain ⟨p2, q2⟩ := h2
  obtain ⟨p3, q3⟩ := h3
  have d0 := cell_alloc (.cells #[] 96) c0
  have d1 := cell_alloc (.cells #[] 96) c1
  have d2 := cell_alloc (.cells #[] 96) c2
  have d3 := cell_alloc (.cells #[] 96) c3
  have n0 : 0 < n := by omega
  have n1 : (1 : Int) < (n : Int) := by omega
  have n2 : (2 : Int) < (n : Int) := by omega
  have n3 : (3 : Int) < (n : Int) := by omega
  clear c0 c1 c2 c3
  go_enter Try.func59, Try.ntmps59
  go_wp2
  go_quiet (fail)
  go_wp2
  go_ret
  refine ⟨ret_int ?_, below_drewN ((Below.refl _ _).alloc (Nat.le_refl _) _) _⟩
  unfold num4
  simp (disch := omega) only [u32_or8, u32_or16, u32_or24]
  omega

theorem shl8_or (x b : Int) (h0 : 0 ≤ x) (h1 : x < 16777216) (g0 : 0 ≤ b) (g1 : b ≤ 255) : bits .or .u32 (x * 256) b = x * 256 + b :=
  bits_join .u32 32 (by decide) wraps_u32 8 (x * 256) b (by omega) (by omega) (by omega) g0 (by omega) (by omega)

def numTo (b0 b1 b2 b3 : Int) : Nat → Int
  | 0 => 0
  | 1 => b0
  | 2 => b0 * 256 + b1
  | 3 => b0 * 65536 + b1 * 256 + b2
  | _ => num4 b0 b1 b2 b3

set_option maxHeartbeats 800000 in
theorem l09Number_any (g o n c : Nat) (b0 b1 b2 b3 : Int) (w : World) (hn : 4 ≤ n) (h0 : 0 ≤ b0 ∧ b0 ≤ 255) (h1 : 0 ≤ b1 ∧ b1 ≤ 255) (h2 : 0 ≤ b2 ∧ b2 ≤ 255) (h3 : 0 ≤ b3 ∧ b3 ≤ 255)
    (c0 : w.cell? ⟨g, o, none⟩ = some (.int .u8 b0)) (c1 : w.cell? ⟨g, o + 1, none⟩ = some (.int .u8 b1)) (c2 : w.cell? ⟨g, o + 2, none⟩ = some (.int .u8 b2)) (c3 : w.cell? ⟨g, o + 3, none⟩ = some (.int .u8 b3)) :
    Calls Try.prog 53 #[.slice (some ⟨g, o, none⟩) n c] w fun e w' => e = .returned (.int .u32 (num4 b0 b1 b2 b3)) ∧ w = w' := by
  obtain ⟨p0, q0⟩ := h0
  obtain ⟨p1, q1⟩ := h1
  obtain ⟨p2, q2⟩ := h2
  obtain ⟨p3, q3⟩ := h3
  go_enter Try.func53, Try.ntmps53
  go_wp2_with fail
  go_loop [3, 4] (fun v i => ∃ k : Nat, k ≤ 4 ∧ i = .int .i64 k ∧ v = .int .u32 (numTo b0 b1 b2 b3 k)) (fun _ i => 4 - (intOf i).toNat)
  case atStart => exact ⟨0, by omega, rfl, rfl⟩
  case round =>
    obtain ⟨k, hk, rfl, rfl⟩ := hrel
    have hs : k = 0 ∨ k = 1 ∨ k = 2 ∨ k = 3 ∨ k = 4 := by omega
    rcases hs with rfl | rfl | rfl | rfl | rfl
    · have e : bits .or .u32 0 b0 = b0 := by have := shl8_or 0 b0 (by omega) (by omega) p0 q0; simpa using this
      have E := Lib.hid e
      clear e
      simp only [numTo]
      go_wp2
      exact ⟨⟨1, by omega, by go_num, congrArg (Value.int .u32) E.out⟩, by simp [intOf]⟩
    · have E := Lib.hid (shl8_or b0 b1 p0 (by omega) p1 q1)
      simp only [numTo]
      go_wp2
      exact ⟨⟨2, by omega, by go_num, congrArg (Value.int .u32) E.out⟩, by simp [intOf]⟩
    · have e := shl8_or (b0 * 256 + b1) b2 (by omega) (by omega) p2 q2
      rw [show (b0 * 256 + b1) * 256 + b2 = b0 * 65536 + b1 * 256 + b2 by omega] at e
      have E := Lib.hid e
      clear e
      simp only [numTo]
      go_wp2
      exact ⟨⟨3, by omega, by go_num, congrArg (Value.int .u32) E.out⟩, by simp [intOf]⟩
    · have e := shl8_or (b0 * 65536 + b1 * 256 + b2) b3 (by omega) (by omega) p3 q3
      rw [show (b0 * 65536 + b1 * 256 + b2) * 256 + b3 = num4 b0 b1 b2 b3 by unfold num4; omega] at e
      have E := Lib.hid e
      clear e
      simp only [numTo]
      go_wp2
      exact ⟨⟨4, by omega, by go_num, congrArg (Value.int .u32) E.out⟩, by simp [intOf]⟩
    · simp only [numTo]
      go_wp2
      go_ret
      exact ⟨rfl, rfl⟩

theorem conv_bytes {W : World} {g o n c : Nat} {l : List Int} (hl : l.length = n) (hr : W.rangeAt g o (l.map (.int .u8))) :
    (convert 40 9 (.slice (some ⟨g, o, none⟩) n c)).run Try.prog W = .ok (.string (strOfNums l)) W :=
  run_convert_bytes_arg W 40 5 Try.underlying40 Try.underlying5 g o n c l hl (fun i hi => by
    rw [hr i (.int .u8 (l.getD i 0)) (by rw [List.getElem?_map, List.getElem?_eq_getElem (by omega)]; simp [List.getD, List.getElem?_eq_getElem (show i < l.length by omega)])]) 9 Try.underlying9

set_option maxHeartbeats 800000 in
theorem bytesEqual_any (g o n c g' o' n' c' : Nat) (s s' : ByteArray) (w : World)
    (hs : (convert 40 9 (.slice (some ⟨g, o, none⟩) n c)).run Try.prog w = .ok (.string s) w) (hs' : (convert 40 9 (.slice (some ⟨g', o', none⟩) n' c')).run Try.prog w = .ok (.string s') w) :
    Calls Try.prog 60 #[.slice (some ⟨g, o, none⟩) n c, .slice (some ⟨g', o', none⟩) n' c'] w fun e w' => e = .returned (.bool (s.toList == s'.toList)) ∧ w = w' := by
  go_enter Try.func60, Try.ntmps60
  go_wp2
  go_ret

  exact ⟨rfl, rfl⟩

set_option maxHeartbeats 800000 in
theorem hasPrefix_any (g o n c g' o' n' c' : Nat) (l l' : List Int) (hn : n' ≤ n) (hl : l.length = n) (hl' : l'.length = n') (hnc : n ≤ c) (_hn2 : n ≤ 1048576) (w : World) (hr : w.rangeAt g o (l.map (.int .u8))) (hr' : w.rangeAt g' o' (l'.map (.int .u8))) :
    Calls Try.prog 138 #[.slice (some ⟨g, o, none⟩) n c, .slice (some ⟨g', o', none⟩) n' c'] w fun e w' => e = .returned (.bool ((strOfNums (l.take n')).toList == (strOfNums l').toList)) ∧ w = w' := by
  have hb := fun c => bytesEqual_any g o n' c g' o' n' c' (strOfNums (l.take n')) (strOfNums l') w (conv_bytes (by simp; omega) (fun j v hv => hr j v (by
    rw [List.map_take, List.getElem?_take] at hv
    split at hv
    · exact hv
    · cases hv))) (conv_bytes hl' hr')
  have HB := Lib.hid hb
  have b0 : (n' : Int) ≤ (n : Int) := by omega
  clear hl hl' hr hr' hb
  go_enter Try.func138, Try.ntmps138
  go_wp2_with fail
  refine (HB.out _).mono ?_
  rintro e w' ⟨rfl, rfl⟩
  go_wp2
  go_ret
  exact ⟨rfl, rfl⟩
end Go.Proofs.Ytmagaapdijapiaa
