/- Whether a frame is sound at an index: both walks come to the same answer. -/
import Derived.Test.YtmagaapdijapiaaRows
import Derived.Test.YtmagaapdijapiaaFrD
import Derived.Test.YtmagaapdijapiaaLd
namespace Go.Proofs.Ytmagaapdijapiaa
open Go.ChangeShapes Go.WideShapes Go.ChangeAt Go.RowKit

def soundB (n : Int) (f : List Int) : Bool := mk n (f.take 12) == f

theorem exec_loadFrame (ρ : Operand → Value) (dst : Option Tmp) (x : Operand) (t : TypeId) (pos : String) (after : Array Edge) (guard : Option (Nat × Bool)) :
    execOp ρ { dst := dst, op := .load 87 x, type := t, pos := pos, after := after, guard := guard } = ldRow 87 (ρ x) := rfl
theorem run_ldFrame : ∀ (W : World) (g o : Nat), hasRow W g o 16 = true → (ldRow 87 (.pointer (some ⟨g, o, none⟩))).run Try.prog W = .ok (.value (.agg (rowAt W g o 16))) W := run_ldRow Try.underlying87 rfl size87
attribute [local go_sem ↓] exec_loadFrame
attribute [local go_sem] run_ldFrame

set_option maxHeartbeats 800000 in
theorem l09Sound_any (f : List Int) (hf : f.length = 16) (n : Int) (w : World) :
    Calls Try.prog 135 #[.agg (ivs .u8 f), .int .i64 n] w fun e w' => e = .returned (.bool (soundB n f)) ∧ Below w.heap.size w w' := by
  obtain ⟨i0, hi0, -, -, -⟩ := info_parts uint8_info
  have h12 : (f.take 12).length = 12 := by simp [hf]
  have hml := mk_length (n := n) h12
  have heq : ∀ W : World, (Op.equalIn 10000 87 (.agg (ivs .u8 (mk n (f.take 12)))) (.agg (ivs .u8 f))).run Try.prog W = .ok (soundB n f) W := fun W => run_eql_arr W Try.underlying87 Try.underlying5 hi0 (by kernel_rfl) hml hf
  have h1 : Blk (w.alloc (.cells (ivs .u8 f) 87)).drew w.heap.size 87 (ivs .u8 f) := Blk.drew (Blk.newAt rfl rfl)
  have hb0 : Below w.heap.size w (w.alloc (.cells (ivs .u8 f) 87)).drew := below_drew ((Below.refl _ _).alloc (Nat.le_refl _) _)
  have hz : w.heap.size < (w.alloc (.cells (ivs .u8 f) 87)).drew.heap.size := h1.lt
  have e1 := h1.rowAt_eq hf
  have e2 := h1.hasRow_eq hf
  have H12 := Lib.hid h12
  have Hf := Lib.hid hf
  have Hz := Lib.hid hz
  have H1 := Lib.hid h1
  clear h12 hf hml hz h1
  go_enter Try.func135, Try.ntmps135
  go_wp2_with fail
  go_region_law (first
      | (go_simp; go_at_call 147; refine (sPayloadOf_any f Hf.out _).mono ?_; rintro e w5 ⟨rfl, hb5⟩; have h5 := H1.out.below hb5 Hz.out; have e3 := h5.rowAt_eq Hf.out; have e4 := h5.hasRow_eq Hf.out; have H5 := Lib.hid h5; clear h5)
      | (go_simp; go_at_call 90; refine (l09Make_any n (f.take 12) H12.out _).mono ?_; rintro e w6 ⟨rfl, hb6⟩; have h6 := H5.out.below hb6 (by have := Hz.out; have := hb5.size; omega); have e5 := h6.rowAt_eq Hf.out; have e6 := h6.hasRow_eq Hf.out; have H6 := Lib.hid h6; clear h6))
  all_goals
    go_wp2
    go_ret
    exact ⟨rfl, (hb0.trans (hb5.mono (Nat.le_of_lt Hz.out))).trans (hb6.mono (by have := Hz.out; have := hb5.size; omega))⟩

set_option maxHeartbeats 800000 in
theorem isSound_any (f : List Int) (hf : f.length = 16) (n : Int) (w : World) :
    Calls Try.prog 137 #[.agg (ivs .u8 f), .int .i64 n] w fun e w' => e = .returned (.bool (soundB n f)) ∧ Below w.heap.size w w' := by
  obtain ⟨i0, hi0, -, -, -⟩ := info_parts uint8_info
  have h12 : (f.take 12).length = 12 := by simp [hf]
  have hml := mk_length (n := n) h12
  have heq : ∀ W : World, (Op.equalIn 10000 87 (.agg (ivs .u8 (mk n (f.take 12)))) (.agg (ivs .u8 f))).run Try.prog W = .ok (soundB n f) W := fun W => run_eql_arr W Try.underlying87 Try.underlying5 hi0 (by kernel_rfl) hml hf
  have h1 : Blk (w.alloc (.cells (ivs .u8 f) 87)).drew w.heap.size 87 (ivs .u8 f) := Blk.drew (Blk.newAt rfl rfl)
  have hb0 : Below w.heap.size w (w.alloc (.cells (ivs .u8 f) 87)).drew := below_drew ((Below.refl _ _).alloc (Nat.le_refl _) _)
  have hz : w.heap.size < (w.alloc (.cells (ivs .u8 f) 87)).drew.heap.size := h1.lt
  have e1 := h1.rowAt_eq hf
  have e2 := h1.hasRow_eq hf
  have H12 := Lib.hid h12
  have Hf := Lib.hid hf
  have Hz := Lib.hid hz
  have H1 := Lib.hid h1
  clear h12 hf hml hz h1
  go_enter Try.func137, Try.ntmps137
  go_wp2_with fail
  go_region_law (first
      | (go_simp; go_at_call 148; refine (iPayloadOf_any f Hf.out _).mono ?_; rintro e w5 ⟨rfl, hb5⟩; have h5 := H1.out.below hb5 Hz.out; have e3 := h5.rowAt_eq Hf.out; have e4 := h5.hasRow_eq Hf.out; have H5 := Lib.hid h5; clear h5)
      | (go_simp; go_at_call 95; refine (makeFrame_any n (f.take 12) H12.out _).mono ?_; rintro e w6 ⟨rfl, hb6⟩; have h6 := H5.out.below hb6 (by have := Hz.out; have := hb5.size; omega); have e5 := h6.rowAt_eq Hf.out; have e6 := h6.hasRow_eq Hf.out; have H6 := Lib.hid h6; clear h6))
  all_goals
    go_wp2
    go_ret
    exact ⟨rfl, (hb0.trans (hb5.mono (Nat.le_of_lt Hz.out))).trans (hb6.mono (by have := Hz.out; have := hb5.size; omega))⟩
end Go.Proofs.Ytmagaapdijapiaa
