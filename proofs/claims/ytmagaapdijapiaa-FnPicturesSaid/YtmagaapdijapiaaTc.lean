/- Corners compared, told as what has grown. -/
import Derived.Test.YtmagaapdijapiaaRows
import Derived.Test.YtmagaapdijapiaaTa
import Derived.Test.YtmagaapdijapiaaCj
namespace Go.Proofs.Ytmagaapdijapiaa
open Go.ChangeShapes Go.WideShapes Go.ChangeAt Go.RowKit
set_option maxRecDepth 20000 in
set_option maxHeartbeats 1600000 in
theorem compareCorners_grew (a0 a1 b0 b1 : Int) (w : World) :
    Calls Try.prog 71 #[.agg #[.int .i32 a0, .int .i32 a1], .agg #[.int .i32 b0, .int .i32 b1]] w fun e w' => e = .returned (.int .i64 (cmpC a0 a1 b0 b1)) ∧ Grew w w' := by
  have h1 := fun W => cmpI_any a1 b1 W
  have h0 := fun W => cmpI_any a0 b0 W
  have hc : cmpC a0 a1 b0 b1 = orI (cmpI a1 b1) (cmpI a0 b0) := rfl
  have bW : Grew w ((w.alloc (.cells #[.int .i32 a0, .int .i32 a1] 63)).alloc (.cells #[.int .i32 b0, .int .i32 b1] 63)) := ((Grew.refl _).alloc _).alloc _
  have BW := Lib.hid bW
  rw [hc]
  generalize cmpI a1 b1 = x at *
  generalize cmpI a0 b0 = y at *
  have ho := fun g c W h => orI_any g c x y W h
  generalize orI x y = z at *
  clear bW hc
  go_enter Try.func71, Try.ntmps71
  have s1 : ∀ W, Calls Try.prog 119 #[.int .i32 a1, .int .i32 b1] W fun e W' => e = .returned (.int .i64 x) ∧ W' = W := fun W => (h1 W).mono (by rintro _ _ ⟨rfl, rfl⟩; exact ⟨rfl, rfl⟩)
  have s0 : ∀ W, Calls Try.prog 119 #[.int .i32 a0, .int .i32 b0] W fun e W' => e = .returned (.int .i64 y) ∧ W' = W := fun W => (h0 W).mono (by rintro _ _ ⟨rfl, rfl⟩; exact ⟨rfl, rfl⟩)
  have k0 : Blk ((w.alloc (.cells #[.int .i32 a0, .int .i32 a1] 63)).alloc (.cells #[.int .i32 b0, .int .i32 b1] 63)) w.heap.size 63 #[.int .i32 a0, .int .i32 a1] := (Blk.newAt rfl rfl).alloc _
  have k1 : Blk ((w.alloc (.cells #[.int .i32 a0, .int .i32 a1] 63)).alloc (.cells #[.int .i32 b0, .int .i32 b1] 63)) (w.heap.size + 1) 63 #[.int .i32 b0, .int .i32 b1] := Blk.newAt (by simp) rfl
  have K := Lib.hid (And.intro (k0.drew) (And.intro k1.drew BW.out.drew))
  clear k0 k1 BW
  go_wp2_with fail
  refine still_tail 10 (by kernel_rfl) (by kernel_rfl) ?_
  generalize World.drew _ = w2 at *
  have c00 : w2.cell? ⟨w.heap.size, 0, none⟩ = some (.int .i32 a0) := K.out.1.cell 0
  have c01 : w2.cell? ⟨w.heap.size, 1, none⟩ = some (.int .i32 a1) := K.out.1.cell 1
  have c10 : w2.cell? ⟨w.heap.size + 1, 0, none⟩ = some (.int .i32 b0) := K.out.2.1.cell 0
  have c11 : w2.cell? ⟨w.heap.size + 1, 1, none⟩ = some (.int .i32 b1) := K.out.2.1.cell 1
  simp only [List.take_succ_cons, List.take_zero, List.drop_succ_cons, List.drop_zero]
  repeat still_step
  still_call (s1 _)
  repeat still_step
  still_call (s0 _)
  repeat still_step
  refine wpStill_nil ?_
  go_wp2_with (go_at_call 118; refine (ho _ _ _ (Blk.newAt rfl rfl)).mono ?_; rintro e w1 ⟨rfl, rfl⟩)
  go_ret
  exact ⟨rfl, K.out.2.2.alloc _⟩
end Go.Proofs.Ytmagaapdijapiaa
