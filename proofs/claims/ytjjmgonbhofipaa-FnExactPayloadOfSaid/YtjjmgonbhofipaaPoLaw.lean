/- The law FnExactPayloadOf, walked. -/
import Derived.Test.YtjjmgonbhofipaaPo
namespace Go.Proofs.Ytjjmgonbhofipaa
open Go.ChangeShapes Go.WideShapes Go.ChangeAt Go.RowKit
theorem size22 : (Try.prog.info? 22).map (·.size) = some 16 := by kernel_rfl

set_option maxHeartbeats 400000 in
theorem lawPayloadOf_any (L : List Int) (hL : L.length = 16) (w : World) :
    Calls Try.prog 3 #[.agg (ivs .u8 L)] w fun e w' => e = .returned (.bool true) ∧ Below w.heap.size w w' := by
  have h1 : Blk (w.alloc (.cells (ivs .u8 L) 22)) w.heap.size 22 (ivs .u8 L) := Blk.newAt rfl rfl
  have b1 : Below w.heap.size w (w.alloc (.cells (ivs .u8 L) 22)) := (Below.refl _ _).alloc (Nat.le_refl _) _
  have l12 : (L.take 12).length = 12 := by simp [hL]
  have H12 := Lib.hid l12
  clear l12
  go_enter Try.func3, Try.ntmps3
  go_wp2_with (first
    | refine wpList_load_row rfl _ _ rfl w.heap.size rfl 22 (ivs .u8 L) (0, 0) _ h1 Try.underlying22 rfl (by rw [ivs_size, hL]; exact size22) ?_)
  refine (toFrame_any L hL _).mono ?_
  rintro e w2 ⟨rfl, hb2⟩
  go_wp2_with fail
  refine (sPayloadOf_any L hL _).mono ?_
  rintro e w3 ⟨rfl, hb3⟩
  have B3 : Below w.heap.size w w3 := (b1.trans (hb2.mono (by simp))).trans (hb3.mono (by have := hb2.size; simp at this; omega))
  have h3 : Blk w3 w.heap.size 22 (ivs .u8 L) := (h1.below hb2 (by simp)).below hb3 (by have := hb2.size; simp at this; omega)
  have z3 : w.heap.size < w3.heap.size := h3.lt
  clear hb2 hb3 h1 b1
  go_wp2_with (first
    | refine wpList_store_row rfl _ _ _ rfl w3.heap.size (ivs .u8 (L.take 12)) rfl rfl 23 (ivs .u8 (List.replicate 12 0)) (Blk.newAt rfl rfl) (by rw [ivs_size, H12.out]; exact size23) (by simp [ivs_size, H12.out]) ivs_one ?_
    | refine wpList_load_row rfl _ _ rfl w.heap.size rfl 22 (ivs .u8 L) (0, 0) _ ((h3.alloc _).rowFar (by omega) _) Try.underlying22 rfl (by rw [ivs_size, hL]; exact size22) ?_)
  have h4 := ((h3.alloc (.cells (ivs .u8 (List.replicate 12 0)) 23)).rowFar (g' := w3.heap.size) (by omega) (ivs .u8 (L.take 12)))
  have r4 : Blk ((w3.alloc (.cells (ivs .u8 (List.replicate 12 0)) 23)).setRow w3.heap.size (ivs .u8 (L.take 12))) w3.heap.size 23 (ivs .u8 (L.take 12)) := (Blk.new _ _ _).row _
  have B4 := below_setRow (B3.alloc (by omega) (.cells (ivs .u8 (List.replicate 12 0)) 23)) (g := w3.heap.size) (by omega) (ivs .u8 (L.take 12))
  refine (toFrame_any L hL _).mono ?_
  rintro e w5 ⟨rfl, hb5⟩
  go_wp2_with fail
  refine (iPayloadOf_any L hL _).mono ?_
  rintro e w6 ⟨rfl, hb6⟩
  have z5 := hb5.size
  have z6 := hb6.size
  simp only [size_setRow, size_alloc] at z5 z6 hb5
  have B6 : Below w.heap.size w w6 := (B4.trans (hb5.mono (by omega))).trans (hb6.mono (by omega))
  have r6 : Blk w6 w3.heap.size 23 (ivs .u8 (L.take 12)) := (r4.below hb5 (by simp)).below hb6 (by omega)
  clear hb5 hb6 h4 r4 B4 h3 B3
  go_wp2_with (first
    | refine wpList_store_row rfl _ _ _ rfl w6.heap.size (ivs .u8 (L.take 12)) rfl rfl 23 (ivs .u8 (List.replicate 12 0)) (Blk.newAt rfl rfl) (by rw [ivs_size, H12.out]; exact size23) (by simp [ivs_size, H12.out]) ivs_one ?_
    | refine wpList_load_row rfl _ _ rfl w6.heap.size rfl 23 (ivs .u8 (L.take 12)) (0, 0) _ ((Blk.newAt rfl rfl).row _) Try.underlying23 rfl (by rw [ivs_size, H12.out]; exact size23) ?_
    | refine wpList_load_row rfl _ _ rfl w3.heap.size rfl 23 (ivs .u8 (L.take 12)) (0, 0) _ ((r6.alloc _).rowFar (by omega) _) Try.underlying23 rfl (by rw [ivs_size, H12.out]; exact size23) ?_)
  refine (eqA12_same _ H12.out _).mono ?_
  rintro e w7 ⟨rfl, hb7⟩
  go_wp2
  go_ret
  exact ⟨rfl, (below_setRow (B6.alloc (by omega) _) (by omega) _).trans (hb7.mono (by rw [size_setRow, size_alloc]; omega))⟩
end Go.Proofs.Ytjjmgonbhofipaa
