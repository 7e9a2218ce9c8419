/- The law FnExactReadDeed, walked. -/
import Derived.Test.YtfjfiljgbkhblaaDoorRows
import Derived.Test.YtfjfiljgbkhblaaDoorNp
namespace Go.Proofs.YtfjfiljgbkhblaaDoor
open Go.ChangeShapes Go.WideShapes Go.ChangeAt Go.RowKit

set_option maxRecDepth 20000 in
theorem eqDeed_same (k a b : Int) (w : World) : Calls Tryd.prog 16 #[.agg (ivs .i64 [k, a, b]), .agg (ivs .i64 [k, a, b])] w fun e w' => e = .returned (.bool true) ∧ Below w.heap.size w w' := by
  have h0 : Blk ((w.alloc (.cells (ivs .i64 [k, a, b]) 31)).alloc (.cells (ivs .i64 [k, a, b]) 31)) w.heap.size 31 (ivs .i64 [k, a, b]) := (Blk.newAt rfl rfl).alloc _
  have h1 : Blk ((w.alloc (.cells (ivs .i64 [k, a, b]) 31)).alloc (.cells (ivs .i64 [k, a, b]) 31)) (w.heap.size + 1) 31 (ivs .i64 [k, a, b]) := Blk.newAt (by simp) rfl
  have b2 : Below w.heap.size w ((w.alloc (.cells (ivs .i64 [k, a, b]) 31)).alloc (.cells (ivs .i64 [k, a, b]) 31)) := ((Below.refl _ _).alloc (Nat.le_refl _) _).alloc (by simp) _
  have c0 : ((w.alloc (.cells (ivs .i64 [k, a, b]) 31)).alloc (.cells (ivs .i64 [k, a, b]) 31)).cell? ⟨w.heap.size, 0, none⟩ = some (.int .i64 k) := h0.cell 0
  have c1 : ((w.alloc (.cells (ivs .i64 [k, a, b]) 31)).alloc (.cells (ivs .i64 [k, a, b]) 31)).cell? ⟨w.heap.size, 1, none⟩ = some (.int .i64 a) := h0.cell 1
  have c2 : ((w.alloc (.cells (ivs .i64 [k, a, b]) 31)).alloc (.cells (ivs .i64 [k, a, b]) 31)).cell? ⟨w.heap.size, 2, none⟩ = some (.int .i64 b) := h0.cell 2
  have d0 : ((w.alloc (.cells (ivs .i64 [k, a, b]) 31)).alloc (.cells (ivs .i64 [k, a, b]) 31)).cell? ⟨w.heap.size + 1, 0, none⟩ = some (.int .i64 k) := h1.cell 0
  have d1 : ((w.alloc (.cells (ivs .i64 [k, a, b]) 31)).alloc (.cells (ivs .i64 [k, a, b]) 31)).cell? ⟨w.heap.size + 1, 1, none⟩ = some (.int .i64 a) := h1.cell 1
  have d2 : ((w.alloc (.cells (ivs .i64 [k, a, b]) 31)).alloc (.cells (ivs .i64 [k, a, b]) 31)).cell? ⟨w.heap.size + 1, 2, none⟩ = some (.int .i64 b) := h1.cell 2
  clear h0 h1
  go_enter Tryd.func16, Tryd.ntmps16
  go_wp2
  go_ret
  exact ⟨rfl, b2⟩
set_option maxRecDepth 20000 in
set_option maxHeartbeats 3200000 in
theorem lawReadDeed_any (t : ByteArray) (mx : Int) (w : World) (hm : w.cell? ⟨3, 0, none⟩ = some (.int .i64 mx)) (htab : Tab w)
    (Te : TypeId) (ve : Value) (hr : w.cell? ⟨2, 0, none⟩ = some (.iface Te ve)) (Ts : TypeId) (vs : Value) (hsy : w.cell? ⟨1, 0, none⟩ = some (.iface Ts vs)) :
    Calls Tryd.prog 5 #[.string t] w fun e w' => e = .returned (.bool true) ∧ Below w.heap.size w w' := by
  by_cases ht : t.size ≤ 1048576
  · have hs' : ¬ (1048576 : Int) < t.size := by omega
    have lM : 3 < w.heap.size := World.block_lt_of_cell? _ _ hm
    have lR : 2 < w.heap.size := World.block_lt_of_cell? _ _ hr
    have lS : 1 < w.heap.size := World.block_lt_of_cell? _ _ hsy
    have HS := Lib.hid (sReadDeed_any t ht w)
    have HI : Hid (∀ W, Below w.heap.size w W → Calls Tryd.prog 15 #[.string t] W fun e w' => (∃ k a b c, Told t k a b c ∧ e = .returned (DeedV k a b c)) ∧ Below W.heap.size W w') :=
      Lib.hid (fun W hb => iReadDeed_any t ht mx W (by rw [(bcell hb).1 _ 0 lM]; exact hm) (htab.below hb htab.lt) Te ve (by rw [(bcell hb).1 _ 0 lR]; exact hr) Ts vs (by rw [(bcell hb).1 _ 0 lS]; exact hsy))
    clear hm htab hr hsy lM lR lS
    go_enter Tryd.func5, Tryd.ntmps5
    go_wp2_with fail
    refine HS.out.mono ?_
    rintro e w2 ⟨⟨k, a, b, c, hT, rfl⟩, hb2⟩
    have HT := Lib.hid hT
    have B2 := Lib.hid hb2
    clear hT hb2 HS
    unfold DeedV
    have r3 : Blk (w2.alloc (.cells #[.int .i64 0, .int .i64 0, .int .i64 0] 31)) w2.heap.size 31 (ivs .i64 [0, 0, 0]) := Blk.newAt rfl rfl
    have b3 : Below w2.heap.size w2 (w2.alloc (.cells #[.int .i64 0, .int .i64 0, .int .i64 0] 31)) := (Below.refl _ _).alloc (Nat.le_refl _) _
    have K3 := Lib.hid (r3.row (ivs .i64 [k, a, b]))
    have B3 := Lib.hid (below_setRow b3 (g := w2.heap.size) (Nat.le_refl _) (ivs .i64 [k, a, b]))
    go_wp2_with (refine wpList_store_row rfl _ _ _ rfl w2.heap.size (ivs .i64 [k, a, b]) rfl rfl 31 _ r3 (by rw [ivs_size]; exact size31) (by simp [ivs_size]) ivs_one ?_)
    have BW3 := Lib.hid (B2.out.trans (B3.out.mono B2.out.size))
    generalize ((w2.alloc (.cells #[.int .i64 0, .int .i64 0, .int .i64 0] 31)).setRow w2.heap.size (ivs .i64 [k, a, b])) = w3 at *
    clear r3 b3
    refine (HI.out _ BW3.out).mono ?_
    rintro e w4 ⟨⟨k', a', b', c', hT', rfl⟩, hb4⟩
    obtain ⟨rfl, rfl, rfl, rfl⟩ := told_one HT.out hT'
    have K4 := Lib.hid (K3.out.below hb4 K3.out.lt)
    have BW4 := Lib.hid (BW3.out.trans (hb4.mono BW3.out.size))
    have lt4 : w2.heap.size < w4.heap.size := K4.out.lt
    clear hT' HT hb4 HI K3 B3
    unfold DeedV
    have r5 : Blk (w4.alloc (.cells #[.int .i64 0, .int .i64 0, .int .i64 0] 31)) w4.heap.size 31 (ivs .i64 [0, 0, 0]) := Blk.newAt rfl rfl
    have b5 : Below w4.heap.size w4 (w4.alloc (.cells #[.int .i64 0, .int .i64 0, .int .i64 0] 31)) := (Below.refl _ _).alloc (Nat.le_refl _) _
    have K5 := Lib.hid (r5.row (ivs .i64 [k, a, b]))
    have B5 := Lib.hid (below_setRow b5 (g := w4.heap.size) (Nat.le_refl _) (ivs .i64 [k, a, b]))
    have L5 := Lib.hid (K4.out.below B5.out lt4)
    have BW5 := Lib.hid (BW4.out.trans (B5.out.mono BW4.out.size))
    have HEQ := Lib.hid (fun W => eqDeed_same k a b W)
    go_wp2_with (first
      | refine wpList_store_row rfl _ _ _ rfl w4.heap.size (ivs .i64 [k, a, b]) rfl rfl 31 _ r5 (by rw [ivs_size]; exact size31) (by simp [ivs_size]) ivs_one ?_
      | refine wpList_load_row rfl _ _ rfl w4.heap.size rfl 31 (ivs .i64 [k, a, b]) (0, 0) _ K5.out Tryd.underlying31 rfl (by rw [ivs_size]; exact size31) ?_
      | refine wpList_load_row rfl _ _ rfl w2.heap.size rfl 31 (ivs .i64 [k, a, b]) (0, 0) _ L5.out Tryd.underlying31 rfl (by rw [ivs_size]; exact size31) ?_
      | (go_at_call 16; refine (HEQ.out _).mono ?_; rintro e w6 ⟨rfl, hb6⟩; have B6 := Lib.hid (BW5.out.trans (hb6.mono BW5.out.size)); clear hb6))
    go_ret
    exact ⟨rfl, B6.out⟩
  · have hs' : (1048576 : Int) < t.size := by omega
    clear hm htab hr hsy
    go_enter Tryd.func5, Tryd.ntmps5
    go_wp2
    go_ret
    exact ⟨rfl, Below.refl _ _⟩
end Go.Proofs.YtfjfiljgbkhblaaDoor
