/- The laws FnExactCheckOf, FnExactIsSound, FnExactMakeFrame, walked. -/
import Derived.Test.YtjjmgonbhofipaaRows
import Derived.Test.YtjjmgonbhofipaaFrF
namespace Go.Proofs.Ytjjmgonbhofipaa
open Go.ChangeShapes Go.WideShapes Go.ChangeAt Go.RowKit

set_option maxHeartbeats 400000 in
theorem lawCheckOf_any (n : Int) (p : List Int) (hp : p.length = 12) (w : World) :
    Calls Try.prog 4 #[.int .i64 n, .agg (ivs .u8 p)] w fun e w' => e = .returned (.bool true) ∧ Below w.heap.size w w' := by
  have h1 : Blk (w.alloc (.cells (ivs .u8 p) 23)) w.heap.size 23 (ivs .u8 p) := Blk.newAt rfl rfl
  have b1 : Below w.heap.size w (w.alloc (.cells (ivs .u8 p) 23)) := (Below.refl _ _).alloc (Nat.le_refl _) _
  go_enter Try.func4, Try.ntmps4
  go_wp2_with (refine wpList_load_row rfl _ _ rfl w.heap.size rfl 23 (ivs .u8 p) (0, 0) _ h1 Try.underlying23 rfl (by rw [ivs_size, hp]; exact size23) ?_)
  refine (toA12_any p hp _).mono ?_
  rintro e w2 ⟨rfl, hb2⟩
  go_wp2_with fail
  refine (sCheckOf_any n p hp _).mono ?_
  rintro e w3 ⟨rfl, hb3⟩
  have z2 := hb2.size
  rw [size_alloc] at z2
  have B3 : Below w.heap.size w w3 := (b1.trans (hb2.mono (by rw [size_alloc]; omega))).trans (hb3.mono (by omega))
  have h3 : Blk w3 w.heap.size 23 (ivs .u8 p) := (h1.below hb2 (by rw [size_alloc]; omega)).below hb3 (by omega)
  have z3 := hb3.size
  clear hb2 hb3 h1 b1
  go_wp2_with (refine wpList_load_row rfl _ _ rfl w.heap.size rfl 23 (ivs .u8 p) (0, 0) _ h3 Try.underlying23 rfl (by rw [ivs_size, hp]; exact size23) ?_)
  refine (toA12_any p hp _).mono ?_
  rintro e w5 ⟨rfl, hb5⟩
  go_wp2_with fail
  refine (iCheckOf_any n p hp _).mono ?_
  rintro e w6 ⟨rfl, hb6⟩
  have z5 := hb5.size
  have B6 : Below w.heap.size w w6 := (B3.trans (hb5.mono (by omega))).trans (hb6.mono (by omega))
  clear hb5 hb6 h3 B3
  go_wp2
  go_ret
  exact ⟨rfl, B6⟩

set_option maxHeartbeats 400000 in
theorem lawIsSound_any (n : Int) (p : List Int) (hp : p.length = 16) (w : World) :
    Calls Try.prog 6 #[.agg (ivs .u8 p), .int .i64 n] w fun e w' => e = .returned (.bool true) ∧ Below w.heap.size w w' := by
  have h1 : Blk (w.alloc (.cells (ivs .u8 p) 22)) w.heap.size 22 (ivs .u8 p) := Blk.newAt rfl rfl
  have b1 : Below w.heap.size w (w.alloc (.cells (ivs .u8 p) 22)) := (Below.refl _ _).alloc (Nat.le_refl _) _
  go_enter Try.func6, Try.ntmps6
  go_wp2_with (refine wpList_load_row rfl _ _ rfl w.heap.size rfl 22 (ivs .u8 p) (0, 0) _ h1 Try.underlying22 rfl (by rw [ivs_size, hp]; exact size22) ?_)
  refine (toFrame_any p hp _).mono ?_
  rintro e w2 ⟨rfl, hb2⟩
  go_wp2_with fail
  refine (sIsSound_any p hp n _).mono ?_
  rintro e w3 ⟨rfl, hb3⟩
  have z2 := hb2.size
  rw [size_alloc] at z2
  have B3 : Below w.heap.size w w3 := (b1.trans (hb2.mono (by rw [size_alloc]; omega))).trans (hb3.mono (by omega))
  have h3 : Blk w3 w.heap.size 22 (ivs .u8 p) := (h1.below hb2 (by rw [size_alloc]; omega)).below hb3 (by omega)
  have z3 := hb3.size
  clear hb2 hb3 h1 b1
  go_wp2_with (refine wpList_load_row rfl _ _ rfl w.heap.size rfl 22 (ivs .u8 p) (0, 0) _ h3 Try.underlying22 rfl (by rw [ivs_size, hp]; exact size22) ?_)
  refine (toFrame_any p hp _).mono ?_
  rintro e w5 ⟨rfl, hb5⟩
  go_wp2_with fail
  refine (iIsSound_any p hp n _).mono ?_
  rintro e w6 ⟨rfl, hb6⟩
  have z5 := hb5.size
  have B6 : Below w.heap.size w w6 := (B3.trans (hb5.mono (by omega))).trans (hb6.mono (by omega))
  clear hb5 hb6 h3 B3
  go_wp2
  go_ret
  exact ⟨rfl, B6⟩

set_option maxHeartbeats 800000 in
theorem lawMakeFrame_any (n : Int) (p : List Int) (hp : p.length = 12) (w : World) :
    Calls Try.prog 5 #[.int .i64 n, .agg (ivs .u8 p)] w fun e w' => e = .returned (.bool true) ∧ Below w.heap.size w w' := by
  obtain ⟨M, hM⟩ : ∃ M, M = (if inB n 0 699 then mk n p else List.replicate 16 0) := ⟨_, rfl⟩
  have hML : M.length = 16 := by
    rw [hM]
    split
    · exact mk_length hp
    · simp
  have sM := fun W => sMakeFrame_any n p hp W
  have iM := fun W => iMakeFrame_any n p hp W
  rw [← hM] at sM iM
  have SM := Lib.hid sM
  have IM := Lib.hid iM
  clear sM iM hM
  have h1 : Blk (w.alloc (.cells (ivs .u8 p) 23)) w.heap.size 23 (ivs .u8 p) := Blk.newAt rfl rfl
  have b1 : Below w.heap.size w (w.alloc (.cells (ivs .u8 p) 23)) := (Below.refl _ _).alloc (Nat.le_refl _) _
  go_enter Try.func5, Try.ntmps5
  go_wp2_with (refine wpList_load_row rfl _ _ rfl w.heap.size rfl 23 (ivs .u8 p) (0, 0) _ h1 Try.underlying23 rfl (by rw [ivs_size, hp]; exact size23) ?_)
  refine (toA12_any p hp _).mono ?_
  rintro e w2 ⟨rfl, hb2⟩
  go_wp2_with fail
  refine (SM.out _).mono ?_
  rintro e w3 ⟨rfl, hb3⟩
  have z2 := hb2.size
  rw [size_alloc] at z2
  have B3 : Below w.heap.size w w3 := (b1.trans (hb2.mono (by rw [size_alloc]; omega))).trans (hb3.mono (by omega))
  have h3 : Blk w3 w.heap.size 23 (ivs .u8 p) := (h1.below hb2 (by rw [size_alloc]; omega)).below hb3 (by omega)
  have z3 := hb3.size
  clear hb2 hb3 h1 b1
  go_wp2_with (first
    | refine wpList_store_row rfl _ _ _ rfl w3.heap.size (ivs .u8 M) rfl rfl 25 (ivs .u8 (List.replicate 16 0)) (Blk.newAt rfl rfl) (by rw [ivs_size, hML]; exact size25) (by simp [ivs_size, hML]) ivs_one ?_
    | refine wpList_load_row rfl _ _ rfl w.heap.size rfl 23 (ivs .u8 p) (0, 0) _ ((h3.alloc _).rowFar (by omega) _) Try.underlying23 rfl (by rw [ivs_size, hp]; exact size23) ?_)
  have r4 : Blk ((w3.alloc (.cells #[.int .u8 0, .int .u8 0, .int .u8 0, .int .u8 0, .int .u8 0, .int .u8 0, .int .u8 0, .int .u8 0, .int .u8 0, .int .u8 0, .int .u8 0, .int .u8 0, .int .u8 0, .int .u8 0, .int .u8 0, .int .u8 0] 25)).setRow w3.heap.size (ivs .u8 M)) w3.heap.size 25 (ivs .u8 M) := (Blk.new _ _ _).row _
  have B4 := below_setRow (B3.alloc (by omega) (.cells #[.int .u8 0, .int .u8 0, .int .u8 0, .int .u8 0, .int .u8 0, .int .u8 0, .int .u8 0, .int .u8 0, .int .u8 0, .int .u8 0, .int .u8 0, .int .u8 0, .int .u8 0, .int .u8 0, .int .u8 0, .int .u8 0] 25)) (g := w3.heap.size) (by omega) (ivs .u8 M)
  have s4 : ((w3.alloc (.cells #[.int .u8 0, .int .u8 0, .int .u8 0, .int .u8 0, .int .u8 0, .int .u8 0, .int .u8 0, .int .u8 0, .int .u8 0, .int .u8 0, .int .u8 0, .int .u8 0, .int .u8 0, .int .u8 0, .int .u8 0, .int .u8 0] 25)).setRow w3.heap.size (ivs .u8 M)).heap.size = w3.heap.size + 1 := by rw [size_setRow, size_alloc]
  generalize (w3.alloc (.cells #[.int .u8 0, .int .u8 0, .int .u8 0, .int .u8 0, .int .u8 0, .int .u8 0, .int .u8 0, .int .u8 0, .int .u8 0, .int .u8 0, .int .u8 0, .int .u8 0, .int .u8 0, .int .u8 0, .int .u8 0, .int .u8 0] 25)).setRow w3.heap.size (ivs .u8 M) = w4 at *
  refine (toA12_any p hp _).mono ?_
  rintro e w5 ⟨rfl, hb5⟩
  go_wp2_with fail
  refine (IM.out _).mono ?_
  rintro e w6 ⟨rfl, hb6⟩
  have z5 := hb5.size
  have z6 := hb6.size
  have B6 : Below w.heap.size w w6 := (B4.trans (hb5.mono (by omega))).trans (hb6.mono (by omega))
  have r6 : Blk w6 w3.heap.size 25 (ivs .u8 M) := (r4.below hb5 (by omega)).below hb6 (by omega)
  have q6 : w3.heap.size < w6.heap.size := by omega
  have q0 : w.heap.size ≤ w6.heap.size := by omega
  clear hb5 hb6 r4 B4 h3 B3 s4 z2 z3 z5 z6
  go_wp2_with (first
    | refine wpList_store_row rfl _ _ _ rfl w6.heap.size (ivs .u8 M) rfl rfl 25 (ivs .u8 (List.replicate 16 0)) (Blk.newAt rfl rfl) (by rw [ivs_size, hML]; exact size25) (by simp [ivs_size, hML]) ivs_one ?_
    | refine wpList_load_row rfl _ _ rfl w6.heap.size rfl 25 (ivs .u8 M) (0, 0) _ ((Blk.newAt rfl rfl).row _) Try.underlying25 rfl (by rw [ivs_size, hML]; exact size25) ?_
    | refine wpList_load_row rfl _ _ rfl w3.heap.size rfl 25 (ivs .u8 M) (0, 0) _ ((r6.alloc _).rowFar (by omega) _) Try.underlying25 rfl (by rw [ivs_size, hML]; exact size25) ?_)
  have B7 := below_setRow (B6.alloc q0 (.cells #[.int .u8 0, .int .u8 0, .int .u8 0, .int .u8 0, .int .u8 0, .int .u8 0, .int .u8 0, .int .u8 0, .int .u8 0, .int .u8 0, .int .u8 0, .int .u8 0, .int .u8 0, .int .u8 0, .int .u8 0, .int .u8 0] 25)) (g := w6.heap.size) q0 (ivs .u8 M)
  have s7 : ((w6.alloc (.cells #[.int .u8 0, .int .u8 0, .int .u8 0, .int .u8 0, .int .u8 0, .int .u8 0, .int .u8 0, .int .u8 0, .int .u8 0, .int .u8 0, .int .u8 0, .int .u8 0, .int .u8 0, .int .u8 0, .int .u8 0, .int .u8 0] 25)).setRow w6.heap.size (ivs .u8 M)).heap.size = w6.heap.size + 1 := by rw [size_setRow, size_alloc]
  generalize (w6.alloc (.cells #[.int .u8 0, .int .u8 0, .int .u8 0, .int .u8 0, .int .u8 0, .int .u8 0, .int .u8 0, .int .u8 0, .int .u8 0, .int .u8 0, .int .u8 0, .int .u8 0, .int .u8 0, .int .u8 0, .int .u8 0, .int .u8 0] 25)).setRow w6.heap.size (ivs .u8 M) = w8 at *
  refine (eqFrame_same M hML _).mono ?_
  rintro e w7 ⟨rfl, hb7⟩
  have B9 := B7.trans (hb7.mono (by omega))
  clear hb7 B7 s7
  go_wp2
  go_ret
  exact ⟨rfl, B9⟩
end Go.Proofs.Ytjjmgonbhofipaa
