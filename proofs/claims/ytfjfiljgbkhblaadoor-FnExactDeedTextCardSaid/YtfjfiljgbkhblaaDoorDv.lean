/- The text of a deed: the law's walk. -/
import Derived.Test.YtfjfiljgbkhblaaDoorRows
import Derived.Test.YtfjfiljgbkhblaaDoorDu
namespace Go.Proofs.YtfjfiljgbkhblaaDoor
open Go.ChangeShapes Go.WideShapes Go.ChangeAt Go.RowKit
set_option maxHeartbeats 1600000 in
theorem lawDeedText_any (k a b : Int) (w : World) (ht : Tab w) : Calls Tryd.prog 4 #[.agg #[.int .i64 k, .int .i64 a, .int .i64 b]] w fun e w' => e = .returned (.bool true) ∧ Below w.heap.size w w' := by
  obtain ⟨T, hT⟩ : ∃ T, T = dtext k a b := ⟨_, rfl⟩
  have sM := fun W => sDeedText_any k a b W
  have iM := fun W h => iDeedText_any k a b W h
  rw [← hT] at sM iM
  have SM := Lib.hid sM
  have IM := Lib.hid iM
  have HT := Lib.hid ht
  have H4 := Lib.hid ht.lt
  clear sM iM hT ht
  have h1 : Blk (w.alloc (.cells #[.int .i64 k, .int .i64 a, .int .i64 b] 29)) w.heap.size 29 #[.int .i64 k, .int .i64 a, .int .i64 b] := Blk.newAt rfl rfl
  have b1 : Below w.heap.size w (w.alloc (.cells #[.int .i64 k, .int .i64 a, .int .i64 b] 29)) := (Below.refl _ _).alloc (Nat.le_refl _) _
  go_enter Tryd.func4, Tryd.ntmps4
  go_wp2_with fail
  refine (toDeed_any k a b _).mono ?_
  rintro e w2 ⟨rfl, hb2⟩
  go_wp2_with fail
  refine (SM.out _).mono ?_
  rintro e w3 ⟨rfl, hb3⟩
  have z2 := hb2.size
  rw [size_alloc] at z2
  have B3 : Below w.heap.size w w3 := (b1.trans (hb2.mono (by rw [size_alloc]; omega))).trans (hb3.mono (by omega))
  have h3 : Blk w3 w.heap.size 29 #[.int .i64 k, .int .i64 a, .int .i64 b] := (h1.below hb2 (by rw [size_alloc]; omega)).below hb3 (by omega)
  have z3 := hb3.size
  have H3 := Lib.hid h3
  have HB3 := Lib.hid B3
  clear hb2 hb3 h1 b1 z2 z3 h3 B3
  go_wp2_with (refine wpList_load_row rfl _ _ rfl w.heap.size rfl 29 _ (0, 0) _ H3.out Tryd.underlying29 rfl (by kernel_rfl) ?_)
  refine (toDeed_any k a b _).mono ?_
  rintro e w5 ⟨rfl, hb5⟩
  have B5 : Below w.heap.size w w5 := HB3.out.trans (hb5.mono HB3.out.size)
  have HB5 := Lib.hid B5
  clear hb5 B5
  go_wp2_with fail
  refine (IM.out _ (HT.out.below HB5.out H4.out)).mono ?_
  rintro e w6 ⟨rfl, hb6⟩
  have HB6 := Lib.hid (HB5.out.trans (hb6.mono HB5.out.size))
  clear hb6
  go_wp2
  go_ret
  exact ⟨rfl, HB6.out⟩
end Go.Proofs.YtfjfiljgbkhblaaDoor
