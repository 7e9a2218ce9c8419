/- The law FnExactReadPointFile, walked. -/
import Derived.Test.YtigjdcfdgifonaaRows
import Derived.Test.YtigjdcfdgifonaaSg
import Derived.Test.YtigjdcfdgifonaaRp
import Derived.Test.YtigjdcfdgifonaaRn
import Derived.Test.YtigjdcfdgifonaaCx
namespace Go.Proofs.Ytigjdcfdgifonaa
open Go.ChangeShapes Go.WideShapes Go.ChangeAt Go.RowKit

set_option maxRecDepth 100000 in
set_option maxHeartbeats 1600000 in
theorem lawReadPointFile_in (A : Option Addr) (n c : Nat) (l : List (List Int)) (hl : l.length = n) (hrow : Rows_ 16 l) (hn : n ≤ 1048576) (h255 : ∀ f ∈ l, is255 f) (w : World) (RA : Rd w w.heap.size 16 A n (l.flatten.map (.int .u8))) :
    Calls Try.prog 3 #[.slice A n c] w fun e w' => e = .returned (.bool true) ∧ Below w.heap.size w w' := by
  have hm := rpL_length l
  have H255 := Lib.hid h255
  have hfl : l.flatten.length = n * 16 := by rw [flat_length hrow, hl]
  have HFL := Lib.hid hfl
  have Hrow := Lib.hid hrow
  have Hl := Lib.hid hl
  clear hl hrow hfl h255
  have B0 : Below w.heap.size w w := Below.refl _ _
  go_enter Try.func3, Try.ntmps3
  go_wp2_with fail
  refine (szFrameS_in A n c 1048576 (by omega) (by omega) _).mono ?_
  rintro e wx ⟨rfl, rfl⟩
  go_wp2_with fail
  refine (toFrameS_any A n c l Hl.out Hrow.out hn _ (RA.more (by omega))).mono ?_
  rintro e w1 ⟨rfl, b1, hb1⟩
  have z1 := hb1.size
  have RA_1 := RA.below hb1 (by omega)
  have B1 := B0.trans (hb1.mono (by omega))
  clear RA hb1 B0
  have OT := b1.own (n := n) (size := 16) (lo := w.heap.size) (hi := w1.heap.size) HFL.out (Nat.le_refl _) (by have := b1.lt; omega) (by unfold maxLen; omega)
  clear b1
  go_wp2_with fail
  refine (sReadPointFile_any _ n n l Hl.out Hrow.out H255.out hn _ (OT.rd.more (by omega))).mono ?_
  rintro e w2 ⟨AW, cW, rfl, OW, hb2⟩
  have z2 := hb2.size
  have RA_2 := RA_1.below hb2 (by omega)
  have OT_2 := OT.below hb2 (by omega)
  have B2 := B1.trans (hb2.mono (by omega))
  clear RA_1 OT hb2 B1
  go_wp2_with fail
  refine (toFrameS_any A n c l Hl.out Hrow.out hn _ (RA_2.more (by omega))).mono ?_
  rintro e w3 ⟨rfl, b3, hb3⟩
  have z3 := hb3.size
  have RA_3 := RA_2.below hb3 (by omega)
  have OT_3 := OT_2.below hb3 (by omega)
  have OW_3 := OW.below hb3 (by omega)
  have B3 := B2.trans (hb3.mono (by omega))
  clear RA_2 OT_2 OW hb3 B2
  have OX := b3.own (n := n) (size := 16) (lo := w2.heap.size) (hi := w3.heap.size) HFL.out (Nat.le_refl _) (by have := b3.lt; omega) (by unfold maxLen; omega)
  clear b3
  go_wp2_with fail
  refine (iReadPointFile_any _ n n l Hl.out Hrow.out H255.out hn (Nat.le_refl _) (by omega) _ (OX.rd.more (by omega))).mono ?_
  rintro e w4 ⟨AG, cG, rfl, OG, hb4⟩
  have z4 := hb4.size
  have RA_4 := RA_3.below hb4 (by omega)
  have OT_4 := OT_3.below hb4 (by omega)
  have OW_4 := OW_3.below hb4 (by omega)
  have OX_4 := OX.below hb4 (by omega)
  have B4 := B3.trans (hb4.mono (by omega))
  clear RA_3 OT_3 OW_3 OX hb4 B3
  go_wp2_with fail
  refine (eqComplex64S_same _ _ _ _ _ (rpL l) rfl (by omega) _ (OG.rd.more (by omega)) (OW_4.rd.more (by omega))).mono ?_
  rintro e w5 ⟨rfl, hb5⟩
  have z5 := hb5.size
  have RA_5 := RA_4.below hb5 (by omega)
  have OT_5 := OT_4.below hb5 (by omega)
  have OW_5 := OW_4.below hb5 (by omega)
  have OX_5 := OX_4.below hb5 (by omega)
  have OG_5 := OG.below hb5 (by omega)
  have B5 := B4.trans (hb5.mono (by omega))
  clear RA_4 OT_4 OW_4 OX_4 OG hb5 B4
  go_wp2_with fail
  refine (toFrameS_any A n c l Hl.out Hrow.out hn _ (RA_5.more (by omega))).mono ?_
  rintro e w6 ⟨rfl, b6, hb6⟩
  have z6 := hb6.size
  have RA_6 := RA_5.below hb6 (by omega)
  have OT_6 := OT_5.below hb6 (by omega)
  have OW_6 := OW_5.below hb6 (by omega)
  have OX_6 := OX_5.below hb6 (by omega)
  have OG_6 := OG_5.below hb6 (by omega)
  have B6 := B5.trans (hb6.mono (by omega))
  clear RA_5 OT_5 OW_5 OX_5 OG_5 hb6 B5
  have OY := b6.own (n := n) (size := 16) (lo := w5.heap.size) (hi := w6.heap.size) HFL.out (Nat.le_refl _) (by have := b6.lt; omega) (by unfold maxLen; omega)
  clear b6
  go_wp2_with fail
  refine (eqFrameS_same _ _ _ _ _ l Hl.out Hrow.out (by omega) _ (OX_6.rd.more (by omega)) (OY.rd.more (by omega))).mono ?_
  rintro e w7 ⟨rfl, hb7⟩
  have z7 := hb7.size
  have RA_7 := RA_6.below hb7 (by omega)
  have OT_7 := OT_6.below hb7 (by omega)
  have OW_7 := OW_6.below hb7 (by omega)
  have OX_7 := OX_6.below hb7 (by omega)
  have OG_7 := OG_6.below hb7 (by omega)
  have OY_7 := OY.below hb7 (by omega)
  have B7 := B6.trans (hb7.mono (by omega))
  clear RA_6 OT_6 OW_6 OX_6 OG_6 OY hb7 B6
  go_wp2_with fail
  refine (markFrameS_any _ _ _ _ _ _ 1 (by omega) (by omega) (by omega) _ OX_7).mono ?_
  rintro e w8 ⟨rfl, _, hb8⟩
  have z8 := hb8.size
  have RA_8 := RA_7.grown hb8 (by omega) (fun g e => by have := OX_7.blk g e; omega)
  have OT_8 := OT_7.grown hb8 (fun g e => by have := OX_7.blk g e; omega)
  have OW_8 := OW_7.grown hb8 (fun g e => by have := OX_7.blk g e; omega)
  have OG_8 := OG_7.grown hb8 (fun g e => by have := OX_7.blk g e; omega)
  have B8 := B7.grown hb8 (by omega) (fun g e => by have := OX_7.blk g e; omega)
  clear RA_7 OT_7 OW_7 OX_7 OG_7 hb8 B7
  go_wp2_with fail
  refine (eqComplex64S_same _ _ _ _ _ (rpL l) rfl (by omega) _ (OG_8.rd.more (by omega)) (OW_8.rd.more (by omega))).mono ?_
  rintro e w9 ⟨rfl, hb9⟩
  have z9 := hb9.size
  have RA_9 := RA_8.below hb9 (by omega)
  have OT_9 := OT_8.below hb9 (by omega)
  have OW_9 := OW_8.below hb9 (by omega)
  have OG_9 := OG_8.below hb9 (by omega)
  have B9 := B8.trans (hb9.mono (by omega))
  clear RA_8 OT_8 OW_8 OG_8 hb9 B8
  go_wp2_with fail
  refine (markComplex64S_one _ _ _ _ _ _ (by omega) _ OG_9).mono ?_
  rintro e w10 ⟨rfl, OM, hb10⟩
  have z10 := hb10.size
  have RA_10 := RA_9.grown hb10 (by omega) (fun g e => by have := OG_9.blk g e; omega)
  have OT_10 := OT_9.grown hb10 (fun g e => by have := OG_9.blk g e; omega)
  have OW_10 := OW_9.grown hb10 (fun g e => by have := OG_9.blk g e; omega)
  have B10 := B9.grown hb10 (by omega) (fun g e => by have := OG_9.blk g e; omega)
  clear RA_9 OT_9 OW_9 OG_9 hb10 B9
  go_wp2_with fail
  refine (heldComplex64S_one _ _ _ (by omega) _ (OM.rd.more (by omega))).mono ?_
  rintro e w11 ⟨rfl, hb11⟩
  have z11 := hb11.size
  have RA_11 := RA_10.below hb11 (by omega)
  have OT_11 := OT_10.below hb11 (by omega)
  have OW_11 := OW_10.below hb11 (by omega)
  have OM_11 := OM.below hb11 (by omega)
  have B11 := B10.trans (hb11.mono (by omega))
  clear RA_10 OT_10 OW_10 OM hb11 B10
  go_wp2_with fail
  refine (toFrameS_any A n c l Hl.out Hrow.out hn _ (RA_11.more (by omega))).mono ?_
  rintro e w12 ⟨rfl, b11, hb12⟩
  have z12 := hb12.size
  have RA_12 := RA_11.below hb12 (by omega)
  have OT_12 := OT_11.below hb12 (by omega)
  have OW_12 := OW_11.below hb12 (by omega)
  have OM_12 := OM_11.below hb12 (by omega)
  have B12 := B11.trans (hb12.mono (by omega))
  clear RA_11 OT_11 OW_11 OM_11 hb12 B11
  have OZ := b11.own (n := n) (size := 16) (lo := w11.heap.size) (hi := w12.heap.size) HFL.out (Nat.le_refl _) (by have := b11.lt; omega) (by unfold maxLen; omega)
  clear b11
  go_wp2_with fail
  refine (iReadPointFile_any _ n n l Hl.out Hrow.out H255.out hn (Nat.le_refl _) (by omega) _ (OZ.rd.more (by omega))).mono ?_
  rintro e w13 ⟨AH, cH, rfl, OH, hb13⟩
  have z13 := hb13.size
  have RA_13 := RA_12.below hb13 (by omega)
  have OT_13 := OT_12.below hb13 (by omega)
  have OW_13 := OW_12.below hb13 (by omega)
  have OM_13 := OM_12.below hb13 (by omega)
  have OZ_13 := OZ.below hb13 (by omega)
  have B13 := B12.trans (hb13.mono (by omega))
  clear RA_12 OT_12 OW_12 OM_12 OZ hb13 B12
  go_wp2_with fail
  refine (eqComplex64S_same _ _ _ _ _ (rpL l) rfl (by omega) _ (OH.rd.more (by omega)) (OW_13.rd.more (by omega))).mono ?_
  rintro e w14 ⟨rfl, hb14⟩
  have z14 := hb14.size
  have RA_14 := RA_13.below hb14 (by omega)
  have OT_14 := OT_13.below hb14 (by omega)
  have OW_14 := OW_13.below hb14 (by omega)
  have OM_14 := OM_13.below hb14 (by omega)
  have OZ_14 := OZ_13.below hb14 (by omega)
  have OH_14 := OH.below hb14 (by omega)
  have B14 := B13.trans (hb14.mono (by omega))
  clear RA_13 OT_13 OW_13 OM_13 OZ_13 OH hb14 B13
  go_wp2_with fail
  refine (heldComplex64S_one _ _ _ (by omega) _ (OM_14.rd.more (by omega))).mono ?_
  rintro e w15 ⟨rfl, hb15⟩
  have z15 := hb15.size
  have RA_15 := RA_14.below hb15 (by omega)
  have OT_15 := OT_14.below hb15 (by omega)
  have OW_15 := OW_14.below hb15 (by omega)
  have OM_15 := OM_14.below hb15 (by omega)
  have OZ_15 := OZ_14.below hb15 (by omega)
  have OH_15 := OH_14.below hb15 (by omega)
  have B15 := B14.trans (hb15.mono (by omega))
  clear RA_14 OT_14 OW_14 OM_14 OZ_14 OH_14 hb15 B14
  go_wp2
  go_ret
  exact ⟨rfl, B15⟩

set_option maxRecDepth 100000 in
set_option maxHeartbeats 400000 in
theorem lawReadPointFile_any (A : Option Addr) (n c : Nat) (l : List (List Int)) (hl : l.length = n) (hrow : Rows_ 16 l) (hs : n ≤ 9223372036854775807) (h255 : ∀ f ∈ l, is255 f) (w : World) (hR : Rd w w.heap.size 16 A n (l.flatten.map (.int .u8))) :
    Calls Try.prog 3 #[.slice A n c] w fun e w' => e = .returned (.bool true) ∧ Below w.heap.size w w' := by
  by_cases h : n ≤ 1048576
  · exact lawReadPointFile_in A n c l hl hrow h h255 w hR
  · clear hl hrow hR h255
    go_enter Try.func3, Try.ntmps3
    go_wp2_with fail
    refine (szFrameS_out A n c 1048576 (by omega) (by omega) (by omega) (by omega) _).mono ?_
    rintro e wx ⟨rfl, rfl⟩
    go_wp2
    go_ret
    exact ⟨rfl, Below.refl _ _⟩
end Go.Proofs.Ytigjdcfdgifonaa
