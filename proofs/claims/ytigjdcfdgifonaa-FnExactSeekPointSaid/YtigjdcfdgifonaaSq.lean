/- The law FnExactSeekPoint, walked. -/
import Derived.Test.YtigjdcfdgifonaaRows
import Derived.Test.YtigjdcfdgifonaaSg
import Derived.Test.YtigjdcfdgifonaaSk
import Derived.Test.YtigjdcfdgifonaaSl2
import Derived.Test.YtigjdcfdgifonaaSb
import Derived.Test.YtigjdcfdgifonaaSe
namespace Go.Proofs.Ytigjdcfdgifonaa
open Go.ChangeShapes Go.WideShapes Go.ChangeAt Go.RowKit
attribute [local go_sem] run_conv

set_option maxRecDepth 100000 in
set_option maxHeartbeats 1600000 in
theorem lawSeekPoint_in (A : Option Addr) (n c : Nat) (l : List (List Int)) (k : Int) (hl : l.length = n) (hrow : Rows_ 16 l) (hn : n ≤ 1048576) (h255 : ∀ f ∈ l, is255 f) (w : World) (RA : Rd w w.heap.size 16 A n (l.flatten.map (.int .u8))) :
    Calls Try.prog 5 #[.slice A n c, .int .i64 k] w fun e w' => e = .returned (.bool true) ∧ Below w.heap.size w w' := by
  have hm := skP_length l k
  have H255 := Lib.hid h255
  have hfl : l.flatten.length = n * 16 := by rw [flat_length hrow, hl]
  have HFL := Lib.hid hfl
  have Hrow := Lib.hid hrow
  have Hl := Lib.hid hl
  have SP := Lib.hid (fun A c W (hW : Rd W W.heap.size 16 A n (l.flatten.map (.int .u8))) => sSeekPoint_any A n c l k hl hrow h255 hn W hW)
  have IP := Lib.hid (fun A c W (hW : Rd W W.heap.size 16 A n (l.flatten.map (.int .u8))) => iSeekPoint_any A n c l k hl hrow h255 hn W hW)
  clear hl hrow hfl h255
  generalize skRe l k = re at *
  generalize skIm l k = im at *
  generalize skP l k = ps at *
  generalize skCode l k = code at *
  have B0 : Below w.heap.size w w := Below.refl _ _
  go_enter Try.func5, Try.ntmps5
  go_wp2_with fail
  refine (szFrameS_in A n c 1048576 (by omega) (by omega) _).mono ?_
  rintro e wx ⟨rfl, rfl⟩
  go_wp2_with fail
  refine (toFrameS_any A n c l Hl.out Hrow.out hn _ (RA.more (by omega))).mono ?_
  rintro e w1 ⟨rfl, b1, hb1⟩
  have z1 := hb1.size
  have RA_1 := RA.below hb1 (by omega)
  have B1 := B0.trans (hb1.mono (by omega))
  clear RA hb1 B0
  have OT := b1.own (n := n) (size := 16) (lo := w.heap.size) (hi := w1.heap.size) HFL.out (Nat.le_refl _) (by have := b1.lt; omega) (by unfold maxLen; omega)
  clear b1
  go_wp2_with fail
  refine (SP.out _ n _ (OT.rd.more (by omega))).mono ?_
  rintro e w2 ⟨AW, cW, rfl, OW, hb2⟩
  have z2 := hb2.size
  have RA_2 := RA_1.below hb2 (by omega)
  have OT_2 := OT.below hb2 (by omega)
  have B2 := B1.trans (hb2.mono (by omega))
  clear RA_1 OT hb2 B1
  go_wp2_with fail
  refine (toFrameS_any A n c l Hl.out Hrow.out hn _ (RA_2.more (by omega))).mono ?_
  rintro e w3 ⟨rfl, b3, hb3⟩
  have z3 := hb3.size
  have RA_3 := RA_2.below hb3 (by omega)
  have OT_3 := OT_2.below hb3 (by omega)
  have OW_3 := OW.below hb3 (by omega)
  have B3 := B2.trans (hb3.mono (by omega))
  clear RA_2 OT_2 OW hb3 B2
  have OX := b3.own (n := n) (size := 16) (lo := w2.heap.size) (hi := w3.heap.size) HFL.out (Nat.le_refl _) (by have := b3.lt; omega) (by unfold maxLen; omega)
  clear b3
  go_wp2_with fail
  refine (IP.out _ n _ (OX.rd.more (by omega))).mono ?_
  rintro e w4 ⟨AG, cG, rfl, OG, hb4⟩
  have z4 := hb4.size
  have RA_4 := RA_3.below hb4 (by omega)
  have OT_4 := OT_3.below hb4 (by omega)
  have OW_4 := OW_3.below hb4 (by omega)
  have OX_4 := OX.below hb4 (by omega)
  have B4 := B3.trans (hb4.mono (by omega))
  clear RA_3 OT_3 OW_3 OX hb4 B3
  go_wp2_with fail
  refine (sameComplex_alike _ _ _ _ (wd_alike _ _ _) (wd_alike _ _ _) _).mono ?_
  rintro e w5 ⟨rfl, hw5⟩
  have hb5 : Below w4.heap.size w4 w5 := by rw [hw5]; exact ⟨rfl, rfl, rfl, Nat.le_refl _, fun _ _ => rfl⟩
  clear hw5
  have z5 := hb5.size
  have RA_5 := RA_4.below hb5 (by omega)
  have OT_5 := OT_4.below hb5 (by omega)
  have OW_5 := OW_4.below hb5 (by omega)
  have OX_5 := OX_4.below hb5 (by omega)
  have OG_5 := OG.below hb5 (by omega)
  have B5 := B4.trans (hb5.mono (by omega))
  clear RA_4 OT_4 OW_4 OX_4 OG hb5 B4
  go_wp2_with fail
  refine (eqInt64S_same _ _ _ _ _ ps (by omega) _ (OG_5.rd.more (by omega)) (OW_5.rd.more (by omega))).mono ?_
  rintro e w6 ⟨rfl, hb6⟩
  have z6 := hb6.size
  have RA_6 := RA_5.below hb6 (by omega)
  have OT_6 := OT_5.below hb6 (by omega)
  have OW_6 := OW_5.below hb6 (by omega)
  have OX_6 := OX_5.below hb6 (by omega)
  have OG_6 := OG_5.below hb6 (by omega)
  have B6 := B5.trans (hb6.mono (by omega))
  clear RA_5 OT_5 OW_5 OX_5 OG_5 hb6 B5
  go_wp2_with fail
  refine (toFrameS_any A n c l Hl.out Hrow.out hn _ (RA_6.more (by omega))).mono ?_
  rintro e w7 ⟨rfl, b7, hb7⟩
  have z7 := hb7.size
  have RA_7 := RA_6.below hb7 (by omega)
  have OT_7 := OT_6.below hb7 (by omega)
  have OW_7 := OW_6.below hb7 (by omega)
  have OX_7 := OX_6.below hb7 (by omega)
  have OG_7 := OG_6.below hb7 (by omega)
  have B7 := B6.trans (hb7.mono (by omega))
  clear RA_6 OT_6 OW_6 OX_6 OG_6 hb7 B6
  have OY := b7.own (n := n) (size := 16) (lo := w6.heap.size) (hi := w7.heap.size) HFL.out (Nat.le_refl _) (by have := b7.lt; omega) (by unfold maxLen; omega)
  clear b7
  go_wp2_with fail
  refine (eqFrameS_same _ _ _ _ _ l Hl.out Hrow.out (by omega) _ (OX_7.rd.more (by omega)) (OY.rd.more (by omega))).mono ?_
  rintro e w8 ⟨rfl, hb8⟩
  have z8 := hb8.size
  have RA_8 := RA_7.below hb8 (by omega)
  have OT_8 := OT_7.below hb8 (by omega)
  have OW_8 := OW_7.below hb8 (by omega)
  have OX_8 := OX_7.below hb8 (by omega)
  have OG_8 := OG_7.below hb8 (by omega)
  have OY_8 := OY.below hb8 (by omega)
  have B8 := B7.trans (hb8.mono (by omega))
  clear RA_7 OT_7 OW_7 OX_7 OG_7 OY hb8 B7
  go_wp2_with fail
  refine (markFrameS_any _ _ _ _ _ _ 1 (by omega) (by omega) (by omega) _ OX_8).mono ?_
  rintro e w9 ⟨rfl, _, hb9⟩
  have z9 := hb9.size
  have RA_9 := RA_8.grown hb9 (by omega) (fun g e => by have := OX_8.blk g e; omega)
  have OT_9 := OT_8.grown hb9 (fun g e => by have := OX_8.blk g e; omega)
  have OW_9 := OW_8.grown hb9 (fun g e => by have := OX_8.blk g e; omega)
  have OG_9 := OG_8.grown hb9 (fun g e => by have := OX_8.blk g e; omega)
  have B9 := B8.grown hb9 (by omega) (fun g e => by have := OX_8.blk g e; omega)
  clear RA_8 OT_8 OW_8 OX_8 OG_8 hb9 B8
  go_wp2_with fail
  refine (sameComplex_alike _ _ _ _ (wd_alike _ _ _) (wd_alike _ _ _) _).mono ?_
  rintro e w10 ⟨rfl, hw10⟩
  have hb10 : Below w9.heap.size w9 w10 := by rw [hw10]; exact ⟨rfl, rfl, rfl, Nat.le_refl _, fun _ _ => rfl⟩
  clear hw10
  have z10 := hb10.size
  have RA_10 := RA_9.below hb10 (by omega)
  have OT_10 := OT_9.below hb10 (by omega)
  have OW_10 := OW_9.below hb10 (by omega)
  have OG_10 := OG_9.below hb10 (by omega)
  have B10 := B9.trans (hb10.mono (by omega))
  clear RA_9 OT_9 OW_9 OG_9 hb10 B9
  go_wp2_with fail
  refine (eqInt64S_same _ _ _ _ _ ps (by omega) _ (OG_10.rd.more (by omega)) (OW_10.rd.more (by omega))).mono ?_
  rintro e w11 ⟨rfl, hb11⟩
  have z11 := hb11.size
  have RA_11 := RA_10.below hb11 (by omega)
  have OT_11 := OT_10.below hb11 (by omega)
  have OW_11 := OW_10.below hb11 (by omega)
  have OG_11 := OG_10.below hb11 (by omega)
  have B11 := B10.trans (hb11.mono (by omega))
  clear RA_10 OT_10 OW_10 OG_10 hb11 B10
  go_wp2_with fail
  refine (markInt64S_any _ _ _ _ _ _ 1 (by omega) (by omega) (by omega) _ OG_11).mono ?_
  rintro e w12 ⟨rfl, OM, hb12⟩
  have z12 := hb12.size
  have RA_12 := RA_11.grown hb12 (by omega) (fun g e => by have := OG_11.blk g e; omega)
  have OT_12 := OT_11.grown hb12 (fun g e => by have := OG_11.blk g e; omega)
  have OW_12 := OW_11.grown hb12 (fun g e => by have := OG_11.blk g e; omega)
  have B12 := B11.grown hb12 (by omega) (fun g e => by have := OG_11.blk g e; omega)
  clear RA_11 OT_11 OW_11 OG_11 hb12 B11
  go_wp2_with fail
  refine (heldInt64S_any _ _ _ 1 (by omega) (by omega) (by omega) _ (OM.rd.more (by omega))).mono ?_
  rintro e wx ⟨rfl, rfl⟩
  go_wp2_with fail
  refine (toFrameS_any A n c l Hl.out Hrow.out hn _ (RA_12.more (by omega))).mono ?_
  rintro e w13 ⟨rfl, b13, hb13⟩
  have z13 := hb13.size
  have RA_13 := RA_12.below hb13 (by omega)
  have OT_13 := OT_12.below hb13 (by omega)
  have OW_13 := OW_12.below hb13 (by omega)
  have OM_13 := OM.below hb13 (by omega)
  have B13 := B12.trans (hb13.mono (by omega))
  clear RA_12 OT_12 OW_12 OM hb13 B12
  have OZ := b13.own (n := n) (size := 16) (lo := w12.heap.size) (hi := w13.heap.size) HFL.out (Nat.le_refl _) (by have := b13.lt; omega) (by unfold maxLen; omega)
  clear b13
  go_wp2_with fail
  refine (IP.out _ n _ (OZ.rd.more (by omega))).mono ?_
  rintro e w14 ⟨AH, cH, rfl, OH, hb14⟩
  have z14 := hb14.size
  have RA_14 := RA_13.below hb14 (by omega)
  have OT_14 := OT_13.below hb14 (by omega)
  have OW_14 := OW_13.below hb14 (by omega)
  have OM_14 := OM_13.below hb14 (by omega)
  have OZ_14 := OZ.below hb14 (by omega)
  have B14 := B13.trans (hb14.mono (by omega))
  clear RA_13 OT_13 OW_13 OM_13 OZ hb14 B13
  go_wp2_with fail
  refine (sameComplex_alike _ _ _ _ (wd_alike _ _ _) (wd_alike _ _ _) _).mono ?_
  rintro e w15 ⟨rfl, hw15⟩
  have hb15 : Below w14.heap.size w14 w15 := by rw [hw15]; exact ⟨rfl, rfl, rfl, Nat.le_refl _, fun _ _ => rfl⟩
  clear hw15
  have z15 := hb15.size
  have RA_15 := RA_14.below hb15 (by omega)
  have OT_15 := OT_14.below hb15 (by omega)
  have OW_15 := OW_14.below hb15 (by omega)
  have OM_15 := OM_14.below hb15 (by omega)
  have OZ_15 := OZ_14.below hb15 (by omega)
  have OH_15 := OH.below hb15 (by omega)
  have B15 := B14.trans (hb15.mono (by omega))
  clear RA_14 OT_14 OW_14 OM_14 OZ_14 OH hb15 B14
  go_wp2_with fail
  refine (eqInt64S_same _ _ _ _ _ ps (by omega) _ (OH_15.rd.more (by omega)) (OW_15.rd.more (by omega))).mono ?_
  rintro e w16 ⟨rfl, hb16⟩
  have z16 := hb16.size
  have RA_16 := RA_15.below hb16 (by omega)
  have OT_16 := OT_15.below hb16 (by omega)
  have OW_16 := OW_15.below hb16 (by omega)
  have OM_16 := OM_15.below hb16 (by omega)
  have OZ_16 := OZ_15.below hb16 (by omega)
  have OH_16 := OH_15.below hb16 (by omega)
  have B16 := B15.trans (hb16.mono (by omega))
  clear RA_15 OT_15 OW_15 OM_15 OZ_15 OH_15 hb16 B15
  go_wp2_with fail
  refine (heldInt64S_any _ _ _ 1 (by omega) (by omega) (by omega) _ (OM_16.rd.more (by omega))).mono ?_
  rintro e wx ⟨rfl, rfl⟩
  go_wp2
  go_ret
  exact ⟨rfl, B16⟩

set_option maxRecDepth 100000 in
set_option maxHeartbeats 400000 in
theorem lawSeekPoint_any (A : Option Addr) (n c : Nat) (l : List (List Int)) (k : Int) (hl : l.length = n) (hrow : Rows_ 16 l) (hs : n ≤ 9223372036854775807) (h255 : ∀ f ∈ l, is255 f) (w : World) (hR : Rd w w.heap.size 16 A n (l.flatten.map (.int .u8))) :
    Calls Try.prog 5 #[.slice A n c, .int .i64 k] w fun e w' => e = .returned (.bool true) ∧ Below w.heap.size w w' := by
  by_cases h : n ≤ 1048576
  · exact lawSeekPoint_in A n c l k hl hrow h h255 w hR
  · clear hl hrow hR h255
    go_enter Try.func5, Try.ntmps5
    go_wp2_with fail
    refine (szFrameS_out A n c 1048576 (by omega) (by omega) (by omega) (by omega) _).mono ?_
    rintro e wx ⟨rfl, rfl⟩
    go_wp2
    go_ret
    exact ⟨rfl, Below.refl _ _⟩
end Go.Proofs.Ytigjdcfdgifonaa
