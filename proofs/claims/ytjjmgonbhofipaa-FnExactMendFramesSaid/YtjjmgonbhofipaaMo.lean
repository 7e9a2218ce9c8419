/- The law FnExactMendFrames, walked. -/
import Derived.Test.YtjjmgonbhofipaaRows
import Derived.Test.YtjjmgonbhofipaaSg
import Derived.Test.YtjjmgonbhofipaaMn
namespace Go.Proofs.Ytjjmgonbhofipaa
open Go.ChangeShapes Go.WideShapes Go.ChangeAt Go.RowKit

set_option maxRecDepth 100000 in
set_option maxHeartbeats 1600000 in
theorem lawMendFrames_in (A : Option Addr) (n c : Nat) (l : List (List Int)) (hl : l.length = n) (hrow : Rows_ 16 l) (A2 : Option Addr) (n2 c2 : Nat) (l2 : List (List Int)) (hl2 : l2.length = n2) (hrow2 : Rows_ 16 l2) (hn : n + n2 ≤ 1048576) (w : World) (RA : Rd w w.heap.size 16 A n (l.flatten.map (.int .u8))) (RB : Rd w w.heap.size 16 A2 n2 (l2.flatten.map (.int .u8))) :
    Calls Try.prog 10 #[.slice A n c, .slice A2 n2 c2] w fun e w' => e = .returned (.bool true) ∧ Below w.heap.size w w' := by
  have hm := mendOf_length l l2
  have hro := mendOf_rows hrow hrow2
  have hfl : l.flatten.length = n * 16 := by rw [flat_length hrow, hl]
  have hfl2 : l2.flatten.length = n2 * 16 := by rw [flat_length hrow2, hl2]
  have HRO := Lib.hid hro
  have HFL := Lib.hid hfl
  have Hrow := Lib.hid hrow
  have Hl := Lib.hid hl
  have HFL2 := Lib.hid hfl2
  have Hrow2 := Lib.hid hrow2
  have Hl2 := Lib.hid hl2
  clear hl hrow hfl hl2 hrow2 hfl2 hro
  have B0 : Below w.heap.size w w := Below.refl _ _
  go_enter Try.func10, Try.ntmps10
  go_wp2_with fail
  refine (szFrameS_in A n c 1048576 (by omega) (by omega) _).mono ?_
  rintro e wx ⟨rfl, rfl⟩
  go_wp2_with fail
  refine (szFrameS_in A2 n2 c2 (1048576 - n) (by omega) (by omega) _).mono ?_
  rintro e wx ⟨rfl, rfl⟩
  go_wp2_with fail
  refine (toFrameS_any A n c l Hl.out Hrow.out (by omega) _ (RA.more (by omega))).mono ?_
  rintro e w1 ⟨rfl, b1, hb1⟩
  have z1 := hb1.size
  have RA_1 := RA.below hb1 (by omega)
  have RB_1 := RB.below hb1 (by omega)
  have B1 := B0.trans (hb1.mono (by omega))
  clear RA RB hb1 B0
  have OT := b1.own (n := n) (size := 16) (lo := w.heap.size) (hi := w1.heap.size) HFL.out (Nat.le_refl _) (by have := b1.lt; omega) (by unfold maxLen; omega)
  clear b1
  go_wp2_with fail
  refine (toFrameS_any A2 n2 c2 l2 Hl2.out Hrow2.out (by omega) _ (RB_1.more (by omega))).mono ?_
  rintro e w2 ⟨rfl, b2, hb2⟩
  have z2 := hb2.size
  have RA_2 := RA_1.below hb2 (by omega)
  have RB_2 := RB_1.below hb2 (by omega)
  have OT_2 := OT.below hb2 (by omega)
  have B2 := B1.trans (hb2.mono (by omega))
  clear RA_1 RB_1 OT hb2 B1
  have OU := b2.own (n := n2) (size := 16) (lo := w1.heap.size) (hi := w2.heap.size) HFL2.out (Nat.le_refl _) (by have := b2.lt; omega) (by unfold maxLen; omega)
  clear b2
  go_wp2_with fail
  refine (sMendFrames_any _ _ n n _ _ n2 n2 l l2 Hl.out Hl2.out Hrow.out Hrow2.out (by omega) (by omega) _ (OT_2.rd.more (by omega)) (OU.rd.more (by omega))).mono ?_
  rintro e w3 ⟨AW, cW, rfl, OW, hb3⟩
  have z3 := hb3.size
  have RA_3 := RA_2.below hb3 (by omega)
  have RB_3 := RB_2.below hb3 (by omega)
  have OT_3 := OT_2.below hb3 (by omega)
  have OU_3 := OU.below hb3 (by omega)
  have B3 := B2.trans (hb3.mono (by omega))
  clear RA_2 RB_2 OT_2 OU hb3 B2
  go_wp2_with fail
  refine (toFrameS_any A n c l Hl.out Hrow.out (by omega) _ (RA_3.more (by omega))).mono ?_
  rintro e w4 ⟨rfl, b3, hb4⟩
  have z4 := hb4.size
  have RA_4 := RA_3.below hb4 (by omega)
  have RB_4 := RB_3.below hb4 (by omega)
  have OT_4 := OT_3.below hb4 (by omega)
  have OU_4 := OU_3.below hb4 (by omega)
  have OW_4 := OW.below hb4 (by omega)
  have B4 := B3.trans (hb4.mono (by omega))
  clear RA_3 RB_3 OT_3 OU_3 OW hb4 B3
  have OX := b3.own (n := n) (size := 16) (lo := w3.heap.size) (hi := w4.heap.size) HFL.out (Nat.le_refl _) (by have := b3.lt; omega) (by unfold maxLen; omega)
  clear b3
  go_wp2_with fail
  refine (toFrameS_any A2 n2 c2 l2 Hl2.out Hrow2.out (by omega) _ (RB_4.more (by omega))).mono ?_
  rintro e w5 ⟨rfl, b4, hb5⟩
  have z5 := hb5.size
  have RA_5 := RA_4.below hb5 (by omega)
  have RB_5 := RB_4.below hb5 (by omega)
  have OT_5 := OT_4.below hb5 (by omega)
  have OU_5 := OU_4.below hb5 (by omega)
  have OW_5 := OW_4.below hb5 (by omega)
  have OX_5 := OX.below hb5 (by omega)
  have B5 := B4.trans (hb5.mono (by omega))
  clear RA_4 RB_4 OT_4 OU_4 OW_4 OX hb5 B4
  have OV := b4.own (n := n2) (size := 16) (lo := w4.heap.size) (hi := w5.heap.size) HFL2.out (Nat.le_refl _) (by have := b4.lt; omega) (by unfold maxLen; omega)
  clear b4
  go_wp2_with fail
  refine (iMendFrames_any _ _ n n _ _ n2 n2 l l2 Hl.out Hl2.out Hrow.out Hrow2.out (by omega) (by omega) _ (OX_5.rd.more (by omega)) (OV.rd.more (by omega))).mono ?_
  rintro e w6 ⟨AG, cG, rfl, OG, hb6⟩
  have z6 := hb6.size
  have RA_6 := RA_5.below hb6 (by omega)
  have RB_6 := RB_5.below hb6 (by omega)
  have OT_6 := OT_5.below hb6 (by omega)
  have OU_6 := OU_5.below hb6 (by omega)
  have OW_6 := OW_5.below hb6 (by omega)
  have OX_6 := OX_5.below hb6 (by omega)
  have OV_6 := OV.below hb6 (by omega)
  have B6 := B5.trans (hb6.mono (by omega))
  clear RA_5 RB_5 OT_5 OU_5 OW_5 OX_5 OV hb6 B5
  go_wp2_with fail
  refine (eqFrameS_same _ _ _ _ _ (mendOf l l2) rfl HRO.out (by omega) _ (OG.rd.more (by omega)) (OW_6.rd.more (by omega))).mono ?_
  rintro e w7 ⟨rfl, hb7⟩
  have z7 := hb7.size
  have RA_7 := RA_6.below hb7 (by omega)
  have RB_7 := RB_6.below hb7 (by omega)
  have OW_7 := OW_6.below hb7 (by omega)
  have OX_7 := OX_6.below hb7 (by omega)
  have OV_7 := OV_6.below hb7 (by omega)
  have OG_7 := OG.below hb7 (by omega)
  have B7 := B6.trans (hb7.mono (by omega))
  clear RA_6 RB_6 OW_6 OX_6 OV_6 OG hb7 B6
  go_wp2_with fail
  refine (toFrameS_any A n c l Hl.out Hrow.out (by omega) _ (RA_7.more (by omega))).mono ?_
  rintro e w8 ⟨rfl, b6, hb8⟩
  have z8 := hb8.size
  have RA_8 := RA_7.below hb8 (by omega)
  have RB_8 := RB_7.below hb8 (by omega)
  have OW_8 := OW_7.below hb8 (by omega)
  have OX_8 := OX_7.below hb8 (by omega)
  have OV_8 := OV_7.below hb8 (by omega)
  have OG_8 := OG_7.below hb8 (by omega)
  have B8 := B7.trans (hb8.mono (by omega))
  clear RA_7 RB_7 OW_7 OX_7 OV_7 OG_7 hb8 B7
  have OY := b6.own (n := n) (size := 16) (lo := w7.heap.size) (hi := w8.heap.size) HFL.out (Nat.le_refl _) (by have := b6.lt; omega) (by unfold maxLen; omega)
  clear b6
  go_wp2_with fail
  refine (eqFrameS_same _ _ _ _ _ l Hl.out Hrow.out (by omega) _ (OX_8.rd.more (by omega)) (OY.rd.more (by omega))).mono ?_
  rintro e w9 ⟨rfl, hb9⟩
  have z9 := hb9.size
  have RA_9 := RA_8.below hb9 (by omega)
  have RB_9 := RB_8.below hb9 (by omega)
  have OW_9 := OW_8.below hb9 (by omega)
  have OX_9 := OX_8.below hb9 (by omega)
  have OV_9 := OV_8.below hb9 (by omega)
  have OG_9 := OG_8.below hb9 (by omega)
  have OY_9 := OY.below hb9 (by omega)
  have B9 := B8.trans (hb9.mono (by omega))
  clear RA_8 RB_8 OW_8 OX_8 OV_8 OG_8 OY hb9 B8
  go_wp2_with fail
  refine (toFrameS_any A2 n2 c2 l2 Hl2.out Hrow2.out (by omega) _ (RB_9.more (by omega))).mono ?_
  rintro e w10 ⟨rfl, b7, hb10⟩
  have z10 := hb10.size
  have RA_10 := RA_9.below hb10 (by omega)
  have RB_10 := RB_9.below hb10 (by omega)
  have OW_10 := OW_9.below hb10 (by omega)
  have OX_10 := OX_9.below hb10 (by omega)
  have OV_10 := OV_9.below hb10 (by omega)
  have OG_10 := OG_9.below hb10 (by omega)
  have B10 := B9.trans (hb10.mono (by omega))
  clear RA_9 RB_9 OW_9 OX_9 OV_9 OG_9 hb10 B9
  have OY2 := b7.own (n := n2) (size := 16) (lo := w9.heap.size) (hi := w10.heap.size) HFL2.out (Nat.le_refl _) (by have := b7.lt; omega) (by unfold maxLen; omega)
  clear b7
  go_wp2_with fail
  refine (eqFrameS_same _ _ _ _ _ l2 Hl2.out Hrow2.out (by omega) _ (OV_10.rd.more (by omega)) (OY2.rd.more (by omega))).mono ?_
  rintro e w11 ⟨rfl, hb11⟩
  have z11 := hb11.size
  have RA_11 := RA_10.below hb11 (by omega)
  have RB_11 := RB_10.below hb11 (by omega)
  have OW_11 := OW_10.below hb11 (by omega)
  have OX_11 := OX_10.below hb11 (by omega)
  have OV_11 := OV_10.below hb11 (by omega)
  have OG_11 := OG_10.below hb11 (by omega)
  have OY2_11 := OY2.below hb11 (by omega)
  have B11 := B10.trans (hb11.mono (by omega))
  clear RA_10 RB_10 OW_10 OX_10 OV_10 OG_10 OY2 hb11 B10
  go_wp2_with fail
  refine (markFrameS_any _ _ _ _ _ _ 1 (by omega) (by omega) (by omega) _ OX_11).mono ?_
  rintro e w12 ⟨rfl, _, hb12⟩
  have z12 := hb12.size
  have RA_12 := RA_11.grown hb12 (by omega) (fun g e => by have := OX_11.blk g e; omega)
  have RB_12 := RB_11.grown hb12 (by omega) (fun g e => by have := OX_11.blk g e; omega)
  have OW_12 := OW_11.grown hb12 (fun g e => by have := OX_11.blk g e; omega)
  have OV_12 := OV_11.grown hb12 (fun g e => by have := OX_11.blk g e; omega)
  have OG_12 := OG_11.grown hb12 (fun g e => by have := OX_11.blk g e; omega)
  have B12 := B11.grown hb12 (by omega) (fun g e => by have := OX_11.blk g e; omega)
  clear RA_11 RB_11 OW_11 OX_11 OV_11 OG_11 hb12 B11
  go_wp2_with fail
  refine (markFrameS_any _ _ _ _ _ _ (1 + ((n * 16 : Nat) : Int)) (by omega) (by omega) (by omega) _ OV_12).mono ?_
  rintro e w13 ⟨rfl, _, hb13⟩
  have z13 := hb13.size
  have RA_13 := RA_12.grown hb13 (by omega) (fun g e => by have := OV_12.blk g e; omega)
  have RB_13 := RB_12.grown hb13 (by omega) (fun g e => by have := OV_12.blk g e; omega)
  have OW_13 := OW_12.grown hb13 (fun g e => by have := OV_12.blk g e; omega)
  have OG_13 := OG_12.grown hb13 (fun g e => by have := OV_12.blk g e; omega)
  have B13 := B12.grown hb13 (by omega) (fun g e => by have := OV_12.blk g e; omega)
  clear RA_12 RB_12 OW_12 OV_12 OG_12 hb13 B12
  go_wp2_with fail
  refine (eqFrameS_same _ _ _ _ _ (mendOf l l2) rfl HRO.out (by omega) _ (OG_13.rd.more (by omega)) (OW_13.rd.more (by omega))).mono ?_
  rintro e w14 ⟨rfl, hb14⟩
  have z14 := hb14.size
  have RA_14 := RA_13.below hb14 (by omega)
  have RB_14 := RB_13.below hb14 (by omega)
  have OW_14 := OW_13.below hb14 (by omega)
  have OG_14 := OG_13.below hb14 (by omega)
  have B14 := B13.trans (hb14.mono (by omega))
  clear RA_13 RB_13 OW_13 OG_13 hb14 B13
  go_wp2_with fail
  refine (markFrameS_any _ _ _ _ _ _ 1 (by omega) (by omega) (by omega) _ OG_14).mono ?_
  rintro e w15 ⟨rfl, OM, hb15⟩
  have z15 := hb15.size
  have RA_15 := RA_14.grown hb15 (by omega) (fun g e => by have := OG_14.blk g e; omega)
  have RB_15 := RB_14.grown hb15 (by omega) (fun g e => by have := OG_14.blk g e; omega)
  have OW_15 := OW_14.grown hb15 (fun g e => by have := OG_14.blk g e; omega)
  have B15 := B14.grown hb15 (by omega) (fun g e => by have := OG_14.blk g e; omega)
  clear RA_14 RB_14 OW_14 OG_14 hb15 B14
  go_wp2_with fail
  refine (heldFrameS_any _ _ _ 1 (by omega) (by omega) (by omega) _ (OM.rd.more (by omega))).mono ?_
  rintro e wx ⟨rfl, rfl⟩
  go_wp2_with fail
  refine (toFrameS_any A n c l Hl.out Hrow.out (by omega) _ (RA_15.more (by omega))).mono ?_
  rintro e w16 ⟨rfl, b11, hb16⟩
  have z16 := hb16.size
  have RA_16 := RA_15.below hb16 (by omega)
  have RB_16 := RB_15.below hb16 (by omega)
  have OW_16 := OW_15.below hb16 (by omega)
  have OM_16 := OM.below hb16 (by omega)
  have B16 := B15.trans (hb16.mono (by omega))
  clear RA_15 RB_15 OW_15 OM hb16 B15
  have OZ := b11.own (n := n) (size := 16) (lo := w15.heap.size) (hi := w16.heap.size) HFL.out (Nat.le_refl _) (by have := b11.lt; omega) (by unfold maxLen; omega)
  clear b11
  go_wp2_with fail
  refine (toFrameS_any A2 n2 c2 l2 Hl2.out Hrow2.out (by omega) _ (RB_16.more (by omega))).mono ?_
  rintro e w17 ⟨rfl, b12, hb17⟩
  have z17 := hb17.size
  have RA_17 := RA_16.below hb17 (by omega)
  have RB_17 := RB_16.below hb17 (by omega)
  have OW_17 := OW_16.below hb17 (by omega)
  have OM_17 := OM_16.below hb17 (by omega)
  have OZ_17 := OZ.below hb17 (by omega)
  have B17 := B16.trans (hb17.mono (by omega))
  clear RA_16 RB_16 OW_16 OM_16 OZ hb17 B16
  have OQ := b12.own (n := n2) (size := 16) (lo := w16.heap.size) (hi := w17.heap.size) HFL2.out (Nat.le_refl _) (by have := b12.lt; omega) (by unfold maxLen; omega)
  clear b12
  go_wp2_with fail
  refine (iMendFrames_any _ _ n n _ _ n2 n2 l l2 Hl.out Hl2.out Hrow.out Hrow2.out (by omega) (by omega) _ (OZ_17.rd.more (by omega)) (OQ.rd.more (by omega))).mono ?_
  rintro e w18 ⟨AH, cH, rfl, OH, hb18⟩
  have z18 := hb18.size
  have RA_18 := RA_17.below hb18 (by omega)
  have RB_18 := RB_17.below hb18 (by omega)
  have OW_18 := OW_17.below hb18 (by omega)
  have OM_18 := OM_17.below hb18 (by omega)
  have OZ_18 := OZ_17.below hb18 (by omega)
  have OQ_18 := OQ.below hb18 (by omega)
  have B18 := B17.trans (hb18.mono (by omega))
  clear RA_17 RB_17 OW_17 OM_17 OZ_17 OQ hb18 B17
  go_wp2_with fail
  refine (eqFrameS_same _ _ _ _ _ (mendOf l l2) rfl HRO.out (by omega) _ (OH.rd.more (by omega)) (OW_18.rd.more (by omega))).mono ?_
  rintro e w19 ⟨rfl, hb19⟩
  have z19 := hb19.size
  have RA_19 := RA_18.below hb19 (by omega)
  have RB_19 := RB_18.below hb19 (by omega)
  have OW_19 := OW_18.below hb19 (by omega)
  have OM_19 := OM_18.below hb19 (by omega)
  have OZ_19 := OZ_18.below hb19 (by omega)
  have OQ_19 := OQ_18.below hb19 (by omega)
  have OH_19 := OH.below hb19 (by omega)
  have B19 := B18.trans (hb19.mono (by omega))
  clear RA_18 RB_18 OW_18 OM_18 OZ_18 OQ_18 OH hb19 B18
  go_wp2_with fail
  refine (heldFrameS_any _ _ _ 1 (by omega) (by omega) (by omega) _ (OM_19.rd.more (by omega))).mono ?_
  rintro e wx ⟨rfl, rfl⟩
  go_wp2
  go_ret
  exact ⟨rfl, B19⟩

set_option maxRecDepth 100000 in
set_option maxHeartbeats 400000 in
theorem lawMendFrames_any (A : Option Addr) (n c : Nat) (l : List (List Int)) (hl : l.length = n) (hrow : Rows_ 16 l) (A2 : Option Addr) (n2 c2 : Nat) (l2 : List (List Int)) (hl2 : l2.length = n2) (hrow2 : Rows_ 16 l2) (hs : n ≤ 9223372036854775807) (hs2 : n2 ≤ 9223372036854775807) (w : World) (hR : Rd w w.heap.size 16 A n (l.flatten.map (.int .u8))) (hR2 : Rd w w.heap.size 16 A2 n2 (l2.flatten.map (.int .u8))) :
    Calls Try.prog 10 #[.slice A n c, .slice A2 n2 c2] w fun e w' => e = .returned (.bool true) ∧ Below w.heap.size w w' := by
  by_cases h : n + n2 ≤ 1048576
  · exact lawMendFrames_in A n c l hl hrow A2 n2 c2 l2 hl2 hrow2 h w hR hR2
  · clear hl hrow hR hl2 hrow2 hR2
    by_cases h1 : n ≤ 1048576
    · go_enter Try.func10, Try.ntmps10
      go_wp2_with fail
      refine (szFrameS_in A n c 1048576 (by omega) (by omega) _).mono ?_
      rintro e wx ⟨rfl, rfl⟩
      go_wp2_with fail
      refine (szFrameS_out A2 n2 c2 (1048576 - n) (by omega) (by omega) (by omega) (by omega) _).mono ?_
      rintro e wx ⟨rfl, rfl⟩
      go_wp2
      go_ret
      exact ⟨rfl, Below.refl _ _⟩
    · go_enter Try.func10, Try.ntmps10
      go_wp2_with fail
      refine (szFrameS_out A n c 1048576 (by omega) (by omega) (by omega) (by omega) _).mono ?_
      rintro e wx ⟨rfl, rfl⟩
      go_wp2
      go_ret
      exact ⟨rfl, Below.refl _ _⟩
end Go.Proofs.Ytjjmgonbhofipaa
