/- The law FnExactMinusPictures, walked. -/
import Derived.Test.YthicgmdkipgkaaaRows
import Derived.Test.YthicgmdkipgkaaaJn3
import Derived.Test.YthicgmdkipgkaaaSj3
import Derived.Test.YthicgmdkipgkaaaSn
import Derived.Test.YthicgmdkipgkaaaJb
namespace Go.Proofs.Ythicgmdkipgkaaa
open Go.ChangeShapes Go.WideShapes Go.ChangeAt Go.RowKit

set_option maxRecDepth 100000 in
set_option maxHeartbeats 1600000 in
theorem lawMinusPictures_in (A : Option Addr) (n c : Nat) (l : List Bl) (hl : l.length = n) (hrow : Bls l) (h16 : ∀ b ∈ l, is16 b.2) (h32 : ∀ b ∈ l, ∀ x ∈ b.1, -2147483648 ≤ x ∧ x ≤ 2147483647) (A2 : Option Addr) (n2 c2 : Nat) (l2 : List Bl) (hl2 : l2.length = n2) (hrow2 : Bls l2) (h162 : ∀ b ∈ l2, is16 b.2) (h322 : ∀ b ∈ l2, ∀ x ∈ b.1, -2147483648 ≤ x ∧ x ≤ 2147483647) (hn : n + n2 ≤ 1048576) (w : World) (RA : Rd w w.heap.size 18 A n (bcs l)) (RB : Rd w w.heap.size 18 A2 n2 (bcs l2)) :
    Calls Try.prog 11 #[.slice A n c, .slice A2 n2 c2] w fun e w' => e = .returned (.bool true) ∧ Below w.heap.size w w' := by
  have hbl2 : (bcs l2).length = n2 * 18 := by rw [bcs_length hrow2, hl2]
  have HBL2 := Lib.hid hbl2
  have Hrow2 := Lib.hid hrow2
  have Hl2 := Lib.hid hl2
  have hbl : (bcs l).length = n * 18 := by rw [bcs_length hrow, hl]
  have HBL := Lib.hid hbl
  have Hrow := Lib.hid hrow
  have Hl := Lib.hid hl
  have SP := Lib.hid (fun A c A2 c2 W (hW : Rd W W.heap.size 18 A n (bcs l)) (hW2 : Rd W W.heap.size 18 A2 n2 (bcs l2)) => sMinusPictures_any A n c l hl hrow h16 h32 A2 n2 c2 l2 hl2 hrow2 h162 h322 (by omega) (by omega) W hW hW2)
  have IP := Lib.hid (fun A c A2 c2 W (hW : Rd W W.heap.size 18 A n (bcs l)) (hW2 : Rd W W.heap.size 18 A2 n2 (bcs l2)) => iMinusPictures_any A n c l hl hrow h16 h32 A2 n2 c2 l2 hl2 hrow2 h162 h322 (by omega) (by omega) W hW hW2)
  have HRL := Lib.hid (cmbL_bls notF l l2)
  have hLL := cmbL_length notF l l2
  clear hl hrow hbl h16 h32 hl2 hrow2 hbl2 h162 h322
  generalize cmbL notF l l2 = RES at *
  generalize cmbK notF l l2 = code at *
  have B0 : Below w.heap.size w w := Below.refl _ _
  go_enter Try.func11, Try.ntmps11
  go_wp2_with fail
  refine (szBlockS_in A n c (1048576) (by omega) (by omega) _).mono ?_
  rintro e wx ⟨rfl, rfl⟩
  go_wp2_with fail
  refine (szBlockS_in A2 n2 c2 (1048576 - n) (by omega) (by omega) _).mono ?_
  rintro e wx ⟨rfl, rfl⟩
  go_wp2_with fail
  refine (toBlockS_any A n c l Hl.out Hrow.out (by omega) _ (RA.more (by omega))).mono ?_
  rintro e w1 ⟨rfl, bb0, hb1⟩
  have z1 := hb1.size
  have RA_1 := RA.below hb1 (by omega)
  have RB_1 := RB.below hb1 (by omega)
  have B1 := B0.trans (hb1.mono (by omega))
  clear RA RB hb1 B0
  have OT0 := bb0.ownV (n := n) (size := 18) (lo := w.heap.size) (hi := w1.heap.size) HBL.out (Nat.le_refl _) (by have := bb0.lt; omega) (by unfold maxLen; omega)
  clear bb0
  go_wp2_with fail
  refine (toBlockS_any A2 n2 c2 l2 Hl2.out Hrow2.out (by omega) _ (RB_1.more (by omega))).mono ?_
  rintro e w2 ⟨rfl, bb1, hb2⟩
  have z2 := hb2.size
  have RA_2 := RA_1.below hb2 (by omega)
  have RB_2 := RB_1.below hb2 (by omega)
  have OT0_2 := OT0.below hb2 (by omega)
  have B2 := B1.trans (hb2.mono (by omega))
  clear RA_1 RB_1 OT0 hb2 B1
  have OT1 := bb1.ownV (n := n2) (size := 18) (lo := w1.heap.size) (hi := w2.heap.size) HBL2.out (Nat.le_refl _) (by have := bb1.lt; omega) (by unfold maxLen; omega)
  clear bb1
  go_wp2_with fail
  refine (SP.out _ _ _ _ _ (OT0_2.rd.more (by omega)) (OT1.rd.more (by omega))).mono ?_
  rintro e w3 ⟨AW, cW, rfl, OW, hb3⟩
  have z3 := hb3.size
  have RA_3 := RA_2.below hb3 (by omega)
  have RB_3 := RB_2.below hb3 (by omega)
  have OT0_3 := OT0_2.below hb3 (by omega)
  have OT1_3 := OT1.below hb3 (by omega)
  have B3 := B2.trans (hb3.mono (by omega))
  clear RA_2 RB_2 OT0_2 OT1 hb3 B2
  go_wp2_with fail
  refine (toBlockS_any A n c l Hl.out Hrow.out (by omega) _ (RA_3.more (by omega))).mono ?_
  rintro e w4 ⟨rfl, bb2, hb4⟩
  have z4 := hb4.size
  have RA_4 := RA_3.below hb4 (by omega)
  have RB_4 := RB_3.below hb4 (by omega)
  have OW_4 := OW.below hb4 (by omega)
  have B4 := B3.trans (hb4.mono (by omega))
  clear RA_3 RB_3 OW hb4 B3
  have OX0 := bb2.ownV (n := n) (size := 18) (lo := w3.heap.size) (hi := w4.heap.size) HBL.out (Nat.le_refl _) (by have := bb2.lt; omega) (by unfold maxLen; omega)
  clear bb2
  go_wp2_with fail
  refine (toBlockS_any A2 n2 c2 l2 Hl2.out Hrow2.out (by omega) _ (RB_4.more (by omega))).mono ?_
  rintro e w5 ⟨rfl, bb3, hb5⟩
  have z5 := hb5.size
  have RA_5 := RA_4.below hb5 (by omega)
  have RB_5 := RB_4.below hb5 (by omega)
  have OW_5 := OW_4.below hb5 (by omega)
  have OX0_5 := OX0.below hb5 (by omega)
  have B5 := B4.trans (hb5.mono (by omega))
  clear RA_4 RB_4 OW_4 OX0 hb5 B4
  have OX1 := bb3.ownV (n := n2) (size := 18) (lo := w4.heap.size) (hi := w5.heap.size) HBL2.out (Nat.le_refl _) (by have := bb3.lt; omega) (by unfold maxLen; omega)
  clear bb3
  go_wp2_with fail
  refine (IP.out _ _ _ _ _ (OX0_5.rd.more (by omega)) (OX1.rd.more (by omega))).mono ?_
  rintro e w6 ⟨AG, cG, rfl, OG, hb6⟩
  have z6 := hb6.size
  have RA_6 := RA_5.below hb6 (by omega)
  have RB_6 := RB_5.below hb6 (by omega)
  have OW_6 := OW_5.below hb6 (by omega)
  have OX0_6 := OX0_5.below hb6 (by omega)
  have OX1_6 := OX1.below hb6 (by omega)
  have B6 := B5.trans (hb6.mono (by omega))
  clear RA_5 RB_5 OW_5 OX0_5 OX1 hb6 B5
  go_wp2_with fail
  refine (eqBlockS_same _ _ _ _ _ RES rfl HRL.out (by omega) _ (OG.rd.more (by omega)) (OW_6.rd.more (by omega))).mono ?_
  rintro e w7 ⟨rfl, hb7⟩
  have z7 := hb7.size
  have RA_7 := RA_6.below hb7 (by omega)
  have RB_7 := RB_6.below hb7 (by omega)
  have OW_7 := OW_6.below hb7 (by omega)
  have OX0_7 := OX0_6.below hb7 (by omega)
  have OX1_7 := OX1_6.below hb7 (by omega)
  have OG_7 := OG.below hb7 (by omega)
  have B7 := B6.trans (hb7.mono (by omega))
  clear RA_6 RB_6 OW_6 OX0_6 OX1_6 OG hb7 B6
  go_wp2_with fail
  refine (toBlockS_any A n c l Hl.out Hrow.out (by omega) _ (RA_7.more (by omega))).mono ?_
  rintro e w8 ⟨rfl, bb4, hb8⟩
  have z8 := hb8.size
  have RA_8 := RA_7.below hb8 (by omega)
  have RB_8 := RB_7.below hb8 (by omega)
  have OW_8 := OW_7.below hb8 (by omega)
  have OX0_8 := OX0_7.below hb8 (by omega)
  have OX1_8 := OX1_7.below hb8 (by omega)
  have OG_8 := OG_7.below hb8 (by omega)
  have B8 := B7.trans (hb8.mono (by omega))
  clear RA_7 RB_7 OW_7 OX0_7 OX1_7 OG_7 hb8 B7
  have OY0 := bb4.ownV (n := n) (size := 18) (lo := w7.heap.size) (hi := w8.heap.size) HBL.out (Nat.le_refl _) (by have := bb4.lt; omega) (by unfold maxLen; omega)
  clear bb4
  go_wp2_with fail
  refine (eqBlockS_same _ _ _ _ _ l Hl.out Hrow.out (by omega) _ (OX0_8.rd.more (by omega)) (OY0.rd.more (by omega))).mono ?_
  rintro e w9 ⟨rfl, hb9⟩
  have z9 := hb9.size
  have RA_9 := RA_8.below hb9 (by omega)
  have RB_9 := RB_8.below hb9 (by omega)
  have OW_9 := OW_8.below hb9 (by omega)
  have OX0_9 := OX0_8.below hb9 (by omega)
  have OX1_9 := OX1_8.below hb9 (by omega)
  have OG_9 := OG_8.below hb9 (by omega)
  have OY0_9 := OY0.below hb9 (by omega)
  have B9 := B8.trans (hb9.mono (by omega))
  clear RA_8 RB_8 OW_8 OX0_8 OX1_8 OG_8 OY0 hb9 B8
  go_wp2_with fail
  refine (toBlockS_any A2 n2 c2 l2 Hl2.out Hrow2.out (by omega) _ (RB_9.more (by omega))).mono ?_
  rintro e w10 ⟨rfl, bb5, hb10⟩
  have z10 := hb10.size
  have RA_10 := RA_9.below hb10 (by omega)
  have RB_10 := RB_9.below hb10 (by omega)
  have OW_10 := OW_9.below hb10 (by omega)
  have OX0_10 := OX0_9.below hb10 (by omega)
  have OX1_10 := OX1_9.below hb10 (by omega)
  have OG_10 := OG_9.below hb10 (by omega)
  have B10 := B9.trans (hb10.mono (by omega))
  clear RA_9 RB_9 OW_9 OX0_9 OX1_9 OG_9 hb10 B9
  have OY1 := bb5.ownV (n := n2) (size := 18) (lo := w9.heap.size) (hi := w10.heap.size) HBL2.out (Nat.le_refl _) (by have := bb5.lt; omega) (by unfold maxLen; omega)
  clear bb5
  go_wp2_with fail
  refine (eqBlockS_same _ _ _ _ _ l2 Hl2.out Hrow2.out (by omega) _ (OX1_10.rd.more (by omega)) (OY1.rd.more (by omega))).mono ?_
  rintro e w11 ⟨rfl, hb11⟩
  have z11 := hb11.size
  have RA_11 := RA_10.below hb11 (by omega)
  have RB_11 := RB_10.below hb11 (by omega)
  have OW_11 := OW_10.below hb11 (by omega)
  have OX0_11 := OX0_10.below hb11 (by omega)
  have OX1_11 := OX1_10.below hb11 (by omega)
  have OG_11 := OG_10.below hb11 (by omega)
  have OY1_11 := OY1.below hb11 (by omega)
  have B11 := B10.trans (hb11.mono (by omega))
  clear RA_10 RB_10 OW_10 OX0_10 OX1_10 OG_10 OY1 hb11 B10
  go_wp2_with fail
  refine (markBlockS_any _ _ _ _ _ _ (1) (by omega) (by omega) (by omega) _ OX0_11).mono ?_
  rintro e w12 ⟨rfl, _, hb12⟩
  have z12 := hb12.size
  have RA_12 := RA_11.grown hb12 (by omega) (fun g e => by have := OX0_11.blk g e; omega)
  have RB_12 := RB_11.grown hb12 (by omega) (fun g e => by have := OX0_11.blk g e; omega)
  have OW_12 := OW_11.grown hb12 (fun g e => by have := OX0_11.blk g e; omega)
  have OX1_12 := OX1_11.grown hb12 (fun g e => by have := OX0_11.blk g e; omega)
  have OG_12 := OG_11.grown hb12 (fun g e => by have := OX0_11.blk g e; omega)
  have B12 := B11.grown hb12 (by omega) (fun g e => by have := OX0_11.blk g e; omega)
  clear RA_11 RB_11 OW_11 OX0_11 OX1_11 OG_11 hb12 B11
  go_wp2_with fail
  refine (markBlockS_any _ _ _ _ _ _ (1 + ((n * 18 : Nat) : Int)) (by omega) (by omega) (by omega) _ OX1_12).mono ?_
  rintro e w13 ⟨rfl, _, hb13⟩
  have z13 := hb13.size
  have RA_13 := RA_12.grown hb13 (by omega) (fun g e => by have := OX1_12.blk g e; omega)
  have RB_13 := RB_12.grown hb13 (by omega) (fun g e => by have := OX1_12.blk g e; omega)
  have OW_13 := OW_12.grown hb13 (fun g e => by have := OX1_12.blk g e; omega)
  have OG_13 := OG_12.grown hb13 (fun g e => by have := OX1_12.blk g e; omega)
  have B13 := B12.grown hb13 (by omega) (fun g e => by have := OX1_12.blk g e; omega)
  clear RA_12 RB_12 OW_12 OX1_12 OG_12 hb13 B12
  go_wp2_with fail
  refine (eqBlockS_same _ _ _ _ _ RES rfl HRL.out (by omega) _ (OG_13.rd.more (by omega)) (OW_13.rd.more (by omega))).mono ?_
  rintro e w14 ⟨rfl, hb14⟩
  have z14 := hb14.size
  have RA_14 := RA_13.below hb14 (by omega)
  have RB_14 := RB_13.below hb14 (by omega)
  have OW_14 := OW_13.below hb14 (by omega)
  have OG_14 := OG_13.below hb14 (by omega)
  have B14 := B13.trans (hb14.mono (by omega))
  clear RA_13 RB_13 OW_13 OG_13 hb14 B13
  go_wp2_with fail
  refine (markBlockS_any _ _ _ _ _ _ 1 (by omega) (by omega) (by omega) _ OG_14).mono ?_
  rintro e w15 ⟨rfl, OM, hb15⟩
  have z15 := hb15.size
  have RA_15 := RA_14.grown hb15 (by omega) (fun g e => by have := OG_14.blk g e; omega)
  have RB_15 := RB_14.grown hb15 (by omega) (fun g e => by have := OG_14.blk g e; omega)
  have OW_15 := OW_14.grown hb15 (fun g e => by have := OG_14.blk g e; omega)
  have B15 := B14.grown hb15 (by omega) (fun g e => by have := OG_14.blk g e; omega)
  clear RA_14 RB_14 OW_14 OG_14 hb15 B14
  go_wp2_with fail
  refine (heldBlockS_any _ _ _ 1 (by omega) (by omega) (by omega) _ (OM.rd.more (by omega))).mono ?_
  rintro e wx ⟨rfl, rfl⟩
  go_wp2_with fail
  refine (toBlockS_any A n c l Hl.out Hrow.out (by omega) _ (RA_15.more (by omega))).mono ?_
  rintro e w16 ⟨rfl, bb6, hb16⟩
  have z16 := hb16.size
  have RA_16 := RA_15.below hb16 (by omega)
  have RB_16 := RB_15.below hb16 (by omega)
  have OW_16 := OW_15.below hb16 (by omega)
  have OM_16 := OM.below hb16 (by omega)
  have B16 := B15.trans (hb16.mono (by omega))
  clear RA_15 RB_15 OW_15 OM hb16 B15
  have OZ0 := bb6.ownV (n := n) (size := 18) (lo := w15.heap.size) (hi := w16.heap.size) HBL.out (Nat.le_refl _) (by have := bb6.lt; omega) (by unfold maxLen; omega)
  clear bb6
  go_wp2_with fail
  refine (toBlockS_any A2 n2 c2 l2 Hl2.out Hrow2.out (by omega) _ (RB_16.more (by omega))).mono ?_
  rintro e w17 ⟨rfl, bb7, hb17⟩
  have z17 := hb17.size
  have RA_17 := RA_16.below hb17 (by omega)
  have RB_17 := RB_16.below hb17 (by omega)
  have OW_17 := OW_16.below hb17 (by omega)
  have OM_17 := OM_16.below hb17 (by omega)
  have OZ0_17 := OZ0.below hb17 (by omega)
  have B17 := B16.trans (hb17.mono (by omega))
  clear RA_16 RB_16 OW_16 OM_16 OZ0 hb17 B16
  have OZ1 := bb7.ownV (n := n2) (size := 18) (lo := w16.heap.size) (hi := w17.heap.size) HBL2.out (Nat.le_refl _) (by have := bb7.lt; omega) (by unfold maxLen; omega)
  clear bb7
  go_wp2_with fail
  refine (IP.out _ _ _ _ _ (OZ0_17.rd.more (by omega)) (OZ1.rd.more (by omega))).mono ?_
  rintro e w18 ⟨AH, cH, rfl, OH, hb18⟩
  have z18 := hb18.size
  have RA_18 := RA_17.below hb18 (by omega)
  have RB_18 := RB_17.below hb18 (by omega)
  have OW_18 := OW_17.below hb18 (by omega)
  have OM_18 := OM_17.below hb18 (by omega)
  have OZ0_18 := OZ0_17.below hb18 (by omega)
  have OZ1_18 := OZ1.below hb18 (by omega)
  have B18 := B17.trans (hb18.mono (by omega))
  clear RA_17 RB_17 OW_17 OM_17 OZ0_17 OZ1 hb18 B17
  go_wp2_with fail
  refine (eqBlockS_same _ _ _ _ _ RES rfl HRL.out (by omega) _ (OH.rd.more (by omega)) (OW_18.rd.more (by omega))).mono ?_
  rintro e w19 ⟨rfl, hb19⟩
  have z19 := hb19.size
  have RA_19 := RA_18.below hb19 (by omega)
  have RB_19 := RB_18.below hb19 (by omega)
  have OW_19 := OW_18.below hb19 (by omega)
  have OM_19 := OM_18.below hb19 (by omega)
  have OH_19 := OH.below hb19 (by omega)
  have B19 := B18.trans (hb19.mono (by omega))
  clear RA_18 RB_18 OW_18 OM_18 OH hb19 B18
  go_wp2_with fail
  refine (heldBlockS_any _ _ _ 1 (by omega) (by omega) (by omega) _ (OM_19.rd.more (by omega))).mono ?_
  rintro e wx ⟨rfl, rfl⟩
  go_wp2
  go_ret
  exact ⟨rfl, B19⟩

set_option maxRecDepth 100000 in
set_option maxHeartbeats 400000 in
theorem lawMinusPictures_any (A : Option Addr) (n c : Nat) (l : List Bl) (hl : l.length = n) (hrow : Bls l) (h16 : ∀ b ∈ l, is16 b.2) (h32 : ∀ b ∈ l, ∀ x ∈ b.1, -2147483648 ≤ x ∧ x ≤ 2147483647) (A2 : Option Addr) (n2 c2 : Nat) (l2 : List Bl) (hl2 : l2.length = n2) (hrow2 : Bls l2) (h162 : ∀ b ∈ l2, is16 b.2) (h322 : ∀ b ∈ l2, ∀ x ∈ b.1, -2147483648 ≤ x ∧ x ≤ 2147483647) (hs : n ≤ 9223372036854775807) (hs2 : n2 ≤ 9223372036854775807) (w : World) (hR : Rd w w.heap.size 18 A n (bcs l)) (hR2 : Rd w w.heap.size 18 A2 n2 (bcs l2)) :
    Calls Try.prog 11 #[.slice A n c, .slice A2 n2 c2] w fun e w' => e = .returned (.bool true) ∧ Below w.heap.size w w' := by
  by_cases h : n + n2 ≤ 1048576
  · exact lawMinusPictures_in A n c l hl hrow h16 h32 A2 n2 c2 l2 hl2 hrow2 h162 h322 h w hR hR2
  · clear hl hrow h16 h32 hl2 hrow2 h162 h322 hR hR2
    by_cases h1 : n ≤ 1048576
    · go_enter Try.func11, Try.ntmps11
      go_wp2_with fail
      refine (szBlockS_in A n c 1048576 (by omega) (by omega) _).mono ?_
      rintro e wx ⟨rfl, rfl⟩
      go_wp2_with fail
      refine (szBlockS_out A2 n2 c2 (1048576 - n) (by omega) (by omega) (by omega) (by omega) _).mono ?_
      rintro e wx ⟨rfl, rfl⟩
      go_wp2
      go_ret
      exact ⟨rfl, Below.refl _ _⟩
    · go_enter Try.func11, Try.ntmps11
      go_wp2_with fail
      refine (szBlockS_out A n c 1048576 (by omega) (by omega) (by omega) (by omega) _).mono ?_
      rintro e wx ⟨rfl, rfl⟩
      go_wp2
      go_ret
      exact ⟨rfl, Below.refl _ _⟩
end Go.Proofs.Ythicgmdkipgkaaa
