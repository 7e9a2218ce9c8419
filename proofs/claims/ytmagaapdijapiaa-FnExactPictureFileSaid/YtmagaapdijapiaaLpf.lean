/- The law FnExactPictureFile, walked. -/
import Derived.Test.YtmagaapdijapiaaRows
import Derived.Test.YtmagaapdijapiaaYi
import Derived.Test.YtmagaapdijapiaaYj
import Derived.Test.YtmagaapdijapiaaSn
import Derived.Test.YtmagaapdijapiaaSf
namespace Go.Proofs.Ytmagaapdijapiaa
open Go.ChangeShapes Go.WideShapes Go.ChangeAt Go.RowKit

set_option maxRecDepth 100000 in
set_option maxHeartbeats 1600000 in
theorem lawPictureFile_in (A : Option Addr) (n c : Nat) (l : List Bl) (hl : l.length = n) (hrow : Bls l) (h16 : ∀ b ∈ l, is16 b.2) (h32 : ∀ b ∈ l, ∀ x ∈ b.1, -2147483648 ≤ x ∧ x ≤ 2147483647) (hn : n ≤ 1048576) (w : World) (RA : Rd w w.heap.size 18 A n (bcs l)) :
    Calls Try.prog 3 #[.slice A n c] w fun e w' => e = .returned (.bool true) ∧ Below w.heap.size w w' := by
  have hbl : (bcs l).length = n * 18 := by rw [bcs_length hrow, hl]
  have HBL := Lib.hid hbl
  have Hrow := Lib.hid hrow
  have Hl := Lib.hid hl
  have SP := Lib.hid (fun A c W (hW : Rd W W.heap.size 18 A n (bcs l)) => sPictureFile_any A n c l hl hrow h16 h32 (by omega) W hW)
  have IP := Lib.hid (fun A c W (hW : Rd W W.heap.size 18 A n (bcs l)) => iPictureFile_any A n c l hl hrow h16 h32 (by omega) W hW)
  have HRL := Lib.hid (pfF_rows l)
  have hLL := pfF_length l
  clear hl hrow hbl h16 h32
  generalize pfF l = RES at *
  generalize pfC l = code at *
  have B0 : Below w.heap.size w w := Below.refl _ _
  go_enter Try.func3, Try.ntmps3
  go_wp2_with fail
  refine (szBlockS_in A n c (1048576) (by omega) (by omega) _).mono ?_
  rintro e wx ⟨rfl, rfl⟩
  go_wp2_with fail
  refine (toBlockS_any A n c l Hl.out Hrow.out (by omega) _ (RA.more (by omega))).mono ?_
  rintro e w1 ⟨rfl, bb0, hb1⟩
  have z1 := hb1.size
  have RA_1 := RA.below hb1 (by omega)
  have B1 := B0.trans (hb1.mono (by omega))
  clear RA hb1 B0
  have OT0 := bb0.ownV (n := n) (size := 18) (lo := w.heap.size) (hi := w1.heap.size) HBL.out (Nat.le_refl _) (by have := bb0.lt; omega) (by unfold maxLen; omega)
  clear bb0
  go_wp2_with fail
  refine (SP.out _ _ _ (OT0.rd.more (by omega))).mono ?_
  rintro e w2 ⟨AW, cW, rfl, OW, hb2⟩
  have z2 := hb2.size
  have RA_2 := RA_1.below hb2 (by omega)
  have OT0_2 := OT0.below hb2 (by omega)
  have B2 := B1.trans (hb2.mono (by omega))
  clear RA_1 OT0 hb2 B1
  go_wp2_with fail
  refine (toBlockS_any A n c l Hl.out Hrow.out (by omega) _ (RA_2.more (by omega))).mono ?_
  rintro e w3 ⟨rfl, bb1, hb3⟩
  have z3 := hb3.size
  have RA_3 := RA_2.below hb3 (by omega)
  have OW_3 := OW.below hb3 (by omega)
  have B3 := B2.trans (hb3.mono (by omega))
  clear RA_2 OW hb3 B2
  have OX0 := bb1.ownV (n := n) (size := 18) (lo := w2.heap.size) (hi := w3.heap.size) HBL.out (Nat.le_refl _) (by have := bb1.lt; omega) (by unfold maxLen; omega)
  clear bb1
  go_wp2_with fail
  refine (IP.out _ _ _ (OX0.rd.more (by omega))).mono ?_
  rintro e w4 ⟨AG, cG, rfl, OG, hb4⟩
  have z4 := hb4.size
  have RA_4 := RA_3.below hb4 (by omega)
  have OW_4 := OW_3.below hb4 (by omega)
  have OX0_4 := OX0.below hb4 (by omega)
  have B4 := B3.trans (hb4.mono (by omega))
  clear RA_3 OW_3 OX0 hb4 B3
  go_wp2_with fail
  refine (eqFrameS_same _ _ _ _ _ RES rfl HRL.out (by omega) _ (OG.rd.more (by omega)) (OW_4.rd.more (by omega))).mono ?_
  rintro e w5 ⟨rfl, hb5⟩
  have z5 := hb5.size
  have RA_5 := RA_4.below hb5 (by omega)
  have OW_5 := OW_4.below hb5 (by omega)
  have OX0_5 := OX0_4.below hb5 (by omega)
  have OG_5 := OG.below hb5 (by omega)
  have B5 := B4.trans (hb5.mono (by omega))
  clear RA_4 OW_4 OX0_4 OG hb5 B4
  go_wp2_with fail
  refine (toBlockS_any A n c l Hl.out Hrow.out (by omega) _ (RA_5.more (by omega))).mono ?_
  rintro e w6 ⟨rfl, bb2, hb6⟩
  have z6 := hb6.size
  have RA_6 := RA_5.below hb6 (by omega)
  have OW_6 := OW_5.below hb6 (by omega)
  have OX0_6 := OX0_5.below hb6 (by omega)
  have OG_6 := OG_5.below hb6 (by omega)
  have B6 := B5.trans (hb6.mono (by omega))
  clear RA_5 OW_5 OX0_5 OG_5 hb6 B5
  have OY0 := bb2.ownV (n := n) (size := 18) (lo := w5.heap.size) (hi := w6.heap.size) HBL.out (Nat.le_refl _) (by have := bb2.lt; omega) (by unfold maxLen; omega)
  clear bb2
  go_wp2_with fail
  refine (eqBlockS_same _ _ _ _ _ l Hl.out Hrow.out (by omega) _ (OX0_6.rd.more (by omega)) (OY0.rd.more (by omega))).mono ?_
  rintro e w7 ⟨rfl, hb7⟩
  have z7 := hb7.size
  have RA_7 := RA_6.below hb7 (by omega)
  have OW_7 := OW_6.below hb7 (by omega)
  have OX0_7 := OX0_6.below hb7 (by omega)
  have OG_7 := OG_6.below hb7 (by omega)
  have OY0_7 := OY0.below hb7 (by omega)
  have B7 := B6.trans (hb7.mono (by omega))
  clear RA_6 OW_6 OX0_6 OG_6 OY0 hb7 B6
  go_wp2_with fail
  refine (markBlockS_any _ _ _ _ _ _ (1) (by omega) (by omega) (by omega) _ OX0_7).mono ?_
  rintro e w8 ⟨rfl, _, hb8⟩
  have z8 := hb8.size
  have RA_8 := RA_7.grown hb8 (by omega) (fun g e => by have := OX0_7.blk g e; omega)
  have OW_8 := OW_7.grown hb8 (fun g e => by have := OX0_7.blk g e; omega)
  have OG_8 := OG_7.grown hb8 (fun g e => by have := OX0_7.blk g e; omega)
  have B8 := B7.grown hb8 (by omega) (fun g e => by have := OX0_7.blk g e; omega)
  clear RA_7 OW_7 OX0_7 OG_7 hb8 B7
  go_wp2_with fail
  refine (eqFrameS_same _ _ _ _ _ RES rfl HRL.out (by omega) _ (OG_8.rd.more (by omega)) (OW_8.rd.more (by omega))).mono ?_
  rintro e w9 ⟨rfl, hb9⟩
  have z9 := hb9.size
  have RA_9 := RA_8.below hb9 (by omega)
  have OW_9 := OW_8.below hb9 (by omega)
  have OG_9 := OG_8.below hb9 (by omega)
  have B9 := B8.trans (hb9.mono (by omega))
  clear RA_8 OW_8 OG_8 hb9 B8
  go_wp2_with fail
  refine (markFrameS_any _ _ _ _ _ _ 1 (by omega) (by omega) (by omega) _ OG_9).mono ?_
  rintro e w10 ⟨rfl, OM, hb10⟩
  have z10 := hb10.size
  have RA_10 := RA_9.grown hb10 (by omega) (fun g e => by have := OG_9.blk g e; omega)
  have OW_10 := OW_9.grown hb10 (fun g e => by have := OG_9.blk g e; omega)
  have B10 := B9.grown hb10 (by omega) (fun g e => by have := OG_9.blk g e; omega)
  clear RA_9 OW_9 OG_9 hb10 B9
  go_wp2_with fail
  refine (heldFrameS_any _ _ _ 1 (by omega) (by omega) (by omega) _ (OM.rd.more (by omega))).mono ?_
  rintro e wx ⟨rfl, rfl⟩
  go_wp2_with fail
  refine (toBlockS_any A n c l Hl.out Hrow.out (by omega) _ (RA_10.more (by omega))).mono ?_
  rintro e w11 ⟨rfl, bb3, hb11⟩
  have z11 := hb11.size
  have RA_11 := RA_10.below hb11 (by omega)
  have OW_11 := OW_10.below hb11 (by omega)
  have OM_11 := OM.below hb11 (by omega)
  have B11 := B10.trans (hb11.mono (by omega))
  clear RA_10 OW_10 OM hb11 B10
  have OZ0 := bb3.ownV (n := n) (size := 18) (lo := w10.heap.size) (hi := w11.heap.size) HBL.out (Nat.le_refl _) (by have := bb3.lt; omega) (by unfold maxLen; omega)
  clear bb3
  go_wp2_with fail
  refine (IP.out _ _ _ (OZ0.rd.more (by omega))).mono ?_
  rintro e w12 ⟨AH, cH, rfl, OH, hb12⟩
  have z12 := hb12.size
  have RA_12 := RA_11.below hb12 (by omega)
  have OW_12 := OW_11.below hb12 (by omega)
  have OM_12 := OM_11.below hb12 (by omega)
  have OZ0_12 := OZ0.below hb12 (by omega)
  have B12 := B11.trans (hb12.mono (by omega))
  clear RA_11 OW_11 OM_11 OZ0 hb12 B11
  go_wp2_with fail
  refine (eqFrameS_same _ _ _ _ _ RES rfl HRL.out (by omega) _ (OH.rd.more (by omega)) (OW_12.rd.more (by omega))).mono ?_
  rintro e w13 ⟨rfl, hb13⟩
  have z13 := hb13.size
  have RA_13 := RA_12.below hb13 (by omega)
  have OW_13 := OW_12.below hb13 (by omega)
  have OM_13 := OM_12.below hb13 (by omega)
  have OH_13 := OH.below hb13 (by omega)
  have B13 := B12.trans (hb13.mono (by omega))
  clear RA_12 OW_12 OM_12 OH hb13 B12
  go_wp2_with fail
  refine (heldFrameS_any _ _ _ 1 (by omega) (by omega) (by omega) _ (OM_13.rd.more (by omega))).mono ?_
  rintro e wx ⟨rfl, rfl⟩
  go_wp2
  go_ret
  exact ⟨rfl, B13⟩

set_option maxRecDepth 100000 in
set_option maxHeartbeats 400000 in
theorem lawPictureFile_any (A : Option Addr) (n c : Nat) (l : List Bl) (hl : l.length = n) (hrow : Bls l) (h16 : ∀ b ∈ l, is16 b.2) (h32 : ∀ b ∈ l, ∀ x ∈ b.1, -2147483648 ≤ x ∧ x ≤ 2147483647) (hs : n ≤ 9223372036854775807) (w : World) (hR : Rd w w.heap.size 18 A n (bcs l)) :
    Calls Try.prog 3 #[.slice A n c] w fun e w' => e = .returned (.bool true) ∧ Below w.heap.size w w' := by
  by_cases h : n ≤ 1048576
  · exact lawPictureFile_in A n c l hl hrow h16 h32 h w hR
  · clear hl hrow h16 h32 hR
    go_enter Try.func3, Try.ntmps3
    go_wp2_with fail
    refine (szBlockS_out A n c 1048576 (by omega) (by omega) (by omega) (by omega) _).mono ?_
    rintro e wx ⟨rfl, rfl⟩
    go_wp2
    go_ret
    exact ⟨rfl, Below.refl _ _⟩
end Go.Proofs.Ytmagaapdijapiaa
