/- The law FnExactWordFile, walked. -/
import Derived.Test.YtigjdcfdgifonaaRows
import Derived.Test.YtigjdcfdgifonaaSf
import Derived.Test.YtigjdcfdgifonaaSt
import Derived.Test.YtigjdcfdgifonaaWg
import Derived.Test.YtigjdcfdgifonaaWh
namespace Go.Proofs.Ytigjdcfdgifonaa
open Go.ChangeShapes Go.WideShapes Go.ChangeAt Go.RowKit
theorem wfF_length (l : List ByteArray) : (wfF l).length ≤ 700 := by
  unfold wfF
  split
  · rename_i h
    rw [packOf, packTo_length, packMany, wData_length]
    omega
  · simp
theorem markStringS_one (lo hi : Nat) (A : Option Addr) (n c : Nat) (xs : List Value) (h1 : n ≤ 1048576) (w : World) (hhi : hi ≤ w.heap.size) (hO : Own w lo hi 9 1 A n c xs) :
    Calls Try.prog 20 #[.slice A n c, .int .i64 1] w fun e w' => e = .returned (.int .i64 (1 + (n : Int))) ∧ Own w' lo hi 9 1 A n c (marksT 1 n) ∧ w.grownBy w' (A.map (·.block)) := by
  refine (markStringS_any lo hi A n c xs 1 (by omega) (by omega) w hhi hO).mono ?_
  rintro e w' ⟨rfl, h2, h3⟩
  exact ⟨by rw [show ((1 + n : Nat) : Int) = 1 + (n : Int) by omega], h2, h3⟩

set_option maxRecDepth 100000 in
set_option maxHeartbeats 1600000 in
theorem lawWordFile_any (A : Option Addr) (n c : Nat) (l : List ByteArray) (hl : l.length = n) (hbig : ∀ s ∈ l, s.size ≤ maxLen) (hnc : n ≤ c) (hc63 : c ≤ 9223372036854775807) (w : World) (RA : Rd w w.heap.size 1 A n (strs l)) :
    Calls Try.prog 6 #[.slice A n c] w fun e w' => e = .returned (.bool true) ∧ Below w.heap.size w w' := by
  have Hl := Lib.hid hl
  have HBG := Lib.hid hbig
  clear hl hbig
  have hm := wfF_length l
  have HRO := Lib.hid (wfF_rows l)
  have B0 : Below w.heap.size w w := Below.refl _ _
  go_enter Try.func6, Try.ntmps6
  go_wp2_with fail
  refine (szStringS_any A n c l Hl.out HBG.out hnc hc63 _ RA).mono ?_
  rintro e wx ⟨r, rfl, rfl, hr⟩
  rcases hr with hr | ⟨hr0, hn, hz⟩
  · go_wp2
    go_ret
    exact ⟨rfl, B0⟩
  have hr1 : ¬ r < 0 := by omega
  have HZ := Lib.hid hz
  clear hz
  go_wp2_with fail
  refine (toStringS_any A n c l Hl.out hn _ (RA.more (by omega))).mono ?_
  rintro e w1 ⟨rfl, OT, hb1⟩
  have z1 := hb1.size
  have RA_1 := RA.below hb1 (by omega)
  have B1 := B0.trans (hb1.mono (by omega))
  clear RA hb1 B0
  go_wp2_with fail
  refine (sWordFile_any _ n n l Hl.out hn HZ.out _ (OT.rd.more (by omega))).mono ?_
  rintro e w2 ⟨AW, cW, rfl, OW, hb2⟩
  have z2 := hb2.size
  have RA_2 := RA_1.below hb2 (by omega)
  have OT_2 := OT.below hb2 (by omega)
  have B2 := B1.trans (hb2.mono (by omega))
  clear RA_1 OT hb2 B1
  go_wp2_with fail
  refine (toStringS_any A n c l Hl.out hn _ (RA_2.more (by omega))).mono ?_
  rintro e w3 ⟨rfl, OX, hb3⟩
  have z3 := hb3.size
  have RA_3 := RA_2.below hb3 (by omega)
  have OT_3 := OT_2.below hb3 (by omega)
  have OW_3 := OW.below hb3 (by omega)
  have B3 := B2.trans (hb3.mono (by omega))
  clear RA_2 OT_2 OW hb3 B2
  go_wp2_with fail
  refine (iWordFile_any _ n n l Hl.out hn HZ.out _ (OX.rd.more (by omega))).mono ?_
  rintro e w4 ⟨AG, cG, rfl, OG, hb4⟩
  have z4 := hb4.size
  have RA_4 := RA_3.below hb4 (by omega)
  have OT_4 := OT_3.below hb4 (by omega)
  have OW_4 := OW_3.below hb4 (by omega)
  have OX_4 := OX.below hb4 (by omega)
  have B4 := B3.trans (hb4.mono (by omega))
  clear RA_3 OT_3 OW_3 OX hb4 B3
  go_wp2_with fail
  refine (eqFrameS_same _ _ _ _ _ (wfF l) rfl HRO.out (by omega) _ (OG.rd.more (by omega)) (OW_4.rd.more (by omega))).mono ?_
  rintro e w5 ⟨rfl, hb5⟩
  have z5 := hb5.size
  have RA_5 := RA_4.below hb5 (by omega)
  have OT_5 := OT_4.below hb5 (by omega)
  have OW_5 := OW_4.below hb5 (by omega)
  have OX_5 := OX_4.below hb5 (by omega)
  have OG_5 := OG.below hb5 (by omega)
  have B5 := B4.trans (hb5.mono (by omega))
  clear RA_4 OT_4 OW_4 OX_4 OG hb5 B4
  go_wp2_with fail
  refine (toStringS_any A n c l Hl.out hn _ (RA_5.more (by omega))).mono ?_
  rintro e w6 ⟨rfl, OY, hb6⟩
  have z6 := hb6.size
  have RA_6 := RA_5.below hb6 (by omega)
  have OT_6 := OT_5.below hb6 (by omega)
  have OW_6 := OW_5.below hb6 (by omega)
  have OX_6 := OX_5.below hb6 (by omega)
  have OG_6 := OG_5.below hb6 (by omega)
  have B6 := B5.trans (hb6.mono (by omega))
  clear RA_5 OT_5 OW_5 OX_5 OG_5 hb6 B5
  go_wp2_with fail
  refine (eqStringS_same _ _ _ _ _ l Hl.out (by omega) _ (OX_6.rd.more (by omega)) (OY.rd.more (by omega))).mono ?_
  rintro e w7 ⟨rfl, hb7⟩
  have z7 := hb7.size
  have RA_7 := RA_6.below hb7 (by omega)
  have OT_7 := OT_6.below hb7 (by omega)
  have OW_7 := OW_6.below hb7 (by omega)
  have OX_7 := OX_6.below hb7 (by omega)
  have OG_7 := OG_6.below hb7 (by omega)
  have OY_7 := OY.below hb7 (by omega)
  have B7 := B6.trans (hb7.mono (by omega))
  clear RA_6 OT_6 OW_6 OX_6 OG_6 OY hb7 B6
  go_wp2_with fail
  refine (markStringS_one _ _ _ _ _ _ (by omega) _ (by omega) OX_7).mono ?_
  rintro e w8 ⟨rfl, _, hb8⟩
  have z8 := hb8.size
  have RA_8 := RA_7.grown hb8 (by omega) (fun g e => by have := OX_7.blk g e; omega)
  have OT_8 := OT_7.grown hb8 (fun g e => by have := OX_7.blk g e; omega)
  have OW_8 := OW_7.grown hb8 (fun g e => by have := OX_7.blk g e; omega)
  have OG_8 := OG_7.grown hb8 (fun g e => by have := OX_7.blk g e; omega)
  have B8 := B7.grown hb8 (by omega) (fun g e => by have := OX_7.blk g e; omega)
  clear RA_7 OT_7 OW_7 OX_7 OG_7 hb8 B7
  go_wp2_with fail
  refine (eqFrameS_same _ _ _ _ _ (wfF l) rfl HRO.out (by omega) _ (OG_8.rd.more (by omega)) (OW_8.rd.more (by omega))).mono ?_
  rintro e w9 ⟨rfl, hb9⟩
  have z9 := hb9.size
  have RA_9 := RA_8.below hb9 (by omega)
  have OT_9 := OT_8.below hb9 (by omega)
  have OW_9 := OW_8.below hb9 (by omega)
  have OG_9 := OG_8.below hb9 (by omega)
  have B9 := B8.trans (hb9.mono (by omega))
  clear RA_8 OT_8 OW_8 OG_8 hb9 B8
  go_wp2_with fail
  refine (markFrameS_any _ _ _ _ _ _ 1 (by omega) (by omega) (by omega) _ OG_9).mono ?_
  rintro e w10 ⟨rfl, OM, hb10⟩
  have z10 := hb10.size
  have RA_10 := RA_9.grown hb10 (by omega) (fun g e => by have := OG_9.blk g e; omega)
  have OT_10 := OT_9.grown hb10 (fun g e => by have := OG_9.blk g e; omega)
  have OW_10 := OW_9.grown hb10 (fun g e => by have := OG_9.blk g e; omega)
  have B10 := B9.grown hb10 (by omega) (fun g e => by have := OG_9.blk g e; omega)
  clear RA_9 OT_9 OW_9 OG_9 hb10 B9
  go_wp2_with fail
  refine (heldFrameS_any _ _ _ 1 (by omega) (by omega) (by omega) _ (OM.rd.more (by omega))).mono ?_
  rintro e wx ⟨rfl, rfl⟩
  go_wp2_with fail
  refine (toStringS_any A n c l Hl.out hn _ (RA_10.more (by omega))).mono ?_
  rintro e w11 ⟨rfl, OZ, hb11⟩
  have z11 := hb11.size
  have RA_11 := RA_10.below hb11 (by omega)
  have OT_11 := OT_10.below hb11 (by omega)
  have OW_11 := OW_10.below hb11 (by omega)
  have OM_11 := OM.below hb11 (by omega)
  have B11 := B10.trans (hb11.mono (by omega))
  clear RA_10 OT_10 OW_10 OM hb11 B10
  go_wp2_with fail
  refine (iWordFile_any _ n n l Hl.out hn HZ.out _ (OZ.rd.more (by omega))).mono ?_
  rintro e w12 ⟨AH, cH, rfl, OH, hb12⟩
  have z12 := hb12.size
  have RA_12 := RA_11.below hb12 (by omega)
  have OT_12 := OT_11.below hb12 (by omega)
  have OW_12 := OW_11.below hb12 (by omega)
  have OM_12 := OM_11.below hb12 (by omega)
  have OZ_12 := OZ.below hb12 (by omega)
  have B12 := B11.trans (hb12.mono (by omega))
  clear RA_11 OT_11 OW_11 OM_11 OZ hb12 B11
  go_wp2_with fail
  refine (eqFrameS_same _ _ _ _ _ (wfF l) rfl HRO.out (by omega) _ (OH.rd.more (by omega)) (OW_12.rd.more (by omega))).mono ?_
  rintro e w13 ⟨rfl, hb13⟩
  have z13 := hb13.size
  have RA_13 := RA_12.below hb13 (by omega)
  have OT_13 := OT_12.below hb13 (by omega)
  have OW_13 := OW_12.below hb13 (by omega)
  have OM_13 := OM_12.below hb13 (by omega)
  have OZ_13 := OZ_12.below hb13 (by omega)
  have OH_13 := OH.below hb13 (by omega)
  have B13 := B12.trans (hb13.mono (by omega))
  clear RA_12 OT_12 OW_12 OM_12 OZ_12 OH hb13 B12
  go_wp2_with fail
  refine (heldFrameS_any _ _ _ 1 (by omega) (by omega) (by omega) _ (OM_13.rd.more (by omega))).mono ?_
  rintro e wx ⟨rfl, rfl⟩
  go_wp2
  go_ret
  exact ⟨rfl, B13⟩
end Go.Proofs.Ytigjdcfdgifonaa
