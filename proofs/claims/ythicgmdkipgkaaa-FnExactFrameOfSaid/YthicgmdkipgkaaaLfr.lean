/- The law FnExactFrameOf, walked. -/
import Derived.Test.YthicgmdkipgkaaaRows
import Derived.Test.YthicgmdkipgkaaaFi
import Derived.Test.YthicgmdkipgkaaaSn
namespace Go.Proofs.Ythicgmdkipgkaaa
open Go.ChangeShapes Go.WideShapes Go.ChangeAt Go.RowKit
section
attribute [local go_sem ↓] exec_ldCorner
attribute [local go_sem] run_ldCorner

set_option maxRecDepth 100000 in
set_option maxHeartbeats 1600000 in
theorem lawFrameOf_in (A : Option Addr) (n c : Nat) (l : List Bl) (hl : l.length = n) (hrow : Bls l) (h16 : ∀ b ∈ l, is16 b.2) (h32 : ∀ b ∈ l, ∀ x ∈ b.1, -2147483648 ≤ x ∧ x ≤ 2147483647) (hn : n ≤ 1048576) (w : World) (RA : Rd w w.heap.size 18 A n (bcs l)) :
    Calls Try.prog 7 #[.slice A n c] w fun e w' => e = .returned (.bool true) ∧ Below w.heap.size w w' := by
  have hbl : (bcs l).length = n * 18 := by rw [bcs_length hrow, hl]
  have HBL := Lib.hid hbl
  have Hrow := Lib.hid hrow
  have Hl := Lib.hid hl
  have SP := Lib.hid (fun A c W (hW : Rd W W.heap.size 18 A n (bcs l)) => sFrameOf_any A n c l hl hrow h16 h32 hn W hW)
  have IP := Lib.hid (fun A c W (hW : Rd W W.heap.size 18 A n (bcs l)) => iFrameOf_any A n c l hl hrow h16 h32 hn W hW)
  obtain ⟨x1, y1, e1⟩ : ∃ x1 y1, frmL l = [x1, y1] := ⟨_, _, two_of (frmL_length l)⟩
  obtain ⟨x2, y2, e2⟩ : ∃ x2 y2, frmH l = [x2, y2] := ⟨_, _, two_of (frmH_length l)⟩
  rw [e1, e2] at SP IP
  clear hl hrow hbl h16 h32 e1 e2
  generalize frmK l = q2 at *
  have B0 : Below w.heap.size w w := Below.refl _ _
  go_enter Try.func7, Try.ntmps7
  go_wp2_with fail
  refine (szBlockS_in A n c 1048576 (by omega) (by omega) _).mono ?_
  rintro e wx ⟨rfl, rfl⟩
  go_wp2_with fail
  refine (toBlockS_any A n c l Hl.out Hrow.out hn _ (RA.more (by omega))).mono ?_
  rintro e w1 ⟨rfl, b1, hb1⟩
  have z1 := hb1.size
  have RA_1 := RA.below hb1 (by omega)
  have B1 := B0.trans (hb1.mono (by omega))
  clear RA hb1 B0
  have OT := b1.ownV (n := n) (size := 18) (lo := w.heap.size) (hi := w1.heap.size) HBL.out (Nat.le_refl _) (by have := b1.lt; omega) (by unfold maxLen; omega)
  clear b1
  go_wp2_with fail
  refine (SP.out _ _ _ (OT.rd.more (by omega))).mono ?_
  rintro e w2 ⟨rfl, hb2⟩
  have z2 := hb2.size
  have RA_2 := RA_1.below hb2 (by omega)
  have OT_2 := OT.below hb2 (by omega)
  have B2 := B1.trans (hb2.mono (by omega))
  clear RA_1 OT hb2 B1
  go_wp2_with (first
    | (refine wpList_store_row rfl _ _ _ rfl w2.heap.size (ivs .i32 [x1, y1]) rfl rfl 43 #[.int .i32 0, .int .i32 0] ((Blk.newAt rfl rfl).alloc _) (by exact size43) rfl ivs_one ?_)
    | (refine wpList_store_row rfl _ _ _ rfl (w2.heap.size + 1) (ivs .i32 [x2, y2]) rfl rfl 43 #[.int .i32 0, .int .i32 0] ((Blk.newAt (by simp) rfl).rowFar (by omega) _) (by exact size43) rfl ivs_one ?_; generalize hw3 : World.setRow (World.setRow _ _ _) _ _ = w3; have P1 : Blk w3 w2.heap.size 43 (ivs .i32 [x1, y1]) := (by rw [← hw3]; exact (((Blk.newAt rfl rfl).alloc _).row _).rowFar (by omega) _); have P2 : Blk w3 (w2.heap.size + 1) 43 (ivs .i32 [x2, y2]) := (by rw [← hw3]; exact ((Blk.newAt (by simp) rfl).rowFar (by omega) _).row _); have hb3 : Below w2.heap.size w2 w3 := (by rw [← hw3]; exact below_setRow (below_setRow (((Below.refl _ _).alloc (Nat.le_refl _) _).alloc (by simp) _) (Nat.le_refl _) _) (Nat.le_succ _) _); have sz3 : w2.heap.size + 2 ≤ w3.heap.size := (by rw [← hw3]; simp); clear hw3))
  have z3 := hb3.size
  have RA_3 := RA_2.below hb3 (by omega)
  have B3 := B2.trans (hb3.mono (by omega))
  clear RA_2 hb3 B2
  refine (toBlockS_any A n c l Hl.out Hrow.out hn _ (RA_3.more (by omega))).mono ?_
  rintro e w4 ⟨rfl, b3, hb4⟩
  have z4 := hb4.size
  have RA_4 := RA_3.below hb4 (by omega)
  have P1_4 := P1.below hb4 (by omega)
  have P2_4 := P2.below hb4 (by omega)
  have B4 := B3.trans (hb4.mono (by omega))
  clear RA_3 P1 P2 hb4 B3
  have OX := b3.ownV (n := n) (size := 18) (lo := w3.heap.size) (hi := w4.heap.size) HBL.out (Nat.le_refl _) (by have := b3.lt; omega) (by unfold maxLen; omega)
  clear b3
  go_wp2_with fail
  refine (IP.out _ _ _ (OX.rd.more (by omega))).mono ?_
  rintro e w5 ⟨rfl, hb5⟩
  have z5 := hb5.size
  have RA_5 := RA_4.below hb5 (by omega)
  have P1_5 := P1_4.below hb5 (by omega)
  have P2_5 := P2_4.below hb5 (by omega)
  have OX_5 := OX.below hb5 (by omega)
  have B5 := B4.trans (hb5.mono (by omega))
  clear RA_4 P1_4 P2_4 OX hb5 B4
  go_wp2_with (first
    | (refine wpList_store_row rfl _ _ _ rfl w5.heap.size (ivs .i32 [x1, y1]) rfl rfl 43 #[.int .i32 0, .int .i32 0] ((Blk.newAt rfl rfl).alloc _) (by exact size43) rfl ivs_one ?_)
    | (refine wpList_store_row rfl _ _ _ rfl (w5.heap.size + 1) (ivs .i32 [x2, y2]) rfl rfl 43 #[.int .i32 0, .int .i32 0] ((Blk.newAt (by simp) rfl).rowFar (by omega) _) (by exact size43) rfl ivs_one ?_; generalize hw6 : World.setRow (World.setRow _ _ _) _ _ = w6; have Q1 : Blk w6 w5.heap.size 43 (ivs .i32 [x1, y1]) := (by rw [← hw6]; exact (((Blk.newAt rfl rfl).alloc _).row _).rowFar (by omega) _); have Q2 : Blk w6 (w5.heap.size + 1) 43 (ivs .i32 [x2, y2]) := (by rw [← hw6]; exact ((Blk.newAt (by simp) rfl).rowFar (by omega) _).row _); have hb6 : Below w5.heap.size w5 w6 := (by rw [← hw6]; exact below_setRow (below_setRow (((Below.refl _ _).alloc (Nat.le_refl _) _).alloc (by simp) _) (Nat.le_refl _) _) (Nat.le_succ _) _); have sz6 : w5.heap.size + 2 ≤ w6.heap.size := (by rw [← hw6]; simp); clear hw6; have R1 := P1_5.below hb6 (by omega); have R2 := P2_5.below hb6 (by omega))
    | refine wpList_load_row rfl _ _ rfl (w5.heap.size) rfl 43 (ivs .i32 [x1, y1]) (0, 0) _ Q1 Try.underlying43 rfl (by exact size43) ?_
    | refine wpList_load_row rfl _ _ rfl (w2.heap.size) rfl 43 (ivs .i32 [x1, y1]) (0, 0) _ R1 Try.underlying43 rfl (by exact size43) ?_
    | (go_at_call_of 31 x1; refine (eqCorner_same [x1, y1] rfl _).mono ?_; rintro e w7 ⟨rfl, hb7⟩; have Q2b := Q2.below hb7 (by omega); have R2b := R2.below hb7 (by omega); obtain ⟨qa, qb⟩ := rd_corner2 Q2b; obtain ⟨qc, qd⟩ := rd_corner2 R2b)
    | (go_at_call_of 31 x2; refine (eqCorner_same [x2, y2] rfl _).mono ?_; rintro e w8 ⟨rfl, hb8⟩))
  clear qa qb qc qd Q1 Q2 R1 R2 Q2b R2b P1_5 P2_5
  have z6 := hb6.size
  have RA_6 := RA_5.below hb6 (by omega)
  have OX_6 := OX_5.below hb6 (by omega)
  have B6 := B5.trans (hb6.mono (by omega))
  clear RA_5 OX_5 hb6 B5
  have z7 := hb7.size
  have RA_7 := RA_6.below hb7 (by omega)
  have OX_7 := OX_6.below hb7 (by omega)
  have B7 := B6.trans (hb7.mono (by omega))
  clear RA_6 OX_6 hb7 B6
  have z8 := hb8.size
  have RA_8 := RA_7.below hb8 (by omega)
  have OX_8 := OX_7.below hb8 (by omega)
  have B8 := B7.trans (hb8.mono (by omega))
  clear RA_7 OX_7 hb8 B7
  refine (toBlockS_any A n c l Hl.out Hrow.out hn _ (RA_8.more (by omega))).mono ?_
  rintro e w9 ⟨rfl, b5, hb9⟩
  have z9 := hb9.size
  have RA_9 := RA_8.below hb9 (by omega)
  have OX_9 := OX_8.below hb9 (by omega)
  have B9 := B8.trans (hb9.mono (by omega))
  clear RA_8 OX_8 hb9 B8
  have OY := b5.ownV (n := n) (size := 18) (lo := w8.heap.size) (hi := w9.heap.size) HBL.out (Nat.le_refl _) (by have := b5.lt; omega) (by unfold maxLen; omega)
  clear b5
  go_wp2_with fail
  refine (eqBlockS_same _ _ _ _ _ l Hl.out Hrow.out (by omega) _ (OX_9.rd.more (by omega)) (OY.rd.more (by omega))).mono ?_
  rintro e w10 ⟨rfl, hb10⟩
  have z10 := hb10.size
  have RA_10 := RA_9.below hb10 (by omega)
  have OX_10 := OX_9.below hb10 (by omega)
  have OY_10 := OY.below hb10 (by omega)
  have B10 := B9.trans (hb10.mono (by omega))
  clear RA_9 OX_9 OY hb10 B9
  go_wp2
  go_ret
  exact ⟨rfl, B10⟩
end

set_option maxRecDepth 100000 in
set_option maxHeartbeats 400000 in
theorem lawFrameOf_any (A : Option Addr) (n c : Nat) (l : List Bl) (hl : l.length = n) (hrow : Bls l) (h16 : ∀ b ∈ l, is16 b.2) (h32 : ∀ b ∈ l, ∀ x ∈ b.1, -2147483648 ≤ x ∧ x ≤ 2147483647) (hs : n ≤ 9223372036854775807) (w : World) (hR : Rd w w.heap.size 18 A n (bcs l)) :
    Calls Try.prog 7 #[.slice A n c] w fun e w' => e = .returned (.bool true) ∧ Below w.heap.size w w' := by
  by_cases h : n ≤ 1048576
  · exact lawFrameOf_in A n c l hl hrow h16 h32 h w hR
  · clear hl hrow hR h16 h32
    go_enter Try.func7, Try.ntmps7
    go_wp2_with fail
    refine (szBlockS_out A n c 1048576 (by omega) (by omega) (by omega) (by omega) _).mono ?_
    rintro e wx ⟨rfl, rfl⟩
    go_wp2
    go_ret
    exact ⟨rfl, Below.refl _ _⟩
end Go.Proofs.Ythicgmdkipgkaaa
