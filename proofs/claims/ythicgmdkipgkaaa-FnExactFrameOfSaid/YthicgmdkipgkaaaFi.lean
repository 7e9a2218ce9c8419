/- The frame of a picture: the program's walk. -/
import Derived.Test.YthicgmdkipgkaaaRows
import Derived.Test.YthicgmdkipgkaaaFs
import Derived.Deep.Cut
namespace Go.Proofs.Ythicgmdkipgkaaa
open Go.ChangeShapes Go.WideShapes Go.ChangeAt Go.RowKit
theorem exec_ldPair (ρ : Operand → Value) (dst : Option Tmp) (x : Operand) (t : TypeId) (pos : String) (after : Array Edge) (guard : Option (Nat × Bool)) :
    execOp ρ { dst := dst, op := .load 42 x, type := t, pos := pos, after := after, guard := guard } = ldRow 42 (ρ x) := rfl
theorem run_ldPair : ∀ (W : World) (g o : Nat), hasRow W g o 2 = true → (ldRow 42 (.pointer (some ⟨g, o, none⟩))).run Try.prog W = .ok (.value (.agg (rowAt W g o 2))) W := run_ldRow Try.underlying42 rfl size42
section
attribute [local go_sem ↓] exec_ldCorner exec_stCorner exec_ldPair
attribute [local go_sem] run_ldCorner run_stCorner run_ldPair
set_option maxRecDepth 20000 in
set_option maxHeartbeats 3200000 in
theorem iFrameOf_any (A : Option Addr) (n c : Nat) (l : List Bl) (hl : l.length = n) (hrow : Bls l) (h16 : ∀ b ∈ l, is16 b.2) (h32 : ∀ b ∈ l, ∀ x ∈ b.1, -2147483648 ≤ x ∧ x ≤ 2147483647) (hn : n ≤ 1048576) (w : World) (hR : Rd w w.heap.size 18 A n (bcs l)) :
    Calls Try.prog 30 #[.slice A n c] w (GivesFrame (frmL l) (frmH l) (frmK l) w) := by
  have r1 : Blk ((w.alloc (.cells (ivs .i32 [0, 0]) 43)).alloc (.cells (ivs .i32 [0, 0]) 43)) w.heap.size 43 (ivs .i32 [0, 0]) := (Blk.newAt rfl rfl).alloc _
  have r2 : Blk ((w.alloc (.cells (ivs .i32 [0, 0]) 43)).alloc (.cells (ivs .i32 [0, 0]) 43)) (w.heap.size + 1) 43 (ivs .i32 [0, 0]) := Blk.newAt (by simp) rfl
  have bW : Below w.heap.size w ((w.alloc (.cells (ivs .i32 [0, 0]) 43)).alloc (.cells (ivs .i32 [0, 0]) 43)) := ((Below.refl _ _).alloc (Nat.le_refl _) _).alloc (by simp) _
  have ho := fun W h => iValidPicture_any A n c l hl hrow h16 h32 hn W h
  have hv := fun h => vpic_of hrow h16 h
  rw [frmL, frmH, frmK]
  have K := Lib.hid (And.intro r1 (And.intro r2 bW))
  have HR := Lib.hid hR
  clear r1 r2 bW hR
  cases hok : vpB l
  · rw [hok] at ho
    have HO := Lib.hid ho
    clear hv hok hrow h16 h32 hl ho
    go_enter Try.func30, Try.ntmps30
    go_wp2_with (first
      | (go_at_call 15; refine (HO.out _ ((HR.out.below K.out.2.2 (Nat.le_refl _)).more K.out.2.2.size)).mono ?_; rintro e w1 ⟨rfl, b1⟩; have R1 := Lib.hid (K.out.1.below b1 K.out.1.lt); have R2 := Lib.hid (K.out.2.1.below b1 K.out.2.1.lt); have B1 := Lib.hid (K.out.2.2.trans (b1.mono K.out.2.2.size)); clear b1)
      | refine wpList_store_row rfl _ _ _ rfl w.heap.size (ivs .i32 [0, 0]) rfl rfl 43 _ R1.out (by exact size43) rfl ivs_one ?_
      | refine wpList_store_row rfl _ _ _ rfl (w.heap.size + 1) (ivs .i32 [0, 0]) rfl rfl 43 _ (R2.out.rowFar (by omega) _) (by exact size43) rfl ivs_one ?_)
    exact bodyPost_ret (results_frame rfl _ _ w.heap.size (w.heap.size + 1) [0, 0] [0, 0] rfl rfl 1 rfl rfl rfl ((R1.out.row _).rowFar (by omega) _) ((R2.out.rowFar (by omega) _).row _)) rfl ⟨rfl, below_setRow (below_setRow B1.out (Nat.le_refl _) _) (Nat.le_succ _) _⟩
  · rw [hok] at ho
    have HO := Lib.hid ho
    have hV := hv hok
    have HCS := Lib.hid (fun W h => cellsOf_any A n c l hl hV W h)
    have hcnt := hV.count
    have hrc := specC_rows l
    have HRC := Lib.hid hrc
    have hzero := hV.cells_zero
    rw [hl] at hzero
    clear hv hok hrow h16 h32 hl ho hV hrc
    simp only [if_true]
    generalize specC l = C at *
    by_cases h0 : C.length = 0
    · rw [if_pos h0, if_pos h0, if_pos h0]
      obtain rfl := hzero.1 h0
      clear hzero
      go_enter Try.func30, Try.ntmps30
      go_wp2_with (first
        | (go_at_call 15; refine (HO.out _ ((HR.out.below K.out.2.2 (Nat.le_refl _)).more K.out.2.2.size)).mono ?_; rintro e w1 ⟨rfl, b1⟩; have R1 := Lib.hid (K.out.1.below b1 K.out.1.lt); have R2 := Lib.hid (K.out.2.1.below b1 K.out.2.1.lt); have B1 := Lib.hid (K.out.2.2.trans (b1.mono K.out.2.2.size)); clear b1)
        | refine wpList_store_row rfl _ _ _ rfl w.heap.size (ivs .i32 [0, 0]) rfl rfl 43 _ R1.out (by exact size43) rfl ivs_one ?_
        | refine wpList_store_row rfl _ _ _ rfl (w.heap.size + 1) (ivs .i32 [0, 0]) rfl rfl 43 _ (R2.out.rowFar (by omega) _) (by exact size43) rfl ivs_one ?_)
      exact bodyPost_ret (results_frame rfl _ _ w.heap.size (w.heap.size + 1) [0, 0] [0, 0] rfl rfl 6 rfl rfl rfl ((R1.out.row _).rowFar (by omega) _) ((R2.out.rowFar (by omega) _).row _)) rfl ⟨rfl, below_setRow (below_setRow B1.out (Nat.le_refl _) _) (Nat.le_succ _) _⟩
    · rw [if_neg h0, if_neg h0, if_neg h0]
      have hn0 : ¬ n = 0 := fun h => h0 (hzero.2 h)
      have hnI : ¬ (n : Int) = 0 := by omega
      have hpos : 0 < C.length := by omega
      have hposI : (0 : Int) < C.length := by omega
      obtain ⟨x, y, hxy⟩ : ∃ x y, C[0] = [x, y] := ⟨_, _, two_of (HRC.out.at_ hpos)⟩
      have HXY := Lib.hid hxy
      have HZ := Lib.hid (loL_zero hpos hxy)
      clear hxy hzero hn0
      go_enter Try.func30, Try.ntmps30
      go_wp2_with (first
        | (go_at_call 15; refine (HO.out _ ((HR.out.below K.out.2.2 (Nat.le_refl _)).more K.out.2.2.size)).mono ?_; rintro e w1 ⟨rfl, b1⟩; have R1 := Lib.hid (K.out.1.below b1 K.out.1.lt); have R2 := Lib.hid (K.out.2.1.below b1 K.out.2.1.lt); have B1 := Lib.hid (K.out.2.2.trans (b1.mono K.out.2.2.size)); clear b1)
        | (go_at_call 55; refine (HCS.out _ ((HR.out.below B1.out (Nat.le_refl _)).more B1.out.size)).mono ?_; rintro e w2 ⟨g, cc, rfl, hO, b2⟩; have Q1 := Lib.hid (R1.out.below b2 R1.out.lt); have Q2 := Lib.hid (R2.out.below b2 R2.out.lt); have B2 := Lib.hid (B1.out.trans (b2.mono B1.out.size)); have HCL := Lib.hid hO.rd; have HGB := Lib.hid hO.blk_; have RG := Lib.hid (pvs_first HRC.out hpos hO.rd rfl HXY.out); have HZ2 : Hid (w.heap.size + 2 ≤ w2.heap.size) := Lib.hid (by have h1 := Q2.out.lt; omega); clear b2 hO))
      have hg2 : g < w2.heap.size := HGB.out.2
      have hrg2 : ((w2.alloc (.cells #[.int .i32 0, .int .i32 0] 43)).alloc (.cells #[.int .i32 0, .int .i32 0] 43)).drew.rangeAt g 0 [.int .i32 x, .int .i32 y] := fun j v hv => by
        have h1 := RG.out j v hv
        rw [← h1]
        exact (below_drew (((Below.refl w2.heap.size w2).alloc (Nat.le_refl _) (.cells #[.int .i32 0, .int .i32 0] 43)).alloc (by simp) (.cells #[.int .i32 0, .int .i32 0] 43))).cell (p := ⟨g, 0 + j, none⟩) hg2
      have y0 : w2.cell? ⟨g, 0, none⟩ = some (.int .i32 x) := RG.out 0 _ rfl
      have y1 : w2.cell? ⟨g, 1, none⟩ = some (.int .i32 y) := RG.out 1 _ rfl
      have y4 : ((w2.alloc (.cells #[.int .i32 0, .int .i32 0] 43)).alloc (.cells #[.int .i32 0, .int .i32 0] 43)).cell? ⟨g, 0, none⟩ = some (.int .i32 x) := hrg2 0 _ rfl
      have y5 : ((w2.alloc (.cells #[.int .i32 0, .int .i32 0] 43)).alloc (.cells #[.int .i32 0, .int .i32 0] 43)).cell? ⟨g, 1, none⟩ = some (.int .i32 y) := hrg2 1 _ rfl
      have q3 : FitC ((w2.alloc (.cells #[.int .i32 0, .int .i32 0] 43)).alloc (.cells #[.int .i32 0, .int .i32 0] 43)).drew w2.heap.size := Blk.fit (l := [0, 0]) ((Blk.newAt rfl rfl).alloc _).drew rfl
      have q4 : FitC (((w2.alloc (.cells #[.int .i32 0, .int .i32 0] 43)).alloc (.cells #[.int .i32 0, .int .i32 0] 43)).drew.setRow w2.heap.size #[.int .i32 x, .int .i32 y]) (w2.heap.size + 1) := Blk.fit (l := [0, 0]) ((Blk.newAt (by simp) rfl).drew.rowFar (by omega) _) rfl
      have hbz : Below w2.heap.size w2 ((w2.alloc (.cells #[.int .i32 x, .int .i32 y] 43)).alloc (.cells #[.int .i32 x, .int .i32 y] 43)).drew := below_drew (((Below.refl w2.heap.size w2).alloc (Nat.le_refl _) (.cells #[.int .i32 x, .int .i32 y] 43)).alloc (by simp) (.cells #[.int .i32 x, .int .i32 y] 43))
      have k1 : Blk ((w2.alloc (.cells #[.int .i32 x, .int .i32 y] 43)).alloc (.cells #[.int .i32 x, .int .i32 y] 43)).drew w2.heap.size 43 (ivs .i32 [x, y]) := ((Blk.newAt rfl rfl).alloc _).drew
      have k2 : Blk ((w2.alloc (.cells #[.int .i32 x, .int .i32 y] 43)).alloc (.cells #[.int .i32 x, .int .i32 y] 43)).drew (w2.heap.size + 1) 43 (ivs .i32 [x, y]) := (Blk.newAt (by simp) rfl).drew
      have HFab : Hid (FrI w w2 ((w2.alloc (.cells #[.int .i32 x, .int .i32 y] 43)).alloc (.cells #[.int .i32 x, .int .i32 y] 43)).drew g w2.heap.size (w2.heap.size + 1) C 0 0 0 ∧ FrI w w2 ((w2.alloc (.cells #[.int .i32 x, .int .i32 y] 43)).alloc (.cells #[.int .i32 x, .int .i32 y] 43)).drew g (w2.heap.size + 1) w2.heap.size C 0 0 0) := Lib.hid (by
        have h2 := HZ2.out
        have hq1 := Q1.out.below hbz Q1.out.lt
        have hq2 := Q2.out.below hbz Q2.out.lt
        have hb := B2.out.trans (hbz.mono B2.out.size)
        have hz := hbz.size
        have hc := hbz.block g hg2
        exact ⟨⟨by rw [HZ.out.1]; exact k1, by rw [HZ.out.2]; exact k2, hq1, hq2, hc, hb, by omega⟩, ⟨by rw [HZ.out.1]; exact k2, by rw [HZ.out.2]; exact k1, hq1, hq2, hc, hb, by omega⟩⟩)
      clear hbz k1 k2
      go_cut [6, 7] from 23 (fun p6 p7 wx => ∃ gl gh, p6 = .pointer (some ⟨gl, 0, none⟩) ∧ p7 = .pointer (some ⟨gh, 0, none⟩) ∧ Hid (FrI w w2 wx g gl gh C 0 0 0))
      case first =>
        go_region
        all_goals go_wp2_with fail
        all_goals go_meet
        all_goals first
          | exact ⟨_, _, rfl, rfl, Lib.hid HFab.out.1⟩
          | exact ⟨_, _, rfl, rfl, Lib.hid HFab.out.2⟩
      case rest =>
        obtain ⟨gl, gh, rfl, rfl, HI⟩ := hcut
        clear HFab q3 q4 hrg2 y0 y1 y4 y5 hg2 Q1 Q2 B2 HZ HXY RG B1 R1 R2 HO HCS K HGB HZ2
        go_wp2
        go_loopw [31] (fun i wr => ∃ k : Nat, k ≤ C.length ∧ i = .int .i64 k ∧ Hid (FrI w w2 wr g gl gh C k 0 0)) (fun i _ => C.length - (intOf i).toNat)
        case atStart => exact ⟨0, Nat.zero_le _, rfl, HI⟩
        case round =>
          clear HI
          obtain ⟨k, hk, rfl, HI⟩ := hrel
          by_cases hlt : k < C.length
          · have hkI : (k : Int) < C.length := by omega
            have hk0 : (0 : Int) ≤ k := by omega
            obtain ⟨X, Y, hxy⟩ : ∃ X Y, C[k] = [X, Y] := ⟨_, _, two_of (HRC.out.at_ hlt)⟩
            have HXY := Lib.hid (crd_at hlt hxy)
            have HRG : Hid (wr.rangeAt g (k * 2) [.int .i32 X, .int .i32 Y]) := Lib.hid (fun j v hj => by
              have hj2 : j < 2 := (List.getElem?_eq_some_iff.1 hj).1
              have h := HI.out.getCell HRC.out hlt HCL.out hj2
              rw [h]
              rcases two_case hj2 with rfl | rfl
              · rw [(crd_at hlt hxy).1]; exact hj
              · rw [(crd_at hlt hxy).2]; exact hj)
            clear hxy
            go_wp2_with (first
              | refine wpList_load_mid rfl _ _ rfl g (k * 2) (by rfl) [.int .i32 X, .int .i32 Y] _ HRG.out Try.underlying42 rfl (by exact size42) ?_
              | (refine wpList_store_row rfl _ _ _ rfl wr.heap.size (ivs .i32 [X, Y]) rfl rfl 42 #[.int .i32 0, .int .i32 0] (Blk.newAt rfl rfl) (by exact size42) rfl ivs_one ?_; generalize hw5 : World.setRow _ _ _ = w5; have G5 : Hid (Blk w5 wr.heap.size 42 (ivs .i32 [X, Y])) := Lib.hid (by rw [← hw5]; exact (Blk.newAt rfl rfl).row _); have B5 : Hid (Below wr.heap.size wr w5) := Lib.hid (by rw [← hw5]; exact below_setRow ((Below.refl _ _).alloc (Nat.le_refl _) _) (g := wr.heap.size) (Nat.le_refl _) _); clear hw5))
            have HI5 := Lib.hid (HI.out.below_ B5.out)
            have hgl : gl < wr.heap.size := HI.out.low.lt
            have hgh : gh < wr.heap.size := HI.out.high.lt
            clear HI B5 HRG
            obtain ⟨wo, rfl⟩ : ∃ wo : World, wo = wr := ⟨_, rfl⟩
            go_loopw [35] (fun i wr => ∃ d : Nat, d ≤ 2 ∧ i = .int .i64 d ∧ Hid (FrI w w2 wr g gl gh C k d d) ∧ Hid (Blk wr wo.heap.size 42 (ivs .i32 [X, Y]))) (fun i _ => 2 - (intOf i).toNat)
            case atStart => exact ⟨0, by omega, rfl, HI5, G5⟩
            case round =>
              clear HI5 G5
              obtain ⟨d, hd, rfl, HI, HG⟩ := hrel
              by_cases hd2 : d < 2
              · have hdI : (d : Int) < 2 := by omega
                have hd0 : (0 : Int) ≤ d := by omega
                have c0 : wr.cell? ⟨wo.heap.size, d, none⟩ = some (.int .i32 (crd C k d)) := by
                  rw [HG.out.cellI (i := d) (by exact hd2)]
                  rcases two_case hd2 with rfl | rfl
                  · rw [HXY.out.1]; rfl
                  · rw [HXY.out.2]; rfl
                obtain ⟨c1, f1⟩ := HI.out.getLow hd2
                obtain ⟨c2, f2⟩ := HI.out.getHigh hd2
                have HI2 := Lib.hid (HI.out.setLow hd2 (show loN C d (k + 1) = min (loN C d k) (crd C k d) from rfl))
                obtain ⟨c3, f3⟩ := HI2.out.getHigh hd2
                have HI3 := Lib.hid (HI2.out.setHigh hd2 (show hiN C d (k + 1) = max (hiN C d k) (crd C k d) from rfl))
                have HG2 := Lib.hid (HG.out.far (p := ⟨gl, d, none⟩) (show wo.heap.size ≠ gl by omega) (.int .i32 (min (loN C d k) (crd C k d))))
                have HG3 := Lib.hid (HG2.out.far (p := ⟨gh, d, none⟩) (show wo.heap.size ≠ gh by omega) (.int .i32 (max (hiN C d k) (crd C k d))))
                go_wp2
                go_region
                all_goals
                  go_wp2
                  exact ⟨⟨d + 1, by omega, by go_num, Lib.hid HI3.out.drew, Lib.hid HG3.out.drew⟩, by simp [intOf]; omega⟩
              · obtain rfl : d = 2 := by omega
                go_wp2
                exact ⟨⟨k + 1, by omega, by go_num, Lib.hid HI.out.next⟩, by simp [intOf]; omega⟩
          · obtain rfl : k = C.length := by omega
            have hz := HI.out.apart
            obtain ⟨x1, y1, e1⟩ : ∃ x1 y1, loL C C.length 0 = [x1, y1] := ⟨_, _, rfl⟩
            obtain ⟨x2, y2, e2⟩ : ∃ x2 y2, hiL C C.length 0 = [x2, y2] := ⟨_, _, rfl⟩
            have k1 := HI.out.low
            have k2 := HI.out.high
            rw [e1] at k1
            rw [e2] at k2
            have E1 := Lib.hid e1
            have E2 := Lib.hid e2
            have K1 := Lib.hid k1.drew
            have K2 := Lib.hid k2.drew
            have K3 := Lib.hid HI.out.r1.drew
            have K4 := Lib.hid HI.out.r2.drew
            have HB := Lib.hid (below_drew HI.out.below)
            clear k1 k2 e1 e2 HI
            obtain ⟨q1, q2⟩ := rd_corner2 K1.out
            obtain ⟨q3, q4⟩ := rd_corner2 K2.out
            have q5 := K3.out.fit rfl
            have q6 := K4.out.fit rfl
            obtain ⟨q7, q8⟩ := rd_corner2 (show Blk (wr.drew.setRow w.heap.size #[.int .i32 x1, .int .i32 y1]) gh 43 (ivs .i32 [x2, y2]) from K2.out.rowFar (by omega) _)
            have q9 : FitC (wr.drew.setRow w.heap.size #[.int .i32 x1, .int .i32 y1]) (w.heap.size + 1) := Blk.fit (l := [0, 0]) (K4.out.rowFar (by omega) _) rfl
            go_wp2
            go_region
            all_goals
              go_wp2
              exact bodyPost_ret (results_frame rfl _ _ w.heap.size (w.heap.size + 1) [x1, y1] [x2, y2] rfl rfl 0 rfl rfl rfl ((K3.out.row _).rowFar (by omega) _) ((K4.out.rowFar (by omega) _).row _)) rfl ⟨by rw [E1.out, E2.out], below_setRow (below_setRow HB.out (Nat.le_refl _) _) (Nat.le_succ _) _⟩
end
end Go.Proofs.Ythicgmdkipgkaaa
