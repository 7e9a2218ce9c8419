/- Me3, Mf in one text. -/
import Derived.Test.YtmagaapdijapiaaDoorRows
import Derived.Test.YtmagaapdijapiaaDoorBz1
import Derived.Test.YtmagaapdijapiaaDoorCb
import Derived.Deep.RegionWith
import Derived.Deep.CutRange
import Derived.Deep.CutBlock
import Derived.IntWalk
import Derived.Deep.QuietTactic
import Derived.BigQuiet
namespace Go.Proofs.YtmagaapdijapiaaDoor
open Go.ChangeShapes Go.WideShapes Go.ChangeAt Go.RowKit
theorem cShift_any (bx bz : Nat) (dx dy : Int) (hdx : -16 ≤ dx ∧ dx ≤ 16) (hdy : -16 ≤ dy ∧ dy ≤ 16) (a b : Nat) (ha : a < 16) (hb : b < 16) (w : World) (c1 : w.cell? ⟨bx, 0, none⟩ = some (.int .i64 dx)) (c2 : w.cell? ⟨bz, 0, none⟩ = some (.int .i64 dy)) : Calls Tryd.prog 61 #[.int .i64 a, .int .i64 b, .pointer (some ⟨bx, 0, none⟩), .pointer (some ⟨bz, 0, none⟩)] w fun e w' => e = .returned (.tuple #[.int .i64 (shT dx dy a b).1, .int .i64 (shT dx dy a b).2]) ∧ Below w.heap.size w w' := by
  have u1 : IntKind.i64.wrap ((a : Int) + dx) = (a : Int) + dx := IntWalk.i64_in _ (by omega)
  have u2 : IntKind.i64.wrap ((b : Int) + dy) = (b : Int) + dy := IntWalk.i64_in _ (by omega)
  clear hdx hdy ha hb
  go_enter Tryd.func61, Tryd.ntmps61
  go_wp2
  go_quiet (fail)
  go_wp2
  go_ret2
  exact ⟨rfl, below_drewN (Below.refl _ _) _⟩
set_option maxRecDepth 20000 in
set_option maxHeartbeats 3200000 in
theorem mvShift_any (bx bz : Nat) (dx dy : Int) (hdx : -16 ≤ dx ∧ dx ≤ 16) (hdy : -16 ≤ dy ∧ dy ≤ 16) (M : List Int) (hM : M.length = 16) (h16 : is16 M) (w : World) (hbx : w.cell? ⟨bx, 0, none⟩ = some (.int .i64 dx)) (hby : w.cell? ⟨bz, 0, none⟩ = some (.int .i64 dy)) (hbl : bx < w.heap.size ∧ bz < w.heap.size) :
    Calls Tryd.prog 53 #[.agg (ivs .u16 M), .func (.func 61) #[] #[.pointer (some ⟨bx, 0, none⟩), .pointer (some ⟨bz, 0, none⟩)]] w fun e w' => ∃ R, IsM R (mvB (shT dx dy) (mCells M)) ∧ e = .returned (.agg (ivs .u16 R)) ∧ Below w.heap.size w w' := by
  obtain ⟨w1, hw1⟩ : ∃ w1, w1 = ((w.alloc (.cells (ivs .u16 M) 44)).alloc (.cells (ivs .u16 zr16) 44)).alloc (.cells (ivs .u16 zr16) 44) := ⟨_, rfl⟩
  have h0 : Blk w1 w.heap.size 44 (ivs .u16 M) := by rw [hw1]; exact ((Blk.newAt rfl rfl).alloc _).alloc _
  have h1 : Blk w1 (w.heap.size + 1) 44 (ivs .u16 zr16) := by rw [hw1]; exact (Blk.newAt (by simp) rfl).alloc _
  have h2 : Blk w1 (w.heap.size + 2) 44 (ivs .u16 zr16) := by rw [hw1]; exact Blk.newAt (by simp) rfl
  have hB : Below w.heap.size w w1 := by rw [hw1]; exact (((Below.refl _ _).alloc (Nat.le_refl _) _).alloc (by simp) _).alloc (by simp; omega) _
  have z1 := h2.lt
  have HCO := Lib.hid (fun W => iCellsOf_any M hM h16 W)
  unfold GivesCells at HCO
  have HCE : Hid (∀ k (hk : k < (mCells M).length), ∃ a b : Nat, a < 16 ∧ b < 16 ∧ (mCells M)[k] = [(a : Int), (b : Int)]) := Lib.hid (fun k hk => mCells_at hk)
  have hcl : (mCells M).length ≤ 256 := by rw [mCells]; exact cellsTo_length _ _
  have hrw : Rows_ 2 (mCells M) := cellsTo_rows _ _
  have HRW := Lib.hid hrw
  have HM1 := Lib.hid hM
  have H0 : Hid (Blk (((w.alloc (.cells (ivs .u16 M) 44)).alloc (.cells (ivs .u16 zr16) 44)).alloc (.cells (ivs .u16 zr16) 44)) w.heap.size 44 (ivs .u16 M)) := Lib.hid (by rw [← hw1]; exact h0)
  have H1 := Lib.hid h1
  have H2 := Lib.hid h2
  have HB1 := Lib.hid hB
  have HCL : Hid (∀ (a b : Nat), a < 16 → b < 16 → ∀ W, Below w.heap.size w W → Calls Tryd.prog 61 #[.int .i64 a, .int .i64 b, .pointer (some ⟨bx, 0, none⟩), .pointer (some ⟨bz, 0, none⟩)] W fun e w' => e = .returned (.tuple #[.int .i64 ((shT dx dy) a b).1, .int .i64 ((shT dx dy) a b).2]) ∧ Below W.heap.size W w') := Lib.hid (fun a b ha hb W hW => cShift_any bx bz dx dy hdx hdy a b ha hb W ((hW.cell (p := ⟨bx, 0, none⟩) hbl.1).trans hbx) ((hW.cell (p := ⟨bz, 0, none⟩) hbl.2).trans hby))
  have HPL := Lib.hid (fun n W => isPlace_any n W)
  clear h0 h1 h2 hB hrw hM h16 hbx hby hdx hdy
  generalize mCells M = C at *
  go_enter Tryd.func53, Tryd.ntmps53
  go_wp2_with (first
    | refine wpList_load_row rfl _ _ rfl w.heap.size rfl 44 (ivs .u16 M) (0, 0) _ H0.out Tryd.underlying44 rfl (by rw [ivs_size, HM1.out]; exact size44) ?_
    | (go_at_call 21; refine (HCO.out _).mono ?_; rintro e w2 ⟨gC, cC, rfl, hO2, hb2'⟩; have hb2 : Below w1.heap.size w1 w2 := (by rw [hw1]; exact hb2'); clear hb2'; have z2 := hb2.size; have K1 := Lib.hid (H1.out.below hb2 (by omega)); have K2 := Lib.hid (H2.out.below hb2 (by omega)); have B2 := Lib.hid (HB1.out.trans (hb2.mono (by omega))); have O2 := Lib.hid hO2; have HGC : Hid (w.heap.size + 3 ≤ gC) := Lib.hid (by have h5 := hO2.blk gC rfl; have h6 := h5.1; simp only [size_alloc] at h6; omega); clear hb2 hO2))
  obtain ⟨wp, rfl⟩ : ∃ W : World, W = w2 := ⟨_, rfl⟩
  clear H0 H1 H2 HB1 hw1
  go_loopw [14] (fun i wr => ∃ (k : Nat) (R : List Int), k ≤ C.length ∧ i = .int .i64 k ∧ Hid (IsM R (mvB (shT dx dy) (C.take k))) ∧ Hid (Blk wr (w.heap.size + 1) 44 (ivs .u16 zr16)) ∧ Hid (Blk wr (w.heap.size + 2) 44 (ivs .u16 R)) ∧ Hid (Rd wr wp.heap.size 2 (some ⟨gC, 0, none⟩) C.length (pvs C)) ∧ wp.heap.size ≤ wr.heap.size ∧ Hid (Below w.heap.size w wr)) (fun i _ => C.length - (intOf i).toNat)
  case atStart => exact ⟨0, zr16, by omega, rfl, Lib.hid IsM.zero, K1, K2, Lib.hid O2.out.rd, Nat.le_refl _, B2⟩
  case round =>
    clear K1 K2 O2 B2
    obtain ⟨k, R, hk, rfl, HR, K1, K2, HRC, hzr, HB⟩ := hrel
    by_cases hlt : k < C.length
    · have hki : (k : Int) < C.length := by omega
      obtain ⟨a, b, ha, hb, hab⟩ := HCE.out k hlt
      obtain ⟨gC', oC, hAC, hgC, hcC⟩ := HRC.out.at_ (by omega)
      cases hAC
      have hrg : wr.rangeAt gC (0 + k * 2) ((C[k]).map (.int .i32)) := by
        have h2 := Rd.rangeAt (i := k * 2) (s := 2) hcC
        rw [pvs, ← List.map_drop, ← List.map_take, flat_row HRW.out hlt] at h2
        exact h2
      rw [hab, Nat.zero_add] at hrg
      have HRG := Lib.hid hrg
      have HTK : Hid (C.take (k + 1) = C.take k ++ [[(a : Int), (b : Int)]]) := Lib.hid (by rw [List.take_succ_eq_append_getElem hlt, hab])
      have HC1 := Lib.hid (fun W => HCL.out a b ha hb W)
      obtain ⟨p, hp⟩ : ∃ p, p = ((shT dx dy) (a : Int) (b : Int)).1 := ⟨_, rfl⟩
      obtain ⟨q, hq⟩ : ∃ q, q = ((shT dx dy) (a : Int) (b : Int)).2 := ⟨_, rfl⟩
      rw [← hp, ← hq] at HC1
      have HPQ : Hid ((shT dx dy) (a : Int) (b : Int) = (p, q)) := Lib.hid (by rw [hp, hq])
      have ha0 : (0 : Int) ≤ a := by omega
      have ha1 : (a : Int) < 16 := by omega
      have hb0 : (0 : Int) ≤ b := by omega
      have hb1 : (b : Int) < 16 := by omega
      have hwr := HB.out.size
      have hne : gC ≠ w.heap.size + 2 := by have := HGC.out; omega
      clear hcC hrg hab hp hq
      rcases place_or p q with ⟨p', q', hp', hq', rfl, rfl⟩ | hno
      · have HP1 := Lib.hid (fun W => isPlace_any (p' : Int) W)
        have HP2 := Lib.hid (fun W => isPlace_any (q' : Int) W)
        rw [plB_in hp'] at HP1
        rw [plB_in hq'] at HP2
        have hRl := HR.out.len
        have hwp := pow16 hp'
        have p0 : (0 : Int) ≤ p' := by omega
        have p1 : (p' : Int) < 16 := by omega
        have q0 : (0 : Int) ≤ q' := by omega
        have q1 : (q' : Int) < 16 := by omega
        have HI : Hid (IsM (setOr R q' p') (mvB (shT dx dy) (C.take (k + 1)))) := Lib.hid ((HR.out.set hp' hq').congr fun x y hx hy => by rw [HTK.out, mvB_snoc, HPQ.out, pair_eq])
        clear HPL HPQ HTK HCE HCL
        go_upto_region 7 with (first
        | refine wpList_load_ivs rfl _ _ rfl gC (k * 2) rfl .i32 [(a : Int), (b : Int)] _ HRG.out Tryd.underlying35 rfl (by exact size35) ?_
        | (refine wpList_store_row rfl _ _ _ rfl wr.heap.size (ivs .i32 [(a : Int), (b : Int)]) rfl rfl 35 (ivs .i32 [0, 0]) (Blk.newAt rfl rfl) (by exact size35) rfl ivs_one ?_; generalize hw3 : World.setRow _ _ _ = w3; have K3 : Hid (Blk w3 wr.heap.size 35 (ivs .i32 [(a : Int), (b : Int)])) := Lib.hid (by rw [← hw3]; exact (Blk.newAt rfl rfl).row _); have b3 : Below wr.heap.size wr w3 := (by rw [← hw3]; exact below_setRow ((Below.refl _ _).alloc (Nat.le_refl _) _) (Nat.le_refl _) _); clear hw3; have y3 := b3.size; have B3 := Lib.hid (HB.out.trans (b3.mono hwr)); have J1 := Lib.hid (K1.out.below b3 (by omega)); have J2 := Lib.hid (K2.out.below b3 (by omega)); have JR := Lib.hid (HRC.out.below b3 hzr); clear b3; have d0 : w3.cell? ⟨wr.heap.size, 0, none⟩ = some (.int .i32 (a : Int)) := K3.out.cell 0; have d1 : w3.cell? ⟨wr.heap.size, 1, none⟩ = some (.int .i32 (b : Int)) := K3.out.cell 1)
        | (go_at_call 61; refine (HC1.out w3 B3.out).mono ?_; rintro e w4 ⟨rfl, hb4⟩; have y4 := hb4.size; have B4 := Lib.hid (B3.out.trans (hb4.mono (by omega))); have L1 := Lib.hid (J1.out.below hb4 (by omega)); have L2 := Lib.hid (J2.out.below hb4 (by omega)); have LR := Lib.hid (JR.out.below hb4 (by omega)); clear hb4 d0 d1)
        | (go_at_call 51; refine (HP1.out _).mono ?_; rintro e w5 ⟨rfl, rfl⟩)
        | (go_at_call 51; refine (HP2.out _).mono ?_; rintro e w5 ⟨rfl, rfl⟩))
        have c8 := L2.out.getAtG (i := q') (by rw [hRl]; exact hq')
        have f8 := L2.out.frozen q'
        have N2 := Lib.hid (L2.out.setI q' (orF (R.getD q' 0) (2 ^ p')))
        have N1 := Lib.hid ((L1.out.far (p := ⟨w.heap.size + 2, q', none⟩) (show w.heap.size + 1 ≠ w.heap.size + 2 by omega) (.int .u16 (orF (R.getD q' 0) (2 ^ p')))).drew)
        have NR := Lib.hid (Rd.setCellFar (g := w.heap.size + 2) (gC := gC) LR.out hne q' (.int .u16 (orF (R.getD q' 0) (2 ^ p'))))
        have NB := Lib.hid (below_drew (B4.out.setCell (p := ⟨w.heap.size + 2, q', none⟩) (show w.heap.size ≤ w.heap.size + 2 by omega) (.int .u16 (orF (R.getD q' 0) (2 ^ p')))))
        have HI2 : Hid (IsM (R.set q' (orF (R.getD q' 0) (2 ^ p'))) (mvB (shT dx dy) (C.take (k + 1)))) := HI
        generalize R.getD q' 0 = v at *
        clear HI
        go_region
        go_wp2
        exact ⟨⟨k + 1, _, by omega, by go_num, HI2, N1, Lib.hid N2.out.drew, Lib.hid NR.out, by rw [World.size_drew, size_setCell]; omega, NB⟩, by simp [intOf]; omega⟩
      · have HI : Hid (IsM R (mvB (shT dx dy) (C.take (k + 1)))) := Lib.hid (HR.out.congr fun x y hx hy => by rw [HTK.out, mvB_snoc, HPQ.out, pair_ne hx hy hno, Bool.or_false])
        have HP1 := Lib.hid (fun W => isPlace_any p W)
        have HP2 := Lib.hid (fun W => isPlace_any q W)
        clear HPL HPQ HTK HCE HCL
        cases hpp : plB p
        · rw [hpp] at HP1
          go_wp2_with (first
        | refine wpList_load_ivs rfl _ _ rfl gC (k * 2) rfl .i32 [(a : Int), (b : Int)] _ HRG.out Tryd.underlying35 rfl (by exact size35) ?_
        | (refine wpList_store_row rfl _ _ _ rfl wr.heap.size (ivs .i32 [(a : Int), (b : Int)]) rfl rfl 35 (ivs .i32 [0, 0]) (Blk.newAt rfl rfl) (by exact size35) rfl ivs_one ?_; generalize hw3 : World.setRow _ _ _ = w3; have K3 : Hid (Blk w3 wr.heap.size 35 (ivs .i32 [(a : Int), (b : Int)])) := Lib.hid (by rw [← hw3]; exact (Blk.newAt rfl rfl).row _); have b3 : Below wr.heap.size wr w3 := (by rw [← hw3]; exact below_setRow ((Below.refl _ _).alloc (Nat.le_refl _) _) (Nat.le_refl _) _); clear hw3; have y3 := b3.size; have B3 := Lib.hid (HB.out.trans (b3.mono hwr)); have J1 := Lib.hid (K1.out.below b3 (by omega)); have J2 := Lib.hid (K2.out.below b3 (by omega)); have JR := Lib.hid (HRC.out.below b3 hzr); clear b3; have d0 : w3.cell? ⟨wr.heap.size, 0, none⟩ = some (.int .i32 (a : Int)) := K3.out.cell 0; have d1 : w3.cell? ⟨wr.heap.size, 1, none⟩ = some (.int .i32 (b : Int)) := K3.out.cell 1)
        | (go_at_call 61; refine (HC1.out w3 B3.out).mono ?_; rintro e w4 ⟨rfl, hb4⟩; have y4 := hb4.size; have B4 := Lib.hid (B3.out.trans (hb4.mono (by omega))); have L1 := Lib.hid (J1.out.below hb4 (by omega)); have L2 := Lib.hid (J2.out.below hb4 (by omega)); have LR := Lib.hid (JR.out.below hb4 (by omega)); clear hb4 d0 d1)
        | (go_at_call 51; refine (HP1.out _).mono ?_; rintro e w5 ⟨rfl, rfl⟩))
          exact ⟨⟨k + 1, R, by omega, by go_num, HI, L1, L2, LR, by omega, B4⟩, by simp [intOf]; omega⟩
        · rw [hpp, Bool.true_and] at hno
          rw [hpp] at HP1
          rw [hno] at HP2
          go_wp2_with (first
        | refine wpList_load_ivs rfl _ _ rfl gC (k * 2) rfl .i32 [(a : Int), (b : Int)] _ HRG.out Tryd.underlying35 rfl (by exact size35) ?_
        | (refine wpList_store_row rfl _ _ _ rfl wr.heap.size (ivs .i32 [(a : Int), (b : Int)]) rfl rfl 35 (ivs .i32 [0, 0]) (Blk.newAt rfl rfl) (by exact size35) rfl ivs_one ?_; generalize hw3 : World.setRow _ _ _ = w3; have K3 : Hid (Blk w3 wr.heap.size 35 (ivs .i32 [(a : Int), (b : Int)])) := Lib.hid (by rw [← hw3]; exact (Blk.newAt rfl rfl).row _); have b3 : Below wr.heap.size wr w3 := (by rw [← hw3]; exact below_setRow ((Below.refl _ _).alloc (Nat.le_refl _) _) (Nat.le_refl _) _); clear hw3; have y3 := b3.size; have B3 := Lib.hid (HB.out.trans (b3.mono hwr)); have J1 := Lib.hid (K1.out.below b3 (by omega)); have J2 := Lib.hid (K2.out.below b3 (by omega)); have JR := Lib.hid (HRC.out.below b3 hzr); clear b3; have d0 : w3.cell? ⟨wr.heap.size, 0, none⟩ = some (.int .i32 (a : Int)) := K3.out.cell 0; have d1 : w3.cell? ⟨wr.heap.size, 1, none⟩ = some (.int .i32 (b : Int)) := K3.out.cell 1)
        | (go_at_call 61; refine (HC1.out w3 B3.out).mono ?_; rintro e w4 ⟨rfl, hb4⟩; have y4 := hb4.size; have B4 := Lib.hid (B3.out.trans (hb4.mono (by omega))); have L1 := Lib.hid (J1.out.below hb4 (by omega)); have L2 := Lib.hid (J2.out.below hb4 (by omega)); have LR := Lib.hid (JR.out.below hb4 (by omega)); clear hb4 d0 d1)
        | (go_at_call 51; refine (HP1.out _).mono ?_; rintro e w5 ⟨rfl, rfl⟩)
        | (go_at_call 51; refine (HP2.out _).mono ?_; rintro e w5 ⟨rfl, rfl⟩))
          exact ⟨⟨k + 1, R, by omega, by go_num, HI, L1, L2, LR, by omega, B4⟩, by simp [intOf]; omega⟩
    · obtain rfl : k = C.length := by omega
      rw [List.take_length] at HR
      have hRl := HR.out.len
      clear HCE HCL HPL
      go_wp2_with (first
        | refine wpList_load_row rfl _ _ rfl (w.heap.size + 2) rfl 44 (ivs .u16 R) (0, 0) _ K2.out Tryd.underlying44 rfl (by rw [ivs_size, hRl]; exact size44) ?_
        | refine wpList_store_row rfl _ _ _ rfl (w.heap.size + 1) (ivs .u16 R) rfl rfl 44 _ K1.out (by rw [ivs_size, hRl]; exact size44) (by rw [ivs_size, ivs_size, hRl]; rfl) ivs_one ?_)
      exact bodyPost_ret (results_cell_row rfl _ _ (w.heap.size + 1) 44 (ivs .u16 R) (0, 0) _ rfl (K1.out.row _) Tryd.underlying44 rfl (by rw [ivs_size, hRl]; exact size44)) rfl ⟨R, HR.out, rfl, below_setRow HB.out (by omega) _⟩
set_option maxRecDepth 20000 in
set_option maxHeartbeats 1600000 in
theorem iShiftMask_any (M : List Int) (hM : M.length = 16) (h16 : is16 M) (dx dy : Int) (hdx : -16 ≤ dx ∧ dx ≤ 16) (hdy : -16 ≤ dy ∧ dy ≤ 16) (w : World) :
    Calls Tryd.prog 29 #[.agg (ivs .u16 M), .int .i64 dx, .int .i64 dy] w fun e w' => ∃ R, IsM R (mvB (shT dx dy) (mCells M)) ∧ e = .returned (.tuple #[.agg (ivs .u16 R), .int .i64 0]) ∧ Below w.heap.size w w' := by
  obtain ⟨w1, hw1⟩ : ∃ w1, w1 = (((w.alloc (.cells (ivs .u16 M) 44)).alloc (.cells #[.int .i64 dx] 2)).alloc (.cells #[.int .i64 dy] 2)).alloc (.cells (ivs .u16 zr16) 44) := ⟨_, rfl⟩
  have H0 : Hid (Blk w1 w.heap.size 44 (ivs .u16 M)) := Lib.hid (by rw [hw1]; exact (((Blk.newAt rfl rfl).alloc _).alloc _).alloc _)
  have K1 : Blk w1 (w.heap.size + 1) 2 #[.int .i64 dx] := by rw [hw1]; exact ((Blk.newAt (by simp) rfl).alloc _).alloc _
  have K2 : Blk w1 (w.heap.size + 2) 2 #[.int .i64 dy] := by rw [hw1]; exact (Blk.newAt (by simp) rfl).alloc _
  have H1 : Hid (Blk w1 (w.heap.size + 1 + 1 + 1) 44 (ivs .u16 zr16)) := Lib.hid (by rw [hw1]; exact Blk.newAt (by simp) rfl)
  have HB : Hid (Below w.heap.size w w1) := Lib.hid (by rw [hw1]; exact ((((Below.refl _ _).alloc (Nat.le_refl _) _).alloc (by simp) _).alloc (by simp; omega) _).alloc (by simp; omega) _)
  have z1 := H1.out.lt
  have c1 : w1.cell? ⟨w.heap.size + 1, 0, none⟩ = some (.int .i64 dx) := K1.cell 0
  have c2 : w1.cell? ⟨w.heap.size + 2, 0, none⟩ = some (.int .i64 dy) := K2.cell 0
  have HM := Lib.hid (mvShift_any (w.heap.size + 1) (w.heap.size + 1 + 1) dx dy hdx hdy M hM h16 w1 c1 c2 ⟨by omega, by omega⟩)
  have HX := Lib.hid (fun W => inR64_any dx (-16) 16 W)
  have HY := Lib.hid (fun W => inR64_any dy (-16) 16 W)
  rw [decide_eq_true hdx.1, decide_eq_true hdx.2] at HX
  rw [decide_eq_true hdy.1, decide_eq_true hdy.2] at HY
  have HL := Lib.hid hM
  have F0 : Hid (Blk ((((w.alloc (.cells (ivs .u16 M) 44)).alloc (.cells #[.int .i64 dx] 2)).alloc (.cells #[.int .i64 dy] 2)).alloc (.cells (ivs .u16 zr16) 44)) w.heap.size 44 (ivs .u16 M)) := Lib.hid (by have h := H0.out; rw [hw1] at h; exact h)
  rw [hw1] at HM
  have HB1 : Hid (∀ W, Below ((((w.alloc (.cells (ivs .u16 M) 44)).alloc (.cells #[.int .i64 dx] 2)).alloc (.cells #[.int .i64 dy] 2)).alloc (.cells (ivs .u16 zr16) 44)).heap.size ((((w.alloc (.cells (ivs .u16 M) 44)).alloc (.cells #[.int .i64 dx] 2)).alloc (.cells #[.int .i64 dy] 2)).alloc (.cells (ivs .u16 zr16) 44)) W → Blk W (w.heap.size + 1 + 1 + 1) 44 (ivs .u16 zr16) ∧ Below w.heap.size w W) := Lib.hid (fun W hb => by
    rw [← hw1] at hb
    exact ⟨H1.out.below hb H1.out.lt, HB.out.trans (hb.mono (by omega))⟩)
  have k1 : ((((w.alloc (.cells (ivs .u16 M) 44)).alloc (.cells #[.int .i64 dx] 2)).alloc (.cells #[.int .i64 dy] 2)).alloc (.cells (ivs .u16 zr16) 44)).cell? ⟨w.heap.size + 1, 0, none⟩ = some (.int .i64 dx) := by rw [← hw1]; exact c1
  have k2 : ((((w.alloc (.cells (ivs .u16 M) 44)).alloc (.cells #[.int .i64 dx] 2)).alloc (.cells #[.int .i64 dy] 2)).alloc (.cells (ivs .u16 zr16) 44)).cell? ⟨w.heap.size + 2, 0, none⟩ = some (.int .i64 dy) := by rw [← hw1]; exact c2
  clear hM h16 K1 K2 hdx hdy H0 H1 HB c1 c2 z1 hw1
  go_enter Tryd.func29, Tryd.ntmps29
  go_wp2_with fail
  refine (HX.out _).mono ?_
  rintro e w2 ⟨rfl, rfl⟩
  go_wp2_with fail
  refine (HY.out _).mono ?_
  rintro e w2 ⟨rfl, rfl⟩
  clear k1 k2
  go_wp2_with (first
    | refine wpList_load_row rfl _ _ rfl w.heap.size rfl 44 (ivs .u16 M) (0, 0) _ F0.out Tryd.underlying44 rfl (by rw [ivs_size, HL.out]; exact size44) ?_
    | (go_at_call 53; refine HM.out.mono ?_; rintro e w2 ⟨R, hR, rfl, hb2⟩; have HR := Lib.hid hR; have hRl := hR.len; have H2 := Lib.hid (HB1.out _ hb2).1; have B2 := Lib.hid (HB1.out _ hb2).2; clear hb2 hR)
    | refine wpList_store_row rfl _ _ _ rfl (w.heap.size + 1 + 1 + 1) (ivs .u16 R) rfl rfl 44 _ H2.out (by rw [ivs_size, hRl]; exact size44) (by rw [ivs_size, ivs_size, hRl]; rfl) ivs_one ?_)
  exact bodyPost_ret (results_row_tmpM rfl _ _ (w.heap.size + 1 + 1 + 1) 44 (ivs .u16 R) (0, 0) _ rfl (H2.out.row _) Tryd.underlying44 rfl (by rw [ivs_size, hRl]; exact size44)) rfl ⟨R, HR.out, rfl, below_setRow B2.out (by omega) _⟩
end Go.Proofs.YtmagaapdijapiaaDoor
namespace Go.Proofs.YtmagaapdijapiaaDoor
open Go.ChangeShapes Go.WideShapes Go.ChangeAt Go.RowKit
def idT (x y : Int) : Int × Int := (x, y)
theorem mv_id {M : List Int} {x y : Nat} (hx : x < 16) (hy : y < 16) : mvB idT (mCells M) x y = bitB M x y := by
  rw [Bool.eq_iff_iff, mvB_iff]
  constructor
  · rintro ⟨a, b, ha, hb, hM, h⟩
    simp only [idT, Prod.mk.injEq] at h
    rwa [show x = a by omega, show y = b by omega]
  · intro h
    exact ⟨x, y, hx, hy, h, rfl⟩
set_option maxRecDepth 20000 in
set_option maxHeartbeats 3200000 in
theorem iMaskOf_any (M : List Int) (hM : M.length = 16) (h16 : is16 M) (A : Option Addr) (c : Nat) (w : World) (hR : Rd w w.heap.size 2 A (mCells M).length (pvs (mCells M))) :
    Calls Tryd.prog 22 #[.slice A (mCells M).length c] w fun e w' => e = .returned (.tuple #[.agg (ivs .u16 M), .int .i64 0]) ∧ Below w.heap.size w w' := by
  have HCE : Hid (∀ k (hk : k < (mCells M).length), ∃ a b : Nat, a < 16 ∧ b < 16 ∧ (mCells M)[k] = [(a : Int), (b : Int)]) := Lib.hid (fun k hk => mCells_at hk)
  have hcl : (mCells M).length ≤ 256 := by rw [mCells]; exact cellsTo_length _ _
  have hrw : Rows_ 2 (mCells M) := cellsTo_rows _ _
  have HRW := Lib.hid hrw
  have HEN : Hid (∀ R, IsM R (mvB idT (mCells M)) → R = M) := Lib.hid (fun R h => h.eq (IsM.self hM h16) fun x y hx hy => mv_id hx hy)
  have HR0 := Lib.hid hR
  clear hrw hM h16 hR
  generalize mCells M = C at *
  have h1024 : (C.length : Int) ≤ 1024 := by omega
  go_enter Tryd.func22, Tryd.ntmps22
  go_wp2
  obtain ⟨z0, hz0⟩ : ∃ z, z = w.heap.size := ⟨_, rfl⟩
  go_loopw [14] (fun i wr => ∃ (k : Nat) (R : List Int), k ≤ C.length ∧ i = .int .i64 k ∧ Hid (IsM R (mvB idT (C.take k))) ∧ Hid (Blk wr w.heap.size 44 (ivs .u16 zr16)) ∧ Hid (Blk wr (w.heap.size + 1) 44 (ivs .u16 R)) ∧ w.heap.size + 2 ≤ wr.heap.size ∧ Hid (Below w.heap.size w wr)) (fun i _ => C.length - (intOf i).toNat)
  case atStart => exact ⟨0, zr16, by omega, rfl, Lib.hid IsM.zero, Lib.hid ((Blk.newAt rfl rfl).alloc _), Lib.hid (Blk.newAt (by simp) rfl), by simp, Lib.hid (((Below.refl _ _).alloc (Nat.le_refl _) _).alloc (by simp) _)⟩
  case round =>
    obtain ⟨k, R, hk, rfl, HR, K1, K2, hzr, HB⟩ := hrel
    by_cases hlt : k < C.length
    · have hki : (k : Int) < C.length := by omega
      obtain ⟨a, b, ha, hb, hab⟩ := HCE.out k hlt
      obtain ⟨gC, oC, hAC, hgC, hcC⟩ := (HR0.out.below HB.out (Nat.le_refl _)).at_ (by omega)
      have hrg : wr.rangeAt gC (oC + k * 2) ((C[k]).map (.int .i32)) := by
        have h2 := Rd.rangeAt (i := k * 2) (s := 2) hcC
        rw [pvs, ← List.map_drop, ← List.map_take, flat_row HRW.out hlt] at h2
        exact h2
      rw [hab] at hrg
      have HRG := Lib.hid hrg
      have HI : Hid (IsM (setOr R b a) (mvB idT (C.take (k + 1)))) := Lib.hid ((HR.out.set ha hb).congr fun x y hx hy => by
        rw [List.take_succ_eq_append_getElem hlt, hab, mvB_snoc, show idT (a : Int) (b : Int) = ((a : Int), (b : Int)) from rfl, pair_eq])
      subst hAC
      have HP1 := Lib.hid (fun W => isPlace_any (a : Int) W)
      have HP2 := Lib.hid (fun W => isPlace_any (b : Int) W)
      rw [plB_in ha] at HP1
      rw [plB_in hb] at HP2
      have hRl := HR.out.len
      have hwp := pow16 ha
      have p0 : (0 : Int) ≤ a := by omega
      have p1 : (a : Int) < 16 := by omega
      have q0 : (0 : Int) ≤ b := by omega
      have q1 : (b : Int) < 16 := by omega
      have HB0 := Lib.hid HB.out.size
      clear hcC hrg hab HCE
      go_upto_region 9 with (first
        | refine wpList_load_ivs rfl _ _ rfl gC (oC + k * 2) rfl .i32 [(a : Int), (b : Int)] _ HRG.out Tryd.underlying35 rfl (by exact size35) ?_
        | (refine wpList_store_row rfl _ _ _ rfl wr.heap.size (ivs .i32 [(a : Int), (b : Int)]) rfl rfl 35 (ivs .i32 [0, 0]) (Blk.newAt rfl rfl) (by exact size35) rfl ivs_one ?_; generalize hw3 : World.setRow _ _ _ = w3; have K3 : Hid (Blk w3 wr.heap.size 35 (ivs .i32 [(a : Int), (b : Int)])) := Lib.hid (by rw [← hw3]; exact (Blk.newAt rfl rfl).row _); have b3 : Below wr.heap.size wr w3 := (by rw [← hw3]; exact below_setRow ((Below.refl _ _).alloc (Nat.le_refl _) _) (Nat.le_refl _) _); clear hw3; have y3 := b3.size; have B3 := Lib.hid (HB.out.trans (b3.mono (by omega))); have J1 := Lib.hid (K1.out.below b3 (by omega)); have J2 := Lib.hid (K2.out.below b3 (by omega)); clear b3; have d0 : w3.cell? ⟨wr.heap.size, 0, none⟩ = some (.int .i32 (a : Int)) := K3.out.cell 0; have d1 : w3.cell? ⟨wr.heap.size, 1, none⟩ = some (.int .i32 (b : Int)) := K3.out.cell 1)
        | (go_at_call 51; refine (HP1.out _).mono ?_; rintro e w5 ⟨rfl, rfl⟩)
        | (go_at_call 51; refine (HP2.out _).mono ?_; rintro e w5 ⟨rfl, rfl⟩))
      have c8 := J2.out.getAtG (i := b) (by rw [hRl]; exact hb)
      have f8 := J2.out.frozen b
      have N2 := Lib.hid (J2.out.setI b (orF (R.getD b 0) (2 ^ a)))
      have N1 := Lib.hid ((J1.out.far (p := ⟨w.heap.size + 1, b, none⟩) (show w.heap.size ≠ w.heap.size + 1 by omega) (.int .u16 (orF (R.getD b 0) (2 ^ a)))).drew)
      have NB := Lib.hid (below_drew (B3.out.setCell (p := ⟨w.heap.size + 1, b, none⟩) (show w.heap.size ≤ w.heap.size + 1 by omega) (.int .u16 (orF (R.getD b 0) (2 ^ a)))))
      have HI2 : Hid (IsM (R.set b (orF (R.getD b 0) (2 ^ a))) (mvB idT (C.take (k + 1)))) := HI
      generalize R.getD b 0 = v at *
      clear HI
      go_region
      go_wp2
      exact ⟨⟨k + 1, _, by omega, by go_num, HI2, N1, Lib.hid N2.out.drew, by rw [World.size_drew, size_setCell]; omega, NB⟩, by simp [intOf]; omega⟩
    · obtain rfl : k = C.length := by omega
      rw [List.take_length] at HR
      have hRl := HR.out.len
      have hRM := HEN.out R HR.out
      have HRM := Lib.hid hRM
      clear HCE hRM
      go_wp2_with (first
        | refine wpList_load_row rfl _ _ rfl (w.heap.size + 1) rfl 44 (ivs .u16 R) (0, 0) _ K2.out Tryd.underlying44 rfl (by rw [ivs_size, hRl]; exact size44) ?_
        | refine wpList_store_row rfl _ _ _ rfl w.heap.size (ivs .u16 R) rfl rfl 44 _ K1.out (by rw [ivs_size, hRl]; exact size44) (by rw [ivs_size, ivs_size, hRl]; rfl) ivs_one ?_)
      exact bodyPost_ret (results_row_tmpM rfl _ _ w.heap.size 44 (ivs .u16 R) (0, 0) _ rfl (K1.out.row _) Tryd.underlying44 rfl (by rw [ivs_size, hRl]; exact size44)) rfl ⟨by rw [HRM.out]; rfl, below_setRow HB.out (Nat.le_refl _) _⟩
end Go.Proofs.YtmagaapdijapiaaDoor
