/- Me1 in one text. -/
import Derived.Test.YtmagaapdijapiaaDoorRows
import Derived.Test.YtmagaapdijapiaaDoorBz1
import Derived.Test.YtmagaapdijapiaaDoorCb
import Derived.Deep.RegionWith
import Derived.Deep.CutRange
import Derived.Deep.CutBlock
import Derived.IntWalk
import Derived.Deep.QuietTactic
import Derived.BigQuiet
namespace Go.Proofs.YtmagaapdijapiaaDoor
open Go.ChangeShapes Go.WideShapes Go.ChangeAt Go.RowKit
theorem cTurn_any (a b : Nat) (_ha : a < 16) (hb : b < 16) (w : World) : Calls Tryd.prog 54 #[.int .i64 a, .int .i64 b] w fun e w' => e = .returned (.tuple #[.int .i64 (turnT a b).1, .int .i64 (turnT a b).2]) ∧ Below w.heap.size w w' := by
  have u1 : IntKind.i64.wrap (15 - (b : Int)) = 15 - (b : Int) := IntWalk.i64_in _ (by omega)
  go_enter Tryd.func54, Tryd.ntmps54
  go_wp2
  go_ret2
  exact ⟨rfl, Below.refl _ _⟩
set_option maxRecDepth 20000 in
set_option maxHeartbeats 3200000 in
theorem mvTurn_any (M : List Int) (hM : M.length = 16) (h16 : is16 M) (w : World) :
    Calls Tryd.prog 53 #[.agg (ivs .u16 M), .func (.func 54) #[] #[]] w fun e w' => ∃ R, IsM R (mvB turnT (mCells M)) ∧ e = .returned (.agg (ivs .u16 R)) ∧ Below w.heap.size w w' := by
  obtain ⟨w1, hw1⟩ : ∃ w1, w1 = ((w.alloc (.cells (ivs .u16 M) 44)).alloc (.cells (ivs .u16 zr16) 44)).alloc (.cells (ivs .u16 zr16) 44) := ⟨_, rfl⟩
  have h0 : Blk w1 w.heap.size 44 (ivs .u16 M) := by rw [hw1]; exact ((Blk.newAt rfl rfl).alloc _).alloc _
  have h1 : Blk w1 (w.heap.size + 1) 44 (ivs .u16 zr16) := by rw [hw1]; exact (Blk.newAt (by simp) rfl).alloc _
  have h2 : Blk w1 (w.heap.size + 2) 44 (ivs .u16 zr16) := by rw [hw1]; exact Blk.newAt (by simp) rfl
  have hB : Below w.heap.size w w1 := by rw [hw1]; exact (((Below.refl _ _).alloc (Nat.le_refl _) _).alloc (by simp) _).alloc (by simp; omega) _
  have z1 := h2.lt
  have HCO := Lib.hid (fun W => iCellsOf_any M hM h16 W)
  unfold GivesCells at HCO
  have HCE : Hid (∀ k (hk : k < (mCells M).length), ∃ a b : Nat, a < 16 ∧ b < 16 ∧ (mCells M)[k] = [(a : Int), (b : Int)]) := Lib.hid (fun k hk => mCells_at hk)
  have hcl : (mCells M).length ≤ 256 := by rw [mCells]; exact cellsTo_length _ _
  have hrw : Rows_ 2 (mCells M) := cellsTo_rows _ _
  have HRW := Lib.hid hrw
  have HM1 := Lib.hid hM
  have H0 : Hid (Blk (((w.alloc (.cells (ivs .u16 M) 44)).alloc (.cells (ivs .u16 zr16) 44)).alloc (.cells (ivs .u16 zr16) 44)) w.heap.size 44 (ivs .u16 M)) := Lib.hid (by rw [← hw1]; exact h0)
  have H1 := Lib.hid h1
  have H2 := Lib.hid h2
  have HB1 := Lib.hid hB
  have HCL : Hid (∀ (a b : Nat), a < 16 → b < 16 → ∀ W, Below w.heap.size w W → Calls Tryd.prog 54 #[.int .i64 a, .int .i64 b] W fun e w' => e = .returned (.tuple #[.int .i64 (turnT a b).1, .int .i64 (turnT a b).2]) ∧ Below W.heap.size W w') := Lib.hid (fun a b ha hb W hW => cTurn_any a b ha hb W)
  have HPL := Lib.hid (fun n W => isPlace_any n W)
  clear h0 h1 h2 hB hrw hM h16
  generalize mCells M = C at *
  go_enter Tryd.func53, Tryd.ntmps53
  go_wp2_with (first
    | refine wpList_load_row rfl _ _ rfl w.heap.size rfl 44 (ivs .u16 M) (0, 0) _ H0.out Tryd.underlying44 rfl (by rw [ivs_size, HM1.out]; exact size44) ?_
    | (go_at_call 21; refine (HCO.out _).mono ?_; rintro e w2 ⟨gC, cC, rfl, hO2, hb2'⟩; have hb2 : Below w1.heap.size w1 w2 := (by rw [hw1]; exact hb2'); clear hb2'; have z2 := hb2.size; have K1 := Lib.hid (H1.out.below hb2 (by omega)); have K2 := Lib.hid (H2.out.below hb2 (by omega)); have B2 := Lib.hid (HB1.out.trans (hb2.mono (by omega))); have O2 := Lib.hid hO2; have HGC : Hid (w.heap.size + 3 ≤ gC) := Lib.hid (by have h5 := hO2.blk gC rfl; have h6 := h5.1; simp only [size_alloc] at h6; omega); clear hb2 hO2))
  obtain ⟨wp, rfl⟩ : ∃ W : World, W = w2 := ⟨_, rfl⟩
  clear H0 H1 H2 HB1 hw1
  go_loopw [14] (fun i wr => ∃ (k : Nat) (R : List Int), k ≤ C.length ∧ i = .int .i64 k ∧ Hid (IsM R (mvB turnT (C.take k))) ∧ Hid (Blk wr (w.heap.size + 1) 44 (ivs .u16 zr16)) ∧ Hid (Blk wr (w.heap.size + 2) 44 (ivs .u16 R)) ∧ Hid (Rd wr wp.heap.size 2 (some ⟨gC, 0, none⟩) C.length (pvs C)) ∧ wp.heap.size ≤ wr.heap.size ∧ Hid (Below w.heap.size w wr)) (fun i _ => C.length - (intOf i).toNat)
  case atStart => exact ⟨0, zr16, by omega, rfl, Lib.hid IsM.zero, K1, K2, Lib.hid O2.out.rd, Nat.le_refl _, B2⟩
  case round =>
    clear K1 K2 O2 B2
    obtain ⟨k, R, hk, rfl, HR, K1, K2, HRC, hzr, HB⟩ := hrel
    by_cases hlt : k < C.length
    · have hki : (k : Int) < C.length := by omega
      obtain ⟨a, b, ha, hb, hab⟩ := HCE.out k hlt
      obtain ⟨gC', oC, hAC, hgC, hcC⟩ := HRC.out.at_ (by omega)
      cases hAC
      have hrg : wr.rangeAt gC (0 + k * 2) ((C[k]).map (.int .i32)) := by
        have h2 := Rd.rangeAt (i := k * 2) (s := 2) hcC
        rw [pvs, ← List.map_drop, ← List.map_take, flat_row HRW.out hlt] at h2
        exact h2
      rw [hab, Nat.zero_add] at hrg
      have HRG := Lib.hid hrg
      have HTK : Hid (C.take (k + 1) = C.take k ++ [[(a : Int), (b : Int)]]) := Lib.hid (by rw [List.take_succ_eq_append_getElem hlt, hab])
      have HC1 := Lib.hid (fun W => HCL.out a b ha hb W)
      obtain ⟨p, hp⟩ : ∃ p, p = (turnT (a : Int) (b : Int)).1 := ⟨_, rfl⟩
      obtain ⟨q, hq⟩ : ∃ q, q = (turnT (a : Int) (b : Int)).2 := ⟨_, rfl⟩
      rw [← hp, ← hq] at HC1
      have HPQ : Hid (turnT (a : Int) (b : Int) = (p, q)) := Lib.hid (by rw [hp, hq])
      have ha0 : (0 : Int) ≤ a := by omega
      have ha1 : (a : Int) < 16 := by omega
      have hb0 : (0 : Int) ≤ b := by omega
      have hb1 : (b : Int) < 16 := by omega
      have hwr := HB.out.size
      have hne : gC ≠ w.heap.size + 2 := by have := HGC.out; omega
      clear hcC hrg hab hp hq
      rcases place_or p q with ⟨p', q', hp', hq', rfl, rfl⟩ | hno
      · have HP1 := Lib.hid (fun W => isPlace_any (p' : Int) W)
        have HP2 := Lib.hid (fun W => isPlace_any (q' : Int) W)
        rw [plB_in hp'] at HP1
        rw [plB_in hq'] at HP2
        have hRl := HR.out.len
        have hwp := pow16 hp'
        have p0 : (0 : Int) ≤ p' := by omega
        have p1 : (p' : Int) < 16 := by omega
        have q0 : (0 : Int) ≤ q' := by omega
        have q1 : (q' : Int) < 16 := by omega
        have HI : Hid (IsM (setOr R q' p') (mvB turnT (C.take (k + 1)))) := Lib.hid ((HR.out.set hp' hq').congr fun x y hx hy => by rw [HTK.out, mvB_snoc, HPQ.out, pair_eq])
        clear HPL HPQ HTK HCE HCL
        go_upto_region 7 with (first
        | refine wpList_load_ivs rfl _ _ rfl gC (k * 2) rfl .i32 [(a : Int), (b : Int)] _ HRG.out Tryd.underlying35 rfl (by exact size35) ?_
        | (refine wpList_store_row rfl _ _ _ rfl wr.heap.size (ivs .i32 [(a : Int), (b : Int)]) rfl rfl 35 (ivs .i32 [0, 0]) (Blk.newAt rfl rfl) (by exact size35) rfl ivs_one ?_; generalize hw3 : World.setRow _ _ _ = w3; have K3 : Hid (Blk w3 wr.heap.size 35 (ivs .i32 [(a : Int), (b : Int)])) := Lib.hid (by rw [← hw3]; exact (Blk.newAt rfl rfl).row _); have b3 : Below wr.heap.size wr w3 := (by rw [← hw3]; exact below_setRow ((Below.refl _ _).alloc (Nat.le_refl _) _) (Nat.le_refl _) _); clear hw3; have y3 := b3.size; have B3 := Lib.hid (HB.out.trans (b3.mono hwr)); have J1 := Lib.hid (K1.out.below b3 (by omega)); have J2 := Lib.hid (K2.out.below b3 (by omega)); have JR := Lib.hid (HRC.out.below b3 hzr); clear b3; have d0 : w3.cell? ⟨wr.heap.size, 0, none⟩ = some (.int .i32 (a : Int)) := K3.out.cell 0; have d1 : w3.cell? ⟨wr.heap.size, 1, none⟩ = some (.int .i32 (b : Int)) := K3.out.cell 1)
        | (go_at_call 54; refine (HC1.out w3 B3.out).mono ?_; rintro e w4 ⟨rfl, hb4⟩; have y4 := hb4.size; have B4 := Lib.hid (B3.out.trans (hb4.mono (by omega))); have L1 := Lib.hid (J1.out.below hb4 (by omega)); have L2 := Lib.hid (J2.out.below hb4 (by omega)); have LR := Lib.hid (JR.out.below hb4 (by omega)); clear hb4 d0 d1)
        | (go_at_call 51; refine (HP1.out _).mono ?_; rintro e w5 ⟨rfl, rfl⟩)
        | (go_at_call 51; refine (HP2.out _).mono ?_; rintro e w5 ⟨rfl, rfl⟩))
        have c8 := L2.out.getAtG (i := q') (by rw [hRl]; exact hq')
        have f8 := L2.out.frozen q'
        have N2 := Lib.hid (L2.out.setI q' (orF (R.getD q' 0) (2 ^ p')))
        have N1 := Lib.hid ((L1.out.far (p := ⟨w.heap.size + 2, q', none⟩) (show w.heap.size + 1 ≠ w.heap.size + 2 by omega) (.int .u16 (orF (R.getD q' 0) (2 ^ p')))).drew)
        have NR := Lib.hid (Rd.setCellFar (g := w.heap.size + 2) (gC := gC) LR.out hne q' (.int .u16 (orF (R.getD q' 0) (2 ^ p'))))
        have NB := Lib.hid (below_drew (B4.out.setCell (p := ⟨w.heap.size + 2, q', none⟩) (show w.heap.size ≤ w.heap.size + 2 by omega) (.int .u16 (orF (R.getD q' 0) (2 ^ p')))))
        have HI2 : Hid (IsM (R.set q' (orF (R.getD q' 0) (2 ^ p'))) (mvB turnT (C.take (k + 1)))) := HI
        generalize R.getD q' 0 = v at *
        clear HI
        go_region
        go_wp2
        exact ⟨⟨k + 1, _, by omega, by go_num, HI2, N1, Lib.hid N2.out.drew, Lib.hid NR.out, by rw [World.size_drew, size_setCell]; omega, NB⟩, by simp [intOf]; omega⟩
      · have HI : Hid (IsM R (mvB turnT (C.take (k + 1)))) := Lib.hid (HR.out.congr fun x y hx hy => by rw [HTK.out, mvB_snoc, HPQ.out, pair_ne hx hy hno, Bool.or_false])
        have HP1 := Lib.hid (fun W => isPlace_any p W)
        have HP2 := Lib.hid (fun W => isPlace_any q W)
        clear HPL HPQ HTK HCE HCL
        cases hpp : plB p
        · rw [hpp] at HP1
          go_wp2_with (first
        | refine wpList_load_ivs rfl _ _ rfl gC (k * 2) rfl .i32 [(a : Int), (b : Int)] _ HRG.out Tryd.underlying35 rfl (by exact size35) ?_
        | (refine wpList_store_row rfl _ _ _ rfl wr.heap.size (ivs .i32 [(a : Int), (b : Int)]) rfl rfl 35 (ivs .i32 [0, 0]) (Blk.newAt rfl rfl) (by exact size35) rfl ivs_one ?_; generalize hw3 : World.setRow _ _ _ = w3; have K3 : Hid (Blk w3 wr.heap.size 35 (ivs .i32 [(a : Int), (b : Int)])) := Lib.hid (by rw [← hw3]; exact (Blk.newAt rfl rfl).row _); have b3 : Below wr.heap.size wr w3 := (by rw [← hw3]; exact below_setRow ((Below.refl _ _).alloc (Nat.le_refl _) _) (Nat.le_refl _) _); clear hw3; have y3 := b3.size; have B3 := Lib.hid (HB.out.trans (b3.mono hwr)); have J1 := Lib.hid (K1.out.below b3 (by omega)); have J2 := Lib.hid (K2.out.below b3 (by omega)); have JR := Lib.hid (HRC.out.below b3 hzr); clear b3; have d0 : w3.cell? ⟨wr.heap.size, 0, none⟩ = some (.int .i32 (a : Int)) := K3.out.cell 0; have d1 : w3.cell? ⟨wr.heap.size, 1, none⟩ = some (.int .i32 (b : Int)) := K3.out.cell 1)
        | (go_at_call 54; refine (HC1.out w3 B3.out).mono ?_; rintro e w4 ⟨rfl, hb4⟩; have y4 := hb4.size; have B4 := Lib.hid (B3.out.trans (hb4.mono (by omega))); have L1 := Lib.hid (J1.out.below hb4 (by omega)); have L2 := Lib.hid (J2.out.below hb4 (by omega)); have LR := Lib.hid (JR.out.below hb4 (by omega)); clear hb4 d0 d1)
        | (go_at_call 51; refine (HP1.out _).mono ?_; rintro e w5 ⟨rfl, rfl⟩))
          exact ⟨⟨k + 1, R, by omega, by go_num, HI, L1, L2, LR, by omega, B4⟩, by simp [intOf]; omega⟩
        · rw [hpp, Bool.true_and] at hno
          rw [hpp] at HP1
          rw [hno] at HP2
          go_wp2_with (first
        | refine wpList_load_ivs rfl _ _ rfl gC (k * 2) rfl .i32 [(a : Int), (b : Int)] _ HRG.out Tryd.underlying35 rfl (by exact size35) ?_
        | (refine wpList_store_row rfl _ _ _ rfl wr.heap.size (ivs .i32 [(a : Int), (b : Int)]) rfl rfl 35 (ivs .i32 [0, 0]) (Blk.newAt rfl rfl) (by exact size35) rfl ivs_one ?_; generalize hw3 : World.setRow _ _ _ = w3; have K3 : Hid (Blk w3 wr.heap.size 35 (ivs .i32 [(a : Int), (b : Int)])) := Lib.hid (by rw [← hw3]; exact (Blk.newAt rfl rfl).row _); have b3 : Below wr.heap.size wr w3 := (by rw [← hw3]; exact below_setRow ((Below.refl _ _).alloc (Nat.le_refl _) _) (Nat.le_refl _) _); clear hw3; have y3 := b3.size; have B3 := Lib.hid (HB.out.trans (b3.mono hwr)); have J1 := Lib.hid (K1.out.below b3 (by omega)); have J2 := Lib.hid (K2.out.below b3 (by omega)); have JR := Lib.hid (HRC.out.below b3 hzr); clear b3; have d0 : w3.cell? ⟨wr.heap.size, 0, none⟩ = some (.int .i32 (a : Int)) := K3.out.cell 0; have d1 : w3.cell? ⟨wr.heap.size, 1, none⟩ = some (.int .i32 (b : Int)) := K3.out.cell 1)
        | (go_at_call 54; refine (HC1.out w3 B3.out).mono ?_; rintro e w4 ⟨rfl, hb4⟩; have y4 := hb4.size; have B4 := Lib.hid (B3.out.trans (hb4.mono (by omega))); have L1 := Lib.hid (J1.out.below hb4 (by omega)); have L2 := Lib.hid (J2.out.below hb4 (by omega)); have LR := Lib.hid (JR.out.below hb4 (by omega)); clear hb4 d0 d1)
        | (go_at_call 51; refine (HP1.out _).mono ?_; rintro e w5 ⟨rfl, rfl⟩)
        | (go_at_call 51; refine (HP2.out _).mono ?_; rintro e w5 ⟨rfl, rfl⟩))
          exact ⟨⟨k + 1, R, by omega, by go_num, HI, L1, L2, LR, by omega, B4⟩, by simp [intOf]; omega⟩
    · obtain rfl : k = C.length := by omega
      rw [List.take_length] at HR
      have hRl := HR.out.len
      clear HCE HCL HPL
      go_wp2_with (first
        | refine wpList_load_row rfl _ _ rfl (w.heap.size + 2) rfl 44 (ivs .u16 R) (0, 0) _ K2.out Tryd.underlying44 rfl (by rw [ivs_size, hRl]; exact size44) ?_
        | refine wpList_store_row rfl _ _ _ rfl (w.heap.size + 1) (ivs .u16 R) rfl rfl 44 _ K1.out (by rw [ivs_size, hRl]; exact size44) (by rw [ivs_size, ivs_size, hRl]; rfl) ivs_one ?_)
      exact bodyPost_ret (results_cell_row rfl _ _ (w.heap.size + 1) 44 (ivs .u16 R) (0, 0) _ rfl (K1.out.row _) Tryd.underlying44 rfl (by rw [ivs_size, hRl]; exact size44)) rfl ⟨R, HR.out, rfl, below_setRow HB.out (by omega) _⟩
set_option maxRecDepth 20000 in
set_option maxHeartbeats 1600000 in
theorem iTurnMask_any (M : List Int) (hM : M.length = 16) (h16 : is16 M) (w : World) :
    Calls Tryd.prog 24 #[.agg (ivs .u16 M)] w fun e w' => ∃ R, IsM R (fun x y => bitB M y (15 - x)) ∧ e = .returned (.agg (ivs .u16 R)) ∧ Below w.heap.size w w' := by
  have H0 : Hid (Blk ((w.alloc (.cells (ivs .u16 M) 44)).alloc (.cells (ivs .u16 zr16) 44)) w.heap.size 44 (ivs .u16 M)) := Lib.hid ((Blk.newAt rfl rfl).alloc _)
  have H1 : Hid (Blk ((w.alloc (.cells (ivs .u16 M) 44)).alloc (.cells (ivs .u16 zr16) 44)) (w.heap.size + 1) 44 (ivs .u16 zr16)) := Lib.hid (Blk.newAt (by simp) rfl)
  have HB : Hid (Below w.heap.size w ((w.alloc (.cells (ivs .u16 M) 44)).alloc (.cells (ivs .u16 zr16) 44))) := Lib.hid (((Below.refl _ _).alloc (Nat.le_refl _) _).alloc (by simp) _)
  have HM := Lib.hid (fun W => mvTurn_any M hM h16 W)
  have HG : Hid (∀ R, IsM R (mvB turnT (mCells M)) → IsM R (fun x y => bitB M y (15 - x))) := Lib.hid (fun R h => h.congr fun x y hx hy => mv_turn hx hy)
  have HL := Lib.hid hM
  clear hM h16
  go_enter Tryd.func24, Tryd.ntmps24
  go_wp2_with (first
    | refine wpList_load_row rfl _ _ rfl w.heap.size rfl 44 (ivs .u16 M) (0, 0) _ H0.out Tryd.underlying44 rfl (by rw [ivs_size, HL.out]; exact size44) ?_
    | (go_at_call 53; refine (HM.out _).mono ?_; rintro e w2 ⟨R, hR, rfl, hb2⟩; have HR := Lib.hid (HG.out R hR); have hRl := hR.len; have H2 := Lib.hid (H1.out.below hb2 H1.out.lt); have B2 := Lib.hid (HB.out.trans (hb2.mono (by simp only [size_alloc]; omega))); clear hb2 hR)
    | refine wpList_store_row rfl _ _ _ rfl (w.heap.size + 1) (ivs .u16 R) rfl rfl 44 _ H2.out (by rw [ivs_size, hRl]; exact size44) (by rw [ivs_size, ivs_size, hRl]; rfl) ivs_one ?_)
  exact bodyPost_ret (results_cell_row rfl _ _ (w.heap.size + 1) 44 (ivs .u16 R) (0, 0) _ rfl (H2.out.row _) Tryd.underlying44 rfl (by rw [ivs_size, hRl]; exact size44)) rfl ⟨R, HR.out, rfl, below_setRow B2.out (by omega) _⟩
end Go.Proofs.YtmagaapdijapiaaDoor
