/- Vb, Mw in one text. -/
import Derived.Test.YtmagaapdijapiaaDoorRows
import Derived.Test.YtmagaapdijapiaaDoorUd
import Derived.Test.YtmagaapdijapiaaDoorUb
import Derived.Test.YtmagaapdijapiaaDoorBz4
import Derived.Test.YtmagaapdijapiaaDoorMv
import Derived.Test.YtmagaapdijapiaaDoorCh
import Derived.Test.YtmagaapdijapiaaDoorBz2
import Derived.Test.YtmagaapdijapiaaDoorBz3
import Derived.Test.YtmagaapdijapiaaDoorBz5
import Derived.Test.YtmagaapdijapiaaDoorMc
import Derived.Test.YtmagaapdijapiaaDoorBz6
import Derived.Test.YtmagaapdijapiaaDoorYe
import Derived.Test.YtmagaapdijapiaaDoorBz1
import Derived.Deep.QuietTactic
import Derived.BigQuiet
import Derived.IntWalk
import Derived.Deep.CutRange
import Derived.Deep.CutBlock
namespace Go.Proofs.YtmagaapdijapiaaDoor
open Go.ChangeShapes Go.WideShapes Go.ChangeAt Go.RowKit

set_option maxHeartbeats 400000 in
theorem a2Long_in (A A2 : Option Addr) (n c n2 c2 : Nat) (hn : n ≤ 3000) (hn2 : n2 ≤ 3000) (w : World) :
    Calls Tryd.prog 5 #[.slice A n c, .slice A2 n2 c2] w fun e w' => e = .returned (.bool false) ∧ w = w' := by
  go_enter Tryd.func5, Tryd.ntmps5
  go_wp2
  go_ret
  exact ⟨by simp; omega, rfl⟩
set_option maxHeartbeats 400000 in
theorem a2Long_out (A A2 : Option Addr) (n c n2 c2 : Nat) (h : 3000 < n ∨ 3000 < n2) (w : World) :
    Calls Tryd.prog 5 #[.slice A n c, .slice A2 n2 c2] w fun e w' => e = .returned (.bool true) ∧ w = w' := by
  by_cases h1 : 3000 < n
  · have h2 : (3000 : Int) < (n : Int) := by omega
    clear h
    go_enter Tryd.func5, Tryd.ntmps5
    go_wp2
    go_ret
    exact ⟨rfl, rfl⟩
  · have h2 : (n : Int) ≤ 3000 := by omega
    have h3 : (3000 : Int) < (n2 : Int) := by omega
    clear h
    go_enter Tryd.func5, Tryd.ntmps5
    go_wp2
    go_ret
    exact ⟨rfl, rfl⟩

def atOf (l : List Int) (i : Nat) (m : Int) : Int := if i < l.length then l.getD i 0 % m else 0
theorem atOf_range (l : List Int) (i : Nat) {m : Int} (hm : 1 ≤ m) : 0 ≤ atOf l i m ∧ atOf l i m < m := by
  unfold atOf
  split
  · exact ⟨Int.emod_nonneg _ (by omega), Int.emod_lt_of_pos _ (by omega)⟩
  · omega
set_option maxHeartbeats 400000 in
theorem a2At_any (A : Option Addr) (n c : Nat) (l : List Int) (hl : l.length = n) (h255 : is255 l) (j : Int) (i : Nat) (hj : j = i) (m : Int) (hm : 1 ≤ m) (hm2 : m ≤ 1000000) (hn : n ≤ 3000) (w : World) (hR : Rd w w.heap.size 1 A n (l.map (.int .u8))) :
    Calls Tryd.prog 12 #[.slice A n c, .int .i64 j, .int .i64 m] w fun e w' => e = .returned (.int .i64 (atOf l i m)) ∧ w = w' := by
  subst hj
  by_cases hi : i < n
  · have e1 : atOf l i m = l.getD i 0 % m := by rw [atOf, if_pos (by omega)]
    rw [e1]
    obtain ⟨b, o, rfl, hbB, hc⟩ := hR.at_ (by omega)
    have c1 := hc i (.int .u8 (l.getD i 0)) (by rw [List.getElem?_map, List.getElem?_eq_getElem (by omega), List.getD_eq_getElem?_getD, List.getElem?_eq_getElem (by omega)]; rfl)
    obtain ⟨x0, x1⟩ := h255.getD i
    obtain ⟨x, hx⟩ : ∃ x, x = l.getD i 0 := ⟨_, rfl⟩
    rw [← hx] at c1 x0 x1 ⊢
    have hi2 : (i : Int) < (n : Int) := by omega
    clear hl h255 hR hbB hc e1 hx
    go_enter Tryd.func12, Tryd.ntmps12
    go_wp2
    go_ret
    exact ⟨rfl, rfl⟩
  · have e1 : atOf l i m = 0 := by rw [atOf, if_neg (by omega)]
    rw [e1]
    have hi2 : (n : Int) ≤ (i : Int) := by omega
    clear hl h255 hR e1 hi
    go_enter Tryd.func12, Tryd.ntmps12
    go_wp2
    go_ret
    exact ⟨rfl, rfl⟩

theorem conv_own {w : World} {lo hi : Nat} {A : Option Addr} {n c : Nat} {l : List Int} (h : Own w lo hi 5 1 A n c (l.map (.int .u8))) (hl : l.length = n) :
    ∃ s : ByteArray, (convert 22 9 (.slice A n c)).run Tryd.prog w = .ok (.string s) w ∧ s.toList = (strOfNums l).toList := by
  rcases h.2 with ⟨rfl, rfl, rfl⟩ | ⟨g, cur, rfl, h1, h2, h3, h4, h5, h6, h7⟩
  · have : l = [] := List.eq_nil_of_length_eq_zero hl
    subst this
    exact ⟨_, run_convert_bytes_nil w 22 5 Tryd.underlying22 Tryd.underlying5 0 0 9 Tryd.underlying9, rfl⟩
  · refine ⟨_, conv_bytes hl fun j v hv => ?_, rfl⟩
    rw [Nat.zero_add, h3.cell]
    rw [← h7, List.getElem?_take] at hv
    split at hv
    · simpa using hv
    · cases hv
end Go.Proofs.YtmagaapdijapiaaDoor
namespace Go.Proofs.YtmagaapdijapiaaDoor
open Go.ChangeShapes Go.WideShapes Go.ChangeAt Go.RowKit
section
attribute [local go_sem ↓] exec_ldMask
attribute [local go_sem] run_ldMask
set_option maxRecDepth 100000 in
set_option maxHeartbeats 12800000 in
theorem lawMasks_in (A : Option Addr) (n c : Nat) (l : List Int) (hl : l.length = n) (h255 : is255 l) (A2 : Option Addr) (n2 c2 : Nat) (l2 : List Int) (hl2 : l2.length = n2) (h255' : is255 l2) (hn : n ≤ 3000) (hn2 : n2 ≤ 3000) (w : World) (mx : Int) (hmx : w.cell? ⟨1, 0, none⟩ = some (.int .i64 mx)) (RA : Rd w w.heap.size 1 A n (l.map (.int .u8))) (RB : Rd w w.heap.size 1 A2 n2 (l2.map (.int .u8))) :
    Calls Tryd.prog 4 #[.slice A n c, .slice A2 n2 c2] w fun e w' => e = .returned (.bool true) ∧ Below w.heap.size w w' := by
  have hg1 : 1 < w.heap.size := Nat.lt_of_not_le fun h => by
    have h5 : w.heap[1]? = none := Array.getElem?_eq_none h
    simp [World.cell?, h5] at hmx
  obtain ⟨iu, hiu, hu0, hu1, hu2⟩ := info_parts U16_info
  have HMX : Hid (∀ W, Below w.heap.size w W → W.cell? ⟨1, 0, none⟩ = some (.int .i64 mx)) := Lib.hid (fun W hb => (hb.cell (p := ⟨1, 0, none⟩) hg1).trans hmx)
  have HRA : Hid (∀ W, Below w.heap.size w W → Rd W W.heap.size 1 A n (l.map (.int .u8))) := Lib.hid (fun W hb => (RA.below hb (Nat.le_refl _)).more hb.size)
  have HRB : Hid (∀ W, Below w.heap.size w W → Rd W W.heap.size 1 A2 n2 (l2.map (.int .u8))) := Lib.hid (fun W hb => (RB.below hb (Nat.le_refl _)).more hb.size)
  have AM : Hid (∀ W, Below w.heap.size w W → Calls Tryd.prog 16 #[.slice A n c] W fun e w' => ∃ M : List Int, M.length = 16 ∧ is16 M ∧ e = .returned (.agg (ivs .u16 M)) ∧ Below W.heap.size W w') := Lib.hid (fun W hb => A2Mask_any A n c l hl h255 (by omega) W (HRA.out W hb))
  have AN : Hid (∀ W, Below w.heap.size w W → Calls Tryd.prog 16 #[.slice A2 n2 c2] W fun e w' => ∃ M : List Int, M.length = 16 ∧ is16 M ∧ e = .returned (.agg (ivs .u16 M)) ∧ Below W.heap.size W w') := Lib.hid (fun W hb => A2Mask_any A2 n2 c2 l2 hl2 h255' (by omega) W (HRB.out W hb))
  have AT0 : Hid (∀ W, Below w.heap.size w W → Calls Tryd.prog 12 #[.slice A n c, .int .i64 0, .int .i64 16] W fun e w' => e = .returned (.int .i64 (atOf l 0 16)) ∧ W = w') := Lib.hid (fun W hb => a2At_any A n c l hl h255 0 0 rfl 16 (by decide) (by decide) hn W (HRA.out W hb))
  have AT1 : Hid (∀ W, Below w.heap.size w W → Calls Tryd.prog 12 #[.slice A n c, .int .i64 1, .int .i64 16] W fun e w' => e = .returned (.int .i64 (atOf l 1 16)) ∧ W = w') := Lib.hid (fun W hb => a2At_any A n c l hl h255 1 1 rfl 16 (by decide) (by decide) hn W (HRA.out W hb))
  have AT2 : Hid (∀ W, Below w.heap.size w W → Calls Tryd.prog 12 #[.slice A2 n2 c2, .int .i64 0, .int .i64 5] W fun e w' => e = .returned (.int .i64 (atOf l2 0 5)) ∧ W = w') := Lib.hid (fun W hb => a2At_any A2 n2 c2 l2 hl2 h255' 0 0 rfl 5 (by decide) (by decide) hn2 W (HRB.out W hb))
  have AT3 : Hid (∀ W, Below w.heap.size w W → Calls Tryd.prog 12 #[.slice A2 n2 c2, .int .i64 1, .int .i64 5] W fun e w' => e = .returned (.int .i64 (atOf l2 1 5)) ∧ W = w') := Lib.hid (fun W hb => a2At_any A2 n2 c2 l2 hl2 h255' 1 1 rfl 5 (by decide) (by decide) hn2 W (HRB.out W hb))
  have r0 := atOf_range l 0 (m := 16) (by decide)
  have r1 := atOf_range l 1 (m := 16) (by decide)
  have r2 := atOf_range l2 0 (m := 5) (by decide)
  have r3 := atOf_range l2 1 (m := 5) (by decide)
  have B_0 : Hid (Below w.heap.size w w) := Lib.hid (Below.refl _ _)
  clear hl h255 hl2 h255' RA RB HRA HRB hmx
  generalize atOf l 0 16 = t0 at *
  generalize atOf l 1 16 = t1 at *
  generalize atOf l2 0 5 = t2 at *
  generalize atOf l2 1 5 = t3 at *
  go_enter Tryd.func4, Tryd.ntmps4

  go_wp2_with fail
  refine (a2Long_in A A2 n c n2 c2 hn hn2 w).mono ?_
  rintro e wx ⟨rfl, rfl⟩
  go_wp2_with fail
  refine (AM.out _ B_0.out).mono ?_
  rintro e w1 ⟨M, hM, h16, rfl, hb⟩
  have B_1 := Lib.hid (B_0.out.trans (hb.mono B_0.out.size))
  have z_1 := hb.size
  clear hb  B_0
  have LM := Lib.hid hM
  have M16 := Lib.hid h16
  have GT : Hid (∀ W, Calls Tryd.prog 18 #[.agg (ivs .u16 M)] W fun e w' => e = .returned (.string (strOfNums (textTo M 16))) ∧ Below W.heap.size W w') := Lib.hid (fun W => iMaskText_any M hM h16 W)
  have GR : Hid (∀ W, W.cell? ⟨1, 0, none⟩ = some (.int .i64 mx) → Calls Tryd.prog 17 #[.string (strOfNums (textTo M 16))] W fun e w' => e = .returned (.tuple #[.agg (ivs .u16 M), .int .i64 0]) ∧ Below W.heap.size W w') := Lib.hid (fun W h => iReadMask_any M hM h16 W mx h)
  have GP : Hid (∀ W, Calls Tryd.prog 20 #[.agg (ivs .u16 M)] W (GivesPk (pmL M) W)) := Lib.hid (fun W => iPackMask_any M hM h16 W)
  unfold GivesPk at GP
  have GU : Hid (∀ (g n c : Nat) W, Rd W W.heap.size 1 (some ⟨g, 0, none⟩) (pmL M).length ((pmL M).map (.int .u8)) → Calls Tryd.prog 19 #[.slice (some ⟨g, 0, none⟩) (pmL M).length c] W fun e w' => e = .returned (.tuple #[.agg (ivs .u16 M), .int .i64 0]) ∧ Below W.heap.size W w') := Lib.hid (fun g n c W hW => by
    have h := iUnpackMask_any (some ⟨g, 0, none⟩) (pmL M).length c (pmL M) rfl (pmL_in M) (pmL_length M) W hW
    have hd := dec_pack hM h16
    have e1 : unC (pmL M) = 0 := by rw [unC, hd]; exact if_pos rfl
    have e2 : unM (pmL M) = M := by rw [unM, hd]; exact if_pos rfl
    rw [e1, e2] at h
    exact h)
  obtain ⟨K, hK⟩ : ∃ K, K = cnt (bitB M) 256 := ⟨_, rfl⟩
  have hcc := cells_cnt M
  obtain ⟨C, hC⟩ : ∃ C, C = mCells M := ⟨_, rfl⟩
  have GC : Hid (∀ W, Calls Tryd.prog 21 #[.agg (ivs .u16 M)] W (GivesCells C W)) := Lib.hid (fun W => by rw [hC]; exact iCellsOf_any M hM h16 W)
  unfold GivesCells at GC
  have GO : Hid (∀ A c W, Rd W W.heap.size 2 A C.length (pvs C) → Calls Tryd.prog 22 #[.slice A C.length c] W fun e w' => e = .returned (.tuple #[.agg (ivs .u16 M), .int .i64 0]) ∧ Below W.heap.size W w') := Lib.hid (fun A c W hW => by rw [hC] at hW ⊢; exact iMaskOf_any M hM h16 A c W hW)
  have GK : Hid (∀ W, Calls Tryd.prog 23 #[.agg (ivs .u16 M)] W fun e w' => e = .returned (.int .i64 K) ∧ Below W.heap.size W w') := Lib.hid (fun W => by rw [hK]; exact iCountCells_any M hM h16 W)
  have hcl := cnt_le (bitB M) 256
  rw [← hK] at hcl
  rw [← hC, ← hK] at hcc
  have HCC := Lib.hid hcc
  have HKK := Lib.hid hK
  have GM : Hid (∀ W, Calls Tryd.prog 25 #[.agg (ivs .u16 M)] W fun e w' => ∃ R, IsM R (fun x y => bitB M (15 - x) y) ∧ e = .returned (.agg (ivs .u16 R)) ∧ Below W.heap.size W w') := Lib.hid (fun W => iMirrorMask_any M hM h16 W)
  have GT1 : Hid (∀ W, Calls Tryd.prog 24 #[.agg (ivs .u16 M)] W fun e w' => ∃ R, IsM R (fun x y => bitB M y (15 - x)) ∧ e = .returned (.agg (ivs .u16 R)) ∧ Below W.heap.size W w') := Lib.hid (fun W => iTurnMask_any M hM h16 W)
  have HEQ : Hid (∀ W : World, (Op.equalIn 10000 44 (.agg (ivs .u16 M)) (.agg (ivs .u16 M))).run Tryd.prog W = .ok true W) := Lib.hid (fun W => by
    have h := run_eql_arr (a := M) (b := M) W Tryd.underlying44 Tryd.underlying42 hiu (by kernel_rfl) hM hM
    rwa [beq_self_eq_true] at h)
  clear hC hM h16 hcc hK
  go_wp2_with (first
    | (refine wpList_store_row rfl _ _ _ rfl w1.heap.size (ivs .u16 M) rfl rfl 44 (ivs .u16 zr16) (Blk.newAt rfl rfl) (by rw [ivs_size, LM.out]; exact size44) (by rw [ivs_size, ivs_size, LM.out]; rfl) ivs_one ?_; generalize hw : World.setRow _ _ _ = w2; have Fm_2 : Hid (Blk w2 w1.heap.size 44 (ivs .u16 M)) := Lib.hid (by rw [← hw]; exact (Blk.newAt rfl rfl).row _); have hb : Below w1.heap.size w1 w2 := (by rw [← hw]; exact below_setRow ((Below.refl _ _).alloc (Nat.le_refl _) _) (Nat.le_refl _) _); clear hw; have y_2 := Fm_2.out.lt; have B_2 := Lib.hid (B_1.out.trans (hb.mono B_1.out.size)); have z_2 := hb.size; clear hb  B_1)
    | refine wpList_load_row rfl _ _ rfl w1.heap.size rfl 44 (ivs .u16 M) (0, 0) _ Fm_2.out Tryd.underlying44 rfl (by rw [ivs_size, LM.out]; exact size44) ?_)
  refine (AN.out _ B_2.out).mono ?_
  rintro e w3 ⟨N, hN, hN16, rfl, hb⟩
  have LN := Lib.hid hN
  have N16 := Lib.hid hN16
  clear hN hN16
  have Fm_3 := Lib.hid (Fm_2.out.below hb (by omega))
  have B_3 := Lib.hid (B_2.out.trans (hb.mono B_2.out.size))
  have z_3 := hb.size
  clear hb Fm_2 B_2
  go_wp2_with (first
    | refine wpList_load_row rfl _ _ rfl w1.heap.size rfl 44 (ivs .u16 M) (0, 0) _ Fm_3.out Tryd.underlying44 rfl (by rw [ivs_size, LM.out]; exact size44) ?_
    | (refine wpList_store_row rfl _ _ _ rfl w3.heap.size (ivs .u16 N) rfl rfl 44 (ivs .u16 zr16) (Blk.newAt rfl rfl) (by rw [ivs_size, LN.out]; exact size44) (by rw [ivs_size, ivs_size, LN.out]; rfl) ivs_one ?_; generalize hw : World.setRow _ _ _ = w4; have Fn_4 : Hid (Blk w4 w3.heap.size 44 (ivs .u16 N)) := Lib.hid (by rw [← hw]; exact (Blk.newAt rfl rfl).row _); have hb : Below w3.heap.size w3 w4 := (by rw [← hw]; exact below_setRow ((Below.refl _ _).alloc (Nat.le_refl _) _) (Nat.le_refl _) _); clear hw; have y_4 := Fn_4.out.lt; have Fm_4 := Lib.hid (Fm_3.out.below hb (by omega)); have B_4 := Lib.hid (B_3.out.trans (hb.mono B_3.out.size)); have z_4 := hb.size; clear hb Fm_3 B_3)
    | refine wpList_load_row rfl _ _ rfl w1.heap.size rfl 44 (ivs .u16 M) (0, 0) _ Fm_4.out Tryd.underlying44 rfl (by rw [ivs_size, LM.out]; exact size44) ?_
    | refine wpList_load_row rfl _ _ rfl w3.heap.size rfl 44 (ivs .u16 N) (0, 0) _ Fn_4.out Tryd.underlying44 rfl (by rw [ivs_size, LN.out]; exact size44) ?_)
  obtain ⟨tx, htx⟩ : ∃ s, s = strOfNums (textTo M 16) := ⟨_, rfl⟩
  rw [← htx] at GT GR
  clear htx
  refine (GT.out _).mono ?_
  rintro e w5 ⟨rfl, hb⟩
  have Fm_5 := Lib.hid (Fm_4.out.below hb (by omega))
  have Fn_5 := Lib.hid (Fn_4.out.below hb (by omega))
  have B_5 := Lib.hid (B_4.out.trans (hb.mono B_4.out.size))
  have z_5 := hb.size
  clear hb Fm_4 Fn_4 B_4
  go_wp2_with (first
    | refine wpList_load_row rfl _ _ rfl w1.heap.size rfl 44 (ivs .u16 M) (0, 0) _ Fm_5.out Tryd.underlying44 rfl (by rw [ivs_size, LM.out]; exact size44) ?_
    | refine wpList_load_row rfl _ _ rfl w3.heap.size rfl 44 (ivs .u16 N) (0, 0) _ Fn_5.out Tryd.underlying44 rfl (by rw [ivs_size, LN.out]; exact size44) ?_)
  refine (GR.out _ (HMX.out _ B_5.out)).mono ?_
  rintro e w6 ⟨rfl, hb⟩
  have Fm_6 := Lib.hid (Fm_5.out.below hb (by omega))
  have Fn_6 := Lib.hid (Fn_5.out.below hb (by omega))
  have B_6 := Lib.hid (B_5.out.trans (hb.mono B_5.out.size))
  have z_6 := hb.size
  clear hb Fm_5 Fn_5 B_5
  go_wp2_with (first
    | refine wpList_load_row rfl _ _ rfl w1.heap.size rfl 44 (ivs .u16 M) (0, 0) _ Fm_6.out Tryd.underlying44 rfl (by rw [ivs_size, LM.out]; exact size44) ?_
    | refine wpList_load_row rfl _ _ rfl w3.heap.size rfl 44 (ivs .u16 N) (0, 0) _ Fn_6.out Tryd.underlying44 rfl (by rw [ivs_size, LN.out]; exact size44) ?_
    | (refine wpList_store_row rfl _ _ _ rfl w6.heap.size (ivs .u16 M) rfl rfl 44 (ivs .u16 zr16) (Blk.newAt rfl rfl) (by rw [ivs_size, LM.out]; exact size44) (by rw [ivs_size, ivs_size, LM.out]; rfl) ivs_one ?_; generalize hw : World.setRow _ _ _ = w7; have Fa_7 : Hid (Blk w7 w6.heap.size 44 (ivs .u16 M)) := Lib.hid (by rw [← hw]; exact (Blk.newAt rfl rfl).row _); have hb : Below w6.heap.size w6 w7 := (by rw [← hw]; exact below_setRow ((Below.refl _ _).alloc (Nat.le_refl _) _) (Nat.le_refl _) _); clear hw; have y_7 := Fa_7.out.lt; have Fm_7 := Lib.hid (Fm_6.out.below hb (by omega)); have Fn_7 := Lib.hid (Fn_6.out.below hb (by omega)); have B_7 := Lib.hid (B_6.out.trans (hb.mono B_6.out.size)); have z_7 := hb.size; clear hb Fm_6 Fn_6 B_6)
    | refine wpList_load_row rfl _ _ rfl w1.heap.size rfl 44 (ivs .u16 M) (0, 0) _ Fm_7.out Tryd.underlying44 rfl (by rw [ivs_size, LM.out]; exact size44) ?_
    | refine wpList_load_row rfl _ _ rfl w3.heap.size rfl 44 (ivs .u16 N) (0, 0) _ Fn_7.out Tryd.underlying44 rfl (by rw [ivs_size, LN.out]; exact size44) ?_
    | refine wpList_load_row rfl _ _ rfl w6.heap.size rfl 44 (ivs .u16 M) (0, 0) _ Fa_7.out Tryd.underlying44 rfl (by rw [ivs_size, LM.out]; exact size44) ?_)
  obtain ⟨D, hD⟩ : ∃ D, D = pmL M := ⟨_, rfl⟩
  rw [← hD] at GP GU
  clear hD
  refine (GP.out _).mono ?_
  rintro e w8 ⟨gP, cP, rfl, OP, hb⟩
  have RP := Lib.hid OP.rd
  clear OP
  have Fm_8 := Lib.hid (Fm_7.out.below hb (by omega))
  have Fn_8 := Lib.hid (Fn_7.out.below hb (by omega))
  have Fa_8 := Lib.hid (Fa_7.out.below hb (by omega))
  have B_8 := Lib.hid (B_7.out.trans (hb.mono B_7.out.size))
  have z_8 := hb.size
  clear hb Fm_7 Fn_7 Fa_7 B_7
  go_wp2_with (first
    | refine wpList_load_row rfl _ _ rfl w1.heap.size rfl 44 (ivs .u16 M) (0, 0) _ Fm_8.out Tryd.underlying44 rfl (by rw [ivs_size, LM.out]; exact size44) ?_
    | refine wpList_load_row rfl _ _ rfl w3.heap.size rfl 44 (ivs .u16 N) (0, 0) _ Fn_8.out Tryd.underlying44 rfl (by rw [ivs_size, LN.out]; exact size44) ?_
    | refine wpList_load_row rfl _ _ rfl w6.heap.size rfl 44 (ivs .u16 M) (0, 0) _ Fa_8.out Tryd.underlying44 rfl (by rw [ivs_size, LM.out]; exact size44) ?_)
  refine (GU.out gP 0 cP _ RP.out).mono ?_
  rintro e w9 ⟨rfl, hb⟩
  clear RP
  have Fm_9 := Lib.hid (Fm_8.out.below hb (by omega))
  have Fn_9 := Lib.hid (Fn_8.out.below hb (by omega))
  have Fa_9 := Lib.hid (Fa_8.out.below hb (by omega))
  have B_9 := Lib.hid (B_8.out.trans (hb.mono B_8.out.size))
  have z_9 := hb.size
  clear hb Fm_8 Fn_8 Fa_8 B_8
  go_wp2_with (first
    | refine wpList_load_row rfl _ _ rfl w1.heap.size rfl 44 (ivs .u16 M) (0, 0) _ Fm_9.out Tryd.underlying44 rfl (by rw [ivs_size, LM.out]; exact size44) ?_
    | refine wpList_load_row rfl _ _ rfl w3.heap.size rfl 44 (ivs .u16 N) (0, 0) _ Fn_9.out Tryd.underlying44 rfl (by rw [ivs_size, LN.out]; exact size44) ?_
    | refine wpList_load_row rfl _ _ rfl w6.heap.size rfl 44 (ivs .u16 M) (0, 0) _ Fa_9.out Tryd.underlying44 rfl (by rw [ivs_size, LM.out]; exact size44) ?_
    | (refine wpList_store_row rfl _ _ _ rfl w9.heap.size (ivs .u16 M) rfl rfl 44 (ivs .u16 zr16) (Blk.newAt rfl rfl) (by rw [ivs_size, LM.out]; exact size44) (by rw [ivs_size, ivs_size, LM.out]; rfl) ivs_one ?_; generalize hw : World.setRow _ _ _ = w10; have Fb_10 : Hid (Blk w10 w9.heap.size 44 (ivs .u16 M)) := Lib.hid (by rw [← hw]; exact (Blk.newAt rfl rfl).row _); have hb : Below w9.heap.size w9 w10 := (by rw [← hw]; exact below_setRow ((Below.refl _ _).alloc (Nat.le_refl _) _) (Nat.le_refl _) _); clear hw; have y_10 := Fb_10.out.lt; have Fm_10 := Lib.hid (Fm_9.out.below hb (by omega)); have Fn_10 := Lib.hid (Fn_9.out.below hb (by omega)); have Fa_10 := Lib.hid (Fa_9.out.below hb (by omega)); have B_10 := Lib.hid (B_9.out.trans (hb.mono B_9.out.size)); have z_10 := hb.size; clear hb Fm_9 Fn_9 Fa_9 B_9)
    | refine wpList_load_row rfl _ _ rfl w1.heap.size rfl 44 (ivs .u16 M) (0, 0) _ Fm_10.out Tryd.underlying44 rfl (by rw [ivs_size, LM.out]; exact size44) ?_
    | refine wpList_load_row rfl _ _ rfl w3.heap.size rfl 44 (ivs .u16 N) (0, 0) _ Fn_10.out Tryd.underlying44 rfl (by rw [ivs_size, LN.out]; exact size44) ?_
    | refine wpList_load_row rfl _ _ rfl w6.heap.size rfl 44 (ivs .u16 M) (0, 0) _ Fa_10.out Tryd.underlying44 rfl (by rw [ivs_size, LM.out]; exact size44) ?_
    | refine wpList_load_row rfl _ _ rfl w9.heap.size rfl 44 (ivs .u16 M) (0, 0) _ Fb_10.out Tryd.underlying44 rfl (by rw [ivs_size, LM.out]; exact size44) ?_)
  refine (GC.out _).mono ?_
  rintro e w11 ⟨gC, cC, rfl, OC, hb⟩
  have RC := Lib.hid OC.rd
  clear OC
  have Fm_11 := Lib.hid (Fm_10.out.below hb (by omega))
  have Fn_11 := Lib.hid (Fn_10.out.below hb (by omega))
  have Fa_11 := Lib.hid (Fa_10.out.below hb (by omega))
  have Fb_11 := Lib.hid (Fb_10.out.below hb (by omega))
  have B_11 := Lib.hid (B_10.out.trans (hb.mono B_10.out.size))
  have z_11 := hb.size
  clear hb Fm_10 Fn_10 Fa_10 Fb_10 B_10
  go_wp2_with (first
    | refine wpList_load_row rfl _ _ rfl w1.heap.size rfl 44 (ivs .u16 M) (0, 0) _ Fm_11.out Tryd.underlying44 rfl (by rw [ivs_size, LM.out]; exact size44) ?_
    | refine wpList_load_row rfl _ _ rfl w3.heap.size rfl 44 (ivs .u16 N) (0, 0) _ Fn_11.out Tryd.underlying44 rfl (by rw [ivs_size, LN.out]; exact size44) ?_
    | refine wpList_load_row rfl _ _ rfl w6.heap.size rfl 44 (ivs .u16 M) (0, 0) _ Fa_11.out Tryd.underlying44 rfl (by rw [ivs_size, LM.out]; exact size44) ?_
    | refine wpList_load_row rfl _ _ rfl w9.heap.size rfl 44 (ivs .u16 M) (0, 0) _ Fb_11.out Tryd.underlying44 rfl (by rw [ivs_size, LM.out]; exact size44) ?_)
  refine (GO.out _ cC _ RC.out).mono ?_
  rintro e w12 ⟨rfl, hb⟩
  clear RC
  have Fm_12 := Lib.hid (Fm_11.out.below hb (by omega))
  have Fn_12 := Lib.hid (Fn_11.out.below hb (by omega))
  have Fa_12 := Lib.hid (Fa_11.out.below hb (by omega))
  have Fb_12 := Lib.hid (Fb_11.out.below hb (by omega))
  have B_12 := Lib.hid (B_11.out.trans (hb.mono B_11.out.size))
  have z_12 := hb.size
  clear hb Fm_11 Fn_11 Fa_11 Fb_11 B_11
  have heq := HEQ.out
  clear AM AN GT GR GP GU GC GO
  go_wp2_with (first
    | refine wpList_load_row rfl _ _ rfl w1.heap.size rfl 44 (ivs .u16 M) (0, 0) _ Fm_12.out Tryd.underlying44 rfl (by rw [ivs_size, LM.out]; exact size44) ?_
    | refine wpList_load_row rfl _ _ rfl w3.heap.size rfl 44 (ivs .u16 N) (0, 0) _ Fn_12.out Tryd.underlying44 rfl (by rw [ivs_size, LN.out]; exact size44) ?_
    | refine wpList_load_row rfl _ _ rfl w6.heap.size rfl 44 (ivs .u16 M) (0, 0) _ Fa_12.out Tryd.underlying44 rfl (by rw [ivs_size, LM.out]; exact size44) ?_
    | refine wpList_load_row rfl _ _ rfl w9.heap.size rfl 44 (ivs .u16 M) (0, 0) _ Fb_12.out Tryd.underlying44 rfl (by rw [ivs_size, LM.out]; exact size44) ?_
    | (refine wpList_store_row rfl _ _ _ rfl w12.heap.size (ivs .u16 M) rfl rfl 44 (ivs .u16 zr16) (Blk.newAt rfl rfl) (by rw [ivs_size, LM.out]; exact size44) (by rw [ivs_size, ivs_size, LM.out]; rfl) ivs_one ?_; generalize hw : World.setRow _ _ _ = w13; have Fc_13 : Hid (Blk w13 w12.heap.size 44 (ivs .u16 M)) := Lib.hid (by rw [← hw]; exact (Blk.newAt rfl rfl).row _); have hb : Below w12.heap.size w12 w13 := (by rw [← hw]; exact below_setRow ((Below.refl _ _).alloc (Nat.le_refl _) _) (Nat.le_refl _) _); clear hw; have y_13 := Fc_13.out.lt; have Fm_13 := Lib.hid (Fm_12.out.below hb (by omega)); have Fn_13 := Lib.hid (Fn_12.out.below hb (by omega)); have Fa_13 := Lib.hid (Fa_12.out.below hb (by omega)); have Fb_13 := Lib.hid (Fb_12.out.below hb (by omega)); have B_13 := Lib.hid (B_12.out.trans (hb.mono B_12.out.size)); have z_13 := hb.size; clear hb Fm_12 Fn_12 Fa_12 Fb_12 B_12; have qr_m := Fm_13.out.rowAt_eq LM.out; have qh_m := Fm_13.out.hasRow_eq LM.out; have qr_n := Fn_13.out.rowAt_eq LN.out; have qh_n := Fn_13.out.hasRow_eq LN.out; have qr_a := Fa_13.out.rowAt_eq LM.out; have qh_a := Fa_13.out.hasRow_eq LM.out; have qr_b := Fb_13.out.rowAt_eq LM.out; have qh_b := Fb_13.out.hasRow_eq LM.out; have qr_c := Fc_13.out.rowAt_eq LM.out; have qh_c := Fc_13.out.hasRow_eq LM.out)
    | refine wpList_load_row rfl _ _ rfl w1.heap.size rfl 44 (ivs .u16 M) (0, 0) _ Fm_13.out Tryd.underlying44 rfl (by rw [ivs_size, LM.out]; exact size44) ?_
    | refine wpList_load_row rfl _ _ rfl w3.heap.size rfl 44 (ivs .u16 N) (0, 0) _ Fn_13.out Tryd.underlying44 rfl (by rw [ivs_size, LN.out]; exact size44) ?_
    | refine wpList_load_row rfl _ _ rfl w6.heap.size rfl 44 (ivs .u16 M) (0, 0) _ Fa_13.out Tryd.underlying44 rfl (by rw [ivs_size, LM.out]; exact size44) ?_
    | refine wpList_load_row rfl _ _ rfl w9.heap.size rfl 44 (ivs .u16 M) (0, 0) _ Fb_13.out Tryd.underlying44 rfl (by rw [ivs_size, LM.out]; exact size44) ?_
    | refine wpList_load_row rfl _ _ rfl w12.heap.size rfl 44 (ivs .u16 M) (0, 0) _ Fc_13.out Tryd.underlying44 rfl (by rw [ivs_size, LM.out]; exact size44) ?_)
  clear qr_m qh_m qr_n qh_n qr_a qh_a qr_b qh_b qr_c qh_c
  refine (GK.out _).mono ?_
  rintro e w14 ⟨rfl, hb⟩
  have Fm_14 := Lib.hid (Fm_13.out.below hb (by omega))
  have Fn_14 := Lib.hid (Fn_13.out.below hb (by omega))
  have Fa_14 := Lib.hid (Fa_13.out.below hb (by omega))
  have Fb_14 := Lib.hid (Fb_13.out.below hb (by omega))
  have Fc_14 := Lib.hid (Fc_13.out.below hb (by omega))
  have B_14 := Lib.hid (B_13.out.trans (hb.mono B_13.out.size))
  have z_14 := hb.size
  clear hb Fm_13 Fn_13 Fa_13 Fb_13 Fc_13 B_13
  clear Fa_14
  clear Fb_14
  clear Fc_14
  have hcc := HCC.out
  clear heq
  go_wp2_with (first
    | refine wpList_load_row rfl _ _ rfl w1.heap.size rfl 44 (ivs .u16 M) (0, 0) _ Fm_14.out Tryd.underlying44 rfl (by rw [ivs_size, LM.out]; exact size44) ?_
    | refine wpList_load_row rfl _ _ rfl w3.heap.size rfl 44 (ivs .u16 N) (0, 0) _ Fn_14.out Tryd.underlying44 rfl (by rw [ivs_size, LN.out]; exact size44) ?_
    | (refine wpList_store_row rfl _ _ _ rfl w14.heap.size (ivs .u16 M) rfl rfl 44 (ivs .u16 zr16) (Blk.newAt rfl rfl) (by rw [ivs_size, LM.out]; exact size44) (by rw [ivs_size, ivs_size, LM.out]; rfl) ivs_one ?_; generalize hw : World.setRow _ _ _ = w15; have Ft_15 : Hid (Blk w15 w14.heap.size 44 (ivs .u16 M)) := Lib.hid (by rw [← hw]; exact (Blk.newAt rfl rfl).row _); have hb : Below w14.heap.size w14 w15 := (by rw [← hw]; exact below_setRow ((Below.refl _ _).alloc (Nat.le_refl _) _) (Nat.le_refl _) _); clear hw; have y_15 := Ft_15.out.lt; have Fm_15 := Lib.hid (Fm_14.out.below hb (by omega)); have Fn_15 := Lib.hid (Fn_14.out.below hb (by omega)); have B_15 := Lib.hid (B_14.out.trans (hb.mono B_14.out.size)); have z_15 := hb.size; clear hb Fm_14 Fn_14 B_14)
    | refine wpList_load_row rfl _ _ rfl w1.heap.size rfl 44 (ivs .u16 M) (0, 0) _ Fm_15.out Tryd.underlying44 rfl (by rw [ivs_size, LM.out]; exact size44) ?_
    | refine wpList_load_row rfl _ _ rfl w3.heap.size rfl 44 (ivs .u16 N) (0, 0) _ Fn_15.out Tryd.underlying44 rfl (by rw [ivs_size, LN.out]; exact size44) ?_
    | refine wpList_load_row rfl _ _ rfl w14.heap.size rfl 44 (ivs .u16 M) (0, 0) _ Ft_15.out Tryd.underlying44 rfl (by rw [ivs_size, LM.out]; exact size44) ?_)
  obtain ⟨wq, rfl⟩ : ∃ W : World, W = w15 := ⟨_, rfl⟩
  have HTG : Hid (∀ R, R.length = 16 → is16 R → ∀ W, Calls Tryd.prog 24 #[.agg (ivs .u16 R)] W fun e w' => ∃ S, IsM S (fun x y => bitB R y (15 - x)) ∧ e = .returned (.agg (ivs .u16 S)) ∧ Below W.heap.size W w') := Lib.hid (fun R h1 h2 W => iTurnMask_any R h1 h2 W)
  have hgT := Ft_15.out.lt
  go_loopw [15] (fun i wr => ∃ (j : Nat) (R : List Int), j ≤ 4 ∧ i = .int .i64 j ∧ Hid (IsM R (trn M j)) ∧ Hid (Blk wr w14.heap.size 44 (ivs .u16 R)) ∧ Hid (Below w14.heap.size wq wr)) (fun i _ => 4 - (intOf i).toNat)
  case atStart => exact ⟨0, M, by omega, rfl, Lib.hid (IsM.self LM.out M16.out), Ft_15, Lib.hid (Below.refl _ _)⟩
  case round =>
    obtain ⟨j, R, hj, rfl, HR, KR, HB⟩ := hrel
    have hRl := HR.out.len
    have hzr := HB.out.size
    by_cases hlt : j < 4
    · have hji : (j : Int) < 4 := by omega
      go_wp2_with (first
        | refine wpList_load_row rfl _ _ rfl w14.heap.size rfl 44 (ivs .u16 R) (0, 0) _ KR.out Tryd.underlying44 rfl (by rw [ivs_size, hRl]; exact size44) ?_
        | (go_at_call 24; refine (HTG.out R hRl HR.out.m16 _).mono ?_; rintro e w2 ⟨S, hS, rfl, hb2⟩; have K2 := Lib.hid (KR.out.below hb2 KR.out.lt); have HS := Lib.hid (trn_step HR.out hS); have hSl := hS.len; have B2 := Lib.hid (HB.out.trans (hb2.mono (by omega))); clear hb2 hS)
        | refine wpList_store_row rfl _ _ _ rfl w14.heap.size (ivs .u16 S) rfl rfl 44 _ K2.out (by rw [ivs_size, hSl]; exact size44) (by rw [ivs_size, ivs_size, hSl, hRl]) ivs_one ?_)
      exact ⟨⟨j + 1, S, by omega, by go_num, HS, Lib.hid (K2.out.row _), Lib.hid (below_setRow B2.out (Nat.le_refl _) _)⟩, by simp [intOf]; omega⟩
    · obtain rfl : j = 4 := by omega
      obtain rfl : M = R := (HR.out.eq (IsM.self LM.out M16.out) (fun x y hx hy => trn_four M hx hy)).symm
      obtain ⟨w100, rfl⟩ : ∃ W : World, W = wr := ⟨_, rfl⟩
      have Fm_100 := Lib.hid (Fm_15.out.below HB.out (by omega))
      have Fn_100 := Lib.hid (Fn_15.out.below HB.out (by omega))
      have B_100 := Lib.hid (B_15.out.trans (HB.out.mono (by have := B_15.out.size; omega)))
      have Ft_100 := KR
      have lm := Fm_100.out.lt
      have ln := Fn_100.out.lt
      have hzq : w1.heap.size < w14.heap.size ∧ w3.heap.size < w14.heap.size := by omega
      clear Fm_15 Fn_15 Ft_15 B_15 HB KR HR HTG hlt
      obtain ⟨R1, hR1⟩ := isM_ex (fun x y => bitB M (15 - x) y)
      obtain ⟨R2, hR2⟩ := isM_ex (fun x y => bitB M y (15 - x))
      have X1 : Hid (∀ W, Calls Tryd.prog 25 #[.agg (ivs .u16 M)] W fun e w' => e = .returned (.agg (ivs .u16 R1)) ∧ Below W.heap.size W w') := Lib.hid (fun W => mir_to LM.out M16.out hR1 W)
      have X2 : Hid (∀ W, Calls Tryd.prog 25 #[.agg (ivs .u16 R1)] W fun e w' => e = .returned (.agg (ivs .u16 M)) ∧ Below W.heap.size W w') := Lib.hid (fun W => mir_back LM.out M16.out hR1 W)
      have X3 : Hid (∀ W, Calls Tryd.prog 24 #[.agg (ivs .u16 M)] W fun e w' => e = .returned (.agg (ivs .u16 R2)) ∧ Below W.heap.size W w') := Lib.hid (fun W => turn_to LM.out M16.out hR2 W)
      have X4 : Hid (∀ W, Calls Tryd.prog 23 #[.agg (ivs .u16 R2)] W fun e w' => e = .returned (.int .i64 K) ∧ Below W.heap.size W w') := Lib.hid (fun W => cnt_to hR2.len hR2.m16 ((cnt_turned hR2).trans HKK.out.symm) W)
      clear GM GT1 hR1 hR2
      go_wp2_with fail
      have heq := HEQ.out
      have ttt : ∀ t : After w100, rowAt t.to w14.heap.size 0 16 = ivs .u16 M ∧ hasRow t.to w14.heap.size 0 16 = true := fun t => by
        have h := t.row Ft_100.out.lt Ft_100.out.range0
        rw [List.length_map, LM.out] at h
        exact h
      have ttm : ∀ t : After w100, rowAt t.to w1.heap.size 0 16 = ivs .u16 M ∧ hasRow t.to w1.heap.size 0 16 = true := fun t => by
        have h := t.row Fm_100.out.lt Fm_100.out.range0
        rw [List.length_map, LM.out] at h
        exact h
      try rw [put_none]
      refine region_after (by kernel_rfl) (by kernel_rfl) ?_
      repeat (go_big_quiet_step ((first | (go_at_call 25; exact After.call _ (X1.out _)) | (go_at_call 25; exact After.call _ (X2.out _)) | (go_at_call 24; exact After.call _ (X3.out _)) | (go_at_call 23; exact After.call _ (X4.out _)))))
      refine wpQuiet_nil ?_
      rintro _ ⟨t, rfl⟩
      have hb := t.h
      generalize t.to = w101 at hb ⊢
      clear t ttt ttm
      have Fm_101 := Lib.hid (Fm_100.out.below hb (by omega))
      have Fn_101 := Lib.hid (Fn_100.out.below hb (by omega))
      have Ft_101 := Lib.hid (Ft_100.out.below hb (by omega))
      have B_101 := Lib.hid (B_100.out.trans (hb.mono B_100.out.size))
      have z_101 := hb.size
      clear hb Fm_100 Fn_100 Ft_100 B_100
      clear Ft_101
      clear X1 X2 X3 X4 heq
      obtain ⟨J, hJ⟩ : ∃ J, J = opM orF M N := ⟨_, rfl⟩
      obtain ⟨E, hE⟩ : ∃ E, E = opM andF M N := ⟨_, rfl⟩
      obtain ⟨U, hU⟩ : ∃ U, U = opM notF M N := ⟨_, rfl⟩
      obtain ⟨Z, hZ⟩ : ∃ Z, Z = opM andF U N := ⟨_, rfl⟩
      have iJ := is_or LM.out M16.out LN.out N16.out
      have iE := is_and LM.out M16.out LN.out N16.out
      have iU := is_not LM.out M16.out LN.out N16.out
      have hsum := cnt_both LM.out M16.out LN.out N16.out
      have hmm := minus_meet LM.out M16.out LN.out N16.out
      have hmn := minus_none LM.out M16.out LN.out N16.out
      have X1 : Hid (∀ W, Calls Tryd.prog 26 #[.agg (ivs .u16 M), .agg (ivs .u16 N)] W fun e w' => e = .returned (.agg (ivs .u16 J)) ∧ Below W.heap.size W w') := Lib.hid (fun W => by rw [hJ]; exact iJoinMasks_any M N LM.out LN.out W)
      have X2 : Hid (∀ W, Calls Tryd.prog 27 #[.agg (ivs .u16 M), .agg (ivs .u16 N)] W fun e w' => e = .returned (.agg (ivs .u16 E)) ∧ Below W.heap.size W w') := Lib.hid (fun W => by rw [hE]; exact iMeetMasks_any M N LM.out LN.out W)
      have X3 : Hid (∀ W, Calls Tryd.prog 28 #[.agg (ivs .u16 M), .agg (ivs .u16 N)] W fun e w' => e = .returned (.agg (ivs .u16 U)) ∧ Below W.heap.size W w') := Lib.hid (fun W => by rw [hU]; exact iMinusMasks_any M N LM.out LN.out W)
      rw [← hJ] at iJ hsum
      rw [← hE] at iE hsum hmm
      rw [← hU] at iU hmm hmn
      rw [← hZ] at hmn
      have X4 : Hid (∀ W, Calls Tryd.prog 26 #[.agg (ivs .u16 U), .agg (ivs .u16 E)] W fun e w' => e = .returned (.agg (ivs .u16 M)) ∧ Below W.heap.size W w') := Lib.hid (fun W => by have h := iJoinMasks_any U E iU.len iE.len W; rw [hmm] at h; exact h)
      have X5 : Hid (∀ W, Calls Tryd.prog 27 #[.agg (ivs .u16 U), .agg (ivs .u16 N)] W fun e w' => e = .returned (.agg (ivs .u16 Z)) ∧ Below W.heap.size W w') := Lib.hid (fun W => by rw [hZ]; exact iMeetMasks_any U N iU.len LN.out W)
      have iZ := is_and iU.len iU.m16 LN.out N16.out
      rw [← hZ] at iZ
      rw [← HKK.out] at hsum
      obtain ⟨kj, hkj⟩ : ∃ q, q = cnt (bitB J) 256 := ⟨_, rfl⟩
      obtain ⟨ke, hke⟩ : ∃ q, q = cnt (bitB E) 256 := ⟨_, rfl⟩
      obtain ⟨kn, hkn⟩ : ∃ q, q = cnt (bitB N) 256 := ⟨_, rfl⟩
      have b1 := cnt_le (bitB J) 256
      have b2 := cnt_le (bitB E) 256
      have b3 := cnt_le (bitB N) 256
      have Y1 : Hid (∀ W, Calls Tryd.prog 23 #[.agg (ivs .u16 J)] W fun e w' => e = .returned (.int .i64 kj) ∧ Below W.heap.size W w') := Lib.hid (fun W => cnt_to iJ.len iJ.m16 hkj.symm W)
      have Y2 : Hid (∀ W, Calls Tryd.prog 23 #[.agg (ivs .u16 E)] W fun e w' => e = .returned (.int .i64 ke) ∧ Below W.heap.size W w') := Lib.hid (fun W => cnt_to iE.len iE.m16 hke.symm W)
      have Y3 : Hid (∀ W, Calls Tryd.prog 23 #[.agg (ivs .u16 N)] W fun e w' => e = .returned (.int .i64 kn) ∧ Below W.heap.size W w') := Lib.hid (fun W => cnt_to LN.out N16.out hkn.symm W)
      have Y4 : Hid (∀ W, Calls Tryd.prog 23 #[.agg (ivs .u16 Z)] W fun e w' => e = .returned (.int .i64 ((0 : Nat) : Int)) ∧ Below W.heap.size W w') := Lib.hid (fun W => cnt_to iZ.len iZ.m16 hmn W)
      rw [← hkj, ← hke, ← hkn] at hsum
      rw [← hkj] at b1
      rw [← hke] at b2
      rw [← hkn] at b3
      have LJ := Lib.hid iJ.len
      have LE := Lib.hid iE.len
      have LU := Lib.hid iU.len
      clear iJ iE iU iZ hmm hmn hJ hE hU hZ hkj hke hkn
      go_wp2_with (first
        | refine wpList_load_row rfl _ _ rfl w1.heap.size rfl 44 (ivs .u16 M) (0, 0) _ Fm_101.out Tryd.underlying44 rfl (by rw [ivs_size, LM.out]; exact size44) ?_
        | refine wpList_load_row rfl _ _ rfl w3.heap.size rfl 44 (ivs .u16 N) (0, 0) _ Fn_101.out Tryd.underlying44 rfl (by rw [ivs_size, LN.out]; exact size44) ?_)
      refine (X1.out _).mono ?_
      rintro e w102 ⟨rfl, hb⟩
      have Fm_102 := Lib.hid (Fm_101.out.below hb (by omega))
      have Fn_102 := Lib.hid (Fn_101.out.below hb (by omega))
      have B_102 := Lib.hid (B_101.out.trans (hb.mono B_101.out.size))
      have z_102 := hb.size
      clear hb Fm_101 Fn_101 B_101
      go_wp2_with (first
        | refine wpList_load_row rfl _ _ rfl w1.heap.size rfl 44 (ivs .u16 M) (0, 0) _ Fm_102.out Tryd.underlying44 rfl (by rw [ivs_size, LM.out]; exact size44) ?_
        | refine wpList_load_row rfl _ _ rfl w3.heap.size rfl 44 (ivs .u16 N) (0, 0) _ Fn_102.out Tryd.underlying44 rfl (by rw [ivs_size, LN.out]; exact size44) ?_
        | (refine wpList_store_row rfl _ _ _ rfl w102.heap.size (ivs .u16 J) rfl rfl 44 (ivs .u16 zr16) (Blk.newAt rfl rfl) (by rw [ivs_size, LJ.out]; exact size44) (by rw [ivs_size, ivs_size, LJ.out]; rfl) ivs_one ?_; generalize hw : World.setRow _ _ _ = w103; have Fj_103 : Hid (Blk w103 w102.heap.size 44 (ivs .u16 J)) := Lib.hid (by rw [← hw]; exact (Blk.newAt rfl rfl).row _); have hb : Below w102.heap.size w102 w103 := (by rw [← hw]; exact below_setRow ((Below.refl _ _).alloc (Nat.le_refl _) _) (Nat.le_refl _) _); clear hw; have y_103 := Fj_103.out.lt; have Fm_103 := Lib.hid (Fm_102.out.below hb (by omega)); have Fn_103 := Lib.hid (Fn_102.out.below hb (by omega)); have B_103 := Lib.hid (B_102.out.trans (hb.mono B_102.out.size)); have z_103 := hb.size; clear hb Fm_102 Fn_102 B_102)
        | refine wpList_load_row rfl _ _ rfl w1.heap.size rfl 44 (ivs .u16 M) (0, 0) _ Fm_103.out Tryd.underlying44 rfl (by rw [ivs_size, LM.out]; exact size44) ?_
        | refine wpList_load_row rfl _ _ rfl w3.heap.size rfl 44 (ivs .u16 N) (0, 0) _ Fn_103.out Tryd.underlying44 rfl (by rw [ivs_size, LN.out]; exact size44) ?_
        | refine wpList_load_row rfl _ _ rfl w102.heap.size rfl 44 (ivs .u16 J) (0, 0) _ Fj_103.out Tryd.underlying44 rfl (by rw [ivs_size, LJ.out]; exact size44) ?_)
      refine (X2.out _).mono ?_
      rintro e w104 ⟨rfl, hb⟩
      have Fm_104 := Lib.hid (Fm_103.out.below hb (by omega))
      have Fn_104 := Lib.hid (Fn_103.out.below hb (by omega))
      have Fj_104 := Lib.hid (Fj_103.out.below hb (by omega))
      have B_104 := Lib.hid (B_103.out.trans (hb.mono B_103.out.size))
      have z_104 := hb.size
      clear hb Fm_103 Fn_103 Fj_103 B_103
      go_wp2_with (first
        | refine wpList_load_row rfl _ _ rfl w1.heap.size rfl 44 (ivs .u16 M) (0, 0) _ Fm_104.out Tryd.underlying44 rfl (by rw [ivs_size, LM.out]; exact size44) ?_
        | refine wpList_load_row rfl _ _ rfl w3.heap.size rfl 44 (ivs .u16 N) (0, 0) _ Fn_104.out Tryd.underlying44 rfl (by rw [ivs_size, LN.out]; exact size44) ?_
        | refine wpList_load_row rfl _ _ rfl w102.heap.size rfl 44 (ivs .u16 J) (0, 0) _ Fj_104.out Tryd.underlying44 rfl (by rw [ivs_size, LJ.out]; exact size44) ?_
        | (refine wpList_store_row rfl _ _ _ rfl w104.heap.size (ivs .u16 E) rfl rfl 44 (ivs .u16 zr16) (Blk.newAt rfl rfl) (by rw [ivs_size, LE.out]; exact size44) (by rw [ivs_size, ivs_size, LE.out]; rfl) ivs_one ?_; generalize hw : World.setRow _ _ _ = w105; have Fe_105 : Hid (Blk w105 w104.heap.size 44 (ivs .u16 E)) := Lib.hid (by rw [← hw]; exact (Blk.newAt rfl rfl).row _); have hb : Below w104.heap.size w104 w105 := (by rw [← hw]; exact below_setRow ((Below.refl _ _).alloc (Nat.le_refl _) _) (Nat.le_refl _) _); clear hw; have y_105 := Fe_105.out.lt; have Fm_105 := Lib.hid (Fm_104.out.below hb (by omega)); have Fn_105 := Lib.hid (Fn_104.out.below hb (by omega)); have Fj_105 := Lib.hid (Fj_104.out.below hb (by omega)); have B_105 := Lib.hid (B_104.out.trans (hb.mono B_104.out.size)); have z_105 := hb.size; clear hb Fm_104 Fn_104 Fj_104 B_104)
        | refine wpList_load_row rfl _ _ rfl w1.heap.size rfl 44 (ivs .u16 M) (0, 0) _ Fm_105.out Tryd.underlying44 rfl (by rw [ivs_size, LM.out]; exact size44) ?_
        | refine wpList_load_row rfl _ _ rfl w3.heap.size rfl 44 (ivs .u16 N) (0, 0) _ Fn_105.out Tryd.underlying44 rfl (by rw [ivs_size, LN.out]; exact size44) ?_
        | refine wpList_load_row rfl _ _ rfl w102.heap.size rfl 44 (ivs .u16 J) (0, 0) _ Fj_105.out Tryd.underlying44 rfl (by rw [ivs_size, LJ.out]; exact size44) ?_
        | refine wpList_load_row rfl _ _ rfl w104.heap.size rfl 44 (ivs .u16 E) (0, 0) _ Fe_105.out Tryd.underlying44 rfl (by rw [ivs_size, LE.out]; exact size44) ?_)
      refine (X3.out _).mono ?_
      rintro e w106 ⟨rfl, hb⟩
      have Fm_106 := Lib.hid (Fm_105.out.below hb (by omega))
      have Fn_106 := Lib.hid (Fn_105.out.below hb (by omega))
      have Fj_106 := Lib.hid (Fj_105.out.below hb (by omega))
      have Fe_106 := Lib.hid (Fe_105.out.below hb (by omega))
      have B_106 := Lib.hid (B_105.out.trans (hb.mono B_105.out.size))
      have z_106 := hb.size
      clear hb Fm_105 Fn_105 Fj_105 Fe_105 B_105
      go_wp2_with (first
        | refine wpList_load_row rfl _ _ rfl w1.heap.size rfl 44 (ivs .u16 M) (0, 0) _ Fm_106.out Tryd.underlying44 rfl (by rw [ivs_size, LM.out]; exact size44) ?_
        | refine wpList_load_row rfl _ _ rfl w3.heap.size rfl 44 (ivs .u16 N) (0, 0) _ Fn_106.out Tryd.underlying44 rfl (by rw [ivs_size, LN.out]; exact size44) ?_
        | refine wpList_load_row rfl _ _ rfl w102.heap.size rfl 44 (ivs .u16 J) (0, 0) _ Fj_106.out Tryd.underlying44 rfl (by rw [ivs_size, LJ.out]; exact size44) ?_
        | refine wpList_load_row rfl _ _ rfl w104.heap.size rfl 44 (ivs .u16 E) (0, 0) _ Fe_106.out Tryd.underlying44 rfl (by rw [ivs_size, LE.out]; exact size44) ?_
        | (refine wpList_store_row rfl _ _ _ rfl w106.heap.size (ivs .u16 U) rfl rfl 44 (ivs .u16 zr16) (Blk.newAt rfl rfl) (by rw [ivs_size, LU.out]; exact size44) (by rw [ivs_size, ivs_size, LU.out]; rfl) ivs_one ?_; generalize hw : World.setRow _ _ _ = w107; have Fu_107 : Hid (Blk w107 w106.heap.size 44 (ivs .u16 U)) := Lib.hid (by rw [← hw]; exact (Blk.newAt rfl rfl).row _); have hb : Below w106.heap.size w106 w107 := (by rw [← hw]; exact below_setRow ((Below.refl _ _).alloc (Nat.le_refl _) _) (Nat.le_refl _) _); clear hw; have y_107 := Fu_107.out.lt; have Fm_107 := Lib.hid (Fm_106.out.below hb (by omega)); have Fn_107 := Lib.hid (Fn_106.out.below hb (by omega)); have Fj_107 := Lib.hid (Fj_106.out.below hb (by omega)); have Fe_107 := Lib.hid (Fe_106.out.below hb (by omega)); have B_107 := Lib.hid (B_106.out.trans (hb.mono B_106.out.size)); have z_107 := hb.size; clear hb Fm_106 Fn_106 Fj_106 Fe_106 B_106)
        | refine wpList_load_row rfl _ _ rfl w1.heap.size rfl 44 (ivs .u16 M) (0, 0) _ Fm_107.out Tryd.underlying44 rfl (by rw [ivs_size, LM.out]; exact size44) ?_
        | refine wpList_load_row rfl _ _ rfl w3.heap.size rfl 44 (ivs .u16 N) (0, 0) _ Fn_107.out Tryd.underlying44 rfl (by rw [ivs_size, LN.out]; exact size44) ?_
        | refine wpList_load_row rfl _ _ rfl w102.heap.size rfl 44 (ivs .u16 J) (0, 0) _ Fj_107.out Tryd.underlying44 rfl (by rw [ivs_size, LJ.out]; exact size44) ?_
        | refine wpList_load_row rfl _ _ rfl w104.heap.size rfl 44 (ivs .u16 E) (0, 0) _ Fe_107.out Tryd.underlying44 rfl (by rw [ivs_size, LE.out]; exact size44) ?_
        | refine wpList_load_row rfl _ _ rfl w106.heap.size rfl 44 (ivs .u16 U) (0, 0) _ Fu_107.out Tryd.underlying44 rfl (by rw [ivs_size, LU.out]; exact size44) ?_)
      have heq := HEQ.out
      have s1 : IntKind.i64.wrap ((kj : Int) + ke) = (K : Int) + kn := by rw [IntWalk.i64_in _ (by omega)]; omega
      have s2 : IntKind.i64.wrap ((K : Int) + kn) = (K : Int) + kn := IntWalk.i64_in _ (by omega)
      clear X1 X2 X3
      have ttj : ∀ t : After w107, rowAt t.to w102.heap.size 0 16 = ivs .u16 J ∧ hasRow t.to w102.heap.size 0 16 = true := fun t => by
        have h := t.row Fj_107.out.lt Fj_107.out.range0
        rw [List.length_map, LJ.out] at h
        exact h
      have tte : ∀ t : After w107, rowAt t.to w104.heap.size 0 16 = ivs .u16 E ∧ hasRow t.to w104.heap.size 0 16 = true := fun t => by
        have h := t.row Fe_107.out.lt Fe_107.out.range0
        rw [List.length_map, LE.out] at h
        exact h
      have ttm : ∀ t : After w107, rowAt t.to w1.heap.size 0 16 = ivs .u16 M ∧ hasRow t.to w1.heap.size 0 16 = true := fun t => by
        have h := t.row Fm_107.out.lt Fm_107.out.range0
        rw [List.length_map, LM.out] at h
        exact h
      have ttn : ∀ t : After w107, rowAt t.to w3.heap.size 0 16 = ivs .u16 N ∧ hasRow t.to w3.heap.size 0 16 = true := fun t => by
        have h := t.row Fn_107.out.lt Fn_107.out.range0
        rw [List.length_map, LN.out] at h
        exact h
      have ttu : ∀ t : After w107, rowAt t.to w106.heap.size 0 16 = ivs .u16 U ∧ hasRow t.to w106.heap.size 0 16 = true := fun t => by
        have h := t.row Fu_107.out.lt Fu_107.out.range0
        rw [List.length_map, LU.out] at h
        exact h
      try rw [put_none]
      refine region_after (by kernel_rfl) (by kernel_rfl) ?_
      repeat (go_big_quiet_step ((first | (go_at_call_of 23 (Value.agg (ivs .u16 J)); exact After.call _ (Y1.out _)) | (go_at_call_of 23 (Value.agg (ivs .u16 E)); exact After.call _ (Y2.out _)) | (go_at_call_of 23 (Value.agg (ivs .u16 M)); exact After.call _ (GK.out _)) | (go_at_call_of 23 (Value.agg (ivs .u16 N)); exact After.call _ (Y3.out _)) | (go_at_call_of 23 (Value.agg (ivs .u16 Z)); exact After.call _ (Y4.out _)) | (go_at_call 26; exact After.call _ (X4.out _)) | (go_at_call 27; exact After.call _ (X5.out _)))))
      refine wpQuiet_nil ?_
      rintro _ ⟨t, rfl⟩
      have hb := t.h
      generalize t.to = w108 at hb ⊢
      clear t ttj tte ttm ttn ttu
      have Fm_108 := Lib.hid (Fm_107.out.below hb (by omega))
      have Fn_108 := Lib.hid (Fn_107.out.below hb (by omega))
      have Fj_108 := Lib.hid (Fj_107.out.below hb (by omega))
      have Fe_108 := Lib.hid (Fe_107.out.below hb (by omega))
      have Fu_108 := Lib.hid (Fu_107.out.below hb (by omega))
      have B_108 := Lib.hid (B_107.out.trans (hb.mono B_107.out.size))
      have z_108 := hb.size
      clear hb Fm_107 Fn_107 Fj_107 Fe_107 Fu_107 B_107
      clear Fj_108
      clear Fe_108
      clear Fu_108
      clear Fn_108
      clear X4 X5 Y1 Y2 Y3 Y4 heq s1 s2 hsum b1 b2 b3 LJ LE LU
      go_wp2_with (first
        | refine wpList_load_row rfl _ _ rfl w1.heap.size rfl 44 (ivs .u16 M) (0, 0) _ Fm_108.out Tryd.underlying44 rfl (by rw [ivs_size, LM.out]; exact size44) ?_)
      refine (AT2.out _ B_108.out).mono ?_
      rintro e wx ⟨rfl, rfl⟩
      go_wp2_with (first
        | refine wpList_load_row rfl _ _ rfl w1.heap.size rfl 44 (ivs .u16 M) (0, 0) _ Fm_108.out Tryd.underlying44 rfl (by rw [ivs_size, LM.out]; exact size44) ?_)
      refine (AT3.out _ B_108.out).mono ?_
      rintro e wx ⟨rfl, rfl⟩
      have v2 : IntKind.i64.wrap (t2 - 2) = t2 - 2 := IntWalk.i64_in _ (by omega)
      have v3 : IntKind.i64.wrap (t3 - 2) = t3 - 2 := IntWalk.i64_in _ (by omega)
      obtain ⟨S, hS⟩ := isM_ex (mvB (shT (t2 - 2) (t3 - 2)) (mCells M))
      have XS : Hid (∀ W, Calls Tryd.prog 29 #[.agg (ivs .u16 M), .int .i64 (t2 - 2), .int .i64 (t3 - 2)] W fun e w' => e = .returned (.tuple #[.agg (ivs .u16 S), .int .i64 0]) ∧ Below W.heap.size W w') := Lib.hid (fun W => (iShiftMask_any M LM.out M16.out (t2 - 2) (t3 - 2) (by omega) (by omega) W).mono fun e w' ⟨R, hR, he, hb⟩ => ⟨by rw [he, hR.eq hS fun _ _ _ _ => rfl], hb⟩)
      have LS := Lib.hid hS.len
      have HSB : Hid (∀ x y : Nat, x < 16 → y < 16 → bitB S x y = (decide (0 ≤ (x : Int) - (t2 - 2) ∧ (x : Int) - (t2 - 2) < 16 ∧ 0 ≤ (y : Int) - (t3 - 2) ∧ (y : Int) - (t3 - 2) < 16) && bitB M ((x : Int) - (t2 - 2)).toNat ((y : Int) - (t3 - 2)).toNat)) := Lib.hid (fun x y hx hy => by rw [hS.bit x y hx hy, mv_sh])
      have XH : Hid (∀ x y : Nat, x < 16 → y < 16 → ∀ W, Calls Tryd.prog 30 #[.agg (ivs .u16 S), .int .i64 x, .int .i64 y] W fun e w' => e = .returned (.tuple #[.bool (bitB S x y), .int .i64 0]) ∧ Below W.heap.size W w') := Lib.hid (fun x y hx hy W => iHasCell_any S hS.len hS.m16 x y hx hy W)
      have d2 : -2 ≤ t2 - 2 ∧ t2 - 2 ≤ 2 := by omega
      have d3 : -2 ≤ t3 - 2 ∧ t3 - 2 ≤ 2 := by omega
      clear hS AT2 AT3
      go_wp2_with (first
        | refine wpList_load_row rfl _ _ rfl w1.heap.size rfl 44 (ivs .u16 M) (0, 0) _ Fm_108.out Tryd.underlying44 rfl (by rw [ivs_size, LM.out]; exact size44) ?_)
      refine (XS.out _).mono ?_
      rintro e w109 ⟨rfl, hb⟩
      clear XS v2 v3 r2 r3
      have Fm_109 := Lib.hid (Fm_108.out.below hb (by omega))
      have B_109 := Lib.hid (B_108.out.trans (hb.mono B_108.out.size))
      have z_109 := hb.size
      clear hb Fm_108 B_108
      generalize t2 - 2 = dx at *
      generalize t3 - 2 = dy at *
      go_wp2_with (first
        | refine wpList_load_row rfl _ _ rfl w1.heap.size rfl 44 (ivs .u16 M) (0, 0) _ Fm_109.out Tryd.underlying44 rfl (by rw [ivs_size, LM.out]; exact size44) ?_
        | (refine wpList_store_row rfl _ _ _ rfl w109.heap.size (ivs .u16 S) rfl rfl 44 (ivs .u16 zr16) (Blk.newAt rfl rfl) (by rw [ivs_size, LS.out]; exact size44) (by rw [ivs_size, ivs_size, LS.out]; rfl) ivs_one ?_; generalize hw : World.setRow _ _ _ = w110; have Fs_110 : Hid (Blk w110 w109.heap.size 44 (ivs .u16 S)) := Lib.hid (by rw [← hw]; exact (Blk.newAt rfl rfl).row _); have hb : Below w109.heap.size w109 w110 := (by rw [← hw]; exact below_setRow ((Below.refl _ _).alloc (Nat.le_refl _) _) (Nat.le_refl _) _); clear hw; have y_110 := Fs_110.out.lt; have Fm_110 := Lib.hid (Fm_109.out.below hb (by omega)); have B_110 := Lib.hid (B_109.out.trans (hb.mono B_109.out.size)); have z_110 := hb.size; clear hb Fm_109 B_109)
        | refine wpList_load_row rfl _ _ rfl w1.heap.size rfl 44 (ivs .u16 M) (0, 0) _ Fm_110.out Tryd.underlying44 rfl (by rw [ivs_size, LM.out]; exact size44) ?_
        | refine wpList_load_row rfl _ _ rfl w109.heap.size rfl 44 (ivs .u16 S) (0, 0) _ Fs_110.out Tryd.underlying44 rfl (by rw [ivs_size, LS.out]; exact size44) ?_)
      have HEND : Hid (True) := Lib.hid trivial
      go_loopw [23] (fun i wr => ∃ y : Nat, y ≤ 16 ∧ i = .int .i64 y ∧ Hid (Below w110.heap.size w110 wr)) (fun i _ => 16 - (intOf i).toNat)
      case atStart => exact ⟨0, by omega, rfl, Lib.hid (Below.refl _ _)⟩
      case round =>
        obtain ⟨y, hy, rfl, HBy⟩ := hrel
        by_cases hlt : y < 16
        · have hyi : (y : Int) < 16 := by omega
          go_wp2
          go_loopw [24] (fun i wr => ∃ x : Nat, x ≤ 16 ∧ i = .int .i64 x ∧ Hid (Below w110.heap.size w110 wr)) (fun i _ => 16 - (intOf i).toNat)
          case atStart => exact ⟨0, by omega, rfl, HBy⟩
          case round =>
            clear HBy
            obtain ⟨x, hx, rfl, HBx⟩ := hrel
            by_cases hxl : x < 16
            · have hxi : (x : Int) < 16 := by omega
              have Fm_x := Lib.hid (Fm_110.out.below HBx.out Fm_110.out.lt)
              have Fs_x := Lib.hid (Fs_110.out.below HBx.out Fs_110.out.lt)
              have XHx := Lib.hid (XH.out x y hxl hlt)
              have hsb := HSB.out x y hxl hlt
              have hwx := HBx.out.size
              have e1 : IntKind.i64.wrap ((x : Int) - dx) = (x : Int) - dx := IntWalk.i64_in _ (by omega)
              have e2 : IntKind.i64.wrap ((y : Int) - dy) = (y : Int) - dy := IntWalk.i64_in _ (by omega)
              by_cases hin : 0 ≤ (x : Int) - dx ∧ (x : Int) - dx < 16 ∧ 0 ≤ (y : Int) - dy ∧ (y : Int) - dy < 16
              · obtain ⟨a, ha⟩ : ∃ a : Nat, (x : Int) - dx = a := ⟨((x : Int) - dx).toNat, by omega⟩
                obtain ⟨b, hb⟩ : ∃ b : Nat, (y : Int) - dy = b := ⟨((y : Int) - dy).toNat, by omega⟩
                rw [decide_eq_true hin, Bool.true_and, ha, hb, Int.toNat_natCast, Int.toNat_natCast] at hsb
                rw [hsb] at XHx
                have ha16 : a < 16 := by omega
                have hb16 : b < 16 := by omega
                have a0 : (0 : Int) ≤ a := by omega
                have a1 : (a : Int) < 16 := by omega
                have b0 : (0 : Int) ≤ b := by omega
                have b1 : (b : Int) < 16 := by omega
                have c1 := Fm_x.out.getAtG (i := b) (by rw [LM.out]; exact hb16)
                obtain ⟨v0, v1⟩ := M16.out.getD b
                have hbe : (bits .and .u16 (M.getD b 0 / 2 ^ a) 1 == 1) = bitB M a b := by rw [bit_eq v0 v1, bitB]
                generalize M.getD b 0 = v at *
                generalize bitB M a b = d at *
                clear hsb hin d2 d3 HSB XH
                go_wp2_with (first
                  | refine wpList_load_row rfl _ _ rfl w109.heap.size rfl 44 (ivs .u16 S) (0, 0) _ Fs_x.out Tryd.underlying44 rfl (by rw [ivs_size, LS.out]; exact size44) ?_
                  | (go_at_call 30; refine (XHx.out _).mono ?_; rintro e w2 ⟨rfl, hb2⟩; have B2 := Lib.hid (HBx.out.trans (hb2.mono hwx)); clear hb2))
                exact ⟨⟨x + 1, by omega, by go_num, B2⟩, by simp [intOf]; omega⟩
              · rw [decide_eq_false hin, Bool.false_and] at hsb
                rw [hsb] at XHx
                have hcs : (¬ 0 ≤ (x : Int) - dx) ∨ (0 ≤ (x : Int) - dx ∧ ¬ (x : Int) - dx < 16) ∨ (0 ≤ (x : Int) - dx ∧ (x : Int) - dx < 16 ∧ ¬ 0 ≤ (y : Int) - dy) ∨ (0 ≤ (x : Int) - dx ∧ (x : Int) - dx < 16 ∧ 0 ≤ (y : Int) - dy ∧ ¬ (y : Int) - dy < 16) := by omega
                clear hsb hin HSB XH
                obtain ⟨p, hp⟩ : ∃ p, (x : Int) - dx = p := ⟨_, rfl⟩
                obtain ⟨q, hq⟩ : ∃ q, (y : Int) - dy = q := ⟨_, rfl⟩
                rw [hp, hq] at hcs
                have wp1 : wrap64 p = p := by unfold wrap64; omega
                have wq1 : wrap64 q = q := by unfold wrap64; omega
                clear d2 d3
                rcases hcs with q1 | ⟨q1, q2⟩ | ⟨q1, q2, q3⟩ | ⟨q1, q2, q3, q4⟩
                all_goals
                  go_wp2_with (first
                    | refine wpList_load_row rfl _ _ rfl w109.heap.size rfl 44 (ivs .u16 S) (0, 0) _ Fs_x.out Tryd.underlying44 rfl (by rw [ivs_size, LS.out]; exact size44) ?_
                    | (go_at_call 30; refine (XHx.out _).mono ?_; rintro e w2 ⟨rfl, hb2⟩; have B2 := Lib.hid (HBx.out.trans (hb2.mono hwx)); clear hb2))
                  exact ⟨⟨x + 1, by omega, by go_num, B2⟩, by simp [intOf]; omega⟩
            · obtain rfl : x = 16 := by omega
              go_wp2
              exact ⟨⟨y + 1, by omega, by go_num, HBx⟩, by simp [intOf]; omega⟩
        · obtain rfl : y = 16 := by omega
          obtain ⟨w200, rfl⟩ : ∃ W : World, W = wr := ⟨_, rfl⟩
          have Fm_200 := Lib.hid (Fm_110.out.below HBy.out Fm_110.out.lt)
          have B_200 := Lib.hid (B_110.out.trans (HBy.out.mono B_110.out.size))
          have hwy := HBy.out.size
          have lm2 := Fm_200.out.lt
          clear Fm_110 Fs_110 B_110 HBy XH HSB LS hlt
          obtain ⟨p0, rfl⟩ := Int.eq_ofNat_of_zero_le r0.1
          obtain ⟨p1, rfl⟩ := Int.eq_ofNat_of_zero_le r1.1
          have i0 : p0 < 16 := by omega
          have i1 : p1 < 16 := by omega
          obtain ⟨f1, f2, f3⟩ := on_off LM.out M16.out i0 i1
          have q1 := setOn_is LM.out M16.out i0 i1 true
          obtain ⟨O, hO⟩ : ∃ O, O = setOn M p1 p0 true := ⟨_, rfl⟩
          have X1 : Hid (∀ W, Calls Tryd.prog 31 #[.agg (ivs .u16 M), .int .i64 p0, .int .i64 p1, .bool true] W fun e w' => e = .returned (.tuple #[.agg (ivs .u16 O), .int .i64 0]) ∧ Below W.heap.size W w') := Lib.hid (fun W => by rw [hO]; exact iSetCell_any M LM.out M16.out p0 p1 i0 i1 true W)
          rw [← hO] at f1 f2 f3 q1
          have q2 := setOn_is q1.len q1.m16 i0 i1 false
          obtain ⟨Q, hQ⟩ : ∃ Q, Q = setOn O p1 p0 false := ⟨_, rfl⟩
          have X2 : Hid (∀ W, Calls Tryd.prog 31 #[.agg (ivs .u16 O), .int .i64 p0, .int .i64 p1, .bool false] W fun e w' => e = .returned (.tuple #[.agg (ivs .u16 Q), .int .i64 0]) ∧ Below W.heap.size W w') := Lib.hid (fun W => by rw [hQ]; exact iSetCell_any O q1.len q1.m16 p0 p1 i0 i1 false W)
          rw [← hQ] at f2 f3 q2
          have X3 : Hid (∀ W, Calls Tryd.prog 30 #[.agg (ivs .u16 O), .int .i64 p0, .int .i64 p1] W fun e w' => e = .returned (.tuple #[.bool true, .int .i64 0]) ∧ Below W.heap.size W w') := Lib.hid (fun W => by have h := iHasCell_any O q1.len q1.m16 p0 p1 i0 i1 W; rw [f1] at h; exact h)
          have X4 : Hid (∀ W, Calls Tryd.prog 30 #[.agg (ivs .u16 Q), .int .i64 p0, .int .i64 p1] W fun e w' => e = .returned (.tuple #[.bool false, .int .i64 0]) ∧ Below W.heap.size W w') := Lib.hid (fun W => by have h := iHasCell_any Q q2.len q2.m16 p0 p1 i0 i1 W; rw [f2] at h; exact h)
          obtain ⟨kq, hkq⟩ : ∃ q, q = cnt (bitB Q) 256 := ⟨_, rfl⟩
          have hb4 := cnt_le (bitB Q) 256
          rw [← hkq] at f3 hb4
          have Y1 : Hid (∀ W, Calls Tryd.prog 23 #[.agg (ivs .u16 O)] W fun e w' => e = .returned (.int .i64 ((kq : Int) + 1)) ∧ Below W.heap.size W w') := Lib.hid (fun W => by have h := cnt_to q1.len q1.m16 f3 W; rw [Int.natCast_add] at h; exact h)
          have Y2 : Hid (∀ W, Calls Tryd.prog 23 #[.agg (ivs .u16 Q)] W fun e w' => e = .returned (.int .i64 kq) ∧ Below W.heap.size W w') := Lib.hid (fun W => cnt_to q2.len q2.m16 hkq.symm W)
          have LO := Lib.hid q1.len
          have LQ := Lib.hid q2.len
          clear hO hQ f1 f2 f3 q1 q2 hkq
          go_wp2_with (first
            | refine wpList_load_row rfl _ _ rfl w1.heap.size rfl 44 (ivs .u16 M) (0, 0) _ Fm_200.out Tryd.underlying44 rfl (by rw [ivs_size, LM.out]; exact size44) ?_)
          refine (AT0.out _ B_200.out).mono ?_
          rintro e wx ⟨rfl, rfl⟩
          go_wp2_with (first
            | refine wpList_load_row rfl _ _ rfl w1.heap.size rfl 44 (ivs .u16 M) (0, 0) _ Fm_200.out Tryd.underlying44 rfl (by rw [ivs_size, LM.out]; exact size44) ?_)
          refine (AT1.out _ B_200.out).mono ?_
          rintro e wx ⟨rfl, rfl⟩
          go_wp2_with (first
            | refine wpList_load_row rfl _ _ rfl w1.heap.size rfl 44 (ivs .u16 M) (0, 0) _ Fm_200.out Tryd.underlying44 rfl (by rw [ivs_size, LM.out]; exact size44) ?_)
          refine (X1.out _).mono ?_
          rintro e w201 ⟨rfl, hb⟩
          have Fm_201 := Lib.hid (Fm_200.out.below hb (by omega))
          have B_201 := Lib.hid (B_200.out.trans (hb.mono B_200.out.size))
          have z_201 := hb.size
          clear hb Fm_200 B_200
          go_wp2_with (first
            | refine wpList_load_row rfl _ _ rfl w1.heap.size rfl 44 (ivs .u16 M) (0, 0) _ Fm_201.out Tryd.underlying44 rfl (by rw [ivs_size, LM.out]; exact size44) ?_
            | (refine wpList_store_row rfl _ _ _ rfl w201.heap.size (ivs .u16 O) rfl rfl 44 (ivs .u16 zr16) (Blk.newAt rfl rfl) (by rw [ivs_size, LO.out]; exact size44) (by rw [ivs_size, ivs_size, LO.out]; rfl) ivs_one ?_; generalize hw : World.setRow _ _ _ = w202; have Fo_202 : Hid (Blk w202 w201.heap.size 44 (ivs .u16 O)) := Lib.hid (by rw [← hw]; exact (Blk.newAt rfl rfl).row _); have hb : Below w201.heap.size w201 w202 := (by rw [← hw]; exact below_setRow ((Below.refl _ _).alloc (Nat.le_refl _) _) (Nat.le_refl _) _); clear hw; have y_202 := Fo_202.out.lt; have Fm_202 := Lib.hid (Fm_201.out.below hb (by omega)); have B_202 := Lib.hid (B_201.out.trans (hb.mono B_201.out.size)); have z_202 := hb.size; clear hb Fm_201 B_201)
            | refine wpList_load_row rfl _ _ rfl w1.heap.size rfl 44 (ivs .u16 M) (0, 0) _ Fm_202.out Tryd.underlying44 rfl (by rw [ivs_size, LM.out]; exact size44) ?_
            | refine wpList_load_row rfl _ _ rfl w201.heap.size rfl 44 (ivs .u16 O) (0, 0) _ Fo_202.out Tryd.underlying44 rfl (by rw [ivs_size, LO.out]; exact size44) ?_)
          refine (X2.out _).mono ?_
          rintro e w203 ⟨rfl, hb⟩
          have Fm_203 := Lib.hid (Fm_202.out.below hb (by omega))
          have Fo_203 := Lib.hid (Fo_202.out.below hb (by omega))
          have B_203 := Lib.hid (B_202.out.trans (hb.mono B_202.out.size))
          have z_203 := hb.size
          clear hb Fm_202 Fo_202 B_202
          go_wp2_with (first
            | refine wpList_load_row rfl _ _ rfl w1.heap.size rfl 44 (ivs .u16 M) (0, 0) _ Fm_203.out Tryd.underlying44 rfl (by rw [ivs_size, LM.out]; exact size44) ?_
            | refine wpList_load_row rfl _ _ rfl w201.heap.size rfl 44 (ivs .u16 O) (0, 0) _ Fo_203.out Tryd.underlying44 rfl (by rw [ivs_size, LO.out]; exact size44) ?_
            | (refine wpList_store_row rfl _ _ _ rfl w203.heap.size (ivs .u16 Q) rfl rfl 44 (ivs .u16 zr16) (Blk.newAt rfl rfl) (by rw [ivs_size, LQ.out]; exact size44) (by rw [ivs_size, ivs_size, LQ.out]; rfl) ivs_one ?_; generalize hw : World.setRow _ _ _ = w204; have Fq_204 : Hid (Blk w204 w203.heap.size 44 (ivs .u16 Q)) := Lib.hid (by rw [← hw]; exact (Blk.newAt rfl rfl).row _); have hb : Below w203.heap.size w203 w204 := (by rw [← hw]; exact below_setRow ((Below.refl _ _).alloc (Nat.le_refl _) _) (Nat.le_refl _) _); clear hw; have y_204 := Fq_204.out.lt; have Fm_204 := Lib.hid (Fm_203.out.below hb (by omega)); have Fo_204 := Lib.hid (Fo_203.out.below hb (by omega)); have B_204 := Lib.hid (B_203.out.trans (hb.mono B_203.out.size)); have z_204 := hb.size; clear hb Fm_203 Fo_203 B_203)
            | refine wpList_load_row rfl _ _ rfl w1.heap.size rfl 44 (ivs .u16 M) (0, 0) _ Fm_204.out Tryd.underlying44 rfl (by rw [ivs_size, LM.out]; exact size44) ?_
            | refine wpList_load_row rfl _ _ rfl w201.heap.size rfl 44 (ivs .u16 O) (0, 0) _ Fo_204.out Tryd.underlying44 rfl (by rw [ivs_size, LO.out]; exact size44) ?_
            | refine wpList_load_row rfl _ _ rfl w203.heap.size rfl 44 (ivs .u16 Q) (0, 0) _ Fq_204.out Tryd.underlying44 rfl (by rw [ivs_size, LQ.out]; exact size44) ?_)
          refine (X3.out _).mono ?_
          rintro e w205 ⟨rfl, hb⟩
          have Fm_205 := Lib.hid (Fm_204.out.below hb (by omega))
          have Fo_205 := Lib.hid (Fo_204.out.below hb (by omega))
          have Fq_205 := Lib.hid (Fq_204.out.below hb (by omega))
          have B_205 := Lib.hid (B_204.out.trans (hb.mono B_204.out.size))
          have z_205 := hb.size
          clear hb Fm_204 Fo_204 Fq_204 B_204
          go_wp2_with (first
            | refine wpList_load_row rfl _ _ rfl w1.heap.size rfl 44 (ivs .u16 M) (0, 0) _ Fm_205.out Tryd.underlying44 rfl (by rw [ivs_size, LM.out]; exact size44) ?_
            | refine wpList_load_row rfl _ _ rfl w201.heap.size rfl 44 (ivs .u16 O) (0, 0) _ Fo_205.out Tryd.underlying44 rfl (by rw [ivs_size, LO.out]; exact size44) ?_
            | refine wpList_load_row rfl _ _ rfl w203.heap.size rfl 44 (ivs .u16 Q) (0, 0) _ Fq_205.out Tryd.underlying44 rfl (by rw [ivs_size, LQ.out]; exact size44) ?_)
          refine (X4.out _).mono ?_
          rintro e w206 ⟨rfl, hb⟩
          have Fm_206 := Lib.hid (Fm_205.out.below hb (by omega))
          have Fo_206 := Lib.hid (Fo_205.out.below hb (by omega))
          have Fq_206 := Lib.hid (Fq_205.out.below hb (by omega))
          have B_206 := Lib.hid (B_205.out.trans (hb.mono B_205.out.size))
          have z_206 := hb.size
          clear hb Fm_205 Fo_205 Fq_205 B_205
          go_wp2_with (first
            | refine wpList_load_row rfl _ _ rfl w1.heap.size rfl 44 (ivs .u16 M) (0, 0) _ Fm_206.out Tryd.underlying44 rfl (by rw [ivs_size, LM.out]; exact size44) ?_
            | refine wpList_load_row rfl _ _ rfl w201.heap.size rfl 44 (ivs .u16 O) (0, 0) _ Fo_206.out Tryd.underlying44 rfl (by rw [ivs_size, LO.out]; exact size44) ?_
            | refine wpList_load_row rfl _ _ rfl w203.heap.size rfl 44 (ivs .u16 Q) (0, 0) _ Fq_206.out Tryd.underlying44 rfl (by rw [ivs_size, LQ.out]; exact size44) ?_)
          have s4 : IntKind.i64.wrap ((kq : Int) + 1) = (kq : Int) + 1 := IntWalk.i64_in _ (by omega)
          clear X1 X2 X3 X4 AT0 AT1 i0 i1
          have tto : ∀ t : After w206, rowAt t.to w201.heap.size 0 16 = ivs .u16 O ∧ hasRow t.to w201.heap.size 0 16 = true := fun t => by
            have h := t.row Fo_206.out.lt Fo_206.out.range0
            rw [List.length_map, LO.out] at h
            exact h
          have ttq : ∀ t : After w206, rowAt t.to w203.heap.size 0 16 = ivs .u16 Q ∧ hasRow t.to w203.heap.size 0 16 = true := fun t => by
            have h := t.row Fq_206.out.lt Fq_206.out.range0
            rw [List.length_map, LQ.out] at h
            exact h
          try rw [put_none]
          refine region_after (by kernel_rfl) (by kernel_rfl) ?_
          repeat (go_big_quiet_step ((first | (go_at_call_of 23 (Value.agg (ivs .u16 O)); exact After.call _ (Y1.out _)) | (go_at_call_of 23 (Value.agg (ivs .u16 Q)); exact After.call _ (Y2.out _)))))
          refine wpQuiet_nil ?_
          rintro _ ⟨t, rfl⟩
          have hb := t.h
          generalize t.to = w207 at hb ⊢
          clear t tto ttq
          have Fm_207 := Lib.hid (Fm_206.out.below hb (by omega))
          have Fo_207 := Lib.hid (Fo_206.out.below hb (by omega))
          have Fq_207 := Lib.hid (Fq_206.out.below hb (by omega))
          have B_207 := Lib.hid (B_206.out.trans (hb.mono B_206.out.size))
          have z_207 := hb.size
          clear hb Fm_206 Fo_206 Fq_206 B_206
          go_wp2
          go_ret
          exact ⟨by first | rfl | simp, B_207.out⟩
end
set_option maxRecDepth 100000 in
set_option maxHeartbeats 400000 in
theorem lawMasks_any (A : Option Addr) (n c : Nat) (l : List Int) (hl : l.length = n) (h255 : is255 l) (A2 : Option Addr) (n2 c2 : Nat) (l2 : List Int) (hl2 : l2.length = n2) (h255' : is255 l2) (w : World) (mx : Int) (hmx : w.cell? ⟨1, 0, none⟩ = some (.int .i64 mx)) (RA : Rd w w.heap.size 1 A n (l.map (.int .u8))) (RB : Rd w w.heap.size 1 A2 n2 (l2.map (.int .u8))) :
    Calls Tryd.prog 4 #[.slice A n c, .slice A2 n2 c2] w fun e w' => e = .returned (.bool true) ∧ Below w.heap.size w w' := by
  by_cases h3 : n ≤ 3000 ∧ n2 ≤ 3000
  · exact lawMasks_in A n c l hl h255 A2 n2 c2 l2 hl2 h255' h3.1 h3.2 w mx hmx RA RB
  · have h3 : 3000 < n ∨ 3000 < n2 := by omega
    clear RA RB hmx hl hl2 h255 h255'
    go_enter Tryd.func4, Tryd.ntmps4
    go_wp2_with fail
    refine (a2Long_out A A2 n c n2 c2 h3 w).mono ?_
    rintro e w0 ⟨rfl, rfl⟩
    go_wp2
    go_ret
    exact ⟨rfl, Below.refl _ _⟩
end Go.Proofs.YtmagaapdijapiaaDoor
