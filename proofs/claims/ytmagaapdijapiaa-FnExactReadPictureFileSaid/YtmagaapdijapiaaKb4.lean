/- Ym, Eqb, Yl, Uf, Ad in one text. -/
import Derived.Test.YtmagaapdijapiaaRows
import Derived.Test.YtmagaapdijapiaaKb3
import Derived.Test.YtmagaapdijapiaaUd
import Derived.Test.YtmagaapdijapiaaKb2
import Derived.Test.YtmagaapdijapiaaBm
import Derived.Deep.RegionWith
import Derived.Deep.CutRange
import Derived.IntWalk
import Derived.Test.YtmagaapdijapiaaUb
import Derived.Test.YtmagaapdijapiaaKb1
import Derived.Test.YtmagaapdijapiaaHa
import Derived.Test.YtmagaapdijapiaaOpen
import Derived.RangeFuncBox
import Derived.StillTailTactics
namespace Go.Proofs.Ytmagaapdijapiaa
open Go.ChangeShapes Go.WideShapes Go.ChangeAt Go.RowKit
theorem numberY {D : List Int} (h255 : is255 D) {g i cc : Nat} (hi : i + 4 ≤ D.length) {w : World} (hc : ∀ j u, (D.map (Value.int .u8))[j]? = some u → w.cell? ⟨g, 0 + j, none⟩ = some u) :
    Calls Try.prog 53 #[.slice (some ⟨g, i, none⟩) (D.length - i) cc] w fun e w' => e = .returned (.int .u32 (numAt D i)) ∧ w = w' := by
  have hcell : ∀ j, j < D.length → w.cell? ⟨g, j, none⟩ = some (.int .u8 (D.getD j 0)) := fun j hj => by
    have := hc j (.int .u8 (D.getD j 0)) (by rw [List.getElem?_map, List.getElem?_eq_getElem hj, List.getD_eq_getElem?_getD, List.getElem?_eq_getElem hj]; rfl)
    rwa [Nat.zero_add] at this
  exact l09Number_any g i (D.length - i) cc _ _ _ _ w (by omega) (h255.getD i) (h255.getD (i + 1)) (h255.getD (i + 2)) (h255.getD (i + 3)) (hcell i (by omega)) (hcell (i + 1) (by omega)) (hcell (i + 2) (by omega)) (hcell (i + 3) (by omega))
set_option maxRecDepth 20000 in
set_option maxHeartbeats 6400000 in
theorem sReadPictureFile_any (A : Option Addr) (n c : Nat) (l : List (List Int)) (hl : l.length = n) (hrow : Rows_ 16 l) (h255 : ∀ f ∈ l, is255 f) (hn : n ≤ 1048576) (w : World) (hR : Rd w w.heap.size 16 A n (l.flatten.map (.int .u8))) :
    Calls Try.prog 17 #[.slice A n c] w (GivesToldB (rpL l) (rpC l) w) := by
  obtain ⟨i0, hi, hz0, hz1, hz2⟩ := info_parts Block_info
  have hop := l09Open_in A n c l hl hrow h255 hn w hR
  unfold GivesOpen at hop
  have HOP := Lib.hid hop
  clear hop
  by_cases hC : opCode l = 0
  · by_cases hK : opKind l = 2
    · have hdl := opData_length l hrow
      have hd255 := opData_255Y h255
      have hcr := opCount_rangeY h255
      have HNO := Lib.hid (rp_none hC)
      have HBAD := Lib.hid (fun out p => rp_bad (out := out) (p := p) hC)
      have HYES := Lib.hid (fun out p => rp_yes (out := out) (p := p) hC hK)
      have HAG := Lib.hid (fun out => again_iff (out := out) hC hK)
      rw [hC, hK] at HOP
      obtain ⟨N, hN⟩ : ∃ N : Nat, opCount l = N := ⟨(opCount l).toNat, by omega⟩
      rw [hN] at HOP hcr HNO HBAD HYES HAG
      have hN32 : (N : Int) ≤ 4294967295 := hcr.2
      simp only [Int.toNat_natCast] at HNO HBAD HYES
      have HD255 := Lib.hid hd255
      have HR := Lib.hid hR
      have HL := Lib.hid hl
      have HROW := Lib.hid hrow
      clear hd255 hN h255 hR hl hrow hC hK
      generalize opData l = D at *
      generalize rpL l = RL at *
      generalize rpC l = RC at *
      go_enter Try.func17, Try.ntmps17
      go_wp2_with (go_at_call 52; refine HOP.out.mono ?_; rintro e w2 ⟨A2, c2, rfl, hO2, hb2⟩; have HB2 := Lib.hid hb2; have HO2 := Lib.hid hO2; clear hO2 hb2)
      have o0 : (w2.alloc (.cells #[] 78)).ownsRow w2.heap.size 78 18 (.slice (some ⟨w2.heap.size, 0, none⟩) 0 0) 0 (bcs []) := World.ownsRow_lit (e := 78) (base := w2.heap.size) (size := 18) w2 #[] 0 (Nat.le_refl _) (by unfold maxLen; omega) rfl
      have O0 := Lib.hid o0
      clear o0
      have zz2 := HB2.out.size
      go_loopw [8, 9, 10] (fun v a i wr => ∃ (k p g cc m : Nat) (out : List Bl), k ≤ N ∧ i = .int .i64 k ∧ a = .int .i64 p ∧ v = .slice (some ⟨g, 0, none⟩) m cc ∧ Hid (m = out.length) ∧ Hid (rdTo D k = some (out, p)) ∧ Hid (wr.ownsRow w2.heap.size 78 18 (.slice (some ⟨g, 0, none⟩) m cc) m (bcs out)) ∧ Hid (Below w2.heap.size w2 wr)) (fun _ _ i _ => N - (intOf i).toNat)
      case atStart => exact ⟨0, 0, _, _, 0, [], by omega, rfl, rfl, rfl, Lib.hid rfl, Lib.hid rfl, O0, Lib.hid ((Below.refl _ _).alloc (Nat.le_refl _) _)⟩
      case round =>
        clear O0
        obtain ⟨k, p, g, cc, m, out, hk, rfl, rfl, rfl, HM, HT, HO, HB⟩ := hrel
        obtain ⟨t1, t2, t3, t4, t5⟩ := rdTo_in HT.out
        have t6 := rdTo_far HT.out
        have HMK : Hid (m = k) := Lib.hid (by rw [HM.out, t1])
        have HT3 := Lib.hid t3
        have HT4 := Lib.hid t4
        have HT5 := Lib.hid t5
        have hBw : Below w.heap.size w wr := HB2.out.trans (HB.out.mono zz2)
        have HBw := Lib.hid hBw
        clear t3 t4 t5 hBw
        by_cases hlt : k < N
        · have hki : (k : Int) < N := by omega
          have hgo : ∀ j, j < N + 1 → k + 1 ≤ j → okD D p = false → Hid (RL = [] ∧ RC = 5) := fun j _ _ ho => Lib.hid (HNO.out (rdTo_none (rdTo_no HT.out ho) (by omega)))
          have HFAIL := Lib.hid (fun ho => hgo N (by omega) (by omega) ho)
          clear hgo
          have hokd : okD D p = (decide (p + 9 ≤ D.length) && (decide (p + 9 + szOf D p ≤ D.length) && (unC (partD D p) == 0))) := rfl
          by_cases h9 : p + 9 ≤ D.length
          · obtain ⟨g2, cur2, hA2, -, -, -, hcap, hmax, -⟩ := HO2.out.at_ (by omega)
            subst hA2
            have HRW : Hid (∀ W, Below wr.heap.size wr W → Rd W w2.heap.size 1 (some ⟨g2, 0, none⟩) D.length (D.map (.int .u8))) := Lib.hid (fun W hb => (HO2.out.rd.below HB.out (Nat.le_refl _)).below hb HB.out.size)
            have HNUM : Hid (∀ W i cc, Below wr.heap.size wr W → i + 4 ≤ D.length → Calls Try.prog 53 #[.slice (some ⟨g2, i, none⟩) (D.length - i) cc] W fun e w' => e = .returned (.int .u32 (numAt D i)) ∧ W = w') := Lib.hid (fun W i cc hb hi => by
              obtain ⟨b', o', hA', hb', hc⟩ := (HRW.out W hb).at_ (by omega)
              cases hA'
              exact numberY HD255.out hi hc)
            have h9i : (p : Int) + 9 ≤ D.length := by omega
            have hp0 : (0 : Int) ≤ p := by omega
            have hDc : (D.length : Int) ≤ c2 := by omega
            have hpc : (p : Int) ≤ c2 := by omega
            have c8 : wr.cell? ⟨g2, p + 8, none⟩ = some (.int .u8 (D.getD (p + 8) 0)) := by
              obtain ⟨b', o', hA', hb', hc⟩ := (HRW.out wr (Below.refl _ _)).at_ (by omega)
              cases hA'
              have := hc (p + 8) (.int .u8 (D.getD (p + 8) 0)) (by rw [List.getElem?_map, List.getElem?_eq_getElem (by omega), List.getD_eq_getElem?_getD, List.getElem?_eq_getElem (by omega)]; rfl)
              rwa [Nat.zero_add] at this
            have hwr := HB.out.size
            go_upto_region 13 with fail
            go_cut [11] from 43 to 55 (fun v wx => v = .pointer (some ⟨wr.heap.size, 0, none⟩) ∧ Hid (Blk wx wr.heap.size 78 (bav (corD D p, zr16))) ∧ Hid (Below wr.heap.size wr wx))
            case first =>
              have u1 : IntKind.i64.wrap ((p : Int) + 4) = (p : Int) + 4 := IntWalk.i64_in _ (by omega)
              have u2 : (0 : Int) ≤ (p : Int) + 4 := by omega
              have u3 : ((p : Int) + 4).toNat = p + 4 := by omega
              have u4 : (p : Int) + 4 ≤ (D.length : Int) := by omega
              have u5 : (p : Int) + 4 ≤ (c2 : Int) := by omega
              have u7 : ¬ c2 = p := by omega
              have u8 : ¬ c2 = p + 4 := by omega
              have u6 : (p : Int) ≤ (D.length : Int) := by omega
              clear hokd HFAIL HAG HYES HBAD HNO hcr HD255 HL HROW HR HT3 HT4 HT5 hlt hk t1 t2 t6
              go_region_with (go_at_call 53; refine (HNUM.out _ _ _ ?_ ?_).mono ?_; (first | exact below_drew (Below.refl _ _) | exact (below_drew (Below.refl _ _)).alloc (Nat.le_refl _) _); omega; rintro e w5 ⟨rfl, rfl⟩)
              all_goals
                go_wp2_with fail
                go_meet
                exact ⟨rfl, Lib.hid (Blk.drew (Blk.newAt rfl rfl)), Lib.hid (below_drew ((Below.refl _ _).alloc (Nat.le_refl _) _))⟩
            case rest =>
              obtain ⟨rfl, HBL, HB3⟩ := hcut
              have hwc := HB3.out.size
              have cz : wc.cell? ⟨g2, p + 8, none⟩ = some (.int .u8 (D.getD (p + 8) 0)) := by
                obtain ⟨b', o', hA', hb', hc⟩ := (HRW.out wc HB3.out).at_ (by omega)
                cases hA'
                have := hc (p + 8) (.int .u8 (D.getD (p + 8) 0)) (by rw [List.getElem?_map, List.getElem?_eq_getElem (by omega), List.getD_eq_getElem?_getD, List.getElem?_eq_getElem (by omega)]; rfl)
                rwa [Nat.zero_add] at this
              have hz255 := HD255.out.getD (p + 8)
              have hsz : szOf D p = if D.getD (p + 8) 0 = 0 then 256 else (D.getD (p + 8) 0).toNat := rfl
              generalize D.getD (p + 8) 0 = z at *
              obtain ⟨z0, z1⟩ := hz255
              have HSZ := Lib.hid hsz
              have s1 : 1 ≤ szOf D p := by rw [hsz]; split <;> omega
              have s2 : szOf D p ≤ 256 := by rw [hsz]; split <;> omega
              have hp8 : (p : Int) + 8 < (D.length : Int) := by omega
              clear hsz c8
              go_upto_if 63 with fail
              go_cut [12] from 62 to 63 (fun v wx => v = .int .i64 ((szOf D p : Nat) : Int) ∧ wx = wc)
              case first =>
                by_cases hz0 : z = 0
                · subst hz0
                  go_wp2_with fail
                  go_meet
                  exact ⟨by rw [HSZ.out]; simp, rfl⟩
                · go_wp2_with fail
                  go_meet
                  exact ⟨by rw [HSZ.out, if_neg hz0]; congr 1; omega, rfl⟩
              case rest =>
                obtain ⟨rfl, rfl⟩ := hcut
                have hpd : partD D p = (D.drop (p + 9)).take (szOf D p) := rfl
                have HYS : Hid (okD D p = true → rdTo D (k + 1) = some (out ++ [blkAtD D p], p + 9 + szOf D p)) := Lib.hid (fun h => rdTo_yes HT.out h)
                generalize szOf D p = s at *
                clear HSZ cz
                by_cases h2 : p + 9 + s ≤ D.length
                · have h2i : (p : Int) + 9 + s ≤ D.length := by omega
                  have v1 : ¬ c2 = p + 9 := by omega
                  have v2 : (p : Int) + 9 + s ≤ c2 := by omega
                  have hpl : (partD D p).length = s := by rw [hpd, List.length_take, List.length_drop]; omega
                  have hp255 : is255 (partD D p) := fun x hx => HD255.out x (List.mem_of_mem_drop (List.mem_of_mem_take (by rw [← hpd]; exact hx)))
                  have HUN : Hid (∀ cc, Calls Try.prog 54 #[.slice (some ⟨g2, p + 9, none⟩) s cc] wc (GivesU (unM (partD D p)) (unC (partD D p)) wc)) := Lib.hid (fun cc => sUnpackMask_any _ s cc (partD D p) hpl hp255 s2 wc (by
                    have := ((HRW.out wc HB3.out).more (Nat.le_trans hwr hwc))
                    have h3 := this.partY (p + 9) s (by omega)
                    rw [← hpd, Nat.zero_add] at h3
                    exact h3))
                  unfold GivesU at HUN
                  have hM : (unM (partD D p)).length = 16 := by
                    rw [unM]
                    split
                    · exact (decA_ok _).1
                    · rfl
                  have hbk : blkAtD D p = (corD D p, unM (partD D p)) := rfl
                  rw [hbk] at HYS
                  rw [decide_eq_true h9, decide_eq_true h2] at hokd
                  have hcor : ∃ X Y, corD D p = [X, Y] := ⟨_, _, rfl⟩
                  clear hpl hp255 hpd hbk
                  generalize unM (partD D p) = M at *
                  generalize unC (partD D p) = CU at *
                  by_cases hcu : CU = 0
                  · subst hcu
                    have HY2 := Lib.hid (HYS.out (by rw [hokd]; rfl))
                    obtain ⟨X, Y, hXY⟩ := hcor
                    rw [hXY] at HBL HY2
                    have HM16 := Lib.hid hM
                    have HBB : Hid ((([X, Y] : List Int).length = 2) ∧ M.length = 16) := Lib.hid ⟨rfl, hM⟩
                    have hcl : (bcs [(([X, Y], M) : Bl)]).length = 1 * 18 := by rw [bcs_length (bls_one HBB.out)]; rfl
                    have HCL := Lib.hid hcl
                    have hm4 : m ≤ 1000 := by have := HMK.out; omega
                    clear hokd HFAIL HAG HYES HBAD HNO hcr HYS hM hXY hcl HNUM HL HROW HR HT3 HT4 HT5 t1 t2 t6 HT
                    go_wp2_with (first
                      | (go_at_call 54; refine (HUN.out _).mono ?_; rintro e w5 ⟨rfl, hb5⟩; have hz5 := hb5.size; have K5 := Lib.hid (HBL.out.below hb5 HBL.out.lt); have B5 := Lib.hid (HB3.out.trans (hb5.mono hwc)); clear hb5)
                      | (refine wpList_store_row rfl _ _ _ rfl w5.heap.size (ivs .u16 M) rfl rfl 76 (ivs .u16 zr16) (Blk.newAt rfl rfl) (by rw [ivs_size, HM16.out]; exact size76) (by first | (rw [ivs_size, ivs_size, HM16.out]; rfl) | rw [ivs_size, ivs_size, HM16.out]) ivs_one ?_; generalize hw6 : World.setRow _ _ _ = w6; have G6 : Hid (Blk w6 w5.heap.size 76 (ivs .u16 M)) := Lib.hid (by rw [← hw6]; exact (Blk.newAt rfl rfl).row _); have hb6 : Below w5.heap.size w5 w6 := (by rw [← hw6]; exact below_setRow ((Below.refl _ _).alloc (Nat.le_refl _) _) (Nat.le_refl _) _); clear hw6; have hz6 := hb6.size; have K6 := Lib.hid (K5.out.below hb6 K5.out.lt); have B6 := Lib.hid (B5.out.trans (hb6.mono (by omega))); clear hb6)
                      | refine wpList_load_row rfl _ _ rfl w5.heap.size rfl 76 (ivs .u16 M) (0, 0) _ G6.out Try.underlying76 rfl (by rw [ivs_size, HM16.out]; exact size76) ?_
                      | (refine wpList_store_mid rfl _ _ _ rfl wr.heap.size 2 (ivs .u16 M) rfl rfl (K6.out.there _ _ (by rw [bav_size (b := ([X, Y], zr16)) ⟨rfl, rfl⟩, ivs_size, HM16.out]; omega)) (by rw [ivs_size, HM16.out]; exact size76) ivs_one ?_; rw [ivs_toList]; have N7 : Hid (Blk (w6.setCells wr.heap.size 2 (M.map (.int .u16))) wr.heap.size 78 (bav ([X, Y], M))) := Lib.hid (by have h := K6.out.setCellsV (M.map (.int .u16)) 2 (by rw [bav_size (b := ([X, Y], zr16)) ⟨rfl, rfl⟩, List.length_map, HM16.out]; omega); have e := put_mask (b := ([X, Y], M)) (z := ([X, Y], zr16)) HM16.out rfl rfl; rw [← e]; exact h); have B7' := below_setCells (Nat.le_refl _) (M.map (.int .u16)) 2 B6.out; generalize w6.setCells wr.heap.size 2 (M.map (.int .u16)) = w7 at *; have O7 := Lib.hid (own_below HO.out B7' (Nat.le_refl _)); have B7 := Lib.hid (HB.out.trans (B7'.mono hwr)); clear B7')
                      | refine wpList_load_row rfl _ _ rfl wr.heap.size rfl 78 (bav ([X, Y], M)) (0, 0) _ N7.out Try.underlying78 rfl (by rw [bav_size HBB.out]; exact size78) ?_
                      | (refine wpList_buildSlice_block rfl 27 78 _ rfl Try.underlying27 hi hz0 hz1 ([X, Y], M) HBB.out rfl ?_; have HNW := Lib.hid (block_news w7 ([X, Y], M)); have HOA := Lib.hid (O7.out.alloc (.cells (bav ([X, Y], M)) 78)); have BA := Lib.hid (B7.out.alloc B7.out.size (.cells (bav ([X, Y], M)) 78)))
                      | (at_builtin; refine wpList_append_own _ rfl _ _ 27 rfl w2.heap.size 78 i0 _ 18 40 Try.underlying27 hi hz0 hz1 hz2 rfl (by decide) (.slice (some ⟨g, 0, none⟩) m cc) m _ rfl HOA.out ⟨w7.heap.size, 0, none⟩ 1 1 (bcs [([X, Y], M)]) rfl HCL.out HNW.out (bcs_one _) (by unfold maxLen; omega) (by omega) BA.out.size ?_; intro v8 w8 hown8 hgrow8 hnil8; rw [← bcs_append] at hown8; obtain ⟨g8, c8, rfl⟩ := own_some hown8 (by omega); have HO8 := Lib.hid hown8; have HG8 := Lib.hid hgrow8; clear hown8 hgrow8 hnil8))
                    exact ⟨⟨k + 1, p + 9 + s, g8, c8, m + 1, out ++ [([X, Y], M)], by omega, by go_num, by go_num, rfl, Lib.hid (by rw [List.length_append, HM.out]; rfl), HY2, HO8, Lib.hid (BA.out.grown HG8.out BA.out.size (fun j e => (HOA.out.lt _ e).1))⟩, by simp [intOf]; omega⟩
                  · have HF := HFAIL.out (by rw [hokd, beq_eq_false_iff_ne.2 hcu]; rfl)
                    have HM16 := Lib.hid hM
                    clear hokd HFAIL HAG HYES HBAD HNO hcr HYS hM HNUM HL HROW HR HT3 HT4 HT5 t1 t2 t6 HO HT
                    go_wp2_with (first
                      | (go_at_call 54; refine (HUN.out _).mono ?_; rintro e w5 ⟨rfl, hb5⟩; have B5 := Lib.hid (HBw.out.trans ((HB3.out.mono (by have := HBw.out.size; omega)).trans (hb5.mono (by have := HBw.out.size; omega)))); clear hb5)
                      | (refine wpList_store_row rfl _ _ _ rfl w5.heap.size (ivs .u16 M) rfl rfl 76 (ivs .u16 zr16) (Blk.newAt rfl rfl) (by rw [ivs_size, HM16.out]; exact size76) (by first | (rw [ivs_size, ivs_size, HM16.out]; rfl) | rw [ivs_size, ivs_size, HM16.out]) ivs_one ?_; generalize hw6 : World.setRow _ _ _ = w6; have hb6 : Below w5.heap.size w5 w6 := (by rw [← hw6]; exact below_setRow ((Below.refl _ _).alloc (Nat.le_refl _) _) (Nat.le_refl _) _); clear hw6; have B6 := Lib.hid (B5.out.trans (hb6.mono B5.out.size)); clear hb6))
                    go_ret2
                    obtain ⟨e1, e2⟩ := HF.out
                    rw [e1, e2]
                    exact GivesToldB.lit B6.out
                · have HF := HFAIL.out (by rw [hokd, decide_eq_false h2, Bool.false_and, Bool.and_false])
                  have h2i : (D.length : Int) < (p : Int) + 9 + s := by omega
                  clear hokd HFAIL
                  go_wp2
                  go_ret2
                  obtain ⟨e1, e2⟩ := HF.out
                  rw [e1, e2]
                  exact GivesToldB.lit (HBw.out.trans (HB3.out.mono HBw.out.size))
          · have HF := HFAIL.out (by rw [hokd, decide_eq_false h9]; rfl)
            have h9i : (D.length : Int) < (p : Int) + 9 := by omega
            clear hokd HFAIL h9
            go_wp2
            go_ret2
            obtain ⟨e1, e2⟩ := HF.out
            rw [e1, e2]
            exact GivesToldB.lit HBw.out
        · obtain rfl : k = N := by omega
          have hp1 : m ≤ 1048576 := by have := HMK.out; omega
          have HPF := Lib.hid (fun W hW => sPictureFile_any (some ⟨g, 0, none⟩) m cc out HM.out.symm HT3.out HT4.out HT5.out hp1 W hW)
          have hpl := pfF_length out
          have HPR := Lib.hid (pfF_rows out)
          obtain ⟨A1, c1', hve, hO1⟩ := Own.of_row HO.out
          cases hve
          have HO1 := Lib.hid hO1
          clear hO1
          have HSM := Lib.hid (fun (A1 : Option Addr) (n1 c1 : Nat) (h1 : (pfF out).length = n1) (W : World) (h2 : Rd W W.heap.size 16 A1 n1 ((pfF out).flatten.map (.int .u8))) (h3 : Rd W W.heap.size 16 A n (l.flatten.map (.int .u8))) => l09Same_any A1 A n1 n c1 c (pfF out) l h1 HL.out HPR.out HROW.out (by omega) W h2 h3)
          have hcs : (pfC out ≠ 0 ∧ Hid (RL = [] ∧ RC = 5)) ∨ (pfC out = 0 ∧ (pfF out == l) = false ∧ Hid (RL = [] ∧ RC = 5)) ∨ (pfC out = 0 ∧ (pfF out == l) = true ∧ Hid (RL = out ∧ RC = 0)) := by
            cases hv : vpB out
            · exact .inl ⟨by rw [pfC, hv]; simp, Lib.hid (HBAD.out out p HT.out (.inl hv))⟩
            · have hag := HAG.out out (by rw [t1]) hv
              by_cases hd : picD out = D
              · have h2 := hag.2 hd
                exact .inr (.inr ⟨h2.1, by rw [h2.2]; exact beq_self_eq_true _, Lib.hid (HYES.out out p HT.out hv hd)⟩)
              · have hb := Lib.hid (HBAD.out out p HT.out (.inr hd))
                by_cases h0 : pfC out = 0
                · exact .inr (.inl ⟨h0, beq_eq_false_iff_ne.2 fun e => hd (hag.1 ⟨h0, e⟩), hb⟩)
                · exact .inl ⟨h0, hb⟩
          clear HAG HYES HBAD HNO HT3 HT4 HT5 HT t1 t6 HPR
          unfold GivesFp at HPF
          obtain ⟨nF, hnF⟩ : ∃ nF, (pfF out).length = nF := ⟨_, rfl⟩
          rw [hnF] at HPF hpl
          have HNF := Lib.hid hnF
          clear hnF
          generalize pfC out = PC at *
          rcases hcs with ⟨h0, HE⟩ | ⟨rfl, hq, HE⟩ | ⟨rfl, hq, HE⟩
          · go_wp2_with (go_at_call 8; refine (HPF.out _ ((HO1.out.rd).more (by omega))).mono ?_; rintro e w5 ⟨A5, c5, rfl, hO5, hb5⟩; have B5 := Lib.hid (HBw.out.trans (hb5.mono HBw.out.size)); clear hO5 hb5)
            go_ret2
            rw [HE.out.1, HE.out.2]
            exact GivesToldB.lit B5.out
          · rw [hq] at HSM
            go_wp2_with (first
              | (go_at_call 8; refine (HPF.out _ ((HO1.out.rd).more (by omega))).mono ?_; rintro e w5 ⟨A5, c5, rfl, hO5, hb5⟩; have B5 := Lib.hid (HBw.out.trans (hb5.mono HBw.out.size)); have O5 := Lib.hid hO5.rd; clear hO5 hb5)
              | (go_at_call 55; refine (HSM.out _ _ _ HNF.out _ O5.out ((HR.out.below B5.out (Nat.le_refl _)).more B5.out.size)).mono ?_; rintro e w6 ⟨rfl, hb6⟩; have B6 := Lib.hid (B5.out.trans (hb6.mono B5.out.size)); clear hb6))
            go_ret2
            rw [HE.out.1, HE.out.2]
            exact GivesToldB.lit B6.out
          · rw [hq] at HSM
            go_wp2_with (first
              | (go_at_call 8; refine (HPF.out _ ((HO1.out.rd).more (by omega))).mono ?_; rintro e w5 ⟨A5, c5, rfl, hO5, hb5⟩; have B5 := Lib.hid (HBw.out.trans (hb5.mono HBw.out.size)); have O5 := Lib.hid hO5.rd; have Q5 := Lib.hid (HO1.out.below hb5 (Nat.le_refl _)); have z5 := hb5.size; clear hO5 hb5)
              | (go_at_call 55; refine (HSM.out _ _ _ HNF.out _ O5.out ((HR.out.below B5.out (Nat.le_refl _)).more B5.out.size)).mono ?_; rintro e w6 ⟨rfl, hb6⟩; have B6 := Lib.hid (B5.out.trans (hb6.mono B5.out.size)); have Q6 := Lib.hid (Q5.out.below hb6 z5); have z6 := hb6.size; clear hb6))
            go_ret2
            rw [HE.out.1, HE.out.2]
            exact ⟨_, _, by rw [← HM.out]; rfl, by rw [← HM.out]; exact (Q6.out.less zz2).more (by omega), B6.out⟩
    · obtain ⟨e1, e2⟩ := rp_kind hC hK
      rw [hC] at HOP
      have E := Lib.hid (And.intro e1 e2)
      clear e1 e2 hC hR hl hrow h255
      generalize opKind l = K at *
      generalize opCount l = M at *
      generalize opData l = D at *
      go_enter Try.func17, Try.ntmps17
      go_wp2_with (go_at_call 52; refine HOP.out.mono ?_; rintro e w2 ⟨A2, c2, rfl, hO2, hb2⟩; have HB2 := Lib.hid hb2; clear hO2 hb2)
      go_ret2
      rw [E.out.1, E.out.2]
      exact GivesToldB.lit HB2.out
  · obtain ⟨e1, e2⟩ := rp_code hC
    have E := Lib.hid (And.intro e1 e2)
    clear e1 e2 hR hl hrow h255
    generalize opKind l = K at *
    generalize opCount l = M at *
    generalize opData l = D at *
    generalize opCode l = C at *
    go_enter Try.func17, Try.ntmps17
    go_wp2_with (go_at_call 52; refine HOP.out.mono ?_; rintro e w2 ⟨A2, c2, rfl, hO2, hb2⟩; have HB2 := Lib.hid hb2; clear hO2 hb2)
    go_ret2
    rw [E.out.1, E.out.2]
    exact GivesToldB.lit HB2.out
end Go.Proofs.Ytmagaapdijapiaa
namespace Go.Proofs.Ytmagaapdijapiaa
open Go.ChangeShapes Go.WideShapes Go.ChangeAt Go.RowKit
set_option maxRecDepth 20000 in
set_option maxHeartbeats 1600000 in
theorem equalB_any (A A' : Option Addr) (n n' c c' : Nat) (l l' : List Int) (hl : l.length = n) (hl' : l'.length = n') (hn : n ≤ 100000000) (w : World) (hR : Rd w w.heap.size 1 A n (l.map (.int .u8))) (hR' : Rd w w.heap.size 1 A' n' (l'.map (.int .u8))) :
    Calls Try.prog 106 #[.slice A n c, .slice A' n' c'] w fun e w' => e = .returned (.bool (l == l')) ∧ Below w.heap.size w w' := by
  by_cases hnn : n = n'
  · subst hnn
    have HR := Lib.hid hR
    have HR' := Lib.hid hR'
    have Hl := Lib.hid hl
    have Hl' := Lib.hid hl'
    clear hR hR' hl hl'
    go_enter Try.func106, Try.ntmps106
    go_wp2
    go_loopw [5, 13] (fun _ i wr => ∃ k : Nat, k ≤ n ∧ i = .int .i64 k ∧ Hid (l.take k = l'.take k) ∧ Below w.heap.size w wr) (fun _ i _ => n - (intOf i).toNat)
    case atStart => exact ⟨0, by omega, rfl, Lib.hid (by simp), Below.refl _ _⟩
    case round =>
      obtain ⟨k, hk, rfl, htk, hb⟩ := hrel
      by_cases hlt : k < n
      · obtain ⟨b, o, rfl, hbB, hc⟩ := (HR.out.below hb (Nat.le_refl _)).at_ (by omega)
        obtain ⟨b', o', rfl, hbB', hc'⟩ := (HR'.out.below hb (Nat.le_refl _)).at_ (by omega)
        have hkl : k < l.length := by rw [Hl.out]; exact hlt
        have hkl' : k < l'.length := by rw [Hl'.out]; exact hlt
        have c1 := hc k (.int .u8 l[k]) (by rw [List.getElem?_map, List.getElem?_eq_getElem hkl]; rfl)
        have c2 := hc' k (.int .u8 l'[k]) (by rw [List.getElem?_map, List.getElem?_eq_getElem hkl']; rfl)
        by_cases he : l[k] = l'[k]
        · have htk2 := Lib.hid (take_eq_succ hkl hkl' htk.out he)
          rw [← he] at c2
          generalize l[k] = x at *
          have hi1 : (k : Int) < (n : Int) := by omega
          clear hc hbB hc' hbB' he hkl hkl' htk
          go_wp2_with fail
          go_quiet (fail)
          go_wp2
          exact ⟨⟨k + 1, by omega, by go_num, htk2, below_drewN hb _⟩, by simp [intOf]; omega⟩
        · have hfin := Lib.hid (bne_of_at hkl hkl' he)
          generalize l[k] = x at *
          generalize l'[k] = y at *
          have hi1 : (k : Int) < (n : Int) := by omega
          clear hc hbB hc' hbB' hkl hkl' htk
          go_wp2_with fail
          go_quiet (fail)
          go_wp2
          go_ret
          exact ⟨by rw [hfin.out]; rfl, below_drewN hb _⟩
      · have : k = n := by omega
        subst this
        have hfin := Lib.hid (beq_of_takes Hl.out Hl'.out htk.out)
        clear htk
        go_wp2
        go_ret
        exact ⟨by rw [hfin.out]; rfl, hb⟩
  · have hne : (l == l') = false := by
      rw [beq_eq_false_iff_ne]
      rintro rfl
      exact hnn (hl.symm.trans hl')
    rw [hne]
    clear hne hl hl' hR hR'
    go_enter Try.func106, Try.ntmps106
    go_wp2
    go_ret
    exact ⟨rfl, Below.refl _ _⟩
/-- the same of the library's other one -/
theorem bytesEq_any (g g' : Nat) (n n' c c' : Nat) (l l' : List Int) (hl : l.length = n) (hl' : l'.length = n') (h1 : is255 l) (h2 : is255 l') (w : World) (h : w.rangeAt g 0 (l.map (.int .u8))) (h' : w.rangeAt g' 0 (l'.map (.int .u8))) :
    Calls Try.prog 60 #[.slice (some ⟨g, 0, none⟩) n c, .slice (some ⟨g', 0, none⟩) n' c'] w fun e w' => e = .returned (.bool (l == l')) ∧ w = w' := by
  refine (bytesEqual_any g 0 n c g' 0 n' c' _ _ w (conv_bytes hl h) (conv_bytes hl' h')).mono ?_
  rintro e w' ⟨rfl, rfl⟩
  exact ⟨by rw [strOfNums_inj h1 h2], rfl⟩
end Go.Proofs.Ytmagaapdijapiaa
namespace Go.Proofs.Ytmagaapdijapiaa
open Go.ChangeShapes Go.WideShapes Go.ChangeAt Go.RowKit
/-- where the first rounds lead, and what they fill -/
def atE (D : List Int) (n k : Nat) : Nat := if k ≤ n then atK D k else 256
def mkE (D : List Int) (n k : Nat) : List Int := if k ≤ n then decK D k else decA D
theorem mkE_succ {D : List Int} {n k : Nat} (hl : D.length = n) (hk : k ≤ n) : mkE D n (k + 1) = if oddB k then fillK (mkE D n k) (atE D n k) (atE D n (k + 1) - atE D n k) else mkE D n k := by
  rw [mkE, mkE, atE, atE, if_pos hk, if_pos hk]
  by_cases h : k + 1 ≤ n
  · rw [if_pos h, if_pos h]; rfl
  · obtain rfl : k = n := by omega
    rw [if_neg h, if_neg h, decA, hl]
theorem mkE_ok (D : List Int) (n k : Nat) : (mkE D n k).length = 16 ∧ is16 (mkE D n k) := by
  rw [mkE]
  split
  · exact decK_ok _ _
  · exact decA_ok _
theorem atE_le (D : List Int) (n k : Nat) : atE D n k ≤ 256 := by
  rw [atE]
  split
  · exact atK_le _ _
  · exact Nat.le_refl _
theorem atE_mono {D : List Int} {n k : Nat} (hk : k ≤ n) : atE D n k ≤ atE D n (k + 1) := by
  rw [atE, atE, if_pos hk]
  split
  · exact atK_mono _ _
  · exact atK_le _ _
theorem atE_next {D : List Int} {n k : Nat} (hl : D.length = n) (hk : k < n) : atE D n (k + 1) = min 256 (atE D n k + (D[k]'(by omega)).toNat) := by
  have h := sumN_succ (l := D) (k := k) (by omega)
  rw [atE, atE, if_pos (by omega), if_pos (by omega), atK, atK, h]
  omega
set_option maxRecDepth 20000 in
set_option maxHeartbeats 3200000 in
theorem iUnpackMask_any (A : Option Addr) (n c : Nat) (D : List Int) (hl : D.length = n) (h255 : is255 D) (hn : n ≤ 256) (w : World) (hR : Rd w w.heap.size 1 A n (D.map (.int .u8))) :
    Calls Try.prog 58 #[.slice A n c] w (GivesU (unM D) (unC D) w) := by
  have HR := Lib.hid hR
  have HL := Lib.hid hl
  have H255 := Lib.hid h255
  clear hR hl h255
  have hmin : min (n : Int) 256 = n := by omega
  go_enter Try.func58, Try.ntmps58
  go_wp2
  go_loopw [5, 6, 14] (fun a s i wr => ∃ k : Nat, k ≤ n + 1 ∧ a = .int .i64 ((atE D n k : Nat) : Int) ∧ s = .bool (oddB k) ∧ i = .int .i64 k ∧ Hid (Blk wr w.heap.size 76 (ivs .u16 zr16)) ∧ Hid (Blk wr (w.heap.size + 1) 76 (ivs .u16 (mkE D n k))) ∧ Hid (Below w.heap.size w wr)) (fun _ _ i _ => n + 1 - (intOf i).toNat)
  case atStart => exact ⟨0, by omega, by rw [atE, if_pos (Nat.zero_le _)]; rfl, rfl, rfl, Lib.hid ((Blk.newAt rfl rfl).alloc _), Lib.hid (by have h := Blk.new (w.alloc (.cells (ivs .u16 zr16) 76)) 76 (ivs .u16 zr16); rw [size_alloc] at h; rw [mkE, if_pos (Nat.zero_le _)]; exact h), Lib.hid (((Below.refl _ _).alloc (Nat.le_refl _) _).alloc (by simp) _)⟩
  case round =>
    obtain ⟨k, hk, rfl, rfl, rfl, H0, H1, HB⟩ := hrel
    by_cases hlt : k ≤ n
    · have hm := mkE_ok D n k
      have hms := mkE_succ HL.out hlt
      have h1 := atE_le D n k
      have h2 := atE_le D n (k + 1)
      have h3 := atE_mono (D := D) hlt
      have hox : oddB (k + 1) = !oddB k := oddB_succ k
      have HM := Lib.hid hm
      have HMS := Lib.hid hms
      have hcs : (k < n ∧ ∃ x : Nat, x ≤ 255 ∧ D[k]? = some (x : Int) ∧ atE D n (k + 1) = min 256 (atE D n k + x)) ∨ (k = n ∧ atE D n (k + 1) = 256) := by
        by_cases hkn : k < n
        · have hkl : k < D.length := by rw [HL.out]; exact hkn
          have hx := H255.out _ (List.getElem_mem hkl)
          refine .inl ⟨hkn, (D[k]).toNat, by omega, ?_, atE_next HL.out hkn⟩
          rw [List.getElem?_eq_getElem hkl]
          congr 1
          omega
        · exact .inr ⟨by omega, by rw [atE, if_neg (by omega)]⟩
      clear hm hms
      generalize atE D n k = s at *
      generalize mkE D n k = M0 at *
      obtain ⟨e, he⟩ : ∃ e, e = atE D n (k + 1) := ⟨_, rfl⟩
      rw [← he] at HMS h2 h3 hcs
      obtain ⟨M1, hM1⟩ : ∃ M, M = mkE D n (k + 1) := ⟨_, rfl⟩
      rw [← hM1] at HMS
      generalize oddB k = od at *
      have hk0 : (0 : Int) ≤ k := by omega
      have hki : (k : Int) < (n : Int) + 1 := by omega
      have HE : Hid (Hid (e = atE D n (k + 1)) ∧ Hid (M1 = mkE D n (k + 1)) ∧ Hid (oddB (k + 1) = !od)) := Lib.hid ⟨Lib.hid he, Lib.hid hM1, Lib.hid hox⟩
      clear he hM1 hox
      rcases hcs with ⟨hkn, x, hx, hDx, hex⟩ | ⟨hkn, hex⟩
      · obtain ⟨b, o, hA, hbB, hc⟩ := (HR.out.below HB.out (Nat.le_refl _)).at_ (by omega)
        subst hA
        have cb := hc k (.int .u8 x) (by rw [List.getElem?_map, hDx]; rfl)
        have hkn' : (k : Int) < (n : Int) := by omega
        clear hc hbB hDx
        by_cases hsx : s + x < 256
        · have hE : (s : Int) + x = e := by omega
          have hsxi : (s : Int) + x < 256 := by omega
          clear hex
          go_wp2
          go_loopw [5] (fun a wi => ∃ j : Nat, s + j ≤ e ∧ a = .int .i64 ((s + j : Nat) : Int) ∧ Hid (Blk wi w.heap.size 76 (ivs .u16 zr16)) ∧ Hid (Blk wi (w.heap.size + 1) 76 (ivs .u16 (if od then fillK M0 s j else M0))) ∧ Hid (Below w.heap.size w wi)) (fun a _ => e - (intOf a).toNat)
          case atStart => exact ⟨0, by omega, rfl, H0, by cases od <;> exact H1, HB⟩
          case round =>
            clear H0 H1 HB
            obtain ⟨j, hsj, rfl, H0, H1, HB⟩ := hrel
            by_cases hje : s + j < e
            · have hjei : (s : Int) + j < (s : Int) + x := by omega
              cases od
              · rw [if_neg (by decide)] at H1
                go_wp2
                exact ⟨⟨j + 1, by omega, by go_num, H0, H1, HB⟩, by simp [intOf]; omega⟩
              · rw [if_pos rfl] at H1
                obtain ⟨m1, m2⟩ := fillK_ok HM.out.1 HM.out.2 s j
                have HM1 := Lib.hid m1
                have hfl : fillK M0 s (j + 1) = setK (fillK M0 s j) (s + j) := rfl
                have HFL := Lib.hid hfl
                clear m1 m2 hfl
                generalize fillK M0 s j = M at *
                obtain ⟨a, ha⟩ : ∃ a, s + j = a := ⟨_, rfl⟩
                rw [ha] at HFL hsj hje ⊢
                have H3 := Lib.hid (setK_blk H1.out a)
                have h6a : (a : Int) < (s : Int) + x := by omega
                have ha0 : (0 : Int) ≤ a := by omega
                obtain ⟨u, hu⟩ : ∃ u : Nat, (a : Int) % 16 = u := ⟨a % 16, by omega⟩
                obtain ⟨v, hv⟩ : ∃ v : Nat, (a : Int) / 16 = v := ⟨a / 16, by omega⟩
                rw [show a % 16 = u by omega, show a / 16 = v by omega] at H3
                have hv16 : v < 16 := by omega
                have hu16 : u < 16 := by omega
                have c8 := H1.out.getAtG (i := v) (by rw [HM1.out]; exact hv16)
                have f8 := H1.out.frozen v
                generalize M.getD v 0 = m8 at *
                have hvI : (v : Int) < 16 := by omega
                have hv0 : (0 : Int) ≤ v := by omega
                have huI : (u : Int) < 16 := by omega
                have hu0 : (0 : Int) ≤ u := by omega
                have hp16 := pow_16 hu16
                have hwp : IntKind.u16.wrap (2 ^ u) = 2 ^ u := by rw [IntKind.wrap_u16]; omega
                have HA := Lib.hid ha
                clear hp16 ha
                go_wp2
                go_region
                go_wp2
                have H3' : Hid (Blk (wr.setCell ⟨w.heap.size + 1, v, none⟩ (.int .u16 (bits .or .u16 m8 (2 ^ u)))) (w.heap.size + 1) 76 (ivs .u16 (setK M a))) := H3
                exact ⟨⟨j + 1, by have := HA.out; omega, by rw [show s + (j + 1) = a + 1 by have := HA.out; omega]; go_num, Lib.hid ((H0.out.far (p := ⟨w.heap.size + 1, v, none⟩) (show w.heap.size ≠ w.heap.size + 1 by omega) _).drew), by rw [HFL.out]; exact Lib.hid H3'.out.drew, Lib.hid (below_drew (HB.out.setCell (p := ⟨w.heap.size + 1, v, none⟩) (show w.heap.size ≤ w.heap.size + 1 by omega) _))⟩, by simp [intOf]; omega⟩
            · have he2 : e = s + j := by omega
              have he3 : ¬ (s : Int) + j < (s : Int) + x := by omega
              go_wp2
              obtain ⟨e1, e2, e3⟩ := HE.out
              exact ⟨⟨k + 1, by omega, by rw [← e1.out, he2], by rw [e3.out], by go_num, H0, Lib.hid (by
                rw [← e2.out, HMS.out, he2, Nat.add_sub_cancel_left]
                exact H1.out), HB⟩, by simp [intOf]; omega⟩
        · have hE : (256 : Int) = e := by omega
          have hsxi : ¬ (s : Int) + x < 256 := by omega
          have hsxj : (256 : Int) ≤ (s : Int) + x := by omega
          clear hex
          go_wp2
          go_loopw [5] (fun a wi => ∃ j : Nat, s + j ≤ e ∧ a = .int .i64 ((s + j : Nat) : Int) ∧ Hid (Blk wi w.heap.size 76 (ivs .u16 zr16)) ∧ Hid (Blk wi (w.heap.size + 1) 76 (ivs .u16 (if od then fillK M0 s j else M0))) ∧ Hid (Below w.heap.size w wi)) (fun a _ => e - (intOf a).toNat)
          case atStart => exact ⟨0, by omega, rfl, H0, by cases od <;> exact H1, HB⟩
          case round =>
            clear H0 H1 HB
            obtain ⟨j, hsj, rfl, H0, H1, HB⟩ := hrel
            by_cases hje : s + j < e
            · have hjei : (s : Int) + j < 256 := by omega
              cases od
              · rw [if_neg (by decide)] at H1
                go_wp2
                exact ⟨⟨j + 1, by omega, by go_num, H0, H1, HB⟩, by simp [intOf]; omega⟩
              · rw [if_pos rfl] at H1
                obtain ⟨m1, m2⟩ := fillK_ok HM.out.1 HM.out.2 s j
                have HM1 := Lib.hid m1
                have hfl : fillK M0 s (j + 1) = setK (fillK M0 s j) (s + j) := rfl
                have HFL := Lib.hid hfl
                clear m1 m2 hfl
                generalize fillK M0 s j = M at *
                obtain ⟨a, ha⟩ : ∃ a, s + j = a := ⟨_, rfl⟩
                rw [ha] at HFL hsj hje ⊢
                have H3 := Lib.hid (setK_blk H1.out a)
                have h6a : (a : Int) < 256 := by omega
                have ha0 : (0 : Int) ≤ a := by omega
                obtain ⟨u, hu⟩ : ∃ u : Nat, (a : Int) % 16 = u := ⟨a % 16, by omega⟩
                obtain ⟨v, hv⟩ : ∃ v : Nat, (a : Int) / 16 = v := ⟨a / 16, by omega⟩
                rw [show a % 16 = u by omega, show a / 16 = v by omega] at H3
                have hv16 : v < 16 := by omega
                have hu16 : u < 16 := by omega
                have c8 := H1.out.getAtG (i := v) (by rw [HM1.out]; exact hv16)
                have f8 := H1.out.frozen v
                generalize M.getD v 0 = m8 at *
                have hvI : (v : Int) < 16 := by omega
                have hv0 : (0 : Int) ≤ v := by omega
                have huI : (u : Int) < 16 := by omega
                have hu0 : (0 : Int) ≤ u := by omega
                have hp16 := pow_16 hu16
                have hwp : IntKind.u16.wrap (2 ^ u) = 2 ^ u := by rw [IntKind.wrap_u16]; omega
                have HA := Lib.hid ha
                clear hp16 ha
                go_wp2
                go_region
                go_wp2
                have H3' : Hid (Blk (wr.setCell ⟨w.heap.size + 1, v, none⟩ (.int .u16 (bits .or .u16 m8 (2 ^ u)))) (w.heap.size + 1) 76 (ivs .u16 (setK M a))) := H3
                exact ⟨⟨j + 1, by have := HA.out; omega, by rw [show s + (j + 1) = a + 1 by have := HA.out; omega]; go_num, Lib.hid ((H0.out.far (p := ⟨w.heap.size + 1, v, none⟩) (show w.heap.size ≠ w.heap.size + 1 by omega) _).drew), by rw [HFL.out]; exact Lib.hid H3'.out.drew, Lib.hid (below_drew (HB.out.setCell (p := ⟨w.heap.size + 1, v, none⟩) (show w.heap.size ≤ w.heap.size + 1 by omega) _))⟩, by simp [intOf]; omega⟩
            · have he2 : e = s + j := by omega
              have he3 : ¬ (s : Int) + j < 256 := by omega
              go_wp2
              obtain ⟨e1, e2, e3⟩ := HE.out
              exact ⟨⟨k + 1, by omega, by rw [← e1.out, he2], by rw [e3.out], by go_num, H0, Lib.hid (by
                rw [← e2.out, HMS.out, he2, Nat.add_sub_cancel_left]
                exact H1.out), HB⟩, by simp [intOf]; omega⟩
      · have hkn' : ¬ (k : Int) < (n : Int) := by omega
        have hE : (256 : Int) = e := by omega
        clear hex
        go_wp2
        go_loopw [5] (fun a wi => ∃ j : Nat, s + j ≤ e ∧ a = .int .i64 ((s + j : Nat) : Int) ∧ Hid (Blk wi w.heap.size 76 (ivs .u16 zr16)) ∧ Hid (Blk wi (w.heap.size + 1) 76 (ivs .u16 (if od then fillK M0 s j else M0))) ∧ Hid (Below w.heap.size w wi)) (fun a _ => e - (intOf a).toNat)
        case atStart => exact ⟨0, by omega, rfl, H0, by cases od <;> exact H1, HB⟩
        case round =>
          clear H0 H1 HB
          obtain ⟨j, hsj, rfl, H0, H1, HB⟩ := hrel
          by_cases hje : s + j < e
          · have hjei : (s : Int) + j < 256 := by omega
            cases od
            · rw [if_neg (by decide)] at H1
              go_wp2
              exact ⟨⟨j + 1, by omega, by go_num, H0, H1, HB⟩, by simp [intOf]; omega⟩
            · rw [if_pos rfl] at H1
              obtain ⟨m1, m2⟩ := fillK_ok HM.out.1 HM.out.2 s j
              have HM1 := Lib.hid m1
              have hfl : fillK M0 s (j + 1) = setK (fillK M0 s j) (s + j) := rfl
              have HFL := Lib.hid hfl
              clear m1 m2 hfl
              generalize fillK M0 s j = M at *
              obtain ⟨a, ha⟩ : ∃ a, s + j = a := ⟨_, rfl⟩
              rw [ha] at HFL hsj hje ⊢
              have H3 := Lib.hid (setK_blk H1.out a)
              have h6a : (a : Int) < 256 := by omega
              have ha0 : (0 : Int) ≤ a := by omega
              obtain ⟨u, hu⟩ : ∃ u : Nat, (a : Int) % 16 = u := ⟨a % 16, by omega⟩
              obtain ⟨v, hv⟩ : ∃ v : Nat, (a : Int) / 16 = v := ⟨a / 16, by omega⟩
              rw [show a % 16 = u by omega, show a / 16 = v by omega] at H3
              have hv16 : v < 16 := by omega
              have hu16 : u < 16 := by omega
              have c8 := H1.out.getAtG (i := v) (by rw [HM1.out]; exact hv16)
              have f8 := H1.out.frozen v
              generalize M.getD v 0 = m8 at *
              have hvI : (v : Int) < 16 := by omega
              have hv0 : (0 : Int) ≤ v := by omega
              have huI : (u : Int) < 16 := by omega
              have hu0 : (0 : Int) ≤ u := by omega
              have hp16 := pow_16 hu16
              have hwp : IntKind.u16.wrap (2 ^ u) = 2 ^ u := by rw [IntKind.wrap_u16]; omega
              have HA := Lib.hid ha
              clear hp16 ha
              go_wp2
              go_region
              go_wp2
              have H3' : Hid (Blk (wr.setCell ⟨w.heap.size + 1, v, none⟩ (.int .u16 (bits .or .u16 m8 (2 ^ u)))) (w.heap.size + 1) 76 (ivs .u16 (setK M a))) := H3
              exact ⟨⟨j + 1, by have := HA.out; omega, by rw [show s + (j + 1) = a + 1 by have := HA.out; omega]; go_num, Lib.hid ((H0.out.far (p := ⟨w.heap.size + 1, v, none⟩) (show w.heap.size ≠ w.heap.size + 1 by omega) _).drew), by rw [HFL.out]; exact Lib.hid H3'.out.drew, Lib.hid (below_drew (HB.out.setCell (p := ⟨w.heap.size + 1, v, none⟩) (show w.heap.size ≤ w.heap.size + 1 by omega) _))⟩, by simp [intOf]; omega⟩
          · have he2 : e = s + j := by omega
            have he3 : ¬ (s : Int) + j < 256 := by omega
            go_wp2
            obtain ⟨e1, e2, e3⟩ := HE.out
            exact ⟨⟨k + 1, by omega, by rw [← e1.out, he2], by rw [e3.out], by go_num, H0, Lib.hid (by
              rw [← e2.out, HMS.out, he2, Nat.add_sub_cancel_left]
              exact H1.out), HB⟩, by simp [intOf]; omega⟩
    · obtain rfl : k = n + 1 := by omega
      have hM : mkE D n (n + 1) = decA D := by rw [mkE, if_neg (by omega)]
      rw [hM] at H1
      clear hM
      have HPK := Lib.hid (fun W => iPackMask_any (decA D) (decA_ok D).1 (decA_ok D).2 W)
      have HDM := Lib.hid (decA_ok D)
      have HP255 := Lib.hid (pmL_in (decA D))
      have hPl := pmL_length (decA D)
      have HCS : Hid ((pmL (decA D) = D ∧ unM D = decA D ∧ unC D = 0) ∨ (pmL (decA D) ≠ D ∧ unM D = zr16 ∧ unC D = 5)) := Lib.hid (by
        by_cases e : pmL (decA D) = D
        · exact .inl ⟨e, by rw [unM, if_pos e], by rw [unC, if_pos e]⟩
        · exact .inr ⟨e, by rw [unM, if_neg e], by rw [unC, if_neg e]⟩)
      generalize unM D = RM at *
      generalize unC D = RC at *
      generalize hP : pmL (decA D) = P at *
      have hcs : (P == D) = true ∧ Hid (RM = decA D ∧ RC = 0) ∨ (P == D) = false ∧ Hid (RM = zr16 ∧ RC = 5) := by
        rcases HCS.out with ⟨h, e⟩ | ⟨h, e⟩
        · exact .inl ⟨by rw [h]; exact beq_self_eq_true _, Lib.hid e⟩
        · exact .inr ⟨beq_eq_false_iff_ne.2 h, Lib.hid e⟩
      clear HCS hP
      have hni : ¬ ((n : Int) + 1) < (n : Int) + 1 := by omega
      have HEQ := Lib.hid (fun (A1 : Option Addr) (c1 : Nat) (W : World) (h1 : Rd W W.heap.size 1 A1 P.length (P.map (.int .u8))) (h2 : Rd W W.heap.size 1 A n (D.map (.int .u8))) => equalB_any A1 A P.length n c1 c P D rfl HL.out (by omega) W h1 h2)
      rcases hcs with ⟨hpd, HE⟩ | ⟨hpd, HE⟩
      · rw [hpd] at HEQ
        go_wp2_with (first
          | refine wpList_load_row rfl _ _ rfl (w.heap.size + 1) rfl 76 (ivs .u16 (decA D)) (0, 0) _ H1.out Try.underlying76 rfl (by rw [ivs_size, HDM.out.1]; exact size76) ?_
          | (go_at_call 94; refine (HPK.out _).mono ?_; rintro e w2 ⟨g2, c2, rfl, hO2, hb2⟩; have HO2 := Lib.hid hO2.rd; have HB2 := Lib.hid (HB.out.trans (hb2.mono HB.out.size)); have R0 := Lib.hid (H0.out.below hb2 (by have := H1.out.lt; omega)); have R1 := Lib.hid (H1.out.below hb2 H1.out.lt); clear hO2 hb2)
          | (go_at_call 106; refine (HEQ.out _ _ _ HO2.out ((HR.out.below HB2.out (Nat.le_refl _)).more HB2.out.size)).mono ?_; rintro e w3 ⟨rfl, hb3⟩; have HB3 := Lib.hid (HB2.out.trans (hb3.mono HB2.out.size)); have S0 := Lib.hid (R0.out.below hb3 (by have := R1.out.lt; omega)); have S1 := Lib.hid (R1.out.below hb3 R1.out.lt); clear hb3)
          | refine wpList_load_row rfl _ _ rfl (w.heap.size + 1) rfl 76 (ivs .u16 (decA D)) (0, 0) _ S1.out Try.underlying76 rfl (by rw [ivs_size, HDM.out.1]; exact size76) ?_
          | refine wpList_store_row rfl _ _ _ rfl w.heap.size (ivs .u16 (decA D)) rfl rfl 76 _ S0.out (by rw [ivs_size, HDM.out.1]; exact size76) (by rw [ivs_size, ivs_size, HDM.out.1]; rfl) ivs_one ?_)
        exact bodyPost_ret (results_row_tmpY rfl _ _ w.heap.size 76 (ivs .u16 (decA D)) (0, 0) _ rfl (S0.out.row _) Try.underlying76 rfl (by rw [ivs_size, HDM.out.1]; exact size76)) rfl ⟨by rw [HE.out.1, HE.out.2]; rfl, below_setRow HB3.out (by omega) _⟩
      · rw [hpd] at HEQ
        go_wp2_with (first
          | refine wpList_load_row rfl _ _ rfl (w.heap.size + 1) rfl 76 (ivs .u16 (decA D)) (0, 0) _ H1.out Try.underlying76 rfl (by rw [ivs_size, HDM.out.1]; exact size76) ?_
          | (go_at_call 94; refine (HPK.out _).mono ?_; rintro e w2 ⟨g2, c2, rfl, hO2, hb2⟩; have HO2 := Lib.hid hO2.rd; have HB2 := Lib.hid (HB.out.trans (hb2.mono HB.out.size)); have R0 := Lib.hid (H0.out.below hb2 (by have := H1.out.lt; omega)); have R1 := Lib.hid (H1.out.below hb2 H1.out.lt); clear hO2 hb2)
          | (go_at_call 106; refine (HEQ.out _ _ _ HO2.out ((HR.out.below HB2.out (Nat.le_refl _)).more HB2.out.size)).mono ?_; rintro e w3 ⟨rfl, hb3⟩; have HB3 := Lib.hid (HB2.out.trans (hb3.mono HB2.out.size)); have S0 := Lib.hid (R0.out.below hb3 (by have := R1.out.lt; omega)); have S1 := Lib.hid (R1.out.below hb3 R1.out.lt); clear hb3)
          | refine wpList_store_row rfl _ _ _ rfl w.heap.size (ivs .u16 zr16) rfl rfl 76 _ S0.out (by exact size76) rfl ivs_one ?_)
        exact bodyPost_ret (results_row_tmpY rfl _ _ w.heap.size 76 (ivs .u16 zr16) (0, 0) _ rfl (S0.out.row _) Try.underlying76 rfl (by exact size76)) rfl ⟨by rw [HE.out.1, HE.out.2]; rfl, below_setRow HB3.out (by omega) _⟩
end Go.Proofs.Ytmagaapdijapiaa
namespace Go.Proofs.Ytmagaapdijapiaa
open Go.ChangeShapes Go.WideShapes Go.ChangeAt Go.RowKit

def packCdI (kind count m : Int) : Int := if packOk kind count then (if m ≤ 8192 then 0 else 3) else 2
theorem packCdI_nat (k n : Int) (m : Nat) : packCdI k n m = packCd k n m := by
  unfold packCdI packCd
  split
  · by_cases h : m ≤ 8192
    · rw [if_pos h, if_pos (by omega)]
    · rw [if_neg h, if_neg (by omega)]
  · rfl
set_option maxRecDepth 20000 in
set_option maxHeartbeats 800000 in
theorem packCodeI_any (kind count m : Int) (h0 : 0 ≤ m) (h1 : m ≤ 4294967295) (w : World) :
    Calls Try.prog 104 #[.int .i64 kind, .int .i64 count, .int .i64 m] w fun e w' => e = .returned (.int .i64 (packCdI kind count m)) ∧ w = w' := by
  have e1 := fun W : World => inRange_any kind 1 3 W
  have e2 := fun W : World => inRange_any count 0 256 W
  cases q1 : inB kind 1 3
  · rw [q1] at e1
    have E1 := Lib.hid e1
    have hv : packCdI kind count m = 2 := by simp [packCdI, packOk, q1]
    rw [hv]
    clear e1 e2 q1 hv
    go_enter Try.func104, Try.ntmps104
    go_wp2_with fail
    refine (E1.out _).mono ?_
    rintro e wx ⟨rfl, rfl⟩
    go_wp2
    go_ret
    exact ⟨rfl, rfl⟩
  · rw [q1] at e1
    have E1 := Lib.hid e1
    cases q2 : inB count 0 256
    · rw [q2] at e2
      have E2 := Lib.hid e2
      have hv : packCdI kind count m = 2 := by simp [packCdI, packOk, q1, q2]
      rw [hv]
      clear e1 e2 q1 q2 hv
      go_enter Try.func104, Try.ntmps104
      go_wp2_with fail
      refine (E1.out _).mono ?_
      rintro e wx ⟨rfl, rfl⟩
      go_wp2_with fail
      refine (E2.out _).mono ?_
      rintro e wx ⟨rfl, rfl⟩
      go_wp2
      go_ret
      exact ⟨rfl, rfl⟩
    · rw [q2] at e2
      have E2 := Lib.hid e2
      have hv : packCdI kind count m = if m ≤ 8192 then 0 else 3 := by simp [packCdI, packOk, q1, q2]
      rw [hv]
      clear e1 e2 q1 q2 hv
      by_cases h : m ≤ 8192
      all_goals
        first | rw [if_pos h] | rw [if_neg h]
        go_enter Try.func104, Try.ntmps104
        go_wp2_with fail
        refine (E1.out _).mono ?_
        rintro e wx ⟨rfl, rfl⟩
        go_wp2_with fail
        refine (E2.out _).mono ?_
        rintro e wx ⟨rfl, rfl⟩
        go_wp2
        go_ret
        exact ⟨rfl, rfl⟩

theorem Own.capLe {w : World} {lo hi : Nat} {e : TypeId} {size : Nat} {A : Option Addr} {n c : Nat} {xs : List Value} (h : Own w lo hi e size A n c xs) : c ≤ 9223372036854775807 := by
  rcases h.2 with ⟨_, _, rfl⟩ | ⟨g, cur, h1, h2, h3, h4, h5, h6, _⟩
  · omega
  · unfold maxLen at h6; exact h6
def GOpenL (l : List (List Int)) : World → Ending → World → Prop := GivesOpen (opKind l) (opCount l) (opData l) (opCode l)

theorem dataOf_step (l : List (List Int)) (k : Nat) (h : k + 1 < l.length) : dataOf (l.take (k + 1 + 1)) = dataOf (l.take (k + 1)) ++ (l[k + 1]).take 12 := dataOf_succ (by omega) h

set_option maxRecDepth 20000 in
set_option maxHeartbeats 6400000 in
theorem iUnpackFrames_any (A : Option Addr) (n c : Nat) (l : List (List Int)) (hl : l.length = n) (hrow : Rows_ 16 l) (h255 : ∀ f ∈ l, is255 f) (hn : n ≤ 1048576) (hnc : n ≤ c) (hc63 : c ≤ 9223372036854775807) (w : World) (hR : Rd w w.heap.size 16 A n (l.flatten.map (.int .u8))) :
    Calls Try.prog 57 #[.slice A n c] w (GOpenL l w) := by
  obtain ⟨i0, hi, hz0, hz1, hz2⟩ := info_parts Byte_info
  have hsz : (Try.prog.info? 87).map (·.size) = some 16 := by kernel_rfl
  have hbr := iBrokenFrames_any A n c l hl hrow hn hnc hc63 w hR
  by_cases h7 : n ≤ 700
  · have ec : opCode l = if brokenTo l n = [] then (if l = [] then 5 else (if opGood l then 0 else 5)) else 8 := by rw [opCode, if_pos (by omega), hl]
    have e1 : brokenOf l = brokenTo l n := by simp [brokenOf, hl, h7]
    have e2 : limitOf n = 0 := by simp [limitOf, h7]
    rw [e1, e2] at hbr
    clear e1 e2
    by_cases hB : brokenTo l n = []
    · rw [if_pos hB] at ec
      rw [hB] at hbr
      by_cases h0 : n = 0
      · have : l = [] := List.eq_nil_of_length_eq_zero (by omega)
        rw [if_pos this] at ec
        rw [GOpenL, opKind, opCount, opData, ec]
        simp only [show (5 : Int) = 0 ↔ False from ⟨by decide, False.elim⟩, if_false]
        subst h0
        have HB := Lib.hid hbr
        clear hl hrow hR hB ec hbr this h255
        go_enter Try.func57, Try.ntmps57
        go_wp2_with fail
        refine (HB.out).mono ?_
        rintro e w1 ⟨AB, cB, rfl, -, hb⟩
        go_wp2
        refine bodyPost_ret (results_tmp4 rfl _ _ _) rfl ?_
        exact ⟨none, 0, rfl, ⟨rfl, .inl ⟨rfl, rfl, rfl⟩⟩, hb⟩
      · have hne : l ≠ [] := by rintro rfl; exact h0 hl.symm
        rw [if_neg hne] at ec
        have hn1 : 0 < l.length := by omega
        have hF0 : l[0] = opHead l := opHead_eq hn1
        have hFl : (opHead l).length = 16 := by rw [← hF0]; exact hrow.at_ hn1
        have hFw : is255 (opHead l) := by rw [← hF0]; exact h255 _ (List.getElem_mem hn1)
        obtain ⟨b, o, rfl, hbB, hc⟩ := hR.at_ (by omega)
        have hrg : w.rangeAt b o ((opHead l).map (.int .u8)) := by
          have := Rd.rangeAt (i := 0 * 16) (s := 16) hc
          rw [← List.map_drop, ← List.map_take, flat_row hrow hn1, hF0] at this
          simpa using this
        have hgood : opGood l = (hdOk (opHead l) && (packOk (hdKind (opHead l)) (numAt (opHead l) 4) && (decide (numAt (opHead l) 8 ≤ 8192) && (decide (numAt (opHead l) 8 ≤ ((dataOf l).length : Int)) && (packOf (hdKind (opHead l)) (numAt (opHead l) 4) ((dataOf l).take (numAt (opHead l) 8).toNat) == l))))) := rfl
        have hh := fun W => headOf_any (opHead l) hFl hFw W
        have hDl := dataOf_length hrow
        have hfin : GOpenL l = GivesOpen (if (if opGood l = true then (0 : Int) else 5) = 0 then hdKind (opHead l) else 0) (if (if opGood l = true then (0 : Int) else 5) = 0 then numAt (opHead l) 4 else 0) (if (if opGood l = true then (0 : Int) else 5) = 0 then (dataOf l).take (numAt (opHead l) 8).toNat else []) (if opGood l = true then 0 else 5) := by rw [GOpenL, opKind, opCount, opData, ec]
        obtain ⟨s0, s1⟩ := numAt_range hFw 8
        obtain ⟨m, hm⟩ : ∃ m : Nat, numAt (opHead l) 8 = (m : Int) := ⟨_, (Int.toNat_of_nonneg s0).symm⟩
        rw [hm] at hh hgood s1 hfin
        rw [Int.toNat_natCast] at hgood hfin
        obtain ⟨kd, hkd⟩ : ∃ k, k = hdKind (opHead l) := ⟨_, rfl⟩
        obtain ⟨cn, hcn⟩ : ∃ k, k = numAt (opHead l) 4 := ⟨_, rfl⟩
        rw [← hkd, ← hcn] at hh hgood
        rw [← hkd, ← hcn] at hfin
        obtain ⟨F, hF⟩ : ∃ F, F = opHead l := ⟨_, rfl⟩
        rw [← hF] at hh hgood hFl hrg
        obtain ⟨D, hD⟩ : ∃ D, D = dataOf l := ⟨_, rfl⟩
        rw [← hD] at hgood hDl hfin
        have hDn : D.length ≤ 8400 := by omega
        have HR := Lib.hid hR
        have HB := Lib.hid hbr
        have HRG := Lib.hid hrg
        have HbB := Lib.hid hbB
        have HFl := Lib.hid hFl
        have hbad : opGood l = false → GOpenL l = GivesOpen 0 0 [] 5 := fun h => by rw [hfin, h]; simp only [Bool.false_eq_true, if_false, show (5 : Int) = 0 ↔ False from ⟨by decide, False.elim⟩]
        have hok : opGood l = true → GOpenL l = GivesOpen kd cn (D.take m) 0 := fun h => by rw [hfin, h]; simp only [if_true]
        have HBAD := Lib.hid hbad
        have HOK := Lib.hid hok
        clear hbad hok hfin
        have HROW := Lib.hid hrow
        have Hl := Lib.hid hl
        clear hl hrow h255 hR hbr hrg hbB hFl hFw hF0 hkd hcn hm hF hc hB ec s0 hn1
        have HDe := Lib.hid hD
        have HDl := Lib.hid hDl
        clear hD hDl
        obtain ⟨bq, hbq⟩ : ∃ b, b = hdOk F := ⟨_, rfl⟩
        rw [← hbq] at hh hgood
        have HH := Lib.hid hh
        have HG := Lib.hid hgood
        clear hh hgood hbq
        have hsl : ∃ o' c', n - 1 ≤ c' ∧ c' ≤ 9223372036854775807 ∧ (2 ≤ n → o' = o + 16) ∧ ∀ W : World, (Instr.slice 24 (.slice (some ⟨b, o, none⟩) n c) (some (.int .i64 1)) none none).run Try.prog W = .ok (.slice (some ⟨b, o', none⟩) (n - 1) c') W := by
          obtain ⟨j0, hj, hj0, hj1, hj2⟩ := info_parts Frame_info
          refine ⟨if c = 1 then o else o + 16, c - 1, by omega, by omega, fun h => by rw [if_neg (by omega)], fun W => ?_⟩
          rw [run_slice_l (P := Try.prog) W 24 (some ⟨b, o, none⟩) n c (by kernel_rfl) .i64 1 (by omega) (by omega), run_sizeOf W (show Try.prog.info? (Try.prog.elem 24) = some j0 from hj), Result.andThen_ok, show Try.prog.cellsOf (Try.prog.elem 24) = 16 from by kernel_rfl, sliced]
          by_cases h1 : c = 1
          · subst h1
            simp
          · rw [if_neg (by simpa using h1), if_neg h1, Option.map_some, addr_add]
            rfl
        obtain ⟨o', c', hs1, hs2, hs3, hsl⟩ := hsl
        have Hs3 := Lib.hid hs3
        clear hs3
        go_enter Try.func57, Try.ntmps57
        go_wp2_with fail
        refine (HB.out).mono ?_
        rintro e w1 ⟨AB, cB, rfl, -, hb1⟩
        have z1 := hb1.size
        have HRG1 := Lib.hid (range_below HRG.out hb1 HbB.out)
        go_wp2_with (refine wpList_load_ivs rfl _ _ rfl b o (by rfl) .u8 F _ HRG1.out Try.underlying87 rfl (by rw [HFl.out]; exact hsz) ?_)
        refine (HH.out _).mono ?_
        rintro e w2 ⟨rfl, hb2⟩
        have z2 := hb2.size
        have B2 := hb1.trans (hb2.mono z1)
        clear hb1 hb2
        have z2' := B2.size
        have hls : l.drop (n - 1 + 1) = [] := List.drop_eq_nil_of_le (by rw [Hl.out]; omega)
        clear hls
        go_wp2
        go_loopw [12, 14, 45] (fun v _ i wr => ∃ k g cp : Nat, k + 1 ≤ n ∧ i = .int .i64 k ∧ v = .slice (some ⟨g, 0, none⟩) (k * 12) cp ∧ Own wr w.heap.size wr.heap.size 5 1 (some ⟨g, 0, none⟩) (k * 12) cp ((dataOf (l.take (k + 1))).map (.int .u8)) ∧ Below w.heap.size w wr) (fun _ _ i _ => n - (intOf i).toNat)
        case atStart =>
          refine ⟨0, w2.heap.size, 0, by omega, rfl, by rw [Nat.zero_mul], ?_, B2.alloc z2' _⟩
          have e1 : dataOf (l.take (0 + 1)) = [] := by
            unfold dataOf
            rw [List.drop_eq_nil_of_le (by rw [List.length_take]; omega)]
            rfl
          rw [e1, Nat.zero_mul]
          exact ⟨rfl, .inr ⟨w2.heap.size, #[], rfl, z2', by rw [size_alloc]; omega, Blk.newAt rfl rfl, Nat.le_refl _, by unfold maxLen; omega, rfl, rfl⟩⟩
        case round =>
          clear B2 HRG1 z1 z2 z2'
          obtain ⟨k, g, cp, hk, rfl, rfl, hown, hb⟩ := hrel
          by_cases hlt : k + 1 < n
          · obtain ⟨b', o1, hA, hbB, hc⟩ := (HR.out.below hb (Nat.le_refl _)).at_ (by omega)
            cases hA
            have ho1 := Hs3.out (by omega)
            subst ho1
            have hkl : k + 1 < l.length := by rw [Hl.out]; exact hlt
            have hrg : wr.rangeAt b (o + 16 + k * 16) ((l[k + 1]'hkl).map (.int .u8)) := by
              have := Rd.rangeAt (i := (k + 1) * 16) (s := 16) hc
              rw [← List.map_drop, ← List.map_take, flat_row HROW.out hkl, show o + (k + 1) * 16 = o + 16 + k * 16 by omega] at this
              exact this
            have hFl : (l[k + 1]'hkl).length = 16 := HROW.out.at_ _
            have hds := dataOf_step l k hkl
            obtain ⟨E, hE⟩ : ∃ E, E = l[k + 1]'hkl := ⟨_, rfl⟩
            rw [← hE] at hrg hFl hds
            have r1 : Blk (wr.alloc (.cells #[.int .u8 0, .int .u8 0, .int .u8 0, .int .u8 0, .int .u8 0, .int .u8 0, .int .u8 0, .int .u8 0, .int .u8 0, .int .u8 0, .int .u8 0, .int .u8 0, .int .u8 0, .int .u8 0, .int .u8 0, .int .u8 0] 87)) wr.heap.size 87 (ivs .u8 (List.replicate 16 0)) := Blk.newAt rfl rfl
            have s1 : Blk ((wr.alloc (.cells #[.int .u8 0, .int .u8 0, .int .u8 0, .int .u8 0, .int .u8 0, .int .u8 0, .int .u8 0, .int .u8 0, .int .u8 0, .int .u8 0, .int .u8 0, .int .u8 0, .int .u8 0, .int .u8 0, .int .u8 0, .int .u8 0] 87)).setRow wr.heap.size (ivs .u8 E)) wr.heap.size 87 (ivs .u8 E) := r1.row _
            have s2 : Below wr.heap.size wr ((wr.alloc (.cells #[.int .u8 0, .int .u8 0, .int .u8 0, .int .u8 0, .int .u8 0, .int .u8 0, .int .u8 0, .int .u8 0, .int .u8 0, .int .u8 0, .int .u8 0, .int .u8 0, .int .u8 0, .int .u8 0, .int .u8 0, .int .u8 0] 87)).setRow wr.heap.size (ivs .u8 E)) := below_setRow ((Below.refl _ _).alloc (Nat.le_refl _) _) (Nat.le_refl _) _
            have s3 := own_below hown.row s2 (Nat.le_refl _)
            have s4 := s2.size
            have hn12 : ∀ j u, ((E.take 12).map (Value.int .u8))[j]? = some u → ((wr.alloc (.cells #[.int .u8 0, .int .u8 0, .int .u8 0, .int .u8 0, .int .u8 0, .int .u8 0, .int .u8 0, .int .u8 0, .int .u8 0, .int .u8 0, .int .u8 0, .int .u8 0, .int .u8 0, .int .u8 0, .int .u8 0, .int .u8 0] 87)).setRow wr.heap.size (ivs .u8 E)).cell? ((⟨wr.heap.size, 0, none⟩ : Addr).add j) = some u := fun j u hu => s1.news j u (by
              rw [List.map_take, List.getElem?_take] at hu
              split at hu
              · exact hu
              · cases hu)
            have Hn := Lib.hid hn12
            have HEl := Lib.hid hFl
            have Hds := Lib.hid hds
            have Hrg := Lib.hid hrg
            have HO := Lib.hid hown.row
            have HO3 := Lib.hid s3
            have Hs2 := Lib.hid s2
            have Hs4 := Lib.hid s4
            have Hb := Lib.hid hbB
            have hl12 : ((E.take 12).map (Value.int .u8)).length = 12 := by rw [List.length_map, List.length_take, hFl]; omega
            have HL12 := Lib.hid hl12
            have b1 : (k : Int) < ((n - 1 : Nat) : Int) := by omega
            have hz := hb.size
            clear hc hrg hFl hE hown hbB hds s1 s2 s3 s4 hn12 hl12 hkl HFl
            go_wp2_with (first
              | refine wpList_load_ivs rfl _ _ rfl b (o + 16 + k * 16) (by rfl) .u8 E _ Hrg.out Try.underlying87 rfl (by rw [HEl.out]; exact hsz) ?_
              | refine wpList_store_row rfl _ _ _ rfl wr.heap.size (ivs .u8 E) rfl rfl 87 _ r1 (by rw [ivs_size, HEl.out]; exact hsz) (by simp [ivs_size, HEl.out]) ivs_one ?_
              | (at_builtin; refine wpList_append_own _ rfl (.tmp 49) (.tmp 50) 40 rfl w.heap.size 5 i0 _ 1 1 Try.underlying40 hi hz0 hz1 hz2 rfl (by decide) (.slice (some ⟨g, 0, none⟩) (k * 12) cp) (k * 12) _ rfl HO3.out ⟨wr.heap.size, 0, none⟩ 12 16 ((E.take 12).map (.int .u8)) rfl (by rw [HL12.out]) Hn.out ints_one (by unfold maxLen; omega) (by omega) (by have := Hs4.out; omega) ?_; intro v' w1 hown' hgrow _))
            obtain ⟨g2, cp2, cur2, rfl, -⟩ := own_lt hown' (by omega)
            refine ⟨⟨k + 1, g2, cp2, by omega, by go_num, by rw [Nat.add_mul, Nat.one_mul], ?_, (hb.trans (Hs2.out.mono hz)).grown hgrow (by have := Hs4.out; omega) (fun j e => (HO.out.lt _ e).1)⟩, by simp [intOf]; omega⟩
            obtain ⟨A3, c3, hA3, hO3⟩ := Own.of_row hown'
            cases hA3
            rw [Hds.out, List.map_append, Nat.add_mul, Nat.one_mul]
            exact hO3
          · have hkn : k + 1 = n := by omega
            have e3 : l.take (k + 1) = l := List.take_of_length_le (by rw [Hl.out]; omega)
            rw [e3, ← HDe.out] at hown
            have hDk : D.length = k * 12 := by rw [HDl.out, Hl.out]; omega
            rw [← hDk] at hown ⊢
            have e4 : ((n - 1 : Nat) : Int) = (k : Int) := by omega
            have hlc := hown.len
            have z1 := hb.size
            have HOD := Lib.hid hown
            have hge : ((n - 1 : Nat) : Int) ≤ (k : Int) := by omega
            clear hlt e3 hown HDe HDl HH HRG hDk e4 hsl Hs3
            cases bq
            · have hg : opGood l = false := by rw [HG.out]; rfl
              have HGB := Lib.hid (HBAD.out hg)
              clear HG HBAD HOK hg
              go_wp2
              refine bodyPost_ret (results_tmp4 rfl _ _ _) rfl ?_
              show GOpenL l w _ _
              rw [HGB.out]
              exact ⟨none, 0, rfl, ⟨rfl, .inl ⟨rfl, rfl, rfl⟩⟩, hb⟩
            · have hg0 := HG.out
              rw [Bool.true_and] at hg0
              have HG2 := Lib.hid hg0
              clear HG hg0
              have hpc := fun W => packCodeI_any kd cn m (by omega) s1 W
              rw [packCdI_nat] at hpc
              have hcd := packCd_cases kd cn m
              by_cases q3 : packOk kd cn = true ∧ m ≤ 8192
              · have hcd0 : packCd kd cn m = 0 := by rw [packCd, if_pos q3.1, if_pos q3.2]
                rw [hcd0] at hpc
                have HPC := Lib.hid hpc
                clear hpc hcd hcd0
                by_cases q2 : m ≤ D.length
                · have hg0 := HG2.out
                  rw [q3.1, show decide ((m : Int) ≤ 8192) = true from decide_eq_true (by omega), show decide ((m : Int) ≤ (D.length : Int)) = true from decide_eq_true (by omega), Bool.true_and, Bool.true_and, Bool.true_and] at hg0
                  have k1 := inB_true (Bool.and_eq_true _ _ ▸ q3.1).1
                  have k2 := inB_true (Bool.and_eq_true _ _ ▸ q3.1).2
                  have HK1 := Lib.hid k1
                  have HK2 := Lib.hid k2
                  have HO3 := Lib.hid (HOD.out.cut q2)
                  rw [← List.map_take, Nat.mul_one] at HO3
                  have HRd := Lib.hid (HO3.out.rd)
                  have hp := packFrames_any g 0 m cp kd cn k1.1 k1.2 k2.1 k2.2 (D.take m) (by rw [List.length_take]; omega) q3.2 (by omega) (by have hmx := HOD.out.capLe; omega) wr HRd.out
                  have hfr := packOf_rows kd cn (D.take m)
                  have hfn : (packOf kd cn (D.take m)).length ≤ 700 := by rw [packOf, packTo_length, packMany, List.length_take]; omega
                  obtain ⟨G, hG⟩ : ∃ G, G = packOf kd cn (D.take m) := ⟨_, rfl⟩
                  rw [← hG] at hp hfr hfn hg0
                  have HP := Lib.hid hp
                  have HFR := Lib.hid hfr
                  clear hp hfr hG k1 k2 HG2 q3
                  cases q4 : (G == l)
                  · have hg : opGood l = false := by rw [hg0, q4]
                    have HGB := Lib.hid (HBAD.out hg)
                    clear hg0 hg HBAD HOK
                    go_wp2_with fail
                    refine (HPC.out _).mono ?_
                    rintro e w3 ⟨rfl, rfl⟩
                    go_wp2_with fail
                    refine (HP.out).mono ?_
                    rintro e w4 ⟨AP, cP, rfl, OP, hb4⟩
                    have z4 := hb4.size
                    have B4 := hb.trans (hb4.mono z1)
                    have z4' := B4.size
                    have HR4 := Lib.hid ((HR.out.below B4 (Nat.le_refl _)).more (show w.heap.size ≤ w4.heap.size by omega))
                    have HOP := Lib.hid (OP.rd)
                    have HB4 := Lib.hid hb4
                    have hsm := equalFs_any AP (some ⟨b, o, none⟩) G.length n cP c G l rfl Hl.out HFR.out HROW.out (by omega) w4 HOP.out HR4.out
                    rw [q4] at hsm
                    have HSM := Lib.hid hsm
                    clear hsm OP hb4 q4
                    go_wp2_with fail
                    refine (HSM.out).mono ?_
                    rintro e w5 ⟨rfl, hb5⟩
                    have z5 := hb5.size
                    have B5 := B4.trans (hb5.mono (by omega))
                    go_wp2
                    refine bodyPost_ret (results_tmp4 rfl _ _ _) rfl ?_
                    show GOpenL l w _ _
                    rw [HGB.out]
                    exact ⟨none, 0, rfl, ⟨rfl, .inl ⟨rfl, rfl, rfl⟩⟩, B5⟩
                  · have hg : opGood l = true := by rw [hg0, q4]
                    have HGB := Lib.hid (HOK.out hg)
                    have hdl : (D.take m).length = m := by rw [List.length_take]; omega
                    have HDL := Lib.hid hdl
                    clear hg0 hg HBAD HOK hdl
                    go_wp2_with fail
                    refine (HPC.out _).mono ?_
                    rintro e w3 ⟨rfl, rfl⟩
                    go_wp2_with fail
                    refine (HP.out).mono ?_
                    rintro e w4 ⟨AP, cP, rfl, OP, hb4⟩
                    have z4 := hb4.size
                    have B4 := hb.trans (hb4.mono z1)
                    have z4' := B4.size
                    have HR4 := Lib.hid ((HR.out.below B4 (Nat.le_refl _)).more (show w.heap.size ≤ w4.heap.size by omega))
                    have HOP := Lib.hid (OP.rd)
                    have HB4 := Lib.hid hb4
                    have hsm := equalFs_any AP (some ⟨b, o, none⟩) G.length n cP c G l rfl Hl.out HFR.out HROW.out (by omega) w4 HOP.out HR4.out
                    rw [q4] at hsm
                    have HSM := Lib.hid hsm
                    clear hsm OP hb4 q4
                    go_wp2_with fail
                    refine (HSM.out).mono ?_
                    rintro e w5 ⟨rfl, hb5⟩
                    have z5 := hb5.size
                    have B5 := B4.trans (hb5.mono (by omega))
                    go_wp2
                    go_quiet (fail)
                    go_wp2
                    refine bodyPost_ret (results_tmp4 rfl _ _ _) rfl ?_
                    show GOpenL l w _ _
                    rw [HGB.out]
                    refine ⟨_, cp, by rw [HDL.out]; rfl, ?_, below_drewN B5 _⟩
                    rw [HDL.out]
                    exact ((((HO3.out).below HB4.out (Nat.le_refl _)).below hb5 (by omega)).more (show wr.heap.size ≤ w5.heap.size by omega)).drewN _
                · have hg : opGood l = false := by
                    rw [HG2.out, show decide ((m : Int) ≤ (D.length : Int)) = false from decide_eq_false (by omega)]
                    simp
                  have HGB := Lib.hid (HBAD.out hg)
                  have q2' : D.length < m := by omega
                  clear HG2 HBAD HOK hg q2 q3
                  go_wp2_with fail
                  refine (HPC.out _).mono ?_
                  rintro e w3 ⟨rfl, rfl⟩
                  go_wp2
                  refine bodyPost_ret (results_tmp4 rfl _ _ _) rfl ?_
                  show GOpenL l w _ _
                  rw [HGB.out]
                  exact ⟨none, 0, rfl, ⟨rfl, .inl ⟨rfl, rfl, rfl⟩⟩, hb⟩
              · have hg : opGood l = false := by
                  rw [HG2.out]
                  cases p1 : packOk kd cn
                  · rfl
                  · have : ¬ m ≤ 8192 := fun h => q3 ⟨p1, h⟩
                    rw [decide_eq_false (show ¬ ((m : Int) ≤ 8192) by omega)]
                    rfl
                have HGB := Lib.hid (HBAD.out hg)
                have hcd2 : packCd kd cn m = 2 ∨ packCd kd cn m = 3 := by
                  rcases hcd with hcd | hcd
                  · exfalso
                    refine q3 ?_
                    unfold packCd at hcd
                    split at hcd
                    · split at hcd
                      · exact ⟨‹_›, ‹_›⟩
                      · cases hcd
                    · cases hcd
                  · exact hcd
                clear HG2 HBAD HOK hg hcd q3
                rcases hcd2 with hcd | hcd
                all_goals
                  rw [hcd] at hpc
                  have HPC := Lib.hid hpc
                  clear hpc hcd
                  go_wp2_with fail
                  refine (HPC.out _).mono ?_
                  rintro e w3 ⟨rfl, rfl⟩
                  go_wp2
                  refine bodyPost_ret (results_tmp4 rfl _ _ _) rfl ?_
                  show GOpenL l w _ _
                  rw [HGB.out]
                  exact ⟨none, 0, rfl, ⟨rfl, .inl ⟨rfl, rfl, rfl⟩⟩, hb⟩
    · rw [if_neg hB] at ec
      rw [GOpenL, opKind, opCount, opData, ec]
      simp only [show (8 : Int) = 0 ↔ False from ⟨by decide, False.elim⟩, if_false]
      have hB1 : 1 ≤ (brokenTo l n).length := by
        cases hq : brokenTo l n with
        | nil => exact absurd hq hB
        | cons _ _ => simp
      have hBl := brokenTo_length l n
      obtain ⟨m, hm⟩ : ∃ m, m = brokenTo l n := ⟨_, rfl⟩
      rw [← hm] at hbr hB1 hBl
      have HB := Lib.hid hbr
      clear hl hrow hR hB ec hbr hm h255
      go_enter Try.func57, Try.ntmps57
      go_wp2_with fail
      refine (HB.out).mono ?_
      rintro e w1 ⟨AB, cB, rfl, -, hb⟩
      go_wp2
      refine bodyPost_ret (results_tmp4 rfl _ _ _) rfl ?_
      exact ⟨none, 0, rfl, ⟨rfl, .inl ⟨rfl, rfl, rfl⟩⟩, hb⟩
  · have ec : opCode l = 3 := by rw [opCode, if_neg (by omega)]
    have e1 : brokenOf l = [] := by simp [brokenOf, hl, h7]
    have e2 : limitOf n = 3 := by simp [limitOf, h7]
    rw [e1, e2] at hbr
    rw [GOpenL, opKind, opCount, opData, ec]
    simp only [show (3 : Int) = 0 ↔ False from ⟨by decide, False.elim⟩, if_false]
    have HB := Lib.hid hbr
    clear hl hrow hR ec hbr e1 e2 h255
    go_enter Try.func57, Try.ntmps57
    go_wp2_with fail
    refine (HB.out).mono ?_
    rintro e w1 ⟨AB, cB, rfl, -, hb⟩
    go_wp2
    refine bodyPost_ret (results_tmp4 rfl _ _ _) rfl ?_
    exact ⟨none, 0, rfl, ⟨rfl, .inl ⟨rfl, rfl, rfl⟩⟩, hb⟩

theorem iUnpackFrames_any' (A : Option Addr) (n c : Nat) (l : List (List Int)) (hl : l.length = n) (hrow : Rows_ 16 l) (hn : n ≤ 1048576) (hnc : n ≤ c) (hc63 : c ≤ 9223372036854775807) (h255 : ∀ f ∈ l, is255 f) (w : World) (hR : Rd w w.heap.size 16 A n (l.flatten.map (.int .u8))) :
    Calls Try.prog 57 #[.slice A n c] w (GivesOpen (opKind l) (opCount l) (opData l) (opCode l) w) := iUnpackFrames_any A n c l hl hrow h255 hn hnc hc63 w hR
end Go.Proofs.Ytmagaapdijapiaa
namespace Go.Proofs.Ytmagaapdijapiaa
open Go.ChangeShapes Go.WideShapes Go.ChangeAt Go.RowKit
theorem run_append_zero {P : Program} (t ty e : TypeId) (ht : P.underlying t = some (.slice e)) {i : TypeInfo} (hi : P.info? e = some i) (g0 : Option Addr) (k cap : Nat) (hk : k ≤ cap) (A : Option Addr) (c : Nat) (w : World) :
    (Builtin.append_ #[t, t] ty #[.slice g0 k cap, .slice A 0 c]).run P w = .ok (.slice g0 k cap) w := by
  cases A <;> cases g0 <;> simp [Builtin.append_, run_underlying ht, Builtin.lenOf, Builtin.firstCells, run_sizeOf (P := P) (w := w) hi, hk, Result.andThen, loadCells, loadCellsFrom, storeCells]
/-- a slice is copied behind an empty one -/
theorem wpList_append_copy {P : Program} {w : World} {ops : Array Oper} {rest : List Oper} {o : Oper} {a : Act} {Q : Exit → Act → World → Prop} (hgd : o.guard = none) (s x : Operand) (t : TypeId)
    (ho : o.op = .call { callee := .builtin .append, args := #[s, x], argTypes := #[t, t] })
    (base : Nat) (e : TypeId) (i : TypeInfo) (z : Value) (size bytes : Nat) (ht : P.underlying t = some (.slice e)) (hi : P.info? e = some i) (hz : i.zero = some z)
    (hsize : i.size = size) (hby : i.bytes = bytes) (hzs : z.cells.size = size) (hsz : 0 < size)
    (g0 cap0 : Nat) (hs : a.eval s = .slice (some ⟨g0, 0, none⟩) 0 cap0) (hown : w.ownsRow base e size (.slice (some ⟨g0, 0, none⟩) 0 cap0) 0 [])
    (A : Option Addr) (n c B : Nat) (xs : List Value) (hx : a.eval x = .slice A n c) (hR : Rd w B size A n xs) (h1 : ∀ u ∈ xs, u.oneCell' = true)
    (h63 : n ≤ maxLen) (hbytes : n * bytes ≤ 140737488355328) (hbase : base ≤ w.heap.size)
    (h : ∀ g c' w', w'.ownsRow base e size (.slice (some ⟨g, 0, none⟩) n c') n xs → w.grownBy w' (some g0) → wpList P ops Q rest (a.put o.dst (.slice (some ⟨g, 0, none⟩) n c')) w') : wpList P ops Q (o :: rest) a w := by
  by_cases hn : n = 0
  · subst hn
    have hxs : xs = [] := List.eq_nil_of_length_eq_zero (by have := hR.1; omega)
    subst hxs
    refine wpList_plain hgd fun K hK => ?_
    have hrun := run_append_zero t o.type e ht hi (some ⟨g0, 0, none⟩) 0 cap0 (Nat.zero_le _) A c w
    have hh := hK _ _ (h g0 cap0 w hown (World.grownBy.refl _ _))
    unfold Oper.wp
    simp [execOp, ho, resolve, invoke, builtin, hs, hx, hrun, Result.andThen]
    exact hh
  · obtain ⟨b, o', rfl, hb, hc⟩ := hR.at_ (by omega)
    refine wpList_append_own w hgd s x t ho base e i z size bytes ht hi hz hsize hby hzs hsz _ 0 [] hs hown ⟨b, o', none⟩ n c xs hx hR.1 (fun j u hu => by
      have e : (⟨b, o', none⟩ : Addr).add j = ⟨b, o' + j, none⟩ := by unfold Addr.add; split <;> simp_all
      rw [e]
      exact hc j u hu) h1 (by omega) (by rw [Nat.zero_add]; exact hbytes) hbase fun v' w' ho' hg hnil => ?_
    rw [Nat.zero_add, List.nil_append] at ho'
    rcases ho'.2 with ⟨rfl, _⟩ | ⟨g, cap, cur, rfl, h2⟩
    · exact absurd (hnil.1 rfl).1 (by simp)
    · refine h g cap w' ho' ?_
      have hob : (Value.slice (some ⟨g0, 0, none⟩) 0 cap0).ownBlock = some g0 := by simp [Value.ownBlock]
      rwa [hob] at hg
theorem size_cells (g : Nat) : ∀ (vs : List Value) (o : Nat) (w : World), (w.setCells g o vs).heap.size = w.heap.size
  | [], _, _ => rfl
  | v :: vs, o, w => by rw [World.setCells, size_cells g vs, size_setCell]
/-- a block put into a list at a place -/
def ins (l : List Bl) (b : Bl) (j : Nat) : List Bl := l.take j ++ b :: l.drop j
theorem ins_length {l : List Bl} {b : Bl} {j : Nat} (h : j ≤ l.length) : (ins l b j).length = l.length + 1 := by
  rw [ins, List.length_append, List.length_take, List.length_cons, List.length_drop]
  omega
theorem ins_end (l : List Bl) (b : Bl) : ins l b l.length = l ++ [b] := by rw [ins, List.take_length, List.drop_length]
theorem ins_at {l : List Bl} {b : Bl} {j : Nat} (h : j ≤ l.length) : (ins l b j)[j]'(by rw [ins_length h]; omega) = b := by
  simp only [ins]
  rw [List.getElem_append_right (by rw [List.length_take]; omega)]
  simp only [List.length_take]
  have : j - min j l.length = 0 := by omega
  simp [this]
theorem ins_before {l : List Bl} {b : Bl} {j : Nat} (h : j < l.length) : (ins l b (j + 1))[j]'(by rw [ins_length (by omega)]; omega) = l[j] := by
  simp only [ins]
  rw [List.getElem_append_left (by rw [List.length_take]; omega), List.getElem_take]
theorem ins_swap {l : List Bl} {b : Bl} {j : Nat} (h : j < l.length) : ((ins l b (j + 1)).set (j + 1) l[j]).set j b = ins l b j := by
  apply List.ext_getElem?
  intro i
  have hl : (l.take (j + 1)).length = j + 1 := by rw [List.length_take]; omega
  have hl2 : (l.take j).length = j := by rw [List.length_take]; omega
  rw [List.getElem?_set, List.getElem?_set, List.length_set, ins_length (by omega)]
  by_cases h1 : j = i
  · subst h1
    rw [if_pos rfl, if_pos (by omega), ins, List.getElem?_append_right (by omega), hl2, Nat.sub_self]
    rfl
  · rw [if_neg h1]
    by_cases h2 : j + 1 = i
    · subst h2
      rw [if_pos rfl, if_pos (by omega), ins, List.getElem?_append_right (by omega), hl2, show j + 1 - j = 1 by omega, List.drop_eq_getElem_cons h]
      rfl
    · rw [if_neg h2, ins, ins]
      by_cases h3 : i < j
      · rw [List.getElem?_append_left (by omega), List.getElem?_append_left (by omega), List.getElem?_take_of_lt (by omega), List.getElem?_take_of_lt (by omega)]
      · rw [List.getElem?_append_right (by omega), List.getElem?_append_right (by omega), hl, hl2, show i - (j + 1) = (i - (j + 2)) + 1 by omega, show i - j = (i - (j + 2)) + 1 + 1 by omega, List.getElem?_cons_succ, List.getElem?_cons_succ, List.getElem?_drop, List.getElem?_drop]
        congr 1
        omega
theorem ins_bls {l : List Bl} (h : Bls l) {b : Bl} (hb : b.1.length = 2 ∧ b.2.length = 16) (j : Nat) : Bls (ins l b j) := fun c hc => by
  rcases List.mem_append.1 hc with hc | hc
  · exact h c (List.mem_of_mem_take hc)
  · rcases List.mem_cons.1 hc with rfl | hc
    · exact hb
    · exact h c (List.mem_of_mem_drop hc)
/-- a store of a whole row, under a word that simp does not open -/
def stRow (ty : TypeId) (p v : Value) : Sem Next := do Instr.storeAt ty p v; pure .skip
theorem exec_stMask (ρ : Operand → Value) (dst : Option Tmp) (x y : Operand) (t : TypeId) (pos : String) (after : Array Edge) (guard : Option (Nat × Bool)) :
    execOp ρ { dst := dst, op := .store 76 x y, type := t, pos := pos, after := after, guard := guard } = stRow 76 (ρ x) (ρ y) := rfl
/-- a row of numbers that may be written at a place -/
def Fits (W : World) (g o : Nat) (R : List Int) : Prop := R.length = 16 ∧ W.there g o 16
theorem run_stMask (W : World) (g o : Nat) (R : List Int) (h : Fits W g o R) : (stRow 76 (.pointer (some ⟨g, o, none⟩)) (.agg (ivs .u16 R))).run Try.prog W = .ok .skip (W.setCells g o (ivs .u16 R).toList) := by
  obtain ⟨h1, h2⟩ := h
  have hs : (ivs .u16 R).size = 16 := by rw [ivs_size, h1]
  have := run_storeAt_mid (P := Try.prog) W g o 76 (ivs .u16 R) (by rw [hs]; exact h2) (by rw [hs]; exact size76) ivs_one
  unfold stRow
  rw [Sem.run_bind, this]
  rfl
def GivesAdd (A0 : Option Addr) (c0 : Nat) (l : List Bl) (key M : List Int) (w : World) (e : Ending) (w' : World) : Prop :=
  ∃ A c l', e = .returned (.slice A l'.length c) ∧ Added l key M l' ∧ ((A = A0 ∧ c = c0 ∧ l' = l) ∨ Own w' w.heap.size w'.heap.size 78 18 A l'.length c (bcs l')) ∧ Below w.heap.size w w'
section
attribute [local go_sem ↓] exec_ldCorner exec_ldMask exec_stMask
attribute [local go_sem] run_ldCorner run_ldMask run_stMask
set_option maxRecDepth 20000 in
set_option maxHeartbeats 6400000 in
theorem l07Add_any (A : Option Addr) (n c : Nat) (l : List Bl) (hl : l.length = n) (hp : Pic l) (hn : n ≤ 1048576) (X Y : Int) (M : List Int) (hM : M.length = 16) (h16 : is16 M) (w : World) (hR : Rd w w.heap.size 18 A n (bcs l)) :
    Calls Try.prog 63 #[.slice A n c, .agg #[.int .i32 X, .int .i32 Y], .agg (ivs .u16 M)] w (GivesAdd A c l [X, Y] M w) := by
  obtain ⟨i0, hi, hz0, hz1, hz2⟩ := info_parts Block_info
  have b1 : Below w.heap.size w ((w.alloc (.cells #[.int .i32 X, .int .i32 Y] 63)).alloc (.cells (ivs .u16 M) 76)) := ((Below.refl _ _).alloc (Nat.le_refl _) _).alloc (by simp) _
  have k0 : Blk ((w.alloc (.cells #[.int .i32 X, .int .i32 Y] 63)).alloc (.cells (ivs .u16 M) 76)) w.heap.size 63 #[.int .i32 X, .int .i32 Y] := (Blk.newAt rfl rfl).alloc _
  have k1 : Blk ((w.alloc (.cells #[.int .i32 X, .int .i32 Y] 63)).alloc (.cells (ivs .u16 M) 76)) (w.heap.size + 1) 76 (ivs .u16 M) := Blk.newAt (by simp) rfl
  have HE := Lib.hid (l07Empty_any (w.heap.size + 1) 0 M hM _ k1.range0)
  have B1 := Lib.hid b1
  have K0 := Lib.hid k0
  have K1 := Lib.hid k1
  have HP := Lib.hid hp
  have HL := Lib.hid hl
  have HM := Lib.hid hM
  have HM16 := Lib.hid h16
  have HR := Lib.hid hR
  clear b1 k0 k1 hp hl hM h16 hR
  cases hem : emptyM M
  · have HNE : Hid (M ≠ zr16) := Lib.hid (fun e => by rw [emptyM_iff.2 e] at hem; cases hem)
    rw [hem] at HE
    clear hem
    have hz1' : ((w.alloc (.cells #[.int .i32 X, .int .i32 Y] 63)).alloc (.cells (ivs .u16 M) 76)).heap.size = w.heap.size + 1 + 1 := by simp only [size_alloc]
    have how : (((w.alloc (.cells #[.int .i32 X, .int .i32 Y] 63)).alloc (.cells (ivs .u16 M) 76)).alloc (.cells #[] 78)).ownsRow (w.heap.size + 1 + 1) 78 18 (.slice (some ⟨w.heap.size + 1 + 1, 0, none⟩) 0 0) 0 [] := by
      have := World.ownsRow_lit (e := 78) (base := w.heap.size + 1 + 1) (size := 18) ((w.alloc (.cells #[.int .i32 X, .int .i32 Y] 63)).alloc (.cells (ivs .u16 M) 76)) #[] 0 (by rw [hz1']; exact Nat.le_refl _) (by unfold maxLen; omega) rfl
      rwa [hz1'] at this
    have HOW := Lib.hid how
    have HSZ : Hid (w.heap.size + 1 + 1 ≤ (((w.alloc (.cells #[.int .i32 X, .int .i32 Y] 63)).alloc (.cells (ivs .u16 M) 76)).alloc (.cells #[] 78)).heap.size) := Lib.hid (by rw [size_alloc, hz1']; omega)
    have HR2 : Hid (Rd (((w.alloc (.cells #[.int .i32 X, .int .i32 Y] 63)).alloc (.cells (ivs .u16 M) 76)).alloc (.cells #[] 78)) w.heap.size 18 A n (bcs l)) := Lib.hid ((HR.out.below B1.out (Nat.le_refl _)).alloc (by rw [hz1']; omega) _)
    have B2 : Hid (Below w.heap.size w (((w.alloc (.cells #[.int .i32 X, .int .i32 Y] 63)).alloc (.cells (ivs .u16 M) 76)).alloc (.cells #[] 78))) := Lib.hid (B1.out.alloc (by rw [hz1']; omega) _)
    have K02 := Lib.hid (K0.out.alloc (.cells #[] 78))
    have K12 := Lib.hid (K1.out.alloc (.cells #[] 78))
    clear how hz1' K0 K1 B1 HR
    go_enter Try.func63, Try.ntmps63
    go_wp2_with (first
      | (go_at_call 86; refine HE.out.mono ?_; rintro e w2 ⟨rfl, rfl⟩)
      | (at_builtin; (refine wpList_append_copy rfl _ _ 27 rfl (w.heap.size + 1 + 1) 78 i0 _ 18 40 Try.underlying27 hi hz0 hz1 hz2 rfl (by decide) (w.heap.size + 1 + 1) 0 rfl HOW.out A n c w.heap.size (bcs l) rfl HR2.out (bcs_one l) (by unfold maxLen; omega) (by omega) HSZ.out ?_); intro g cc w7 hown7 hgrow7; have O7 := Lib.hid hown7; have G7 := Lib.hid hgrow7; clear hown7 hgrow7))
    have k07 := K02.out.grown G7.out (fun e => by injection e with e; omega)
    have k17 := K12.out.grown G7.out (fun e => by injection e with e; omega)
    have b7 := B2.out.grown G7.out (by have := HSZ.out; omega) (fun j e => by injection e with e; omega)
    have z7 : w.heap.size + 1 + 1 ≤ w7.heap.size := Nat.le_trans HSZ.out G7.out.size
    obtain ⟨A7, c7, hve, o7⟩ := Own.of_row O7.out
    cases hve
    have L0 := Lib.hid (And.intro o7 (And.intro k07 (And.intro k17 b7)))
    clear O7 G7 HOW HSZ HR2 B2 K02 K12 HE k07 k17 b7 o7
    go_loopw [8] (fun i wr => ∃ k : Nat, k ≤ n ∧ i = .int .i64 k ∧ Hid (∀ b ∈ l.take k, [X, Y] ≠ b.1) ∧ Hid (Own wr (w.heap.size + 1 + 1) wr.heap.size 78 18 (some ⟨g, 0, none⟩) n cc (bcs l)) ∧ Hid (Blk wr w.heap.size 63 #[.int .i32 X, .int .i32 Y]) ∧ Hid (Blk wr (w.heap.size + 1) 76 (ivs .u16 M)) ∧ Hid (Below w.heap.size w wr)) (fun i _ => n - (intOf i).toNat)
    case atStart => exact ⟨0, by omega, rfl, Lib.hid (fun b hb => by simp at hb), Lib.hid L0.out.1, Lib.hid L0.out.2.1, Lib.hid L0.out.2.2.1, Lib.hid L0.out.2.2.2⟩
    case round =>
      clear L0
      obtain ⟨k, hk, rfl, HNO, HO, HK0, HK1, HB⟩ := hrel
      by_cases hlt : k < n
      · have hkl : k < l.length := by have := HL.out; omega
        have hkI : (k : Int) < n := by omega
        have hk0 : (0 : Int) ≤ k := by omega
        have hF1 := HP.out.bls.at_ hkl
        have hF16 := HP.out.m16 _ (List.getElem_mem hkl)
        have hA := own_corner HO.out HP.out.bls hkl
        have hMr := own_mask HO.out HP.out.bls hkl
        have hset := bcs_set_mask HP.out.bls hkl (M := opM orF (l[k]).2 M) (opM_length hF1.2 HM.out)
        have hadd := fun e : [X, Y] = (l[k]).1 => (show Added l [X, Y] M (l.set k ((l[k]).1, opM orF (l[k]).2 M)) by rw [e]; exact added_set HP.out HM.out HM16.out hkl)
        have hbl : Bls (l.set k ((l[k]).1, opM orF (l[k]).2 M)) := fun b hb => by
          rcases List.mem_or_eq_of_mem_set hb with h | rfl
          · exact HP.out.bls b h
          · exact ⟨hF1.1, opM_length hF1.2 HM.out⟩
        have hslen : (l.set k ((l[k]).1, opM orF (l[k]).2 M)).length = n := by rw [List.length_set, HL.out]
        have hne : [X, Y] ≠ (l[k]).1 → ∀ b ∈ l.take (k + 1), [X, Y] ≠ b.1 := fun h b hb => by
          rw [List.take_succ_eq_append_getElem hkl, List.mem_append, List.mem_singleton] at hb
          rcases hb with hb | rfl
          · exact HNO.out b hb
          · exact h
        obtain ⟨S, hS⟩ : ∃ S, S = l.set k ((l[k]).1, opM orF (l[k]).2 M) := ⟨_, rfl⟩
        rw [← hS] at hset hadd hbl hslen
        clear hS
        obtain ⟨⟨C, F⟩, hF⟩ : ∃ F, F = l[k] := ⟨_, rfl⟩
        rw [← hF] at hF1 hF16 hA hMr hset hadd hne
        obtain ⟨P, Q, rfl⟩ : ∃ P Q, C = [P, Q] := ⟨_, _, two_of hF1.1⟩
        clear hF
        have HADD := Lib.hid hadd
        have HNE := Lib.hid hne
        have HSET := Lib.hid hset
        have HSL := Lib.hid hslen
        have HF2 := Lib.hid hF1.2
        have heq := fun W : World => run_equal_corner [P, Q] [X, Y] rfl rfl W
        have hbe : ([P, Q] == [X, Y]) = decide ([X, Y] = [P, Q]) := by
          rw [Bool.eq_iff_iff, beq_iff_eq, decide_eq_true_iff]
          exact eq_comm
        rw [hbe] at heq
        have rA : wr.drew.rangeAt g (k * 18) [.int .i32 P, .int .i32 Q] := hA
        obtain ⟨r1, r3⟩ : rowAt wr.drew g (k * 18) 2 = #[.int .i32 P, .int .i32 Q] ∧ hasRow wr.drew g (k * 18) 2 = true := rowAt_vals (W := wr.drew) rA
        obtain ⟨r2, r4⟩ : rowAt wr.drew w.heap.size 0 2 = #[.int .i32 X, .int .i32 Y] ∧ hasRow wr.drew w.heap.size 0 2 = true := rowAt_vals (W := wr.drew) (vs := [.int .i32 X, .int .i32 Y]) (HK0.out.rangeV (o := 0) (vs := [.int .i32 X, .int .i32 Y]) (fun j u hu => by rw [Nat.zero_add]; rw [← List.getElem?_toArray] at hu; exact hu))
        have HMR := Lib.hid hMr
        clear hset hadd hne hslen hF1 hA hMr hbe rA hbl
        by_cases he : [X, Y] = [P, Q]
        · have HAD := Lib.hid (HADD.out he)
          have heq' : ∀ W : World, (Op.equalIn 10000 63 (.agg #[.int .i32 P, .int .i32 Q]) (.agg #[.int .i32 X, .int .i32 Y])).run Try.prog W = .ok true W := fun W => by rw [← decide_eq_true he]; exact heq W
          have HJ := Lib.hid (fun W => sJoinMasks_any F M HF2.out HM.out W)
          have HOL := Lib.hid (opM_length (f := orF) HF2.out HM.out)
          clear heq HADD HNE he
          generalize opM orF F M = R at *
          go_wp2_with fail
          go_region_law (go_simp)
          all_goals
            have rM : wr.drew.drew.rangeAt g (k * 18 + 2) (F.map (.int .u16)) := HMR.out
            have rB : wr.drew.drew.rangeAt (w.heap.size + 1) 0 (M.map (.int .u16)) := HK1.out.range0
            obtain ⟨r5, r6⟩ : rowAt wr.drew.drew g (k * 18 + 2) 16 = ivs .u16 F ∧ hasRow wr.drew.drew g (k * 18 + 2) 16 = true := by
              have := rowAt_vals rM
              rwa [List.length_map, HF2.out] at this
            obtain ⟨r7, r8⟩ : rowAt wr.drew.drew (w.heap.size + 1) 0 16 = ivs .u16 M ∧ hasRow wr.drew.drew (w.heap.size + 1) 0 16 = true := by
              have := rowAt_vals rB
              rwa [List.length_map, HM.out] at this
            clear rM rB r1 r2 r3 r4
            go_wp2_with fail
            go_region_law (go_simp; go_at_call 108; refine (HJ.out _).mono ?_; rintro e w6 ⟨rfl, hb6⟩; have B6 := Lib.hid ((below_drew (below_drew HB.out)).trans (hb6.mono HB.out.size)); have O6 := Lib.hid (HO.out.drew.drew.below hb6 (Nat.le_refl _)); have Z6 := Lib.hid hb6.size; have hft : Fits w6 g (k * 18 + 2) R := ⟨HOL.out, O6.out.thereC _ 16 (by omega)⟩; clear hb6)
            all_goals
              go_wp2
              go_ret
              refine ⟨some ⟨g, 0, none⟩, cc, S, by rw [HSL.out]; rfl, HAD.out, .inr ?_, by rw [ivs_toList]; exact below_setCells (by have := O6.out.blk_; omega) _ _ B6.out⟩
              have h := O6.out.setAllC (R.map (.int .u16)) (k * 18 + 2)
              rw [HSET.out] at h
              rw [HSL.out, ivs_toList]
              have hz : (w6.setCells g (k * 18 + 2) (R.map (.int .u16))).heap.size = w6.heap.size := size_cells _ _ _ _
              exact (h.less (by omega)).more (by rw [hz]; exact Z6.out)
        · have heq' : ∀ W : World, (Op.equalIn 10000 63 (.agg #[.int .i32 P, .int .i32 Q]) (.agg #[.int .i32 X, .int .i32 Y])).run Try.prog W = .ok false W := fun W => by rw [← decide_eq_false he]; exact heq W
          have HN5 := Lib.hid (HNE.out he)
          clear heq HADD HNE he HSET HSL
          go_wp2_with fail
          go_region_law (go_simp)
          all_goals
            go_wp2
            exact ⟨⟨k + 1, by omega, by go_num, HN5, Lib.hid HO.out.drew, Lib.hid HK0.out.drew, Lib.hid HK1.out.drew, Lib.hid (below_drew HB.out)⟩, by simp [intOf]; omega⟩
      · obtain rfl : k = n := by omega
        have hno := HNO.out
        rw [List.take_of_length_le (by have := HL.out; omega)] at hno
        have HNO2 := Lib.hid hno
        have hbb : ([X, Y] : List Int).length = 2 ∧ M.length = 16 := ⟨rfl, HM.out⟩
        have HBB := Lib.hid hbb
        have HNW := Lib.hid (block_news wr ([X, Y], M))
        have HOA := Lib.hid (HO.out.row.alloc (.cells (bav ([X, Y], M)) 78))
        have HBA := Lib.hid (HB.out.alloc HB.out.size (.cells (bav ([X, Y], M)) 78))
        have HSA : Hid (w.heap.size + 1 + 1 ≤ (wr.alloc (.cells (bav ([X, Y], M)) 78)).heap.size) := Lib.hid (by have := HK1.out.lt; rw [size_alloc]; omega)
        have hcl : (bcs [(([X, Y], M) : Bl)]).length = 1 * 18 := by rw [bcs_length (bls_one hbb)]; rfl
        have HC0 := Lib.hid HK0.out
        have HC1 := Lib.hid HK1.out
        clear hno HNO hbb
        go_wp2_with (first
          | refine wpList_load_row rfl _ _ rfl w.heap.size rfl 63 #[.int .i32 X, .int .i32 Y] (0, 0) _ HC0.out Try.underlying63 rfl (by exact size63) ?_
          | refine wpList_load_row rfl _ _ rfl (w.heap.size + 1) rfl 76 (ivs .u16 M) (0, 0) _ HC1.out Try.underlying76 rfl (by rw [ivs_size, HM.out]; exact size76) ?_
          | refine wpList_build_block rfl _ _ rfl X Y M HM.out rfl rfl ?_
          | refine wpList_buildSlice_block rfl 27 78 _ rfl Try.underlying27 hi hz0 hz1 ([X, Y], M) HBB.out rfl ?_
          | (at_builtin; refine wpList_append_own _ rfl _ _ 27 rfl (w.heap.size + 1 + 1) 78 i0 _ 18 40 Try.underlying27 hi hz0 hz1 hz2 rfl (by decide) (.slice (some ⟨g, 0, none⟩) k cc) k _ rfl HOA.out ⟨wr.heap.size, 0, none⟩ 1 1 (bcs [([X, Y], M)]) rfl hcl HNW.out (bcs_one _) (by unfold maxLen; omega) (by omega) HSA.out ?_; intro v8 w8 hown8 hgrow8 hnil8; rw [← bcs_append] at hown8; obtain ⟨g8, c8, rfl⟩ := own_some hown8 (by omega); have HO8 := Lib.hid hown8; have HG8 := Lib.hid hgrow8; have HN8 := Lib.hid hnil8; clear hown8 hgrow8 hnil8))
        have hB8 := HBA.out.grown HG8.out HBA.out.size (fun j e => by have := (HOA.out.lt _ e).1; omega)
        have hz8 : w.heap.size + 1 + 1 ≤ w8.heap.size := Nat.le_trans HSA.out HG8.out.size
        obtain ⟨A8, c8', hv8, hO8⟩ := Own.of_row HO8.out
        cases hv8
        have hl8 := HL.out
        have he8 : l ++ [([X, Y], M)] = ins l ([X, Y], M) k := by rw [← hl8, ins_end]
        rw [he8] at hO8
        have L8 := Lib.hid (And.intro hO8 hB8)
        clear hO8 hB8 HO8 HG8 HN8 HBA HOA HNW HC0 HC1 HK0 HK1 HO HB he8 hl8
        go_loopw [9] (fun i wr => ∃ j : Nat, j ≤ k ∧ i = .int .i64 j ∧ Hid (∀ c ∈ l.drop j, ltC ([X, Y], M) c) ∧ Hid (Own wr (w.heap.size + 1 + 1) wr.heap.size 78 18 (some ⟨g8, 0, none⟩) (k + 1) c8 (bcs (ins l ([X, Y], M) j))) ∧ Hid (Below w.heap.size w wr)) (fun i _ => (intOf i).toNat)
        case atStart => exact ⟨k, Nat.le_refl _, by go_num, Lib.hid (fun c hc => by rw [List.drop_of_length_le (by have := HL.out; omega)] at hc; cases hc), Lib.hid L8.out.1, Lib.hid L8.out.2⟩
        case round =>
          clear L8
          obtain ⟨j, hjk, rfl, HUP, HO, HB⟩ := hrel
          cases j with
          | zero =>
            have HFIN : Hid (Added l [X, Y] M (ins l ([X, Y], M) 0)) := Lib.hid (added_ins HP.out rfl HM.out HM16.out HNE.out HNO2.out (Nat.zero_le _) HUP.out (fun h => by omega))
            have HLEN : Hid ((ins l ([X, Y], M) 0).length = k + 1) := Lib.hid (by rw [ins_length (Nat.zero_le _), HL.out])
            clear HUP HNO2
            go_wp2_with fail
            refine region_after (by kernel_rfl) (by kernel_rfl) ?_
            repeat (go_big_quiet_step (fail))
            refine wpQuiet_nil ?_
            rintro _ ⟨t, rfl⟩
            go_wp2
            go_ret
            exact ⟨some ⟨g8, 0, none⟩, c8, _, by rw [HLEN.out]; rfl, HFIN.out, .inr (by rw [HLEN.out]; exact ((HO.out.below t.h (Nat.le_refl _)).more t.h.size).less (by omega)), HB.out.trans (t.h.mono HB.out.size)⟩
          | succ q =>
            have hql : q < l.length := by have := HL.out; omega
            have hIl := ins_length (l := l) (b := ([X, Y], M)) (j := q + 1) (by omega)
            have hIb := ins_bls (b := ([X, Y], M)) HP.out.bls HBB.out (q + 1)
            have hA1 := own_corner HO.out hIb (k := q + 1) (by omega)
            rw [ins_at (by omega)] at hA1
            have hA0 := own_corner HO.out hIb (k := q) (by omega)
            rw [ins_before hql] at hA0
            have hb0 := own_block HO.out hIb (k := q) (by omega)
            rw [ins_before hql] at hb0
            have hb1 := own_block HO.out hIb (k := q + 1) (by omega)
            rw [ins_at (by omega)] at hb1
            have hs1 := bcs_set_whole (b := l[q]) hIb (k := q + 1) (by omega) (HP.out.bls.at_ hql)
            have hs1b : Bls ((ins l ([X, Y], M) (q + 1)).set (q + 1) l[q]) := fun c hc => by
              rcases List.mem_or_eq_of_mem_set hc with h | rfl
              · exact hIb c h
              · exact HP.out.bls.at_ hql
            have hs2 := bcs_set_whole (b := ([X, Y], M)) hs1b (k := q) (by rw [List.length_set]; omega) HBB.out
            rw [ins_swap hql] at hs2
            have hne := HNO2.out l[q] (List.getElem_mem hql)
            have hlt := befB_iff ([X, Y], M) l[q]
            have hbe : befB ([X, Y], M) l[q] = decide (cmpC X Y ((l[q]).1.getD 0 0) ((l[q]).1.getD 1 0) < 0) := rfl
            have htot : ¬ ltC ([X, Y], M) l[q] → ltC l[q] ([X, Y], M) := fun h => by
              have h2 := two_of (HP.out.bls.at_ hql).1
              unfold ltC at *
              simp only [List.getD_cons_zero, List.getD_cons_succ] at *
              have : ¬ ((l[q]).1.getD 0 0 = X ∧ (l[q]).1.getD 1 0 = Y) := fun ⟨e1, e2⟩ => hne (by rw [h2, e1, e2])
              omega
            have hup : ltC ([X, Y], M) l[q] → ∀ c ∈ l.drop q, ltC ([X, Y], M) c := fun h c hc => by
              rw [List.drop_eq_getElem_cons hql] at hc
              rcases List.mem_cons.1 hc with rfl | hc
              · exact h
              · exact HUP.out c hc
            have hfin : ¬ ltC ([X, Y], M) l[q] → Added l [X, Y] M (ins l ([X, Y], M) (q + 1)) := fun h => added_ins HP.out rfl HM.out HM16.out HNE.out HNO2.out (by omega) HUP.out (fun _ => by
              simp only [Nat.add_sub_cancel]
              exact htot h)
            obtain ⟨⟨C, F⟩, hF⟩ : ∃ F, F = l[q] := ⟨_, rfl⟩
            have hC2 := HP.out.bls.at_ hql
            rw [← hF] at hA0 hb0 hs1 hs2 hlt hbe hup hfin hC2
            obtain ⟨P, Q, rfl⟩ : ∃ P Q, C = [P, Q] := ⟨_, _, two_of hC2.1⟩
            have rA1 : wr.rangeAt g8 ((q + 1) * 18) [.int .i32 X, .int .i32 Y] := hA1
            have rA0 : wr.rangeAt g8 (q * 18) [.int .i32 P, .int .i32 Q] := hA0
            have hgw : g8 < wr.heap.size := HO.out.blk_.2
            have tA1 : ∀ t : After wr, rowAt t.to g8 ((q + 1) * 18) 2 = #[.int .i32 X, .int .i32 Y] := fun t => (t.row hgw rA1).1
            have tB1 : ∀ t : After wr, hasRow t.to g8 ((q + 1) * 18) 2 = true := fun t => (t.row hgw rA1).2
            have tA0 : ∀ t : After wr, rowAt t.to g8 (q * 18) 2 = #[.int .i32 P, .int .i32 Q] := fun t => (t.row hgw rA0).1
            have tB0 : ∀ t : After wr, hasRow t.to g8 (q * 18) 2 = true := fun t => (t.row hgw rA0).2
            have HCB := Lib.hid (fun W => l07Before_any X Y P Q W)
            have hbe' : befB ([X, Y], M) ([P, Q], F) = decide (cmpC X Y P Q < 0) := hbe
            have hq0 : (0 : Int) ≤ q := by omega
            have hqk : (q : Int) + 1 < (k : Int) + 1 := by omega
            have HB0 := Lib.hid hb0
            have HB1 := Lib.hid hb1
            have HS1 := Lib.hid hs1
            have HS2 := Lib.hid hs2
            have HUPQ := Lib.hid hup
            have HFINQ := Lib.hid hfin
            have HLT := Lib.hid hlt
            have HC2 := Lib.hid hC2
            have HIL := Lib.hid hIl
            clear hIl hIb hA1 hA0 hb0 hb1 hs1 hs1b hs2 hne hlt hbe htot hup hfin hF hC2 rA1 rA0 HUP
            have hcb := HCB.out
            cases hbf : decide (cmpC X Y P Q < 0)
            · rw [hbf] at hcb hbe'
              have HF2 := Lib.hid (HFINQ.out (fun h => by have := HLT.out.2 h; rw [hbe'] at this; cases this))
              clear hbf hbe' HLT HFINQ HUPQ HS1 HS2 HB0 HB1 HCB
              go_wp2_with fail
              refine region_after (by kernel_rfl) (by kernel_rfl) ?_
              repeat (go_big_quiet_step (first | (go_at_call 88; exact After.call _ (hcb _))))
              refine wpQuiet_nil ?_
              rintro _ ⟨t, rfl⟩
              go_wp2
              go_ret
              exact ⟨some ⟨g8, 0, none⟩, c8, _, by rw [HIL.out, HL.out]; rfl, HF2.out, .inr (by rw [HIL.out, HL.out]; exact ((HO.out.below t.h (Nat.le_refl _)).more t.h.size).less (by omega)), HB.out.trans (t.h.mono HB.out.size)⟩
            · rw [hbf] at hcb hbe'
              have HU2 := Lib.hid (HUPQ.out (HLT.out.1 hbe'))
              clear hbf hbe' HLT HFINQ HUPQ HCB
              go_wp2_with fail
              refine region_after (by kernel_rfl) (by kernel_rfl) ?_
              repeat (go_big_quiet_step (first | (go_at_call 88; exact After.call _ (hcb _))))
              refine wpQuiet_nil ?_
              rintro _ ⟨t, rfl⟩
              have HOT := Lib.hid ((HO.out.below t.h (Nat.le_refl _)).more t.h.size)
              have HBT := Lib.hid (HB.out.trans (t.h.mono HB.out.size))
              have HRA := Lib.hid (range_of_below HB1.out t.h hgw)
              have HRB := Lib.hid (range_of_below HB0.out t.h hgw)
              clear tA1 tB1 tA0 tB0 HO HB HB0 HB1 hgw hcb
              generalize t.to = w6 at *
              clear t
              have hz6 : w.heap.size + 1 + 1 ≤ w6.heap.size := by have := HOT.out.blk_; omega
              have HBS : Hid ((bav ([X, Y], M)).size = 18) := Lib.hid (bav_size (b := ([X, Y], M)) HBB.out)
              have HBS2 : Hid ((bav ([P, Q], F)).size = 18) := Lib.hid (bav_size (b := ([P, Q], F)) HC2.out)
              have HBZ : Hid ((bav (zr2, zr16)).size = 18) := Lib.hid rfl
              have HBL : Hid ((bvs ([X, Y], M)).length = 18) := Lib.hid (bvs_length (b := ([X, Y], M)) HBB.out)
              have HBL2 : Hid ((bvs ([P, Q], F)).length = 18) := Lib.hid (bvs_length (b := ([P, Q], F)) HC2.out)
              go_wp2_with (first
                | refine wpList_load_mid rfl _ _ rfl g8 ((q + 1) * 18) (by rfl) (bvs ([X, Y], M)) _ HRA.out Try.underlying78 rfl (by rw [HBL.out]; exact size78) ?_
                | (refine wpList_store_row rfl _ _ _ rfl w6.heap.size (bav ([X, Y], M)) rfl rfl 78 (bav (zr2, zr16)) (Blk.newAt rfl rfl) (by rw [HBS.out]; exact size78) (by rw [HBS.out, HBZ.out]) (bav_one _) ?_; generalize hw7 : World.setRow _ _ _ = w7; have G7 : Hid (Blk w7 w6.heap.size 78 (bav ([X, Y], M))) := Lib.hid (by rw [← hw7]; exact (Blk.newAt rfl rfl).row _); have B7r : Hid (Below w6.heap.size w6 w7) := Lib.hid (by rw [← hw7]; exact below_setRow ((Below.refl _ _).alloc (Nat.le_refl _) _) (g := w6.heap.size) (Nat.le_refl _) _); have O7 := Lib.hid ((HOT.out.below B7r.out (Nat.le_refl _)).more B7r.out.size); have B7 := Lib.hid (HBT.out.trans (B7r.out.mono HBT.out.size)); have HR7 := Lib.hid (range_of_below HRB.out B7r.out HOT.out.blk_.2); have HGN : Hid (w6.heap.size ≠ g8) := Lib.hid (by have := HOT.out.blk_; omega); clear hw7)
                | refine wpList_load_mid rfl _ _ rfl g8 (q * 18) (by rfl) (bvs ([P, Q], F)) _ HR7.out Try.underlying78 rfl (by rw [HBL2.out]; exact size78) ?_
                | (refine wpList_store_mid rfl _ _ _ rfl g8 ((q + 1) * 18) (bav ([P, Q], F)) (by rfl) rfl (by rw [HBS2.out]; exact O7.out.thereC _ 18 (by omega)) (by rw [HBS2.out]; exact size78) (bav_one _) ?_; rw [bav_toList]; have O8 := Lib.hid (O7.out.setAllC (bvs ([P, Q], F)) ((q + 1) * 18)); have B8 := Lib.hid (below_setCells (g := g8) (by have := O7.out.blk_; omega) (bvs ([P, Q], F)) ((q + 1) * 18) B7.out); have G8 := Lib.hid (Blk.setCells_far HGN.out (bvs ([P, Q], F)) ((q + 1) * 18) G7.out); have Z8 : Hid ((w7.setCells g8 ((q + 1) * 18) (bvs ([P, Q], F))).heap.size = w7.heap.size) := Lib.hid (size_cells _ _ _ _); generalize w7.setCells g8 ((q + 1) * 18) (bvs ([P, Q], F)) = w8 at *)
                | refine wpList_load_row rfl _ _ rfl w6.heap.size rfl 78 (bav ([X, Y], M)) (0, 0) _ G8.out Try.underlying78 rfl (by rw [HBS.out]; exact size78) ?_
                | (refine wpList_store_mid rfl _ _ _ rfl g8 (q * 18) (bav ([X, Y], M)) (by rfl) rfl (by rw [HBS.out]; exact O8.out.thereC _ 18 (by omega)) (by rw [HBS.out]; exact size78) (bav_one _) ?_; rw [bav_toList]; have O9 := Lib.hid (O8.out.setAllC (bvs ([X, Y], M)) (q * 18)); have B9 := Lib.hid (below_setCells (g := g8) (by have := O7.out.blk_; omega) (bvs ([X, Y], M)) (q * 18) B8.out); have Z9 : Hid ((w8.setCells g8 (q * 18) (bvs ([X, Y], M))).heap.size = w8.heap.size) := Lib.hid (size_cells _ _ _ _); generalize w8.setCells g8 (q * 18) (bvs ([X, Y], M)) = w9 at *))
              have h9 := O9.out
              rw [HS1.out, HS2.out] at h9
              exact ⟨⟨q, by omega, by go_num, HU2, Lib.hid (by rw [Z9.out, Z8.out]; exact h9), B9⟩, by simp [intOf]⟩
  · have HZ : Hid (M = zr16) := Lib.hid (emptyM_iff.1 hem)
    rw [hem] at HE
    clear hem
    go_enter Try.func63, Try.ntmps63
    go_wp2_with (first
      | (go_at_call 86; refine HE.out.mono ?_; rintro e w2 ⟨rfl, rfl⟩))
    go_ret
    exact ⟨A, c, l, by rw [HL.out]; rfl, by rw [HZ.out]; exact added_void HP.out _, .inl ⟨rfl, rfl, rfl⟩, B1.out⟩
end
/-- of a list that the caller owns comes one that it owns -/
theorem l07Add_own (A : Option Addr) (n c : Nat) (l : List Bl) (hl : l.length = n) (hp : Pic l) (hn : n ≤ 1048576) (X Y : Int) (M : List Int) (hM : M.length = 16) (h16 : is16 M) (lo : Nat) (w : World) (hlo : lo ≤ w.heap.size) (hO : Own w lo w.heap.size 78 18 A n c (bcs l)) :
    Calls Try.prog 63 #[.slice A n c, .agg #[.int .i32 X, .int .i32 Y], .agg (ivs .u16 M)] w fun e w' => ∃ A' c' l', e = .returned (.slice A' l'.length c') ∧ Added l [X, Y] M l' ∧ Own w' lo w'.heap.size 78 18 A' l'.length c' (bcs l') ∧ Below w.heap.size w w' := by
  refine (l07Add_any A n c l hl hp hn X Y M hM h16 w hO.rd).mono ?_
  rintro e w' ⟨A', c', l', he, ha, ho, hb⟩
  refine ⟨A', c', l', he, ha, ?_, hb⟩
  rcases ho with ⟨rfl, rfl, rfl⟩ | ho
  · subst hl
    exact (hO.below hb (Nat.le_refl _)).more hb.size
  · exact ho.less hlo
end Go.Proofs.Ytmagaapdijapiaa
