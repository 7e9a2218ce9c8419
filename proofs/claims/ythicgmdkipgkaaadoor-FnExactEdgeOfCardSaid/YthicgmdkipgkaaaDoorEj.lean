/- Edges: the program's loops. -/
import Derived.Test.YthicgmdkipgkaaaDoorRows
import Derived.Test.YthicgmdkipgkaaaDoorEi
namespace Go.Proofs.YthicgmdkipgkaaaDoor
open Go.ChangeShapes Go.WideShapes Go.ChangeAt Go.RowKit
set_option maxRecDepth 20000 in
set_option maxHeartbeats 6400000 in
theorem iEdgeOf_any (A : Option Addr) (n c : Nat) (l : List Bl) (hl : l.length = n) (hrow : Bls l) (h16 : ∀ b ∈ l, is16 b.2) (h32 : ∀ b ∈ l, ∀ x ∈ b.1, -2147483648 ≤ x ∧ x ≤ 2147483647) (hn : n ≤ 1048576) (w : World) (hst : Laid8 w) (hR : Rd w w.heap.size 18 A n (bcs l)) :
    Calls Tryd.prog 9 #[.slice A n c] w (GivesToldB (edgL l) (edgK l) w) := by
  have ho := fun W h => iValidPicture_any A n c l hl hrow h16 h32 hn W h
  have hv := fun h => vpic_of hrow h16 h
  have hm := fun (h : vpB l = true) W hR => masksOf_any A n c l hl hrow (apart_of_rising (rising_of_vpB h)) hn W hR
  rw [edgL, edgK]
  cases hok : vpB l
  · rw [hok] at ho
    clear hm hv hok hrow h16 h32 hl hst
    go_enter Tryd.func9, Tryd.ntmps9
    go_wp2_with (go_at_call 25; refine (ho _ (hR.more (by first | exact Nat.le_refl _ | omega))).mono ?_; rintro e w1 ⟨rfl, b1⟩)
    go_ret2
    exact GivesToldB.nil b1
  · rw [hok] at ho
    have hV := hv hok
    have HV := Lib.hid hV
    have HMO := Lib.hid (hm hok)
    have HCS := Lib.hid (fun W h => cellsOf_any A n c l hl hV W h)
    have HHAS := Lib.hid (fun g X Y hx hy cc W h hg => has_any g l hV.pic.bls hV.pic.m16 X Y hx hy cc W h hg)
    have HO := Lib.hid ho
    have HR := Lib.hid hR
    have HST := Lib.hid hst
    have hcnt := hV.count
    clear ho hv hm hok hrow h16 h32 hl hV hR hst
    simp only [if_true]
    go_enter Tryd.func9, Tryd.ntmps9
    go_wp2_with (first
      | (go_at_call 25; refine (HO.out _ HR.out).mono ?_; rintro e w1 ⟨rfl, b1⟩; have BC := Lib.hid b1; clear b1)
      | (go_at_call 26; refine (HMO.out _ ((HR.out.below BC.out (Nat.le_refl _)).more BC.out.size)).mono ?_; rintro e w2 ⟨g1, rfl, k1, k2, k3, b2⟩; have K := Lib.hid (And.intro k1 k3); have BM := Lib.hid b2; have BC := Lib.hid (BC.out.trans (b2.mono BC.out.size)); clear b2 k1 k2 k3)
      | (go_at_call 27; refine (HCS.out _ ((HR.out.below BC.out (Nat.le_refl _)).more BC.out.size)).mono ?_; rintro e w2 ⟨g, cc, rfl, hO2, b2⟩; have HCL := Lib.hid hO2.rd; have HGB := Lib.hid hO2.blk_; have BQ := Lib.hid b2; have BC := Lib.hid (BC.out.trans (b2.mono BC.out.size)); clear hO2 b2))
    rename_i B0 wa ga Ka BMa BCa wb BCb KK aa
    have hga : ga < wa.heap.size := heap_lt Ka.out.2
    have hgb : g1 < wb.heap.size := heap_lt K.out.2
    have hdist : ga ≠ g1 ∧ g ≠ g1 ∧ w.heap.size ≤ g1 ∧ g1 ≠ 0 := by
      have h1 := K.out.1
      have h2 := HGB.out.1
      have h3 := BCa.out.size
      have h4 := HST.out.pos
      omega
    have M1 : Hid (w2.heap[ga]? = some (.map (ents l 0).toArray l.length)) := Lib.hid (heap_below BQ.out (heap_below BM.out Ka.out.2))
    have M2 : Hid (w2.heap[g1]? = some (.map (ents l 0).toArray l.length)) := Lib.hid (heap_below BQ.out K.out.2)
    have HD := Lib.hid hdist
    have HGL : Hid (g < w2.heap.size) := Lib.hid HGB.out.2
    have HLN : Hid (l.length ≤ 64) := Lib.hid HV.out.few
    clear hga hgb hdist B0 BMa BCa BCb BM BQ K Ka HMO HCS HO HGB HR
    go_loopw [25] (fun i wr => ∃ k : Nat, k ≤ (specC l).length ∧ i = .int .i64 k ∧ ∃ lo, Hid (EdgeI l k lo) ∧ Hid (wr.heap[ga]? = some (.map (ents l 0).toArray l.length)) ∧ Hid (wr.heap[g1]? = some (.map (ents lo 0).toArray lo.length)) ∧ Hid (wr.heap[g]? = w2.heap[g]?) ∧ Hid (Below w.heap.size w wr)) (fun i _ => (specC l).length - (intOf i).toNat)
    case atStart => exact ⟨0, by omega, rfl, l, Lib.hid (edgeI_zero HV.out.pic), M1, M2, Lib.hid rfl, BC⟩
    case round =>
      clear M1 M2 BC
      obtain ⟨k, hk, rfl, lo, HE, M1, M2, MG, HB⟩ := hrel
      by_cases hlt : k < (specC l).length
      · have hkI : (k : Int) < (specC l).length := by omega
        have hk0 : (0 : Int) ≤ k := by omega
        obtain ⟨x, y, hxy⟩ : ∃ x y, (specC l)[k] = [x, y] := ⟨_, _, two_of ((specC_rows l).at_ hlt)⟩
        have hmem : hasB l x y = true := ((spec_mem HV.out.pic.apart HV.out.pic.bls [x, y]).1 (by rw [← hxy]; exact List.getElem_mem hlt)).2
        obtain ⟨⟨hx2, hx3⟩, ⟨hy2, hy3⟩⟩ := cellB_in (HV.out.cells hmem)
        have hrg := pvs_row2 (specC_rows l) hlt HCL.out rfl
        rw [hxy] at hrg
        rw [Nat.zero_add] at hrg
        have hrg' : wr.rangeAt g (k * 2) [.int .i32 x, .int .i32 y] := fun j v hv => (World.cell?_of_block (a := ⟨g, k * 2 + j, none⟩) MG.out).trans (hrg j v hv)
        have HRG := Lib.hid hrg'
        have HNO := Lib.hid (fun h => edgeI_no hlt HE.out hxy h)
        have HYES := Lib.hid (fun h => edgeI_yes hlt HE.out hxy h)
        have HALL : Hid (inTo (hasB l) x y 4 = insideB (hasB l) x y) := Lib.hid (inTo_all _ _ _)
        clear hrg hrg' hmem hxy
        go_wp2_with (first
          | fail
            | refine wpList_load_mid rfl _ _ rfl g (k * 2) (by rfl) [.int .i32 x, .int .i32 y] _ HRG.out Tryd.underlying42 rfl (by exact size42) ?_
            | (refine wpList_store_row rfl _ _ _ rfl wr.heap.size (ivs .i32 [x, y]) rfl rfl 42 #[.int .i32 0, .int .i32 0] (Blk.newAt rfl rfl) (by exact size42) rfl ivs_one ?_; generalize hw5 : World.setRow _ _ _ = w5; have G5 : Hid (Blk w5 wr.heap.size 42 (ivs .i32 [x, y])) := Lib.hid (by rw [← hw5]; exact (Blk.newAt rfl rfl).row _); have B5 : Hid (Below wr.heap.size wr w5) := Lib.hid (by rw [← hw5]; exact below_setRow ((Below.refl _ _).alloc (Nat.le_refl _) _) (g := wr.heap.size) (Nat.le_refl _) _); clear hw5)
          | (go_at_call 28; refine (steps_any false _).mono ?_; rintro e w6 ⟨rfl, rfl⟩))
        have N1 := Lib.hid (heap_below B5.out M1.out)
        have N2 := Lib.hid (heap_below B5.out M2.out)
        have NB := Lib.hid (HB.out.trans (B5.out.mono HB.out.size))
        have hgw : wr.heap.size < w5.heap.size := G5.out.lt
        have HGW := Lib.hid hgw
        clear hgw HRG
        obtain ⟨wo, rfl⟩ : ∃ wo : World, wo = wr := ⟨_, rfl⟩
        go_loopw [8, 31] (fun b i wr => ∃ j : Nat, j ≤ 4 ∧ i = .int .i64 j ∧ b = .bool (inTo (hasB l) x y j) ∧ Hid (Below w5.heap.size w5 wr)) (fun _ i _ => 4 - (intOf i).toNat)
        case atStart => exact ⟨0, by omega, rfl, rfl, Lib.hid (Below.refl _ _)⟩
        case round =>
          obtain ⟨j, hj, rfl, rfl, HB2⟩ := hrel
          have c0 : wr.cell? ⟨wo.heap.size, 0, none⟩ = some (.int .i32 x) := (G5.out.below HB2.out HGW.out).cellI (i := 0) (by simp)
          have c1 : wr.cell? ⟨wo.heap.size, 1, none⟩ = some (.int .i32 y) := (G5.out.below HB2.out HGW.out).cellI (i := 1) (by simp)
          by_cases hj4 : j < 4
          · have hjI : (j : Int) < 4 := by omega
            have hj0 : (0 : Int) ≤ j := by omega
            have hs := Lib.hid (((HST.out.below NB.out).below HB2.out).at_ (j := j) (by omega))
            obtain ⟨si1, si2, si3, si4⟩ := step_in j
            have hit : inTo (hasB l) x y (j + 1) = (inTo (hasB l) x y j && hasB l (x + stepX j) (y + stepY j)) := rfl
            have HIT := Lib.hid hit
            have N1' := Lib.hid (heap_below HB2.out N1.out)
            have BQ : Hid (Below wr.heap.size wr wr) := Lib.hid (Below.refl _ _)
            clear hit
            generalize stepX j = sx at *
            generalize stepY j = sy at *
            have hhas := fun W h => HHAS.out ga (x + sx) (y + sy) (by omega) (by omega) l.length W h (heap_lt h)
            have HHS := Lib.hid hhas
            have G5c := Lib.hid ((G5.out.below HB2.out HGW.out))
            have HGC : Hid (wo.heap.size < wr.heap.size) := Lib.hid (G5c.out.lt)
            clear hhas
            cases hin : inTo (hasB l) x y j
            · rw [hin] at HIT
              go_wp2_with (first
                | refine wpList_load_mid rfl _ _ rfl 0 (j * 2) (by rfl) [.int .i32 sx, .int .i32 sy] _ hs.out Tryd.underlying42 rfl (by exact size42) ?_
                | (refine wpList_store_row rfl _ _ _ rfl wr.heap.size (ivs .i32 [sx, sy]) rfl rfl 42 #[.int .i32 0, .int .i32 0] (Blk.newAt rfl rfl) (by exact size42) rfl ivs_one ?_; generalize hw6 : World.setRow _ _ _ = w6; have G6 : Hid (Blk w6 wr.heap.size 42 (ivs .i32 [sx, sy])) := Lib.hid (by rw [← hw6]; exact (Blk.newAt rfl rfl).row _); have B6 : Hid (Below wr.heap.size wr w6) := Lib.hid (by rw [← hw6]; exact below_setRow ((Below.refl _ _).alloc (Nat.le_refl _) _) (g := wr.heap.size) (Nat.le_refl _) _); clear hw6))
              exact ⟨⟨j + 1, by omega, by go_num, by rw [HIT.out]; rfl, Lib.hid (HB2.out.trans (B6.out.mono HB2.out.size))⟩, by simp [intOf]; omega⟩
            · rw [hin, Bool.true_and] at HIT
              go_wp2_with (first
                | refine wpList_load_mid rfl _ _ rfl 0 (j * 2) (by rfl) [.int .i32 sx, .int .i32 sy] _ hs.out Tryd.underlying42 rfl (by exact size42) ?_
                | (refine wpList_store_row rfl _ _ _ rfl wr.heap.size (ivs .i32 [sx, sy]) rfl rfl 42 #[.int .i32 0, .int .i32 0] (Blk.newAt rfl rfl) (by exact size42) rfl ivs_one ?_; generalize hw6 : World.setRow _ _ _ = w6; have G6 : Hid (Blk w6 wr.heap.size 42 (ivs .i32 [sx, sy])) := Lib.hid (by rw [← hw6]; exact (Blk.newAt rfl rfl).row _); have B6 : Hid (Below wr.heap.size wr w6) := Lib.hid (by rw [← hw6]; exact below_setRow ((Below.refl _ _).alloc (Nat.le_refl _) _) (g := wr.heap.size) (Nat.le_refl _) _); have s0 : w6.cell? ⟨wr.heap.size, 0, none⟩ = some (.int .i32 sx) := G6.out.cellI (i := 0) (by simp); have s1 : w6.cell? ⟨wr.heap.size, 1, none⟩ = some (.int .i32 sy) := G6.out.cellI (i := 1) (by simp); have p0 : w6.cell? ⟨wo.heap.size, 0, none⟩ = some (.int .i32 x) := (G5c.out.below B6.out HGC.out).cellI (i := 0) (by simp); have p1 : w6.cell? ⟨wo.heap.size, 1, none⟩ = some (.int .i32 y) := (G5c.out.below B6.out HGC.out).cellI (i := 1) (by simp); clear hw6)
                | (go_at_call 29; refine (HHS.out _ (heap_below B6.out N1'.out)).mono ?_; rintro e w7 ⟨rfl, b7⟩; have B7 := Lib.hid (B6.out.trans (b7.mono B6.out.size)); clear b7))
              exact ⟨⟨j + 1, by omega, by go_num, by rw [HIT.out], Lib.hid (HB2.out.trans (B7.out.mono HB2.out.size))⟩, by simp [intOf]; omega⟩
          · have hnI : ¬ ((j : Int) < 4) := by omega
            have hj4e : j = 4 := by omega
            have hin4 : inTo (hasB l) x y j = insideB (hasB l) x y := by rw [hj4e]; exact HALL.out
            rw [hin4]
            have hgwo : g < wo.heap.size := by
              rcases Nat.lt_or_ge g wo.heap.size with h | h
              · exact h
              · have h2 := MG.out
                rw [Array.getElem?_eq_none h, Array.getElem?_eq_getElem HGL.out] at h2
                cases h2
            have N1' := Lib.hid (heap_below HB2.out N1.out)
            have N2' := Lib.hid (heap_below HB2.out N2.out)
            have MG' : Hid (wr.heap[g]? = w2.heap[g]?) := Lib.hid ((HB2.out.block g (Nat.lt_trans hgwo HGW.out |> fun h => by have := B5.out.size; omega)).trans ((B5.out.block g hgwo).trans MG.out))
            have NB2 := Lib.hid (NB.out.trans (HB2.out.mono NB.out.size))
            have HGW2 : Hid (g < wr.heap.size) := Lib.hid (by have := B5.out.size; have := HB2.out.size; omega)
            clear hin4 hgwo hj4e hj HALL HHAS N1 N2 NB
            cases hin : insideB (hasB l) x y
            · have HE2 := Lib.hid (HNO.out hin)
              clear HYES HNO hin
              go_wp2
              exact ⟨⟨k + 1, by omega, by go_num, lo, HE2, N1', N2', MG', NB2⟩, by simp [intOf]; omega⟩
            · have HE2 := Lib.hid (HYES.out hin)
              clear HYES HNO hin
              obtain ⟨u, hu⟩ : ∃ u : Nat, (u : Int) = x % 16 := ⟨(x % 16).toNat, by omega⟩
              obtain ⟨v, hv⟩ : ∃ v : Nat, (v : Int) = y % 16 := ⟨(y % 16).toNat, by omega⟩
              have hba := fun W => blockAt_any x y (by omega) (by omega) W
              rw [← hu, ← hv] at hba
              have HT := HE.out.tab
              obtain ⟨hM1, hM2⟩ := HT.mask [x / 16, y / 16]
              have hstr : strike lo x y = putB lo [x / 16, y / 16] (setNot (maskAt lo [x / 16, y / 16]) v u) := by
                rw [strike, ← hu, ← hv]
                rfl
              rw [hstr] at HE2
              have hlkk := fun W h => run_lookupMask g1 lo HT.bls (x / 16) (y / 16) lo.length W h
              have hpp := fun M W h => run_putAny g1 lo HT.bls (x / 16) (y / 16) M W h
              have HBA := Lib.hid hba
              have HLK := Lib.hid hlkk
              have HPP := Lib.hid hpp
              have hu16 : u < 16 := by omega
              have hv16 : v < 16 := by omega
              clear hstr hba hlkk hpp HT HE
              generalize maskAt lo [x / 16, y / 16] = M at *
              have HM1 := Lib.hid hM1
              have HM2 := Lib.hid hM2
              obtain ⟨X, hX⟩ : ∃ X, X = x / 16 := ⟨_, rfl⟩
              obtain ⟨Y, hY⟩ : ∃ Y, Y = y / 16 := ⟨_, rfl⟩
              rw [← hX, ← hY] at HBA HLK HPP HE2
              clear hM1 hM2 hX hY hu hv
              have HG := N2'
              go_wp2_with (first
                | (go_at_call 30; refine (HBA.out _).mono ?_; rintro e w6 ⟨rfl, b6⟩; have B6r := Lib.hid b6; clear b6)
                | (refine wpList_store_row rfl _ _ _ rfl w6.heap.size (ivs .i32 [X, Y]) rfl rfl 45 #[.int .i32 0, .int .i32 0] (Blk.newAt rfl rfl) (by exact size45) rfl ivs_one ?_; generalize hw7 : World.setRow _ _ _ = w7; have G7 : Hid (Blk w7 w6.heap.size 45 (ivs .i32 [X, Y])) := Lib.hid (by rw [← hw7]; exact (Blk.newAt rfl rfl).row _); have B7r : Hid (Below wr.heap.size wr w7) := Lib.hid (by rw [← hw7]; exact below_setRow (B6r.out.alloc B6r.out.size _) (g := w6.heap.size) B6r.out.size _); have hlk : (Instr.lookup 54 (.map (some g1)) (.agg (ivs .i32 [X, Y])) false).run Tryd.prog w7 = .ok (.agg (ivs .u16 M)) w7 := HLK.out w7 ((B7r.out.block _ (heap_lt HG.out)).trans HG.out); clear hw7)
                | refine wpList_load_row rfl _ _ rfl w6.heap.size rfl 45 (ivs .i32 [X, Y]) (0, 0) _ G7.out Tryd.underlying45 rfl (by exact size45) ?_
                | (refine wpList_store_row rfl _ _ _ rfl w7.heap.size (ivs .u16 M) rfl rfl 48 (ivs .u16 zr16) (Blk.newAt rfl rfl) (by rw [ivs_size, HM1.out]; exact size48) (by rw [ivs_size, ivs_size, HM1.out]; rfl) ivs_one ?_; generalize hw8 : World.setRow _ _ _ = w8; have G8m : Hid (Blk w8 w7.heap.size 48 (ivs .u16 M)) := Lib.hid (by rw [← hw8]; exact (Blk.newAt rfl rfl).row _); have G8 : Hid (Blk w8 w6.heap.size 45 (ivs .i32 [X, Y])) := Lib.hid (by rw [← hw8]; exact (G7.out.alloc _).rowFar (by have := G7.out.lt; omega) _); have B8r : Hid (Below wr.heap.size wr w8) := Lib.hid (by rw [← hw8]; exact below_setRow (B7r.out.alloc B7r.out.size _) (g := w7.heap.size) B7r.out.size _); clear hw8))
              have c8 := G8m.out.getAtG (i := v) (by rw [HM1.out]; exact hv16)
              have f8 := G8m.out.frozen v
              have hvI : (v : Int) < 16 := by omega
              have hv0 : (0 : Int) ≤ v := by omega
              have huI : (u : Int) < 16 := by omega
              have hu0 : (0 : Int) ≤ u := by omega
              obtain ⟨m8, hm8⟩ : ∃ m8, m8 = M.getD v 0 := ⟨_, rfl⟩
              rw [← hm8] at c8
              have hp16 := pow_16 hu16
              have hwp : IntKind.u16.wrap (2 ^ u) = 2 ^ u := by rw [IntKind.wrap_u16]; omega
              have hso : setNot M v u = M.set v (notF m8 (2 ^ u)) := by rw [setNot, hm8]
              have g9 : Blk (w8.setCell ⟨w7.heap.size, v, none⟩ (.int .u16 (notF m8 (2 ^ u)))).drew w7.heap.size 48 (ivs .u16 (setNot M v u)) := by rw [hso]; exact (G8m.out.setI v _).drew
              have G9m := Lib.hid g9
              have G9 : Hid (Blk (w8.setCell ⟨w7.heap.size, v, none⟩ (.int .u16 (notF m8 (2 ^ u)))).drew w6.heap.size 45 (ivs .i32 [X, Y])) := Lib.hid ((G8.out.far (p := ⟨w7.heap.size, v, none⟩) (show w6.heap.size ≠ w7.heap.size by have := G7.out.lt; omega) _).drew)
              have B9r : Hid (Below wr.heap.size wr (w8.setCell ⟨w7.heap.size, v, none⟩ (.int .u16 (notF m8 (2 ^ u)))).drew) := Lib.hid (below_drew (B8r.out.setCell (p := ⟨w7.heap.size, v, none⟩) (show wr.heap.size ≤ w7.heap.size by have := B7r.out.size; omega) _))
              have HSL : Hid ((setNot M v u).length = 16) := Lib.hid (setNot_length HM1.out v u)
              have HPP2 := Lib.hid (fun W h => HPP.out (setNot M v u) W h)
              clear hm8 hso g9 hp16 HPP HM2
              generalize setNot M v u = S at *
              go_region
              have hob : notF m8 (2 ^ u) = bits .andNot .u16 m8 (2 ^ u) := rfl
              rw [← hob]
              generalize (w8.setCell ⟨w7.heap.size, v, none⟩ (.int .u16 (notF m8 (2 ^ u)))).drew = w9 at *
              have hmu : (Instr.mapUpdate 54 (.map (some g1)) (.agg (ivs .i32 [X, Y])) (.agg (ivs .u16 S))).run Tryd.prog w9 = .ok () (ChangeMaps.setBlock w9 g1 (.map (ents (putB lo [X, Y] S) 0).toArray (putB lo [X, Y] S).length)) := HPP2.out w9 ((B9r.out.block _ (heap_lt HG.out)).trans HG.out)
              go_wp2_with (first
                | refine wpList_load_row rfl _ _ rfl w6.heap.size rfl 45 (ivs .i32 [X, Y]) (0, 0) _ G9.out Tryd.underlying45 rfl (by exact size45) ?_
                | refine wpList_load_row rfl _ _ rfl w7.heap.size rfl 48 (ivs .u16 S) (0, 0) _ G9m.out Tryd.underlying48 rfl (by rw [ivs_size, HSL.out]; exact size48) ?_)
              have hd := HD.out
              refine ⟨⟨k + 1, by omega, by go_num, putB lo [X, Y] S, HE2, Lib.hid ((setBlock_far _ _ _ _ hd.1).trans (heap_below B9r.out N1'.out)), Lib.hid (setBlock_at _ _ _ (by have h1 := heap_lt HG.out; have h2 := B9r.out.size; omega)), Lib.hid ((setBlock_far _ _ _ _ hd.2.1).trans ((B9r.out.block g HGW2.out).trans MG'.out)), Lib.hid (below_setBlock (NB2.out.trans (B9r.out.mono NB2.out.size)) hd.2.2.1 _)⟩, by simp [intOf]; omega⟩
      · obtain rfl : k = (specC l).length := by omega
        have hH := edgeI_all HV.out.pic HE.out
        obtain ⟨m, hm1, hm2⟩ := sorted_exists (solid lo)
        obtain ⟨hm3, hm4⟩ := pic_sorted HE.out.tab hm1 hm2
        have hmh : ∀ U V, hasB m U V = edgeB (hasB l) U V := fun U V => by
          rw [← hH, hasB, hasB, hm4]
        have hpo : picOf (maskAt lo) = picHas (edgeB (hasB l)) := by
          rw [picHas_eq hm3 hmh]
          exact picOf_has hm3 hmh HE.out.tab.bls HE.out.tab.m16 hH
        have hfew : (picHas (edgeB (hasB l))).length ≤ 64 := by
          rw [picHas_eq hm3 hmh]
          refine Nat.le_trans (pic_sub_length hm3 HV.out.pic fun U V h => ?_) HLN.out
          rw [hmh, edgeB, Bool.and_eq_true] at h
          exact h.1
        have hcs : (specC l).length ≤ 100000 := by omega
        have HP := Lib.hid (pictureOf_any g1 lo HE.out.tab (by have := HE.out.few; have := HLN.out; omega) wr M2.out (heap_lt M2.out))
        rw [hpo, picR, picK, if_pos hfew, if_pos hfew] at HP
        clear hpo hfew hmh hm4 hm3 hm2 hm1 hH HE
        go_wp2_with (go_at_call 31; refine HP.out.mono ?_; rintro e w9 ⟨A9, c9, rfl, o9, b9⟩; have HO9 := Lib.hid o9; have HB9 := Lib.hid (HB.out.trans (b9.mono HB.out.size)); clear o9 b9)
        go_ret2
        exact ⟨A9, c9, rfl, HO9.out.less HB.out.size, HB9.out⟩
end Go.Proofs.YthicgmdkipgkaaaDoor
