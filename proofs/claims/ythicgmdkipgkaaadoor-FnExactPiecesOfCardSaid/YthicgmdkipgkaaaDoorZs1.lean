/- Ei, Ej, El, Tk, Tl in one text. -/
import Derived.Test.YthicgmdkipgkaaaDoorRows
import Derived.Test.YthicgmdkipgkaaaDoorTw
import Derived.Test.YthicgmdkipgkaaaDoorPw
import Derived.Test.YthicgmdkipgkaaaDoorCo
import Derived.Test.YthicgmdkipgkaaaDoorEs
import Derived.Lib.LaidTab
import Derived.Test.YthicgmdkipgkaaaDoorMk
import Derived.StillTailTactics
namespace Go.Proofs.YthicgmdkipgkaaaDoor
open Go.ChangeShapes Go.WideShapes Go.ChangeAt Go.RowKit
theorem steps_any (cn : Bool) (w : World) : Calls Tryd.prog 28 #[.bool cn] w fun e w' => e = .returned (.slice (some ⟨0, 0, none⟩) (stepN cn) 8) ∧ w = w' := by
  cases cn
  all_goals
    go_enter Tryd.func28, Tryd.ntmps28
    go_wp2
    go_ret
    exact ⟨rfl, rfl⟩
/-- the steps lie where the program's start has laid them -/
def Laid8 (w : World) : Prop := w.rangeAt 0 0 (pvs stepsL)
theorem Laid8.pos {w : World} (h : Laid8 w) : 0 < w.heap.size := by
  have h1 : w.cell? ⟨0, 0, none⟩ = some (.int .i32 1) := h 0 _ rfl
  rcases Nat.lt_or_ge 0 w.heap.size with h2 | h2
  · exact h2
  · simp [World.cell?, Array.getElem?_eq_none h2] at h1
theorem Laid8.below {w w' : World} (h : Laid8 w) (hb : Below w.heap.size w w') : Laid8 w' := range_below h hb h.pos
theorem Laid8.at_ {w : World} (h : Laid8 w) {j : Nat} (hj : j < 8) : w.rangeAt 0 (j * 2) [.int .i32 (stepX j), .int .i32 (stepY j)] := by
  have h2 : w.rangeAt 0 (0 + j * 2) (((pvs stepsL).drop (j * 2)).take 2) := Rd.rangeAt (i := j * 2) (s := 2) h
  rw [pvs, ← List.map_drop, ← List.map_take, flat_row steps_rows hj, step_at hj, Nat.zero_add] at h2
  exact h2
theorem pvs_row2 {l : List (List Int)} (h : Rows_ 2 l) {k : Nat} (hk : k < l.length) {w : World} {B b o n : Nat} (hR : Rd w B 2 (some ⟨b, o, none⟩) n (pvs l)) (hn : n = l.length) : w.rangeAt b (o + k * 2) ((l[k]).map (.int .i32)) := by
  obtain ⟨b', o', he, hb, hc⟩ := hR.at_ (by omega)
  cases he
  have h2 := Rd.rangeAt (i := k * 2) (s := 2) hc
  rw [pvs, ← List.map_drop, ← List.map_take, flat_row h hk] at h2
  exact h2
end Go.Proofs.YthicgmdkipgkaaaDoor
namespace Go.Proofs.YthicgmdkipgkaaaDoor
open Go.ChangeShapes Go.WideShapes Go.ChangeAt Go.RowKit
set_option maxRecDepth 20000 in
set_option maxHeartbeats 6400000 in
theorem iEdgeOf_any (A : Option Addr) (n c : Nat) (l : List Bl) (hl : l.length = n) (hrow : Bls l) (h16 : ∀ b ∈ l, is16 b.2) (h32 : ∀ b ∈ l, ∀ x ∈ b.1, -2147483648 ≤ x ∧ x ≤ 2147483647) (hn : n ≤ 1048576) (w : World) (hst : Laid8 w) (hR : Rd w w.heap.size 18 A n (bcs l)) :
    Calls Tryd.prog 9 #[.slice A n c] w (GivesToldB (edgL l) (edgK l) w) := by
  have ho := fun W h => iValidPicture_any A n c l hl hrow h16 h32 hn W h
  have hv := fun h => vpic_of hrow h16 h
  have hm := fun (h : vpB l = true) W hR => masksOf_any A n c l hl hrow (apart_of_rising (rising_of_vpB h)) hn W hR
  rw [edgL, edgK]
  cases hok : vpB l
  · rw [hok] at ho
    clear hm hv hok hrow h16 h32 hl hst
    go_enter Tryd.func9, Tryd.ntmps9
    go_wp2_with (go_at_call 25; refine (ho _ (hR.more (by first | exact Nat.le_refl _ | omega))).mono ?_; rintro e w1 ⟨rfl, b1⟩)
    go_ret2
    exact GivesToldB.nil b1
  · rw [hok] at ho
    have hV := hv hok
    have HV := Lib.hid hV
    have HMO := Lib.hid (hm hok)
    have HCS := Lib.hid (fun W h => cellsOf_any A n c l hl hV W h)
    have HHAS := Lib.hid (fun g X Y hx hy cc W h hg => has_any g l hV.pic.bls hV.pic.m16 X Y hx hy cc W h hg)
    have HO := Lib.hid ho
    have HR := Lib.hid hR
    have HST := Lib.hid hst
    have hcnt := hV.count
    clear ho hv hm hok hrow h16 h32 hl hV hR hst
    simp only [if_true]
    go_enter Tryd.func9, Tryd.ntmps9
    go_wp2_with (first
      | (go_at_call 25; refine (HO.out _ HR.out).mono ?_; rintro e w1 ⟨rfl, b1⟩; have BC := Lib.hid b1; clear b1)
      | (go_at_call 26; refine (HMO.out _ ((HR.out.below BC.out (Nat.le_refl _)).more BC.out.size)).mono ?_; rintro e w2 ⟨g1, rfl, k1, k2, k3, b2⟩; have K := Lib.hid (And.intro k1 k3); have BM := Lib.hid b2; have BC := Lib.hid (BC.out.trans (b2.mono BC.out.size)); clear b2 k1 k2 k3)
      | (go_at_call 27; refine (HCS.out _ ((HR.out.below BC.out (Nat.le_refl _)).more BC.out.size)).mono ?_; rintro e w2 ⟨g, cc, rfl, hO2, b2⟩; have HCL := Lib.hid hO2.rd; have HGB := Lib.hid hO2.blk_; have BQ := Lib.hid b2; have BC := Lib.hid (BC.out.trans (b2.mono BC.out.size)); clear hO2 b2))
    rename_i B0 wa ga Ka BMa BCa wb BCb KK aa
    have hga : ga < wa.heap.size := heap_lt Ka.out.2
    have hgb : g1 < wb.heap.size := heap_lt K.out.2
    have hdist : ga ≠ g1 ∧ g ≠ g1 ∧ w.heap.size ≤ g1 ∧ g1 ≠ 0 := by
      have h1 := K.out.1
      have h2 := HGB.out.1
      have h3 := BCa.out.size
      have h4 := HST.out.pos
      omega
    have M1 : Hid (w2.heap[ga]? = some (.map (ents l 0).toArray l.length)) := Lib.hid (heap_below BQ.out (heap_below BM.out Ka.out.2))
    have M2 : Hid (w2.heap[g1]? = some (.map (ents l 0).toArray l.length)) := Lib.hid (heap_below BQ.out K.out.2)
    have HD := Lib.hid hdist
    have HGL : Hid (g < w2.heap.size) := Lib.hid HGB.out.2
    have HLN : Hid (l.length ≤ 64) := Lib.hid HV.out.few
    clear hga hgb hdist B0 BMa BCa BCb BM BQ K Ka HMO HCS HO HGB HR
    go_loopw [25] (fun i wr => ∃ k : Nat, k ≤ (specC l).length ∧ i = .int .i64 k ∧ ∃ lo, Hid (EdgeI l k lo) ∧ Hid (wr.heap[ga]? = some (.map (ents l 0).toArray l.length)) ∧ Hid (wr.heap[g1]? = some (.map (ents lo 0).toArray lo.length)) ∧ Hid (wr.heap[g]? = w2.heap[g]?) ∧ Hid (Below w.heap.size w wr)) (fun i _ => (specC l).length - (intOf i).toNat)
    case atStart => exact ⟨0, by omega, rfl, l, Lib.hid (edgeI_zero HV.out.pic), M1, M2, Lib.hid rfl, BC⟩
    case round =>
      clear M1 M2 BC
      obtain ⟨k, hk, rfl, lo, HE, M1, M2, MG, HB⟩ := hrel
      by_cases hlt : k < (specC l).length
      · have hkI : (k : Int) < (specC l).length := by omega
        have hk0 : (0 : Int) ≤ k := by omega
        obtain ⟨x, y, hxy⟩ : ∃ x y, (specC l)[k] = [x, y] := ⟨_, _, two_of ((specC_rows l).at_ hlt)⟩
        have hmem : hasB l x y = true := ((spec_mem HV.out.pic.apart HV.out.pic.bls [x, y]).1 (by rw [← hxy]; exact List.getElem_mem hlt)).2
        obtain ⟨⟨hx2, hx3⟩, ⟨hy2, hy3⟩⟩ := cellB_in (HV.out.cells hmem)
        have hrg := pvs_row2 (specC_rows l) hlt HCL.out rfl
        rw [hxy] at hrg
        rw [Nat.zero_add] at hrg
        have hrg' : wr.rangeAt g (k * 2) [.int .i32 x, .int .i32 y] := fun j v hv => (World.cell?_of_block (a := ⟨g, k * 2 + j, none⟩) MG.out).trans (hrg j v hv)
        have HRG := Lib.hid hrg'
        have HNO := Lib.hid (fun h => edgeI_no hlt HE.out hxy h)
        have HYES := Lib.hid (fun h => edgeI_yes hlt HE.out hxy h)
        have HALL : Hid (inTo (hasB l) x y 4 = insideB (hasB l) x y) := Lib.hid (inTo_all _ _ _)
        clear hrg hrg' hmem hxy
        go_wp2_with (first
          | fail
            | refine wpList_load_mid rfl _ _ rfl g (k * 2) (by rfl) [.int .i32 x, .int .i32 y] _ HRG.out Tryd.underlying42 rfl (by exact size42) ?_
            | (refine wpList_store_row rfl _ _ _ rfl wr.heap.size (ivs .i32 [x, y]) rfl rfl 42 #[.int .i32 0, .int .i32 0] (Blk.newAt rfl rfl) (by exact size42) rfl ivs_one ?_; generalize hw5 : World.setRow _ _ _ = w5; have G5 : Hid (Blk w5 wr.heap.size 42 (ivs .i32 [x, y])) := Lib.hid (by rw [← hw5]; exact (Blk.newAt rfl rfl).row _); have B5 : Hid (Below wr.heap.size wr w5) := Lib.hid (by rw [← hw5]; exact below_setRow ((Below.refl _ _).alloc (Nat.le_refl _) _) (g := wr.heap.size) (Nat.le_refl _) _); clear hw5)
          | (go_at_call 28; refine (steps_any false _).mono ?_; rintro e w6 ⟨rfl, rfl⟩))
        have N1 := Lib.hid (heap_below B5.out M1.out)
        have N2 := Lib.hid (heap_below B5.out M2.out)
        have NB := Lib.hid (HB.out.trans (B5.out.mono HB.out.size))
        have hgw : wr.heap.size < w5.heap.size := G5.out.lt
        have HGW := Lib.hid hgw
        clear hgw HRG
        obtain ⟨wo, rfl⟩ : ∃ wo : World, wo = wr := ⟨_, rfl⟩
        go_loopw [8, 31] (fun b i wr => ∃ j : Nat, j ≤ 4 ∧ i = .int .i64 j ∧ b = .bool (inTo (hasB l) x y j) ∧ Hid (Below w5.heap.size w5 wr)) (fun _ i _ => 4 - (intOf i).toNat)
        case atStart => exact ⟨0, by omega, rfl, rfl, Lib.hid (Below.refl _ _)⟩
        case round =>
          obtain ⟨j, hj, rfl, rfl, HB2⟩ := hrel
          have c0 : wr.cell? ⟨wo.heap.size, 0, none⟩ = some (.int .i32 x) := (G5.out.below HB2.out HGW.out).cellI (i := 0) (by simp)
          have c1 : wr.cell? ⟨wo.heap.size, 1, none⟩ = some (.int .i32 y) := (G5.out.below HB2.out HGW.out).cellI (i := 1) (by simp)
          by_cases hj4 : j < 4
          · have hjI : (j : Int) < 4 := by omega
            have hj0 : (0 : Int) ≤ j := by omega
            have hs := Lib.hid (((HST.out.below NB.out).below HB2.out).at_ (j := j) (by omega))
            obtain ⟨si1, si2, si3, si4⟩ := step_in j
            have hit : inTo (hasB l) x y (j + 1) = (inTo (hasB l) x y j && hasB l (x + stepX j) (y + stepY j)) := rfl
            have HIT := Lib.hid hit
            have N1' := Lib.hid (heap_below HB2.out N1.out)
            have BQ : Hid (Below wr.heap.size wr wr) := Lib.hid (Below.refl _ _)
            clear hit
            generalize stepX j = sx at *
            generalize stepY j = sy at *
            have hhas := fun W h => HHAS.out ga (x + sx) (y + sy) (by omega) (by omega) l.length W h (heap_lt h)
            have HHS := Lib.hid hhas
            have G5c := Lib.hid ((G5.out.below HB2.out HGW.out))
            have HGC : Hid (wo.heap.size < wr.heap.size) := Lib.hid (G5c.out.lt)
            clear hhas
            cases hin : inTo (hasB l) x y j
            · rw [hin] at HIT
              go_wp2_with (first
                | refine wpList_load_mid rfl _ _ rfl 0 (j * 2) (by rfl) [.int .i32 sx, .int .i32 sy] _ hs.out Tryd.underlying42 rfl (by exact size42) ?_
                | (refine wpList_store_row rfl _ _ _ rfl wr.heap.size (ivs .i32 [sx, sy]) rfl rfl 42 #[.int .i32 0, .int .i32 0] (Blk.newAt rfl rfl) (by exact size42) rfl ivs_one ?_; generalize hw6 : World.setRow _ _ _ = w6; have G6 : Hid (Blk w6 wr.heap.size 42 (ivs .i32 [sx, sy])) := Lib.hid (by rw [← hw6]; exact (Blk.newAt rfl rfl).row _); have B6 : Hid (Below wr.heap.size wr w6) := Lib.hid (by rw [← hw6]; exact below_setRow ((Below.refl _ _).alloc (Nat.le_refl _) _) (g := wr.heap.size) (Nat.le_refl _) _); clear hw6))
              exact ⟨⟨j + 1, by omega, by go_num, by rw [HIT.out]; rfl, Lib.hid (HB2.out.trans (B6.out.mono HB2.out.size))⟩, by simp [intOf]; omega⟩
            · rw [hin, Bool.true_and] at HIT
              go_wp2_with (first
                | refine wpList_load_mid rfl _ _ rfl 0 (j * 2) (by rfl) [.int .i32 sx, .int .i32 sy] _ hs.out Tryd.underlying42 rfl (by exact size42) ?_
                | (refine wpList_store_row rfl _ _ _ rfl wr.heap.size (ivs .i32 [sx, sy]) rfl rfl 42 #[.int .i32 0, .int .i32 0] (Blk.newAt rfl rfl) (by exact size42) rfl ivs_one ?_; generalize hw6 : World.setRow _ _ _ = w6; have G6 : Hid (Blk w6 wr.heap.size 42 (ivs .i32 [sx, sy])) := Lib.hid (by rw [← hw6]; exact (Blk.newAt rfl rfl).row _); have B6 : Hid (Below wr.heap.size wr w6) := Lib.hid (by rw [← hw6]; exact below_setRow ((Below.refl _ _).alloc (Nat.le_refl _) _) (g := wr.heap.size) (Nat.le_refl _) _); have s0 : w6.cell? ⟨wr.heap.size, 0, none⟩ = some (.int .i32 sx) := G6.out.cellI (i := 0) (by simp); have s1 : w6.cell? ⟨wr.heap.size, 1, none⟩ = some (.int .i32 sy) := G6.out.cellI (i := 1) (by simp); have p0 : w6.cell? ⟨wo.heap.size, 0, none⟩ = some (.int .i32 x) := (G5c.out.below B6.out HGC.out).cellI (i := 0) (by simp); have p1 : w6.cell? ⟨wo.heap.size, 1, none⟩ = some (.int .i32 y) := (G5c.out.below B6.out HGC.out).cellI (i := 1) (by simp); clear hw6)
                | (go_at_call 29; refine (HHS.out _ (heap_below B6.out N1'.out)).mono ?_; rintro e w7 ⟨rfl, b7⟩; have B7 := Lib.hid (B6.out.trans (b7.mono B6.out.size)); clear b7))
              exact ⟨⟨j + 1, by omega, by go_num, by rw [HIT.out], Lib.hid (HB2.out.trans (B7.out.mono HB2.out.size))⟩, by simp [intOf]; omega⟩
          · have hnI : ¬ ((j : Int) < 4) := by omega
            have hj4e : j = 4 := by omega
            have hin4 : inTo (hasB l) x y j = insideB (hasB l) x y := by rw [hj4e]; exact HALL.out
            rw [hin4]
            have hgwo : g < wo.heap.size := by
              rcases Nat.lt_or_ge g wo.heap.size with h | h
              · exact h
              · have h2 := MG.out
                rw [Array.getElem?_eq_none h, Array.getElem?_eq_getElem HGL.out] at h2
                cases h2
            have N1' := Lib.hid (heap_below HB2.out N1.out)
            have N2' := Lib.hid (heap_below HB2.out N2.out)
            have MG' : Hid (wr.heap[g]? = w2.heap[g]?) := Lib.hid ((HB2.out.block g (Nat.lt_trans hgwo HGW.out |> fun h => by have := B5.out.size; omega)).trans ((B5.out.block g hgwo).trans MG.out))
            have NB2 := Lib.hid (NB.out.trans (HB2.out.mono NB.out.size))
            have HGW2 : Hid (g < wr.heap.size) := Lib.hid (by have := B5.out.size; have := HB2.out.size; omega)
            clear hin4 hgwo hj4e hj HALL HHAS N1 N2 NB
            cases hin : insideB (hasB l) x y
            · have HE2 := Lib.hid (HNO.out hin)
              clear HYES HNO hin
              go_wp2
              exact ⟨⟨k + 1, by omega, by go_num, lo, HE2, N1', N2', MG', NB2⟩, by simp [intOf]; omega⟩
            · have HE2 := Lib.hid (HYES.out hin)
              clear HYES HNO hin
              obtain ⟨u, hu⟩ : ∃ u : Nat, (u : Int) = x % 16 := ⟨(x % 16).toNat, by omega⟩
              obtain ⟨v, hv⟩ : ∃ v : Nat, (v : Int) = y % 16 := ⟨(y % 16).toNat, by omega⟩
              have hba := fun W => blockAt_any x y (by omega) (by omega) W
              rw [← hu, ← hv] at hba
              have HT := HE.out.tab
              obtain ⟨hM1, hM2⟩ := HT.mask [x / 16, y / 16]
              have hstr : strike lo x y = putB lo [x / 16, y / 16] (setNot (maskAt lo [x / 16, y / 16]) v u) := by
                rw [strike, ← hu, ← hv]
                rfl
              rw [hstr] at HE2
              have hlkk := fun W h => run_lookupMask g1 lo HT.bls (x / 16) (y / 16) lo.length W h
              have hpp := fun M W h => run_putAny g1 lo HT.bls (x / 16) (y / 16) M W h
              have HBA := Lib.hid hba
              have HLK := Lib.hid hlkk
              have HPP := Lib.hid hpp
              have hu16 : u < 16 := by omega
              have hv16 : v < 16 := by omega
              clear hstr hba hlkk hpp HT HE
              generalize maskAt lo [x / 16, y / 16] = M at *
              have HM1 := Lib.hid hM1
              have HM2 := Lib.hid hM2
              obtain ⟨X, hX⟩ : ∃ X, X = x / 16 := ⟨_, rfl⟩
              obtain ⟨Y, hY⟩ : ∃ Y, Y = y / 16 := ⟨_, rfl⟩
              rw [← hX, ← hY] at HBA HLK HPP HE2
              clear hM1 hM2 hX hY hu hv
              have HG := N2'
              go_wp2_with (first
                | (go_at_call 30; refine (HBA.out _).mono ?_; rintro e w6 ⟨rfl, b6⟩; have B6r := Lib.hid b6; clear b6)
                | (refine wpList_store_row rfl _ _ _ rfl w6.heap.size (ivs .i32 [X, Y]) rfl rfl 45 #[.int .i32 0, .int .i32 0] (Blk.newAt rfl rfl) (by exact size45) rfl ivs_one ?_; generalize hw7 : World.setRow _ _ _ = w7; have G7 : Hid (Blk w7 w6.heap.size 45 (ivs .i32 [X, Y])) := Lib.hid (by rw [← hw7]; exact (Blk.newAt rfl rfl).row _); have B7r : Hid (Below wr.heap.size wr w7) := Lib.hid (by rw [← hw7]; exact below_setRow (B6r.out.alloc B6r.out.size _) (g := w6.heap.size) B6r.out.size _); have hlk : (Instr.lookup 54 (.map (some g1)) (.agg (ivs .i32 [X, Y])) false).run Tryd.prog w7 = .ok (.agg (ivs .u16 M)) w7 := HLK.out w7 ((B7r.out.block _ (heap_lt HG.out)).trans HG.out); clear hw7)
                | refine wpList_load_row rfl _ _ rfl w6.heap.size rfl 45 (ivs .i32 [X, Y]) (0, 0) _ G7.out Tryd.underlying45 rfl (by exact size45) ?_
                | (refine wpList_store_row rfl _ _ _ rfl w7.heap.size (ivs .u16 M) rfl rfl 48 (ivs .u16 zr16) (Blk.newAt rfl rfl) (by rw [ivs_size, HM1.out]; exact size48) (by rw [ivs_size, ivs_size, HM1.out]; rfl) ivs_one ?_; generalize hw8 : World.setRow _ _ _ = w8; have G8m : Hid (Blk w8 w7.heap.size 48 (ivs .u16 M)) := Lib.hid (by rw [← hw8]; exact (Blk.newAt rfl rfl).row _); have G8 : Hid (Blk w8 w6.heap.size 45 (ivs .i32 [X, Y])) := Lib.hid (by rw [← hw8]; exact (G7.out.alloc _).rowFar (by have := G7.out.lt; omega) _); have B8r : Hid (Below wr.heap.size wr w8) := Lib.hid (by rw [← hw8]; exact below_setRow (B7r.out.alloc B7r.out.size _) (g := w7.heap.size) B7r.out.size _); clear hw8))
              have c8 := G8m.out.getAtG (i := v) (by rw [HM1.out]; exact hv16)
              have f8 := G8m.out.frozen v
              have hvI : (v : Int) < 16 := by omega
              have hv0 : (0 : Int) ≤ v := by omega
              have huI : (u : Int) < 16 := by omega
              have hu0 : (0 : Int) ≤ u := by omega
              obtain ⟨m8, hm8⟩ : ∃ m8, m8 = M.getD v 0 := ⟨_, rfl⟩
              rw [← hm8] at c8
              have hp16 := pow_16 hu16
              have hwp : IntKind.u16.wrap (2 ^ u) = 2 ^ u := by rw [IntKind.wrap_u16]; omega
              have hso : setNot M v u = M.set v (notF m8 (2 ^ u)) := by rw [setNot, hm8]
              have g9 : Blk (w8.setCell ⟨w7.heap.size, v, none⟩ (.int .u16 (notF m8 (2 ^ u)))).drew w7.heap.size 48 (ivs .u16 (setNot M v u)) := by rw [hso]; exact (G8m.out.setI v _).drew
              have G9m := Lib.hid g9
              have G9 : Hid (Blk (w8.setCell ⟨w7.heap.size, v, none⟩ (.int .u16 (notF m8 (2 ^ u)))).drew w6.heap.size 45 (ivs .i32 [X, Y])) := Lib.hid ((G8.out.far (p := ⟨w7.heap.size, v, none⟩) (show w6.heap.size ≠ w7.heap.size by have := G7.out.lt; omega) _).drew)
              have B9r : Hid (Below wr.heap.size wr (w8.setCell ⟨w7.heap.size, v, none⟩ (.int .u16 (notF m8 (2 ^ u)))).drew) := Lib.hid (below_drew (B8r.out.setCell (p := ⟨w7.heap.size, v, none⟩) (show wr.heap.size ≤ w7.heap.size by have := B7r.out.size; omega) _))
              have HSL : Hid ((setNot M v u).length = 16) := Lib.hid (setNot_length HM1.out v u)
              have HPP2 := Lib.hid (fun W h => HPP.out (setNot M v u) W h)
              clear hm8 hso g9 hp16 HPP HM2
              generalize setNot M v u = S at *
              go_region
              have hob : notF m8 (2 ^ u) = bits .andNot .u16 m8 (2 ^ u) := rfl
              rw [← hob]
              generalize (w8.setCell ⟨w7.heap.size, v, none⟩ (.int .u16 (notF m8 (2 ^ u)))).drew = w9 at *
              have hmu : (Instr.mapUpdate 54 (.map (some g1)) (.agg (ivs .i32 [X, Y])) (.agg (ivs .u16 S))).run Tryd.prog w9 = .ok () (ChangeMaps.setBlock w9 g1 (.map (ents (putB lo [X, Y] S) 0).toArray (putB lo [X, Y] S).length)) := HPP2.out w9 ((B9r.out.block _ (heap_lt HG.out)).trans HG.out)
              go_wp2_with (first
                | refine wpList_load_row rfl _ _ rfl w6.heap.size rfl 45 (ivs .i32 [X, Y]) (0, 0) _ G9.out Tryd.underlying45 rfl (by exact size45) ?_
                | refine wpList_load_row rfl _ _ rfl w7.heap.size rfl 48 (ivs .u16 S) (0, 0) _ G9m.out Tryd.underlying48 rfl (by rw [ivs_size, HSL.out]; exact size48) ?_)
              have hd := HD.out
              refine ⟨⟨k + 1, by omega, by go_num, putB lo [X, Y] S, HE2, Lib.hid ((setBlock_far _ _ _ _ hd.1).trans (heap_below B9r.out N1'.out)), Lib.hid (setBlock_at _ _ _ (by have h1 := heap_lt HG.out; have h2 := B9r.out.size; omega)), Lib.hid ((setBlock_far _ _ _ _ hd.2.1).trans ((B9r.out.block g HGW2.out).trans MG'.out)), Lib.hid (below_setBlock (NB2.out.trans (B9r.out.mono NB2.out.size)) hd.2.2.1 _)⟩, by simp [intOf]; omega⟩
      · obtain rfl : k = (specC l).length := by omega
        have hH := edgeI_all HV.out.pic HE.out
        obtain ⟨m, hm1, hm2⟩ := sorted_exists (solid lo)
        obtain ⟨hm3, hm4⟩ := pic_sorted HE.out.tab hm1 hm2
        have hmh : ∀ U V, hasB m U V = edgeB (hasB l) U V := fun U V => by
          rw [← hH, hasB, hasB, hm4]
        have hpo : picOf (maskAt lo) = picHas (edgeB (hasB l)) := by
          rw [picHas_eq hm3 hmh]
          exact picOf_has hm3 hmh HE.out.tab.bls HE.out.tab.m16 hH
        have hfew : (picHas (edgeB (hasB l))).length ≤ 64 := by
          rw [picHas_eq hm3 hmh]
          refine Nat.le_trans (pic_sub_length hm3 HV.out.pic fun U V h => ?_) HLN.out
          rw [hmh, edgeB, Bool.and_eq_true] at h
          exact h.1
        have hcs : (specC l).length ≤ 100000 := by omega
        have HP := Lib.hid (pictureOf_any g1 lo HE.out.tab (by have := HE.out.few; have := HLN.out; omega) wr M2.out (heap_lt M2.out))
        rw [hpo, picR, picK, if_pos hfew, if_pos hfew] at HP
        clear hpo hfew hmh hm4 hm3 hm2 hm1 hH HE
        go_wp2_with (go_at_call 31; refine HP.out.mono ?_; rintro e w9 ⟨A9, c9, rfl, o9, b9⟩; have HO9 := Lib.hid o9; have HB9 := Lib.hid (HB.out.trans (b9.mono HB.out.size)); clear o9 b9)
        go_ret2
        exact ⟨A9, c9, rfl, HO9.out.less HB.out.size, HB9.out⟩
end Go.Proofs.YthicgmdkipgkaaaDoor
namespace Go.Proofs.YthicgmdkipgkaaaDoor
open Go.ChangeShapes Go.WideShapes Go.ChangeAt Go.RowKit
structure L8 (w : World) : Prop where
  at_ : Laid8 w
theorem L8.pos {w : World} (h : L8 w) : 0 < w.heap.size := h.at_.pos
theorem L8.below {w w' : World} (h : L8 w) (hb : Below w.heap.size w w') (_ : 0 ≤ 1) : L8 w' := ⟨h.at_.below hb⟩
theorem L8.grown {w w' : World} {row : Option Nat} (h : L8 w) (hg : w.grownBy w' row) (hr : ∀ g, row = some g → 1 ≤ g) : L8 w' :=
  ⟨range_below h.at_ ((Below.refl 1 w).grown hg h.pos hr) (Nat.lt_succ_self 0)⟩
theorem edgL_length {l : List Bl} (hrow : Bls l) (h16 : ∀ b ∈ l, is16 b.2) : (edgL l).length ≤ 64 := by
  rw [edgL]
  split
  · rename_i h
    have hv := vpic_of hrow h16 h
    rw [picHas]
    split
    · rename_i h2
      have hc := h2.choose_spec
      refine Nat.le_trans (pic_sub_length hc.1 hv.pic fun U V hx => ?_) hv.few
      rw [hc.2, edgeB, Bool.and_eq_true] at hx
      exact hx.1
    · exact Nat.zero_le _
  · exact Nat.zero_le _
/-- an array of pairs that reads as the rows holds them, cell for cell -/
theorem cells_of_rows {H : Type} {enc : TypeId × Value → H} {P : Program} {w : World} {base : Nat} {sp : Nat → Bool} {held : Bool} {fuel : Nat} {t e ee : TypeId} {n : Nat} {k : IntKind} {cs : List Value} {rows : List (List Int)} {p : List MemPlace}
    (ht : P.underlying t = some (.array n e)) (he : P.underlying e = some (.array 2 ee)) (hee : P.underlying ee = some (.int k)) (hce : P.cellsOf ee = 1) (hc2 : P.cellsOf e = 2) (_hrows : Rows_ 2 rows)
    (h : DataW.trod enc P w base sp held fuel t cs = some (.agg (rows.map (Go.Lib.tabData k)), p)) : rows.length = n ∧ ∀ i, (hi : i < n) → ∀ hi2 : i < rows.length, (cs.drop (i * 2)).take 2 = (rows[i]).map (Value.int k) := by
  cases fuel with
  | zero => simp [DataW.trod] at h
  | succ fuel =>
    simp only [DataW.trod, ht, hc2] at h
    split at h
    · rename_i hl
      obtain ⟨xs, hm, hx⟩ := Option.map_eq_some_iff.1 h
      have hxs : xs.map (·.1) = rows.map (Go.Lib.tabData k) := by
        have := congrArg Prod.fst hx
        simpa using this
      have hxl : xs.length = n := by simpa using Go.Lib.mapM_length hm
      have hzl : rows.length = n := by
        have := congrArg List.length hxs
        simp at this
        omega
      refine ⟨hzl, fun i hi hi2 => ?_⟩
      obtain ⟨b, hb, hf⟩ := Go.Lib.mapM_at hm i i (by simp [hi])
      have h2 : (xs.map (·.1))[i]? = some b.1 := by simp [hb]
      rw [hxs, List.getElem?_map, List.getElem?_eq_getElem hi2] at h2
      have h3 : b.1 = Go.Lib.tabData k rows[i] := by simpa using h2.symm
      obtain ⟨b1, b2⟩ := b
      cases h3
      exact Go.Lib.cells_of_tab he hee hce hc2 hf
    · cases h
theorem Laid8.of_cells {w : World} {cs : List Value} (hc : ∀ i, w.cell? ⟨0, i, none⟩ = cs[i]?) (h : ∀ i, (hi : i < 8) → (cs.drop (i * 2)).take 2 = (stepsL[i]'hi).map (Value.int .i32)) : Laid8 w := by
  intro j v hv
  have hj : j < 16 := by
    have := (List.getElem?_eq_some_iff.1 hv).1
    simpa [pvs, stepsL] using this
  have h2 := h (j / 2) (by omega)
  have h3 := flat_row steps_rows (i := j / 2) (show j / 2 < 8 by omega)
  have e : j = j / 2 * 2 + j % 2 := by omega
  have h4 : ((pvs stepsL).drop (j / 2 * 2)).take 2 = (cs.drop (j / 2 * 2)).take 2 := by
    rw [pvs, ← List.map_drop, ← List.map_take, h3, h2]
  have h5 := congrArg (fun l => l[j % 2]?) h4
  simp only [List.getElem?_take, List.getElem?_drop] at h5
  rw [if_pos (by omega), if_pos (by omega), ← e] at h5
  rw [show (⟨0, 0 + j, none⟩ : Addr) = ⟨0, j, none⟩ by rw [Nat.zero_add], hc, ← h5]
  exact hv
end Go.Proofs.YthicgmdkipgkaaaDoor
namespace Go.Proofs.YthicgmdkipgkaaaDoor
open Go.ChangeShapes Go.WideShapes Go.ChangeAt Go.RowKit
/-- what the taking holds: the table, the two variables that the closure captures, the list -/
structure TP (g bm bo : Nat) (lo : List Bl) (L : List (List Int)) (W : World) : Prop where
  map : W.heap[g]? = some (.map (ents lo 0).toArray lo.length)
  box : Blk W bm 54 #[.map (some g)]
  out : ∃ q c, Blk W bo 40 #[.slice (some ⟨q, 0, none⟩) L.length c] ∧ q ≠ bo ∧ W.ownsRow (bm + 1) 42 2 (.slice (some ⟨q, 0, none⟩) L.length c) L.length (pvs L)
theorem TP.lt {g bm bo : Nat} {lo : List Bl} {L : List (List Int)} {W : World} (h : TP g bm bo lo L W) : g < W.heap.size ∧ bm < W.heap.size ∧ bo < W.heap.size := by
  obtain ⟨q, c, h1, _⟩ := h.out
  exact ⟨heap_lt h.map, h.box.lt, h1.lt⟩
theorem TP.below {g bm bo : Nat} {lo : List Bl} {L : List (List Int)} {W W' : World} (h : TP g bm bo lo L W) (hb : Below W.heap.size W W') : TP g bm bo lo L W' := by
  obtain ⟨q, c, h1, h2, h3⟩ := h.out
  exact ⟨heap_below hb h.map, h.box.below hb h.box.lt, q, c, h1.below hb h1.lt, h2, own_below h3 hb (Nat.le_refl _)⟩
/-- a world in which below block B just block g may have changed -/
structure Fr (B g : Nat) (w w' : World) : Prop where
  os : w'.os = w.os
  tape : w'.tape = w.tape
  output : w'.output = w.output
  size : w.heap.size ≤ w'.heap.size
  block : ∀ k, k < B → k ≠ g → w'.heap[k]? = w.heap[k]?
theorem Fr.of {B g : Nat} {w w' : World} (h : Below B w w') : Fr B g w w' := ⟨h.os, h.tape, h.output, h.size, fun k hk _ => h.block k hk⟩
theorem below_less {B B' : Nat} {w w' : World} (h : Below B w w') (hB : B' ≤ B) : Below B' w w' := ⟨h.os, h.tape, h.output, h.size, fun k hk => h.block k (Nat.lt_of_lt_of_le hk hB)⟩
theorem Fr.trans {B g : Nat} {w w' w'' : World} (h : Fr B g w w') (h2 : Fr B g w' w'') : Fr B g w w'' :=
  ⟨h2.os.trans h.os, h2.tape.trans h.tape, h2.output.trans h.output, Nat.le_trans h.size h2.size, fun k hk hg => (h2.block k hk hg).trans (h.block k hk hg)⟩
theorem Fr.set {B g : Nat} {w w' : World} (h : Below B w w') (o : Obj) : Fr B g w (ChangeMaps.setBlock w' g o) :=
  ⟨h.os, h.tape, h.output, by simpa [ChangeMaps.setBlock] using h.size, fun k hk hg => (setBlock_far w' g k o hg).trans (h.block k hk)⟩
theorem row_slice {W : World} {base : Nat} {e : TypeId} {size n : Nat} {v : Value} {xs : List Value} (h : W.ownsRow base e size v n xs) (hn : v = .slice none 0 0 → False) : ∃ q c, v = .slice (some ⟨q, 0, none⟩) n c := by
  rcases h.2 with ⟨h1, _⟩ | ⟨q, c, _, h1, _⟩
  · exact (hn h1).elim
  · exact ⟨q, c, h1⟩
set_option maxRecDepth 20000 in
set_option maxHeartbeats 6400000 in
theorem take_any (g bm bo : Nat) (hgm : g < bm) (hmo : bm < bo) (lo : List Bl) (L : List (List Int)) (ht : Tab lo) (hL : L.length ≤ 1048576) (x y : Int) (hx : -1000002 ≤ x ∧ x ≤ 1000002) (hy : -1000002 ≤ y ∧ y ≤ 1000002) (w : World) (h : TP g bm bo lo L w) :
    Calls Tryd.prog 63 #[.agg (ivs .i32 [x, y]), .pointer (some ⟨bm, 0, none⟩), .pointer (some ⟨bo, 0, none⟩)] w fun e w' => e = .returned (.tuple #[]) ∧ Fr bm g w w' ∧ (hasB lo x y = false → TP g bm bo lo L w') ∧ (hasB lo x y = true → TP g bm bo (strike lo x y) (L ++ [[x, y]]) w') := by
  obtain ⟨i0, hi, hz0, hz1, hzb⟩ := info_parts Pair_info
  have hlt := h.lt
  have HLT := Lib.hid hlt
  have HHAS := Lib.hid (fun W h => has_any g lo ht.bls ht.m16 x y hx hy lo.length W h (heap_lt h))
  have H := Lib.hid h
  have hx2 := hx.1
  have hx3 := hx.2
  have hy2 := hy.1
  have hy3 := hy.2
  have W1 : Hid (∀ W : World, W = (w.alloc (.cells (ivs .i32 [x, y]) 42)).drew → TP g bm bo lo L W ∧ Below w.heap.size w W ∧ Blk W w.heap.size 42 (ivs .i32 [x, y])) := Lib.hid fun W e => by
    have hb : Below w.heap.size w W := by rw [e]; exact below_drew ((Below.refl _ _).alloc (Nat.le_refl _) _)
    exact ⟨h.below hb, hb, by rw [e]; exact (Blk.new w _ _).drew⟩
  have c0 : (w.alloc (.cells (ivs .i32 [x, y]) 42)).cell? ⟨w.heap.size, 0, none⟩ = some (.int .i32 x) := (Blk.new w _ _).cellI (i := 0) (by simp)
  have c1 : (w.alloc (.cells (ivs .i32 [x, y]) 42)).cell? ⟨w.heap.size, 1, none⟩ = some (.int .i32 y) := (Blk.new w _ _).cellI (i := 1) (by simp)
  clear h hlt hx hy
  cases hxy : hasB lo x y
  · rw [hxy] at HHAS
    clear hxy
    go_enter Tryd.func63, Tryd.ntmps63
    go_wp2
    go_region
    obtain ⟨t1, b1, a1⟩ := W1.out _ rfl
    clear W1 c0 c1
    generalize (w.alloc (.cells (ivs .i32 [x, y]) 42)).drew = w1 at *
    have m1 : w1.cell? ⟨bm, 0, none⟩ = some (.map (some g)) := t1.box.cell 0
    have T1 := Lib.hid t1
    have B1 := Lib.hid b1
    clear t1 b1 a1
    go_wp2_with (go_at_call 29; refine (HHAS.out _ T1.out.map).mono ?_; rintro e w2 ⟨rfl, b2⟩; have T2 := Lib.hid (T1.out.below b2); have B2 := Lib.hid (B1.out.trans (b2.mono B1.out.size)); clear b2)
    (try simp only [Exit.inBlock, Exit.then])
    refine bodyPost_ret (results_none rfl _ _ _) rfl ?_
    exact ⟨rfl, Fr.of (below_less B2.out (by have := HLT.out; omega)), fun _ => T2.out, fun h => by cases h⟩
  · rw [hxy] at HHAS
    obtain ⟨u, hu⟩ : ∃ u : Nat, (u : Int) = x % 16 := ⟨(x % 16).toNat, by omega⟩
    obtain ⟨v, hv⟩ : ∃ v : Nat, (v : Int) = y % 16 := ⟨(y % 16).toNat, by omega⟩
    have hba := fun W => blockAt_any x y (by omega) (by omega) W
    rw [← hu, ← hv] at hba
    obtain ⟨hM1, hM2⟩ := ht.mask [x / 16, y / 16]
    have hstr : strike lo x y = putB lo [x / 16, y / 16] (setNot (maskAt lo [x / 16, y / 16]) v u) := by
      rw [strike, ← hu, ← hv]
      rfl
    rw [hstr]
    have hlkk := fun W h => run_lookupMask g lo ht.bls (x / 16) (y / 16) lo.length W h
    have hpp := fun M W h => run_putAny g lo ht.bls (x / 16) (y / 16) M W h
    have HBA := Lib.hid hba
    have HLK := Lib.hid hlkk
    have HPP := Lib.hid hpp
    have hu16 : u < 16 := by omega
    have hv16 : v < 16 := by omega
    clear hstr hba hlkk hpp ht hxy
    generalize maskAt lo [x / 16, y / 16] = M at *
    have HM1 := Lib.hid hM1
    obtain ⟨X, hX⟩ : ∃ X, X = x / 16 := ⟨_, rfl⟩
    obtain ⟨Y, hY⟩ : ∃ Y, Y = y / 16 := ⟨_, rfl⟩
    rw [← hX, ← hY] at HBA HLK HPP ⊢
    clear hM1 hM2 hX hY hu hv
    go_enter Tryd.func63, Tryd.ntmps63
    go_wp2
    go_region
    obtain ⟨t1, b1, a1⟩ := W1.out _ rfl
    clear W1 c0 c1
    generalize (w.alloc (.cells (ivs .i32 [x, y]) 42)).drew = w1 at *
    have m1 : w1.cell? ⟨bm, 0, none⟩ = some (.map (some g)) := t1.box.cell 0
    have T1 := Lib.hid t1
    have B1 := Lib.hid b1
    have A1 := Lib.hid a1
    clear t1 b1 a1
    go_wp2_with (first
      | (go_at_call 29; refine (HHAS.out _ T1.out.map).mono ?_; rintro e w2 ⟨rfl, b2⟩; have T2 := Lib.hid (T1.out.below b2); have A2 := Lib.hid (A1.out.below b2 A1.out.lt); have B2 := Lib.hid (B1.out.trans (b2.mono B1.out.size)); clear b2)
      | (go_at_call 30; refine (HBA.out _).mono ?_; rintro e w6 ⟨rfl, b6⟩; have T6 := Lib.hid (T2.out.below b6); have A6 := Lib.hid (A2.out.below b6 A2.out.lt); have B6 := Lib.hid (B2.out.trans (b6.mono B2.out.size)); clear b6)
      | (refine wpList_store_row rfl _ _ _ rfl w6.heap.size (ivs .i32 [X, Y]) rfl rfl 45 #[.int .i32 0, .int .i32 0] (Blk.newAt rfl rfl) (by exact size45) rfl ivs_one ?_; generalize hw7 : World.setRow _ _ _ = w7; have G7 : Hid (Blk w7 w6.heap.size 45 (ivs .i32 [X, Y])) := Lib.hid (by rw [← hw7]; exact (Blk.newAt rfl rfl).row _); have b7 : Below w6.heap.size w6 w7 := (by rw [← hw7]; exact below_setRow ((Below.refl _ _).alloc (Nat.le_refl _) _) (g := w6.heap.size) (Nat.le_refl _) _); have T7 := Lib.hid (T6.out.below b7); have m7 : w7.cell? ⟨bm, 0, none⟩ = some (.map (some g)) := T7.out.box.cell 0; have A7 := Lib.hid (A6.out.below b7 A6.out.lt); have B7 := Lib.hid (B6.out.trans (b7.mono B6.out.size)); have hlk : (Instr.lookup 54 (.map (some g)) (.agg (ivs .i32 [X, Y])) false).run Tryd.prog w7 = .ok (.agg (ivs .u16 M)) w7 := HLK.out w7 T7.out.map; clear hw7 b7)
      | refine wpList_load_row rfl _ _ rfl w6.heap.size rfl 45 (ivs .i32 [X, Y]) (0, 0) _ G7.out Tryd.underlying45 rfl (by exact size45) ?_
      | (refine wpList_store_row rfl _ _ _ rfl w7.heap.size (ivs .u16 M) rfl rfl 48 (ivs .u16 zr16) (Blk.newAt rfl rfl) (by rw [ivs_size, HM1.out]; exact size48) (by rw [ivs_size, ivs_size, HM1.out]; rfl) ivs_one ?_; generalize hw8 : World.setRow _ _ _ = w8; have G8m : Hid (Blk w8 w7.heap.size 48 (ivs .u16 M)) := Lib.hid (by rw [← hw8]; exact (Blk.newAt rfl rfl).row _); have b8 : Below w7.heap.size w7 w8 := (by rw [← hw8]; exact below_setRow ((Below.refl _ _).alloc (Nat.le_refl _) _) (g := w7.heap.size) (Nat.le_refl _) _); have B8 : Hid (True ∧ Below w7.heap.size w7 w8) := Lib.hid ⟨trivial, b8⟩; clear hw8 b8))
    have c8 := G8m.out.getAtG (i := v) (by rw [HM1.out]; exact hv16)
    have f8 := G8m.out.frozen v
    have hvI : (v : Int) < 16 := by omega
    have hv0 : (0 : Int) ≤ v := by omega
    have huI : (u : Int) < 16 := by omega
    have hu0 : (0 : Int) ≤ u := by omega
    obtain ⟨m8, hm8⟩ : ∃ m8, m8 = M.getD v 0 := ⟨_, rfl⟩
    rw [← hm8] at c8
    have hp16 := pow_16 hu16
    have hwp : IntKind.u16.wrap (2 ^ u) = 2 ^ u := by rw [IntKind.wrap_u16]; omega
    have hso : setNot M v u = M.set v (notF m8 (2 ^ u)) := by rw [setNot, hm8]
    have W9 : Hid (∀ W : World, W = (w8.setCell ⟨w7.heap.size, v, none⟩ (.int .u16 (notF m8 (2 ^ u)))).drew → Below w7.heap.size w7 W ∧ Blk W w7.heap.size 48 (ivs .u16 (setNot M v u))) := Lib.hid fun W e => by
      rw [e]
      refine ⟨below_drew (B8.out.2.setCell (p := ⟨w7.heap.size, v, none⟩) (Nat.le_refl _) _), ?_⟩
      rw [hso]
      exact (G8m.out.setI v _).drew
    have HSL : Hid ((setNot M v u).length = 16) := Lib.hid (setNot_length HM1.out v u)
    have HPP2 := Lib.hid (fun W h => HPP.out (setNot M v u) W h)
    clear hm8 hso hp16 HPP
    obtain ⟨S, hS⟩ : ∃ S, S = setNot M v u := ⟨_, rfl⟩
    rw [← hS] at HSL HPP2 W9
    have HS := Lib.hid hS
    clear hS
    go_region
    have hob : notF m8 (2 ^ u) = bits .andNot .u16 m8 (2 ^ u) := rfl
    rw [← hob]
    obtain ⟨b9, G9m⟩ := W9.out _ rfl
    clear W9 c8 f8
    generalize (w8.setCell ⟨w7.heap.size, v, none⟩ (.int .u16 (notF m8 (2 ^ u)))).drew = w9 at *
    have T9 := Lib.hid (T7.out.below b9)
    have A9 := Lib.hid (A7.out.below b9 A7.out.lt)
    have B9 := Lib.hid (B7.out.trans (b9.mono B7.out.size))
    have G9 := Lib.hid (G7.out.below b9 G7.out.lt)
    have H9m := Lib.hid G9m
    have m9 : w9.cell? ⟨bm, 0, none⟩ = some (.map (some g)) := T9.out.box.cell 0
    have hmu : (Instr.mapUpdate 54 (.map (some g)) (.agg (ivs .i32 [X, Y])) (.agg (ivs .u16 S))).run Tryd.prog w9 = .ok () (ChangeMaps.setBlock w9 g (.map (ents (putB lo [X, Y] S) 0).toArray (putB lo [X, Y] S).length)) := HPP2.out w9 T9.out.map
    obtain ⟨q, c, k1, k2, k3⟩ := T9.out.out
    obtain ⟨w10, hw10⟩ : ∃ w10, w10 = ChangeMaps.setBlock w9 g (.map (ents (putB lo [X, Y] S) 0).toArray (putB lo [X, Y] S).length) := ⟨_, rfl⟩
    rw [← hw10] at hmu
    have hlt9 := T9.out.lt
    have hz9 := B9.out.size
    have hlw := HLT.out
    have hfar : ∀ k, k ≠ g → w10.heap[k]? = w9.heap[k]? := fun k hk => by rw [hw10]; exact setBlock_far _ _ _ _ hk
    have kq : bm + 1 ≤ q := by
      rcases k3.2 with ⟨h, _⟩ | ⟨q', _, _, h, h2, _⟩
      · cases h
      · cases h; exact h2
    have F10 : Hid (Fr w.heap.size g w w10 ∧ w10.heap[g]? = some (.map (ents (putB lo [X, Y] S) 0).toArray (putB lo [X, Y] S).length) ∧ Blk w10 bm 54 #[.map (some g)] ∧ Blk w10 bo 40 #[.slice (some ⟨q, 0, none⟩) L.length c] ∧ w10.ownsRow (bm + 1) 42 2 (.slice (some ⟨q, 0, none⟩) L.length c) L.length (pvs L) ∧ Blk w10 w.heap.size 42 (ivs .i32 [x, y]) ∧ w10.heap.size = w9.heap.size) := Lib.hid ⟨by rw [hw10]; exact Fr.set B9.out _, by rw [hw10]; exact setBlock_at _ _ _ hlt9.1, (hfar bm (by omega)).trans T9.out.box, (hfar bo (by omega)).trans k1, ⟨k3.1, by
      rcases k3.2 with ⟨h, _⟩ | ⟨q', cp, cur, h, h2, h3, h4⟩
      · cases h
      · exact .inr ⟨q', cp, cur, h, h2, (hfar q' (by omega)).trans h3, h4⟩⟩, (hfar w.heap.size (by omega)).trans A9.out, by rw [hw10]; simp [ChangeMaps.setBlock]⟩
    have n10 : w10.cell? ⟨bo, 0, none⟩ = some (.slice (some ⟨q, 0, none⟩) L.length c) := F10.out.2.2.2.1.cell 0
    have HKQ : Hid (bm + 1 ≤ q ∧ q ≠ bo) := Lib.hid ⟨kq, k2⟩
    clear hw10 hfar k1 k2 k3 kq hlt9 hz9 hlw G9m b9
    go_wp2_with (first
      | refine wpList_load_row rfl _ _ rfl w6.heap.size rfl 45 (ivs .i32 [X, Y]) (0, 0) _ G9.out Tryd.underlying45 rfl (by exact size45) ?_
      | refine wpList_load_row rfl _ _ rfl w7.heap.size rfl 48 (ivs .u16 S) (0, 0) _ H9m.out Tryd.underlying48 rfl (by rw [ivs_size, HSL.out]; exact size48) ?_
      | refine wpList_load_row rfl _ _ rfl w.heap.size rfl 42 #[.int .i32 x, .int .i32 y] (0, 0) _ F10.out.2.2.2.2.2.1 Tryd.underlying42 rfl (by exact size42) ?_
      | (at_builtin; refine wpList_append_own _ rfl _ _ 40 rfl (bm + 1) 42 i0 _ 2 8 Tryd.underlying40 hi hz0 hz1 hzb rfl (by decide) (.slice (some ⟨q, 0, none⟩) L.length c) L.length _ rfl (F10.out.2.2.2.2.1.alloc _) ⟨w10.heap.size, 0, none⟩ 1 1 (pvs [[x, y]]) rfl rfl (pair_news w10 x y) pvs_one (by unfold maxLen; omega) (by omega) (by have := HLT.out; have := F10.out.1.size; rw [size_alloc]; omega) ?_; intro v' w11 hown' hgrow hnil; obtain ⟨q', c', rfl⟩ := row_slice hown' (fun e => by have := (hnil.1 e).2; omega); rw [← pvs_append] at hown'; have HOWN := Lib.hid hown'; have HGR := Lib.hid hgrow; have HNIL := Lib.hid hnil; have k11 : Blk w11 bo 40 #[.slice (some ⟨q, 0, none⟩) L.length c] := ((F10.out.2.2.2.1.alloc _).grown hgrow (fun e => by injection e with e; exact HKQ.out.2 e.symm)); have K11 := Lib.hid k11; have n11 : w11.cell? ⟨bo, 0, none⟩ = some (.slice (some ⟨q, 0, none⟩) L.length c) := k11.cell 0; have f11 := k11.frozen 0; clear hown' hgrow hnil k11))
    go_end0
    rw [← HS.out]
    have hk := HKQ.out
    have hF := F10.out
    have hl := HLT.out
    have hz := hF.1.size
    have hg11 := HGR.out
    have hbl : ∀ k, k < w10.heap.size → k ≠ q → w11.heap[k]? = w10.heap[k]? := fun k h1 h2 => by
      refine (hg11.block k (by rw [size_alloc]; omega) (fun e => by injection e with e; exact h2 e)).trans (Below.heap_alloc w10 _ k h1)
    have hz11 : w10.heap.size + 1 ≤ w11.heap.size := by have := hg11.size; rwa [size_alloc] at this
    have hq' : q' ≠ bo := by
      intro e
      subst e
      rcases HOWN.out.2 with ⟨h, _⟩ | ⟨q2, _, cur, h, _, h3, _⟩
      · cases h
      · cases h
        have h4 := K11.out
        unfold Blk at h4
        rw [h3] at h4
        injection h4 with h4
        injection h4 with _ h4
        cases h4
    have hsc : ∀ k, k ≠ bo → (w11.setCell ⟨bo, 0, none⟩ (.slice (some ⟨q', 0, none⟩) (L.length + 1) c')).heap[k]? = w11.heap[k]? := fun k hk => Below.heap_setCell w11 ⟨bo, 0, none⟩ _ k hk
    have hln : (L ++ [[x, y]]).length = L.length + 1 := by rw [List.length_append]; rfl
    refine ⟨rfl, ⟨hg11.os.trans hF.1.os, hg11.tape.trans hF.1.tape, hg11.output.trans hF.1.output, ?_, fun k h1 h2 => ?_⟩, (fun h => by cases h), fun _ => ⟨?_, ?_, q', c', ?_, hq', ?_⟩⟩
    · rw [World.size_setCell]
      omega
    · rw [hsc k (by omega), hbl k (by omega) (by omega)]
      exact hF.1.block k (by omega) h2
    · rw [hsc g (by omega), hbl g (by omega) (by omega)]
      exact hF.2.1
    · exact (hsc bm (by omega)).trans ((hbl bm (by omega) (by omega)).trans hF.2.2.1)
    · rw [hln]
      exact K11.out.set_ 0 _
    · rw [hln]
      have ho := HOWN.out
      refine ⟨ho.1, ?_⟩
      rcases ho.2 with ⟨h, _⟩ | ⟨q2, cp, cur, h, h2, h3, h4⟩
      · cases h
      · cases h
        exact .inr ⟨_, _, cur, rfl, h2, (hsc _ hq').trans h3, h4⟩
end Go.Proofs.YthicgmdkipgkaaaDoor
namespace Go.Proofs.YthicgmdkipgkaaaDoor
open Go.ChangeShapes Go.WideShapes Go.ChangeAt Go.RowKit
/-- the plain side of the taking -/
structure PT (lo : List Bl) (cn : Bool) (x y : Int) (L : List (List Int)) (i : Nat) (done : Int → Int → Prop) (lo' : List Bl) : Prop where
  part : Part (hasB lo) cn x y L i done
  tab : Tab lo'
  few : lo'.length ≤ lo.length + L.length
  rest : ∀ U V, hasB lo' U V = (hasB lo U V && !decide ([U, V] ∈ L))
theorem pt_none {lo : List Bl} (ht : Tab lo) {cn : Bool} {x y : Int} (h : hasB lo x y = false) : PT lo cn x y [] 0 (fun _ _ => False) lo :=
  ⟨Part.none h, ht, Nat.le_refl _, fun U V => by simp⟩
theorem pair_eq {U V x y : Int} : [U, V] = [x, y] ↔ U = x ∧ V = y := ⟨fun h => by injection h with h1 h2; injection h2 with h2; exact ⟨h1, h2⟩, fun ⟨h1, h2⟩ => by rw [h1, h2]⟩
theorem rest_add {lo lo' : List Bl} {L : List (List Int)} (ht : Tab lo') (hr : ∀ U V, hasB lo' U V = (hasB lo U V && !decide ([U, V] ∈ L))) (x y : Int) (U V : Int) : hasB (strike lo' x y) U V = (hasB lo U V && !decide ([U, V] ∈ L ++ [[x, y]])) := by
  rw [has_strike ht, hr, Bool.and_assoc, ← Bool.not_or]
  congr 2
  rw [Bool.eq_iff_iff, Bool.or_eq_true, decide_eq_true_iff, decide_eq_true_iff, Bool.and_eq_true, decide_eq_true_iff, decide_eq_true_iff, List.mem_append, List.mem_singleton, pair_eq]
theorem pt_one {lo : List Bl} (ht : Tab lo) {cn : Bool} {x y : Int} (h : hasB lo x y = true) : PT lo cn x y [[x, y]] 0 (fun _ _ => False) (strike lo x y) :=
  ⟨Part.one h, strike_tab ht x y, strike_length lo x y, fun U V => rest_add (L := []) ht (fun U V => by simp) x y U V⟩
section
variable {lo lo' : List Bl} {cn : Bool} {x y : Int} {L : List (List Int)} {i : Nat} {done : Int → Int → Prop}
theorem PT.same (h : PT lo cn x y L i done lo') (hi : i < L.length) {du dv : Int} (hn : hasB lo' ((L[i]).getD 0 0 + du) ((L[i]).getD 1 0 + dv) = false) : PT lo cn x y L i (fun a b => done a b ∨ (a = du ∧ b = dv)) lo' :=
  ⟨h.part.same fun _ _ hh => by
    rw [h.rest, hh, Bool.true_and, Bool.not_eq_false', decide_eq_true_iff] at hn
    exact hn, h.tab, h.few, h.rest⟩
theorem PT.add (h : PT lo cn x y L i done lo') (hi : i < L.length) {du dv : Int} (ha : adjB cn du dv = true) (hn : hasB lo' ((L[i]).getD 0 0 + du) ((L[i]).getD 1 0 + dv) = true) : PT lo cn x y (L ++ [[(L[i]).getD 0 0 + du, (L[i]).getD 1 0 + dv]]) i (fun a b => done a b ∨ (a = du ∧ b = dv)) (strike lo' ((L[i]).getD 0 0 + du) ((L[i]).getD 1 0 + dv)) := by
  have h2 := hn
  rw [h.rest, Bool.and_eq_true, Bool.not_eq_true', decide_eq_false_iff_not] at h2
  refine ⟨h.part.add hi ha h2.1 h2.2, strike_tab h.tab _ _, ?_, rest_add h.tab h.rest _ _⟩
  have := strike_length lo' ((L[i]).getD 0 0 + du) ((L[i]).getD 1 0 + dv)
  have := h.few
  rw [List.length_append, List.length_singleton]
  omega
theorem PT.next (h : PT lo cn x y L i done lo') (hd : ∀ a b, adjB cn a b = true → done a b) : PT lo cn x y L (i + 1) (fun _ _ => False) lo' := ⟨h.part.next hd, h.tab, h.few, h.rest⟩
theorem PT.weak {done' : Int → Int → Prop} (h : PT lo cn x y L i done lo') (hd : ∀ a b, done' a b → adjB cn a b = true → done a b) : PT lo cn x y L i done' lo' := ⟨h.part.weak hd, h.tab, h.few, h.rest⟩
end
/-- the steps before number j -/
def upto (j : Nat) (a b : Int) : Prop := ∃ k, k < j ∧ stepX k = a ∧ stepY k = b
theorem upto_succ (j : Nat) (a b : Int) : upto (j + 1) a b → upto j a b ∨ (a = stepX j ∧ b = stepY j) := by
  rintro ⟨k, hk, h1, h2⟩
  by_cases e : k = j
  · subst e
    exact .inr ⟨h1.symm, h2.symm⟩
  · exact .inl ⟨k, by omega, h1, h2⟩
theorem upto_all {cn : Bool} (a b : Int) (h : adjB cn a b = true) : upto (stepN cn) a b := by
  obtain ⟨j, hj, h1, h2⟩ := adj_step h
  exact ⟨j, hj, h1, h2⟩
theorem Laid8.fr {g : Nat} {w w' : World} {B : Nat} (h : Laid8 w) (hf : Fr B g w w') (hg : 0 < g) (hB : 0 < B) : Laid8 w' := fun j v hv =>
  (World.cell?_of_block (a := ⟨0, 0 + j, none⟩) (hf.block 0 hB (by omega))).trans (h j v hv)
theorem tp_start {g : Nat} {lo : List Bl} {w : World} (x y : Int) (hg : w.heap[g]? = some (.map (ents lo 0).toArray lo.length)) : ∀ w1, w1 = (((w.alloc (.cells #[.map (some g)] 54)).alloc (.cells (ivs .i32 [x, y]) 42)).alloc (.cells #[] 42)).alloc (.cells #[.slice (some ⟨w.heap.size + 1 + 1, 0, none⟩) 0 0] 40) →
    TP g w.heap.size (w.heap.size + 1 + 1 + 1) lo [] w1 ∧ Below w.heap.size w w1 ∧ Blk w1 (w.heap.size + 1) 42 (ivs .i32 [x, y]) := fun w1 e => by
  have hb : Below w.heap.size w w1 := by
    rw [e]
    exact ((((Below.refl _ _).alloc (Nat.le_refl _) _).alloc (by simp) _).alloc (by simp; omega) _).alloc (by simp; omega) _
  have h3 : Blk w1 (w.heap.size + 1 + 1) 42 #[] := by
    rw [e]
    exact (Blk.newAt (by simp) rfl).alloc _
  refine ⟨⟨heap_below hb hg, ?_, w.heap.size + 1 + 1, 0, ?_, by omega, rfl, .inr ⟨_, _, #[], rfl, by omega, h3, Nat.le_refl _, Nat.zero_le _, rfl, rfl⟩⟩, hb, ?_⟩
  · rw [e]
    exact (((Blk.newAt rfl rfl).alloc _).alloc _).alloc _
  · rw [e]
    exact Blk.newAt (by simp) rfl
  · rw [e]
    exact ((Blk.newAt (by simp) rfl).alloc _).alloc _
set_option maxRecDepth 20000 in
set_option maxHeartbeats 6400000 in
theorem takePiece_any (g : Nat) (lo : List Bl) (ht : Tab lo) (C : List (List Int)) (hC : ∀ u v, hasB lo u v = true → [u, v] ∈ C) (hN : C.length ≤ 1000000) (hin : ∀ u v, hasB lo u v = true → (-1000000 ≤ u ∧ u ≤ 1000000) ∧ (-1000000 ≤ v ∧ v ≤ 1000000)) (x y : Int) (hx : -1000000 ≤ x ∧ x ≤ 1000000) (hy : -1000000 ≤ y ∧ y ≤ 1000000) (cn : Bool) (w : World) (hst : Laid8 w) (hg0 : 0 < g) (hg : w.heap[g]? = some (.map (ents lo 0).toArray lo.length)) :
    Calls Tryd.prog 36 #[.map (some g), .agg (ivs .i32 [x, y]), .bool cn] w fun e w' => ∃ A c L lo', e = .returned (.slice A L.length c) ∧ PieceL (hasB lo) cn x y L ∧ Tab lo' ∧ lo'.length ≤ lo.length + L.length ∧ (∀ U V, hasB lo' U V = (hasB lo U V && !decide ([U, V] ∈ L))) ∧ Fr w.heap.size g w w' ∧ w'.heap[g]? = some (.map (ents lo' 0).toArray lo'.length) := by
  have hmf : ∀ (fn : Fn) (first cap : Array Value) (w : World), (Instr.makeFunc fn first cap).run Tryd.prog w = .ok (.func fn first cap) w := fun _ _ _ _ => rfl
  have hgw := heap_lt hg
  obtain ⟨w1, hw1⟩ : ∃ w1, w1 = (((w.alloc (.cells #[.map (some g)] 54)).alloc (.cells (ivs .i32 [x, y]) 42)).alloc (.cells #[] 42)).alloc (.cells #[.slice (some ⟨w.heap.size + 1 + 1, 0, none⟩) 0 0] 40) := ⟨_, rfl⟩
  obtain ⟨t1, b1, a1⟩ := tp_start x y hg w1 hw1
  have hx2 := hx.1
  have hx3 := hx.2
  have hy2 := hy.1
  have hy3 := hy.2
  have A1 := Lib.hid (hw1 ▸ a1)
  have TK : Hid (∀ (lo' : List Bl) (L : List (List Int)) (a b : Int) (W : World), Tab lo' → L.length ≤ 1048576 → (-1000002 ≤ a ∧ a ≤ 1000002) → (-1000002 ≤ b ∧ b ≤ 1000002) → TP g w.heap.size (w.heap.size + 1 + 1 + 1) lo' L W → _) := Lib.hid fun lo' L a b W h1 h2 h3 h4 h5 => take_any g w.heap.size (w.heap.size + 1 + 1 + 1) hgw (by omega) lo' L h1 h2 a b h3 h4 W h5
  have HT := Lib.hid ht
  have T1 := Lib.hid (hw1 ▸ t1)
  have F1 := Lib.hid (hw1 ▸ Fr.of (g := g) b1)
  have HC := Lib.hid hC
  have HIN := Lib.hid hin
  have HST := Lib.hid hst
  clear hx hy hg t1 a1 b1 ht hC hin hst hw1 w1
  go_enter Tryd.func36, Tryd.ntmps36
  go_wp2_with (first
    | refine wpList_load_row rfl _ _ rfl (w.heap.size + 1) rfl 42 (ivs .i32 [x, y]) (0, 0) _ A1.out Tryd.underlying42 rfl (by exact size42) ?_
    | (go_at_call 63; refine (TK.out lo [] x y _ HT.out (Nat.zero_le _) (by omega) (by omega) T1.out).mono ?_; rintro e w2 ⟨rfl, f2, k1, k2⟩; have F2 := Lib.hid (F1.out.trans f2); have K := Lib.hid (And.intro k1 k2); clear f2 k1 k2))
  have hst0 : ∃ L lo', PT lo cn x y L 0 (fun _ _ => False) lo' ∧ TP g w.heap.size (w.heap.size + 1 + 1 + 1) lo' L w2 := by
    cases hxy : hasB lo x y
    · exact ⟨[], lo, pt_none HT.out hxy, K.out.1 hxy⟩
    · exact ⟨[[x, y]], _, pt_one HT.out hxy, K.out.2 hxy⟩
  have HS0 := Lib.hid hst0
  clear hst0 K T1 F1 A1
  go_loopw [9] (fun i wr => ∃ (k : Nat) (L : List (List Int)) (lo' : List Bl), i = .int .i64 k ∧ k ≤ L.length ∧ Hid (PT lo cn x y L k (fun _ _ => False) lo') ∧ Hid (TP g w.heap.size (w.heap.size + 1 + 1 + 1) lo' L wr) ∧ Hid (Fr w.heap.size g w wr)) (fun i _ => C.length - (intOf i).toNat)
  case atStart =>
    obtain ⟨L, lo', h1, h2⟩ := HS0.out
    exact ⟨0, L, lo', rfl, Nat.zero_le _, Lib.hid h1, Lib.hid h2, F2⟩
  case round =>
    clear HS0 F2
    obtain ⟨k, L, lo', rfl, hk, HP, HTP, HF⟩ := hrel
    have hLC := HP.out.part.length HC.out
    obtain ⟨q, c, o1, o2, o3⟩ := HTP.out.out
    have n1 : wr.cell? ⟨w.heap.size + 1 + 1 + 1, 0, none⟩ = some (.slice (some ⟨q, 0, none⟩) L.length c) := o1.cell 0
    by_cases hkl : k < L.length
    · have hkI : (k : Int) < L.length := by omega
      have hk0 : (0 : Int) ≤ k := by omega
      go_wp2_with (go_at_call 28; refine (steps_any cn _).mono ?_; rintro e w6 ⟨rfl, rfl⟩)
      clear n1 o1 o2 o3 hLC hkI
      go_loopw [26] (fun b wr => ∃ (j : Nat) (L : List (List Int)) (lo' : List Bl), b = .int .i64 j ∧ j ≤ stepN cn ∧ k < L.length ∧ Hid (PT lo cn x y L k (upto j) lo') ∧ Hid (TP g w.heap.size (w.heap.size + 1 + 1 + 1) lo' L wr) ∧ Hid (Fr w.heap.size g w wr)) (fun b _ => stepN cn - (intOf b).toNat)
      case atStart => exact ⟨0, L, lo', rfl, Nat.zero_le _, hkl, Lib.hid (HP.out.weak fun a b h _ => by obtain ⟨k, hk, _⟩ := h; omega), HTP, HF⟩
      case round =>
        clear HP HTP HF hk hkl
        obtain ⟨j, L, lo', rfl, hj, hkl, HP, HTP, HF⟩ := hrel
        have hLC := HP.out.part.length HC.out
        by_cases hjn : j < stepN cn
        · have hjI : (j : Int) < stepN cn := by omega
          have hj0 : (0 : Int) ≤ j := by omega
          have hkI : (k : Int) < L.length := by omega
          have hj8 : j < 8 := by
            have : stepN cn ≤ 8 := by cases cn <;> decide
            omega
          have hs := Lib.hid ((HST.out.fr HF.out hg0 (by omega)).at_ hj8)
          have hs0 : 0 < wr.heap.size := by have := HF.out.size; omega
          obtain ⟨si1, si2, si3, si4⟩ := step_in j
          have hadj := step_adj cn hjn
          have HNX : Hid (hasB lo' ((L[k]).getD 0 0 + stepX j) ((L[k]).getD 1 0 + stepY j) = false → PT lo cn x y L k (upto (j + 1)) lo') := Lib.hid fun h => (HP.out.same hkl h).weak fun a b h2 _ => upto_succ j a b h2
          have HYX : Hid (hasB lo' ((L[k]).getD 0 0 + stepX j) ((L[k]).getD 1 0 + stepY j) = true → PT lo cn x y (L ++ [[(L[k]).getD 0 0 + stepX j, (L[k]).getD 1 0 + stepY j]]) k (upto (j + 1)) (strike lo' ((L[k]).getD 0 0 + stepX j) ((L[k]).getD 1 0 + stepY j))) := Lib.hid fun h => (HP.out.add hkl hadj h).weak fun a b h2 _ => upto_succ j a b h2
          have hrows : Rows_ 2 L := fun f hf => HP.out.part.two f hf
          have hhas := HP.out.part.sound _ (List.getElem_mem hkl)
          have hbd := HIN.out _ _ hhas.has
          obtain ⟨q, c, o1, o2, o3⟩ := HTP.out.out
          obtain ⟨px, py, hpe⟩ : ∃ px py, L[k] = [px, py] := ⟨_, _, two_of (hrows.at_ hkl)⟩
          have e0 : (pvs L)[k * 2 + 0]? = some (.int .i32 px) := by
            rw [pvs, List.getElem?_map, flat_get hrows hkl (by omega)]
            simp [hpe]
          have e1 : (pvs L)[k * 2 + 1]? = some (.int .i32 py) := by
            rw [pvs, List.getElem?_map, flat_get hrows hkl (by omega)]
            simp [hpe]
          rw [Nat.add_zero] at e0
          have q0 : wr.cell? ⟨q, k * 2, none⟩ = some (.int .i32 px) := by
            have h := o3.cells rfl _ _ e0
            simp [Addr.add] at h
            split at h
            · rename_i e
              rw [e]
              exact h
            · exact h
          have q1 : wr.cell? ⟨q, 0 + (k * 2 + 1), none⟩ = some (.int .i32 py) := o3.cells rfl _ _ e1
          have hqw : q < wr.heap.size := World.block_lt_of_cell? wr ⟨q, k * 2, none⟩ q0
          rw [Nat.zero_add] at q1
          rw [hpe] at HNX HYX hbd
          simp only [List.getD_cons_zero, List.getD_cons_succ] at HNX HYX hbd
          obtain ⟨⟨pb1, pb2⟩, ⟨pb3, pb4⟩⟩ := hbd
          generalize stepX j = sx at *
          generalize stepY j = sy at *
          have TK2 : Hid (∀ W, TP g w.heap.size (w.heap.size + 1 + 1 + 1) lo' L W → _) := Lib.hid fun W h => TK.out lo' L (px + sx) (py + sy) W HP.out.tab (by omega) (by omega) (by omega) h
          have W6 : Hid (∀ W, Below wr.heap.size wr W → TP g w.heap.size (w.heap.size + 1 + 1 + 1) lo' L W ∧ Fr w.heap.size g w W ∧ W.cell? ⟨q, k * 2, none⟩ = some (.int .i32 px) ∧ W.cell? ⟨q, k * 2 + 1, none⟩ = some (.int .i32 py) ∧ W.cell? ⟨w.heap.size + 1 + 1 + 1, 0, none⟩ = some (.slice (some ⟨q, 0, none⟩) L.length c)) := Lib.hid fun W hb => ⟨HTP.out.below hb, HF.out.trans (Fr.of (below_less hb HF.out.size)), (hb.cell (p := ⟨q, k * 2, none⟩) hqw).trans q0, (hb.cell (p := ⟨q, k * 2 + 1, none⟩) hqw).trans q1, (o1.below hb o1.lt).cell 0⟩
          clear e0 e1 q0 q1 o1 o2 o3 hpe hrows hhas HP HTP HF hadj hqw
          go_wp2_with (first
            | refine wpList_load_mid rfl _ _ rfl 0 (j * 2) (by rfl) [.int .i32 sx, .int .i32 sy] _ hs.out Tryd.underlying42 rfl (by exact size42) ?_
            | (refine wpList_store_row rfl _ _ _ rfl wr.heap.size (ivs .i32 [sx, sy]) rfl rfl 42 #[.int .i32 0, .int .i32 0] (Blk.newAt rfl rfl) (by exact size42) rfl ivs_one ?_; generalize hw6 : World.setRow _ _ _ = w6; have g6 : Blk w6 wr.heap.size 42 (ivs .i32 [sx, sy]) := (by rw [← hw6]; exact (Blk.newAt rfl rfl).row _); have b6 : Below wr.heap.size wr w6 := (by rw [← hw6]; exact below_setRow ((Below.refl _ _).alloc (Nat.le_refl _) _) (g := wr.heap.size) (Nat.le_refl _) _); have s0 : w6.cell? ⟨wr.heap.size, 0, none⟩ = some (.int .i32 sx) := g6.cellI (i := 0) (by simp); have s1 : w6.cell? ⟨wr.heap.size, 1, none⟩ = some (.int .i32 sy) := g6.cellI (i := 1) (by simp); obtain ⟨t6, f6, p0, p1, n6⟩ := W6.out w6 b6; have W7 := Lib.hid (W6.out w6.drew (below_drew b6)); clear hw6 W6 t6 f6 b6 g6))
          clear hjI hs0 hmf
          have hj1 : j + 1 ≤ stepN cn := hjn
          have hm1 : stepN cn - (j + 1) < stepN cn - j := by omega
          have HJ := Lib.hid (And.intro hj1 hm1)
          clear hj hjn hj1 hm1 hs
          go_still_tail 18, (by kernel_rfl)
          change wpList _ _ _ _ _ w6.drew
          generalize w6.drew = w7 at *
          have hwx : IntKind.i32.wrap (px + sx) = px + sx := by rw [IntKind.wrap_i32]; omega
          have hwy : IntKind.i32.wrap (py + sy) = py + sy := by rw [IntKind.wrap_i32]; omega
          simp only [hwx, hwy]
          clear hwx hwy n6 p0 p1 s0 s1
          go_wp2_with (go_at_call 63; refine (TK2.out _ W7.out.1).mono ?_; rintro e w8 ⟨rfl, f8, k1, k2⟩; have F8 := Lib.hid (W7.out.2.1.trans f8); have K8 := Lib.hid (And.intro k1 k2); clear f8 k1 k2)
          cases hh : hasB lo' (px + sx) (py + sy)
          · exact ⟨⟨j + 1, L, lo', by go_num, HJ.out.1, hkl, Lib.hid (HNX.out hh), Lib.hid (K8.out.1 hh), F8⟩, by have := HJ.out; simp [intOf]; omega⟩
          · exact ⟨⟨j + 1, _, _, by go_num, HJ.out.1, by rw [List.length_append]; omega, Lib.hid (HYX.out hh), Lib.hid (K8.out.2 hh), F8⟩, by have := HJ.out; simp [intOf]; omega⟩
        · obtain rfl : j = stepN cn := by omega
          go_wp2
          exact ⟨⟨k + 1, L, lo', by go_num, by omega, Lib.hid (HP.out.next upto_all), HTP, HF⟩, by simp [intOf]; omega⟩
    · obtain rfl : k = L.length := by omega
      go_wp2
      go_ret
      exact ⟨_, _, L, lo', rfl, HP.out.part.piece (Nat.le_refl _), HP.out.tab, HP.out.few, HP.out.rest, HF.out, HTP.out.map⟩
end Go.Proofs.YthicgmdkipgkaaaDoor
