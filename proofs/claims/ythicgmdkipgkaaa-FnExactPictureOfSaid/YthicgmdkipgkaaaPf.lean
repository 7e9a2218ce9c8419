/- The picture of some cells: the program's walk. -/
import Derived.Test.YthicgmdkipgkaaaRows
import Derived.Test.YthicgmdkipgkaaaPw
import Derived.Test.YthicgmdkipgkaaaCo
namespace Go.Proofs.Ythicgmdkipgkaaa
open Go.ChangeShapes Go.WideShapes Go.ChangeAt Go.RowKit
/-- what is told of some cells -/
noncomputable def pofL (cs : List (List Int)) : List Bl := if 1024 < cs.length then [] else if okCells cs then picR (picOf (toldM cs)) else []
noncomputable def pofK (cs : List (List Int)) : Int := if 1024 < cs.length then 3 else if okCells cs then picK (picOf (toldM cs)) else 2
def okC (f : List Int) : Bool := cellB (f.getD 0 0) (f.getD 1 0)
theorem okCells_no {cs : List (List Int)} {k : Nat} (hk : k < cs.length) (h : okC cs[k] = false) : okCells cs = false := by
  rw [okCells, List.all_eq_false]
  exact ⟨cs[k], List.getElem_mem hk, by rw [show cellB ((cs[k]).getD 0 0) ((cs[k]).getD 1 0) = okC cs[k] from rfl, h]; decide⟩
theorem okCells_all {cs : List (List Int)} (h : ∀ f ∈ cs, okC f = true) : okCells cs = true := by
  rw [okCells, List.all_eq_true]
  exact h
theorem toldT_succ {cs : List (List Int)} {lo : List Bl} {k : Nat} (hk : k < cs.length) (hm : ∀ key, maskAt lo key = toldM (cs.take k) key) {M : List Int} (hM : M = putC (maskAt lo (cornerL cs[k])) cs[k]) (key : List Int) : maskAt (putB lo (cornerL cs[k]) M) key = toldM (cs.take (k + 1)) key := by
  rw [putB_mask, toldM_succ cs hk, hm]
  by_cases e : key = cornerL cs[k]
  · rw [if_pos e, if_pos e, hM, hm, e]
  · rw [if_neg e, if_neg e]
theorem pvs_row {l : List (List Int)} (h : Rows_ 2 l) {k : Nat} (hk : k < l.length) {w : World} {B b o n : Nat} (hR : Rd w B 2 (some ⟨b, o, none⟩) n (pvs l)) (hn : n = l.length) : w.rangeAt b (o + k * 2) ((l[k]).map (.int .i32)) := by
  obtain ⟨b', o', he, hb, hc⟩ := hR.at_ (by omega)
  cases he
  have h2 := Rd.rangeAt (i := k * 2) (s := 2) hc
  rw [pvs, ← List.map_drop, ← List.map_take, flat_row h hk] at h2
  exact h2
set_option maxRecDepth 20000 in
set_option maxHeartbeats 6400000 in
theorem iPictureOf_any (A : Option Addr) (n c : Nat) (l : List (List Int)) (hl : l.length = n) (hrow : Rows_ 2 l) (h32 : ∀ f ∈ l, ∀ x ∈ f, -2147483648 ≤ x ∧ x ≤ 2147483647) (hn : n ≤ 1048576) (w : World) (hR : Rd w w.heap.size 2 A n (pvs l)) :
    Calls Try.prog 24 #[.slice A n c] w (GivesToldB (pofL l) (pofK l) w) := by
  rw [pofL, pofK, hl]
  by_cases hbig : 1024 < n
  · have hI : (1024 : Int) < n := by omega
    rw [if_pos hbig, if_pos hbig]
    clear hR h32
    go_enter Try.func24, Try.ntmps24
    go_wp2
    go_ret2
    exact GivesToldB.nil (Below.refl _ _)
  · have hI : (n : Int) ≤ 1024 := by omega
    rw [if_neg hbig, if_neg hbig]
    obtain ⟨R, K, hR1, hR2, hR0⟩ : ∃ R K, (okCells l = false → R = [] ∧ K = 2) ∧ (okCells l = true → R = picR (picOf (toldM l)) ∧ K = picK (picOf (toldM l))) ∧ (R = (if okCells l then picR (picOf (toldM l)) else []) ∧ K = (if okCells l then picK (picOf (toldM l)) else (2 : Int))) := by
      refine ⟨_, _, fun h => ?_, fun h => ?_, rfl, rfl⟩
      · simp [h]
      · simp [h]
    rw [← hR0.1, ← hR0.2]
    have HR1 := Lib.hid hR1
    have HR2 := Lib.hid hR2
    clear hR0 hR1 hR2
    have hmk : ∀ W : World, (Instr.makeMap 68 none).run Try.prog W = .ok (.map (some W.heap.size)) (W.alloc (.map #[] 0)) := fun _ => rfl
    have HR := Lib.hid hR
    have HL := Lib.hid hl
    have HROW := Lib.hid hrow
    have H0 : Hid ((w.alloc (.map #[] 0)).heap[w.heap.size]? = some (.map (ents [] 0).toArray ([] : List Bl).length) ∧ Below w.heap.size w (w.alloc (.map #[] 0))) := Lib.hid ⟨heap_alloc_new w _, (Below.refl _ _).alloc (Nat.le_refl _) _⟩
    have H32 := Lib.hid h32
    clear hR hl hrow h32
    go_enter Try.func24, Try.ntmps24
    go_wp2
    go_loopw [17] (fun i wr => ∃ k : Nat, k ≤ n ∧ i = .int .i64 k ∧ Hid (∀ f ∈ l.take k, okC f = true) ∧ ∃ lo, Hid (Tab lo) ∧ Hid (lo.length ≤ k) ∧ Hid (wr.heap[w.heap.size]? = some (.map (ents lo 0).toArray lo.length)) ∧ Hid (∀ key, maskAt lo key = toldM (l.take k) key) ∧ Hid (Below w.heap.size w wr)) (fun i _ => n - (intOf i).toNat)
    case atStart => exact ⟨0, by omega, rfl, Lib.hid (fun f hf => by simp at hf), [], Lib.hid Tab.nil, Lib.hid (Nat.le_refl _), Lib.hid H0.out.1, Lib.hid (fun key => rfl), Lib.hid H0.out.2⟩
    case round =>
      clear H0 hmk
      obtain ⟨k, hk, rfl, HOK, lo, HT, HLO, HG, HM, HB⟩ := hrel
      by_cases hlt : k < n
      · have hkl : k < l.length := by have := HL.out; omega
        have hkI : (k : Int) < n := by omega
        have hk0 : (0 : Int) ≤ k := by omega
        obtain ⟨b, o, rfl, hbB, _⟩ := HR.out.at_ (by omega)
        have hrg := pvs_row HROW.out hkl (HR.out.below HB.out (Nat.le_refl _)) HL.out.symm
        have h2 := HROW.out.at_ hkl
        have hst := fun M hM => toldT_succ (M := M) hkl HM.out hM
        have hno := fun h => okCells_no hkl h
        have hyes : okC l[k] = true → ∀ f ∈ l.take (k + 1), okC f = true := fun h f hf => by
          rw [List.take_succ_eq_append_getElem hkl, List.mem_append, List.mem_singleton] at hf
          rcases hf with hf | rfl
          · exact HOK.out f hf
          · exact h
        have h32 := H32.out _ (List.getElem_mem hkl)
        obtain ⟨F, hF⟩ : ∃ F, F = l[k] := ⟨_, rfl⟩
        rw [← hF] at hrg h2 hst hno hyes h32
        obtain ⟨x, y, rfl⟩ : ∃ x y, F = [x, y] := ⟨_, _, two_of h2⟩
        have hx32 := h32 x (by simp)
        have hy32 := h32 y (by simp)
        have hx0 := hx32.1
        have hx1 := hx32.2
        have hy0 := hy32.1
        have hy1 := hy32.2
        clear h32 hx32 hy32
        have hrg' : wr.rangeAt b (o + k * 2) [.int .i32 x, .int .i32 y] := hrg
        have HRG := Lib.hid hrg'
        have hok : okC [x, y] = cellB x y := rfl
        rw [hok] at hno hyes
        have HNO := Lib.hid hno
        have HYES := Lib.hid hyes
        have HST := Lib.hid hst
        have hcl := fun W => isCell_any x y W
        have HCELL := Lib.hid (fun h => cellB_in (x := x) (y := y) h)
        clear hF hrg hrg' h2 hst hno hyes hok
        cases hxy : cellB x y
        · rw [hxy] at hcl
          have HNO2 := Lib.hid (HNO.out hxy)
          clear hxy HNO HYES HCELL
          go_wp2_with (first
            | refine wpList_load_mid rfl _ _ rfl b (o + k * 2) (by rfl) [.int .i32 x, .int .i32 y] _ HRG.out Try.underlying42 rfl (by exact size42) ?_
            | (refine wpList_store_row rfl _ _ _ rfl wr.heap.size (ivs .i32 [x, y]) rfl rfl 42 #[.int .i32 0, .int .i32 0] (Blk.newAt rfl rfl) (by exact size42) rfl ivs_one ?_; generalize hw5 : World.setRow _ _ _ = w5; have G5 : Hid (Blk w5 wr.heap.size 42 (ivs .i32 [x, y])) := Lib.hid (by rw [← hw5]; exact (Blk.newAt rfl rfl).row _); have B5 : Hid (Below w.heap.size w w5) := Lib.hid (by rw [← hw5]; exact below_setRow (HB.out.alloc HB.out.size _) (g := wr.heap.size) HB.out.size _); have B5r : Hid (Below wr.heap.size wr w5) := Lib.hid (by rw [← hw5]; exact below_setRow ((Below.refl _ _).alloc (Nat.le_refl _) _) (g := wr.heap.size) (Nat.le_refl _) _); have c0 : w5.cell? ⟨wr.heap.size, 0, none⟩ = some (.int .i32 x) := G5.out.cellI (i := 0) (by simp); have c1 : w5.cell? ⟨wr.heap.size, 1, none⟩ = some (.int .i32 y) := G5.out.cellI (i := 1) (by simp); clear hw5)
            | (go_at_call 48; refine (hcl _).mono ?_; rintro e w3 ⟨rfl, rfl⟩))
          go_ret2
          rw [(HR1.out HNO2.out).1, (HR1.out HNO2.out).2]
          exact GivesToldB.nil B5.out
        · rw [hxy] at hcl
          obtain ⟨⟨hx2, hx3⟩, ⟨hy2, hy3⟩⟩ := HCELL.out hxy
          have HYES2 := Lib.hid (HYES.out hxy)
          obtain ⟨u, hu⟩ : ∃ u : Nat, (u : Int) = x % 16 := ⟨(x % 16).toNat, by omega⟩
          obtain ⟨v, hv⟩ : ∃ v : Nat, (v : Int) = y % 16 := ⟨(y % 16).toNat, by omega⟩
          have hba := fun W => blockAt_any x y (by omega) (by omega) W
          rw [← hu, ← hv] at hba
          obtain ⟨hM1, hM2⟩ := HT.out.mask [x / 16, y / 16]
          have hput : putC (maskAt lo (cornerL [x, y])) [x, y] = setOr (maskAt lo [x / 16, y / 16]) v u := by
            rw [putC, cornerL]
            simp only [List.getD_cons_zero, List.getD_cons_succ]
            rw [← hu, ← hv]
            rfl
          have hst2 := fun M (h : M = setOr (maskAt lo [x / 16, y / 16]) v u) => HST.out M (h.trans hput.symm)
          have hlkk := fun W h => run_lookupMask w.heap.size lo HT.out.bls (x / 16) (y / 16) lo.length W h
          have hlk0 := HG.out
          have hpp := fun M W h => run_putAny w.heap.size lo HT.out.bls (x / 16) (y / 16) M W h
          have htab := fun M hM h16 => HT.out.put (key := [x / 16, y / 16]) (M := M) rfl hM h16
          have hplen := fun M => putB_length [x / 16, y / 16] M lo
          have HBA := Lib.hid hba
          have HST2 := Lib.hid hst2
          have HLK := Lib.hid hlkk
          have HPP := Lib.hid hpp
          have HTAB := Lib.hid htab
          have HPL := Lib.hid hplen
          have hu16 : u < 16 := by omega
          have hv16 : v < 16 := by omega
          clear hxy HYES HNO HCELL hput hst2 hlkk hpp htab hplen HST hba hlk0
          generalize maskAt lo [x / 16, y / 16] = M at *
          have HM1 := Lib.hid hM1
          have HM2 := Lib.hid hM2
          obtain ⟨X, hX⟩ : ∃ X, X = x / 16 := ⟨_, rfl⟩
          obtain ⟨Y, hY⟩ : ∃ Y, Y = y / 16 := ⟨_, rfl⟩
          have hcor : cornerL [x, y] = [X, Y] := by rw [cornerL, hX, hY]; rfl
          rw [hcor] at HST2
          rw [← hX, ← hY] at HBA HLK HPP HTAB HPL
          clear hM1 hM2 hX hY hu hv hcor
          go_wp2_with (first
            | refine wpList_load_mid rfl _ _ rfl b (o + k * 2) (by rfl) [.int .i32 x, .int .i32 y] _ HRG.out Try.underlying42 rfl (by exact size42) ?_
            | (refine wpList_store_row rfl _ _ _ rfl wr.heap.size (ivs .i32 [x, y]) rfl rfl 42 #[.int .i32 0, .int .i32 0] (Blk.newAt rfl rfl) (by exact size42) rfl ivs_one ?_; generalize hw5 : World.setRow _ _ _ = w5; have G5 : Hid (Blk w5 wr.heap.size 42 (ivs .i32 [x, y])) := Lib.hid (by rw [← hw5]; exact (Blk.newAt rfl rfl).row _); have B5 : Hid (Below w.heap.size w w5) := Lib.hid (by rw [← hw5]; exact below_setRow (HB.out.alloc HB.out.size _) (g := wr.heap.size) HB.out.size _); have B5r : Hid (Below wr.heap.size wr w5) := Lib.hid (by rw [← hw5]; exact below_setRow ((Below.refl _ _).alloc (Nat.le_refl _) _) (g := wr.heap.size) (Nat.le_refl _) _); have c0 : w5.cell? ⟨wr.heap.size, 0, none⟩ = some (.int .i32 x) := G5.out.cellI (i := 0) (by simp); have c1 : w5.cell? ⟨wr.heap.size, 1, none⟩ = some (.int .i32 y) := G5.out.cellI (i := 1) (by simp); clear hw5)
            | (go_at_call 48; refine (hcl _).mono ?_; rintro e w3 ⟨rfl, rfl⟩)
            | (go_at_call 59; refine (HBA.out _).mono ?_; rintro e w6 ⟨rfl, b6⟩; have B6r := Lib.hid (B5r.out.trans (b6.mono B5r.out.size)); clear b6)
            | (refine wpList_store_row rfl _ _ _ rfl w6.heap.size (ivs .i32 [X, Y]) rfl rfl 43 #[.int .i32 0, .int .i32 0] (Blk.newAt rfl rfl) (by exact size43) rfl ivs_one ?_; generalize hw7 : World.setRow _ _ _ = w7; have G7 : Hid (Blk w7 w6.heap.size 43 (ivs .i32 [X, Y])) := Lib.hid (by rw [← hw7]; exact (Blk.newAt rfl rfl).row _); have B7r : Hid (Below wr.heap.size wr w7) := Lib.hid (by rw [← hw7]; exact below_setRow (B6r.out.alloc B6r.out.size _) (g := w6.heap.size) B6r.out.size _); have hlk : (Instr.lookup 68 (.map (some w.heap.size)) (.agg (ivs .i32 [X, Y])) false).run Try.prog w7 = .ok (.agg (ivs .u16 M)) w7 := HLK.out w7 ((B7r.out.block _ (heap_lt HG.out)).trans HG.out); clear hw7)
            | refine wpList_load_row rfl _ _ rfl w6.heap.size rfl 43 (ivs .i32 [X, Y]) (0, 0) _ G7.out Try.underlying43 rfl (by exact size43) ?_
            | (refine wpList_store_row rfl _ _ _ rfl w7.heap.size (ivs .u16 M) rfl rfl 53 (ivs .u16 zr16) (Blk.newAt rfl rfl) (by rw [ivs_size, HM1.out]; exact size53) (by rw [ivs_size, ivs_size, HM1.out]; rfl) ivs_one ?_; generalize hw8 : World.setRow _ _ _ = w8; have G8m : Hid (Blk w8 w7.heap.size 53 (ivs .u16 M)) := Lib.hid (by rw [← hw8]; exact (Blk.newAt rfl rfl).row _); have G8 : Hid (Blk w8 w6.heap.size 43 (ivs .i32 [X, Y])) := Lib.hid (by rw [← hw8]; exact (G7.out.alloc _).rowFar (by have := G7.out.lt; omega) _); have B8r : Hid (Below wr.heap.size wr w8) := Lib.hid (by rw [← hw8]; exact below_setRow (B7r.out.alloc B7r.out.size _) (g := w7.heap.size) B7r.out.size _); clear hw8))
          have c8 := G8m.out.getAtG (i := v) (by rw [HM1.out]; exact hv16)
          have f8 := G8m.out.frozen v
          have hvI : (v : Int) < 16 := by omega
          have hv0 : (0 : Int) ≤ v := by omega
          have huI : (u : Int) < 16 := by omega
          have hu0 : (0 : Int) ≤ u := by omega
          obtain ⟨m8, hm8⟩ : ∃ m8, m8 = M.getD v 0 := ⟨_, rfl⟩
          rw [← hm8] at c8
          have hp16 := pow_16 hu16
          have hwp : IntKind.u16.wrap (2 ^ u) = 2 ^ u := by rw [IntKind.wrap_u16]; omega
          have hso : setOr M v u = M.set v (orF m8 (2 ^ u)) := by rw [setOr, hm8]
          have g9 : Blk (w8.setCell ⟨w7.heap.size, v, none⟩ (.int .u16 (orF m8 (2 ^ u)))).drew w7.heap.size 53 (ivs .u16 (setOr M v u)) := by rw [hso]; exact (G8m.out.setI v _).drew
          have G9m := Lib.hid g9
          have G9 : Hid (Blk (w8.setCell ⟨w7.heap.size, v, none⟩ (.int .u16 (orF m8 (2 ^ u)))).drew w6.heap.size 43 (ivs .i32 [X, Y])) := Lib.hid ((G8.out.far (p := ⟨w7.heap.size, v, none⟩) (show w6.heap.size ≠ w7.heap.size by have := G7.out.lt; omega) _).drew)
          have B9r : Hid (Below wr.heap.size wr (w8.setCell ⟨w7.heap.size, v, none⟩ (.int .u16 (orF m8 (2 ^ u)))).drew) := Lib.hid (below_drew (B8r.out.setCell (p := ⟨w7.heap.size, v, none⟩) (show wr.heap.size ≤ w7.heap.size by have := B7r.out.size; omega) _))
          have HSL : Hid ((setOr M v u).length = 16) := Lib.hid (setOr_length HM1.out v u)
          have HS16 := Lib.hid (setOr_16 HM2.out v u)
          have HST3 := Lib.hid (HST2.out _ rfl)
          have HPL2 := Lib.hid (HPL.out (setOr M v u))
          have HTAB2 := Lib.hid (HTAB.out (setOr M v u) HSL.out HS16.out)
          have HPP2 := Lib.hid (fun W h => HPP.out (setOr M v u) W h)
          clear hm8 hso g9 hp16 HST2 HPL HTAB HPP HM2
          generalize setOr M v u = S at *
          go_region
          have hob : orF m8 (2 ^ u) = bits .or .u16 m8 (2 ^ u) := rfl
          rw [← hob]
          generalize (w8.setCell ⟨w7.heap.size, v, none⟩ (.int .u16 (orF m8 (2 ^ u)))).drew = w9 at *
          have hmu : (Instr.mapUpdate 68 (.map (some w.heap.size)) (.agg (ivs .i32 [X, Y])) (.agg (ivs .u16 S))).run Try.prog w9 = .ok () (ChangeMaps.setBlock w9 w.heap.size (.map (ents (putB lo [X, Y] S) 0).toArray (putB lo [X, Y] S).length)) := HPP2.out w9 ((B9r.out.block _ (heap_lt HG.out)).trans HG.out)
          go_wp2_with (first
            | refine wpList_load_row rfl _ _ rfl w6.heap.size rfl 43 (ivs .i32 [X, Y]) (0, 0) _ G9.out Try.underlying43 rfl (by exact size43) ?_
            | refine wpList_load_row rfl _ _ rfl w7.heap.size rfl 53 (ivs .u16 S) (0, 0) _ G9m.out Try.underlying53 rfl (by rw [ivs_size, HSL.out]; exact size53) ?_)
          refine ⟨⟨k + 1, by omega, by go_num, HYES2, putB lo [X, Y] S, HTAB2, Lib.hid (by have := HPL2.out; have := HLO.out; omega), Lib.hid (setBlock_at _ _ _ ?_), HST3, Lib.hid (below_setBlock (HB.out.trans (B9r.out.mono HB.out.size)) (Nat.le_refl _) _)⟩, by simp [intOf]; omega⟩
          have h1 := heap_lt HG.out
          have h2 := B9r.out.size
          omega
      · obtain rfl : k = n := by omega
        have hok := HOK.out
        have hm := HM.out
        rw [List.take_of_length_le (by have := HL.out; omega)] at hok
        simp only [List.take_of_length_le (show l.length ≤ k by have := HL.out; omega)] at hm
        have hfe : maskAt lo = toldM l := funext hm
        have HP := Lib.hid (pictureOf_any w.heap.size lo HT.out (by have := HLO.out; omega) wr HG.out (heap_lt HG.out))
        rw [hfe, ← (HR2.out (okCells_all hok)).1, ← (HR2.out (okCells_all hok)).2] at HP
        clear hok hm hfe HOK HM HT HLO HG
        go_wp2_with (go_at_call 60; refine HP.out.mono ?_; rintro e w9 ⟨A9, c9, rfl, o9, b9⟩; have HO9 := Lib.hid o9; have HB9 := Lib.hid (HB.out.trans (b9.mono HB.out.size)); clear o9 b9)
        go_ret2
        exact ⟨A9, c9, rfl, HO9.out.less HB.out.size, HB9.out⟩
end Go.Proofs.Ythicgmdkipgkaaa
