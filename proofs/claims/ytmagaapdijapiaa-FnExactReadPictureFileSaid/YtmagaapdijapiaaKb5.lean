/- Yn, Yo, Sn, Sg, Lrf in one text. -/
import Derived.Test.YtmagaapdijapiaaRows
import Derived.Test.YtmagaapdijapiaaKb3
import Derived.Test.YtmagaapdijapiaaKb4
import Derived.Test.YtmagaapdijapiaaKb2
import Derived.Test.YtmagaapdijapiaaCh
import Derived.Deep.RegionWith
import Derived.Deep.CutRange
import Derived.Deep.CutBlock
import Derived.IntWalk
import Derived.Test.YtmagaapdijapiaaCj
import Derived.Test.YtmagaapdijapiaaSf
namespace Go.Proofs.Ytmagaapdijapiaa
open Go.ChangeShapes Go.WideShapes Go.ChangeAt Go.RowKit
theorem uintY {D : List Int} (h255 : is255 D) {g i m cc : Nat} (hi : i + 4 ≤ D.length) (hm : 4 ≤ m) {w : World} (hc : ∀ j u, (D.map (Value.int .u8))[j]? = some u → w.cell? ⟨g, 0 + j, none⟩ = some u) :
    Calls Try.prog 59 #[.agg #[], .slice (some ⟨g, i, none⟩) m cc] w fun e w' => e = .returned (.int .u32 (numAt D i)) ∧ Below w.heap.size w w' := by
  have hcell : ∀ j, j < D.length → w.cell? ⟨g, j, none⟩ = some (.int .u8 (D.getD j 0)) := fun j hj => by
    have := hc j (.int .u8 (D.getD j 0)) (by rw [List.getElem?_map, List.getElem?_eq_getElem hj, List.getD_eq_getElem?_getD, List.getElem?_eq_getElem hj]; rfl)
    rwa [Nat.zero_add] at this
  exact beUint32_any g i m cc _ _ _ _ w hm (h255.getD i) (h255.getD (i + 1)) (h255.getD (i + 2)) (h255.getD (i + 3)) (hcell i (by omega)) (hcell (i + 1) (by omega)) (hcell (i + 2) (by omega)) (hcell (i + 3) (by omega))
theorem Own.range_ {w : World} {lo hi : Nat} {e : TypeId} {size g n c : Nat} {xs : List Value} (h : Own w lo hi e size (some ⟨g, 0, none⟩) n c xs) : w.rangeAt g 0 xs := fun j u hu => by
  have hj := (List.getElem?_eq_some_iff.1 hu).1
  have hl := h.1
  obtain ⟨b, o, e, _, hc⟩ := h.rd.at_ (Nat.pos_of_ne_zero fun e => by rw [e, Nat.zero_mul] at hl; omega)
  cases e
  exact hc j u hu
set_option maxRecDepth 20000 in
set_option maxHeartbeats 1600000 in
theorem bytesEqN_any (g : Nat) (n c : Nat) (l : List Int) (hl : l.length = n) (h1 : is255 l) (w : World) (h : w.rangeAt g 0 (l.map (.int .u8))) :
    Calls Try.prog 60 #[.slice (some ⟨g, 0, none⟩) n c, .slice none 0 0] w fun e w' => e = .returned (.bool (l == [])) ∧ w = w' := by
  have hs := conv_bytes (c := c) hl h
  have he := strOfNums_inj h1 (b := []) (fun _ hx => nomatch hx)
  have HE := Lib.hid he
  clear he h hl h1
  generalize strOfNums l = s at *
  have hs2 : (convert 40 9 (.slice none 0 0)).run Try.prog w = .ok (.string ⟨#[]⟩) w := by first | rfl | kernel_rfl
  go_enter Try.func60, Try.ntmps60
  go_wp2
  go_ret
  have e0 : (strOfNums []).toList = [] := by rw [ByteArray.toList_eq]; rfl
  have e1 := HE.out
  rw [e0] at e1
  rw [← e1]
  cases s.toList <;> exact ⟨rfl, rfl⟩
theorem bytesEqO_any (g : Nat) (n c : Nat) (l : List Int) (hl : l.length = n) (h1 : is255 l) (A' : Option Addr) (c' : Nat) (l' : List Int) (h2 : is255 l') (w : World) {lo hi : Nat} (hO : Own w lo hi 5 1 A' l'.length c' (l'.map (.int .u8))) (h : w.rangeAt g 0 (l.map (.int .u8))) :
    Calls Try.prog 60 #[.slice (some ⟨g, 0, none⟩) n c, .slice A' l'.length c'] w fun e w' => e = .returned (.bool (l == l')) ∧ w = w' := by
  rcases hO.2 with ⟨rfl, e1, rfl⟩ | ⟨g', cs, rfl, _⟩
  · obtain rfl : l' = [] := List.eq_nil_of_length_eq_zero e1
    exact bytesEqN_any g n c l hl h1 w h
  · exact bytesEq_any g g' n l'.length c c' l l' hl rfl h1 h2 w h hO.range_
/-- a store of a corner, under a word that simp does not open -/
theorem exec_stCornerY (ρ : Operand → Value) (dst : Option Tmp) (x y : Operand) (t : TypeId) (pos : String) (after : Array Edge) (guard : Option (Nat × Bool)) :
    execOp ρ { dst := dst, op := .store 63 x y, type := t, pos := pos, after := after, guard := guard } = stRow 63 (ρ x) (ρ y) := rfl
def FitsC (W : World) (g : Nat) : Prop := W.there g 0 2
theorem run_stCornerY (W : World) (g : Nat) (a b : Int) (h : FitsC W g) : (stRow 63 (.pointer (some ⟨g, 0, none⟩)) (.agg #[.int .i32 a, .int .i32 b])).run Try.prog W = .ok .skip (W.setCells g 0 [.int .i32 a, .int .i32 b]) := by
  have := run_storeAt_mid (P := Try.prog) W g 0 63 #[.int .i32 a, .int .i32 b] h (by exact size63) (ivs_one (k := .i32) (l := [a, b]))
  unfold stRow
  rw [Sem.run_bind, this]
  rfl
theorem fitsC_blk {W : World} {g : Nat} {cs : Array Value} (h : Blk W g 63 cs) (hs : cs.size = 2) : FitsC W g := h.there _ _ (by rw [hs]; exact Nat.le_refl _)
theorem pendY {W w5 : World} {t : TypeId} {cs : Array Value} (hb : Below (W.alloc (.cells cs t)).heap.size (W.alloc (.cells cs t)) w5) : Blk w5 W.heap.size t cs := (Blk.newAt rfl rfl).below hb (by rw [size_alloc]; omega)
theorem pendY2 {W w5 : World} {t : TypeId} {cs : Array Value} (hb : Below (W.alloc (.cells cs t)).drew.heap.size (W.alloc (.cells cs t)).drew w5) : Blk w5 W.heap.size t cs := (Blk.drew (Blk.newAt rfl rfl)).below hb (by rw [World.size_drew, size_alloc]; omega)
theorem corY {W : World} {g : Nat} {z a b : Value} (h : Blk W g 63 #[z, z]) : Blk (W.setCells g 0 [a, b]) g 63 #[a, b] := h.setCellsV [a, b] 0 (Nat.le_refl 2)
/-- a block built, a slice of one block built, under words that simp does not open -/
def bldBY (x y : Value) : Sem Next := do let v ← Instr.build 78 #[(0, x), (1, y)]; pure (.value v)
def bldSY (x : Value) : Sem Next := do let v ← Instr.buildSlice 27 1 #[(0, x)]; pure (.value v)
theorem exec_bldBY (ρ : Operand → Value) (dst : Option Tmp) (x y : Operand) (t : TypeId) (pos : String) (after : Array Edge) (guard : Option (Nat × Bool)) :
    execOp ρ { dst := dst, op := .build 78 #[(0, x), (1, y)], type := t, pos := pos, after := after, guard := guard } = bldBY (ρ x) (ρ y) := by
  unfold execOp bldBY
  simp
theorem exec_bldSY (ρ : Operand → Value) (dst : Option Tmp) (x : Operand) (t : TypeId) (pos : String) (after : Array Edge) (guard : Option (Nat × Bool)) :
    execOp ρ { dst := dst, op := .buildSlice 27 1 #[(0, x)], type := t, pos := pos, after := after, guard := guard } = bldSY (ρ x) := by
  unfold execOp bldSY
  simp
theorem run_bldBY (X Y : Int) (M : List Int) (W : World) (hM : M.length = 16) : (bldBY (.agg #[.int .i32 X, .int .i32 Y]) (.agg (ivs .u16 M))).run Try.prog W = .ok (.value (.agg (bav ([X, Y], M)))) W := by
  unfold bldBY
  rw [Sem.run_bind, run_buildBlock X Y M hM W]
  rfl
theorem run_bldSY (X Y : Int) (M : List Int) (W : World) (hM : M.length = 16) : (bldSY (.agg (bav ([X, Y], M)))).run Try.prog W = .ok (.value (.slice (some ⟨W.heap.size, 0, none⟩) 1 1)) (W.alloc (.cells (bav ([X, Y], M)) 78)) := by
  obtain ⟨i0, hi, hz0, hz1, hz2⟩ := info_parts Block_info
  unfold bldSY
  rw [Sem.run_bind, run_buildSlice_block (P := Try.prog) Try.underlying27 hi hz0 hz1 ([X, Y], M) ⟨rfl, hM⟩ W]
  rfl
section
attribute [local go_sem ↓] exec_ldCorner exec_ldMask exec_stCornerY exec_bldBY exec_bldSY
attribute [local go_sem] run_ldCorner run_ldMask run_stCornerY run_bldBY run_bldSY
set_option maxRecDepth 20000 in
set_option maxHeartbeats 6400000 in
theorem iReadPictureFile_any (A : Option Addr) (n c : Nat) (l : List (List Int)) (hl : l.length = n) (hrow : Rows_ 16 l) (h255 : ∀ f ∈ l, is255 f) (hn : n ≤ 1048576) (hnc : n ≤ c) (hc63 : c ≤ 9223372036854775807) (w : World) (hR : Rd w w.heap.size 16 A n (l.flatten.map (.int .u8))) :
    Calls Try.prog 19 #[.slice A n c] w (GivesToldB (rpL l) (rpC l) w) := by
  obtain ⟨i0, hi, hz0, hz1, hz2⟩ := info_parts Block_info
  have hop := iUnpackFrames_any A n c l hl hrow h255 hn hnc hc63 w hR
  unfold GOpenL GivesOpen at hop
  have HOP := Lib.hid hop
  clear hop hR
  by_cases hC : opCode l = 0
  · have hdl := opData_length l hrow
    have hd255 := opData_255Y h255
    have hcr := opCount_rangeY h255
    have HNO := Lib.hid (rp_none hC)
    have HKD := Lib.hid (rp_kind hC)
    have HBAD := Lib.hid (fun out p => rp_bad (out := out) (p := p) hC)
    have HYES := Lib.hid (fun hK out p => rp_yes (out := out) (p := p) hC hK)
    rw [hC] at HOP
    obtain ⟨N, hN⟩ : ∃ N : Nat, opCount l = N := ⟨(opCount l).toNat, by omega⟩
    rw [hN] at HOP hcr HNO HBAD HYES
    have hN32 : (N : Int) ≤ 4294967295 := hcr.2
    simp only [Int.toNat_natCast] at HNO HBAD HYES
    have HD255 := Lib.hid hd255
    clear hd255 hN h255 hl hrow hC hcr
    generalize opData l = D at *
    generalize rpL l = RL at *
    generalize rpC l = RC at *
    generalize opKind l = K at *
    go_enter Try.func19, Try.ntmps19
    go_wp2_with (go_at_call 57; refine HOP.out.mono ?_; rintro e w2 ⟨A2, c2, rfl, hO2, hb2⟩; have HB2 := Lib.hid hb2; have HO2 := Lib.hid hO2; clear hO2 hb2)
    have o0 : (w2.alloc (.cells #[] 78)).ownsRow w2.heap.size 78 18 (.slice (some ⟨w2.heap.size, 0, none⟩) 0 0) 0 (bcs []) := World.ownsRow_lit (e := 78) (base := w2.heap.size) (size := 18) w2 #[] 0 (Nat.le_refl _) (by unfold maxLen; omega) rfl
    have O0 := Lib.hid o0
    clear o0 HOP
    have zz2 := HB2.out.size
    have hcap : D.length ≤ c2 := HO2.out.len
    have hc2m : c2 ≤ 9223372036854775807 := HO2.out.capLe
    have HA2 : Hid (∀ (h : 0 < D.length), ∃ g2, A2 = some ⟨g2, 0, none⟩) := Lib.hid (fun h => by
      obtain ⟨g2, cur2, hA2, _⟩ := HO2.out.at_ (by omega)
      exact ⟨g2, hA2⟩)
    go_loopw [8, 9, 27] (fun v r i wr => ∃ (k p g cc m : Nat) (AR : Option Addr) (out : List Bl), k ≤ N ∧ i = .int .i64 k ∧ r = .slice AR (D.length - p) (c2 - p) ∧ v = .slice (some ⟨g, 0, none⟩) m cc ∧ Hid (∀ g2, A2 = some ⟨g2, 0, none⟩ → p < D.length → AR = some ⟨g2, p, none⟩) ∧ Hid (m = out.length) ∧ Hid (rdTo D k = some (out, p)) ∧ Hid (wr.ownsRow w2.heap.size 78 18 (.slice (some ⟨g, 0, none⟩) m cc) m (bcs out)) ∧ Hid (Below w2.heap.size w2 wr)) (fun _ _ i _ => N - (intOf i).toNat)
    case atStart => exact ⟨0, 0, _, _, 0, A2, [], by omega, rfl, rfl, rfl, Lib.hid (fun g2 h _ => h), Lib.hid rfl, Lib.hid rfl, O0, Lib.hid ((Below.refl _ _).alloc (Nat.le_refl _) _)⟩
    case round =>
      clear O0
      obtain ⟨k, p, g, cc, m, AR, out, hk, rfl, rfl, rfl, HAR, HM, HT, HO, HB⟩ := hrel
      obtain ⟨t1, t2, t3, t4, t5⟩ := rdTo_in HT.out
      have t6 := rdTo_far HT.out
      have HMK : Hid (m = k) := Lib.hid (by rw [HM.out, t1])
      have HT3 := Lib.hid t3
      have HT4 := Lib.hid t4
      have HT5 := Lib.hid t5
      have hBw : Below w.heap.size w wr := HB2.out.trans (HB.out.mono zz2)
      have HBw := Lib.hid hBw
      clear t3 t4 t5 hBw
      have hpi : (p : Int) ≤ D.length := by omega
      by_cases hlt : k < N
      · have hki : (k : Int) < N := by omega
        have HFAIL : Hid (okD D p = false → Hid (RL = [] ∧ RC = 5)) := Lib.hid (fun ho => Lib.hid (HNO.out (rdTo_none (rdTo_no HT.out ho) (by omega))))
        have hokd : okD D p = (decide (p + 9 ≤ D.length) && (decide (p + 9 + szOf D p ≤ D.length) && (unC (partD D p) == 0))) := rfl
        by_cases h9 : p + 9 ≤ D.length
        · obtain ⟨g2, hA2⟩ := HA2.out (by omega)
          have hAR := HAR.out g2 hA2 (by omega)
          subst hA2 hAR
          have HRW : Hid (∀ W, Below wr.heap.size wr W → Rd W w2.heap.size 1 (some ⟨g2, 0, none⟩) D.length (D.map (.int .u8))) := Lib.hid (fun W hb => (HO2.out.rd.below HB.out (Nat.le_refl _)).below hb HB.out.size)
          have HNUM : Hid (∀ W0 W i m cc, Below wr.heap.size wr W0 → wr.heap.size ≤ W0.heap.size → Below W0.heap.size W0 W → i + 4 ≤ D.length → 4 ≤ m → Calls Try.prog 59 #[.agg #[], .slice (some ⟨g2, i, none⟩) m cc] W fun e w' => e = .returned (.int .u32 (numAt D i)) ∧ Below W.heap.size W w' ∧ Below W0.heap.size W0 w') := Lib.hid (fun W0 W i m cc hb0 hz0 hb hi hm => by
            obtain ⟨b', o', hA', hb', hc⟩ := (HRW.out W (hb0.trans (hb.mono hz0))).at_ (by omega)
            cases hA'
            refine (uintY HD255.out hi hm hc).mono ?_
            rintro e w' ⟨h1, h2⟩
            exact ⟨h1, h2, hb.trans (h2.mono hb.size)⟩)
          have c8 : wr.cell? ⟨g2, p + 8, none⟩ = some (.int .u8 (D.getD (p + 8) 0)) := by
            obtain ⟨b', o', hA', hb', hc⟩ := (HRW.out wr (Below.refl _ _)).at_ (by omega)
            cases hA'
            have := hc (p + 8) (.int .u8 (D.getD (p + 8) 0)) (by rw [List.getElem?_map, List.getElem?_eq_getElem (by omega), List.getD_eq_getElem?_getD, List.getElem?_eq_getElem (by omega)]; rfl)
            rwa [Nat.zero_add] at this
          have hwr := HB.out.size
          obtain ⟨L, hL⟩ : ∃ L, D.length - p = L := ⟨_, rfl⟩
          obtain ⟨C, hCC⟩ : ∃ C, c2 - p = C := ⟨_, rfl⟩
          rw [hL, hCC]
          have l9 : (9 : Int) ≤ L := by omega
          have l8 : (8 : Int) < L := by omega
          have hLC : (L : Int) ≤ C := by omega
          have hz255 := HD255.out.getD (p + 8)
          have hsz : szOf D p = if D.getD (p + 8) 0 = 0 then 256 else (D.getD (p + 8) 0).toNat := rfl
          generalize D.getD (p + 8) 0 = z at *
          obtain ⟨z0, z1⟩ := hz255
          have HSZ := Lib.hid hsz
          have s1 : 1 ≤ szOf D p := by rw [hsz]; split <;> omega
          have s2 : szOf D p ≤ 256 := by rw [hsz]; split <;> omega
          clear hsz
          go_upto_if 37 with fail
          go_cut [10] from 36 to 37 (fun v wx => v = .int .i64 ((szOf D p : Nat) : Int) ∧ wx = wr)
          case first =>
            by_cases hz0 : z = 0
            · subst hz0
              go_wp2_with fail
              go_meet
              exact ⟨by rw [HSZ.out]; simp, rfl⟩
            · go_wp2_with fail
              go_meet
              exact ⟨by rw [HSZ.out, if_neg hz0]; congr 1; omega, rfl⟩
          case rest =>
            obtain ⟨rfl, rfl⟩ := hcut
            have hpd : partD D p = (D.drop (p + 9)).take (szOf D p) := rfl
            have HYS : Hid (okD D p = true → rdTo D (k + 1) = some (out ++ [blkAtD D p], p + 9 + szOf D p)) := Lib.hid (fun h => rdTo_yes HT.out h)
            generalize szOf D p = s at *
            clear HSZ c8
            by_cases h2 : p + 9 + s ≤ D.length
            · have h2i : (9 : Int) + s ≤ L := by omega
              have v1 : ¬ C = 9 := by omega
              have v2 : (9 : Int) + s ≤ C := by omega
              have hpl : (partD D p).length = s := by rw [hpd, List.length_take, List.length_drop]; omega
              have hp255 : is255 (partD D p) := fun x hx => HD255.out x (List.mem_of_mem_drop (List.mem_of_mem_take (by rw [← hpd]; exact hx)))
              have HUN : Hid (∀ cc, Calls Try.prog 58 #[.slice (some ⟨g2, p + 9, none⟩) s cc] wc (GivesU (unM (partD D p)) (unC (partD D p)) wc)) := Lib.hid (fun cc => iUnpackMask_any _ s cc (partD D p) hpl hp255 s2 wc (by
                have := ((HRW.out wc (Below.refl _ _)).more hwr)
                have h3 := this.partY (p + 9) s (by omega)
                rw [← hpd, Nat.zero_add] at h3
                exact h3))
              unfold GivesU at HUN
              have hM : (unM (partD D p)).length = 16 := by
                rw [unM]
                split
                · exact (decA_ok _).1
                · rfl
              have hbk : blkAtD D p = (corD D p, unM (partD D p)) := rfl
              rw [hbk] at HYS
              rw [decide_eq_true h9, decide_eq_true h2] at hokd
              have hcor : corD D p = [IntKind.i32.wrap (numAt D p), IntKind.i32.wrap (numAt D (p + 4))] := rfl
              clear hpl hp255 hpd hbk
              generalize unM (partD D p) = M at *
              generalize unC (partD D p) = CU at *
              by_cases hcu : CU = 0
              · subst hcu
                have HY2 := Lib.hid (HYS.out (by rw [hokd]; rfl))
                have HM16 := Lib.hid hM
                have hm4 : m ≤ 1000 := by have := HMK.out; omega
                rw [hcor] at HY2
                clear hokd HFAIL HYES HBAD HNO HYS hM HT3 HT4 HT5 t1 t2 t6 HT HKD hcor
                go_upto_region 17 with (first
                  | (go_at_call 58; refine (HUN.out _).mono ?_; rintro e w5 ⟨rfl, hb5⟩; have hz5 := hb5.size; have B5 := Lib.hid hb5; clear hb5)
                  | (refine wpList_store_row rfl _ _ _ rfl w5.heap.size (ivs .u16 M) rfl rfl 76 (ivs .u16 zr16) (Blk.newAt rfl rfl) (by rw [ivs_size, HM16.out]; exact size76) (by first | (rw [ivs_size, ivs_size, HM16.out]; rfl) | rw [ivs_size, ivs_size, HM16.out]) ivs_one ?_; generalize hw6 : World.setRow _ _ _ = w6; have G6 : Hid (Blk w6 w5.heap.size 76 (ivs .u16 M)) := Lib.hid (by rw [← hw6]; exact (Blk.newAt rfl rfl).row _); have hb6 : Below w5.heap.size w5 w6 := (by rw [← hw6]; exact below_setRow ((Below.refl _ _).alloc (Nat.le_refl _) _) (Nat.le_refl _) _); clear hw6; have B6 := Lib.hid (B5.out.trans (hb6.mono hz5)); clear hb6))
                have g5 := G6.out.lt
                have z6 := B6.out.size
                have HN6 : Hid (∀ W i m cc, Below w6.heap.size w6 W → i + 4 ≤ D.length → 4 ≤ m → Calls Try.prog 59 #[.agg #[], .slice (some ⟨g2, i, none⟩) m cc] W fun e w' => e = .returned (.int .u32 (numAt D i)) ∧ Below W.heap.size W w' ∧ Below w6.heap.size w6 w') := Lib.hid (fun W i m cc hb hi hm => HNUM.out w6 W i m cc B6.out z6 hb hi hm)
                clear HNUM
                go_cut [13] from 53 to 62 (fun v wx => ∃ b, v = .pointer (some ⟨b, 0, none⟩) ∧ Hid (Blk wx b 63 #[.int .i32 (IntKind.i32.wrap (numAt D p)), .int .i32 (IntKind.i32.wrap (numAt D (p + 4)))]) ∧ Hid (Below w6.heap.size w6 wx))
                case first =>
                  have hfa : ∀ W : World, FitsC (W.alloc (.cells #[.int .i32 0, .int .i32 0] 63)) W.heap.size := fun W => fitsC_blk (Blk.newAt rfl rfl) rfl
                  have u1 : ¬ C = 4 := by omega
                  have u2 : (4 : Int) ≤ L := by omega
                  have u3 : (4 : Int) ≤ C := by omega
                  have u4 : p + 4 + 4 ≤ D.length := by omega
                  have u5 : 4 ≤ L := by omega
                  have u6 : 4 ≤ L - 4 := by omega
                  clear HRW HY2 HUN HMK HM HO HB HBw HB2 HO2 HD255 HAR HA2 v1 v2 h2i h2 h9 hki hlt hk hpi
                  go_region_law (go_simp; go_at_call 59; refine (HN6.out _ _ _ _ ?_ ?_ ?_).mono ?_; (first | exact below_drew (Below.refl _ _) | exact (below_drew (Below.refl _ _)).alloc (Nat.le_refl _) _ | exact hd.out | exact hd.out.alloc hd.out.size _); omega; omega; rintro e w7 ⟨rfl, hb7, hd7⟩; (first | have hk := Lib.hid (Blk.below (cs := #[.int .i32 0, .int .i32 0]) hk.out hb7 hk.out.lt) | have hk := Lib.hid (pendY hb7) | have hk := Lib.hid (pendY2 hb7) | skip); (first | have hft := fitsC_blk hk.out rfl | skip); have hd := Lib.hid hd7; have hz7 := hd7.size; clear hb7 hd7)
                  all_goals
                    go_wp2_with fail
                    go_meet
                    refine ⟨_, rfl, Lib.hid (corY (z := .int .i32 0) ?_), Lib.hid (below_setCells ?_ _ _ ?_)⟩
                    · first | exact hk.out | exact Blk.newAt rfl rfl
                    · first | exact Nat.le_refl _ | omega
                    · first | exact hd.out | exact hd.out.alloc hd.out.size _
                case rest =>
                  obtain ⟨b, rfl, HBL, HB7⟩ := hcut
                  generalize IntKind.i32.wrap (numAt D p) = X at *
                  generalize IntKind.i32.wrap (numAt D (p + 4)) = Y at *
                  have b7 := B6.out.trans (HB7.out.mono z6)
                  have K7 := Lib.hid (G6.out.below HB7.out g5)
                  have B7 : Hid (Below w2.heap.size w2 wc) := Lib.hid (HB.out.trans (b7.mono hwr))
                  have O7 := Lib.hid (own_below HO.out b7 (Nat.le_refl _))
                  have hbb : ([X, Y] : List Int).length = 2 ∧ M.length = 16 := ⟨rfl, HM16.out⟩
                  have HBB := Lib.hid hbb
                  have HCL := Lib.hid (show (bcs [(([X, Y], M) : Bl)]).length = 1 * 18 by rw [bcs_length (bls_one hbb)]; rfl)
                  have HBI : Hid (Blk wc.drew b 63 (ivs .i32 [X, Y])) := Lib.hid HBL.out.drew
                  obtain ⟨r1, r3⟩ : rowAt wc.drew b 0 2 = #[.int .i32 X, .int .i32 Y] ∧ hasRow wc.drew b 0 2 = true := ⟨HBI.out.rowAt_eq rfl, HBI.out.hasRow_eq rfl⟩
                  have r2 := K7.out.drew.rowAt_eq HM16.out
                  have r4 := K7.out.drew.hasRow_eq HM16.out
                  have hm16 := HM16.out
                  have HNW : Hid (∀ j u, (bcs [(([X, Y], M) : Bl)])[j]? = some u → (wc.alloc (.cells (bav ([X, Y], M)) 78)).drew.cell? ((⟨wc.heap.size, 0, none⟩ : Addr).add j) = some u) := Lib.hid (block_news wc ([X, Y], M))
                  have HOA : Hid ((wc.alloc (.cells (bav ([X, Y], M)) 78)).drew.ownsRow w2.heap.size 78 18 (.slice (some ⟨g, 0, none⟩) m cc) m (bcs out)) := Lib.hid (O7.out.alloc (.cells (bav ([X, Y], M)) 78))
                  have BA : Hid (Below w2.heap.size w2 (wc.alloc (.cells (bav ([X, Y], M)) 78)).drew) := Lib.hid (below_drew (B7.out.alloc B7.out.size (.cells (bav ([X, Y], M)) 78)))
                  have q1 : ¬ C = 9 := by omega
                  have q2 : p + 9 + s ≤ D.length := h2
                  clear HRW HUN HMK HO HB HBw HB2 HO2 HD255 HAR HBL HBI HB7 K7 B7 O7 G6 B6 b7 HN6 hbb
                  have y1 : IntKind.i64.wrap ((9 : Int) + s) = (9 : Int) + s := IntWalk.i64_in _ (by omega)
                  have y2 : (0 : Int) ≤ (9 : Int) + s := by omega
                  have y3 : ((9 : Int) + s).toNat = 9 + s := by omega
                  by_cases hcp : C = 9 + s
                  · go_upto_region 18 with fail
                    go_region_law (refine step_append_own rfl (.tmp 63) (.tmp 67) 27 rfl w2.heap.size 78 i0 _ 18 40 Try.underlying27 hi hz0 hz1 hz2 rfl (by decide) (.slice (some ⟨g, 0, none⟩) m cc) m _ (by simp [Act.eval]) HOA.out ⟨wc.heap.size, 0, none⟩ 1 1 (bcs [([X, Y], M)]) (by simp [Act.eval]) HCL.out HNW.out (bcs_one _) (by unfold maxLen; omega) (by omega) BA.out.size ?_; intro v8 w8 hown8 hgrow8; rw [← bcs_append] at hown8; obtain ⟨g8, c8, rfl⟩ := own_some hown8 (by omega); have HO8 := Lib.hid hown8; have HG8 := Lib.hid hgrow8; clear hown8 hgrow8)
                    all_goals
                      go_wp2
                      exact ⟨⟨k + 1, p + 9 + s, g8, c8, m + 1, _, out ++ [([X, Y], M)], by omega, by go_num, by rw [show D.length - (p + 9 + s) = L - (9 + s) by omega, show c2 - (p + 9 + s) = 0 by omega], rfl, Lib.hid (fun g3 e h => by omega), Lib.hid (by rw [List.length_append, HM.out]; rfl), HY2, HO8, Lib.hid (BA.out.grown HG8.out BA.out.size (fun j e => (HOA.out.lt _ e).1))⟩, by simp [intOf]; omega⟩
                  · go_upto_region 18 with fail
                    go_region_law (refine step_append_own rfl (.tmp 63) (.tmp 67) 27 rfl w2.heap.size 78 i0 _ 18 40 Try.underlying27 hi hz0 hz1 hz2 rfl (by decide) (.slice (some ⟨g, 0, none⟩) m cc) m _ (by simp [Act.eval]) HOA.out ⟨wc.heap.size, 0, none⟩ 1 1 (bcs [([X, Y], M)]) (by simp [Act.eval]) HCL.out HNW.out (bcs_one _) (by unfold maxLen; omega) (by omega) BA.out.size ?_; intro v8 w8 hown8 hgrow8; rw [← bcs_append] at hown8; obtain ⟨g8, c8, rfl⟩ := own_some hown8 (by omega); have HO8 := Lib.hid hown8; have HG8 := Lib.hid hgrow8; clear hown8 hgrow8)
                    all_goals
                      go_wp2
                      exact ⟨⟨k + 1, p + 9 + s, g8, c8, m + 1, _, out ++ [([X, Y], M)], by omega, by go_num, by rw [show D.length - (p + 9 + s) = L - (9 + s) by omega, show c2 - (p + 9 + s) = C - (9 + s) by omega], rfl, Lib.hid (fun g3 e h => by cases e; rw [← Nat.add_assoc]), Lib.hid (by rw [List.length_append, HM.out]; rfl), HY2, HO8, Lib.hid (BA.out.grown HG8.out BA.out.size (fun j e => (HOA.out.lt _ e).1))⟩, by simp [intOf]; omega⟩
              · have HF := HFAIL.out (by rw [hokd, beq_eq_false_iff_ne.2 hcu]; rfl)
                have HM16 := Lib.hid hM
                clear hokd HFAIL HYES HBAD HNO HYS hM HNUM HT3 HT4 HT5 t1 t2 t6 HO HT HKD
                go_wp2_with (first
                  | (go_at_call 58; refine (HUN.out _).mono ?_; rintro e w5 ⟨rfl, hb5⟩; have B5 := Lib.hid (HBw.out.trans (hb5.mono HBw.out.size)); clear hb5)
                  | (refine wpList_store_row rfl _ _ _ rfl w5.heap.size (ivs .u16 M) rfl rfl 76 (ivs .u16 zr16) (Blk.newAt rfl rfl) (by rw [ivs_size, HM16.out]; exact size76) (by first | (rw [ivs_size, ivs_size, HM16.out]; rfl) | rw [ivs_size, ivs_size, HM16.out]) ivs_one ?_; generalize hw6 : World.setRow _ _ _ = w6; have hb6 : Below w5.heap.size w5 w6 := (by rw [← hw6]; exact below_setRow ((Below.refl _ _).alloc (Nat.le_refl _) _) (Nat.le_refl _) _); clear hw6; have B6 := Lib.hid (B5.out.trans (hb6.mono B5.out.size)); clear hb6))
                go_ret2
                obtain ⟨e1, e2⟩ := HF.out
                rw [e1, e2]
                exact GivesToldB.nil B6.out
            · have HF := HFAIL.out (by rw [hokd, decide_eq_false h2, Bool.false_and, Bool.and_false])
              have h2i : (L : Int) < (9 : Int) + s := by omega
              clear hokd HFAIL
              go_wp2
              go_ret2
              obtain ⟨e1, e2⟩ := HF.out
              rw [e1, e2]
              exact GivesToldB.nil HBw.out
        · have HF := HFAIL.out (by rw [hokd, decide_eq_false h9]; rfl)
          have h9i : ((D.length - p : Nat) : Int) < 9 := by omega
          clear hokd HFAIL h9
          go_wp2
          go_ret2
          obtain ⟨e1, e2⟩ := HF.out
          rw [e1, e2]
          exact GivesToldB.nil HBw.out
      · obtain rfl : k = N := by omega
        have hp1 : m ≤ 1048576 := by have := HMK.out; omega
        by_cases hK : K = 2
        · subst hK
          have HVP := Lib.hid (fun W hW => iValidPicture_any (some ⟨g, 0, none⟩) m cc out HM.out.symm HT3.out HT4.out HT5.out hp1 W hW)
          have HPD := Lib.hid (fun W hW => pictureData_any (some ⟨g, 0, none⟩) m cc out HM.out.symm HT3.out HT4.out hp1 W hW)
          have HEQ : Hid (∀ g1 c1 W, Below w2.heap.size w2 W → W.rangeAt g1 0 ((picD out).map (.int .u8)) → Calls Try.prog 60 #[.slice (some ⟨g1, 0, none⟩) (picD out).length c1, .slice A2 D.length c2] W fun e w' => e = .returned (.bool (picD out == D)) ∧ W = w') := Lib.hid (fun g1 c1 W hb hr => bytesEqO_any g1 _ c1 (picD out) rfl (picD_255 out) A2 c2 D HD255.out W (HO2.out.below hb (Nat.le_refl _)) hr)
          have HGB := Lib.hid (fun hb => HBAD.out out p HT.out hb)
          have HGY := Lib.hid (HYES.out rfl out p HT.out)
          obtain ⟨A1, c1', hve, hO1⟩ := Own.of_row HO.out
          cases hve
          have HO1 := Lib.hid hO1
          unfold GivesD at HPD
          clear hO1 HAR HYES HBAD HNO HT3 HT4 HT5 HT t1 t2 t6 HKD HO HD255 HO2 HA2
          cases hv : vpB out
          · rw [hv] at HVP
            have HE := HGB.out (.inl hv)
            clear HGB HGY HPD HEQ
            go_wp2_with (go_at_call 33; refine (HVP.out _ ((HO1.out.rd).more (by omega))).mono ?_; rintro e w5 ⟨rfl, hb5⟩; have B5 := Lib.hid (HBw.out.trans (hb5.mono HBw.out.size)); clear hb5)
            go_ret2
            rw [HE.1, HE.2]
            exact GivesToldB.nil B5.out
          · rw [hv] at HVP
            cases hd : (picD out == D)
            · have HE := HGB.out (.inr (beq_eq_false_iff_ne.1 hd))
              rw [hd] at HEQ
              clear HGB HGY
              go_wp2_with (first
                | (go_at_call 33; refine (HVP.out _ ((HO1.out.rd).more (by omega))).mono ?_; rintro e w5 ⟨rfl, hb5⟩; have C5 := Lib.hid (HB.out.trans (hb5.mono HB.out.size)); have B5 := Lib.hid (HBw.out.trans (hb5.mono HBw.out.size)); have Q5 := Lib.hid (HO1.out.below hb5 (Nat.le_refl _)); have z5 := hb5.size; clear hb5)
                | (go_at_call 48; refine (HPD.out _ ((Q5.out.rd).more z5)).mono ?_; rintro e w6 ⟨g6, c6, rfl, hO6, hb6⟩; have C6 := Lib.hid (C5.out.trans (hb6.mono C5.out.size)); have B6 := Lib.hid (B5.out.trans (hb6.mono B5.out.size)); have R6 := Lib.hid hO6.range_; clear hO6 hb6)
                | (go_at_call 60; refine (HEQ.out _ _ _ C6.out R6.out).mono ?_; rintro e w7 ⟨rfl, rfl⟩))
              go_ret2
              rw [HE.1, HE.2]
              exact GivesToldB.nil B6.out
            · have HE := HGY.out hv (beq_iff_eq.1 hd)
              rw [hd] at HEQ
              clear HGB HGY
              go_wp2_with (first
                | (go_at_call 33; refine (HVP.out _ ((HO1.out.rd).more (by omega))).mono ?_; rintro e w5 ⟨rfl, hb5⟩; have C5 := Lib.hid (HB.out.trans (hb5.mono HB.out.size)); have B5 := Lib.hid (HBw.out.trans (hb5.mono HBw.out.size)); have Q5 := Lib.hid (HO1.out.below hb5 (Nat.le_refl _)); have z5 := hb5.size; clear hb5)
                | (go_at_call 48; refine (HPD.out _ ((Q5.out.rd).more z5)).mono ?_; rintro e w6 ⟨g6, c6, rfl, hO6, hb6⟩; have C6 := Lib.hid (C5.out.trans (hb6.mono C5.out.size)); have B6 := Lib.hid (B5.out.trans (hb6.mono B5.out.size)); have R6 := Lib.hid hO6.range_; have Q6 := Lib.hid (Q5.out.below hb6 z5); have z6 := hb6.size; clear hO6 hb6)
                | (go_at_call 60; refine (HEQ.out _ _ _ C6.out R6.out).mono ?_; rintro e w7 ⟨rfl, rfl⟩))
              go_ret2
              rw [HE.1, HE.2]
              exact ⟨_, _, by rw [← HM.out]; rfl, by rw [← HM.out]; exact (Q6.out.less zz2).more (by omega), B6.out⟩
        · have HE := HKD.out hK
          clear HAR HYES HBAD HNO HT3 HT4 HT5 HT t1 t2 t6 HKD HO HD255 HO2 HA2
          go_wp2
          go_ret2
          rw [HE.1, HE.2]
          exact GivesToldB.nil HBw.out
  · obtain ⟨e1, e2⟩ := rp_code hC
    have E := Lib.hid (And.intro e1 e2)
    clear e1 e2 hl hrow h255
    generalize opKind l = K at *
    generalize opCount l = M at *
    generalize opData l = D at *
    generalize opCode l = C at *
    go_enter Try.func19, Try.ntmps19
    go_wp2_with (go_at_call 57; refine HOP.out.mono ?_; rintro e w2 ⟨A2, c2, rfl, hO2, hb2⟩; have HB2 := Lib.hid hb2; clear hO2 hb2)
    go_ret2
    rw [E.out.1, E.out.2]
    exact GivesToldB.nil HB2.out
end
end Go.Proofs.Ytmagaapdijapiaa
namespace Go.Proofs.Ytmagaapdijapiaa
open Go.ChangeShapes Go.WideShapes Go.ChangeAt Go.RowKit
theorem rpL_ok (l : List (List Int)) : Bls (rpL l) ∧ (rpL l).length ≤ 64 := by
  rw [rpL]
  cases h : rpX l with
  | none => exact ⟨fun b hb => (nomatch hb), Nat.zero_le _⟩
  | some out =>
    rw [rpX] at h
    split at h
    · split at h
      · cases h
      · rename_i o a hr
        split at h
        · rename_i hv
          cases h
          rw [Bool.and_eq_true] at hv
          have h64 := hv.1
          rw [vpB, Bool.and_eq_true, decide_eq_true_iff] at h64
          exact ⟨(rdTo_in hr).2.2.1, h64.2⟩
        · cases h
    · cases h
theorem rpL_bls (l : List (List Int)) : Bls (rpL l) := (rpL_ok l).1
theorem rpL_length (l : List (List Int)) : (rpL l).length ≤ 700 := by
  have := (rpL_ok l).2
  omega
end Go.Proofs.Ytmagaapdijapiaa
namespace Go.Proofs.Ytmagaapdijapiaa
open Go.ChangeShapes Go.WideShapes Go.ChangeAt Go.RowKit
/-- the mark of cell number t of a list of blocks -/
def mkB (k : Int) (t : Nat) : Value := if t % 18 < 2 then .int .i32 (wrap32 (k + t)) else .int .u16 (IntKind.u16.wrap (k + t))
def marksB (k : Int) (m : Nat) : List Value := (List.range m).map (mkB k)
theorem marksB_length (k : Int) (m : Nat) : (marksB k m).length = m := by simp [marksB]
theorem marksB_at {k : Int} {m j : Nat} (h : j < m) : (marksB k m)[j]? = some (mkB k j) := by simp [marksB, List.getElem?_map, List.getElem?_range h]
theorem mkB_corner (k : Int) {i j : Nat} (hj : j < 2) : mkB k (i * 18 + j) = .int .i32 (wrap32 (k + ((i * 18 + j : Nat) : Int))) := by rw [mkB, if_pos (by omega)]
theorem mkB_mask (k : Int) {i j : Nat} (hj : j < 16) : mkB k (i * 18 + 2 + j) = .int .u16 (IntKind.u16.wrap (k + ((i * 18 + 2 + j : Nat) : Int))) := by rw [mkB, if_neg (by omega)]
def MarkedB (w : World) (g sz : Nat) (k : Int) (j : Nat) : Prop := ∃ cur : Array Value, Blk w g 78 cur ∧ cur.size = sz ∧ ∀ i, i < j → cur[i]? = some (mkB k i)
section
variable {w : World} {g sz j : Nat} {k : Int}
theorem MarkedB.step (h : MarkedB w g sz k j) (hj : j < sz) : MarkedB (w.setCell ⟨g, j, none⟩ (mkB k j)) g sz k (j + 1) := by
  obtain ⟨cur, hb, hs, hc⟩ := h
  refine ⟨_, hb.set_ j _, by simp [hs], fun i hi => ?_⟩
  rw [Array.getElem?_setIfInBounds]
  by_cases he : j = i
  · subst he
    rw [if_pos rfl, if_pos (by omega)]
  · rw [if_neg he]
    exact hc i (by omega)
theorem MarkedB.cell (h : MarkedB w g sz k j) {i : Nat} (hi : i < sz) : (∃ u, w.cell? ⟨g, i, none⟩ = some u) ∧ w.frozen? ⟨g, i, none⟩ = false := by
  obtain ⟨cur, hb, hs, hc⟩ := h
  exact ⟨⟨cur[i]'(by omega), by rw [hb.cell]; exact Array.getElem?_eq_getElem (by omega)⟩, hb.frozen i⟩
theorem MarkedB.own {lo hi n c : Nat} (h : MarkedB w g (c * 18) k (n * 18)) (h1 : lo ≤ g) (h2 : g < hi) (h3 : n ≤ c) (h4 : c ≤ maxLen) :
    Own w lo hi 78 18 (some ⟨g, 0, none⟩) n c (marksB k (n * 18)) := by
  obtain ⟨cur, hb, hs, hc⟩ := h
  refine ⟨marksB_length _ _, .inr ⟨g, cur, rfl, h1, h2, hb, h3, h4, hs, ?_⟩⟩
  apply List.ext_getElem?
  intro i
  rw [List.getElem?_take]
  by_cases hi : i < n * 18
  · rw [if_pos hi, marksB_at hi]
    have := hc i hi
    simpa using this
  · rw [if_neg hi, List.getElem?_eq_none (by rw [marksB_length]; omega)]
end
set_option maxRecDepth 20000 in
set_option maxHeartbeats 1600000 in
theorem markBlockS_any (lo hi : Nat) (A : Option Addr) (n c : Nat) (xs : List Value) (k : Int) (h0 : 0 ≤ k) (h1 : k ≤ 4611686018427387904) (hn : n ≤ 100000000) (w : World) (hO : Own w lo hi 78 18 A n c xs) :
    Calls Try.prog 13 #[.slice A n c, .int .i64 k] w fun e w' => e = .returned (.int .i64 (k + ((n * 18 : Nat) : Int))) ∧ Own w' lo hi 78 18 A n c (marksB k (n * 18)) ∧ w.grownBy w' (A.map (·.block)) := by
  by_cases hz : n = 0
  · subst hz
    have hx : xs = [] := List.eq_nil_of_length_eq_zero (by have := hO.1; omega)
    subst hx
    go_enter Try.func13, Try.ntmps13
    go_wp2_with fail
    go_loopw [1, 5] (fun q i wr => q = .int .i64 k ∧ i = .int .i64 0 ∧ wr = w) (fun _ _ _ => 0)
    case atStart => exact ⟨rfl, rfl, rfl⟩
    case round =>
      obtain ⟨rfl, rfl, rfl⟩ := hrel
      go_wp2
      go_ret
      exact ⟨ret_int (by simp), by simpa [marksB] using hO, World.grownBy.refl _ _⟩
  · obtain ⟨g, cur, rfl, hg1, hg2, hb, hnc, hcm, hcs, hxs⟩ := hO.at_ (by omega)
    have hm : MarkedB w g (c * 18) k 0 := ⟨cur, hb, hcs, fun i hi => by omega⟩
    clear hb hcs hxs hO
    go_enter Try.func13, Try.ntmps13
    go_wp2_with fail
    go_loopw [1, 5] (fun q i wr => ∃ j : Nat, j ≤ n ∧ q = .int .i64 (k + ((j * 18 : Nat) : Int)) ∧ i = .int .i64 j ∧ MarkedB wr g (c * 18) k (j * 18) ∧ w.grownBy wr (some g)) (fun _ i _ => n - (intOf i).toNat)
    case atStart => exact ⟨0, by omega, by simp, rfl, by simpa using hm, World.grownBy.refl _ _⟩
    case round =>
      clear hm
      obtain ⟨j, hj, rfl, rfl, hm, hg⟩ := hrel
      by_cases hlt : j < n
      · go_wp2_with fail
        obtain ⟨wo, rfl⟩ : ∃ wo : World, wo = wr := ⟨_, rfl⟩
        go_loopw [1, 6] (fun q i wq => ∃ m : Nat, m ≤ 2 ∧ q = .int .i64 (k + ((j * 18 + m : Nat) : Int)) ∧ i = .int .i64 m ∧ MarkedB wq g (c * 18) k (j * 18 + m) ∧ w.grownBy wq (some g)) (fun _ i _ => 2 - (intOf i).toNat)
        case atStart => exact ⟨0, by omega, rfl, rfl, hm, hg⟩
        case round =>
          clear hm hg
          obtain ⟨m, hmm, rfl, rfl, hm, hg⟩ := hrel
          by_cases hlt2 : m < 2
          · obtain ⟨⟨u, c1⟩, f1⟩ := hm.cell (i := j * 18 + m) (by omega)
            have hs := hm.step (by omega)
            rw [mkB_corner k hlt2] at hs
            have HS := Lib.hid hs
            have hin : (j : Int) < (n : Int) := by omega
            clear hs hm
            go_wp2
            exact ⟨⟨m + 1, by omega, by congr 1; omega, by go_num, HS.out, only_setCell hg rfl _⟩, by simp [intOf]; omega⟩
          · have : m = 2 := by omega
            subst this
            go_wp2_with fail
            obtain ⟨wo2, rfl⟩ : ∃ wo2 : World, wo2 = wr := ⟨_, rfl⟩
            go_loopw [1, 7] (fun q i wq => ∃ m : Nat, m ≤ 16 ∧ q = .int .i64 (k + ((j * 18 + 2 + m : Nat) : Int)) ∧ i = .int .i64 m ∧ MarkedB wq g (c * 18) k (j * 18 + 2 + m) ∧ w.grownBy wq (some g)) (fun _ i _ => 16 - (intOf i).toNat)
            case atStart => exact ⟨0, by omega, rfl, rfl, hm, hg⟩
            case round =>
              clear hm hg
              obtain ⟨m, hmm, rfl, rfl, hm, hg⟩ := hrel
              by_cases hlt3 : m < 16
              · obtain ⟨⟨u, c1⟩, f1⟩ := hm.cell (i := j * 18 + 2 + m) (by omega)
                have hs := hm.step (by omega)
                rw [mkB_mask k hlt3] at hs
                have HS := Lib.hid hs
                have hin : (j : Int) < (n : Int) := by omega
                clear hs hm
                go_wp2
                exact ⟨⟨m + 1, by omega, by congr 1; omega, by go_num, HS.out, only_setCell hg rfl _⟩, by simp [intOf]; omega⟩
              · have : m = 16 := by omega
                subst this
                go_wp2
                exact ⟨⟨j + 1, by omega, by congr 1; omega, by go_num, by rw [Nat.add_mul, Nat.one_mul]; exact hm, hg⟩, by simp [intOf]; omega⟩
      · have : j = n := by omega
        subst this
        go_wp2
        go_ret
        exact ⟨rfl, MarkedB.own hm hg1 hg2 hnc hcm, hg⟩
set_option maxRecDepth 20000 in
set_option maxHeartbeats 1600000 in
theorem heldBlockS_any (A : Option Addr) (n c : Nat) (k : Int) (h0 : 0 ≤ k) (h1 : k ≤ 4611686018427387904) (hn : n ≤ 100000000) (w : World) (hR : Rd w w.heap.size 18 A n (marksB k (n * 18))) :
    Calls Try.prog 20 #[.slice A n c, .int .i64 k] w fun e w' => e = .returned (.int .i64 (k + ((n * 18 : Nat) : Int))) ∧ w = w' := by
  go_enter Try.func20, Try.ntmps20
  go_wp2_with fail
  go_loop [1, 5] (fun q i => ∃ j : Nat, j ≤ n ∧ q = .int .i64 (k + ((j * 18 : Nat) : Int)) ∧ i = .int .i64 j) (fun _ i => n - (intOf i).toNat)
  case atStart => exact ⟨0, by omega, by simp, rfl⟩
  case round =>
    obtain ⟨j, hj, rfl, rfl⟩ := hrel
    by_cases hlt : j < n
    · obtain ⟨b, o, rfl, hbB, hc⟩ := hR.at_ (by omega)
      have Hc := Lib.hid hc
      clear hc hR hbB
      go_wp2_with fail
      go_loop [1, 6] (fun q i => ∃ m : Nat, m ≤ 2 ∧ q = .int .i64 (k + ((j * 18 + m : Nat) : Int)) ∧ i = .int .i64 m) (fun _ i => 2 - (intOf i).toNat)
      case atStart => exact ⟨0, by omega, rfl, rfl⟩
      case round =>
        obtain ⟨m, hmm, rfl, rfl⟩ := hrel
        by_cases hlt2 : m < 2
        · have c1 := Hc.out (j * 18 + m) _ (marksB_at (by omega))
          rw [← Nat.add_assoc, mkB_corner k hlt2] at c1
          have hin : (j : Int) < (n : Int) := by omega
          go_wp2
          exact ⟨⟨m + 1, by omega, by congr 1; omega, by go_num⟩, by simp [intOf]; omega⟩
        · have : m = 2 := by omega
          subst this
          go_wp2_with fail
          go_loop [1, 7] (fun q i => ∃ m : Nat, m ≤ 16 ∧ q = .int .i64 (k + ((j * 18 + 2 + m : Nat) : Int)) ∧ i = .int .i64 m) (fun _ i => 16 - (intOf i).toNat)
          case atStart => exact ⟨0, by omega, rfl, rfl⟩
          case round =>
            obtain ⟨m, hmm, rfl, rfl⟩ := hrel
            by_cases hlt3 : m < 16
            · have c1 := Hc.out (j * 18 + 2 + m) _ (marksB_at (by omega))
              rw [← Nat.add_assoc, ← Nat.add_assoc, mkB_mask k hlt3] at c1
              have hin : (j : Int) < (n : Int) := by omega
              go_wp2
              exact ⟨⟨m + 1, by omega, by congr 1; omega, by go_num⟩, by simp [intOf]; omega⟩
            · have : m = 16 := by omega
              subst this
              go_wp2
              exact ⟨⟨j + 1, by omega, by congr 1; omega, by go_num⟩, by simp [intOf]; omega⟩
    · have : j = n := by omega
      subst this
      go_wp2
      go_ret
      exact ⟨rfl, rfl⟩
end Go.Proofs.Ytmagaapdijapiaa
namespace Go.Proofs.Ytmagaapdijapiaa
open Go.ChangeShapes Go.WideShapes Go.ChangeAt Go.RowKit
theorem szFrameS_in (A : Option Addr) (n c : Nat) (left : Int) (h : n ≤ left) (h2 : left ≤ 1048576) (w : World) :
    Calls Try.prog 16 #[.slice A n c, .int .i64 left] w fun e w' => e = .returned (.int .i64 (left - n)) ∧ w = w' := by
  go_enter Try.func16, Try.ntmps16
  go_wp2
  go_ret
  exact ⟨rfl, rfl⟩
theorem szFrameS_out (A : Option Addr) (n c : Nat) (left : Int) (h : left < n) (hn : n ≤ 9223372036854775807) (h0 : 0 ≤ left) (h2 : left ≤ 1048576) (w : World) :
    Calls Try.prog 16 #[.slice A n c, .int .i64 left] w fun e w' => e = .returned (.int .i64 (-1)) ∧ w = w' := by
  go_enter Try.func16, Try.ntmps16
  go_wp2
  go_ret
  exact ⟨rfl, rfl⟩
end Go.Proofs.Ytmagaapdijapiaa
namespace Go.Proofs.Ytmagaapdijapiaa
open Go.ChangeShapes Go.WideShapes Go.ChangeAt Go.RowKit

set_option maxRecDepth 100000 in
set_option maxHeartbeats 1600000 in
theorem lawReadPictureFile_in (A : Option Addr) (n c : Nat) (l : List (List Int)) (hl : l.length = n) (hrow : Rows_ 16 l) (h255 : ∀ f ∈ l, is255 f) (hn : n ≤ 1048576) (w : World) (RA : Rd w w.heap.size 16 A n (l.flatten.map (.int .u8))) :
    Calls Try.prog 4 #[.slice A n c] w fun e w' => e = .returned (.bool true) ∧ Below w.heap.size w w' := by
  have hbl : l.flatten.length = n * 16 := by rw [flat_length hrow, hl]
  have HBL := Lib.hid hbl
  have Hrow := Lib.hid hrow
  have Hl := Lib.hid hl
  have SP := Lib.hid (fun A W (hW : Rd W W.heap.size 16 A n (l.flatten.map (.int .u8))) => sReadPictureFile_any A n n l hl hrow h255 hn W hW)
  have IP := Lib.hid (fun A W (hW : Rd W W.heap.size 16 A n (l.flatten.map (.int .u8))) => iReadPictureFile_any A n n l hl hrow h255 hn (Nat.le_refl _) (by omega) W hW)
  have HRL := Lib.hid (rpL_bls l)
  have hLL := rpL_length l
  clear hl hrow hbl h255
  generalize rpL l = RES at *
  generalize rpC l = code at *
  have B0 : Below w.heap.size w w := Below.refl _ _
  go_enter Try.func4, Try.ntmps4
  go_wp2_with fail
  refine (szFrameS_in A n c (1048576) (by omega) (by omega) _).mono ?_
  rintro e wx ⟨rfl, rfl⟩
  go_wp2_with fail
  refine (toFrameS_any A n c l Hl.out Hrow.out (by omega) _ (RA.more (by omega))).mono ?_
  rintro e w1 ⟨rfl, bb0, hb1⟩
  have z1 := hb1.size
  have RA_1 := RA.below hb1 (by omega)
  have B1 := B0.trans (hb1.mono (by omega))
  clear RA hb1 B0
  have OT0 := bb0.own (n := n) (size := 16) (lo := w.heap.size) (hi := w1.heap.size) HBL.out (Nat.le_refl _) (by have := bb0.lt; omega) (by unfold maxLen; omega)
  clear bb0
  go_wp2_with fail
  refine (SP.out _ _ (OT0.rd.more (by omega))).mono ?_
  rintro e w2 ⟨AW, cW, rfl, OW, hb2⟩
  have z2 := hb2.size
  have RA_2 := RA_1.below hb2 (by omega)
  have OT0_2 := OT0.below hb2 (by omega)
  have B2 := B1.trans (hb2.mono (by omega))
  clear RA_1 OT0 hb2 B1
  go_wp2_with fail
  refine (toFrameS_any A n c l Hl.out Hrow.out (by omega) _ (RA_2.more (by omega))).mono ?_
  rintro e w3 ⟨rfl, bb1, hb3⟩
  have z3 := hb3.size
  have RA_3 := RA_2.below hb3 (by omega)
  have OW_3 := OW.below hb3 (by omega)
  have B3 := B2.trans (hb3.mono (by omega))
  clear RA_2 OW hb3 B2
  have OX0 := bb1.own (n := n) (size := 16) (lo := w2.heap.size) (hi := w3.heap.size) HBL.out (Nat.le_refl _) (by have := bb1.lt; omega) (by unfold maxLen; omega)
  clear bb1
  go_wp2_with fail
  refine (IP.out _ _ (OX0.rd.more (by omega))).mono ?_
  rintro e w4 ⟨AG, cG, rfl, OG, hb4⟩
  have z4 := hb4.size
  have RA_4 := RA_3.below hb4 (by omega)
  have OW_4 := OW_3.below hb4 (by omega)
  have OX0_4 := OX0.below hb4 (by omega)
  have B4 := B3.trans (hb4.mono (by omega))
  clear RA_3 OW_3 OX0 hb4 B3
  go_wp2_with fail
  refine (eqBlockS_same _ _ _ _ _ RES rfl HRL.out (by omega) _ (OG.rd.more (by omega)) (OW_4.rd.more (by omega))).mono ?_
  rintro e w5 ⟨rfl, hb5⟩
  have z5 := hb5.size
  have RA_5 := RA_4.below hb5 (by omega)
  have OW_5 := OW_4.below hb5 (by omega)
  have OX0_5 := OX0_4.below hb5 (by omega)
  have OG_5 := OG.below hb5 (by omega)
  have B5 := B4.trans (hb5.mono (by omega))
  clear RA_4 OW_4 OX0_4 OG hb5 B4
  go_wp2_with fail
  refine (toFrameS_any A n c l Hl.out Hrow.out (by omega) _ (RA_5.more (by omega))).mono ?_
  rintro e w6 ⟨rfl, bb2, hb6⟩
  have z6 := hb6.size
  have RA_6 := RA_5.below hb6 (by omega)
  have OW_6 := OW_5.below hb6 (by omega)
  have OX0_6 := OX0_5.below hb6 (by omega)
  have OG_6 := OG_5.below hb6 (by omega)
  have B6 := B5.trans (hb6.mono (by omega))
  clear RA_5 OW_5 OX0_5 OG_5 hb6 B5
  have OY0 := bb2.own (n := n) (size := 16) (lo := w5.heap.size) (hi := w6.heap.size) HBL.out (Nat.le_refl _) (by have := bb2.lt; omega) (by unfold maxLen; omega)
  clear bb2
  go_wp2_with fail
  refine (eqFrameS_same _ _ _ _ _ l Hl.out Hrow.out (by omega) _ (OX0_6.rd.more (by omega)) (OY0.rd.more (by omega))).mono ?_
  rintro e w7 ⟨rfl, hb7⟩
  have z7 := hb7.size
  have RA_7 := RA_6.below hb7 (by omega)
  have OW_7 := OW_6.below hb7 (by omega)
  have OX0_7 := OX0_6.below hb7 (by omega)
  have OG_7 := OG_6.below hb7 (by omega)
  have OY0_7 := OY0.below hb7 (by omega)
  have B7 := B6.trans (hb7.mono (by omega))
  clear RA_6 OW_6 OX0_6 OG_6 OY0 hb7 B6
  go_wp2_with fail
  refine (markFrameS_any _ _ _ _ _ _ (1) (by omega) (by omega) (by omega) _ OX0_7).mono ?_
  rintro e w8 ⟨rfl, _, hb8⟩
  have z8 := hb8.size
  have RA_8 := RA_7.grown hb8 (by omega) (fun g e => by have := OX0_7.blk g e; omega)
  have OW_8 := OW_7.grown hb8 (fun g e => by have := OX0_7.blk g e; omega)
  have OG_8 := OG_7.grown hb8 (fun g e => by have := OX0_7.blk g e; omega)
  have B8 := B7.grown hb8 (by omega) (fun g e => by have := OX0_7.blk g e; omega)
  clear RA_7 OW_7 OX0_7 OG_7 hb8 B7
  go_wp2_with fail
  refine (eqBlockS_same _ _ _ _ _ RES rfl HRL.out (by omega) _ (OG_8.rd.more (by omega)) (OW_8.rd.more (by omega))).mono ?_
  rintro e w9 ⟨rfl, hb9⟩
  have z9 := hb9.size
  have RA_9 := RA_8.below hb9 (by omega)
  have OW_9 := OW_8.below hb9 (by omega)
  have OG_9 := OG_8.below hb9 (by omega)
  have B9 := B8.trans (hb9.mono (by omega))
  clear RA_8 OW_8 OG_8 hb9 B8
  go_wp2_with fail
  refine (markBlockS_any _ _ _ _ _ _ 1 (by omega) (by omega) (by omega) _ OG_9).mono ?_
  rintro e w10 ⟨rfl, OM, hb10⟩
  have z10 := hb10.size
  have RA_10 := RA_9.grown hb10 (by omega) (fun g e => by have := OG_9.blk g e; omega)
  have OW_10 := OW_9.grown hb10 (fun g e => by have := OG_9.blk g e; omega)
  have B10 := B9.grown hb10 (by omega) (fun g e => by have := OG_9.blk g e; omega)
  clear RA_9 OW_9 OG_9 hb10 B9
  go_wp2_with fail
  refine (heldBlockS_any _ _ _ 1 (by omega) (by omega) (by omega) _ (OM.rd.more (by omega))).mono ?_
  rintro e wx ⟨rfl, rfl⟩
  go_wp2_with fail
  refine (toFrameS_any A n c l Hl.out Hrow.out (by omega) _ (RA_10.more (by omega))).mono ?_
  rintro e w11 ⟨rfl, bb3, hb11⟩
  have z11 := hb11.size
  have RA_11 := RA_10.below hb11 (by omega)
  have OW_11 := OW_10.below hb11 (by omega)
  have OM_11 := OM.below hb11 (by omega)
  have B11 := B10.trans (hb11.mono (by omega))
  clear RA_10 OW_10 OM hb11 B10
  have OZ0 := bb3.own (n := n) (size := 16) (lo := w10.heap.size) (hi := w11.heap.size) HBL.out (Nat.le_refl _) (by have := bb3.lt; omega) (by unfold maxLen; omega)
  clear bb3
  go_wp2_with fail
  refine (IP.out _ _ (OZ0.rd.more (by omega))).mono ?_
  rintro e w12 ⟨AH, cH, rfl, OH, hb12⟩
  have z12 := hb12.size
  have RA_12 := RA_11.below hb12 (by omega)
  have OW_12 := OW_11.below hb12 (by omega)
  have OM_12 := OM_11.below hb12 (by omega)
  have OZ0_12 := OZ0.below hb12 (by omega)
  have B12 := B11.trans (hb12.mono (by omega))
  clear RA_11 OW_11 OM_11 OZ0 hb12 B11
  go_wp2_with fail
  refine (eqBlockS_same _ _ _ _ _ RES rfl HRL.out (by omega) _ (OH.rd.more (by omega)) (OW_12.rd.more (by omega))).mono ?_
  rintro e w13 ⟨rfl, hb13⟩
  have z13 := hb13.size
  have RA_13 := RA_12.below hb13 (by omega)
  have OW_13 := OW_12.below hb13 (by omega)
  have OM_13 := OM_12.below hb13 (by omega)
  have OH_13 := OH.below hb13 (by omega)
  have B13 := B12.trans (hb13.mono (by omega))
  clear RA_12 OW_12 OM_12 OH hb13 B12
  go_wp2_with fail
  refine (heldBlockS_any _ _ _ 1 (by omega) (by omega) (by omega) _ (OM_13.rd.more (by omega))).mono ?_
  rintro e wx ⟨rfl, rfl⟩
  go_wp2
  go_ret
  exact ⟨rfl, B13⟩

set_option maxRecDepth 100000 in
set_option maxHeartbeats 400000 in
theorem lawReadPictureFile_any (A : Option Addr) (n c : Nat) (l : List (List Int)) (hl : l.length = n) (hrow : Rows_ 16 l) (h255 : ∀ f ∈ l, is255 f) (hs : n ≤ 9223372036854775807) (w : World) (hR : Rd w w.heap.size 16 A n (l.flatten.map (.int .u8))) :
    Calls Try.prog 4 #[.slice A n c] w fun e w' => e = .returned (.bool true) ∧ Below w.heap.size w w' := by
  by_cases h : n ≤ 1048576
  · exact lawReadPictureFile_in A n c l hl hrow h255 h w hR
  · clear hl hrow h255 hR
    go_enter Try.func4, Try.ntmps4
    go_wp2_with fail
    refine (szFrameS_out A n c 1048576 (by omega) (by omega) (by omega) (by omega) _).mono ?_
    rintro e wx ⟨rfl, rfl⟩
    go_wp2
    go_ret
    exact ⟨rfl, Below.refl _ _⟩
end Go.Proofs.Ytmagaapdijapiaa
