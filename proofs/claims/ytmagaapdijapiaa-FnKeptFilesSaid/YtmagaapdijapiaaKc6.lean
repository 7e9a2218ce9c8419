/- Yn, Yi, Vb, Gt, Zk in one text. -/
import Derived.Test.YtmagaapdijapiaaRows
import Derived.Test.YtmagaapdijapiaaKc2
import Derived.Test.YtmagaapdijapiaaKc5
import Derived.Test.YtmagaapdijapiaaUf
import Derived.Test.YtmagaapdijapiaaKc1
import Derived.Test.YtmagaapdijapiaaKc3
import Derived.Deep.RegionWith
import Derived.Deep.CutRange
import Derived.Deep.CutBlock
import Derived.IntWalk
import Derived.Test.YtmagaapdijapiaaPl
import Derived.Test.YtmagaapdijapiaaPk
import Derived.Test.YtmagaapdijapiaaUd
import Derived.Test.YtmagaapdijapiaaUb
import Derived.Laws.StructEq
import Derived.Test.YtmagaapdijapiaaZp
import Derived.Test.YtmagaapdijapiaaKc4
namespace Go.Proofs.Ytmagaapdijapiaa
open Go.ChangeShapes Go.WideShapes Go.ChangeAt Go.RowKit
theorem uintY {D : List Int} (h255 : is255 D) {g i m cc : Nat} (hi : i + 4 ≤ D.length) (hm : 4 ≤ m) {w : World} (hc : ∀ j u, (D.map (Value.int .u8))[j]? = some u → w.cell? ⟨g, 0 + j, none⟩ = some u) :
    Calls Try.prog 59 #[.agg #[], .slice (some ⟨g, i, none⟩) m cc] w fun e w' => e = .returned (.int .u32 (numAt D i)) ∧ Below w.heap.size w w' := by
  have hcell : ∀ j, j < D.length → w.cell? ⟨g, j, none⟩ = some (.int .u8 (D.getD j 0)) := fun j hj => by
    have := hc j (.int .u8 (D.getD j 0)) (by rw [List.getElem?_map, List.getElem?_eq_getElem hj, List.getD_eq_getElem?_getD, List.getElem?_eq_getElem hj]; rfl)
    rwa [Nat.zero_add] at this
  exact beUint32_any g i m cc _ _ _ _ w hm (h255.getD i) (h255.getD (i + 1)) (h255.getD (i + 2)) (h255.getD (i + 3)) (hcell i (by omega)) (hcell (i + 1) (by omega)) (hcell (i + 2) (by omega)) (hcell (i + 3) (by omega))
theorem Own.range_ {w : World} {lo hi : Nat} {e : TypeId} {size g n c : Nat} {xs : List Value} (h : Own w lo hi e size (some ⟨g, 0, none⟩) n c xs) : w.rangeAt g 0 xs := fun j u hu => by
  have hj := (List.getElem?_eq_some_iff.1 hu).1
  have hl := h.1
  obtain ⟨b, o, e, _, hc⟩ := h.rd.at_ (Nat.pos_of_ne_zero fun e => by rw [e, Nat.zero_mul] at hl; omega)
  cases e
  exact hc j u hu
set_option maxRecDepth 20000 in
set_option maxHeartbeats 1600000 in
theorem bytesEqN_any (g : Nat) (n c : Nat) (l : List Int) (hl : l.length = n) (h1 : is255 l) (w : World) (h : w.rangeAt g 0 (l.map (.int .u8))) :
    Calls Try.prog 60 #[.slice (some ⟨g, 0, none⟩) n c, .slice none 0 0] w fun e w' => e = .returned (.bool (l == [])) ∧ w = w' := by
  have hs := conv_bytes (c := c) hl h
  have he := strOfNums_inj h1 (b := []) (fun _ hx => nomatch hx)
  have HE := Lib.hid he
  clear he h hl h1
  generalize strOfNums l = s at *
  have hs2 : (convert 40 9 (.slice none 0 0)).run Try.prog w = .ok (.string ⟨#[]⟩) w := by first | rfl | kernel_rfl
  go_enter Try.func60, Try.ntmps60
  go_wp2
  go_ret
  have e0 : (strOfNums []).toList = [] := by rw [ByteArray.toList_eq]; rfl
  have e1 := HE.out
  rw [e0] at e1
  rw [← e1]
  cases s.toList <;> exact ⟨rfl, rfl⟩
theorem bytesEqO_any (g : Nat) (n c : Nat) (l : List Int) (hl : l.length = n) (h1 : is255 l) (A' : Option Addr) (c' : Nat) (l' : List Int) (h2 : is255 l') (w : World) {lo hi : Nat} (hO : Own w lo hi 5 1 A' l'.length c' (l'.map (.int .u8))) (h : w.rangeAt g 0 (l.map (.int .u8))) :
    Calls Try.prog 60 #[.slice (some ⟨g, 0, none⟩) n c, .slice A' l'.length c'] w fun e w' => e = .returned (.bool (l == l')) ∧ w = w' := by
  rcases hO.2 with ⟨rfl, e1, rfl⟩ | ⟨g', cs, rfl, _⟩
  · obtain rfl : l' = [] := List.eq_nil_of_length_eq_zero e1
    exact bytesEqN_any g n c l hl h1 w h
  · exact bytesEq_any g g' n l'.length c c' l l' hl rfl h1 h2 w h hO.range_
/-- a store of a corner, under a word that simp does not open -/
theorem exec_stCornerY (ρ : Operand → Value) (dst : Option Tmp) (x y : Operand) (t : TypeId) (pos : String) (after : Array Edge) (guard : Option (Nat × Bool)) :
    execOp ρ { dst := dst, op := .store 63 x y, type := t, pos := pos, after := after, guard := guard } = stRow 63 (ρ x) (ρ y) := rfl
def FitsC (W : World) (g : Nat) : Prop := W.there g 0 2
theorem run_stCornerY (W : World) (g : Nat) (a b : Int) (h : FitsC W g) : (stRow 63 (.pointer (some ⟨g, 0, none⟩)) (.agg #[.int .i32 a, .int .i32 b])).run Try.prog W = .ok .skip (W.setCells g 0 [.int .i32 a, .int .i32 b]) := by
  have := run_storeAt_mid (P := Try.prog) W g 0 63 #[.int .i32 a, .int .i32 b] h (by exact size63) (ivs_one (k := .i32) (l := [a, b]))
  unfold stRow
  rw [Sem.run_bind, this]
  rfl
theorem fitsC_blk {W : World} {g : Nat} {cs : Array Value} (h : Blk W g 63 cs) (hs : cs.size = 2) : FitsC W g := h.there _ _ (by rw [hs]; exact Nat.le_refl _)
theorem pendY {W w5 : World} {t : TypeId} {cs : Array Value} (hb : Below (W.alloc (.cells cs t)).heap.size (W.alloc (.cells cs t)) w5) : Blk w5 W.heap.size t cs := (Blk.newAt rfl rfl).below hb (by rw [size_alloc]; omega)
theorem pendY2 {W w5 : World} {t : TypeId} {cs : Array Value} (hb : Below (W.alloc (.cells cs t)).drew.heap.size (W.alloc (.cells cs t)).drew w5) : Blk w5 W.heap.size t cs := (Blk.drew (Blk.newAt rfl rfl)).below hb (by rw [World.size_drew, size_alloc]; omega)
theorem corY {W : World} {g : Nat} {z a b : Value} (h : Blk W g 63 #[z, z]) : Blk (W.setCells g 0 [a, b]) g 63 #[a, b] := h.setCellsV [a, b] 0 (Nat.le_refl 2)
/-- a block built, a slice of one block built, under words that simp does not open -/
def bldBY (x y : Value) : Sem Next := do let v ← Instr.build 78 #[(0, x), (1, y)]; pure (.value v)
def bldSY (x : Value) : Sem Next := do let v ← Instr.buildSlice 27 1 #[(0, x)]; pure (.value v)
theorem exec_bldBY (ρ : Operand → Value) (dst : Option Tmp) (x y : Operand) (t : TypeId) (pos : String) (after : Array Edge) (guard : Option (Nat × Bool)) :
    execOp ρ { dst := dst, op := .build 78 #[(0, x), (1, y)], type := t, pos := pos, after := after, guard := guard } = bldBY (ρ x) (ρ y) := by
  unfold execOp bldBY
  simp
theorem exec_bldSY (ρ : Operand → Value) (dst : Option Tmp) (x : Operand) (t : TypeId) (pos : String) (after : Array Edge) (guard : Option (Nat × Bool)) :
    execOp ρ { dst := dst, op := .buildSlice 27 1 #[(0, x)], type := t, pos := pos, after := after, guard := guard } = bldSY (ρ x) := by
  unfold execOp bldSY
  simp
theorem run_bldBY (X Y : Int) (M : List Int) (W : World) (hM : M.length = 16) : (bldBY (.agg #[.int .i32 X, .int .i32 Y]) (.agg (ivs .u16 M))).run Try.prog W = .ok (.value (.agg (bav ([X, Y], M)))) W := by
  unfold bldBY
  rw [Sem.run_bind, run_buildBlock X Y M hM W]
  rfl
theorem run_bldSY (X Y : Int) (M : List Int) (W : World) (hM : M.length = 16) : (bldSY (.agg (bav ([X, Y], M)))).run Try.prog W = .ok (.value (.slice (some ⟨W.heap.size, 0, none⟩) 1 1)) (W.alloc (.cells (bav ([X, Y], M)) 78)) := by
  obtain ⟨i0, hi, hz0, hz1, hz2⟩ := info_parts Block_info
  unfold bldSY
  rw [Sem.run_bind, run_buildSlice_block (P := Try.prog) Try.underlying27 hi hz0 hz1 ([X, Y], M) ⟨rfl, hM⟩ W]
  rfl
section
attribute [local go_sem ↓] exec_ldCorner exec_ldMask exec_stCornerY exec_bldBY exec_bldSY
attribute [local go_sem] run_ldCorner run_ldMask run_stCornerY run_bldBY run_bldSY
set_option maxRecDepth 20000 in
set_option maxHeartbeats 6400000 in
theorem iReadPictureFile_any (A : Option Addr) (n c : Nat) (l : List (List Int)) (hl : l.length = n) (hrow : Rows_ 16 l) (h255 : ∀ f ∈ l, is255 f) (hn : n ≤ 1048576) (hnc : n ≤ c) (hc63 : c ≤ 9223372036854775807) (w : World) (hR : Rd w w.heap.size 16 A n (l.flatten.map (.int .u8))) :
    Calls Try.prog 19 #[.slice A n c] w (GivesToldB (rpL l) (rpC l) w) := by
  obtain ⟨i0, hi, hz0, hz1, hz2⟩ := info_parts Block_info
  have hop := iUnpackFrames_any A n c l hl hrow h255 hn hnc hc63 w hR
  unfold GOpenL GivesOpen at hop
  have HOP := Lib.hid hop
  clear hop hR
  by_cases hC : opCode l = 0
  · have hdl := opData_length l hrow
    have hd255 := opData_255Y h255
    have hcr := opCount_rangeY h255
    have HNO := Lib.hid (rp_none hC)
    have HKD := Lib.hid (rp_kind hC)
    have HBAD := Lib.hid (fun out p => rp_bad (out := out) (p := p) hC)
    have HYES := Lib.hid (fun hK out p => rp_yes (out := out) (p := p) hC hK)
    rw [hC] at HOP
    obtain ⟨N, hN⟩ : ∃ N : Nat, opCount l = N := ⟨(opCount l).toNat, by omega⟩
    rw [hN] at HOP hcr HNO HBAD HYES
    have hN32 : (N : Int) ≤ 4294967295 := hcr.2
    simp only [Int.toNat_natCast] at HNO HBAD HYES
    have HD255 := Lib.hid hd255
    clear hd255 hN h255 hl hrow hC hcr
    generalize opData l = D at *
    generalize rpL l = RL at *
    generalize rpC l = RC at *
    generalize opKind l = K at *
    go_enter Try.func19, Try.ntmps19
    go_wp2_with (go_at_call 57; refine HOP.out.mono ?_; rintro e w2 ⟨A2, c2, rfl, hO2, hb2⟩; have HB2 := Lib.hid hb2; have HO2 := Lib.hid hO2; clear hO2 hb2)
    have o0 : (w2.alloc (.cells #[] 78)).ownsRow w2.heap.size 78 18 (.slice (some ⟨w2.heap.size, 0, none⟩) 0 0) 0 (bcs []) := World.ownsRow_lit (e := 78) (base := w2.heap.size) (size := 18) w2 #[] 0 (Nat.le_refl _) (by unfold maxLen; omega) rfl
    have O0 := Lib.hid o0
    clear o0 HOP
    have zz2 := HB2.out.size
    have hcap : D.length ≤ c2 := HO2.out.len
    have hc2m : c2 ≤ 9223372036854775807 := HO2.out.capLe
    have HA2 : Hid (∀ (h : 0 < D.length), ∃ g2, A2 = some ⟨g2, 0, none⟩) := Lib.hid (fun h => by
      obtain ⟨g2, cur2, hA2, _⟩ := HO2.out.at_ (by omega)
      exact ⟨g2, hA2⟩)
    go_loopw [8, 9, 27] (fun v r i wr => ∃ (k p g cc m : Nat) (AR : Option Addr) (out : List Bl), k ≤ N ∧ i = .int .i64 k ∧ r = .slice AR (D.length - p) (c2 - p) ∧ v = .slice (some ⟨g, 0, none⟩) m cc ∧ Hid (∀ g2, A2 = some ⟨g2, 0, none⟩ → p < D.length → AR = some ⟨g2, p, none⟩) ∧ Hid (m = out.length) ∧ Hid (rdTo D k = some (out, p)) ∧ Hid (wr.ownsRow w2.heap.size 78 18 (.slice (some ⟨g, 0, none⟩) m cc) m (bcs out)) ∧ Hid (Below w2.heap.size w2 wr)) (fun _ _ i _ => N - (intOf i).toNat)
    case atStart => exact ⟨0, 0, _, _, 0, A2, [], by omega, rfl, rfl, rfl, Lib.hid (fun g2 h _ => h), Lib.hid rfl, Lib.hid rfl, O0, Lib.hid ((Below.refl _ _).alloc (Nat.le_refl _) _)⟩
    case round =>
      clear O0
      obtain ⟨k, p, g, cc, m, AR, out, hk, rfl, rfl, rfl, HAR, HM, HT, HO, HB⟩ := hrel
      obtain ⟨t1, t2, t3, t4, t5⟩ := rdTo_in HT.out
      have t6 := rdTo_far HT.out
      have HMK : Hid (m = k) := Lib.hid (by rw [HM.out, t1])
      have HT3 := Lib.hid t3
      have HT4 := Lib.hid t4
      have HT5 := Lib.hid t5
      have hBw : Below w.heap.size w wr := HB2.out.trans (HB.out.mono zz2)
      have HBw := Lib.hid hBw
      clear t3 t4 t5 hBw
      have hpi : (p : Int) ≤ D.length := by omega
      by_cases hlt : k < N
      · have hki : (k : Int) < N := by omega
        have HFAIL : Hid (okD D p = false → Hid (RL = [] ∧ RC = 5)) := Lib.hid (fun ho => Lib.hid (HNO.out (rdTo_none (rdTo_no HT.out ho) (by omega))))
        have hokd : okD D p = (decide (p + 9 ≤ D.length) && (decide (p + 9 + szOf D p ≤ D.length) && (unC (partD D p) == 0))) := rfl
        by_cases h9 : p + 9 ≤ D.length
        · obtain ⟨g2, hA2⟩ := HA2.out (by omega)
          have hAR := HAR.out g2 hA2 (by omega)
          subst hA2 hAR
          have HRW : Hid (∀ W, Below wr.heap.size wr W → Rd W w2.heap.size 1 (some ⟨g2, 0, none⟩) D.length (D.map (.int .u8))) := Lib.hid (fun W hb => (HO2.out.rd.below HB.out (Nat.le_refl _)).below hb HB.out.size)
          have HNUM : Hid (∀ W0 W i m cc, Below wr.heap.size wr W0 → wr.heap.size ≤ W0.heap.size → Below W0.heap.size W0 W → i + 4 ≤ D.length → 4 ≤ m → Calls Try.prog 59 #[.agg #[], .slice (some ⟨g2, i, none⟩) m cc] W fun e w' => e = .returned (.int .u32 (numAt D i)) ∧ Below W.heap.size W w' ∧ Below W0.heap.size W0 w') := Lib.hid (fun W0 W i m cc hb0 hz0 hb hi hm => by
            obtain ⟨b', o', hA', hb', hc⟩ := (HRW.out W (hb0.trans (hb.mono hz0))).at_ (by omega)
            cases hA'
            refine (uintY HD255.out hi hm hc).mono ?_
            rintro e w' ⟨h1, h2⟩
            exact ⟨h1, h2, hb.trans (h2.mono hb.size)⟩)
          have c8 : wr.cell? ⟨g2, p + 8, none⟩ = some (.int .u8 (D.getD (p + 8) 0)) := by
            obtain ⟨b', o', hA', hb', hc⟩ := (HRW.out wr (Below.refl _ _)).at_ (by omega)
            cases hA'
            have := hc (p + 8) (.int .u8 (D.getD (p + 8) 0)) (by rw [List.getElem?_map, List.getElem?_eq_getElem (by omega), List.getD_eq_getElem?_getD, List.getElem?_eq_getElem (by omega)]; rfl)
            rwa [Nat.zero_add] at this
          have hwr := HB.out.size
          obtain ⟨L, hL⟩ : ∃ L, D.length - p = L := ⟨_, rfl⟩
          obtain ⟨C, hCC⟩ : ∃ C, c2 - p = C := ⟨_, rfl⟩
          rw [hL, hCC]
          have l9 : (9 : Int) ≤ L := by omega
          have l8 : (8 : Int) < L := by omega
          have hLC : (L : Int) ≤ C := by omega
          have hz255 := HD255.out.getD (p + 8)
          have hsz : szOf D p = if D.getD (p + 8) 0 = 0 then 256 else (D.getD (p + 8) 0).toNat := rfl
          generalize D.getD (p + 8) 0 = z at *
          obtain ⟨z0, z1⟩ := hz255
          have HSZ := Lib.hid hsz
          have s1 : 1 ≤ szOf D p := by rw [hsz]; split <;> omega
          have s2 : szOf D p ≤ 256 := by rw [hsz]; split <;> omega
          clear hsz
          go_upto_if 37 with fail
          go_cut [10] from 36 to 37 (fun v wx => v = .int .i64 ((szOf D p : Nat) : Int) ∧ wx = wr)
          case first =>
            by_cases hz0 : z = 0
            · subst hz0
              go_wp2_with fail
              go_meet
              exact ⟨by rw [HSZ.out]; simp, rfl⟩
            · go_wp2_with fail
              go_meet
              exact ⟨by rw [HSZ.out, if_neg hz0]; congr 1; omega, rfl⟩
          case rest =>
            obtain ⟨rfl, rfl⟩ := hcut
            have hpd : partD D p = (D.drop (p + 9)).take (szOf D p) := rfl
            have HYS : Hid (okD D p = true → rdTo D (k + 1) = some (out ++ [blkAtD D p], p + 9 + szOf D p)) := Lib.hid (fun h => rdTo_yes HT.out h)
            generalize szOf D p = s at *
            clear HSZ c8
            by_cases h2 : p + 9 + s ≤ D.length
            · have h2i : (9 : Int) + s ≤ L := by omega
              have v1 : ¬ C = 9 := by omega
              have v2 : (9 : Int) + s ≤ C := by omega
              have hpl : (partD D p).length = s := by rw [hpd, List.length_take, List.length_drop]; omega
              have hp255 : is255 (partD D p) := fun x hx => HD255.out x (List.mem_of_mem_drop (List.mem_of_mem_take (by rw [← hpd]; exact hx)))
              have HUN : Hid (∀ cc, Calls Try.prog 58 #[.slice (some ⟨g2, p + 9, none⟩) s cc] wc (GivesU (unM (partD D p)) (unC (partD D p)) wc)) := Lib.hid (fun cc => iUnpackMask_any _ s cc (partD D p) hpl hp255 s2 wc (by
                have := ((HRW.out wc (Below.refl _ _)).more hwr)
                have h3 := this.partY (p + 9) s (by omega)
                rw [← hpd, Nat.zero_add] at h3
                exact h3))
              unfold GivesU at HUN
              have hM : (unM (partD D p)).length = 16 := by
                rw [unM]
                split
                · exact (decA_ok _).1
                · rfl
              have hbk : blkAtD D p = (corD D p, unM (partD D p)) := rfl
              rw [hbk] at HYS
              rw [decide_eq_true h9, decide_eq_true h2] at hokd
              have hcor : corD D p = [IntKind.i32.wrap (numAt D p), IntKind.i32.wrap (numAt D (p + 4))] := rfl
              clear hpl hp255 hpd hbk
              generalize unM (partD D p) = M at *
              generalize unC (partD D p) = CU at *
              by_cases hcu : CU = 0
              · subst hcu
                have HY2 := Lib.hid (HYS.out (by rw [hokd]; rfl))
                have HM16 := Lib.hid hM
                have hm4 : m ≤ 1000 := by have := HMK.out; omega
                rw [hcor] at HY2
                clear hokd HFAIL HYES HBAD HNO HYS hM HT3 HT4 HT5 t1 t2 t6 HT HKD hcor
                go_upto_region 17 with (first
                  | (go_at_call 58; refine (HUN.out _).mono ?_; rintro e w5 ⟨rfl, hb5⟩; have hz5 := hb5.size; have B5 := Lib.hid hb5; clear hb5)
                  | (refine wpList_store_row rfl _ _ _ rfl w5.heap.size (ivs .u16 M) rfl rfl 76 (ivs .u16 zr16) (Blk.newAt rfl rfl) (by rw [ivs_size, HM16.out]; exact size76) (by first | (rw [ivs_size, ivs_size, HM16.out]; rfl) | rw [ivs_size, ivs_size, HM16.out]) ivs_one ?_; generalize hw6 : World.setRow _ _ _ = w6; have G6 : Hid (Blk w6 w5.heap.size 76 (ivs .u16 M)) := Lib.hid (by rw [← hw6]; exact (Blk.newAt rfl rfl).row _); have hb6 : Below w5.heap.size w5 w6 := (by rw [← hw6]; exact below_setRow ((Below.refl _ _).alloc (Nat.le_refl _) _) (Nat.le_refl _) _); clear hw6; have B6 := Lib.hid (B5.out.trans (hb6.mono hz5)); clear hb6))
                have g5 := G6.out.lt
                have z6 := B6.out.size
                have HN6 : Hid (∀ W i m cc, Below w6.heap.size w6 W → i + 4 ≤ D.length → 4 ≤ m → Calls Try.prog 59 #[.agg #[], .slice (some ⟨g2, i, none⟩) m cc] W fun e w' => e = .returned (.int .u32 (numAt D i)) ∧ Below W.heap.size W w' ∧ Below w6.heap.size w6 w') := Lib.hid (fun W i m cc hb hi hm => HNUM.out w6 W i m cc B6.out z6 hb hi hm)
                clear HNUM
                go_cut [13] from 53 to 62 (fun v wx => ∃ b, v = .pointer (some ⟨b, 0, none⟩) ∧ Hid (Blk wx b 63 #[.int .i32 (IntKind.i32.wrap (numAt D p)), .int .i32 (IntKind.i32.wrap (numAt D (p + 4)))]) ∧ Hid (Below w6.heap.size w6 wx))
                case first =>
                  have hfa : ∀ W : World, FitsC (W.alloc (.cells #[.int .i32 0, .int .i32 0] 63)) W.heap.size := fun W => fitsC_blk (Blk.newAt rfl rfl) rfl
                  have u1 : ¬ C = 4 := by omega
                  have u2 : (4 : Int) ≤ L := by omega
                  have u3 : (4 : Int) ≤ C := by omega
                  have u4 : p + 4 + 4 ≤ D.length := by omega
                  have u5 : 4 ≤ L := by omega
                  have u6 : 4 ≤ L - 4 := by omega
                  clear HRW HY2 HUN HMK HM HO HB HBw HB2 HO2 HD255 HAR HA2 v1 v2 h2i h2 h9 hki hlt hk hpi
                  go_region_law (go_simp; go_at_call 59; refine (HN6.out _ _ _ _ ?_ ?_ ?_).mono ?_; (first | exact below_drew (Below.refl _ _) | exact (below_drew (Below.refl _ _)).alloc (Nat.le_refl _) _ | exact hd.out | exact hd.out.alloc hd.out.size _); omega; omega; rintro e w7 ⟨rfl, hb7, hd7⟩; (first | have hk := Lib.hid (Blk.below (cs := #[.int .i32 0, .int .i32 0]) hk.out hb7 hk.out.lt) | have hk := Lib.hid (pendY hb7) | have hk := Lib.hid (pendY2 hb7) | skip); (first | have hft := fitsC_blk hk.out rfl | skip); have hd := Lib.hid hd7; have hz7 := hd7.size; clear hb7 hd7)
                  all_goals
                    go_wp2_with fail
                    go_meet
                    refine ⟨_, rfl, Lib.hid (corY (z := .int .i32 0) ?_), Lib.hid (below_setCells ?_ _ _ ?_)⟩
                    · first | exact hk.out | exact Blk.newAt rfl rfl
                    · first | exact Nat.le_refl _ | omega
                    · first | exact hd.out | exact hd.out.alloc hd.out.size _
                case rest =>
                  obtain ⟨b, rfl, HBL, HB7⟩ := hcut
                  generalize IntKind.i32.wrap (numAt D p) = X at *
                  generalize IntKind.i32.wrap (numAt D (p + 4)) = Y at *
                  have b7 := B6.out.trans (HB7.out.mono z6)
                  have K7 := Lib.hid (G6.out.below HB7.out g5)
                  have B7 : Hid (Below w2.heap.size w2 wc) := Lib.hid (HB.out.trans (b7.mono hwr))
                  have O7 := Lib.hid (own_below HO.out b7 (Nat.le_refl _))
                  have hbb : ([X, Y] : List Int).length = 2 ∧ M.length = 16 := ⟨rfl, HM16.out⟩
                  have HBB := Lib.hid hbb
                  have HCL := Lib.hid (show (bcs [(([X, Y], M) : Bl)]).length = 1 * 18 by rw [bcs_length (bls_one hbb)]; rfl)
                  have HBI : Hid (Blk wc.drew b 63 (ivs .i32 [X, Y])) := Lib.hid HBL.out.drew
                  obtain ⟨r1, r3⟩ : rowAt wc.drew b 0 2 = #[.int .i32 X, .int .i32 Y] ∧ hasRow wc.drew b 0 2 = true := ⟨HBI.out.rowAt_eq rfl, HBI.out.hasRow_eq rfl⟩
                  have r2 := K7.out.drew.rowAt_eq HM16.out
                  have r4 := K7.out.drew.hasRow_eq HM16.out
                  have hm16 := HM16.out
                  have HNW : Hid (∀ j u, (bcs [(([X, Y], M) : Bl)])[j]? = some u → (wc.alloc (.cells (bav ([X, Y], M)) 78)).drew.cell? ((⟨wc.heap.size, 0, none⟩ : Addr).add j) = some u) := Lib.hid (block_news wc ([X, Y], M))
                  have HOA : Hid ((wc.alloc (.cells (bav ([X, Y], M)) 78)).drew.ownsRow w2.heap.size 78 18 (.slice (some ⟨g, 0, none⟩) m cc) m (bcs out)) := Lib.hid (O7.out.alloc (.cells (bav ([X, Y], M)) 78))
                  have BA : Hid (Below w2.heap.size w2 (wc.alloc (.cells (bav ([X, Y], M)) 78)).drew) := Lib.hid (below_drew (B7.out.alloc B7.out.size (.cells (bav ([X, Y], M)) 78)))
                  have q1 : ¬ C = 9 := by omega
                  have q2 : p + 9 + s ≤ D.length := h2
                  clear HRW HUN HMK HO HB HBw HB2 HO2 HD255 HAR HBL HBI HB7 K7 B7 O7 G6 B6 b7 HN6 hbb
                  have y1 : IntKind.i64.wrap ((9 : Int) + s) = (9 : Int) + s := IntWalk.i64_in _ (by omega)
                  have y2 : (0 : Int) ≤ (9 : Int) + s := by omega
                  have y3 : ((9 : Int) + s).toNat = 9 + s := by omega
                  by_cases hcp : C = 9 + s
                  · go_upto_region 18 with fail
                    go_region_law (refine step_append_own rfl (.tmp 63) (.tmp 67) 27 rfl w2.heap.size 78 i0 _ 18 40 Try.underlying27 hi hz0 hz1 hz2 rfl (by decide) (.slice (some ⟨g, 0, none⟩) m cc) m _ (by simp [Act.eval]) HOA.out ⟨wc.heap.size, 0, none⟩ 1 1 (bcs [([X, Y], M)]) (by simp [Act.eval]) HCL.out HNW.out (bcs_one _) (by unfold maxLen; omega) (by omega) BA.out.size ?_; intro v8 w8 hown8 hgrow8; rw [← bcs_append] at hown8; obtain ⟨g8, c8, rfl⟩ := own_some hown8 (by omega); have HO8 := Lib.hid hown8; have HG8 := Lib.hid hgrow8; clear hown8 hgrow8)
                    all_goals
                      go_wp2
                      exact ⟨⟨k + 1, p + 9 + s, g8, c8, m + 1, _, out ++ [([X, Y], M)], by omega, by go_num, by rw [show D.length - (p + 9 + s) = L - (9 + s) by omega, show c2 - (p + 9 + s) = 0 by omega], rfl, Lib.hid (fun g3 e h => by omega), Lib.hid (by rw [List.length_append, HM.out]; rfl), HY2, HO8, Lib.hid (BA.out.grown HG8.out BA.out.size (fun j e => (HOA.out.lt _ e).1))⟩, by simp [intOf]; omega⟩
                  · go_upto_region 18 with fail
                    go_region_law (refine step_append_own rfl (.tmp 63) (.tmp 67) 27 rfl w2.heap.size 78 i0 _ 18 40 Try.underlying27 hi hz0 hz1 hz2 rfl (by decide) (.slice (some ⟨g, 0, none⟩) m cc) m _ (by simp [Act.eval]) HOA.out ⟨wc.heap.size, 0, none⟩ 1 1 (bcs [([X, Y], M)]) (by simp [Act.eval]) HCL.out HNW.out (bcs_one _) (by unfold maxLen; omega) (by omega) BA.out.size ?_; intro v8 w8 hown8 hgrow8; rw [← bcs_append] at hown8; obtain ⟨g8, c8, rfl⟩ := own_some hown8 (by omega); have HO8 := Lib.hid hown8; have HG8 := Lib.hid hgrow8; clear hown8 hgrow8)
                    all_goals
                      go_wp2
                      exact ⟨⟨k + 1, p + 9 + s, g8, c8, m + 1, _, out ++ [([X, Y], M)], by omega, by go_num, by rw [show D.length - (p + 9 + s) = L - (9 + s) by omega, show c2 - (p + 9 + s) = C - (9 + s) by omega], rfl, Lib.hid (fun g3 e h => by cases e; rw [← Nat.add_assoc]), Lib.hid (by rw [List.length_append, HM.out]; rfl), HY2, HO8, Lib.hid (BA.out.grown HG8.out BA.out.size (fun j e => (HOA.out.lt _ e).1))⟩, by simp [intOf]; omega⟩
              · have HF := HFAIL.out (by rw [hokd, beq_eq_false_iff_ne.2 hcu]; rfl)
                have HM16 := Lib.hid hM
                clear hokd HFAIL HYES HBAD HNO HYS hM HNUM HT3 HT4 HT5 t1 t2 t6 HO HT HKD
                go_wp2_with (first
                  | (go_at_call 58; refine (HUN.out _).mono ?_; rintro e w5 ⟨rfl, hb5⟩; have B5 := Lib.hid (HBw.out.trans (hb5.mono HBw.out.size)); clear hb5)
                  | (refine wpList_store_row rfl _ _ _ rfl w5.heap.size (ivs .u16 M) rfl rfl 76 (ivs .u16 zr16) (Blk.newAt rfl rfl) (by rw [ivs_size, HM16.out]; exact size76) (by first | (rw [ivs_size, ivs_size, HM16.out]; rfl) | rw [ivs_size, ivs_size, HM16.out]) ivs_one ?_; generalize hw6 : World.setRow _ _ _ = w6; have hb6 : Below w5.heap.size w5 w6 := (by rw [← hw6]; exact below_setRow ((Below.refl _ _).alloc (Nat.le_refl _) _) (Nat.le_refl _) _); clear hw6; have B6 := Lib.hid (B5.out.trans (hb6.mono B5.out.size)); clear hb6))
                go_ret2
                obtain ⟨e1, e2⟩ := HF.out
                rw [e1, e2]
                exact GivesToldB.nil B6.out
            · have HF := HFAIL.out (by rw [hokd, decide_eq_false h2, Bool.false_and, Bool.and_false])
              have h2i : (L : Int) < (9 : Int) + s := by omega
              clear hokd HFAIL
              go_wp2
              go_ret2
              obtain ⟨e1, e2⟩ := HF.out
              rw [e1, e2]
              exact GivesToldB.nil HBw.out
        · have HF := HFAIL.out (by rw [hokd, decide_eq_false h9]; rfl)
          have h9i : ((D.length - p : Nat) : Int) < 9 := by omega
          clear hokd HFAIL h9
          go_wp2
          go_ret2
          obtain ⟨e1, e2⟩ := HF.out
          rw [e1, e2]
          exact GivesToldB.nil HBw.out
      · obtain rfl : k = N := by omega
        have hp1 : m ≤ 1048576 := by have := HMK.out; omega
        by_cases hK : K = 2
        · subst hK
          have HVP := Lib.hid (fun W hW => iValidPicture_any (some ⟨g, 0, none⟩) m cc out HM.out.symm HT3.out HT4.out HT5.out hp1 W hW)
          have HPD := Lib.hid (fun W hW => pictureData_any (some ⟨g, 0, none⟩) m cc out HM.out.symm HT3.out HT4.out hp1 W hW)
          have HEQ : Hid (∀ g1 c1 W, Below w2.heap.size w2 W → W.rangeAt g1 0 ((picD out).map (.int .u8)) → Calls Try.prog 60 #[.slice (some ⟨g1, 0, none⟩) (picD out).length c1, .slice A2 D.length c2] W fun e w' => e = .returned (.bool (picD out == D)) ∧ W = w') := Lib.hid (fun g1 c1 W hb hr => bytesEqO_any g1 _ c1 (picD out) rfl (picD_255 out) A2 c2 D HD255.out W (HO2.out.below hb (Nat.le_refl _)) hr)
          have HGB := Lib.hid (fun hb => HBAD.out out p HT.out hb)
          have HGY := Lib.hid (HYES.out rfl out p HT.out)
          obtain ⟨A1, c1', hve, hO1⟩ := Own.of_row HO.out
          cases hve
          have HO1 := Lib.hid hO1
          unfold GivesD at HPD
          clear hO1 HAR HYES HBAD HNO HT3 HT4 HT5 HT t1 t2 t6 HKD HO HD255 HO2 HA2
          cases hv : vpB out
          · rw [hv] at HVP
            have HE := HGB.out (.inl hv)
            clear HGB HGY HPD HEQ
            go_wp2_with (go_at_call 33; refine (HVP.out _ ((HO1.out.rd).more (by omega))).mono ?_; rintro e w5 ⟨rfl, hb5⟩; have B5 := Lib.hid (HBw.out.trans (hb5.mono HBw.out.size)); clear hb5)
            go_ret2
            rw [HE.1, HE.2]
            exact GivesToldB.nil B5.out
          · rw [hv] at HVP
            cases hd : (picD out == D)
            · have HE := HGB.out (.inr (beq_eq_false_iff_ne.1 hd))
              rw [hd] at HEQ
              clear HGB HGY
              go_wp2_with (first
                | (go_at_call 33; refine (HVP.out _ ((HO1.out.rd).more (by omega))).mono ?_; rintro e w5 ⟨rfl, hb5⟩; have C5 := Lib.hid (HB.out.trans (hb5.mono HB.out.size)); have B5 := Lib.hid (HBw.out.trans (hb5.mono HBw.out.size)); have Q5 := Lib.hid (HO1.out.below hb5 (Nat.le_refl _)); have z5 := hb5.size; clear hb5)
                | (go_at_call 48; refine (HPD.out _ ((Q5.out.rd).more z5)).mono ?_; rintro e w6 ⟨g6, c6, rfl, hO6, hb6⟩; have C6 := Lib.hid (C5.out.trans (hb6.mono C5.out.size)); have B6 := Lib.hid (B5.out.trans (hb6.mono B5.out.size)); have R6 := Lib.hid hO6.range_; clear hO6 hb6)
                | (go_at_call 60; refine (HEQ.out _ _ _ C6.out R6.out).mono ?_; rintro e w7 ⟨rfl, rfl⟩))
              go_ret2
              rw [HE.1, HE.2]
              exact GivesToldB.nil B6.out
            · have HE := HGY.out hv (beq_iff_eq.1 hd)
              rw [hd] at HEQ
              clear HGB HGY
              go_wp2_with (first
                | (go_at_call 33; refine (HVP.out _ ((HO1.out.rd).more (by omega))).mono ?_; rintro e w5 ⟨rfl, hb5⟩; have C5 := Lib.hid (HB.out.trans (hb5.mono HB.out.size)); have B5 := Lib.hid (HBw.out.trans (hb5.mono HBw.out.size)); have Q5 := Lib.hid (HO1.out.below hb5 (Nat.le_refl _)); have z5 := hb5.size; clear hb5)
                | (go_at_call 48; refine (HPD.out _ ((Q5.out.rd).more z5)).mono ?_; rintro e w6 ⟨g6, c6, rfl, hO6, hb6⟩; have C6 := Lib.hid (C5.out.trans (hb6.mono C5.out.size)); have B6 := Lib.hid (B5.out.trans (hb6.mono B5.out.size)); have R6 := Lib.hid hO6.range_; have Q6 := Lib.hid (Q5.out.below hb6 z5); have z6 := hb6.size; clear hO6 hb6)
                | (go_at_call 60; refine (HEQ.out _ _ _ C6.out R6.out).mono ?_; rintro e w7 ⟨rfl, rfl⟩))
              go_ret2
              rw [HE.1, HE.2]
              exact ⟨_, _, by rw [← HM.out]; rfl, by rw [← HM.out]; exact (Q6.out.less zz2).more (by omega), B6.out⟩
        · have HE := HKD.out hK
          clear HAR HYES HBAD HNO HT3 HT4 HT5 HT t1 t2 t6 HKD HO HD255 HO2 HA2
          go_wp2
          go_ret2
          rw [HE.1, HE.2]
          exact GivesToldB.nil HBw.out
  · obtain ⟨e1, e2⟩ := rp_code hC
    have E := Lib.hid (And.intro e1 e2)
    clear e1 e2 hl hrow h255
    generalize opKind l = K at *
    generalize opCount l = M at *
    generalize opData l = D at *
    generalize opCode l = C at *
    go_enter Try.func19, Try.ntmps19
    go_wp2_with (go_at_call 57; refine HOP.out.mono ?_; rintro e w2 ⟨A2, c2, rfl, hO2, hb2⟩; have HB2 := Lib.hid hb2; clear hO2 hb2)
    go_ret2
    rw [E.out.1, E.out.2]
    exact GivesToldB.nil HB2.out
end
end Go.Proofs.Ytmagaapdijapiaa
namespace Go.Proofs.Ytmagaapdijapiaa
open Go.ChangeShapes Go.WideShapes Go.ChangeAt Go.RowKit
theorem Own.capY {w : World} {lo hi : Nat} {e : TypeId} {size : Nat} {A : Option Addr} {n c : Nat} {xs : List Value} (h : Own w lo hi e size A n c xs) : c ≤ 9223372036854775807 := by
  rcases h.2 with ⟨_, _, rfl⟩ | ⟨g, cur, h1, h2, h3, h4, h5, h6, _⟩
  · omega
  · unfold maxLen at h6; exact h6
def GivesFp (fs : List (List Int)) (code : Int) (w : World) (e : Ending) (w' : World) : Prop :=
  ∃ A c, e = .returned (.tuple #[.slice A fs.length c, .int .i64 code]) ∧ Own w' w.heap.size w'.heap.size 87 16 A fs.length c (fs.flatten.map (.int .u8)) ∧ Below w.heap.size w w'
theorem GivesFp.nil {w w' : World} {k : Int} (hb : Below w.heap.size w w') : GivesFp [] k w (.returned (.tuple #[.slice none 0 0, .int .i64 k])) w' := ⟨none, 0, rfl, ⟨rfl, .inl ⟨rfl, rfl, rfl⟩⟩, hb⟩
theorem GivesFp.lit {w w1 : World} {k : Int} (hb : Below w.heap.size w w1) : GivesFp [] k w (.returned (.tuple #[.slice (some ⟨w1.heap.size, 0, none⟩) 0 0, .int .i64 k])) (w1.alloc (.cells #[] 87)) := by
  have h0 := World.ownsRow_lit (e := 87) (base := w.heap.size) (size := 16) w1 #[] 0 hb.size (by unfold maxLen; omega) rfl
  obtain ⟨A, c, he, ho⟩ := Own.of_row h0
  cases he
  exact ⟨_, _, rfl, ho, hb.alloc hb.size _⟩
set_option maxRecDepth 20000 in
set_option maxHeartbeats 1600000 in
theorem iPictureFile_any (A : Option Addr) (n c : Nat) (l : List Bl) (hl : l.length = n) (hrow : Bls l) (h16 : ∀ b ∈ l, is16 b.2) (h32 : ∀ b ∈ l, ∀ x ∈ b.1, -2147483648 ≤ x ∧ x ≤ 2147483647) (hn : n ≤ 1048576) (w : World) (hR : Rd w w.heap.size 18 A n (bcs l)) :
    Calls Try.prog 10 #[.slice A n c] w (GivesFp (pfF l) (pfC l) w) := by
  have ho := fun W h => iValidPicture_any A n c l hl hrow h16 h32 hn W h
  cases hok : vpB l
  · have e1 : pfF l = [] := by rw [pfF, hok, if_neg (by simp)]
    have e2 : pfC l = 1 := by rw [pfC, hok]; rfl
    rw [e1, e2]
    rw [hok] at ho
    clear hok hrow h16 h32 hl e1 e2
    go_enter Try.func10, Try.ntmps10
    go_wp2_with (go_at_call 33; refine (ho _ (hR.more (by first | exact Nat.le_refl _ | omega))).mono ?_; rintro e w1 ⟨rfl, b1⟩)
    go_ret2
    exact GivesFp.nil b1
  · rw [hok] at ho
    have hfew := hok
    rw [vpB, Bool.and_eq_true, decide_eq_true_iff] at hfew
    have hn64 : n ≤ 64 := by have := hfew.2; omega
    have HD := Lib.hid (fun W h => pictureData_any A n c l hl hrow h16 hn W h)
    by_cases h8 : (picD l).length ≤ 8192
    · have e1 : pfF l = packOf 2 n (picD l) := by rw [pfF, if_pos ⟨hok, h8⟩, hl]
      have e2 : pfC l = 0 := by rw [pfC, hok, if_pos rfl, if_pos h8]
      rw [e1, e2]
      clear hok hfew hrow h16 h32 hl e1 e2
      generalize picD l = D at *
      have h8I : (D.length : Int) ≤ 8192 := by omega
      go_enter Try.func10, Try.ntmps10
      go_wp2_with (first
        | (go_at_call 33; refine (ho _ (hR.more (by first | exact Nat.le_refl _ | omega))).mono ?_; rintro e w1 ⟨rfl, b1⟩)
        | (go_at_call 48; refine (HD.out _ ((hR.below b1 (Nat.le_refl _)).more b1.size)).mono ?_; rintro e w2 ⟨g2, c2, rfl, hO, b2⟩; have HO := Lib.hid hO; have B2 := Lib.hid (b1.trans (b2.mono b1.size)); clear hO b2)
        | (go_at_call 49; refine (packFrames_any g2 0 D.length c2 2 n (by omega) (by omega) (by omega) (by omega) D rfl h8 HO.out.len HO.out.capY _ HO.out.rd).mono ?_; rintro e w3 ⟨A3, c3, rfl, hO3, b3⟩; have HO3 := Lib.hid hO3; have B3 := Lib.hid (B2.out.trans (b3.mono B2.out.size)); clear hO3 b3))
      go_ret2
      exact ⟨A3, c3, rfl, HO3.out.less B2.out.size, B3.out⟩
    · have e1 : pfF l = [] := by rw [pfF, if_neg (fun h => h8 h.2)]
      have e2 : pfC l = 3 := by rw [pfC, hok, if_pos rfl, if_neg h8]
      rw [e1, e2]
      clear hok hfew hrow h16 h32 hl e1 e2
      generalize picD l = D at *
      have h8I : (8192 : Int) < (D.length : Int) := by omega
      go_enter Try.func10, Try.ntmps10
      go_wp2_with (first
        | (go_at_call 33; refine (ho _ (hR.more (by first | exact Nat.le_refl _ | omega))).mono ?_; rintro e w1 ⟨rfl, b1⟩)
        | (go_at_call 48; refine (HD.out _ ((hR.below b1 (Nat.le_refl _)).more b1.size)).mono ?_; rintro e w2 ⟨g2, c2, rfl, hO, b2⟩; have B2 := Lib.hid (b1.trans (b2.mono b1.size)); clear hO b2))
      go_ret2
      exact GivesFp.nil B2.out
end Go.Proofs.Ytmagaapdijapiaa
namespace Go.Proofs.Ytmagaapdijapiaa
open Go.ChangeShapes Go.WideShapes Go.ChangeAt Go.RowKit

set_option maxHeartbeats 400000 in
theorem a2Long_in (A A2 : Option Addr) (n c n2 c2 : Nat) (hn : n ≤ 3000) (hn2 : n2 ≤ 3000) (w : World) :
    Calls Try.prog 21 #[.slice A n c, .slice A2 n2 c2] w fun e w' => e = .returned (.bool false) ∧ w = w' := by
  go_enter Try.func21, Try.ntmps21
  go_wp2
  go_ret
  exact ⟨by simp; omega, rfl⟩
set_option maxHeartbeats 400000 in
theorem a2Long_out (A A2 : Option Addr) (n c n2 c2 : Nat) (h : 3000 < n ∨ 3000 < n2) (w : World) :
    Calls Try.prog 21 #[.slice A n c, .slice A2 n2 c2] w fun e w' => e = .returned (.bool true) ∧ w = w' := by
  by_cases h1 : 3000 < n
  · have h2 : (3000 : Int) < (n : Int) := by omega
    clear h
    go_enter Try.func21, Try.ntmps21
    go_wp2
    go_ret
    exact ⟨rfl, rfl⟩
  · have h2 : (n : Int) ≤ 3000 := by omega
    have h3 : (3000 : Int) < (n2 : Int) := by omega
    clear h
    go_enter Try.func21, Try.ntmps21
    go_wp2
    go_ret
    exact ⟨rfl, rfl⟩

def atOf (l : List Int) (i : Nat) (m : Int) : Int := if i < l.length then l.getD i 0 % m else 0
theorem atOf_range (l : List Int) (i : Nat) {m : Int} (hm : 1 ≤ m) : 0 ≤ atOf l i m ∧ atOf l i m < m := by
  unfold atOf
  split
  · exact ⟨Int.emod_nonneg _ (by omega), Int.emod_lt_of_pos _ (by omega)⟩
  · omega
set_option maxHeartbeats 400000 in
theorem a2At_any (A : Option Addr) (n c : Nat) (l : List Int) (hl : l.length = n) (h255 : is255 l) (j : Int) (i : Nat) (hj : j = i) (m : Int) (hm : 1 ≤ m) (hm2 : m ≤ 1000000) (hn : n ≤ 3000) (w : World) (hR : Rd w w.heap.size 1 A n (l.map (.int .u8))) :
    Calls Try.prog 23 #[.slice A n c, .int .i64 j, .int .i64 m] w fun e w' => e = .returned (.int .i64 (atOf l i m)) ∧ w = w' := by
  subst hj
  by_cases hi : i < n
  · have e1 : atOf l i m = l.getD i 0 % m := by rw [atOf, if_pos (by omega)]
    rw [e1]
    obtain ⟨b, o, rfl, hbB, hc⟩ := hR.at_ (by omega)
    have c1 := hc i (.int .u8 (l.getD i 0)) (by rw [List.getElem?_map, List.getElem?_eq_getElem (by omega), List.getD_eq_getElem?_getD, List.getElem?_eq_getElem (by omega)]; rfl)
    obtain ⟨x0, x1⟩ := h255.getD i
    obtain ⟨x, hx⟩ : ∃ x, x = l.getD i 0 := ⟨_, rfl⟩
    rw [← hx] at c1 x0 x1 ⊢
    have hi2 : (i : Int) < (n : Int) := by omega
    clear hl h255 hR hbB hc e1 hx
    go_enter Try.func23, Try.ntmps23
    go_wp2
    go_ret
    exact ⟨rfl, rfl⟩
  · have e1 : atOf l i m = 0 := by rw [atOf, if_neg (by omega)]
    rw [e1]
    have hi2 : (n : Int) ≤ (i : Int) := by omega
    clear hl h255 hR e1 hi
    go_enter Try.func23, Try.ntmps23
    go_wp2
    go_ret
    exact ⟨rfl, rfl⟩

set_option maxHeartbeats 400000 in
theorem sameFs_any (A A' : Option Addr) (n n' c c' : Nat) (l l' : List (List Int)) (hl : l.length = n) (hl' : l'.length = n') (hrow : Rows_ 16 l) (hrow' : Rows_ 16 l') (hn : n ≤ 100000000) (w : World) (hR : Rd w w.heap.size 16 A n (l.flatten.map (.int .u8))) (hR' : Rd w w.heap.size 16 A' n' (l'.flatten.map (.int .u8))) :
    Calls Try.prog 31 #[.slice A n c, .slice A' n' c'] w fun e w' => e = .returned (.bool (l == l')) ∧ Below w.heap.size w w' := by
  have HS := Lib.hid (l09Same_any A A' n n' c c' l l' hl hl' hrow hrow' hn w hR hR')
  clear hl hl' hrow hrow' hR hR'
  go_enter Try.func31, Try.ntmps31
  go_wp2_with fail
  refine (HS.out).mono ?_
  rintro e w1 ⟨rfl, hb⟩
  go_wp2
  go_ret
  exact ⟨rfl, hb⟩

theorem conv_own {w : World} {lo hi : Nat} {A : Option Addr} {n c : Nat} {l : List Int} (h : Own w lo hi 5 1 A n c (l.map (.int .u8))) (hl : l.length = n) :
    ∃ s : ByteArray, (convert 40 9 (.slice A n c)).run Try.prog w = .ok (.string s) w ∧ s.toList = (strOfNums l).toList := by
  rcases h.2 with ⟨rfl, rfl, rfl⟩ | ⟨g, cur, rfl, h1, h2, h3, h4, h5, h6, h7⟩
  · have : l = [] := List.eq_nil_of_length_eq_zero hl
    subst this
    exact ⟨_, run_convert_bytes_nil w 40 5 Try.underlying40 Try.underlying5 0 0 9 Try.underlying9, rfl⟩
  · refine ⟨_, conv_bytes hl fun j v hv => ?_, rfl⟩
    rw [Nat.zero_add, h3.cell]
    rw [← h7, List.getElem?_take] at hv
    split at hv
    · simpa using hv
    · cases hv
end Go.Proofs.Ytmagaapdijapiaa
namespace Go.Proofs.Ytmagaapdijapiaa
open Go.ChangeShapes Go.WideShapes Go.ChangeAt Go.RowKit
set_option maxRecDepth 20000 in
theorem run_equal_block (b : Bl) (hb : b.1.length = 2 ∧ b.2.length = 16) (W : World) : (Op.equalIn 10000 78 (.agg (bav b)) (.agg (bav b))).run Try.prog W = .ok true W := by
  obtain ⟨i0, hi0, -, -, -⟩ := info_parts I32_info
  obtain ⟨iu, hiu, -, -, -⟩ := info_parts U16_info
  obtain ⟨C, M⟩ := b
  have hC : C.length = 2 := hb.1
  have hM : M.length = 16 := hb.2
  have h1 : ∀ W : World, (Op.equalIn 9999 63 (.agg (ivs .i32 C)) (.agg (ivs .i32 C))).run Try.prog W = .ok true W := fun W => by
    rw [run_equalIn_array W 9998 _ _ Try.underlying63 hi0, show Try.prog.cellsOf 21 = 1 by kernel_rfl, List.range_eq_range']
    have := run_eqItems_ivs (P := Try.prog) W (d := 9997) (k := .i32) (a := C) (b := C) Try.underlying21 rfl 2 0 (by omega)
    rw [beq_self_eq_true] at this
    exact this
  have h2 : ∀ W : World, (Op.equalIn 9999 76 (.agg (ivs .u16 M)) (.agg (ivs .u16 M))).run Try.prog W = .ok true W := fun W => by
    rw [run_equalIn_array W 9998 _ _ Try.underlying76 hiu, show Try.prog.cellsOf 74 = 1 by kernel_rfl, List.range_eq_range']
    have := run_eqItems_ivs (P := Try.prog) W (d := 9997) (k := .u16) (a := M) (b := M) Try.underlying74 rfl 16 0 (by omega)
    rw [beq_self_eq_true] at this
    exact this
  have p1 : ∀ W : World, (part 63 (bav (C, M)) 0).run Try.prog W = .ok (.agg (ivs .i32 C)) W := fun W => by
    have e : (bav (C, M)).extract 0 2 = ivs .i32 C := by
      match C, hC, M, hM with
      | [a, b], _, [c, d, e, f, g, h, i, j, k, l, m, n, o, p, q, r], _ => rfl
    simp [part, isAgg, run_underlying Try.underlying63, e]
  have p2 : ∀ W : World, (part 76 (bav (C, M)) 2).run Try.prog W = .ok (.agg (ivs .u16 M)) W := fun W => by
    have e : (bav (C, M)).extract 2 18 = ivs .u16 M := by
      match C, hC, M, hM with
      | [a, b], _, [c, d, e, f, g, h, i, j, k, l, m, n, o, p, q, r], _ => rfl
    simp [part, isAgg, run_underlying Try.underlying76, e]
  rw [run_equalIn_struct W 9999 _ _ _ (by kernel_rfl) (by kernel_rfl)]
  simp [Op.eqFields, Program.fieldsOf, Try.underlying78, p1, p2, h1, h2]
section
attribute [local go_sem ↓] exec_loadBlock
attribute [local go_sem] run_ldBlock rowAt_drewN hasRow_drewN
set_option maxRecDepth 20000 in
set_option maxHeartbeats 1600000 in
theorem sSamePicture_same (A A' : Option Addr) (n c c' : Nat) (l : List Bl) (hl : l.length = n) (hrow : Bls l) (hn : n ≤ 100000000) (w : World) (hR : Rd w w.heap.size 18 A n (bcs l)) (hR' : Rd w w.heap.size 18 A' n (bcs l)) :
    Calls Try.prog 28 #[.slice A n c, .slice A' n c'] w fun e w' => e = .returned (.bool true) ∧ Below w.heap.size w w' := by
  have HR := Lib.hid hR
  have HR' := Lib.hid hR'
  have Hl := Lib.hid hl
  clear hR hR' hl
  go_enter Try.func28, Try.ntmps28
  go_wp2
  go_loopw [5] (fun i wr => ∃ k : Nat, k ≤ n ∧ i = .int .i64 k ∧ Below w.heap.size w wr) (fun i _ => n - (intOf i).toNat)
  case atStart => exact ⟨0, by omega, rfl, Below.refl _ _⟩
  case round =>
    obtain ⟨k, hk, rfl, hb⟩ := hrel
    by_cases hlt : k < n
    · obtain ⟨b, o, rfl, hbB, hc⟩ := (HR.out.below hb (Nat.le_refl _)).at_ (by omega)
      obtain ⟨b', o', rfl, hbB', hc'⟩ := (HR'.out.below hb (Nat.le_refl _)).at_ (by omega)
      have hkl : k < l.length := by rw [Hl.out]; exact hlt
      have r1 := rowAt_vals ((HR.out.below hb (Nat.le_refl _)).block hrow (by have := Hl.out; omega) hkl)
      have r2 := rowAt_vals ((HR'.out.below hb (Nat.le_refl _)).block hrow (by have := Hl.out; omega) hkl)
      rw [bvs_length (hrow.at_ hkl)] at r1 r2
      obtain ⟨r1, r3⟩ := r1
      obtain ⟨r2, r4⟩ := r2
      rw [show (bvs l[k]).toArray = bav l[k] from rfl] at r1 r2
      have heq := fun W => run_equal_block l[k] (hrow.at_ hkl) W
      generalize bav l[k] = F at *
      have hi1 : (k : Int) < (n : Int) := by omega
      clear hc hbB hc' hbB' hkl
      go_wp2_with fail
      go_quiet (fail)
      go_wp2
      exact ⟨⟨k + 1, by omega, by go_num, below_drewN hb _⟩, by simp [intOf]; omega⟩
    · have : k = n := by omega
      subst this
      go_wp2
      go_ret
      exact ⟨rfl, hb⟩
set_option maxRecDepth 20000 in
set_option maxHeartbeats 1600000 in
theorem equalBlk_same (A A' : Option Addr) (n c c' : Nat) (l : List Bl) (hl : l.length = n) (hrow : Bls l) (hn : n ≤ 100000000) (w : World) (hR : Rd w w.heap.size 18 A n (bcs l)) (hR' : Rd w w.heap.size 18 A' n (bcs l)) :
    Calls Try.prog 81 #[.slice A n c, .slice A' n c'] w fun e w' => e = .returned (.bool true) ∧ Below w.heap.size w w' := by
  have HR := Lib.hid hR
  have HR' := Lib.hid hR'
  have Hl := Lib.hid hl
  clear hR hR' hl
  go_enter Try.func81, Try.ntmps81
  go_wp2
  go_loopw [5, 13] (fun _ i wr => ∃ k : Nat, k ≤ n ∧ i = .int .i64 k ∧ Below w.heap.size w wr) (fun _ i _ => n - (intOf i).toNat)
  case atStart => exact ⟨0, by omega, rfl, Below.refl _ _⟩
  case round =>
    obtain ⟨k, hk, rfl, hb⟩ := hrel
    by_cases hlt : k < n
    · obtain ⟨b, o, rfl, hbB, hc⟩ := (HR.out.below hb (Nat.le_refl _)).at_ (by omega)
      obtain ⟨b', o', rfl, hbB', hc'⟩ := (HR'.out.below hb (Nat.le_refl _)).at_ (by omega)
      have hkl : k < l.length := by rw [Hl.out]; exact hlt
      have r1 := rowAt_vals ((HR.out.below hb (Nat.le_refl _)).block hrow (by have := Hl.out; omega) hkl)
      have r2 := rowAt_vals ((HR'.out.below hb (Nat.le_refl _)).block hrow (by have := Hl.out; omega) hkl)
      rw [bvs_length (hrow.at_ hkl)] at r1 r2
      obtain ⟨r1, r3⟩ := r1
      obtain ⟨r2, r4⟩ := r2
      rw [show (bvs l[k]).toArray = bav l[k] from rfl] at r1 r2
      have heq := fun W => run_equal_block l[k] (hrow.at_ hkl) W
      generalize bav l[k] = F at *
      have hi1 : (k : Int) < (n : Int) := by omega
      clear hc hbB hc' hbB' hkl
      go_wp2_with fail
      go_quiet (fail)
      go_wp2
      exact ⟨⟨k + 1, by omega, by go_num, below_drewN hb _⟩, by simp [intOf]; omega⟩
    · have : k = n := by omega
      subst this
      go_wp2
      go_ret
      exact ⟨rfl, hb⟩
theorem iSamePicture_same (A A' : Option Addr) (n c c' : Nat) (l : List Bl) (hl : l.length = n) (hrow : Bls l) (hn : n ≤ 100000000) (w : World) (hR : Rd w w.heap.size 18 A n (bcs l)) (hR' : Rd w w.heap.size 18 A' n (bcs l)) :
    Calls Try.prog 37 #[.slice A n c, .slice A' n c'] w fun e w' => e = .returned (.bool true) ∧ Below w.heap.size w w' := by
  have HX := Lib.hid (equalBlk_same A A' n c c' l hl hrow hn w hR hR')
  clear hR hR' hl hrow
  go_enter Try.func37, Try.ntmps37
  go_wp2_with (go_at_call 81; refine HX.out.mono ?_; rintro e w2 ⟨rfl, hb⟩; have HB := Lib.hid hb; clear hb)
  go_ret
  exact ⟨rfl, HB.out⟩
end
theorem results_row_tmp3 {P : Program} {fn : Func} {p u v x : Tmp} {ty : TypeId} (h : fn.results = #[.cell p ty, .tmp u, .tmp v, .tmp x]) (tmps : Array Value) (w : World) (g : Nat) (t : TypeId) (cs : Array Value) (fr : Nat × Nat) (d : TypeDesc)
    (hp : tmps.getD p undef = .pointer (some ⟨g, 0, none⟩)) (hg : w.heap[g]? = some (.cells cs t fr))
    (hu : P.underlying ty = some d) (hd : (match d with | .struct _ | .array _ _ => true | _ => false) = true) (hi : (P.info? ty).map (·.size) = some cs.size) :
    (results fn tmps).run P w = .ok (.tuple #[.agg cs, tmps.getD u undef, tmps.getD v undef, tmps.getD x undef]) w := by
  have hp' : tmps[p]?.getD undef = .pointer (some ⟨g, 0, none⟩) := by simpa using hp
  simp [results, h, hp', asAddr, run_loadVar_row w g t ty cs fr d hg hu hd hi]
set_option maxHeartbeats 1600000 in
theorem iBlockAt_in (x y : Int) (hc : cellB x y = true) (w : World) :
    Calls Try.prog 35 #[.int .i64 x, .int .i64 y] w fun e w' => e = .returned (.tuple #[.agg (ivs .i32 [x / 16, y / 16]), .int .i64 (x % 16), .int .i64 (y % 16), .int .i64 0]) ∧ Below w.heap.size w w' := by
  have h1 := fun W => isCell_any x y W
  rw [hc] at h1
  have hin : (-1000000 ≤ x ∧ x ≤ 1000000) ∧ (-1000000 ≤ y ∧ y ≤ 1000000) := by
    simp only [cellB, inB, Bool.and_eq_true, decide_eq_true_iff] at hc
    omega
  have h2 := fun W => blockAt_any x y (by omega) (by omega) W
  have b0 : Below w.heap.size w (w.alloc (.cells (ivs .i32 [0, 0]) 63)) := (Below.refl _ _).alloc (Nat.le_refl _) _
  have H1 := Lib.hid h1
  have H2 := Lib.hid h2
  have B0 := Lib.hid b0
  have K0 : Hid (Blk (w.alloc (.cells (ivs .i32 [0, 0]) 63)) w.heap.size 63 (ivs .i32 [0, 0])) := Lib.hid (Blk.newAt rfl rfl)
  clear h1 h2 hin hc b0
  go_enter Try.func35, Try.ntmps35
  go_wp2_with (first
    | (go_at_call 76; refine (H1.out _).mono ?_; rintro e w2 ⟨rfl, rfl⟩)
    | (go_at_call 79; refine (H2.out _).mono ?_; rintro e w3 ⟨rfl, hb3⟩; have B3 := Lib.hid (B0.out.trans (hb3.mono B0.out.size)); have K3 := Lib.hid (K0.out.below hb3 K0.out.lt); clear hb3)
    | refine wpList_store_row rfl _ _ _ rfl w.heap.size (ivs .i32 [x / 16, y / 16]) rfl rfl 63 (ivs .i32 [0, 0]) (K3.out.alloc _) (by exact size63) rfl ivs_one ?_)
  exact bodyPost_ret (results_row_tmp3 rfl _ _ w.heap.size 63 (ivs .i32 [x / 16, y / 16]) (0, 0) _ rfl ((K3.out.alloc _).row _) Try.underlying63 rfl (by exact size63)) rfl ⟨rfl, below_setRow (B3.out.alloc B3.out.size _) (Nat.le_refl _) _⟩
end Go.Proofs.Ytmagaapdijapiaa
namespace Go.Proofs.Ytmagaapdijapiaa
open Go.ChangeShapes Go.WideShapes Go.ChangeAt Go.RowKit
theorem wfF_few {ws : List ByteArray} (h : ws.length ≤ 5) : (wfF ws).length ≤ 100 := by
  unfold wfF
  split
  · rw [packOf_len, packMany, wData_length]
    omega
  · exact Nat.zero_le _

set_option maxRecDepth 100000 in
set_option maxHeartbeats 12800000 in
theorem lawKept_in (A : Option Addr) (n c : Nat) (l : List Int) (hl : l.length = n) (h255 : is255 l) (A2 : Option Addr) (n2 c2 : Nat) (l2 : List Int) (hl2 : l2.length = n2) (h255' : is255 l2) (hn : n ≤ 3000) (hn2 : n2 ≤ 3000) (w : World) (RA : Rd w w.heap.size 1 A n (l.map (.int .u8))) (RB : Rd w w.heap.size 1 A2 n2 (l2.map (.int .u8))) :
    Calls Try.prog 5 #[.slice A n c, .slice A2 n2 c2] w fun e w' => e = .returned (.bool true) ∧ Below w.heap.size w w' := by
  have B0 : Below w.heap.size w w := Below.refl _ _
  go_enter Try.func5, Try.ntmps5
  go_wp2_with fail
  refine (a2Long_in A A2 n c n2 c2 hn hn2 w).mono ?_
  rintro e wx ⟨rfl, rfl⟩
  go_wp2_with fail
  refine (A2Picture_any A n c l hl h255 (by omega) _ RA).mono ?_
  rintro e w1 ⟨P, AP, cP, hS, rfl, OP, hb1⟩
  have z1 := hb1.size
  have RB_1 := RB.below hb1 (by omega)
  have B1 := B0.trans (hb1.mono (by omega))
  clear RB hb1 B0
  have hf := hS.few
  have hnP : P.length ≤ 1048576 := by omega
  obtain ⟨b1, b2, b3⟩ := pf_back hS
  have hFf := pf_few hS
  have hFr := pfF_rows P
  obtain ⟨f1, f2, f3, f4, f5⟩ := frames_back hFr (by omega)
  have IPF : Hid (∀ A c W, Rd W W.heap.size 18 A P.length (bcs P) → Calls Try.prog 10 #[.slice A P.length c] W (GivesFp (pfF P) 0 W)) := Lib.hid (fun A c W hW => by have h := iPictureFile_any A P.length c P rfl hS.pic.bls hS.pic.m16 hS.i32 hnP W hW; rw [b1] at h; exact h)
  have IRP : Hid (∀ A c W, (pfF P).length ≤ c → c ≤ 9223372036854775807 → Rd W W.heap.size 16 A (pfF P).length ((pfF P).flatten.map (.int .u8)) → Calls Try.prog 19 #[.slice A (pfF P).length c] W (GivesToldB P 0 W)) := Lib.hid (fun A c W h1 h2 hW => by have h := iReadPictureFile_any A (pfF P).length c (pfF P) rfl hFr (pf_255 P) (by omega) h1 h2 W hW; rw [b2, b3] at h; exact h)
  have ISP : Hid (∀ A A' c c' W, Rd W W.heap.size 18 A P.length (bcs P) → Rd W W.heap.size 18 A' P.length (bcs P) → Calls Try.prog 28 #[.slice A P.length c, .slice A' P.length c'] W fun e w' => e = .returned (.bool true) ∧ Below W.heap.size W w') := Lib.hid (fun A A' c c' W h1 h2 => sSamePicture_same A A' P.length c c' P rfl hS.pic.bls (by omega) W h1 h2)
  obtain ⟨D, hD⟩ : ∃ D, D = (pfF P).flatten := ⟨_, rfl⟩
  have IBF : Hid (∀ A c W, (pfF P).length ≤ c → c ≤ 9223372036854775807 → Rd W W.heap.size 16 A (pfF P).length ((pfF P).flatten.map (.int .u8)) → Calls Try.prog 29 #[.slice A (pfF P).length c] W (GivesBytes D 0 W)) := Lib.hid (fun A c W h1 h2 hW => by rw [hD]; have h := iBytesOfFrames_any A (pfF P).length c (pfF P) rfl hFr (by omega) h1 h2 W hW; rw [f1, f2] at h; exact h)
  have IFB : Hid (∀ A c W, D.length ≤ c → c ≤ 9223372036854775807 → Rd W W.heap.size 1 A D.length (D.map (.int .u8)) → Calls Try.prog 30 #[.slice A D.length c] W fun e w' => ∃ A' c', e = .returned (.tuple #[.slice A' (pfF P).length c', .int .i64 0, .int .i64 0]) ∧ Own w' W.heap.size w'.heap.size 87 16 A' (pfF P).length c' ((pfF P).flatten.map (.int .u8)) ∧ Below W.heap.size W w') := Lib.hid (fun A c W h1 h2 hW => by rw [hD] at h1 hW ⊢; have h := iFramesOfBytes_any A (pfF P).flatten.length c (pfF P).flatten rfl (by rw [flat_length hFr]; omega) h1 h2 W hW; unfold GivesFrames at h; rw [f3, f4, f5] at h; exact h)
  have ISF : Hid (∀ A A' c c' W, Rd W W.heap.size 16 A (pfF P).length ((pfF P).flatten.map (.int .u8)) → Rd W W.heap.size 16 A' (pfF P).length ((pfF P).flatten.map (.int .u8)) → Calls Try.prog 31 #[.slice A (pfF P).length c, .slice A' (pfF P).length c'] W fun e w' => e = .returned (.bool true) ∧ Below W.heap.size W w') := Lib.hid (fun A A' c c' W h1 h2 => by have h := sameFs_any A A' (pfF P).length (pfF P).length c c' (pfF P) (pfF P) rfl rfl hFr hFr (by omega) W h1 h2; rw [beq_self_eq_true] at h; exact h)
  have IAT := Lib.hid (fun W hW => a2At_any A2 n2 c2 l2 hl2 h255' 0 0 rfl 6 (by decide) (by decide) hn2 W hW)
  have hat := atOf_range l2 0 (m := 6) (by decide)
  have IW := Lib.hid (fun (x : Int) (hx : 0 ≤ x ∧ x ≤ 255) (A : Option Addr) (c : Nat) (W : World) (hW : Rd W W.heap.size 1 A (1 + n2) ((x :: l2).map (.int .u8))) => A2Word_any A (1 + n2) c (x :: l2) (by rw [List.length_cons]; omega) (fun y hy => by
    rcases List.mem_cons.1 hy with rfl | hy
    · exact hx
    · exact h255' y hy) (by omega) W hW)
  clear hD hS b1 b2 b3 f1 f2 f3 f4 f5 hFr hl hl2 h255 h255'
  generalize pfF P = FF at *
  generalize atOf l2 0 6 = K at *
  obtain ⟨K, rfl⟩ := Int.eq_ofNat_of_zero_le hat.1
  have hK6 : K < 6 := by omega
  go_wp2_with fail
  refine (IPF.out AP cP _ (OP.rd.more (by omega))).mono ?_
  rintro e w2 ⟨AF, cF, rfl, OF, hb2⟩
  have z2 := hb2.size
  have RB_2 := RB_1.below hb2 (by omega)
  have OP_2 := OP.below hb2 (by omega)
  have B2 := B1.trans (hb2.mono (by omega))
  clear RB_1 OP hb2 B1
  have lF := OF.len
  have mF := OF.cap_
  go_wp2_with fail
  refine (IRP.out AF cF _ lF mF (OF.rd.more (by omega))).mono ?_
  rintro e w3 ⟨AQ, cQ, rfl, OQ, hb3⟩
  have z3 := hb3.size
  have RB_3 := RB_2.below hb3 (by omega)
  have OP_3 := OP_2.below hb3 (by omega)
  have OF_3 := OF.below hb3 (by omega)
  have B3 := B2.trans (hb3.mono (by omega))
  clear RB_2 OP_2 OF hb3 B2
  obtain ⟨wp, rfl⟩ : ∃ W : World, W = w3 := ⟨_, rfl⟩
  have HRB : Hid (∀ W, Below wp.heap.size wp W → Rd W wp.heap.size 1 A2 n2 (l2.map (.int .u8))) := Lib.hid (fun W hb => (RB_3.below hb (by omega)).more (by omega))
  have HPW : Hid (∀ W, Below wp.heap.size wp W → Rd W W.heap.size 18 AP P.length (bcs P)) := Lib.hid (fun W hb => (OP_3.rd.below hb (by omega)).more (by have := hb.size; omega))
  have HQW : Hid (∀ W, Below wp.heap.size wp W → Rd W W.heap.size 18 AQ P.length (bcs P)) := Lib.hid (fun W hb => (OQ.rd.below hb (by omega)).more (by have := hb.size; omega))
  have HFW : Hid (∀ W, Below wp.heap.size wp W → Rd W W.heap.size 16 AF FF.length (FF.flatten.map (.int .u8))) := Lib.hid (fun W hb => (OF_3.rd.below hb (by omega)).more (by have := hb.size; omega))
  have HB0 := Lib.hid B3
  clear RB_3 OP_3 OQ OF_3 B3 IPF IRP
  obtain ⟨i1, hi1, iy0, iy1, iy2⟩ := info_parts Str_info
  have o0 : (wp.alloc (.cells #[] 9)).ownsRow wp.heap.size 9 1 (.slice (some ⟨wp.heap.size, 0, none⟩) 0 0) 0 (strs []) := World.ownsRow_lit (e := 9) (base := wp.heap.size) (size := 1) wp #[] 0 (Nat.le_refl _) (by unfold maxLen; omega) rfl
  have O0 := Lib.hid o0
  clear o0
  go_wp2
  go_loopw [10, 11] (fun v i wr => ∃ (k g cc : Nat) (ws : List ByteArray), k ≤ K ∧ i = .int .i64 k ∧ v = .slice (some ⟨g, 0, none⟩) k cc ∧ Hid (k = ws.length) ∧ Hid (∀ s ∈ ws, wOk s = true) ∧ Hid (wr.ownsRow wp.heap.size 9 1 (.slice (some ⟨g, 0, none⟩) k cc) k (strs ws)) ∧ Hid (Below wp.heap.size wp wr)) (fun _ i _ => K - (intOf i).toNat)
  case atStart => exact ⟨0, _, 0, [], by omega, rfl, rfl, Lib.hid rfl, Lib.hid (fun _ h => nomatch h), O0, Lib.hid ((Below.refl _ _).alloc (Nat.le_refl _) _)⟩
  case round =>
    clear O0
    obtain ⟨k, g, cc, ws, hk, rfl, rfl, HL, HW, HO, HB⟩ := hrel
    have hzr := HB.out.size
    by_cases hlt : k < K
    · have hki : (k : Int) < K := by omega
      have hx := IW.out ((k : Int) + 4) (by omega)
      have HX := Lib.hid hx
      have u1 : IntKind.u8.wrap ((k : Int) + 4) = (k : Int) + 4 := by rw [IntKind.wrap_u8]; omega
      have o1 : (wr.alloc (.cells #[.int .u8 ((k : Int) + 4)] 5)).ownsRow wr.heap.size 5 1 (.slice (some ⟨wr.heap.size, 0, none⟩) 1 1) 1 [.int .u8 ((k : Int) + 4)] := World.ownsRow_lit (e := 5) (base := wr.heap.size) (size := 1) wr #[.int .u8 ((k : Int) + 4)] 1 (Nat.le_refl _) (by unfold maxLen; omega) rfl
      have O1 := Lib.hid o1
      have hb1 : Below wr.heap.size wr (wr.alloc (.cells #[.int .u8 ((k : Int) + 4)] 5)) := (Below.refl _ _).alloc (Nat.le_refl _) _
      have HB1 := Lib.hid hb1
      have HR1 := Lib.hid (HRB.out _ (HB.out.trans (hb1.mono hzr)))
      clear hx o1 hb1
      go_wp2_with (first
        | (go_at_call 23; refine (IAT.out _ ((HRB.out _ HB.out).more hzr)).mono ?_; rintro e wx ⟨rfl, rfl⟩)
        | (at_builtin; refine wpList_append_bytes rfl (.tmp 50) (.tmp 51) rfl wr.heap.size (.slice (some ⟨wr.heap.size, 0, none⟩) 1 1) 1 _ rfl O1.out A2 n2 c2 l2 rfl HR1.out (by unfold maxLen; omega) (by omega) (by rw [size_alloc]; omega) ?_; intro v2 w2 hown2 hgrow2; obtain ⟨A4, c4, rfl, hO4⟩ := Own.of_row hown2; have R4 := Lib.hid hO4.rd; have B2 := Lib.hid (HB1.out.grown hgrow2 (by rw [size_alloc]; omega) (fun j e => by cases e; exact Nat.le_refl _)); have z2 := B2.out.size; clear hown2 hgrow2 hO4)
        | (go_at_call 24; refine (HX.out _ _ _ R4.out).mono ?_; rintro e w3 ⟨⟨t, ht, rfl⟩, hb3⟩; have HT := Lib.hid ht; have b3 := B2.out.trans (hb3.mono z2); have O3 := Lib.hid ((own_below HO.out b3 (Nat.le_refl _)).alloc (.cells #[.string t] 9)); have z3 := b3.size; have B3 := Lib.hid ((HB.out.trans (b3.mono hzr)).alloc (by omega) (.cells #[.string t] 9)); have HN3 := Lib.hid (str_news w3 t); clear ht hb3 b3)
        | (at_builtin; refine wpList_append_own _ rfl (.tmp 46) (.tmp 54) 43 rfl wp.heap.size 9 i1 _ 1 16 Try.underlying43 hi1 iy0 iy1 iy2 rfl (by decide) (.slice (some ⟨g, 0, none⟩) k cc) k _ rfl O3.out ⟨w3.heap.size, 0, none⟩ 1 1 (strs [t]) rfl rfl HN3.out strs_one' (by unfold maxLen; omega) (by omega) B3.out.size ?_; intro v8 w8 hown8 hgrow8 _; have B8 := Lib.hid (B3.out.grown hgrow8 B3.out.size (fun j e => (O3.out.lt _ e).1)); rw [strs, strs, ← List.map_append] at hown8; obtain ⟨g8, c8, rfl⟩ := own_some hown8 (by omega); have HO8 := Lib.hid hown8; clear hown8 hgrow8))
      exact ⟨⟨k + 1, g8, c8, ws ++ [t], by omega, by go_num, rfl, Lib.hid (by rw [List.length_append, HL.out]; rfl), Lib.hid (fun s hs => by
        rcases List.mem_append.1 hs with hs | hs
        · exact HW.out s hs
        · rw [List.mem_singleton] at hs; rw [hs]; exact HT.out), HO8, B8⟩, by simp [intOf]; omega⟩
    · obtain rfl : k = K := by omega
      have hkl := HL.out
      subst hkl
      obtain ⟨v1, v2, v3, v4, v5, v6⟩ := words_back HW.out (by omega)
      have hsz : ∀ s ∈ ws, s.size ≤ 1048576 := fun s hs => by have := wOk_size (HW.out s hs); omega
      have hWl := wfF_few (show ws.length ≤ 5 by omega)
      have IWF : Hid (∀ A c W, Rd W W.heap.size 1 A ws.length (strs ws) → Calls Try.prog 25 #[.slice A ws.length c] W (GivesF2 (wfF ws) 0 W)) := Lib.hid (fun A c W hW => by have h := iWordFile_any A ws.length c ws rfl (by omega) hsz W hW; rw [v1] at h; exact h)
      have IRW : Hid (∀ A c W, (wfF ws).length ≤ c → c ≤ 9223372036854775807 → Rd W W.heap.size 16 A (wfF ws).length ((wfF ws).flatten.map (.int .u8)) → Calls Try.prog 26 #[.slice A (wfF ws).length c] W (GivesWs ws 0 W)) := Lib.hid (fun A c W h1 h2 hW => by have h := iReadWordFile_any A (wfF ws).length c (wfF ws) rfl (wfF_rows ws) v6 (by omega) h1 h2 W hW; rw [v4, v5] at h; exact h)
      have IRK : Hid (∀ A c W, (wfF ws).length ≤ c → c ≤ 9223372036854775807 → Rd W W.heap.size 16 A (wfF ws).length ((wfF ws).flatten.map (.int .u8)) → Calls Try.prog 27 #[.slice A (wfF ws).length c] W fun e w' => e = .returned (.tuple #[.slice none 0 0, .int .i64 5]) ∧ Below W.heap.size W w') := Lib.hid (fun A c W h1 h2 hW => iReadPointFile_kind A (wfF ws).length c (wfF ws) rfl (wfF_rows ws) v6 (by omega) h1 h2 v2 (by rw [v3]; decide) W hW)
      clear v1 v2 v3 v4 v5 v6 hsz HL HW IW hk hlt
      generalize wfF ws = WF at *
      go_wp2_with (first
        | (go_at_call 23; refine (IAT.out _ ((HRB.out _ HB.out).more hzr)).mono ?_; rintro e wx ⟨rfl, rfl⟩)
        | (go_at_call 25; refine (IWF.out _ cc _ (Rd.of_own HO.out)).mono ?_; rintro e w2 ⟨A5, c5, rfl, O5, hb2⟩; have y2 := hb2.size; have m1 := O5.len; have m2 := O5.cap_; have B2 := Lib.hid (HB.out.trans (hb2.mono hzr)); have Q2 := Lib.hid (own_below HO.out hb2 (Nat.le_refl _)); have T2 := Lib.hid O5; clear hb2 O5)
        | (go_at_call 26; refine (IRW.out A5 c5 w2 m1 m2 T2.out.rd).mono ?_; rintro e w3 ⟨A6, c6, rfl, O6, hb3⟩; have y3 := hb3.size; have B3 := Lib.hid (B2.out.trans (hb3.mono (by omega))); have Q3 := Lib.hid (own_below Q2.out hb3 (Nat.le_refl _)); have T3 := Lib.hid ((T2.out.rd.below hb3 (Nat.le_refl _)).more y3); have S3 := Lib.hid O6; clear hb3 O6)
        | (go_at_call 27; refine (IRK.out A5 c5 w3 m1 m2 T3.out).mono ?_; rintro e w4 ⟨rfl, hb4⟩; have y4 := hb4.size; have B4 := Lib.hid (B3.out.trans (hb4.mono (by omega))); have Q4 := Lib.hid (own_below Q3.out hb4 (Nat.le_refl _)); have S4 := Lib.hid (S3.out.below hb4 (Nat.le_refl _)); clear hb4)
        | (go_at_call 28; refine (ISP.out AP AQ cP cQ w4 (HPW.out w4 B4.out) (HQW.out w4 B4.out)).mono ?_; rintro e w5 ⟨rfl, hb5⟩; have y5 := hb5.size; have B5 := Lib.hid (B4.out.trans (hb5.mono (by omega))); have Q5 := Lib.hid (own_below Q4.out hb5 (Nat.le_refl _)); have S5 := Lib.hid (S4.out.below hb5 (by omega)); clear hb5))
      obtain ⟨wq, rfl⟩ : ∃ W : World, W = w5 := ⟨_, rfl⟩
      have HGW : Hid (∀ j (hj : j < ws.length), wq.cell? ⟨g, j, none⟩ = some (.string ws[j])) := Lib.hid (fun j hj => by
        have h := own_cells Q5.out j (.string ws[j]) (by rw [strs, List.getElem?_map, List.getElem?_eq_getElem hj]; rfl)
        rwa [Nat.zero_add] at h)
      have hgq : g < wq.heap.size := (Q5.out.lt g rfl).2
      clear IWF IRW IRK ISP HRB HPW HQW HO HB B2 B3 B4 Q2 Q3 Q4 T2 T3 S3 S4 Q5 IAT
      go_loopw [18] (fun i wr => ∃ j : Nat, j ≤ ws.length ∧ i = .int .i64 j ∧ Hid (Below wq.heap.size wq wr)) (fun i _ => ws.length - (intOf i).toNat)
      case atStart => exact ⟨0, by omega, rfl, Lib.hid (Below.refl _ _)⟩
      case round =>
        obtain ⟨j, hj, rfl, HB6⟩ := hrel
        by_cases hlt : j < ws.length
        · have hji : (j : Int) < ws.length := by omega
          obtain ⟨b, o, hA6, hbb, hc⟩ := S5.out.rd.at_ (by omega)
          subst hA6
          have hbq : b < wq.heap.size := by omega
          have e1 := (HB6.out.cell (p := ⟨g, j, none⟩) hgq).trans (HGW.out j hlt)
          have e2 := (HB6.out.cell (p := ⟨b, o + j, none⟩) hbq).trans (hc j (.string ws[j]) (by rw [strs, List.getElem?_map, List.getElem?_eq_getElem hlt]; rfl))
          generalize ws[j] = t at *
          clear hc
          go_wp2_with fail
          go_quiet (fail)
          go_wp2
          exact ⟨⟨j + 1, by omega, by go_num, Lib.hid (below_drewN HB6.out _)⟩, by simp [intOf]; omega⟩
        · obtain rfl : j = ws.length := by omega
          have y6 := HB6.out.size
          have C6 := Lib.hid (B5.out.trans (HB6.out.mono (by omega)))
          go_wp2_with (first
            | (go_at_call 29; refine (IBF.out AF cF _ lF mF (HFW.out _ C6.out)).mono ?_; rintro e w7 ⟨A7, c7, rfl, O7, hb7⟩; have y7 := hb7.size; have n1 := O7.len; have n2' := O7.cap_; have C7 := Lib.hid (C6.out.trans (hb7.mono (by omega))); have T7 := Lib.hid O7.rd; clear hb7 O7)
            | (go_at_call 30; refine (IFB.out A7 c7 w7 n1 n2' T7.out).mono ?_; rintro e w8 ⟨A8, c8, rfl, O8, hb8⟩; have y8 := hb8.size; have C8 := Lib.hid (C7.out.trans (hb8.mono (by omega))); have T8 := Lib.hid O8.rd; clear hb8 O8)
            | (go_at_call 31; refine (ISF.out A8 AF c8 cF w8 T8.out (HFW.out _ C8.out)).mono ?_; rintro e w9 ⟨rfl, hb9⟩; have C9 := Lib.hid (C8.out.trans (hb9.mono (by omega))); clear hb9))
          go_ret
          exact ⟨rfl, HB0.out.trans (C9.out.mono (by omega))⟩
set_option maxRecDepth 100000 in
set_option maxHeartbeats 400000 in
theorem lawKept_any (A : Option Addr) (n c : Nat) (l : List Int) (hl : l.length = n) (h255 : is255 l) (A2 : Option Addr) (n2 c2 : Nat) (l2 : List Int) (hl2 : l2.length = n2) (h255' : is255 l2) (w : World) (RA : Rd w w.heap.size 1 A n (l.map (.int .u8))) (RB : Rd w w.heap.size 1 A2 n2 (l2.map (.int .u8))) :
    Calls Try.prog 5 #[.slice A n c, .slice A2 n2 c2] w fun e w' => e = .returned (.bool true) ∧ Below w.heap.size w w' := by
  by_cases h3 : n ≤ 3000 ∧ n2 ≤ 3000
  · exact lawKept_in A n c l hl h255 A2 n2 c2 l2 hl2 h255' h3.1 h3.2 w RA RB
  · have h3 : 3000 < n ∨ 3000 < n2 := by omega
    clear RA RB hl hl2 h255 h255'
    go_enter Try.func5, Try.ntmps5
    go_wp2_with fail
    refine (a2Long_out A A2 n c n2 c2 h3 w).mono ?_
    rintro e w0 ⟨rfl, rfl⟩
    go_wp2
    go_ret
    exact ⟨rfl, Below.refl _ _⟩
end Go.Proofs.Ytmagaapdijapiaa
