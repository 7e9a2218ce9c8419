/- Valid pictures: the program's walk. -/
import Derived.Test.YtmagaapdijapiaaDoorRows
import Derived.Test.YtmagaapdijapiaaDoorCg
import Derived.Test.YtmagaapdijapiaaDoorEqA
import Derived.Deep.RegionHeld3
import Derived.BigQuiet
namespace Go.Proofs.YtmagaapdijapiaaDoor
open Go.ChangeShapes Go.WideShapes Go.ChangeAt Go.RowKit
def emptyM (M : List Int) : Bool := M == zr16
def farB (b : Bl) : Bool := inB (b.1.getD 0 0) (-62501) 62501 && inB (b.1.getD 1 0) (-62501) 62501
def blkOk (b : Bl) : Bool := !emptyM b.2 && (farB b && okCells (bCells b))
def befB (a b : Bl) : Bool := decide (cmpC (a.1.getD 0 0) (a.1.getD 1 0) (b.1.getD 0 0) (b.1.getD 1 0) < 0)
def blkAt (l : List Bl) (k : Nat) : Bool := (k == 0 || befB (l.getD (k - 1) ([], [])) (l.getD k ([], []))) && blkOk (l.getD k ([], []))
def vpTo (l : List Bl) (k : Nat) : Bool := (List.range k).all (blkAt l)
def vpB (l : List Bl) : Bool := vpTo l l.length && decide (l.length ≤ 64)
theorem range_of_below {w w' : World} {B g o : Nat} {cs : List Value} (h : w.rangeAt g o cs) (hb : Below B w w') (hg : g < B) : w'.rangeAt g o cs := fun j v hv => (hb.cell (p := ⟨g, o + j, none⟩) hg).trans (h j v hv)
theorem put_none (a : Act) (v : Value) : a.put none v = a := rfl
/-- a world behind w: what lay below stands -/
structure After (w : World) where
  to : World
  h : Below w.heap.size w to
instance (w : World) : Nonempty (After w) := ⟨⟨w, Below.refl _ _⟩⟩
theorem region_after {P : Program} {id : Nat} {Q : Exit → Act → World → Prop} {a : Act} {w : World} {l : List Oper} (hm : P.follows .mixedOrders = true) (hB : Region.lexB .any l.toArray = true)
    (h : wpQuiet P l.toArray (fun w' => ∃ t : After w, w' = t.to) (fun a' => ∀ w', (∃ t : After w, w' = t.to) → Q .normal a' w') l a) : (Code.region id l.toArray true).wp P Q a w :=
  wp_region_quiet (C := fun w' => ∃ t : After w, w' = t.to) hm hB ⟨⟨w.drew, below_drew (Below.refl _ _)⟩, rfl⟩ (by simpa using h)
theorem After.call {P : Program} {f : FuncId} {args : Array Value} {w : World} {v : Value} (t : After w) (h : Calls P f args t.to fun e w' => e = .returned v ∧ Below t.to.heap.size t.to w') :
    Calls P f args t.to fun e w'' => e = .returned v ∧ ∃ t' : After w, w'' = t'.to :=
  h.mono fun _ w' ⟨he, hb⟩ => ⟨he, ⟨w', t.h.trans (hb.mono t.h.size)⟩, rfl⟩
theorem After.same {P : Program} {f : FuncId} {args : Array Value} {w : World} {v : Value} (t : After w) (h : Calls P f args t.to fun e w' => e = .returned v ∧ t.to = w') :
    Calls P f args t.to fun e w'' => e = .returned v ∧ ∃ t' : After w, w'' = t'.to :=
  h.mono fun _ _ ⟨he, hb⟩ => ⟨he, t, hb.symm⟩
theorem After.cell {w : World} (t : After w) {g o : Nat} (hg : g < w.heap.size) : t.to.cell? ⟨g, o, none⟩ = w.cell? ⟨g, o, none⟩ := t.h.cell (p := ⟨g, o, none⟩) hg
theorem After.row {w : World} (t : After w) {g o : Nat} {vs : List Value} (hg : g < w.heap.size) (h : w.rangeAt g o vs) : rowAt t.to g o vs.length = vs.toArray ∧ hasRow t.to g o vs.length = true := rowAt_vals (range_of_below h t.h hg)
theorem exec_ldCorner (ρ : Operand → Value) (dst : Option Tmp) (x : Operand) (t : TypeId) (pos : String) (after : Array Edge) (guard : Option (Nat × Bool)) :
    execOp ρ { dst := dst, op := .load 63 x, type := t, pos := pos, after := after, guard := guard } = ldRow 63 (ρ x) := rfl
theorem run_ldCorner : ∀ (W : World) (g o : Nat), hasRow W g o 2 = true → (ldRow 63 (.pointer (some ⟨g, o, none⟩))).run Tryd.prog W = .ok (.value (.agg (rowAt W g o 2))) W := run_ldRow Tryd.underlying63 rfl size63
theorem exec_ldMask (ρ : Operand → Value) (dst : Option Tmp) (x : Operand) (t : TypeId) (pos : String) (after : Array Edge) (guard : Option (Nat × Bool)) :
    execOp ρ { dst := dst, op := .load 44 x, type := t, pos := pos, after := after, guard := guard } = ldRow 44 (ρ x) := rfl
theorem run_ldMask : ∀ (W : World) (g o : Nat), hasRow W g o 16 = true → (ldRow 44 (.pointer (some ⟨g, o, none⟩))).run Tryd.prog W = .ok (.value (.agg (rowAt W g o 16))) W := run_ldRow Tryd.underlying44 rfl size44
theorem vpTo_succ (l : List Bl) (k : Nat) : vpTo l (k + 1) = (vpTo l k && blkAt l k) := by
  rw [vpTo, vpTo, List.range_succ, List.all_append]
  simp
theorem vpB_no {l : List Bl} {k : Nat} (hk : k < l.length) (h : blkAt l k = false) : vpB l = false := by
  have : vpTo l l.length = false := by
    rw [vpTo, List.all_eq_false]
    exact ⟨k, List.mem_range.2 hk, by rw [h]; decide⟩
  rw [vpB, this]
  rfl
theorem getDB_at {l : List Bl} {k : Nat} (hk : k < l.length) : l.getD k ([], []) = l[k] := by
  rw [List.getD_eq_getElem?_getD, List.getElem?_eq_getElem hk]
  rfl
theorem bCells_rows (b : Bl) : Rows_ 2 (bCells b) := fun f hf => by
  obtain ⟨g, _, rfl⟩ := List.mem_map.1 hf
  rfl
theorem bCells_length (b : Bl) : (bCells b).length ≤ 256 := by
  rw [bCells, List.length_map]
  exact cellsTo_length _ _
theorem bCells_small {b : Bl} (h : inFar b) : small2 (bCells b) := fun f hf => by
  obtain ⟨g, hg, rfl⟩ := List.mem_map.1 hf
  obtain ⟨k, hk, rfl⟩ := List.getElem_of_mem hg
  obtain ⟨x, y, hx, hy, e⟩ := mCells_at hk
  obtain ⟨h1, h2⟩ := h
  rw [e]
  show (-2147483648 ≤ (x : Int) + 16 * _ ∧ (x : Int) + 16 * _ ≤ 2147483647) ∧ (-2147483648 ≤ (y : Int) + 16 * _ ∧ (y : Int) + 16 * _ ≤ 2147483647)
  omega
theorem farB_in {b : Bl} (h1 : inB (b.1.getD 0 0) (-62501) 62501 = true) (h2 : inB (b.1.getD 1 0) (-62501) 62501 = true) : inFar b := by
  simp only [inB, Bool.and_eq_true, decide_eq_true_eq] at h1 h2
  exact ⟨h1, h2⟩
section
attribute [local go_sem ↓] exec_ldCorner exec_ldMask
attribute [local go_sem] run_ldCorner run_ldMask
set_option maxRecDepth 20000 in
set_option maxHeartbeats 3200000 in
theorem iValidPicture_any (A : Option Addr) (n c : Nat) (l : List Bl) (hl : l.length = n) (hrow : Bls l) (h16 : ∀ b ∈ l, is16 b.2) (_h32 : ∀ b ∈ l, ∀ x ∈ b.1, -2147483648 ≤ x ∧ x ≤ 2147483647) (hn : n ≤ 1048576) (w : World) (hR : Rd w w.heap.size 18 A n (bcs l)) :
    Calls Tryd.prog 36 #[.slice A n c] w fun e w' => e = .returned (.bool (vpB l)) ∧ Below w.heap.size w w' := by
  obtain ⟨iu, hiu, hu0, hu1, hu2⟩ := info_parts U16_info
  have HR := Lib.hid hR
  have HROW := Lib.hid hrow
  clear hR hrow
  go_enter Tryd.func36, Tryd.ntmps36
  go_wp2
  go_loopw [7] (fun i wr => ∃ k : Nat, k ≤ n ∧ i = .int .i64 k ∧ Hid (vpTo l k = true) ∧ Below w.heap.size w wr) (fun i _ => n - (intOf i).toNat)
  case atStart => exact ⟨0, by omega, rfl, Lib.hid rfl, Below.refl _ _⟩
  case round =>
    obtain ⟨k, hk, rfl, hv, hb⟩ := hrel
    by_cases hlt : k < n
    · have hkl : k < l.length := by omega
      have hz := hb.size
      have hRw := HR.out.below hb (Nat.le_refl _)
      obtain ⟨b, o, rfl, hbB, hc⟩ := hRw.at_ (by omega)
      have hrg := hRw.block HROW.out (by omega) hkl
      obtain ⟨hb1, hb2⟩ := HROW.out.at_ hkl
      obtain ⟨F, hF⟩ : ∃ F, F = l[k] := ⟨_, rfl⟩
      have hM16 := h16 _ (List.getElem_mem hkl)
      rw [← hF] at hrg hb1 hb2 hM16
      have heq : ∀ W : World, (Op.equalIn 10000 44 (.agg (ivs .u16 F.2)) (.agg #[.int .u16 0, .int .u16 0, .int .u16 0, .int .u16 0, .int .u16 0, .int .u16 0, .int .u16 0, .int .u16 0, .int .u16 0, .int .u16 0, .int .u16 0, .int .u16 0, .int .u16 0, .int .u16 0, .int .u16 0, .int .u16 0])).run Tryd.prog W = .ok (emptyM F.2) W := fun W => run_eql_arr (a := F.2) (b := zr16) W Tryd.underlying44 Tryd.underlying42 hiu (by kernel_rfl) hb2 rfl
      have h2 := two_eq hb1
      have HB := Lib.hid hb
      have HRG := Lib.hid hrg
      have HF1 := Lib.hid (And.intro hb1 hb2)
      have hlt' : (k : Int) < n := by omega
      have HEQ := Lib.hid heq
      have H2 := Lib.hid h2
      have HFE := Lib.hid hF
      clear hF hc hbB hrg hb1 hb2 h2 hb heq hRw hiu hu0 hu1 hu2
      go_wp2_with (first
        | refine wpList_load_mid rfl _ _ rfl b (o + k * 18) (by rfl) (bvs F) _ HRG.out Tryd.underlying95 rfl (by rw [bvs_length HF1.out]; exact size95) ?_
        | refine wpList_store_row rfl _ _ _ rfl wr.heap.size (bav F) rfl rfl 95 (bav (zr2, zr16)) (Blk.newAt rfl rfl) (by rw [bav_size HF1.out]; exact size95) (by rw [bav_size HF1.out, bav_size ⟨rfl, rfl⟩]) (bav_one F) ?_)
      rw [put_none]
      generalize hw5 : World.setRow _ _ _ = w5
      have G0 : Hid (Blk w5 wr.heap.size 95 (bav F)) := Lib.hid (by rw [← hw5]; exact (Blk.newAt rfl rfl).row _)
      have B5 : Hid (Below w.heap.size w w5) := Lib.hid (by rw [← hw5]; exact below_setRow (HB.out.alloc hz _) (g := wr.heap.size) hz _)
      have B5r : Hid (Below wr.heap.size wr w5) := Lib.hid (by rw [← hw5]; exact below_setRow ((Below.refl _ _).alloc (Nat.le_refl _) _) (g := wr.heap.size) (Nat.le_refl _) _)
      clear hw5
      have hM : w5.rangeAt wr.heap.size 2 (F.2.map (.int .u16)) := G0.out.rangeV (bav_at2 HF1.out)
      have hAt : w5.rangeAt wr.heap.size 0 (F.1.map (.int .i32)) := G0.out.rangeV (bav_at1 HF1.out)
      rw [H2.out] at hAt
      obtain ⟨X, hX⟩ : ∃ X, X = F.1.getD 0 0 := ⟨_, rfl⟩
      obtain ⟨Y, hY⟩ : ∃ Y, Y = F.1.getD 1 0 := ⟨_, rfl⟩
      rw [← hX, ← hY] at hAt
      have hAt' : w5.rangeAt wr.heap.size 0 [.int .i32 X, .int .i32 Y] := hAt
      have cX : w5.cell? ⟨wr.heap.size, 0, none⟩ = some (.int .i32 X) := hAt' 0 _ rfl
      have cY : w5.cell? ⟨wr.heap.size, 1, none⟩ = some (.int .i32 Y) := hAt' 1 _ rfl
      have HXY := Lib.hid (And.intro hX hY)
      clear hX hY hAt
      have hgw : wr.heap.size < w5.heap.size := G0.out.lt
      have tX : ∀ t : After w5, t.to.cell? ⟨wr.heap.size, 0, none⟩ = some (.int .i32 X) := fun t => (t.cell hgw).trans cX
      have tY : ∀ t : After w5, t.to.cell? ⟨wr.heap.size, 1, none⟩ = some (.int .i32 Y) := fun t => (t.cell hgw).trans cY
      have tM : ∀ t : After w5, rowAt t.to wr.heap.size 2 16 = ivs .u16 F.2 ∧ hasRow t.to wr.heap.size 2 16 = true := fun t => by
        have := t.row hgw hM
        rwa [List.length_map, HF1.out.2] at this
      have tA : ∀ t : After w5, rowAt t.to wr.heap.size 0 2 = #[.int .i32 X, .int .i32 Y] ∧ hasRow t.to wr.heap.size 0 2 = true := fun t => t.row hgw hAt'
      have tM1 := fun t => (tM t).1
      have tM2 := fun t => (tM t).2
      have tA1 := fun t => (tA t).1
      have tA2 := fun t => (tA t).2
      have heq2 := HEQ.out
      clear cX cY hM hAt' tM tA
      cases hem : emptyM F.2
      · rw [hem] at heq2
        by_cases hk0 : k = 0
        · have HNO : Hid (blkOk F = false → blkAt l k = false) := Lib.hid (fun h => by rw [blkAt, getDB_at hkl, ← HFE.out, h, Bool.and_false])
          have HVN : Hid (blkOk F = true → vpTo l (k + 1) = true) := Lib.hid (fun h => by rw [vpTo_succ, hv.out, blkAt, getDB_at hkl, ← HFE.out, h, hk0]; rfl)
          have hcmp : ∀ W : World, True := fun _ => trivial
          subst hk0
          have hbx := fun W => inR32_any X (-62501) 62501 W
          have hby := fun W => inR32_any Y (-62501) 62501 W
          rcases hx : inB X (-62501) 62501 with _ | _
          · rw [hx] at hbx
            refine region_after (by kernel_rfl) (by kernel_rfl) ?_
            repeat (go_big_quiet_step (first | (go_at_call_of 68 (Value.int .i32 X); exact After.same _ (hbx _))))
            refine wpQuiet_nil ?_
            rintro _ ⟨t, rfl⟩
            go_wp2
            go_ret
            exact ⟨by rw [vpB_no hkl (HNO.out (by rw [blkOk, farB, ← HXY.out.1, hx]; simp))]; rfl, B5.out.trans (t.h.mono B5.out.size)⟩
          · rw [hx] at hbx
            rcases hy : inB Y (-62501) 62501 with _ | _
            · rw [hy] at hby
              refine region_after (by kernel_rfl) (by kernel_rfl) ?_
              repeat (go_big_quiet_step (first | (go_at_call_of 68 (Value.int .i32 X); exact After.same _ (hbx _)) | (go_at_call_of 68 (Value.int .i32 Y); exact After.same _ (hby _))))
              refine wpQuiet_nil ?_
              rintro _ ⟨t, rfl⟩
              go_wp2
              go_ret
              exact ⟨by rw [vpB_no hkl (HNO.out (by rw [blkOk, farB, ← HXY.out.2, hy]; simp))]; rfl, B5.out.trans (t.h.mono B5.out.size)⟩
            · rw [hy] at hby
              refine region_after (by kernel_rfl) (by kernel_rfl) ?_
              repeat (go_big_quiet_step (first | (go_at_call_of 68 (Value.int .i32 X); exact After.same _ (hbx _)) | (go_at_call_of 68 (Value.int .i32 Y); exact After.same _ (hby _))))
              refine wpQuiet_nil ?_
              rintro _ ⟨t, rfl⟩
              have hfar : inFar F := farB_in (by rw [← HXY.out.1]; exact hx) (by rw [← HXY.out.2]; exact hy)
              have hT : Blk t.to wr.heap.size 95 (bav F) := (t.h.block _ hgw).trans G0.out
              have HT := Lib.hid hT
              have BT := Lib.hid (B5.out.trans (t.h.mono B5.out.size))
              have HC := Lib.hid (iCells_any F HF1.out hM16 hfar t.to)
              have HSM := Lib.hid (bCells_small hfar)
              have hfb : farB F = true := by rw [farB, ← HXY.out.1, ← HXY.out.2, hx, hy]; rfl
              have HOKB : Hid (blkOk F = okCells (bCells F)) := Lib.hid (by rw [blkOk, hem, hfb]; simp)
              clear hbx hby hx hy hT hfb tX tY tM1 tM2 tA1 tA2
              generalize t.to = w6 at *
              rcases hok : okCells (bCells F) with _ | _
              · go_wp2_with (first
                  | refine wpList_load_row rfl _ _ rfl wr.heap.size rfl 95 (bav F) (0, 0) _ HT.out Tryd.underlying95 rfl (by rw [bav_size HF1.out]; exact size95) ?_
                  | (go_at_call 70; refine HC.out.mono ?_; rintro e w7 ⟨g7, c7, rfl, hO7, hb7⟩; have z7 := hb7.size; have HCF := Lib.hid (containsFunc_any _ (bCells F).length c7 (bCells F) rfl (bCells_rows F) HSM.out (by have := bCells_length F; omega) w7 (hO7.rd)); have B7 := Lib.hid (BT.out.trans (hb7.mono BT.out.size)); clear hO7 hb7)
                  | (go_at_call 69; refine HCF.out.mono ?_; rw [hok]; rintro e w8 ⟨rfl, hb8⟩; have B8 := Lib.hid (B7.out.trans (hb8.mono B7.out.size)); clear hb8))
                go_ret
                exact ⟨by rw [vpB_no hkl (HNO.out (by rw [HOKB.out, hok]))]; rfl, B8.out⟩
              · go_wp2_with (first
                  | refine wpList_load_row rfl _ _ rfl wr.heap.size rfl 95 (bav F) (0, 0) _ HT.out Tryd.underlying95 rfl (by rw [bav_size HF1.out]; exact size95) ?_
                  | (go_at_call 70; refine HC.out.mono ?_; rintro e w7 ⟨g7, c7, rfl, hO7, hb7⟩; have z7 := hb7.size; have HCF := Lib.hid (containsFunc_any _ (bCells F).length c7 (bCells F) rfl (bCells_rows F) HSM.out (by have := bCells_length F; omega) w7 (hO7.rd)); have B7 := Lib.hid (BT.out.trans (hb7.mono BT.out.size)); clear hO7 hb7)
                  | (go_at_call 69; refine HCF.out.mono ?_; rw [hok]; rintro e w8 ⟨rfl, hb8⟩; have B8 := Lib.hid (B7.out.trans (hb8.mono B7.out.size)); clear hb8))
                exact ⟨⟨1, by omega, by go_num, Lib.hid (HVN.out (by rw [HOKB.out, hok])), B8.out⟩, by simp [intOf]; omega⟩
        · obtain ⟨j, rfl⟩ : ∃ j, k = j + 1 := ⟨k - 1, by omega⟩
          have hjl : j < l.length := by omega
          obtain ⟨hp1, hp2⟩ := HROW.out.at_ hjl
          have hgb : b < w5.heap.size := by have := B5r.out.size; obtain ⟨b', o', e', h', _⟩ := (HR.out.below HB.out (Nat.le_refl _)).at_ (by omega); cases e'; omega
          have hpg : w5.rangeAt b (o + j * 18) (l[j].1.map (.int .i32)) := by
            have h1 := (HR.out.below HB.out (Nat.le_refl _)).block HROW.out (by omega) hjl
            have h2 : wr.rangeAt b (o + j * 18) (l[j].1.map (.int .i32)) := fun q v hq => h1 q v (by
              rw [bvs, List.getElem?_append_left (by exact (List.getElem?_eq_some_iff.1 hq).1)]
              exact hq)
            exact range_of_below h2 B5r.out (by obtain ⟨b', o', e', h', _⟩ := (HR.out.below HB.out (Nat.le_refl _)).at_ (by omega); cases e'; omega)
          rw [two_eq hp1] at hpg
          have hbf : befB l[j] F = decide (cmpC (l[j].1.getD 0 0) (l[j].1.getD 1 0) X Y < 0) := by rw [befB, HXY.out.1, HXY.out.2]
          have hat : blkAt l (j + 1) = (befB l[j] F && blkOk F) := by rw [blkAt, getDB_at hkl, ← HFE.out, Nat.add_sub_cancel, getDB_at hjl]; rfl
          have HAT := Lib.hid hat
          have HBF := Lib.hid hbf
          generalize l[j].1.getD 0 0 = px at *
          generalize l[j].1.getD 1 0 = py at *
          have hpg' : w5.rangeAt b (o + j * 18) [.int .i32 px, .int .i32 py] := hpg
          have tP : ∀ t : After w5, rowAt t.to b (o + j * 18) 2 = #[.int .i32 px, .int .i32 py] ∧ hasRow t.to b (o + j * 18) 2 = true := fun t => t.row hgb hpg'
          have tP1 := fun t => (tP t).1
          have tP2 := fun t => (tP t).2
          have hcmp := fun W => compareCorners_any px py X Y W
          have hj0 : (0 : Int) ≤ j := by omega
          have hj1 : (j : Int) < n := by omega
          clear tP hpg hpg' hat hbf hp1 hp2
          generalize cmpC px py X Y = cv at *
          by_cases hcv : 0 ≤ cv
          · have hno : blkAt l (j + 1) = false := by rw [HAT.out, HBF.out, decide_eq_false (by omega)]; rfl
            refine region_after (by kernel_rfl) (by kernel_rfl) ?_
            repeat (go_big_quiet_step (first | (go_at_call 67; exact After.call _ (hcmp _))))
            refine wpQuiet_nil ?_
            rintro _ ⟨t, rfl⟩
            go_wp2
            go_ret
            exact ⟨by rw [vpB_no hkl hno]; rfl, B5.out.trans (t.h.mono B5.out.size)⟩
          · have HNO : Hid (blkOk F = false → blkAt l (j + 1) = false) := Lib.hid (fun h => by rw [HAT.out, h, Bool.and_false])
            have HVN : Hid (blkOk F = true → vpTo l (j + 1 + 1) = true) := Lib.hid (fun h => by rw [vpTo_succ, hv.out, HAT.out, HBF.out, h, decide_eq_true (by omega)]; rfl)
            have hbx := fun W => inR32_any X (-62501) 62501 W
            have hby := fun W => inR32_any Y (-62501) 62501 W
            rcases hx : inB X (-62501) 62501 with _ | _
            · rw [hx] at hbx
              refine region_after (by kernel_rfl) (by kernel_rfl) ?_
              repeat (go_big_quiet_step (first | (go_at_call 67; exact After.call _ (hcmp _)) | (go_at_call_of 68 (Value.int .i32 X); exact After.same _ (hbx _))))
              refine wpQuiet_nil ?_
              rintro _ ⟨t, rfl⟩
              go_wp2
              go_ret
              exact ⟨by rw [vpB_no hkl (HNO.out (by rw [blkOk, farB, ← HXY.out.1, hx]; simp))]; rfl, B5.out.trans (t.h.mono B5.out.size)⟩
            · rw [hx] at hbx
              rcases hy : inB Y (-62501) 62501 with _ | _
              · rw [hy] at hby
                refine region_after (by kernel_rfl) (by kernel_rfl) ?_
                repeat (go_big_quiet_step (first | (go_at_call 67; exact After.call _ (hcmp _)) | (go_at_call_of 68 (Value.int .i32 X); exact After.same _ (hbx _)) | (go_at_call_of 68 (Value.int .i32 Y); exact After.same _ (hby _))))
                refine wpQuiet_nil ?_
                rintro _ ⟨t, rfl⟩
                go_wp2
                go_ret
                exact ⟨by rw [vpB_no hkl (HNO.out (by rw [blkOk, farB, ← HXY.out.2, hy]; simp))]; rfl, B5.out.trans (t.h.mono B5.out.size)⟩
              · rw [hy] at hby
                refine region_after (by kernel_rfl) (by kernel_rfl) ?_
                repeat (go_big_quiet_step (first | (go_at_call 67; exact After.call _ (hcmp _)) | (go_at_call_of 68 (Value.int .i32 X); exact After.same _ (hbx _)) | (go_at_call_of 68 (Value.int .i32 Y); exact After.same _ (hby _))))
                refine wpQuiet_nil ?_
                rintro _ ⟨t, rfl⟩
                have hfar : inFar F := farB_in (by rw [← HXY.out.1]; exact hx) (by rw [← HXY.out.2]; exact hy)
                have hT : Blk t.to wr.heap.size 95 (bav F) := (t.h.block _ hgw).trans G0.out
                have HT := Lib.hid hT
                have BT := Lib.hid (B5.out.trans (t.h.mono B5.out.size))
                have HC := Lib.hid (iCells_any F HF1.out hM16 hfar t.to)
                have HSM := Lib.hid (bCells_small hfar)
                have hfb : farB F = true := by rw [farB, ← HXY.out.1, ← HXY.out.2, hx, hy]; rfl
                have HOKB : Hid (blkOk F = okCells (bCells F)) := Lib.hid (by rw [blkOk, hem, hfb]; simp)
                clear hbx hby hx hy hT hfb tX tY tM1 tM2 tA1 tA2
                generalize t.to = w6 at *
                rcases hok : okCells (bCells F) with _ | _
                · go_wp2_with (first
                    | refine wpList_load_row rfl _ _ rfl wr.heap.size rfl 95 (bav F) (0, 0) _ HT.out Tryd.underlying95 rfl (by rw [bav_size HF1.out]; exact size95) ?_
                    | (go_at_call 70; refine HC.out.mono ?_; rintro e w7 ⟨g7, c7, rfl, hO7, hb7⟩; have z7 := hb7.size; have HCF := Lib.hid (containsFunc_any _ (bCells F).length c7 (bCells F) rfl (bCells_rows F) HSM.out (by have := bCells_length F; omega) w7 (hO7.rd)); have B7 := Lib.hid (BT.out.trans (hb7.mono BT.out.size)); clear hO7 hb7)
                    | (go_at_call 69; refine HCF.out.mono ?_; rw [hok]; rintro e w8 ⟨rfl, hb8⟩; have B8 := Lib.hid (B7.out.trans (hb8.mono B7.out.size)); clear hb8))
                  go_ret
                  exact ⟨by rw [vpB_no hkl (HNO.out (by rw [HOKB.out, hok]))]; rfl, B8.out⟩
                · go_wp2_with (first
                    | refine wpList_load_row rfl _ _ rfl wr.heap.size rfl 95 (bav F) (0, 0) _ HT.out Tryd.underlying95 rfl (by rw [bav_size HF1.out]; exact size95) ?_
                    | (go_at_call 70; refine HC.out.mono ?_; rintro e w7 ⟨g7, c7, rfl, hO7, hb7⟩; have z7 := hb7.size; have HCF := Lib.hid (containsFunc_any _ (bCells F).length c7 (bCells F) rfl (bCells_rows F) HSM.out (by have := bCells_length F; omega) w7 (hO7.rd)); have B7 := Lib.hid (BT.out.trans (hb7.mono BT.out.size)); clear hO7 hb7)
                    | (go_at_call 69; refine HCF.out.mono ?_; rw [hok]; rintro e w8 ⟨rfl, hb8⟩; have B8 := Lib.hid (B7.out.trans (hb8.mono B7.out.size)); clear hb8))
                  exact ⟨⟨j + 1 + 1, by omega, by go_num, Lib.hid (HVN.out (by rw [HOKB.out, hok])), B8.out⟩, by simp [intOf]; omega⟩
      · rw [hem] at heq2
        refine region_after (by kernel_rfl) (by kernel_rfl) ?_
        repeat (go_big_quiet_step (fail))
        refine wpQuiet_nil ?_
        rintro _ ⟨t, rfl⟩
        go_wp2
        go_ret
        exact ⟨by rw [vpB_no hkl (by rw [blkAt, getDB_at hkl, ← HFE.out, blkOk, hem]; simp)]; rfl, B5.out.trans (t.h.mono B5.out.size)⟩
    · obtain rfl : k = n := by omega
      have hvl : vpB l = decide ((k : Int) ≤ 64) := by
        have := hv.out
        rw [vpB, hl, this, Bool.true_and]
        exact decide_eq_decide.2 (by omega)
      have HVL := Lib.hid hvl
      have HB := Lib.hid hb
      clear hvl hv hb
      go_wp2
      go_ret
      exact ⟨by rw [HVL.out]; rfl, HB.out⟩
end
end Go.Proofs.YtmagaapdijapiaaDoor
