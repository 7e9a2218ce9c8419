/- Fs, Fi, Vb in one text. -/
import Derived.Test.YtmagaapdijapiaaRows
import Derived.Test.YtmagaapdijapiaaHy1
import Derived.Deep.Cut
import Derived.Test.YtmagaapdijapiaaHy2
namespace Go.Proofs.Ytmagaapdijapiaa
open Go.ChangeShapes Go.WideShapes Go.ChangeAt Go.RowKit
theorem results_frame {fn : Func} (hfn : fn.results = #[.cell 2 63, .cell 3 63, .tmp 4]) (tmps : Array Value) (W : World) (g1 g2 : Nat) (a b : List Int) (ha : a.length = 2) (hb : b.length = 2) (k : Int) (h1 : tmps.getD 2 undef = .pointer (some ⟨g1, 0, none⟩)) (h2 : tmps.getD 3 undef = .pointer (some ⟨g2, 0, none⟩)) (h3 : tmps.getD 4 undef = .int .i64 k)
    (c1 : Blk W g1 63 (ivs .i32 a)) (c2 : Blk W g2 63 (ivs .i32 b)) :
    (results fn tmps).run Try.prog W = .ok (.tuple #[.agg (ivs .i32 a), .agg (ivs .i32 b), .int .i64 k]) W := by
  have h1' : tmps[2]?.getD undef = .pointer (some ⟨g1, 0, none⟩) := by simpa using h1
  have h2' : tmps[3]?.getD undef = .pointer (some ⟨g2, 0, none⟩) := by simpa using h2
  have h3' : tmps[4]?.getD undef = .int .i64 k := by simpa using h3
  have l1 := run_loadVar_row (P := Try.prog) W g1 63 63 (ivs .i32 a) (0, 0) _ c1 Try.underlying63 rfl (by rw [ivs_size, ha]; exact size63)
  have l2 := run_loadVar_row (P := Try.prog) W g2 63 63 (ivs .i32 b) (0, 0) _ c2 Try.underlying63 rfl (by rw [ivs_size, hb]; exact size63)
  simp [results, hfn, h1', h2', h3', asAddr, l1, l2]
structure FrI (w w2 wr : World) (g gl gh : Nat) (C : List (List Int)) (k d e : Nat) : Prop where
  low : Blk wr gl 63 (ivs .i32 (loL C k d))
  high : Blk wr gh 63 (ivs .i32 (hiL C k e))
  r1 : Blk wr w.heap.size 63 (ivs .i32 [0, 0])
  r2 : Blk wr (w.heap.size + 1) 63 (ivs .i32 [0, 0])
  cells : wr.heap[g]? = w2.heap[g]?
  below : Below w.heap.size w wr
  apart : gl ≠ gh ∧ w.heap.size + 1 < gl ∧ w.heap.size + 1 < gh ∧ g ≠ gl ∧ g ≠ gh ∧ g < w2.heap.size ∧ w2.heap.size ≤ wr.heap.size
section
variable {w w2 wr : World} {g gl gh : Nat} {C : List (List Int)} {k d e : Nat}
theorem FrI.drew (h : FrI w w2 wr g gl gh C k d e) : FrI w w2 wr.drew g gl gh C k d e := ⟨h.low.drew, h.high.drew, h.r1.drew, h.r2.drew, h.cells, below_drew h.below, h.apart⟩
theorem FrI.drewN (h : FrI w w2 wr g gl gh C k d e) (m : Nat) : FrI w w2 (wr.drewN m) g gl gh C k d e := ⟨h.low.drewN m, h.high.drewN m, h.r1.drewN m, h.r2.drewN m, h.cells, below_drewN h.below m, h.apart⟩
theorem FrI.setLow (h : FrI w w2 wr g gl gh C k d e) (hd : d < 2) {v : Int} (hv : loN C d (k + 1) = v) : FrI w w2 (wr.setCell ⟨gl, d, none⟩ (.int .i32 v)) g gl gh C k (d + 1) e := by
  have ha := h.apart
  refine ⟨?_, h.high.far (p := ⟨gl, d, none⟩) (show gh ≠ gl by omega) _, h.r1.far (p := ⟨gl, d, none⟩) (show w.heap.size ≠ gl by omega) _, h.r2.far (p := ⟨gl, d, none⟩) (show w.heap.size + 1 ≠ gl by omega) _, (heap_setCell_other _ _ _ _ ha.2.2.2.1).trans h.cells, h.below.setCell (p := ⟨gl, d, none⟩) (show w.heap.size ≤ gl by omega) _, by rw [size_setCell]; exact ha⟩
  rw [← loL_set hd, hv]
  exact h.low.setI d v
theorem FrI.setHigh (h : FrI w w2 wr g gl gh C k d e) (he : e < 2) {v : Int} (hv : hiN C e (k + 1) = v) : FrI w w2 (wr.setCell ⟨gh, e, none⟩ (.int .i32 v)) g gl gh C k d (e + 1) := by
  have ha := h.apart
  refine ⟨h.low.far (p := ⟨gh, e, none⟩) (show gl ≠ gh by omega) _, ?_, h.r1.far (p := ⟨gh, e, none⟩) (show w.heap.size ≠ gh by omega) _, h.r2.far (p := ⟨gh, e, none⟩) (show w.heap.size + 1 ≠ gh by omega) _, (heap_setCell_other _ _ _ _ ha.2.2.2.2.1).trans h.cells, h.below.setCell (p := ⟨gh, e, none⟩) (show w.heap.size ≤ gh by omega) _, by rw [size_setCell]; exact ha⟩
  rw [← hiL_set he, hv]
  exact h.high.setI e v
theorem FrI.sameLow (h : FrI w w2 wr g gl gh C k d e) (hd : d < 2) (hv : loN C d (k + 1) = loN C d k) : FrI w w2 wr g gl gh C k (d + 1) e := ⟨loL_same hd hv ▸ h.low, h.high, h.r1, h.r2, h.cells, h.below, h.apart⟩
theorem FrI.sameHigh (h : FrI w w2 wr g gl gh C k d e) (he : e < 2) (hv : hiN C e (k + 1) = hiN C e k) : FrI w w2 wr g gl gh C k d (e + 1) := ⟨h.low, hiL_same he hv ▸ h.high, h.r1, h.r2, h.cells, h.below, h.apart⟩
theorem FrI.next (h : FrI w w2 wr g gl gh C k 2 2) : FrI w w2 wr g gl gh C (k + 1) 0 0 := ⟨h.low, h.high, h.r1, h.r2, h.cells, h.below, h.apart⟩
theorem FrI.below_ {wr' : World} (h : FrI w w2 wr g gl gh C k d e) (hb : Below wr.heap.size wr wr') : FrI w w2 wr' g gl gh C k d e := by
  have ha := h.apart
  have hz := hb.size
  exact ⟨h.low.below hb h.low.lt, h.high.below hb h.high.lt, h.r1.below hb h.r1.lt, h.r2.below hb h.r2.lt, (hb.block g (by omega)).trans h.cells, h.below.trans (hb.mono h.below.size), by omega⟩
theorem FrI.getLow (h : FrI w w2 wr g gl gh C k d e) (hd : d < 2) : wr.cell? ⟨gl, d, none⟩ = some (.int .i32 (loN C d k)) ∧ wr.frozen? ⟨gl, d, none⟩ = false := by
  refine ⟨?_, h.low.frozen d⟩
  have := h.low.getAtG (i := d) (show d < (loL C k d).length from hd)
  rwa [loL_getD hd] at this
theorem FrI.getHigh (h : FrI w w2 wr g gl gh C k d e) (he : e < 2) : wr.cell? ⟨gh, e, none⟩ = some (.int .i32 (hiN C e k)) ∧ wr.frozen? ⟨gh, e, none⟩ = false := by
  refine ⟨?_, h.high.frozen e⟩
  have := h.high.getAtG (i := e) (show e < (hiL C k e).length from he)
  rwa [hiL_getD he] at this
theorem FrI.getCell (h : FrI w w2 wr g gl gh C k d e) (hC : Rows_ 2 C) (hk : k < C.length) (hR : Rd w2 w2.heap.size 2 (some ⟨g, 0, none⟩) C.length (pvs C)) {j : Nat} (hj : j < 2) : wr.cell? ⟨g, k * 2 + j, none⟩ = some (.int .i32 (crd C k j)) :=
  (World.cell?_of_block (a := ⟨g, k * 2 + j, none⟩) h.cells).trans (pvs_cell hC hk hR rfl hj)
end
theorem loN_hiN (C : List (List Int)) (k : Nat) : ∀ n, loN C k n ≤ hiN C k n
  | 0 => Int.le_refl _
  | n + 1 => by
    have := loN_hiN C k n
    rw [loN, hiN]
    omega
theorem loN_lt {C : List (List Int)} {k n : Nat} (h : crd C n k < loN C k n) : loN C k (n + 1) = crd C n k := by rw [loN]; omega
theorem loN_ge {C : List (List Int)} {k n : Nat} (h : ¬ crd C n k < loN C k n) : loN C k (n + 1) = loN C k n := by rw [loN]; omega
theorem hiN_gt {C : List (List Int)} {k n : Nat} (h : hiN C k n < crd C n k) : hiN C k (n + 1) = crd C n k := by rw [hiN]; omega
theorem hiN_le {C : List (List Int)} {k n : Nat} (h : ¬ hiN C k n < crd C n k) : hiN C k (n + 1) = hiN C k n := by rw [hiN]; omega
/-- a corner that may be written -/
def FitC (W : World) (g : Nat) : Prop := ∃ cs : Array Value, Blk W g 63 cs ∧ cs.size = 2
theorem Blk.fit {W : World} {g : Nat} {l : List Int} (h : Blk W g 63 (ivs .i32 l)) (hl : l.length = 2) : FitC W g := ⟨_, h, by rw [ivs_size, hl]⟩
def stCor (ty : TypeId) (p v : Value) : Sem Next := do Instr.storeAt ty p v; pure .skip
theorem exec_stCorner (ρ : Operand → Value) (dst : Option Tmp) (x y : Operand) (t : TypeId) (pos : String) (after : Array Edge) (guard : Option (Nat × Bool)) :
    execOp ρ { dst := dst, op := .store 63 x y, type := t, pos := pos, after := after, guard := guard } = stCor 63 (ρ x) (ρ y) := rfl
theorem run_stCorner (W : World) (g : Nat) (h : FitC W g) (x y : Int) : (stCor 63 (.pointer (some ⟨g, 0, none⟩)) (.agg #[.int .i32 x, .int .i32 y])).run Try.prog W = .ok .skip (W.setRow g #[.int .i32 x, .int .i32 y]) := by
  obtain ⟨cs, h1, h2⟩ := h
  have := run_storeVar_row (P := Try.prog) W g 63 63 cs #[.int .i32 x, .int .i32 y] h1 (by exact size63) (by rw [h2]; rfl) (ivs_one (k := .i32) (l := [x, y]))
  unfold stCor
  simp only [Instr.storeAt, Instr.sureAddr, Sem.run_bind, Sem.run_pure, Result.andThen_ok, this]
theorem rd_corner2 {W : World} {g : Nat} {x y : Int} (h : Blk W g 63 (ivs .i32 [x, y])) : rowAt W g 0 2 = #[.int .i32 x, .int .i32 y] ∧ hasRow W g 0 2 = true := ⟨h.rowAt_eq rfl, h.hasRow_eq rfl⟩
def GivesFrame (a b : List Int) (k : Int) (w : World) (e : Ending) (w' : World) : Prop := e = .returned (.tuple #[.agg (ivs .i32 a), .agg (ivs .i32 b), .int .i64 k]) ∧ Below w.heap.size w w'
section
attribute [local go_sem ↓] exec_ldCorner exec_stCorner
attribute [local go_sem] run_ldCorner run_stCorner
end
end Go.Proofs.Ytmagaapdijapiaa
namespace Go.Proofs.Ytmagaapdijapiaa
open Go.ChangeShapes Go.WideShapes Go.ChangeAt Go.RowKit
theorem exec_ldPair (ρ : Operand → Value) (dst : Option Tmp) (x : Operand) (t : TypeId) (pos : String) (after : Array Edge) (guard : Option (Nat × Bool)) :
    execOp ρ { dst := dst, op := .load 60 x, type := t, pos := pos, after := after, guard := guard } = ldRow 60 (ρ x) := rfl
theorem run_ldPair : ∀ (W : World) (g o : Nat), hasRow W g o 2 = true → (ldRow 60 (.pointer (some ⟨g, o, none⟩))).run Try.prog W = .ok (.value (.agg (rowAt W g o 2))) W := run_ldRow Try.underlying60 rfl size60
section
attribute [local go_sem ↓] exec_ldCorner exec_stCorner exec_ldPair
attribute [local go_sem] run_ldCorner run_stCorner run_ldPair
set_option maxRecDepth 20000 in
set_option maxHeartbeats 3200000 in
theorem iFrameOf_any (A : Option Addr) (n c : Nat) (l : List Bl) (hl : l.length = n) (hrow : Bls l) (h16 : ∀ b ∈ l, is16 b.2) (h32 : ∀ b ∈ l, ∀ x ∈ b.1, -2147483648 ≤ x ∧ x ≤ 2147483647) (hn : n ≤ 1048576) (w : World) (hR : Rd w w.heap.size 18 A n (bcs l)) :
    Calls Try.prog 42 #[.slice A n c] w (GivesFrame (frmL l) (frmH l) (frmK l) w) := by
  have r1 : Blk ((w.alloc (.cells (ivs .i32 [0, 0]) 63)).alloc (.cells (ivs .i32 [0, 0]) 63)) w.heap.size 63 (ivs .i32 [0, 0]) := (Blk.newAt rfl rfl).alloc _
  have r2 : Blk ((w.alloc (.cells (ivs .i32 [0, 0]) 63)).alloc (.cells (ivs .i32 [0, 0]) 63)) (w.heap.size + 1) 63 (ivs .i32 [0, 0]) := Blk.newAt (by simp) rfl
  have bW : Below w.heap.size w ((w.alloc (.cells (ivs .i32 [0, 0]) 63)).alloc (.cells (ivs .i32 [0, 0]) 63)) := ((Below.refl _ _).alloc (Nat.le_refl _) _).alloc (by simp) _
  have ho := fun W h => iValidPicture_any A n c l hl hrow h16 h32 hn W h
  have hv := fun h => vpic_of hrow h16 h
  rw [frmL, frmH, frmK]
  have K := Lib.hid (And.intro r1 (And.intro r2 bW))
  have HR := Lib.hid hR
  clear r1 r2 bW hR
  cases hok : vpB l
  · rw [hok] at ho
    have HO := Lib.hid ho
    clear hv hok hrow h16 h32 hl ho
    go_enter Try.func42, Try.ntmps42
    go_wp2_with (first
      | (go_at_call 33; refine (HO.out _ ((HR.out.below K.out.2.2 (Nat.le_refl _)).more K.out.2.2.size)).mono ?_; rintro e w1 ⟨rfl, b1⟩; have R1 := Lib.hid (K.out.1.below b1 K.out.1.lt); have R2 := Lib.hid (K.out.2.1.below b1 K.out.2.1.lt); have B1 := Lib.hid (K.out.2.2.trans (b1.mono K.out.2.2.size)); clear b1)
      | refine wpList_store_row rfl _ _ _ rfl w.heap.size (ivs .i32 [0, 0]) rfl rfl 63 _ R1.out (by exact size63) rfl ivs_one ?_
      | refine wpList_store_row rfl _ _ _ rfl (w.heap.size + 1) (ivs .i32 [0, 0]) rfl rfl 63 _ (R2.out.rowFar (by omega) _) (by exact size63) rfl ivs_one ?_)
    exact bodyPost_ret (results_frame rfl _ _ w.heap.size (w.heap.size + 1) [0, 0] [0, 0] rfl rfl 1 rfl rfl rfl ((R1.out.row _).rowFar (by omega) _) ((R2.out.rowFar (by omega) _).row _)) rfl ⟨rfl, below_setRow (below_setRow B1.out (Nat.le_refl _) _) (Nat.le_succ _) _⟩
  · rw [hok] at ho
    have HO := Lib.hid ho
    have hV := hv hok
    have HCS := Lib.hid (fun W h => cellsOf_any A n c l hl hV W h)
    have hcnt := hV.count
    have hrc := specC_rows l
    have HRC := Lib.hid hrc
    have hzero := hV.cells_zero
    rw [hl] at hzero
    clear hv hok hrow h16 h32 hl ho hV hrc
    simp only [if_true]
    generalize specC l = C at *
    by_cases h0 : C.length = 0
    · rw [if_pos h0, if_pos h0, if_pos h0]
      obtain rfl := hzero.1 h0
      clear hzero
      go_enter Try.func42, Try.ntmps42
      go_wp2_with (first
        | (go_at_call 33; refine (HO.out _ ((HR.out.below K.out.2.2 (Nat.le_refl _)).more K.out.2.2.size)).mono ?_; rintro e w1 ⟨rfl, b1⟩; have R1 := Lib.hid (K.out.1.below b1 K.out.1.lt); have R2 := Lib.hid (K.out.2.1.below b1 K.out.2.1.lt); have B1 := Lib.hid (K.out.2.2.trans (b1.mono K.out.2.2.size)); clear b1)
        | refine wpList_store_row rfl _ _ _ rfl w.heap.size (ivs .i32 [0, 0]) rfl rfl 63 _ R1.out (by exact size63) rfl ivs_one ?_
        | refine wpList_store_row rfl _ _ _ rfl (w.heap.size + 1) (ivs .i32 [0, 0]) rfl rfl 63 _ (R2.out.rowFar (by omega) _) (by exact size63) rfl ivs_one ?_)
      exact bodyPost_ret (results_frame rfl _ _ w.heap.size (w.heap.size + 1) [0, 0] [0, 0] rfl rfl 6 rfl rfl rfl ((R1.out.row _).rowFar (by omega) _) ((R2.out.rowFar (by omega) _).row _)) rfl ⟨rfl, below_setRow (below_setRow B1.out (Nat.le_refl _) _) (Nat.le_succ _) _⟩
    · rw [if_neg h0, if_neg h0, if_neg h0]
      have hn0 : ¬ n = 0 := fun h => h0 (hzero.2 h)
      have hnI : ¬ (n : Int) = 0 := by omega
      have hpos : 0 < C.length := by omega
      have hposI : (0 : Int) < C.length := by omega
      obtain ⟨x, y, hxy⟩ : ∃ x y, C[0] = [x, y] := ⟨_, _, two_of (HRC.out.at_ hpos)⟩
      have HXY := Lib.hid hxy
      have HZ := Lib.hid (loL_zero hpos hxy)
      clear hxy hzero hn0
      go_enter Try.func42, Try.ntmps42
      go_wp2_with (first
        | (go_at_call 33; refine (HO.out _ ((HR.out.below K.out.2.2 (Nat.le_refl _)).more K.out.2.2.size)).mono ?_; rintro e w1 ⟨rfl, b1⟩; have R1 := Lib.hid (K.out.1.below b1 K.out.1.lt); have R2 := Lib.hid (K.out.2.1.below b1 K.out.2.1.lt); have B1 := Lib.hid (K.out.2.2.trans (b1.mono K.out.2.2.size)); clear b1)
        | (go_at_call 70; refine (HCS.out _ ((HR.out.below B1.out (Nat.le_refl _)).more B1.out.size)).mono ?_; rintro e w2 ⟨g, cc, rfl, hO, b2⟩; have Q1 := Lib.hid (R1.out.below b2 R1.out.lt); have Q2 := Lib.hid (R2.out.below b2 R2.out.lt); have B2 := Lib.hid (B1.out.trans (b2.mono B1.out.size)); have HCL := Lib.hid hO.rd; have HGB := Lib.hid hO.blk_; have RG := Lib.hid (pvs_first HRC.out hpos hO.rd rfl HXY.out); have HZ2 : Hid (w.heap.size + 2 ≤ w2.heap.size) := Lib.hid (by have h1 := Q2.out.lt; omega); clear b2 hO))
      have hg2 : g < w2.heap.size := HGB.out.2
      have hrg2 : ((w2.alloc (.cells #[.int .i32 0, .int .i32 0] 63)).alloc (.cells #[.int .i32 0, .int .i32 0] 63)).drew.rangeAt g 0 [.int .i32 x, .int .i32 y] := fun j v hv => by
        have h1 := RG.out j v hv
        rw [← h1]
        exact (below_drew (((Below.refl w2.heap.size w2).alloc (Nat.le_refl _) (.cells #[.int .i32 0, .int .i32 0] 63)).alloc (by simp) (.cells #[.int .i32 0, .int .i32 0] 63))).cell (p := ⟨g, 0 + j, none⟩) hg2
      have y0 : w2.cell? ⟨g, 0, none⟩ = some (.int .i32 x) := RG.out 0 _ rfl
      have y1 : w2.cell? ⟨g, 1, none⟩ = some (.int .i32 y) := RG.out 1 _ rfl
      have y4 : ((w2.alloc (.cells #[.int .i32 0, .int .i32 0] 63)).alloc (.cells #[.int .i32 0, .int .i32 0] 63)).cell? ⟨g, 0, none⟩ = some (.int .i32 x) := hrg2 0 _ rfl
      have y5 : ((w2.alloc (.cells #[.int .i32 0, .int .i32 0] 63)).alloc (.cells #[.int .i32 0, .int .i32 0] 63)).cell? ⟨g, 1, none⟩ = some (.int .i32 y) := hrg2 1 _ rfl
      have q3 : FitC ((w2.alloc (.cells #[.int .i32 0, .int .i32 0] 63)).alloc (.cells #[.int .i32 0, .int .i32 0] 63)).drew w2.heap.size := Blk.fit (l := [0, 0]) ((Blk.newAt rfl rfl).alloc _).drew rfl
      have q4 : FitC (((w2.alloc (.cells #[.int .i32 0, .int .i32 0] 63)).alloc (.cells #[.int .i32 0, .int .i32 0] 63)).drew.setRow w2.heap.size #[.int .i32 x, .int .i32 y]) (w2.heap.size + 1) := Blk.fit (l := [0, 0]) ((Blk.newAt (by simp) rfl).drew.rowFar (by omega) _) rfl
      have hbz : Below w2.heap.size w2 ((w2.alloc (.cells #[.int .i32 x, .int .i32 y] 63)).alloc (.cells #[.int .i32 x, .int .i32 y] 63)).drew := below_drew (((Below.refl w2.heap.size w2).alloc (Nat.le_refl _) (.cells #[.int .i32 x, .int .i32 y] 63)).alloc (by simp) (.cells #[.int .i32 x, .int .i32 y] 63))
      have k1 : Blk ((w2.alloc (.cells #[.int .i32 x, .int .i32 y] 63)).alloc (.cells #[.int .i32 x, .int .i32 y] 63)).drew w2.heap.size 63 (ivs .i32 [x, y]) := ((Blk.newAt rfl rfl).alloc _).drew
      have k2 : Blk ((w2.alloc (.cells #[.int .i32 x, .int .i32 y] 63)).alloc (.cells #[.int .i32 x, .int .i32 y] 63)).drew (w2.heap.size + 1) 63 (ivs .i32 [x, y]) := (Blk.newAt (by simp) rfl).drew
      have HFab : Hid (FrI w w2 ((w2.alloc (.cells #[.int .i32 x, .int .i32 y] 63)).alloc (.cells #[.int .i32 x, .int .i32 y] 63)).drew g w2.heap.size (w2.heap.size + 1) C 0 0 0 ∧ FrI w w2 ((w2.alloc (.cells #[.int .i32 x, .int .i32 y] 63)).alloc (.cells #[.int .i32 x, .int .i32 y] 63)).drew g (w2.heap.size + 1) w2.heap.size C 0 0 0) := Lib.hid (by
        have h2 := HZ2.out
        have hq1 := Q1.out.below hbz Q1.out.lt
        have hq2 := Q2.out.below hbz Q2.out.lt
        have hb := B2.out.trans (hbz.mono B2.out.size)
        have hz := hbz.size
        have hc := hbz.block g hg2
        exact ⟨⟨by rw [HZ.out.1]; exact k1, by rw [HZ.out.2]; exact k2, hq1, hq2, hc, hb, by omega⟩, ⟨by rw [HZ.out.1]; exact k2, by rw [HZ.out.2]; exact k1, hq1, hq2, hc, hb, by omega⟩⟩)
      clear hbz k1 k2
      go_cut [6, 7] from 23 (fun p6 p7 wx => ∃ gl gh, p6 = .pointer (some ⟨gl, 0, none⟩) ∧ p7 = .pointer (some ⟨gh, 0, none⟩) ∧ Hid (FrI w w2 wx g gl gh C 0 0 0))
      case first =>
        go_region
        all_goals go_wp2_with fail
        all_goals go_meet
        all_goals first
          | exact ⟨_, _, rfl, rfl, Lib.hid HFab.out.1⟩
          | exact ⟨_, _, rfl, rfl, Lib.hid HFab.out.2⟩
      case rest =>
        obtain ⟨gl, gh, rfl, rfl, HI⟩ := hcut
        clear HFab q3 q4 hrg2 y0 y1 y4 y5 hg2 Q1 Q2 B2 HZ HXY RG B1 R1 R2 HO HCS K HGB HZ2
        go_wp2
        go_loopw [31] (fun i wr => ∃ k : Nat, k ≤ C.length ∧ i = .int .i64 k ∧ Hid (FrI w w2 wr g gl gh C k 0 0)) (fun i _ => C.length - (intOf i).toNat)
        case atStart => exact ⟨0, Nat.zero_le _, rfl, HI⟩
        case round =>
          clear HI
          obtain ⟨k, hk, rfl, HI⟩ := hrel
          by_cases hlt : k < C.length
          · have hkI : (k : Int) < C.length := by omega
            have hk0 : (0 : Int) ≤ k := by omega
            obtain ⟨X, Y, hxy⟩ : ∃ X Y, C[k] = [X, Y] := ⟨_, _, two_of (HRC.out.at_ hlt)⟩
            have HXY := Lib.hid (crd_at hlt hxy)
            have HRG : Hid (wr.rangeAt g (k * 2) [.int .i32 X, .int .i32 Y]) := Lib.hid (fun j v hj => by
              have hj2 : j < 2 := (List.getElem?_eq_some_iff.1 hj).1
              have h := HI.out.getCell HRC.out hlt HCL.out hj2
              rw [h]
              rcases two_case hj2 with rfl | rfl
              · rw [(crd_at hlt hxy).1]; exact hj
              · rw [(crd_at hlt hxy).2]; exact hj)
            clear hxy
            go_wp2_with (first
              | refine wpList_load_mid rfl _ _ rfl g (k * 2) (by rfl) [.int .i32 X, .int .i32 Y] _ HRG.out Try.underlying60 rfl (by exact size60) ?_
              | (refine wpList_store_row rfl _ _ _ rfl wr.heap.size (ivs .i32 [X, Y]) rfl rfl 60 #[.int .i32 0, .int .i32 0] (Blk.newAt rfl rfl) (by exact size60) rfl ivs_one ?_; generalize hw5 : World.setRow _ _ _ = w5; have G5 : Hid (Blk w5 wr.heap.size 60 (ivs .i32 [X, Y])) := Lib.hid (by rw [← hw5]; exact (Blk.newAt rfl rfl).row _); have B5 : Hid (Below wr.heap.size wr w5) := Lib.hid (by rw [← hw5]; exact below_setRow ((Below.refl _ _).alloc (Nat.le_refl _) _) (g := wr.heap.size) (Nat.le_refl _) _); clear hw5))
            have HI5 := Lib.hid (HI.out.below_ B5.out)
            have hgl : gl < wr.heap.size := HI.out.low.lt
            have hgh : gh < wr.heap.size := HI.out.high.lt
            clear HI B5 HRG
            obtain ⟨wo, rfl⟩ : ∃ wo : World, wo = wr := ⟨_, rfl⟩
            go_loopw [35] (fun i wr => ∃ d : Nat, d ≤ 2 ∧ i = .int .i64 d ∧ Hid (FrI w w2 wr g gl gh C k d d) ∧ Hid (Blk wr wo.heap.size 60 (ivs .i32 [X, Y]))) (fun i _ => 2 - (intOf i).toNat)
            case atStart => exact ⟨0, by omega, rfl, HI5, G5⟩
            case round =>
              clear HI5 G5
              obtain ⟨d, hd, rfl, HI, HG⟩ := hrel
              by_cases hd2 : d < 2
              · have hdI : (d : Int) < 2 := by omega
                have hd0 : (0 : Int) ≤ d := by omega
                have c0 : wr.cell? ⟨wo.heap.size, d, none⟩ = some (.int .i32 (crd C k d)) := by
                  rw [HG.out.cellI (i := d) (by exact hd2)]
                  rcases two_case hd2 with rfl | rfl
                  · rw [HXY.out.1]; rfl
                  · rw [HXY.out.2]; rfl
                obtain ⟨c1, f1⟩ := HI.out.getLow hd2
                obtain ⟨c2, f2⟩ := HI.out.getHigh hd2
                have HI2 := Lib.hid (HI.out.setLow hd2 (show loN C d (k + 1) = min (loN C d k) (crd C k d) from rfl))
                obtain ⟨c3, f3⟩ := HI2.out.getHigh hd2
                have HI3 := Lib.hid (HI2.out.setHigh hd2 (show hiN C d (k + 1) = max (hiN C d k) (crd C k d) from rfl))
                have HG2 := Lib.hid (HG.out.far (p := ⟨gl, d, none⟩) (show wo.heap.size ≠ gl by omega) (.int .i32 (min (loN C d k) (crd C k d))))
                have HG3 := Lib.hid (HG2.out.far (p := ⟨gh, d, none⟩) (show wo.heap.size ≠ gh by omega) (.int .i32 (max (hiN C d k) (crd C k d))))
                go_wp2
                go_region
                all_goals
                  go_wp2
                  exact ⟨⟨d + 1, by omega, by go_num, Lib.hid HI3.out.drew, Lib.hid HG3.out.drew⟩, by simp [intOf]; omega⟩
              · obtain rfl : d = 2 := by omega
                go_wp2
                exact ⟨⟨k + 1, by omega, by go_num, Lib.hid HI.out.next⟩, by simp [intOf]; omega⟩
          · obtain rfl : k = C.length := by omega
            have hz := HI.out.apart
            obtain ⟨x1, y1, e1⟩ : ∃ x1 y1, loL C C.length 0 = [x1, y1] := ⟨_, _, rfl⟩
            obtain ⟨x2, y2, e2⟩ : ∃ x2 y2, hiL C C.length 0 = [x2, y2] := ⟨_, _, rfl⟩
            have k1 := HI.out.low
            have k2 := HI.out.high
            rw [e1] at k1
            rw [e2] at k2
            have E1 := Lib.hid e1
            have E2 := Lib.hid e2
            have K1 := Lib.hid k1.drew
            have K2 := Lib.hid k2.drew
            have K3 := Lib.hid HI.out.r1.drew
            have K4 := Lib.hid HI.out.r2.drew
            have HB := Lib.hid (below_drew HI.out.below)
            clear k1 k2 e1 e2 HI
            obtain ⟨q1, q2⟩ := rd_corner2 K1.out
            obtain ⟨q3, q4⟩ := rd_corner2 K2.out
            have q5 := K3.out.fit rfl
            have q6 := K4.out.fit rfl
            obtain ⟨q7, q8⟩ := rd_corner2 (show Blk (wr.drew.setRow w.heap.size #[.int .i32 x1, .int .i32 y1]) gh 63 (ivs .i32 [x2, y2]) from K2.out.rowFar (by omega) _)
            have q9 : FitC (wr.drew.setRow w.heap.size #[.int .i32 x1, .int .i32 y1]) (w.heap.size + 1) := Blk.fit (l := [0, 0]) (K4.out.rowFar (by omega) _) rfl
            go_wp2
            go_region
            all_goals
              go_wp2
              exact bodyPost_ret (results_frame rfl _ _ w.heap.size (w.heap.size + 1) [x1, y1] [x2, y2] rfl rfl 0 rfl rfl rfl ((K3.out.row _).rowFar (by omega) _) ((K4.out.rowFar (by omega) _).row _)) rfl ⟨by rw [E1.out, E2.out], below_setRow (below_setRow HB.out (Nat.le_refl _) _) (Nat.le_succ _) _⟩
end
end Go.Proofs.Ytmagaapdijapiaa
namespace Go.Proofs.Ytmagaapdijapiaa
open Go.ChangeShapes Go.WideShapes Go.ChangeAt Go.RowKit

set_option maxHeartbeats 400000 in
theorem a2Long_in (A A2 : Option Addr) (n c n2 c2 : Nat) (hn : n ≤ 3000) (hn2 : n2 ≤ 3000) (w : World) :
    Calls Try.prog 21 #[.slice A n c, .slice A2 n2 c2] w fun e w' => e = .returned (.bool false) ∧ w = w' := by
  go_enter Try.func21, Try.ntmps21
  go_wp2
  go_ret
  exact ⟨by simp; omega, rfl⟩
set_option maxHeartbeats 400000 in
theorem a2Long_out (A A2 : Option Addr) (n c n2 c2 : Nat) (h : 3000 < n ∨ 3000 < n2) (w : World) :
    Calls Try.prog 21 #[.slice A n c, .slice A2 n2 c2] w fun e w' => e = .returned (.bool true) ∧ w = w' := by
  by_cases h1 : 3000 < n
  · have h2 : (3000 : Int) < (n : Int) := by omega
    clear h
    go_enter Try.func21, Try.ntmps21
    go_wp2
    go_ret
    exact ⟨rfl, rfl⟩
  · have h2 : (n : Int) ≤ 3000 := by omega
    have h3 : (3000 : Int) < (n2 : Int) := by omega
    clear h
    go_enter Try.func21, Try.ntmps21
    go_wp2
    go_ret
    exact ⟨rfl, rfl⟩

def atOf (l : List Int) (i : Nat) (m : Int) : Int := if i < l.length then l.getD i 0 % m else 0
theorem atOf_range (l : List Int) (i : Nat) {m : Int} (hm : 1 ≤ m) : 0 ≤ atOf l i m ∧ atOf l i m < m := by
  unfold atOf
  split
  · exact ⟨Int.emod_nonneg _ (by omega), Int.emod_lt_of_pos _ (by omega)⟩
  · omega
set_option maxHeartbeats 400000 in
theorem a2At_any (A : Option Addr) (n c : Nat) (l : List Int) (hl : l.length = n) (h255 : is255 l) (j : Int) (i : Nat) (hj : j = i) (m : Int) (hm : 1 ≤ m) (hm2 : m ≤ 1000000) (hn : n ≤ 3000) (w : World) (hR : Rd w w.heap.size 1 A n (l.map (.int .u8))) :
    Calls Try.prog 23 #[.slice A n c, .int .i64 j, .int .i64 m] w fun e w' => e = .returned (.int .i64 (atOf l i m)) ∧ w = w' := by
  subst hj
  by_cases hi : i < n
  · have e1 : atOf l i m = l.getD i 0 % m := by rw [atOf, if_pos (by omega)]
    rw [e1]
    obtain ⟨b, o, rfl, hbB, hc⟩ := hR.at_ (by omega)
    have c1 := hc i (.int .u8 (l.getD i 0)) (by rw [List.getElem?_map, List.getElem?_eq_getElem (by omega), List.getD_eq_getElem?_getD, List.getElem?_eq_getElem (by omega)]; rfl)
    obtain ⟨x0, x1⟩ := h255.getD i
    obtain ⟨x, hx⟩ : ∃ x, x = l.getD i 0 := ⟨_, rfl⟩
    rw [← hx] at c1 x0 x1 ⊢
    have hi2 : (i : Int) < (n : Int) := by omega
    clear hl h255 hR hbB hc e1 hx
    go_enter Try.func23, Try.ntmps23
    go_wp2
    go_ret
    exact ⟨rfl, rfl⟩
  · have e1 : atOf l i m = 0 := by rw [atOf, if_neg (by omega)]
    rw [e1]
    have hi2 : (n : Int) ≤ (i : Int) := by omega
    clear hl h255 hR e1 hi
    go_enter Try.func23, Try.ntmps23
    go_wp2
    go_ret
    exact ⟨rfl, rfl⟩

set_option maxHeartbeats 400000 in
theorem sameFs_any (A A' : Option Addr) (n n' c c' : Nat) (l l' : List (List Int)) (hl : l.length = n) (hl' : l'.length = n') (hrow : Rows_ 16 l) (hrow' : Rows_ 16 l') (hn : n ≤ 100000000) (w : World) (hR : Rd w w.heap.size 16 A n (l.flatten.map (.int .u8))) (hR' : Rd w w.heap.size 16 A' n' (l'.flatten.map (.int .u8))) :
    Calls Try.prog 31 #[.slice A n c, .slice A' n' c'] w fun e w' => e = .returned (.bool (l == l')) ∧ Below w.heap.size w w' := by
  have HS := Lib.hid (l09Same_any A A' n n' c c' l l' hl hl' hrow hrow' hn w hR hR')
  clear hl hl' hrow hrow' hR hR'
  go_enter Try.func31, Try.ntmps31
  go_wp2_with fail
  refine (HS.out).mono ?_
  rintro e w1 ⟨rfl, hb⟩
  go_wp2
  go_ret
  exact ⟨rfl, hb⟩

theorem conv_own {w : World} {lo hi : Nat} {A : Option Addr} {n c : Nat} {l : List Int} (h : Own w lo hi 5 1 A n c (l.map (.int .u8))) (hl : l.length = n) :
    ∃ s : ByteArray, (convert 40 9 (.slice A n c)).run Try.prog w = .ok (.string s) w ∧ s.toList = (strOfNums l).toList := by
  rcases h.2 with ⟨rfl, rfl, rfl⟩ | ⟨g, cur, rfl, h1, h2, h3, h4, h5, h6, h7⟩
  · have : l = [] := List.eq_nil_of_length_eq_zero hl
    subst this
    exact ⟨_, run_convert_bytes_nil w 40 5 Try.underlying40 Try.underlying5 0 0 9 Try.underlying9, rfl⟩
  · refine ⟨_, conv_bytes hl fun j v hv => ?_, rfl⟩
    rw [Nat.zero_add, h3.cell]
    rw [← h7, List.getElem?_take] at hv
    split at hv
    · simpa using hv
    · cases hv
end Go.Proofs.Ytmagaapdijapiaa
