/- The frame of a picture: the reference's walk. -/
import Derived.Test.YthicgmdkipgkaaaRows
import Derived.Test.YthicgmdkipgkaaaFo
namespace Go.Proofs.Ythicgmdkipgkaaa
open Go.ChangeShapes Go.WideShapes Go.ChangeAt Go.RowKit
theorem results_frame {fn : Func} (hfn : fn.results = #[.cell 2 43, .cell 3 43, .tmp 4]) (tmps : Array Value) (W : World) (g1 g2 : Nat) (a b : List Int) (ha : a.length = 2) (hb : b.length = 2) (k : Int) (h1 : tmps.getD 2 undef = .pointer (some ⟨g1, 0, none⟩)) (h2 : tmps.getD 3 undef = .pointer (some ⟨g2, 0, none⟩)) (h3 : tmps.getD 4 undef = .int .i64 k)
    (c1 : Blk W g1 43 (ivs .i32 a)) (c2 : Blk W g2 43 (ivs .i32 b)) :
    (results fn tmps).run Try.prog W = .ok (.tuple #[.agg (ivs .i32 a), .agg (ivs .i32 b), .int .i64 k]) W := by
  have h1' : tmps[2]?.getD undef = .pointer (some ⟨g1, 0, none⟩) := by simpa using h1
  have h2' : tmps[3]?.getD undef = .pointer (some ⟨g2, 0, none⟩) := by simpa using h2
  have h3' : tmps[4]?.getD undef = .int .i64 k := by simpa using h3
  have l1 := run_loadVar_row (P := Try.prog) W g1 43 43 (ivs .i32 a) (0, 0) _ c1 Try.underlying43 rfl (by rw [ivs_size, ha]; exact size43)
  have l2 := run_loadVar_row (P := Try.prog) W g2 43 43 (ivs .i32 b) (0, 0) _ c2 Try.underlying43 rfl (by rw [ivs_size, hb]; exact size43)
  simp [results, hfn, h1', h2', h3', asAddr, l1, l2]
structure FrI (w w2 wr : World) (g gl gh : Nat) (C : List (List Int)) (k d e : Nat) : Prop where
  low : Blk wr gl 43 (ivs .i32 (loL C k d))
  high : Blk wr gh 43 (ivs .i32 (hiL C k e))
  r1 : Blk wr w.heap.size 43 (ivs .i32 [0, 0])
  r2 : Blk wr (w.heap.size + 1) 43 (ivs .i32 [0, 0])
  cells : wr.heap[g]? = w2.heap[g]?
  below : Below w.heap.size w wr
  apart : gl ≠ gh ∧ w.heap.size + 1 < gl ∧ w.heap.size + 1 < gh ∧ g ≠ gl ∧ g ≠ gh ∧ g < w2.heap.size ∧ w2.heap.size ≤ wr.heap.size
section
variable {w w2 wr : World} {g gl gh : Nat} {C : List (List Int)} {k d e : Nat}
theorem FrI.drew (h : FrI w w2 wr g gl gh C k d e) : FrI w w2 wr.drew g gl gh C k d e := ⟨h.low.drew, h.high.drew, h.r1.drew, h.r2.drew, h.cells, below_drew h.below, h.apart⟩
theorem FrI.drewN (h : FrI w w2 wr g gl gh C k d e) (m : Nat) : FrI w w2 (wr.drewN m) g gl gh C k d e := ⟨h.low.drewN m, h.high.drewN m, h.r1.drewN m, h.r2.drewN m, h.cells, below_drewN h.below m, h.apart⟩
theorem FrI.setLow (h : FrI w w2 wr g gl gh C k d e) (hd : d < 2) {v : Int} (hv : loN C d (k + 1) = v) : FrI w w2 (wr.setCell ⟨gl, d, none⟩ (.int .i32 v)) g gl gh C k (d + 1) e := by
  have ha := h.apart
  refine ⟨?_, h.high.far (p := ⟨gl, d, none⟩) (show gh ≠ gl by omega) _, h.r1.far (p := ⟨gl, d, none⟩) (show w.heap.size ≠ gl by omega) _, h.r2.far (p := ⟨gl, d, none⟩) (show w.heap.size + 1 ≠ gl by omega) _, (heap_setCell_other _ _ _ _ ha.2.2.2.1).trans h.cells, h.below.setCell (p := ⟨gl, d, none⟩) (show w.heap.size ≤ gl by omega) _, by rw [size_setCell]; exact ha⟩
  rw [← loL_set hd, hv]
  exact h.low.setI d v
theorem FrI.setHigh (h : FrI w w2 wr g gl gh C k d e) (he : e < 2) {v : Int} (hv : hiN C e (k + 1) = v) : FrI w w2 (wr.setCell ⟨gh, e, none⟩ (.int .i32 v)) g gl gh C k d (e + 1) := by
  have ha := h.apart
  refine ⟨h.low.far (p := ⟨gh, e, none⟩) (show gl ≠ gh by omega) _, ?_, h.r1.far (p := ⟨gh, e, none⟩) (show w.heap.size ≠ gh by omega) _, h.r2.far (p := ⟨gh, e, none⟩) (show w.heap.size + 1 ≠ gh by omega) _, (heap_setCell_other _ _ _ _ ha.2.2.2.2.1).trans h.cells, h.below.setCell (p := ⟨gh, e, none⟩) (show w.heap.size ≤ gh by omega) _, by rw [size_setCell]; exact ha⟩
  rw [← hiL_set he, hv]
  exact h.high.setI e v
theorem FrI.sameLow (h : FrI w w2 wr g gl gh C k d e) (hd : d < 2) (hv : loN C d (k + 1) = loN C d k) : FrI w w2 wr g gl gh C k (d + 1) e := ⟨loL_same hd hv ▸ h.low, h.high, h.r1, h.r2, h.cells, h.below, h.apart⟩
theorem FrI.sameHigh (h : FrI w w2 wr g gl gh C k d e) (he : e < 2) (hv : hiN C e (k + 1) = hiN C e k) : FrI w w2 wr g gl gh C k d (e + 1) := ⟨h.low, hiL_same he hv ▸ h.high, h.r1, h.r2, h.cells, h.below, h.apart⟩
theorem FrI.next (h : FrI w w2 wr g gl gh C k 2 2) : FrI w w2 wr g gl gh C (k + 1) 0 0 := ⟨h.low, h.high, h.r1, h.r2, h.cells, h.below, h.apart⟩
theorem FrI.below_ {wr' : World} (h : FrI w w2 wr g gl gh C k d e) (hb : Below wr.heap.size wr wr') : FrI w w2 wr' g gl gh C k d e := by
  have ha := h.apart
  have hz := hb.size
  exact ⟨h.low.below hb h.low.lt, h.high.below hb h.high.lt, h.r1.below hb h.r1.lt, h.r2.below hb h.r2.lt, (hb.block g (by omega)).trans h.cells, h.below.trans (hb.mono h.below.size), by omega⟩
theorem FrI.getLow (h : FrI w w2 wr g gl gh C k d e) (hd : d < 2) : wr.cell? ⟨gl, d, none⟩ = some (.int .i32 (loN C d k)) ∧ wr.frozen? ⟨gl, d, none⟩ = false := by
  refine ⟨?_, h.low.frozen d⟩
  have := h.low.getAtG (i := d) (show d < (loL C k d).length from hd)
  rwa [loL_getD hd] at this
theorem FrI.getHigh (h : FrI w w2 wr g gl gh C k d e) (he : e < 2) : wr.cell? ⟨gh, e, none⟩ = some (.int .i32 (hiN C e k)) ∧ wr.frozen? ⟨gh, e, none⟩ = false := by
  refine ⟨?_, h.high.frozen e⟩
  have := h.high.getAtG (i := e) (show e < (hiL C k e).length from he)
  rwa [hiL_getD he] at this
theorem FrI.getCell (h : FrI w w2 wr g gl gh C k d e) (hC : Rows_ 2 C) (hk : k < C.length) (hR : Rd w2 w2.heap.size 2 (some ⟨g, 0, none⟩) C.length (pvs C)) {j : Nat} (hj : j < 2) : wr.cell? ⟨g, k * 2 + j, none⟩ = some (.int .i32 (crd C k j)) :=
  (World.cell?_of_block (a := ⟨g, k * 2 + j, none⟩) h.cells).trans (pvs_cell hC hk hR rfl hj)
end
theorem loN_hiN (C : List (List Int)) (k : Nat) : ∀ n, loN C k n ≤ hiN C k n
  | 0 => Int.le_refl _
  | n + 1 => by
    have := loN_hiN C k n
    rw [loN, hiN]
    omega
theorem loN_lt {C : List (List Int)} {k n : Nat} (h : crd C n k < loN C k n) : loN C k (n + 1) = crd C n k := by rw [loN]; omega
theorem loN_ge {C : List (List Int)} {k n : Nat} (h : ¬ crd C n k < loN C k n) : loN C k (n + 1) = loN C k n := by rw [loN]; omega
theorem hiN_gt {C : List (List Int)} {k n : Nat} (h : hiN C k n < crd C n k) : hiN C k (n + 1) = crd C n k := by rw [hiN]; omega
theorem hiN_le {C : List (List Int)} {k n : Nat} (h : ¬ hiN C k n < crd C n k) : hiN C k (n + 1) = hiN C k n := by rw [hiN]; omega
/-- a corner that may be written -/
def FitC (W : World) (g : Nat) : Prop := ∃ cs : Array Value, Blk W g 43 cs ∧ cs.size = 2
theorem Blk.fit {W : World} {g : Nat} {l : List Int} (h : Blk W g 43 (ivs .i32 l)) (hl : l.length = 2) : FitC W g := ⟨_, h, by rw [ivs_size, hl]⟩
def stCor (ty : TypeId) (p v : Value) : Sem Next := do Instr.storeAt ty p v; pure .skip
theorem exec_stCorner (ρ : Operand → Value) (dst : Option Tmp) (x y : Operand) (t : TypeId) (pos : String) (after : Array Edge) (guard : Option (Nat × Bool)) :
    execOp ρ { dst := dst, op := .store 43 x y, type := t, pos := pos, after := after, guard := guard } = stCor 43 (ρ x) (ρ y) := rfl
theorem run_stCorner (W : World) (g : Nat) (h : FitC W g) (x y : Int) : (stCor 43 (.pointer (some ⟨g, 0, none⟩)) (.agg #[.int .i32 x, .int .i32 y])).run Try.prog W = .ok .skip (W.setRow g #[.int .i32 x, .int .i32 y]) := by
  obtain ⟨cs, h1, h2⟩ := h
  have := run_storeVar_row (P := Try.prog) W g 43 43 cs #[.int .i32 x, .int .i32 y] h1 (by exact size43) (by rw [h2]; rfl) (ivs_one (k := .i32) (l := [x, y]))
  unfold stCor
  simp only [Instr.storeAt, Instr.sureAddr, Sem.run_bind, Sem.run_pure, Result.andThen_ok, this]
theorem rd_corner2 {W : World} {g : Nat} {x y : Int} (h : Blk W g 43 (ivs .i32 [x, y])) : rowAt W g 0 2 = #[.int .i32 x, .int .i32 y] ∧ hasRow W g 0 2 = true := ⟨h.rowAt_eq rfl, h.hasRow_eq rfl⟩
def GivesFrame (a b : List Int) (k : Int) (w : World) (e : Ending) (w' : World) : Prop := e = .returned (.tuple #[.agg (ivs .i32 a), .agg (ivs .i32 b), .int .i64 k]) ∧ Below w.heap.size w w'
section
attribute [local go_sem ↓] exec_ldCorner exec_stCorner
attribute [local go_sem] run_ldCorner run_stCorner
set_option maxRecDepth 20000 in
set_option maxHeartbeats 3200000 in
theorem sFrameOf_any (A : Option Addr) (n c : Nat) (l : List Bl) (hl : l.length = n) (hrow : Bls l) (h16 : ∀ b ∈ l, is16 b.2) (h32 : ∀ b ∈ l, ∀ x ∈ b.1, -2147483648 ≤ x ∧ x ≤ 2147483647) (hn : n ≤ 1048576) (w : World) (hR : Rd w w.heap.size 18 A n (bcs l)) :
    Calls Try.prog 29 #[.slice A n c] w (GivesFrame (frmL l) (frmH l) (frmK l) w) := by
  have r1 : Blk ((w.alloc (.cells (ivs .i32 [0, 0]) 43)).alloc (.cells (ivs .i32 [0, 0]) 43)) w.heap.size 43 (ivs .i32 [0, 0]) := (Blk.newAt rfl rfl).alloc _
  have r2 : Blk ((w.alloc (.cells (ivs .i32 [0, 0]) 43)).alloc (.cells (ivs .i32 [0, 0]) 43)) (w.heap.size + 1) 43 (ivs .i32 [0, 0]) := Blk.newAt (by simp) rfl
  have bW : Below w.heap.size w ((w.alloc (.cells (ivs .i32 [0, 0]) 43)).alloc (.cells (ivs .i32 [0, 0]) 43)) := ((Below.refl _ _).alloc (Nat.le_refl _) _).alloc (by simp) _
  have hz : ((w.alloc (.cells (ivs .i32 [0, 0]) 43)).alloc (.cells (ivs .i32 [0, 0]) 43)).heap.size = w.heap.size + 2 := by simp
  have ho := fun W h => l07Ok_any A n c l hl hrow h16 h32 hn W h
  have hv := fun h => vpic_of hrow h16 h
  rw [frmL, frmH, frmK]
  have K := Lib.hid (And.intro r1 (And.intro r2 (And.intro bW hz)))
  have HR := Lib.hid hR
  clear r1 r2 bW hz hR
  cases hok : vpB l
  · rw [hok] at ho
    have HO := Lib.hid ho
    clear hv hok hrow h16 h32 hl ho
    go_enter Try.func29, Try.ntmps29
    go_wp2_with (first
      | (go_at_call 41; refine (HO.out _ ((HR.out.below K.out.2.2.1 (Nat.le_refl _)).more K.out.2.2.1.size)).mono ?_; rintro e w1 ⟨rfl, b1⟩; have R1 := Lib.hid (K.out.1.below b1 K.out.1.lt); have R2 := Lib.hid (K.out.2.1.below b1 K.out.2.1.lt); have B1 := Lib.hid (K.out.2.2.1.trans (b1.mono K.out.2.2.1.size)); clear b1)
      | refine wpList_store_row rfl _ _ _ rfl w.heap.size (ivs .i32 [0, 0]) rfl rfl 43 _ R1.out (by exact size43) rfl ivs_one ?_
      | refine wpList_store_row rfl _ _ _ rfl (w.heap.size + 1) (ivs .i32 [0, 0]) rfl rfl 43 _ (R2.out.rowFar (by omega) _) (by exact size43) rfl ivs_one ?_)
    exact bodyPost_ret (results_frame rfl _ _ w.heap.size (w.heap.size + 1) [0, 0] [0, 0] rfl rfl 1 rfl rfl rfl ((R1.out.row _).rowFar (by omega) _) ((R2.out.rowFar (by omega) _).row _)) rfl ⟨rfl, below_setRow (below_setRow B1.out (Nat.le_refl _) _) (Nat.le_succ _) _⟩
  · rw [hok] at ho
    have HO := Lib.hid ho
    have hV := hv hok
    have HV := Lib.hid hV
    have HCS := Lib.hid (fun W h => l07Cells_any A n c l hl hV W h)
    have hcnt := hV.count
    have hrc := specC_rows l
    have HRC := Lib.hid hrc
    clear hv hok hrow h16 h32 hl ho hV hrc
    simp only [if_true]
    generalize specC l = C at *
    by_cases h0 : C.length = 0
    · rw [if_pos h0, if_pos h0, if_pos h0]
      have h0I : (C.length : Int) = 0 := by omega
      go_enter Try.func29, Try.ntmps29
      go_wp2_with (first
        | (go_at_call 41; refine (HO.out _ ((HR.out.below K.out.2.2.1 (Nat.le_refl _)).more K.out.2.2.1.size)).mono ?_; rintro e w1 ⟨rfl, b1⟩; have R1 := Lib.hid (K.out.1.below b1 K.out.1.lt); have R2 := Lib.hid (K.out.2.1.below b1 K.out.2.1.lt); have B1 := Lib.hid (K.out.2.2.1.trans (b1.mono K.out.2.2.1.size)); clear b1)
        | (go_at_call 54; refine (HCS.out _ ((HR.out.below B1.out (Nat.le_refl _)).more B1.out.size)).mono ?_; rintro e w2 ⟨g, cc, rfl, hO, b2⟩; have Q1 := Lib.hid (R1.out.below b2 R1.out.lt); have Q2 := Lib.hid (R2.out.below b2 R2.out.lt); have B2 := Lib.hid (B1.out.trans (b2.mono B1.out.size)); clear b2 hO)
        | refine wpList_store_row rfl _ _ _ rfl w.heap.size (ivs .i32 [0, 0]) rfl rfl 43 _ Q1.out (by exact size43) rfl ivs_one ?_
        | refine wpList_store_row rfl _ _ _ rfl (w.heap.size + 1) (ivs .i32 [0, 0]) rfl rfl 43 _ (Q2.out.rowFar (by omega) _) (by exact size43) rfl ivs_one ?_)
      exact bodyPost_ret (results_frame rfl _ _ w.heap.size (w.heap.size + 1) [0, 0] [0, 0] rfl rfl 6 rfl rfl rfl ((Q1.out.row _).rowFar (by omega) _) ((Q2.out.rowFar (by omega) _).row _)) rfl ⟨rfl, below_setRow (below_setRow B2.out (Nat.le_refl _) _) (Nat.le_succ _) _⟩
    · rw [if_neg h0, if_neg h0, if_neg h0]
      have h0I : ¬ (C.length : Int) = 0 := by omega
      have hpos : 0 < C.length := by omega
      have hposI : (0 : Int) < C.length := by omega
      obtain ⟨x, y, hxy⟩ : ∃ x y, C[0] = [x, y] := ⟨_, _, two_of (HRC.out.at_ hpos)⟩
      have HXY := Lib.hid hxy
      have HZ := Lib.hid (loL_zero hpos hxy)
      clear hxy
      go_enter Try.func29, Try.ntmps29
      go_wp2_with (first
        | (go_at_call 41; refine (HO.out _ ((HR.out.below K.out.2.2.1 (Nat.le_refl _)).more K.out.2.2.1.size)).mono ?_; rintro e w1 ⟨rfl, b1⟩; have R1 := Lib.hid (K.out.1.below b1 K.out.1.lt); have R2 := Lib.hid (K.out.2.1.below b1 K.out.2.1.lt); have B1 := Lib.hid (K.out.2.2.1.trans (b1.mono K.out.2.2.1.size)); clear b1)
        | (go_at_call 54; refine (HCS.out _ ((HR.out.below B1.out (Nat.le_refl _)).more B1.out.size)).mono ?_; rintro e w2 ⟨g, cc, rfl, hO, b2⟩; have Q1 := Lib.hid (R1.out.below b2 R1.out.lt); have Q2 := Lib.hid (R2.out.below b2 R2.out.lt); have B2 := Lib.hid (B1.out.trans (b2.mono B1.out.size)); have HCL := Lib.hid hO.rd; have HGB := Lib.hid hO.blk_; have RG := Lib.hid (pvs_first HRC.out hpos hO.rd rfl HXY.out); have HZ2 : Hid (w.heap.size + 2 ≤ w2.heap.size) := Lib.hid (by have h1 := Q2.out.lt; omega); clear b2 hO)
        | refine wpList_load_mid rfl _ _ rfl g 0 (by rfl) [.int .i32 x, .int .i32 y] _ RG.out Try.underlying42 rfl (by exact size42) ?_
        | (refine wpList_store_row rfl _ _ _ rfl w2.heap.size (ivs .i32 [x, y]) rfl rfl 43 #[.int .i32 0, .int .i32 0] (Blk.newAt rfl rfl) (by exact size43) rfl ivs_one ?_; generalize hw5 : World.setRow _ _ _ = w5; have G5 : Hid (Blk w5 w2.heap.size 43 (ivs .i32 [x, y])) := Lib.hid (by rw [← hw5]; exact (Blk.newAt rfl rfl).row _); have B5 : Hid (Below w2.heap.size w2 w5) := Lib.hid (by rw [← hw5]; exact below_setRow ((Below.refl _ _).alloc (Nat.le_refl _) _) (g := w2.heap.size) (Nat.le_refl _) _); clear hw5)
        | refine wpList_load_row rfl _ _ rfl w2.heap.size rfl 43 (ivs .i32 [x, y]) (0, 0) _ G5.out Try.underlying43 rfl (by exact size43) ?_
        | (refine wpList_store_row rfl _ _ _ rfl w5.heap.size (ivs .i32 [x, y]) rfl rfl 43 #[.int .i32 0, .int .i32 0] (Blk.newAt rfl rfl) (by exact size43) rfl ivs_one ?_; generalize hw6 : World.setRow _ _ _ = w6; have G6 : Hid (Blk w6 w5.heap.size 43 (ivs .i32 [x, y])) := Lib.hid (by rw [← hw6]; exact (Blk.newAt rfl rfl).row _); have B6 : Hid (Below w5.heap.size w5 w6) := Lib.hid (by rw [← hw6]; exact below_setRow ((Below.refl _ _).alloc (Nat.le_refl _) _) (g := w5.heap.size) (Nat.le_refl _) _); clear hw6))
      have hb26 : Below w2.heap.size w2 w6 := B5.out.trans (B6.out.mono B5.out.size)
      have HI : Hid (FrI w w2 w6 g w2.heap.size w5.heap.size C 0 0 0) := Lib.hid (by
        have h1 := G5.out.lt
        have h2 := HZ2.out
        have h3 := HGB.out.2
        refine ⟨?_, ?_, Q1.out.below hb26 Q1.out.lt, Q2.out.below hb26 Q2.out.lt, hb26.block g h3, B2.out.trans (hb26.mono B2.out.size), ⟨by omega, by omega, by omega, by omega, by omega, h3, hb26.size⟩⟩
        · rw [HZ.out.1]; exact G5.out.below B6.out h1
        · rw [HZ.out.2]; exact G6.out)
      generalize w2.heap.size = gl at HI ⊢
      generalize w5.heap.size = gh at *
      clear B5 B6 G5 G6 hb26 Q1 Q2 B2 HZ HXY RG B1 R1 R2 HO HCS K HGB HZ2
      go_loopw [8] (fun i wr => ∃ k : Nat, k ≤ C.length ∧ i = .int .i64 k ∧ Hid (FrI w w2 wr g gl gh C k 0 0)) (fun i _ => C.length - (intOf i).toNat)
      case atStart => exact ⟨0, Nat.zero_le _, rfl, HI⟩
      case round =>
        clear HI
        obtain ⟨k, hk, rfl, HI⟩ := hrel
        by_cases hlt : k < C.length
        · have hkI : (k : Int) < C.length := by omega
          have hk0 : (0 : Int) ≤ k := by omega
          go_wp2
          obtain ⟨wo, rfl⟩ : ∃ wo : World, wo = wr := ⟨_, rfl⟩
          go_loopw [9] (fun i wr => ∃ d : Nat, d ≤ 2 ∧ i = .int .i64 d ∧ Hid (FrI w w2 wr g gl gh C k d d)) (fun i _ => 2 - (intOf i).toNat)
          case atStart => exact ⟨0, by omega, rfl, HI⟩
          case round =>
            clear HI
            obtain ⟨d, hd, rfl, HI⟩ := hrel
            by_cases hd2 : d < 2
            · have hdI : (d : Int) < 2 := by omega
              have hd0 : (0 : Int) ≤ d := by omega
              have c0 := HI.out.getCell HRC.out hlt HCL.out hd2
              obtain ⟨c1, f1⟩ := HI.out.getLow hd2
              have HL1 := Lib.hid (fun h => loN_lt (C := C) (k := d) (n := k) h)
              have HL2 := Lib.hid (fun h => loN_ge (C := C) (k := d) (n := k) h)
              have HH1 := Lib.hid (fun h => hiN_gt (C := C) (k := d) (n := k) h)
              have HH2 := Lib.hid (fun h => hiN_le (C := C) (k := d) (n := k) h)
              by_cases h1 : crd C k d < loN C d k
              · by_cases h2 : hiN C d k < crd C k d
                · have h3 := loN_hiN C d k
                  omega
                · go_wp2_with fail
                  go_quiet (fail)
                  go_wp2
                  have HI2 := Lib.hid ((HI.out.drewN nq).setLow hd2 (HL1.out h1))
                  generalize (wr.drewN nq).setCell ⟨gl, d, none⟩ (.int .i32 (crd C k d)) = w7 at *
                  have c2 := HI2.out.getCell HRC.out hlt HCL.out hd2
                  obtain ⟨c3, f3⟩ := HI2.out.getHigh hd2
                  clear c0 c1 f1 HI
                  go_quiet (fail)
                  go_wp2
                  exact ⟨⟨d + 1, by omega, by go_num, Lib.hid ((HI2.out.drewN nq).sameHigh hd2 (HH2.out h2))⟩, by simp [intOf]; omega⟩
              · by_cases h2 : hiN C d k < crd C k d
                · go_wp2_with fail
                  go_quiet (fail)
                  go_wp2
                  have HI2 := Lib.hid ((HI.out.drewN nq).sameLow hd2 (HL2.out h1))
                  generalize wr.drewN nq = w7 at *
                  have c2 := HI2.out.getCell HRC.out hlt HCL.out hd2
                  obtain ⟨c3, f3⟩ := HI2.out.getHigh hd2
                  clear c0 c1 f1 HI
                  go_quiet (fail)
                  go_wp2
                  exact ⟨⟨d + 1, by omega, by go_num, Lib.hid ((HI2.out.drewN nq).setHigh hd2 (HH1.out h2))⟩, by simp [intOf]; omega⟩
                · go_wp2_with fail
                  go_quiet (fail)
                  go_wp2
                  have HI2 := Lib.hid ((HI.out.drewN nq).sameLow hd2 (HL2.out h1))
                  generalize wr.drewN nq = w7 at *
                  have c2 := HI2.out.getCell HRC.out hlt HCL.out hd2
                  obtain ⟨c3, f3⟩ := HI2.out.getHigh hd2
                  clear c0 c1 f1 HI
                  go_quiet (fail)
                  go_wp2
                  exact ⟨⟨d + 1, by omega, by go_num, Lib.hid ((HI2.out.drewN nq).sameHigh hd2 (HH2.out h2))⟩, by simp [intOf]; omega⟩
            · obtain rfl : d = 2 := by omega
              go_wp2
              exact ⟨⟨k + 1, by omega, by go_num, Lib.hid HI.out.next⟩, by simp [intOf]; omega⟩
        · obtain rfl : k = C.length := by omega
          have hz := HI.out.apart
          obtain ⟨x1, y1, e1⟩ : ∃ x1 y1, loL C C.length 0 = [x1, y1] := ⟨_, _, rfl⟩
          obtain ⟨x2, y2, e2⟩ : ∃ x2 y2, hiL C C.length 0 = [x2, y2] := ⟨_, _, rfl⟩
          have k1 := HI.out.low
          have k2 := HI.out.high
          rw [e1] at k1
          rw [e2] at k2
          have E1 := Lib.hid e1
          have E2 := Lib.hid e2
          have K1 := Lib.hid k1.drew
          have K2 := Lib.hid k2.drew
          have K3 := Lib.hid HI.out.r1.drew
          have K4 := Lib.hid HI.out.r2.drew
          have HB := Lib.hid (below_drew HI.out.below)
          clear k1 k2 e1 e2 HI
          obtain ⟨q1, q2⟩ := rd_corner2 K1.out
          obtain ⟨q3, q4⟩ := rd_corner2 K2.out
          have q5 := K3.out.fit rfl
          have q6 := K4.out.fit rfl
          obtain ⟨q7, q8⟩ := rd_corner2 (show Blk (wr.drew.setRow w.heap.size #[.int .i32 x1, .int .i32 y1]) gh 43 (ivs .i32 [x2, y2]) from K2.out.rowFar (by omega) _)
          have q9 : FitC (wr.drew.setRow w.heap.size #[.int .i32 x1, .int .i32 y1]) (w.heap.size + 1) := Blk.fit (l := [0, 0]) (K4.out.rowFar (by omega) _) rfl
          go_wp2
          go_region
          all_goals
            go_wp2
            exact bodyPost_ret (results_frame rfl _ _ w.heap.size (w.heap.size + 1) [x1, y1] [x2, y2] rfl rfl 0 rfl rfl rfl ((K3.out.row _).rowFar (by omega) _) ((K4.out.rowFar (by omega) _).row _)) rfl ⟨by rw [E1.out, E2.out], below_setRow (below_setRow HB.out (Nat.le_refl _) _) (Nat.le_succ _) _⟩
end
end Go.Proofs.Ythicgmdkipgkaaa
