/- The cells of a mask. -/
import Derived.Test.YtmagaapdijapiaaDoorRows
import Derived.Test.YtmagaapdijapiaaDoorBn
import Derived.Laws.BitsAllLaws
namespace Go.Proofs.YtmagaapdijapiaaDoor
open Go.ChangeShapes Go.WideShapes Go.ChangeAt Go.RowKit
/-- whether the cell in column x of row y is set -/
def bitB (M : List Int) (x y : Nat) : Bool := decide (M.getD y 0 / 2 ^ x % 2 = 1)
def is16 (l : List Int) : Prop := ∀ x ∈ l, 0 ≤ x ∧ x < 65536
theorem is16.getD {l : List Int} (h : is16 l) (i : Nat) : 0 ≤ l.getD i 0 ∧ l.getD i 0 < 65536 := by
  by_cases hi : i < l.length
  · rw [List.getD_eq_getElem?_getD, List.getElem?_eq_getElem hi]
    exact h _ (List.getElem_mem hi)
  · rw [List.getD_eq_getElem?_getD, List.getElem?_eq_none (by omega)]
    exact ⟨Int.le_refl _, by decide⟩
theorem Blk.getAtG {w : World} {g : Nat} {t : TypeId} {k : IntKind} {l : List Int} (h : Blk w g t (ivs k l)) {i : Nat} (hi : i < l.length) : w.cell? ⟨g, i, none⟩ = some (.int k (l.getD i 0)) := by
  have := h.cellI hi
  rwa [List.getD_eq_getElem?_getD, List.getElem?_eq_getElem hi]
theorem and1_u16 {z : Int} (h0 : 0 ≤ z) (h1 : z < 65536) : bits .and .u16 z 1 = z % 2 := by
  rw [u16_and z 1 h0 h1 (by decide) (by decide), show (1 : Int).toNat = 1 from rfl, Nat.and_one_is_mod]
  omega
theorem shr_range {v : Int} (h0 : 0 ≤ v) (h1 : v < 65536) (x : Nat) : 0 ≤ v / 2 ^ x ∧ v / 2 ^ x < 65536 := by
  have hp : (0 : Int) < 2 ^ x := Int.pow_pos (by decide)
  exact ⟨Int.ediv_nonneg h0 (Int.le_of_lt hp), Int.lt_of_le_of_lt (Int.ediv_le_self _ h0) h1⟩
theorem bit_eq {v : Int} (h0 : 0 ≤ v) (h1 : v < 65536) (x : Nat) : (bits .and .u16 (v / 2 ^ x) 1 == 1) = decide (v / 2 ^ x % 2 = 1) := by
  obtain ⟨q0, q1⟩ := shr_range h0 h1 x
  rw [and1_u16 q0 q1]
  rfl
set_option maxHeartbeats 1600000 in
theorem l07Has_any (g : Nat) (M : List Int) (hM : M.length = 16) (h16 : is16 M) (x y : Nat) (hx : x < 16) (hy : y < 16) (w : World) (h : Blk w g 44 (ivs .u16 M)) :
    Calls Tryd.prog 75 #[.pointer (some ⟨g, 0, none⟩), .int .i64 x, .int .i64 y] w fun e w' => e = .returned (.bool (bitB M x y)) ∧ Below w.heap.size w w' := by
  have c1 := h.getAtG (i := y) (by omega)
  obtain ⟨v0, v1⟩ := h16.getD y
  have hb : bitB M x y = decide (M.getD y 0 / 2 ^ x % 2 = 1) := rfl
  rw [hb]
  generalize M.getD y 0 = v at *
  have hx0 : (0 : Int) ≤ x := by omega
  have hx1 : (x : Int) < 16 := by omega
  have hy0 : (0 : Int) ≤ y := by omega
  have hy1 : (y : Int) < 16 := by omega
  clear h hb h16
  go_enter Tryd.func75, Tryd.ntmps75
  go_wp2
  go_ret
  rw [bit_eq v0 v1]
  exact ⟨rfl, Below.refl _ _⟩
/-- the cells ahead of number i, row by row -/
def cellsTo (M : List Int) (i : Nat) : List (List Int) := ((List.range i).filter fun j => bitB M (j % 16) (j / 16)).map fun j => [((j % 16 : Nat) : Int), ((j / 16 : Nat) : Int)]
def mCells (M : List Int) : List (List Int) := cellsTo M 256
theorem cellsTo_rows (M : List Int) (i : Nat) : Rows_ 2 (cellsTo M i) := fun f hf => by
  obtain ⟨j, _, rfl⟩ := List.mem_map.1 hf
  rfl
theorem cellsTo_length (M : List Int) (i : Nat) : (cellsTo M i).length ≤ i := by
  rw [cellsTo, List.length_map]
  exact Nat.le_trans (List.length_filter_le _ _) (by rw [List.length_range]; exact Nat.le_refl _)
theorem cellsTo_yes {M : List Int} {x y : Nat} (hx : x < 16) (h : bitB M x y = true) : cellsTo M (16 * y + x + 1) = cellsTo M (16 * y + x) ++ [[(x : Int), (y : Int)]] := by
  have h1 : (16 * y + x) % 16 = x := by omega
  have h2 : (16 * y + x) / 16 = y := by omega
  have h3 : ((x : Int) % 16 = x ∧ (16 * (y : Int) + x) / 16 = y) := by omega
  simp [cellsTo, List.range_succ, List.filter_append, h1, h2, h, h3]
theorem cellsTo_no {M : List Int} {x y : Nat} (hx : x < 16) (h : bitB M x y = false) : cellsTo M (16 * y + x + 1) = cellsTo M (16 * y + x) := by
  have h1 : (16 * y + x) % 16 = x := by omega
  have h2 : (16 * y + x) / 16 = y := by omega
  simp [cellsTo, List.range_succ, List.filter_append, h1, h2, h]
def pvs (l : List (List Int)) : List Value := l.flatten.map (.int .i32)
theorem pair_news (W : World) (x y : Int) : ∀ j u, (pvs [[x, y]])[j]? = some u → (W.alloc (.cells #[.int .i32 x, .int .i32 y] 35)).cell? ((⟨W.heap.size, 0, none⟩ : Addr).add j) = some u :=
  Blk.news (k := .i32) (l := [x, y]) (t := 35) (Blk.newAt rfl rfl)
theorem pvs_one {l : List (List Int)} : ∀ v ∈ pvs l, v.oneCell' = true := fun v hv => by
  simp only [pvs, List.mem_map] at hv
  obtain ⟨s, _, rfl⟩ := hv
  rfl
theorem Pair_info : (Tryd.prog.info? 35).map (fun i => (i.zero, i.size, i.bytes)) = some (some (.agg #[.int .i32 0, .int .i32 0]), 2, 8) := by kernel_rfl
theorem pvs_append (a b : List (List Int)) : pvs (a ++ b) = pvs a ++ pvs b := by rw [pvs, pvs, pvs, List.flatten_append, List.map_append]
def GivesCells (l : List (List Int)) (w : World) (e : Ending) (w' : World) : Prop :=
  ∃ g c, e = .returned (.slice (some ⟨g, 0, none⟩) l.length c) ∧ Own w' w.heap.size w'.heap.size 35 2 (some ⟨g, 0, none⟩) l.length c (pvs l) ∧ Below w.heap.size w w'
set_option maxRecDepth 20000 in
set_option maxHeartbeats 3200000 in
theorem sCellsOf_any (M : List Int) (hM : M.length = 16) (h16 : is16 M) (w : World) :
    Calls Tryd.prog 85 #[.agg (ivs .u16 M)] w (GivesCells (mCells M) w) := by
  obtain ⟨i0, hi, hz0, hz1, hzb⟩ := info_parts Pair_info
  have h0 : Blk (w.alloc (.cells (ivs .u16 M) 44)) w.heap.size 44 (ivs .u16 M) := Blk.newAt rfl rfl
  have H0 := Lib.hid h0
  clear h0
  go_enter Tryd.func85, Tryd.ntmps85
  go_wp2
  go_loopw [3, 4] (fun v i wr => ∃ y : Nat, y ≤ 16 ∧ i = .int .i64 y ∧ (∃ g cc, v = .slice (some ⟨g, 0, none⟩) (cellsTo M (16 * y)).length cc) ∧ wr.ownsRow (w.heap.size + 1) 35 2 v (cellsTo M (16 * y)).length (pvs (cellsTo M (16 * y))) ∧ Blk wr w.heap.size 44 (ivs .u16 M) ∧ w.heap.size + 1 ≤ wr.heap.size ∧ Below w.heap.size w wr) (fun _ i _ => 16 - (intOf i).toNat)
  case atStart =>
    refine ⟨0, by omega, rfl, ⟨_, _, rfl⟩, ?_, H0.out.alloc _, by simp, ((Below.refl _ _).alloc (Nat.le_refl _) _).alloc (by simp) _⟩
    have := World.ownsRow_lit (e := 35) (base := w.heap.size + 1) (size := 2) (w.alloc (.cells (ivs .u16 M) 44)) #[] 0 (by simp) (by unfold maxLen; omega) rfl
    rw [size_alloc] at this
    exact this
  case round =>
    clear H0
    obtain ⟨y, hy, rfl, ⟨g, cc, rfl⟩, ho, h0, hz, hb⟩ := hrel
    obtain ⟨wy, rfl⟩ : ∃ wy : World, wy = wr := ⟨_, rfl⟩
    by_cases hlt : y < 16
    · have hlt' : (y : Int) < 16 := by omega
      have HO := Lib.hid ho
      have H0 := Lib.hid h0
      have HB := Lib.hid hb
      clear ho h0 hb
      go_wp2
      go_loopw [3, 5] (fun v i wr => ∃ x : Nat, x ≤ 16 ∧ i = .int .i64 x ∧ (∃ g cc, v = .slice (some ⟨g, 0, none⟩) (cellsTo M (16 * y + x)).length cc) ∧ wr.ownsRow (w.heap.size + 1) 35 2 v (cellsTo M (16 * y + x)).length (pvs (cellsTo M (16 * y + x))) ∧ Blk wr w.heap.size 44 (ivs .u16 M) ∧ w.heap.size + 1 ≤ wr.heap.size ∧ Below w.heap.size w wr) (fun _ i _ => 16 - (intOf i).toNat)
      case atStart => exact ⟨0, by omega, rfl, ⟨_, _, rfl⟩, HO.out, H0.out, hz, HB.out⟩
      case round =>
        clear HO H0 HB
        obtain ⟨x, hx, rfl, ⟨g, cc, rfl⟩, ho, h0, hz, hb⟩ := hrel
        have hlen := cellsTo_length M (16 * y + x)
        by_cases hx16 : x < 16
        · have hx' : (x : Int) < 16 := by omega
          have HX := Lib.hid (l07Has_any w.heap.size M hM h16 x y hx16 hlt wr h0)
          have hyes := fun h => cellsTo_yes (M := M) (y := y) hx16 h
          have hno := fun h => cellsTo_no (M := M) (y := y) hx16 h
          have HO := Lib.hid ho
          have H0 := Lib.hid h0
          have HB := Lib.hid hb
          obtain ⟨L, hL⟩ : ∃ L, L = cellsTo M (16 * y + x) := ⟨_, rfl⟩
          rw [← hL] at HO hlen hyes hno ⊢
          have hLl : L.length ≤ 256 := by omega
          have hLrow := Lib.hid hL
          clear ho h0 hb hL hlen
          cases hbt : bitB M x y
          · have HN := Lib.hid (hno hbt)
            rw [hbt] at HX
            clear hbt hyes hno
            go_wp2_with (go_at_call 75; refine HX.out.mono ?_; rintro e w2 ⟨rfl, hb2⟩; have hz2 := hb2.size; have HO2 := Lib.hid (own_below HO.out hb2 (Nat.le_refl _)); have H2 := Lib.hid (H0.out.below hb2 H0.out.lt); have HB2 := Lib.hid (HB.out.trans (hb2.mono (by omega))); clear hb2)
            exact ⟨⟨x + 1, by omega, by go_num, ⟨g, cc, by rw [show 16 * y + (x + 1) = 16 * y + x + 1 from rfl, HN.out]⟩, by rw [show 16 * y + (x + 1) = 16 * y + x + 1 from rfl, HN.out]; exact HO2.out, H2.out, by omega, HB2.out⟩, by simp [intOf]; omega⟩
          · have HY := Lib.hid (hyes hbt)
            rw [hbt] at HX
            clear hbt hyes hno
            have hrw : Rows_ 2 L := by rw [hLrow.out]; exact cellsTo_rows _ _
            have hpl : (pvs L).length = L.length * 2 := by rw [pvs, List.length_map, flat_length hrw]
            clear hrw hLrow
            go_wp2_with (first
              | (go_at_call 75; refine HX.out.mono ?_; rintro e w2 ⟨rfl, hb2⟩; have hz2 := hb2.size; have HO2 := Lib.hid (own_below HO.out hb2 (Nat.le_refl _)); have H2 := Lib.hid (H0.out.below hb2 H0.out.lt); have HB2 := Lib.hid (HB.out.trans (hb2.mono (by omega))); have HN2 := Lib.hid (pair_news w2 x y); clear hb2)
              | (at_builtin; refine wpList_append_own _ rfl _ _ 26 rfl (w.heap.size + 1) 35 i0 _ 2 8 Tryd.underlying26 hi hz0 hz1 hzb rfl (by decide) (.slice (some ⟨g, 0, none⟩) L.length cc) L.length _ rfl (HO2.out.alloc _) ⟨w2.heap.size, 0, none⟩ 1 1 (pvs [[(x : Int), (y : Int)]]) rfl rfl HN2.out pvs_one (by unfold maxLen; omega) (by omega) (by rw [size_alloc]; omega) ?_; intro v' w3 hown' hgrow _; rw [← pvs_append] at hown'; have HOWN := Lib.hid hown'; have HGR := Lib.hid hgrow; clear hown' hgrow))
            obtain ⟨A1, c1', hve, hOO⟩ := Own.of_row HOWN.out
            obtain ⟨g2, cur1, hA1, _⟩ := hOO.at_ (by omega)
            subst hve hA1
            have hne := fun j e => (HO2.out.lt j e).1
            have hle : (cellsTo M (16 * y + (x + 1))).length = L.length + 1 := by rw [show 16 * y + (x + 1) = 16 * y + x + 1 from rfl, HY.out]; simp
            refine ⟨⟨x + 1, by omega, by go_num, ⟨g2, c1', by rw [hle]⟩, ?_, (H2.out.alloc _).grown HGR.out (fun e => by have := hne _ e.symm; omega), by have := HGR.out.size; rw [size_alloc] at this; omega, (HB2.out.alloc (by omega) _).grown HGR.out (by rw [size_alloc]; omega) (fun j e => by have := hne j e; omega)⟩, by simp [intOf]; omega⟩
            rw [hle, show 16 * y + (x + 1) = 16 * y + x + 1 from rfl, HY.out]
            exact HOWN.out
        · obtain rfl : x = 16 := by omega
          have HO := Lib.hid ho
          have H0 := Lib.hid h0
          have HB := Lib.hid hb
          clear ho h0 hb
          go_wp2
          exact ⟨⟨y + 1, by omega, by go_num, ⟨g, cc, rfl⟩, HO.out, H0.out, hz, HB.out⟩, by simp [intOf]; omega⟩
    · obtain rfl : y = 16 := by omega
      obtain ⟨A1, c1', hve, hO⟩ := Own.of_row ho
      cases hve
      have HO := Lib.hid hO
      have HB := Lib.hid hb
      clear ho h0 hb hO
      go_wp2
      go_ret
      exact ⟨g, cc, rfl, HO.out.less (by omega), HB.out⟩
end Go.Proofs.YtmagaapdijapiaaDoor
