/- The cells of a block. -/
import Derived.Test.YtmagaapdijapiaaDoorRows
import Derived.Test.YtmagaapdijapiaaDoorCb
namespace Go.Proofs.YtmagaapdijapiaaDoor
open Go.ChangeShapes Go.WideShapes Go.ChangeAt Go.RowKit
def mv (X Y : Int) (f : List Int) : List Int := [f.getD 0 0 + 16 * X, f.getD 1 0 + 16 * Y]
def bCells (b : Bl) : List (List Int) := (mCells b.2).map (mv (b.1.getD 0 0) (b.1.getD 1 0))
def inFar (b : Bl) : Prop := (-62501 ≤ b.1.getD 0 0 ∧ b.1.getD 0 0 ≤ 62501) ∧ (-62501 ≤ b.1.getD 1 0 ∧ b.1.getD 1 0 ≤ 62501)
theorem vset_cell {sz : Nat} {l : List (List Int)} {a j : Nat} (h : Rows_ sz l) (ha : a < l.length) (hj : j < sz) (v : Int) : (l.set a ((l[a]).set j v)).flatten = l.flatten.set (a * sz + j) v := by
  have hs : Rows_ sz (l.set a ((l[a]).set j v)) := fun f hf => by
    rcases List.mem_or_eq_of_mem_set hf with h1 | h1
    · exact h f h1
    · rw [h1, List.length_set]; exact h _ (List.getElem_mem ha)
  apply List.ext_getElem?
  intro i
  by_cases hi : i < l.length * sz
  · have h0 : 0 < sz := by omega
    have hq : i / sz < l.length := by rw [Nat.div_lt_iff_lt_mul h0]; exact hi
    have hr : i % sz < sz := Nat.mod_lt _ h0
    have e : i / sz * sz + i % sz = i := by rw [Nat.mul_comm]; exact Nat.div_add_mod i sz
    have g1 := flat_get hs (i := i / sz) (j := i % sz) (by rw [List.length_set]; exact hq) hr
    have g2 := flat_get h hq hr
    rw [e] at g1 g2
    rw [g1, List.getElem?_set]
    have hlen : i < l.flatten.length := by rw [flat_length h]; exact hi
    by_cases hij : a * sz + j = i
    · subst hij
      have h1 : (a * sz + j) / sz = a := by rw [Nat.mul_comm, Nat.mul_add_div h0, Nat.div_eq_of_lt hj, Nat.add_zero]
      have h2 : (a * sz + j) % sz = j := by rw [Nat.mul_comm, Nat.mul_add_mod, Nat.mod_eq_of_lt hj]
      simp only [h1, h2, List.getElem_set_self, if_true, hlen]
    · rw [if_neg hij, g2]
      by_cases hqa : a = i / sz
      · have hne : j ≠ i % sz := fun e2 => hij (by rw [hqa, e2]; exact e)
        subst hqa
        simp only [List.getElem_set_self, Option.some.injEq]
        rw [List.getElem_set_ne hne]
      · simp only [Option.some.injEq]
        congr 1
        rw [List.getElem_set_ne hqa]
  · rw [List.getElem?_eq_none (by rw [flat_length hs, List.length_set]; omega), List.getElem?_eq_none (by rw [List.length_set, flat_length h]; omega)]
theorem pvs_get {l : List (List Int)} (h : Rows_ 2 l) {k j : Nat} (hk : k < l.length) (hj : j < 2) : (pvs l)[k * 2 + j]? = some (.int .i32 ((l[k]).getD j 0)) := by
  have h1 := flat_get h hk hj
  rw [pvs, List.getElem?_map, h1, List.getD_eq_getElem?_getD, List.getElem?_eq_getElem (by rw [h.at_ hk]; exact hj)]
  rfl
theorem pvs_set {l : List (List Int)} (h : Rows_ 2 l) {k j : Nat} (hk : k < l.length) (hj : j < 2) (v : Int) : (pvs l).set (k * 2 + j) (.int .i32 v) = pvs (l.set k ((l[k]).set j v)) := by
  rw [pvs, pvs, vset_cell h hk hj, List.map_set]
section
variable {w : World} {lo hi g : Nat} {e : TypeId} {size n c : Nat} {xs : List Value}
theorem Own.setV (h : Own w lo hi e size (some ⟨g, 0, none⟩) n c xs) (j : Nat) (v : Value) : Own (w.setCell ⟨g, j, none⟩ v) lo hi e size (some ⟨g, 0, none⟩) n c (xs.set j v) := by
  obtain ⟨hl, h⟩ := h
  refine ⟨by simp [hl], ?_⟩
  rcases h with ⟨h, _⟩ | ⟨g', cur, h1, h2, h3, h4, h5, h6, h7, h8⟩
  · cases h
  · cases h1
    refine .inr ⟨g, _, rfl, h2, h3, h4.set_ j v, h5, h6, by simp [h7], ?_⟩
    rw [← h8, Array.toList_setIfInBounds, List.take_set]
theorem Own.cellV (h : Own w lo hi e size (some ⟨g, 0, none⟩) n c xs) {j : Nat} {u : Value} (hu : xs[j]? = some u) : w.cell? ⟨g, j, none⟩ = some u ∧ w.frozen? ⟨g, j, none⟩ = false := by
  rcases h.2 with ⟨h, _⟩ | ⟨g', cur, h1, h2, h3, h4, h5, h6, h7, h8⟩
  · cases h
  · cases h1
    refine ⟨?_, h4.frozen j⟩
    rw [h4.cell]
    rw [← h8, List.getElem?_take] at hu
    split at hu
    · simpa using hu
    · cases hu
theorem Own.blk_ (h : Own w lo hi e size (some ⟨g, 0, none⟩) n c xs) : lo ≤ g ∧ g < hi := by
  rcases h.2 with ⟨h, _⟩ | ⟨g', cur, h1, h2, h3, _⟩
  · cases h
  · cases h1
    exact ⟨h2, h3⟩
end
theorem mCells_at {M : List Int} {k : Nat} (h : k < (mCells M).length) : ∃ x y : Nat, x < 16 ∧ y < 16 ∧ (mCells M)[k] = [(x : Int), (y : Int)] := by
  have hm : (mCells M)[k] ∈ mCells M := List.getElem_mem h
  obtain ⟨j, hj, he⟩ := List.mem_map.1 (show (mCells M)[k] ∈ ((List.range 256).filter fun j => bitB M (j % 16) (j / 16)).map (fun j => [((j % 16 : Nat) : Int), ((j / 16 : Nat) : Int)]) from hm)
  have hj2 := (List.mem_filter.1 hj).1
  have := List.mem_range.1 hj2
  exact ⟨j % 16, j / 16, by omega, by omega, he.symm⟩
/-- the first k cells are moved -/
def moved (L : List (List Int)) (X Y : Int) (k : Nat) : List (List Int) := (L.take k).map (mv X Y) ++ L.drop k
theorem moved_rows {L : List (List Int)} (h : Rows_ 2 L) (X Y : Int) (k : Nat) : Rows_ 2 (moved L X Y k) := fun f hf => by
  rcases List.mem_append.1 hf with h1 | h1
  · obtain ⟨g, _, rfl⟩ := List.mem_map.1 h1; rfl
  · exact h f (List.mem_of_mem_drop h1)
theorem moved_length (L : List (List Int)) (X Y : Int) (k : Nat) : (moved L X Y k).length = L.length := by
  rw [moved, List.length_append, List.length_map, List.length_take, List.length_drop]
  omega
theorem moved_at {L : List (List Int)} {X Y : Int} {k : Nat} (h : k < L.length) : (moved L X Y k)[k]'(by rw [moved_length]; exact h) = L[k] := by
  have hl : ((L.take k).map (mv X Y)).length = k := by rw [List.length_map, List.length_take]; omega
  simp only [moved]
  rw [List.getElem_append_right (by omega), List.getElem_drop]
  congr 1
  omega
theorem moved_succ {L : List (List Int)} {X Y : Int} {k : Nat} (h : k < L.length) : (moved L X Y k).set k (mv X Y L[k]) = moved L X Y (k + 1) := by
  have hl : ((L.take k).map (mv X Y)).length = k := by rw [List.length_map, List.length_take]; omega
  rw [moved, List.set_append_right _ _ (by omega), hl, Nat.sub_self, List.drop_eq_getElem_cons h, List.set_cons_zero, moved, List.take_succ_eq_append_getElem h, List.map_append, List.append_assoc]
  rfl
set_option maxRecDepth 20000 in
set_option maxHeartbeats 3200000 in
theorem iCells_any (b : Bl) (hb : b.1.length = 2 ∧ b.2.length = 16) (h16 : is16 b.2) (hf : inFar b) (w : World) :
    Calls Tryd.prog 70 #[.agg (bav b)] w (GivesCells (bCells b) w) := by
  have h0 : Blk (w.alloc (.cells (bav b) 95)) w.heap.size 95 (bav b) := Blk.newAt rfl rfl
  have r2 := Lib.hid (h0.rangeV (bav_at2 hb))
  have H0 := Lib.hid h0
  have HC := Lib.hid (iCellsOf_any b.2 hb.2 h16)
  clear h0
  go_enter Tryd.func70, Tryd.ntmps70
  go_wp2_with (first
    | refine wpList_load_ivs rfl _ _ rfl w.heap.size 2 rfl .u16 b.2 _ r2.out Tryd.underlying44 rfl (by rw [hb.2]; exact size44) ?_
    | (go_at_call 21; refine (HC.out _).mono ?_; rintro e w2 ⟨g, c, rfl, hO, hb2⟩; have z2 := hb2.size; rw [size_alloc] at z2; have H2 := Lib.hid (H0.out.below hb2 H0.out.lt); have HO := Lib.hid hO; have HB := Lib.hid (((Below.refl w.heap.size w).alloc (Nat.le_refl _) (.cells (bav b) 95)).trans (hb2.mono (by rw [size_alloc]; omega))); clear hO hb2))
  have hX := hf.1
  have hY := hf.2
  have hcl : (mCells b.2).length ≤ 256 := cellsTo_length _ _
  have hrow : Rows_ 2 (mCells b.2) := cellsTo_rows _ _
  have hc0 : ∀ j u, (bvs b)[j]? = some u → (bav b)[j]? = some u := fun j u h => by rw [bav, List.getElem?_toArray]; exact h
  have hX0 : (bav b)[0]? = some (.int .i32 (b.1.getD 0 0)) := by
    have := bav_at1 hb 0 (.int .i32 (b.1.getD 0 0)) (by rw [List.getElem?_map, List.getD_eq_getElem?_getD, List.getElem?_eq_getElem (by rw [hb.1]; omega)]; rfl)
    rwa [Nat.zero_add] at this
  have hY0 : (bav b)[1]? = some (.int .i32 (b.1.getD 1 0)) := by
    have := bav_at1 hb 1 (.int .i32 (b.1.getD 1 0)) (by rw [List.getElem?_map, List.getD_eq_getElem?_getD, List.getElem?_eq_getElem (by rw [hb.1]; omega)]; rfl)
    rwa [Nat.zero_add] at this
  have HROW := Lib.hid hrow
  have HX0 := Lib.hid hX0
  have HY0 := Lib.hid hY0
  have HBC : Hid (bCells b = (mCells b.2).map (mv (b.1.getD 0 0) (b.1.getD 1 0))) := Lib.hid rfl
  have HAT := Lib.hid (fun k h => mCells_at (M := b.2) (k := k) h)
  have ho0 : Own w2 (w.heap.size + 1) w2.heap.size 35 2 (some ⟨g, 0, none⟩) (mCells b.2).length c (pvs (moved (mCells b.2) (b.1.getD 0 0) (b.1.getD 1 0) 0)) := by
    have := HO.out
    rw [size_alloc] at this
    exact this
  have HO0 := Lib.hid ho0
  clear hrow hX0 hY0 hc0 HO ho0 hf H0 HC
  generalize b.1.getD 0 0 = X at *
  generalize b.1.getD 1 0 = Y at *
  generalize bCells b = BC at *
  generalize mCells b.2 = L at *
  go_loopw [10] (fun i wr => ∃ k : Nat, k ≤ L.length ∧ i = .int .i64 k ∧ Own wr (w.heap.size + 1) wr.heap.size 35 2 (some ⟨g, 0, none⟩) L.length c (pvs (moved L X Y k)) ∧ Blk wr w.heap.size 95 (bav b) ∧ wr.heap.size = w2.heap.size ∧ Below w.heap.size w wr) (fun i _ => L.length - (intOf i).toNat)
  case atStart => exact ⟨0, by omega, rfl, HO0.out, H2.out, rfl, HB.out⟩
  case round =>
    clear HO0 H2 HB
    obtain ⟨k, hk, rfl, ho, h0, hz, hbl⟩ := hrel
    by_cases hlt : k < L.length
    · have hlt' : (k : Int) < L.length := by omega
      obtain ⟨x, y, hx, hy, hxy⟩ := HAT.out k hlt
      have hr := moved_rows HROW.out X Y k
      have hlen := moved_length L X Y k
      have hat := moved_at (X := X) (Y := Y) hlt
      have g0 := pvs_get hr (k := k) (j := 0) (by omega) (by omega)
      have g1 := pvs_get hr (k := k) (j := 1) (by omega) (by omega)
      rw [hat, hxy] at g0 g1
      obtain ⟨c0, f0⟩ := ho.cellV g0
      obtain ⟨c1, f1⟩ := ho.cellV g1
      have d0 := (h0.cell 0).trans HX0.out
      have d1 := (h0.cell 1).trans HY0.out
      have hgb := ho.blk_
      simp only [Nat.add_zero] at c0 f0
      obtain ⟨R, hR⟩ : ∃ R, R = (moved L X Y k).set k [(x : Int) + 16 * X, (y : Int)] := ⟨_, rfl⟩
      have hRr : Rows_ 2 R := fun f hf => by
        rw [hR] at hf
        rcases List.mem_or_eq_of_mem_set hf with h | h
        · exact hr f h
        · rw [h]; rfl
      have hRl : R.length = L.length := by rw [hR, List.length_set, hlen]
      have hRk : R[k]'(by omega) = [(x : Int) + 16 * X, (y : Int)] := by simp only [hR, List.getElem_set_self]
      have s1 : (pvs (moved L X Y k)).set (k * 2) (.int .i32 ((x : Int) + 16 * X)) = pvs R := by
        have := pvs_set hr (k := k) (j := 0) (by omega) (by omega) ((x : Int) + 16 * X)
        rw [hat, hxy] at this
        rw [hR]
        exact this
      have s2 : (pvs R).set (k * 2 + 1) (.int .i32 ((y : Int) + 16 * Y)) = pvs (moved L X Y (k + 1)) := by
        have := pvs_set hRr (k := k) (j := 1) (by omega) (by omega) ((y : Int) + 16 * Y)
        rw [hRk] at this
        rw [this, hR, List.set_set, ← moved_succ hlt, hxy]
        rfl
      have o5 := (ho.setV (k * 2) (.int .i32 ((x : Int) + 16 * X))).drew
      rw [s1] at o5
      have g5 := pvs_get hRr (k := k) (j := 1) (by omega) (by omega)
      rw [hRk] at g5
      have O5 := Lib.hid o5
      have B5 : Hid (Blk (wr.setCell ⟨g, k * 2, none⟩ (.int .i32 ((x : Int) + 16 * X))).drew w.heap.size 95 (bav b)) := Lib.hid ((h0.far (p := ⟨g, k * 2, none⟩) (show w.heap.size ≠ g by omega) _).drew)
      have BB5 : Hid (Below w.heap.size w (wr.setCell ⟨g, k * 2, none⟩ (.int .i32 ((x : Int) + 16 * X))).drew) := Lib.hid (below_drew (hbl.setCell (p := ⟨g, k * 2, none⟩) (show w.heap.size ≤ g by omega) _))
      have HS2 := Lib.hid s2
      have G5 := Lib.hid g5
      have HZ : Hid ((wr.setCell ⟨g, k * 2, none⟩ (.int .i32 ((x : Int) + 16 * X))).drew.heap.size = w2.heap.size) := Lib.hid (by show (wr.setCell _ _).heap.size = _; rw [size_setCell]; exact hz)
      clear g0 g1 hat s1 s2 o5 g5 hR hRr hRl hRk hr hlen ho h0 hbl hxy
      go_wp2
      go_region
      generalize (wr.setCell ⟨g, k * 2, none⟩ (.int .i32 ((x : Int) + 16 * X))).drew = w5 at *
      obtain ⟨c5, f5⟩ := O5.out.cellV G5.out
      have d5 := (B5.out.cell 1).trans HY0.out
      have hgb5 := O5.out.blk_
      simp only [List.getD_cons_succ, List.getD_cons_zero] at c5
      clear c0 f0 c1 f1 d0 d1
      go_wp2
      go_region
      go_wp2
      refine ⟨⟨k + 1, by omega, by go_num, ?_, ((B5.out.far (p := ⟨g, k * 2 + 1, none⟩) (show w.heap.size ≠ g by omega) _).drew), by show (w5.setCell _ _).heap.size = _; rw [size_setCell]; exact HZ.out, below_drew (BB5.out.setCell (p := ⟨g, k * 2 + 1, none⟩) (show w.heap.size ≤ g by omega) _)⟩, by simp [intOf]; omega⟩
      rw [← HS2.out]
      have := (O5.out.setV (k * 2 + 1) (.int .i32 ((y : Int) + 16 * Y))).drew
      have e5 : (w5.setCell ⟨g, k * 2 + 1, none⟩ (.int .i32 ((y : Int) + 16 * Y))).drew.heap.size = w5.heap.size := by show (w5.setCell _ _).heap.size = _; rw [size_setCell]
      rw [e5]
      exact this.more (by have := HZ.out; omega)
    · obtain rfl : k = L.length := by omega
      have e : moved L X Y L.length = L.map (mv X Y) := by rw [moved, List.take_length, List.drop_length, List.append_nil]
      rw [e] at ho
      have HO := Lib.hid ho
      have HBL := Lib.hid hbl
      clear ho h0 hbl
      go_wp2
      go_ret
      refine ⟨g, c, ?_, ?_, HBL.out⟩
      · rw [HBC.out, List.length_map]; rfl
      · rw [HBC.out, List.length_map]; exact HO.out.less (by omega)
end Go.Proofs.YtmagaapdijapiaaDoor
