/- Blocks: copied, held against each other. -/
import Derived.Test.YtmagaapdijapiaaRows
import Derived.Test.YtmagaapdijapiaaBl
import Derived.Test.YtmagaapdijapiaaBk
namespace Go.Proofs.Ytmagaapdijapiaa
open Go.ChangeShapes Go.WideShapes Go.ChangeAt Go.RowKit
theorem size78 : (Try.prog.info? 78).map (·.size) = some 18 := by kernel_rfl
theorem size83 : (Try.prog.info? 83).map (·.size) = some 18 := by kernel_rfl
theorem size60 : (Try.prog.info? 60).map (·.size) = some 2 := by kernel_rfl
theorem size75 : (Try.prog.info? 75).map (·.size) = some 16 := by kernel_rfl
/-- a block as a value -/
def bav (b : Bl) : Array Value := (bvs b).toArray
theorem bav_toList (b : Bl) : (bav b).toList = bvs b := rfl
theorem bav_size {b : Bl} (h : b.1.length = 2 ∧ b.2.length = 16) : (bav b).size = 18 := by rw [bav, List.size_toArray, bvs_length h]
theorem bvs_one (b : Bl) : ∀ v ∈ bvs b, v.oneCell' = true := fun v hv => by
  rcases List.mem_append.1 hv with h | h
  · obtain ⟨x, _, rfl⟩ := List.mem_map.1 h; rfl
  · obtain ⟨x, _, rfl⟩ := List.mem_map.1 h; rfl
theorem bav_one (b : Bl) : (bav b).all (·.oneCell') = true := all_oneCell_toArray (bvs_one b)
theorem Blk.setCellsV {g : Nat} {t : TypeId} : ∀ (vs : List Value) (o : Nat) {w : World} {cs : Array Value}, Blk w g t cs → o + vs.length ≤ cs.size →
    Blk (w.setCells g o vs) g t (cs.toList.take o ++ (vs ++ cs.toList.drop (o + vs.length))).toArray
  | [], o, w, cs, h, _ => by simpa [World.setCells] using h
  | x :: m, o, w, cs, h, hl => by
    have h1 := Blk.setCellsV m (o + 1) (h.set_ o x) (by simp at hl ⊢; omega)
    simp only [List.length_cons] at hl
    rw [World.setCells]
    have e : ((cs.setIfInBounds o x).toList.take (o + 1) ++ (m ++ (cs.setIfInBounds o x).toList.drop (o + 1 + m.length))) = cs.toList.take o ++ (x :: m ++ cs.toList.drop (o + (x :: m).length)) := by
      rw [Array.toList_setIfInBounds, List.take_set, List.take_succ_eq_append_getElem (by simp; omega), List.set_append_right _ _ (by simp; omega), List.drop_set_of_lt (by omega)]
      simp only [List.length_take, Array.length_toList, Nat.min_eq_left (show o ≤ cs.size by omega), Nat.sub_self, List.set_cons_zero, List.length_cons, List.append_assoc, List.cons_append, List.nil_append]
      congr 4
      omega
    rw [e] at h1
    exact h1
theorem Blk.there_ {w : World} {g : Nat} {t : TypeId} {cs : Array Value} (h : Blk w g t cs) (o m : Nat) (hm : o + m ≤ cs.size) : w.there g o m := fun i hi => by
  refine ⟨?_, h.frozen _⟩
  rw [h.cell, Array.getElem?_eq_getElem (by omega)]
  rfl
theorem Blk.rangeV {w : World} {g : Nat} {t : TypeId} {cs : Array Value} (h : Blk w g t cs) {o : Nat} {vs : List Value} (hv : ∀ j u, vs[j]? = some u → cs[o + j]? = some u) : w.rangeAt g o vs := fun j u hu => by
  rw [h.cell]
  exact hv j u hu
theorem bav_at1 {b : Bl} (_h : b.1.length = 2 ∧ b.2.length = 16) : ∀ j u, (b.1.map (Value.int .i32))[j]? = some u → (bav b)[0 + j]? = some u := fun j u hu => by
  have hj : j < (b.1.map (Value.int .i32)).length := (List.getElem?_eq_some_iff.1 hu).1
  rw [Nat.zero_add, bav, List.getElem?_toArray, bvs, List.getElem?_append_left hj]
  exact hu
theorem bav_at2 {b : Bl} (h : b.1.length = 2 ∧ b.2.length = 16) : ∀ j u, (b.2.map (Value.int .u16))[j]? = some u → (bav b)[2 + j]? = some u := fun j u hu => by
  rw [bav, List.getElem?_toArray, bvs, List.getElem?_append_right (by rw [List.length_map, h.1]; omega), List.length_map, h.1, Nat.add_sub_cancel_left]
  exact hu
def zr16 : List Int := List.replicate 16 0
def zr2 : List Int := [0, 0]
theorem put_at {b z : Bl} (hb : b.1.length = 2) (hz : z.1.length = 2) : ((bav z).toList.take 0 ++ (b.1.map (Value.int .i32) ++ (bav z).toList.drop (0 + (b.1.map (Value.int .i32)).length))).toArray = bav (b.1, z.2) := by
  rw [bav_toList, List.length_map, hb, List.take_zero, List.nil_append, bvs, List.drop_append, List.drop_of_length_le (by rw [List.length_map, hz]; omega), List.nil_append, List.length_map, hz]
  rfl
theorem put_mask {b z : Bl} (hb : b.2.length = 16) (hz1 : z.1.length = 2) (hz2 : z.2.length = 16) : ((bav z).toList.take 2 ++ (b.2.map (Value.int .u16) ++ (bav z).toList.drop (2 + (b.2.map (Value.int .u16)).length))).toArray = bav (z.1, b.2) := by
  rw [bav_toList, List.length_map, hb, List.drop_of_length_le (by rw [bvs_length ⟨hz1, hz2⟩]; omega), List.append_nil, bvs, List.take_append_of_le_length (by rw [List.length_map, hz1]; omega), List.take_of_length_le (by rw [List.length_map, hz1]; omega)]
  rfl
set_option maxRecDepth 20000 in
set_option maxHeartbeats 1600000 in
theorem toBlock_any (b : Bl) (hb : b.1.length = 2 ∧ b.2.length = 16) (w : World) :
    Calls Try.prog 47 #[.agg (bav b)] w fun e w' => e = .returned (.agg (bav b)) ∧ Below w.heap.size w w' := by
  obtain ⟨w3, hw3⟩ : ∃ w3 : World, w3 = ((w.alloc (.cells (bav b) 83)).alloc (.cells (bav (zr2, zr16)) 78)).alloc (.cells (bav (zr2, zr16)) 78) := ⟨_, rfl⟩
  have h0 : Blk w3 w.heap.size 83 (bav b) := by rw [hw3]; exact ((Blk.newAt rfl rfl).alloc _).alloc _
  have h1 : Blk w3 (w.heap.size + 1) 78 (bav (zr2, zr16)) := by rw [hw3]; exact (Blk.newAt (by simp) rfl).alloc _
  have h2 : Blk w3 (w.heap.size + 1 + 1) 78 (bav (zr2, zr16)) := by rw [hw3]; exact Blk.newAt (by simp) rfl
  have bw : Below w.heap.size w w3 := by rw [hw3]; exact (((Below.refl _ _).alloc (Nat.le_refl _) _).alloc (by simp) _).alloc (by simp; omega) _
  have hz : w3.heap.size = w.heap.size + 1 + 1 + 1 := by rw [hw3]; simp
  have HW := Lib.hid hw3
  have r1 := h0.rangeV (bav_at1 hb)
  have H0 := Lib.hid h0
  have H1 := Lib.hid h1
  have H2 := Lib.hid h2
  have BW := Lib.hid bw
  have HZ := Lib.hid hz
  have R1 := Lib.hid r1
  clear h0 h1 h2 bw hz hw3 r1
  go_enter Try.func47, Try.ntmps47
  go_wp2_with (first
    | refine wpList_load_ivs rfl _ _ rfl w.heap.size 0 rfl .i32 b.1 _ (by have h := R1.out; rw [HW.out] at h; exact h) Try.underlying60 rfl (by rw [hb.1]; exact size60) ?_
    | (go_at_call 91; refine (toCorner_any b.1 hb.1 _).mono ?_; rintro e w4 ⟨rfl, hb4⟩; have hb4' : Below w3.heap.size w3 w4 := (by rw [HW.out]; exact hb4); have z4 := hb4'.size; have K0 := Lib.hid (H0.out.below hb4' H0.out.lt); have K1 := Lib.hid (H1.out.below hb4' H1.out.lt); have K2 := Lib.hid (H2.out.below hb4' H2.out.lt); have BK := Lib.hid (BW.out.trans (hb4'.mono BW.out.size)); clear hb4 hb4' HW R1 H0 H1 H2 BW)
    | (refine wpList_store_mid rfl _ _ _ rfl (w.heap.size + 1 + 1) 0 (ivs .i32 b.1) rfl rfl (K2.out.there _ _ (by rw [bav_size ⟨rfl, rfl⟩, ivs_size, hb.1]; omega)) (by rw [ivs_size, hb.1]; exact size63) ivs_one ?_; rw [ivs_toList]; have L2 := Lib.hid (K2.out.setCellsV (b.1.map (.int .i32)) 0 (by rw [bav_size ⟨rfl, rfl⟩, List.length_map, hb.1]; omega)); have L0 := Lib.hid (K0.out.setCells_far (g' := w.heap.size + 1 + 1) (by omega) (b.1.map (.int .i32)) 0); have L1 := Lib.hid (K1.out.setCells_far (g' := w.heap.size + 1 + 1) (by omega) (b.1.map (.int .i32)) 0); have BL := Lib.hid (below_setCells (g := w.heap.size + 1 + 1) (by omega) (b.1.map (.int .i32)) 0 BK.out); clear K0 K1 K2 BK; generalize w4.setCells (w.heap.size + 1 + 1) 0 (b.1.map (.int .i32)) = w5 at *; have R2 := Lib.hid (L0.out.rangeV (bav_at2 hb)))
    | refine wpList_load_ivs rfl _ _ rfl w.heap.size 2 rfl .u16 b.2 _ R2.out Try.underlying75 rfl (by rw [hb.2]; exact size75) ?_
    | (go_at_call 92; refine (toMask_any b.2 hb.2 _).mono ?_; rintro e w6 ⟨rfl, hb6⟩; have z6 := hb6.size; have M1 := Lib.hid (L1.out.below hb6 L1.out.lt); have M2 := Lib.hid (L2.out.below hb6 L2.out.lt); have BM := Lib.hid (BL.out.trans (hb6.mono BL.out.size)); rw [put_at hb.1 rfl] at M2; clear hb6 L0 L1 L2 BL)
    | (refine wpList_store_mid rfl _ _ _ rfl (w.heap.size + 1 + 1) 2 (ivs .u16 b.2) rfl rfl (M2.out.there _ _ (by rw [bav_size (b := (b.1, zr16)) ⟨hb.1, rfl⟩, ivs_size, hb.2]; omega)) (by rw [ivs_size, hb.2]; exact size76) ivs_one ?_; rw [ivs_toList]; have N2 := Lib.hid (M2.out.setCellsV (b.2.map (.int .u16)) 2 (by rw [bav_size (b := (b.1, zr16)) ⟨hb.1, rfl⟩, List.length_map, hb.2]; omega)); have N1 := Lib.hid (M1.out.setCells_far (g' := w.heap.size + 1 + 1) (by omega) (b.2.map (.int .u16)) 2); have BN := Lib.hid (below_setCells (g := w.heap.size + 1 + 1) (by omega) (b.2.map (.int .u16)) 2 BM.out); rw [put_mask (z := (b.1, zr16)) hb.2 hb.1 rfl] at N2; clear M1 M2 BM; generalize w6.setCells (w.heap.size + 1 + 1) 2 (b.2.map (.int .u16)) = w7 at *)
    | refine wpList_load_row rfl _ _ rfl (w.heap.size + 1 + 1) rfl 78 (bav b) (0, 0) _ N2.out Try.underlying78 rfl (by rw [bav_size hb]; exact size78) ?_
    | refine wpList_store_row rfl _ _ _ rfl (w.heap.size + 1) (bav b) rfl rfl 78 _ N1.out (by rw [bav_size hb]; exact size78) (by rw [bav_size hb, bav_size ⟨rfl, rfl⟩]) (bav_one b) ?_)
  exact bodyPost_ret (results_cell_row rfl _ _ (w.heap.size + 1) 78 (bav b) (0, 0) _ rfl (N1.out.row _) Try.underlying78 rfl (by rw [bav_size hb]; exact size78)) rfl ⟨rfl, below_setRow BN.out (by omega) _⟩
end Go.Proofs.Ytmagaapdijapiaa
