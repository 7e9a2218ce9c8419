/- Blocks: copied, held against each other. -/
import Derived.Test.YtmagaapdijapiaaDoorRows
import Derived.Test.YtmagaapdijapiaaDoorBl
import Derived.Test.YtmagaapdijapiaaDoorBk
namespace Go.Proofs.YtmagaapdijapiaaDoor
open Go.ChangeShapes Go.WideShapes Go.ChangeAt Go.RowKit
theorem size95 : (Tryd.prog.info? 95).map (·.size) = some 18 := by kernel_rfl
theorem size35 : (Tryd.prog.info? 35).map (·.size) = some 2 := by kernel_rfl
theorem size43 : (Tryd.prog.info? 43).map (·.size) = some 16 := by kernel_rfl
/-- a block as a value -/
def bav (b : Bl) : Array Value := (bvs b).toArray
theorem bav_toList (b : Bl) : (bav b).toList = bvs b := rfl
theorem bav_size {b : Bl} (h : b.1.length = 2 ∧ b.2.length = 16) : (bav b).size = 18 := by rw [bav, List.size_toArray, bvs_length h]
theorem bvs_one (b : Bl) : ∀ v ∈ bvs b, v.oneCell' = true := fun v hv => by
  rcases List.mem_append.1 hv with h | h
  · obtain ⟨x, _, rfl⟩ := List.mem_map.1 h; rfl
  · obtain ⟨x, _, rfl⟩ := List.mem_map.1 h; rfl
theorem bav_one (b : Bl) : (bav b).all (·.oneCell') = true := all_oneCell_toArray (bvs_one b)
theorem Blk.setCellsV {g : Nat} {t : TypeId} : ∀ (vs : List Value) (o : Nat) {w : World} {cs : Array Value}, Blk w g t cs → o + vs.length ≤ cs.size →
    Blk (w.setCells g o vs) g t (cs.toList.take o ++ (vs ++ cs.toList.drop (o + vs.length))).toArray
  | [], o, w, cs, h, _ => by simpa [World.setCells] using h
  | x :: m, o, w, cs, h, hl => by
    have h1 := Blk.setCellsV m (o + 1) (h.set_ o x) (by simp at hl ⊢; omega)
    simp only [List.length_cons] at hl
    rw [World.setCells]
    have e : ((cs.setIfInBounds o x).toList.take (o + 1) ++ (m ++ (cs.setIfInBounds o x).toList.drop (o + 1 + m.length))) = cs.toList.take o ++ (x :: m ++ cs.toList.drop (o + (x :: m).length)) := by
      rw [Array.toList_setIfInBounds, List.take_set, List.take_succ_eq_append_getElem (by simp; omega), List.set_append_right _ _ (by simp; omega), List.drop_set_of_lt (by omega)]
      simp only [List.length_take, Array.length_toList, Nat.min_eq_left (show o ≤ cs.size by omega), Nat.sub_self, List.set_cons_zero, List.length_cons, List.append_assoc, List.cons_append, List.nil_append]
      congr 4
      omega
    rw [e] at h1
    exact h1
theorem Blk.there_ {w : World} {g : Nat} {t : TypeId} {cs : Array Value} (h : Blk w g t cs) (o m : Nat) (hm : o + m ≤ cs.size) : w.there g o m := fun i hi => by
  refine ⟨?_, h.frozen _⟩
  rw [h.cell, Array.getElem?_eq_getElem (by omega)]
  rfl
theorem Blk.rangeV {w : World} {g : Nat} {t : TypeId} {cs : Array Value} (h : Blk w g t cs) {o : Nat} {vs : List Value} (hv : ∀ j u, vs[j]? = some u → cs[o + j]? = some u) : w.rangeAt g o vs := fun j u hu => by
  rw [h.cell]
  exact hv j u hu
theorem bav_at1 {b : Bl} (_h : b.1.length = 2 ∧ b.2.length = 16) : ∀ j u, (b.1.map (Value.int .i32))[j]? = some u → (bav b)[0 + j]? = some u := fun j u hu => by
  have hj : j < (b.1.map (Value.int .i32)).length := (List.getElem?_eq_some_iff.1 hu).1
  rw [Nat.zero_add, bav, List.getElem?_toArray, bvs, List.getElem?_append_left hj]
  exact hu
theorem bav_at2 {b : Bl} (h : b.1.length = 2 ∧ b.2.length = 16) : ∀ j u, (b.2.map (Value.int .u16))[j]? = some u → (bav b)[2 + j]? = some u := fun j u hu => by
  rw [bav, List.getElem?_toArray, bvs, List.getElem?_append_right (by rw [List.length_map, h.1]; omega), List.length_map, h.1, Nat.add_sub_cancel_left]
  exact hu
def zr16 : List Int := List.replicate 16 0
def zr2 : List Int := [0, 0]
theorem put_at {b z : Bl} (hb : b.1.length = 2) (hz : z.1.length = 2) : ((bav z).toList.take 0 ++ (b.1.map (Value.int .i32) ++ (bav z).toList.drop (0 + (b.1.map (Value.int .i32)).length))).toArray = bav (b.1, z.2) := by
  rw [bav_toList, List.length_map, hb, List.take_zero, List.nil_append, bvs, List.drop_append, List.drop_of_length_le (by rw [List.length_map, hz]; omega), List.nil_append, List.length_map, hz]
  rfl
theorem put_mask {b z : Bl} (hb : b.2.length = 16) (hz1 : z.1.length = 2) (hz2 : z.2.length = 16) : ((bav z).toList.take 2 ++ (b.2.map (Value.int .u16) ++ (bav z).toList.drop (2 + (b.2.map (Value.int .u16)).length))).toArray = bav (z.1, b.2) := by
  rw [bav_toList, List.length_map, hb, List.drop_of_length_le (by rw [bvs_length ⟨hz1, hz2⟩]; omega), List.append_nil, bvs, List.take_append_of_le_length (by rw [List.length_map, hz1]; omega), List.take_of_length_le (by rw [List.length_map, hz1]; omega)]
  rfl
end Go.Proofs.YtmagaapdijapiaaDoor
