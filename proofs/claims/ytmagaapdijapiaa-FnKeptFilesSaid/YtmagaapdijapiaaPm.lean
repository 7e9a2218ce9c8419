/- The frames that the program's loop lays, and that they are the reference's. No program in sight. -/
import Derived.Test.YtmagaapdijapiaaPk
import Derived.Test.YtmagaapdijapiaaCk
namespace Go.Proofs.Ytmagaapdijapiaa
open Go.ChangeShapes Go.WideShapes Go.ChangeAt Go.RowKit

def padC (x : List Int) : List Int := x ++ List.replicate (12 - x.length) 0
def chunkOf (l : List Int) (k : Nat) : List Int := (l.drop (12 * chunkAt l.length k)).take 12
theorem padC_length {x : List Int} (h : x.length ≤ 12) : (padC x).length = 12 := by simp [padC]; omega
theorem chunkOf_length (l : List Int) (k : Nat) : (chunkOf l k).length = chunkLen l.length k := by simp [chunkOf, chunkLen]
def outTo (hd : List Int) (l : List Int) (pre : List Nat) : List (List Int) := mk 0 hd :: pre.zipIdx.map fun (p : Nat × Nat) => mk ((p.2 + 1 : Nat) : Int) (padC (chunkOf l p.1))
theorem outTo_nil (hd l : List Int) : outTo hd l [] = [mk 0 hd] := rfl
theorem outTo_length (hd l : List Int) (pre : List Nat) : (outTo hd l pre).length = pre.length + 1 := by simp [outTo]
theorem outTo_snoc (hd l : List Int) (pre : List Nat) (x : Nat) : outTo hd l (pre ++ [x]) = outTo hd l pre ++ [mk ((pre.length + 1 : Nat) : Int) (padC (chunkOf l x))] := by
  simp [outTo, List.zipIdx_append]
theorem pack_head (kind count : Int) (l : List Int) : ((packAll kind count l).drop (0 * 12)).take 12 = headB kind count l.length := by
  rw [Nat.zero_mul, List.drop_zero, packAll, List.append_assoc, List.take_append_of_le_length (by rw [headB_length]; exact Nat.le_refl _), List.take_of_length_le (by rw [headB_length]; exact Nat.le_refl _)]
theorem pack_chunk (kind count : Int) (l : List Int) (i : Nat) (h : i < (l.length + 11) / 12) : ((packAll kind count l).drop ((i + 1) * 12)).take 12 = padC (chunkOf l i) := by
  have hc : chunkAt l.length i = i := by rw [chunkAt, if_pos (by omega)]
  have e1 : (packAll kind count l).drop ((i + 1) * 12) = (l ++ List.replicate (padLen l.length) 0).drop (i * 12) := by
    rw [packAll, List.append_assoc, show (i + 1) * 12 = (headB kind count l.length).length + i * 12 by rw [headB_length]; omega, List.drop_length_add_append]
  rw [e1, chunkOf, hc, padC, Nat.mul_comm 12 i]
  apply List.ext_getElem?
  intro j
  rw [List.getElem?_take]
  by_cases hj : j < 12
  · rw [if_pos hj, List.getElem?_drop]
    by_cases h2 : i * 12 + j < l.length
    · rw [List.getElem?_append_left h2, List.getElem?_append_left (by simp; omega), List.getElem?_take_of_lt hj, List.getElem?_drop]
    · rw [List.getElem?_append_right (by omega), List.getElem?_append_right (by simp; omega), List.getElem?_replicate, List.getElem?_replicate]
      have hp : padLen l.length = (12 - l.length % 12) % 12 := rfl
      rw [if_pos (by omega), if_pos (by simp; omega)]
  · rw [if_neg hj, List.getElem?_eq_none]
    simp
    omega
theorem zipIdx_range (n : Nat) : (List.range n).zipIdx = (List.range n).map fun i => (i, i) := by
  apply List.ext_getElem
  · simp
  · intro i h1 h2
    simp
theorem outTo_all (kind count : Int) (l : List Int) : outTo (headB kind count l.length) l (List.range ((l.length + 11) / 12)) = packOf kind count l := by
  rw [outTo, zipIdx_range, List.map_map, packOf, packMany, packTo, List.range_succ_eq_map, List.map_cons, List.map_map, pack_head]
  congr 1
  apply List.map_congr_left
  intro i hi
  have := List.mem_range.1 hi
  show mk _ _ = mk _ _
  rw [← pack_chunk kind count l i this]
end Go.Proofs.Ytmagaapdijapiaa
