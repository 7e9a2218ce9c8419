/- Pictures turned into data, and their files: the plain side. -/
import Derived.Test.YtmagaapdijapiaaRows
import Derived.Test.YtmagaapdijapiaaYa
import Derived.Test.YtmagaapdijapiaaFrB
import Derived.Test.YtmagaapdijapiaaPk
import Derived.Test.YtmagaapdijapiaaUb
import Derived.Test.YtmagaapdijapiaaCh
namespace Go.Proofs.Ytmagaapdijapiaa
open Go.ChangeShapes Go.WideShapes Go.ChangeAt Go.RowKit
theorem pmL_255 (M : List Int) : is255 (pmL M) := pmL_in M
/-- the bytes of a block, of a picture -/
def blkD (b : Bl) : List Int := four (b.1.getD 0 0 % 4294967296) ++ four (b.1.getD 1 0 % 4294967296) ++ [((pmL b.2).length : Int) % 256] ++ pmL b.2
def picD (l : List Bl) : List Int := (l.map blkD).flatten
theorem blkD_length (b : Bl) : (blkD b).length = 9 + (pmL b.2).length := by
  rw [blkD, List.length_append, List.length_append, List.length_append]
  rfl
theorem blkD_le (b : Bl) : (blkD b).length ≤ 265 := by
  have := pmL_length b.2
  rw [blkD_length]
  omega
theorem picD_snoc {l : List Bl} {k : Nat} (h : k < l.length) : picD (l.take (k + 1)) = picD (l.take k) ++ blkD l[k] := by
  rw [picD, picD, List.take_succ_eq_append_getElem h, List.map_append, List.flatten_append]
  simp
theorem picD_le : ∀ l : List Bl, (picD l).length ≤ 265 * l.length
  | [] => by simp [picD]
  | b :: l => by
    have h1 := picD_le l
    have h2 := blkD_le b
    rw [picD] at h1 ⊢
    rw [List.map_cons, List.flatten_cons, List.length_append, List.length_cons]
    omega
theorem fourY_255 (n : Int) : is255 (four n) := fun x hx => by
  simp only [four, List.mem_cons, List.not_mem_nil, or_false] at hx
  omega
theorem picD_255 (l : List Bl) : is255 (picD l) := fun x hx => by
  obtain ⟨s, hs, hx⟩ := List.mem_flatten.1 hx
  obtain ⟨b, _, rfl⟩ := List.mem_map.1 hs
  rw [blkD] at hx
  rcases List.mem_append.1 hx with hx | hx
  · rcases List.mem_append.1 hx with hx | hx
    · rcases List.mem_append.1 hx with hx | hx
      · exact fourY_255 _ x hx
      · exact fourY_255 _ x hx
    · rw [List.mem_singleton] at hx
      omega
  · exact pmL_255 _ x hx
/-- the file of a picture -/
def pfF (l : List Bl) : List (List Int) := if vpB l = true ∧ (picD l).length ≤ 8192 then packOf 2 l.length (picD l) else []
def pfC (l : List Bl) : Int := if vpB l then (if (picD l).length ≤ 8192 then 0 else 3) else 1
theorem pfF_rows (l : List Bl) : Rows_ 16 (pfF l) := by
  unfold pfF
  split
  · exact packOf_rows _ _ _
  · intro f hf; cases hf
theorem pfF_length (l : List Bl) : (pfF l).length ≤ 700 := by
  unfold pfF
  split
  · rename_i h
    rw [packOf, packTo_length, packMany]
    omega
  · exact Nat.zero_le _
end Go.Proofs.Ytmagaapdijapiaa
