/- Marks of texts in laws. -/
import Derived.Test.YtmagaapdijapiaaRows
import Derived.Test.YtmagaapdijapiaaSs
import Derived.Lib.ItoaNum
namespace Go.Proofs.Ytmagaapdijapiaa
open Go.ChangeShapes Go.WideShapes Go.ChangeAt Go.RowKit

def dec (n : Nat) : ByteArray := ⟨(Lib.decDigits n).toArray⟩
theorem nDigits_le : ∀ n : Nat, n < 10000000 → Lib.nDigits n ≤ 7 := fun n h => by
  rw [Lib.nDigits]; split
  · omega
  rw [Lib.nDigits]; split
  · omega
  rw [Lib.nDigits]; split
  · omega
  rw [Lib.nDigits]; split
  · omega
  rw [Lib.nDigits]; split
  · omega
  rw [Lib.nDigits]; split
  · omega
  rw [Lib.nDigits, dif_pos (by omega)]
  decide
theorem dec_size {n : Nat} (h : n < 10000000) : (dec n).size ≤ 7 := by
  have : (dec n).size = (Lib.decDigits n).length := by simp [dec, ByteArray.size]
  rw [this, Lib.decDigits_length]
  exact nDigits_le n h
theorem dec_one {n : Nat} (h : n < 10) : dec n = strOfNums [48 + (n : Int)] := by
  rw [dec, Lib.decDigits_one h]
  unfold strOfNums
  simp only [List.map_cons, List.map_nil]
  rw [show (48 + (n : Int)).toNat = 48 + n by omega]
theorem dec_more {n : Nat} (h : ¬ n < 10) : dec n = dec (n / 10) ++ strOfNums [48 + ((n % 10 : Nat) : Int)] := by
  rw [dec, Lib.decDigits, dif_neg h, dec]
  unfold strOfNums
  simp only [List.map_cons, List.map_nil]
  rw [show (48 + ((n % 10 : Nat) : Int)).toNat = 48 + n % 10 by omega]
  exact (ByteArray.mk_append_mk _ _).symm
theorem run_conv1 (W : World) (b : Nat) (v : Int) (h : W.cell? ⟨b, 0, none⟩ = some (.int .u8 v)) : (convert 40 9 (.slice (some ⟨b, 0, none⟩) 1 1)).run Try.prog W = .ok (.string (strOfNums [v])) W :=
  run_convert_bytes_arg (P := Try.prog) W 40 5 Try.underlying40 Try.underlying5 b 0 1 1 [v] rfl (fun i hi => by
    obtain rfl : i = 0 := by omega
    exact h) 9 Try.underlying9

theorem ba_assoc (a b c : ByteArray) : a ++ b ++ c = a ++ (b ++ c) := ByteArray.append_assoc
def markT (k : Nat) : ByteArray := ⟨#[109]⟩ ++ dec k
section
attribute [local go_sem] run_conv1
end

/-- the first j marks from k on, then what was there -/
def marksT (k j : Nat) : List Value := (List.range j).map fun i => Value.string (markT (k + i))
theorem marksT_length (k j : Nat) : (marksT k j).length = j := by simp [marksT]
theorem marksT_at {k j i : Nat} (h : i < j) : (marksT k j)[i]? = some (.string (markT (k + i))) := by rw [marksT, List.getElem?_map, List.getElem?_range h]; rfl
theorem marksT_step {k j : Nat} {xs : List Value} (h : j < xs.length) : (marksT k j ++ xs.drop j).set j (.string (markT (k + j))) = marksT k (j + 1) ++ xs.drop (j + 1) := by
  rw [List.set_append_right _ _ (by rw [marksT_length]; omega), marksT_length, Nat.sub_self, List.drop_eq_getElem_cons h, List.set_cons_zero, marksT, marksT, List.range_succ, List.map_append, List.append_assoc]
  rfl
end Go.Proofs.Ytmagaapdijapiaa
