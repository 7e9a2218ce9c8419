/- MendFrames: the reference's and the program's walk come to the same frames. -/
import Derived.Test.YtmagaapdijapiaaRows
import Derived.Test.YtmagaapdijapiaaFrE
import Derived.Test.YtmagaapdijapiaaSf
import Derived.Test.YtmagaapdijapiaaCl
namespace Go.Proofs.Ytmagaapdijapiaa
open Go.ChangeShapes Go.WideShapes Go.ChangeAt Go.RowKit

def mendIt (l m : List (List Int)) (k : Nat) : Bool := !soundB k (l.getD k []) && (decide (k < m.length) && soundB k (m.getD k []))
def mendTo (l m : List (List Int)) : Nat → List (List Int)
  | 0 => l
  | k + 1 => if mendIt l m k then (mendTo l m k).set k (m.getD k []) else mendTo l m k
def mendMany (l m : List (List Int)) : Nat → Nat
  | 0 => 0
  | k + 1 => if mendIt l m k then mendMany l m k + 1 else mendMany l m k
theorem mendTo_length (l m : List (List Int)) : ∀ k, (mendTo l m k).length = l.length
  | 0 => rfl
  | k + 1 => by
    unfold mendTo
    split <;> simp [mendTo_length l m k]
theorem mendMany_le (l m : List (List Int)) : ∀ k, mendMany l m k ≤ k
  | 0 => Nat.le_refl _
  | k + 1 => by
    have := mendMany_le l m k
    unfold mendMany
    split <;> omega
theorem mendTo_rows {sz : Nat} {l m : List (List Int)} (hl : Rows_ sz l) (hm : Rows_ sz m) : ∀ k, Rows_ sz (mendTo l m k)
  | 0 => hl
  | k + 1 => by
    unfold mendTo
    split
    · rename_i h
      refine (mendTo_rows hl hm k).set ?_
      have hk : k < m.length := by simp [mendIt] at h; exact h.2.1
      rw [List.getD_eq_getElem?_getD, List.getElem?_eq_getElem hk]
      exact hm _ (List.getElem_mem hk)
    · exact mendTo_rows hl hm k
theorem mendTo_at (l m : List (List Int)) : ∀ k i, k ≤ i → (mendTo l m k)[i]? = l[i]?
  | 0, _, _ => rfl
  | k + 1, i, h => by
    unfold mendTo
    split
    · rw [List.getElem?_set_ne (by omega)]
      exact mendTo_at l m k i (by omega)
    · exact mendTo_at l m k i (by omega)
theorem mend_no {l m : List (List Int)} {k : Nat} (h : mendIt l m k = false) : mendTo l m (k + 1) = mendTo l m k ∧ mendMany l m (k + 1) = mendMany l m k := by
  constructor
  · show (if mendIt l m k then (mendTo l m k).set k (m.getD k []) else mendTo l m k) = _
    rw [h]; rfl
  · show (if mendIt l m k then mendMany l m k + 1 else mendMany l m k) = _
    rw [h]; rfl
theorem mend_yes {l m : List (List Int)} {k : Nat} (h : mendIt l m k = true) : mendTo l m (k + 1) = (mendTo l m k).set k (m.getD k []) ∧ mendMany l m (k + 1) = mendMany l m k + 1 := by
  constructor
  · show (if mendIt l m k then (mendTo l m k).set k (m.getD k []) else mendTo l m k) = _
    rw [h]; rfl
  · show (if mendIt l m k then mendMany l m k + 1 else mendMany l m k) = _
    rw [h]; rfl
theorem getD_at {l : List (List Int)} {k : Nat} (h : k < l.length) : l.getD k [] = l[k] := by rw [List.getD_eq_getElem?_getD, List.getElem?_eq_getElem h]; rfl

def lims (n m : Nat) : Bool := decide (n ≤ 700) && decide (m ≤ 700)
def mendOf (l m : List (List Int)) : List (List Int) := if lims l.length m.length then mendTo l m l.length else []
def mendCount (l m : List (List Int)) : Int := if lims l.length m.length then (mendMany l m l.length : Nat) else 0
def mendCode (l m : List (List Int)) : Int := if lims l.length m.length then 0 else 3
theorem mendOf_rows {l m : List (List Int)} (hl : Rows_ 16 l) (hm : Rows_ 16 m) : Rows_ 16 (mendOf l m) := by
  unfold mendOf
  split
  · exact mendTo_rows hl hm _
  · intro f hf; cases hf
theorem mendOf_length (l m : List (List Int)) : (mendOf l m).length ≤ 700 := by
  unfold mendOf
  split
  · rename_i h
    rw [mendTo_length]
    simp [lims] at h
    omega
  · simp

/-- what MendFrames gives -/
def GivesMend (out : List (List Int)) (count code : Int) (w : World) (e : Ending) (w' : World) : Prop :=
  ∃ A c, e = .returned (.tuple #[.slice A out.length c, .int .i64 count, .int .i64 code]) ∧ Own w' w.heap.size w'.heap.size 87 16 A out.length c (out.flatten.map (.int .u8)) ∧ Below w.heap.size w w'

theorem lims_false {n m : Nat} (h : lims n m = false) : (700 : Int) < n ∨ ((n : Int) ≤ 700 ∧ (700 : Int) < m) := by
  simp only [lims, Bool.and_eq_false_iff, decide_eq_false_iff_not] at h
  omega
theorem lims_true {n m : Nat} (h : lims n m = true) : n ≤ 700 ∧ m ≤ 700 := by simpa [lims] using h

end Go.Proofs.Ytmagaapdijapiaa
