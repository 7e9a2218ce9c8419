/- SpoilFrame: the reference's and the program's walk come to the same frames. -/
import Derived.Test.YtmagaapdijapiaaRows
import Derived.Test.YtmagaapdijapiaaFrE
import Derived.Test.YtmagaapdijapiaaSf
import Derived.Test.YtmagaapdijapiaaCl
namespace Go.Proofs.Ytmagaapdijapiaa
open Go.ChangeShapes Go.WideShapes Go.ChangeAt Go.RowKit

def flipAt (x : Int) (t : Nat) : Int := bits .xor .u8 x (2 ^ (t % 8) % 256)
def spoil (l : List (List Int)) (a t : Nat) : List (List Int) := l.set a ((l.getD a []).set (t / 8) (flipAt ((l.getD a []).getD (t / 8) 0) t))
theorem spoil_rows {l : List (List Int)} {a t : Nat} (h : Rows_ 16 l) (ha : a < l.length) : Rows_ 16 (spoil l a t) := by
  refine h.set ?_
  rw [List.length_set, List.getD_eq_getElem?_getD, List.getElem?_eq_getElem ha]
  exact h.at_ ha
theorem flat_set_cell {l : List (List Int)} {a j : Nat} (h : Rows_ 16 l) (ha : a < l.length) (hj : j < 16) (v : Int) : (l.set a ((l[a]).set j v)).flatten = l.flatten.set (a * 16 + j) v := by
  have hla := h.at_ ha
  have e0 := flat_set h ha hla
  rw [List.set_getElem_self, hla] at e0
  have e1 := flat_set (f := (l[a]).set j v) h ha (by rw [List.length_set, hla])
  rw [List.length_set, hla] at e1
  have hlen : (l.flatten.take (a * 16)).length = a * 16 := by
    rw [List.length_take, flat_length h]
    omega
  rw [e1]
  conv => rhs; rw [e0]
  rw [List.set_append_right _ _ (by omega), hlen, Nat.add_sub_cancel_left, List.set_append_left _ _ (by omega)]
theorem spoil_flat {l : List (List Int)} {a t : Nat} (h : Rows_ 16 l) (ha : a < l.length) (ht : t < 128) (hj : a * 16 + t / 8 < l.flatten.length) :
    (spoil l a t).flatten = l.flatten.set (a * 16 + t / 8) (flipAt (l.flatten[a * 16 + t / 8]'hj) t) := by
  have hla := h.at_ ha
  have e1 : l.getD a [] = l[a] := by rw [List.getD_eq_getElem?_getD, List.getElem?_eq_getElem ha]; rfl
  have e2 : (l[a]).getD (t / 8) 0 = l.flatten[a * 16 + t / 8]'hj := by
    have := flat_get h ha (j := t / 8) (by omega)
    rw [List.getElem?_eq_getElem hj] at this
    rw [List.getD_eq_getElem?_getD, List.getElem?_eq_getElem (by omega)]
    exact (Option.some.inj this).symm
  rw [spoil, e1, e2]
  exact flat_set_cell h ha (by omega) _

def spoilOk (l : List (List Int)) (x y : Int) : Bool := inB x 0 ((l.length : Int) - 1) && inB y 0 127
def spoilOf (l : List (List Int)) (x y : Int) : List (List Int) := if l.length ≤ 700 then (if spoilOk l x y then spoil l x.toNat y.toNat else []) else []
def spoilCode (l : List (List Int)) (x y : Int) : Int := if l.length ≤ 700 then (if spoilOk l x y then 0 else 2) else 3
theorem spoilOf_rows {l : List (List Int)} (h : Rows_ 16 l) (x y : Int) : Rows_ 16 (spoilOf l x y) := by
  unfold spoilOf
  split
  · split
    · rename_i hk
      simp only [spoilOk, Bool.and_eq_true] at hk
      have := inB_true hk.1
      exact spoil_rows h (by omega)
    · intro f hf; cases hf
  · intro f hf; cases hf
theorem spoilOf_length (l : List (List Int)) (x y : Int) : (spoilOf l x y).length ≤ 700 := by
  unfold spoilOf
  split
  · split
    · rw [spoil, List.length_set]; omega
    · simp
  · simp

/-- what SpoilFrame gives -/
def GivesFs (out : List (List Int)) (code : Int) (w : World) (e : Ending) (w' : World) : Prop :=
  ∃ A c, e = .returned (.tuple #[.slice A out.length c, .int .i64 code]) ∧ Own w' w.heap.size w'.heap.size 87 16 A out.length c (out.flatten.map (.int .u8)) ∧ Below w.heap.size w w'

end Go.Proofs.Ytmagaapdijapiaa
