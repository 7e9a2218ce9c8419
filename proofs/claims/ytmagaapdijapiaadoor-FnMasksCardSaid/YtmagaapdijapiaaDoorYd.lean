/- Masks packed into bytes: the walks. -/
import Derived.Test.YtmagaapdijapiaaDoorRows
import Derived.Test.YtmagaapdijapiaaDoorYa
import Derived.Test.YtmagaapdijapiaaDoorSb
namespace Go.Proofs.YtmagaapdijapiaaDoor
open Go.ChangeShapes Go.WideShapes Go.ChangeAt Go.RowKit
def GivesPk (D : List Int) (w : World) (e : Ending) (w' : World) : Prop :=
  ∃ g c, e = .returned (.slice (some ⟨g, 0, none⟩) D.length c) ∧ Own w' w.heap.size w'.heap.size 5 1 (some ⟨g, 0, none⟩) D.length c (D.map (.int .u8)) ∧ Below w.heap.size w w'
theorem pm_same {M : List Int} {k : Nat} {O : List Int} {f : Nat} {s : Bool} (h : pmTo M k = (O, f, s)) (hb : bitK M k = s) : pmTo M (k + 1) = (O, f, s) := by rw [pmTo_same (by rw [h]; exact hb), h]
theorem pm_turn {M : List Int} {k r : Nat} {O : List Int} {f : Nat} {s : Bool} (h : pmTo M k = (O, f, s)) (hr : f + r = k) (hb : ¬ bitK M k = s) : pmTo M (k + 1) = (O ++ [(r : Int)], k, !s) := by
  rw [pmTo_turn (by rw [h]; exact hb), h]
  show (O ++ [((k - f : Nat) : Int)], k, !s) = _
  rw [show k - f = r by omega]
theorem pm_len {M : List Int} {k : Nat} {O : List Int} {f : Nat} {s : Bool} (h : pmTo M k = (O, f, s)) : O.length ≤ k := by
  have := pmTo_length M k
  rw [h] at this
  exact this
end Go.Proofs.YtmagaapdijapiaaDoor
