/- Pictures told have blocks of their sizes. No program in sight. -/
import Derived.Test.YthicgmdkipgkaaaDoorRows
import Derived.Test.YthicgmdkipgkaaaDoorCo
namespace Go.Proofs.YthicgmdkipgkaaaDoor
open Go.ChangeShapes Go.WideShapes Go.ChangeAt Go.RowKit
theorem picOf_bls (F : List Int → List Int) : Bls (picOf F) := by
  rw [picOf]
  split
  · rename_i h
    exact h.choose_spec.1.bls
  · exact fun b hb => by cases hb
theorem picR_bls {P : List Bl} (h : Bls P) : Bls (picR P) := by
  rw [picR]
  split
  · exact h
  · exact fun b hb => by cases hb
theorem cmbL_bls (f : Int → Int → Int) (a b : List Bl) : Bls (cmbL f a b) := by
  rw [cmbL]
  split
  · exact picR_bls (picOf_bls _)
  · exact fun b hb => by cases hb
end Go.Proofs.YthicgmdkipgkaaaDoor
