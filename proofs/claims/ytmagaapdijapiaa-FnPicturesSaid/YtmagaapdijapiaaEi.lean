/- Edges: the program's walk. -/
import Derived.Test.YtmagaapdijapiaaRows
import Derived.Test.YtmagaapdijapiaaTw
import Derived.Test.YtmagaapdijapiaaPw
import Derived.Test.YtmagaapdijapiaaCo
import Derived.Test.YtmagaapdijapiaaEs
namespace Go.Proofs.Ytmagaapdijapiaa
open Go.ChangeShapes Go.WideShapes Go.ChangeAt Go.RowKit
/-- the steps lie where the program's start has laid them -/
def Laid8 (w : World) : Prop := w.rangeAt 0 0 (pvs stepsL)
theorem Laid8.pos {w : World} (h : Laid8 w) : 0 < w.heap.size := by
  have h1 : w.cell? ⟨0, 0, none⟩ = some (.int .i32 1) := h 0 _ rfl
  rcases Nat.lt_or_ge 0 w.heap.size with h2 | h2
  · exact h2
  · simp [World.cell?, Array.getElem?_eq_none h2] at h1
theorem Laid8.below {w w' : World} (h : Laid8 w) (hb : Below w.heap.size w w') : Laid8 w' := range_below h hb h.pos
theorem Laid8.at_ {w : World} (h : Laid8 w) {j : Nat} (hj : j < 8) : w.rangeAt 0 (j * 2) [.int .i32 (stepX j), .int .i32 (stepY j)] := by
  have h2 : w.rangeAt 0 (0 + j * 2) (((pvs stepsL).drop (j * 2)).take 2) := Rd.rangeAt (i := j * 2) (s := 2) h
  rw [pvs, ← List.map_drop, ← List.map_take, flat_row steps_rows hj, step_at hj, Nat.zero_add] at h2
  exact h2
theorem pvs_row2 {l : List (List Int)} (h : Rows_ 2 l) {k : Nat} (hk : k < l.length) {w : World} {B b o n : Nat} (hR : Rd w B 2 (some ⟨b, o, none⟩) n (pvs l)) (hn : n = l.length) : w.rangeAt b (o + k * 2) ((l[k]).map (.int .i32)) := by
  obtain ⟨b', o', he, hb, hc⟩ := hR.at_ (by omega)
  cases he
  have h2 := Rd.rangeAt (i := k * 2) (s := 2) hc
  rw [pvs, ← List.map_drop, ← List.map_take, flat_row h hk] at h2
  exact h2
end Go.Proofs.Ytmagaapdijapiaa
