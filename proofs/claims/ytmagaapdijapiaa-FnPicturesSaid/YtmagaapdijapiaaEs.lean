/- Edges: the reference's walk. -/
import Derived.Test.YtmagaapdijapiaaRows
import Derived.Test.YtmagaapdijapiaaPu
import Derived.Test.YtmagaapdijapiaaTv
import Derived.Test.YtmagaapdijapiaaCz
namespace Go.Proofs.Ytmagaapdijapiaa
open Go.ChangeShapes Go.WideShapes Go.ChangeAt Go.RowKit
theorem pvs_cells {l : List (List Int)} (h : Rows_ 2 l) {k : Nat} (hk : k < l.length) {w : World} {B b o n : Nat} (hR : Rd w B 2 (some ⟨b, o, none⟩) n (pvs l)) (hn : n = l.length) {x y : Int} (he : l[k] = [x, y]) : w.cell? ⟨b, o + k * 2, none⟩ = some (.int .i32 x) ∧ w.cell? ⟨b, o + k * 2 + 1, none⟩ = some (.int .i32 y) := by
  obtain ⟨b', o', he', hb, hc⟩ := hR.at_ (by omega)
  cases he'
  have h2 := Rd.rangeAt (i := k * 2) (s := 2) hc
  rw [pvs, ← List.map_drop, ← List.map_take, flat_row h hk, he] at h2
  exact ⟨h2 0 _ rfl, h2 1 _ rfl⟩
theorem Rising.nodup_take {l : List Bl} (h : Rising l) (k : Nat) (hk : k < (specC l).length) : (specC l)[k] ∉ (specC l).take k := fun hm => by
  obtain ⟨j, hj, he⟩ := List.getElem_of_mem hm
  rw [List.length_take] at hj
  rw [List.getElem_take] at he
  have := List.pairwise_iff_getElem.1 (spec_nodup h) j k (by omega) hk (by omega)
  exact this he
end Go.Proofs.Ytmagaapdijapiaa
