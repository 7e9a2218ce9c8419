/- The steps stay laid while others write; what is told of edges. -/
import Derived.Test.YthicgmdkipgkaaaDoorRows
import Derived.Test.YthicgmdkipgkaaaDoorEj
import Derived.Lib.LaidTab
namespace Go.Proofs.YthicgmdkipgkaaaDoor
open Go.ChangeShapes Go.WideShapes Go.ChangeAt Go.RowKit
structure L8 (w : World) : Prop where
  at_ : Laid8 w
theorem L8.pos {w : World} (h : L8 w) : 0 < w.heap.size := h.at_.pos
theorem L8.below {w w' : World} (h : L8 w) (hb : Below w.heap.size w w') (_ : 0 ≤ 1) : L8 w' := ⟨h.at_.below hb⟩
theorem L8.grown {w w' : World} {row : Option Nat} (h : L8 w) (hg : w.grownBy w' row) (hr : ∀ g, row = some g → 1 ≤ g) : L8 w' :=
  ⟨range_below h.at_ ((Below.refl 1 w).grown hg h.pos hr) (Nat.lt_succ_self 0)⟩
theorem edgL_length {l : List Bl} (hrow : Bls l) (h16 : ∀ b ∈ l, is16 b.2) : (edgL l).length ≤ 64 := by
  rw [edgL]
  split
  · rename_i h
    have hv := vpic_of hrow h16 h
    rw [picHas]
    split
    · rename_i h2
      have hc := h2.choose_spec
      refine Nat.le_trans (pic_sub_length hc.1 hv.pic fun U V hx => ?_) hv.few
      rw [hc.2, edgeB, Bool.and_eq_true] at hx
      exact hx.1
    · exact Nat.zero_le _
  · exact Nat.zero_le _
/-- an array of pairs that reads as the rows holds them, cell for cell -/
theorem cells_of_rows {H : Type} {enc : TypeId × Value → H} {P : Program} {w : World} {base : Nat} {sp : Nat → Bool} {held : Bool} {fuel : Nat} {t e ee : TypeId} {n : Nat} {k : IntKind} {cs : List Value} {rows : List (List Int)} {p : List MemPlace}
    (ht : P.underlying t = some (.array n e)) (he : P.underlying e = some (.array 2 ee)) (hee : P.underlying ee = some (.int k)) (hce : P.cellsOf ee = 1) (hc2 : P.cellsOf e = 2) (_hrows : Rows_ 2 rows)
    (h : DataW.trod enc P w base sp held fuel t cs = some (.agg (rows.map (Go.Lib.tabData k)), p)) : rows.length = n ∧ ∀ i, (hi : i < n) → ∀ hi2 : i < rows.length, (cs.drop (i * 2)).take 2 = (rows[i]).map (Value.int k) := by
  cases fuel with
  | zero => simp [DataW.trod] at h
  | succ fuel =>
    simp only [DataW.trod, ht, hc2] at h
    split at h
    · rename_i hl
      obtain ⟨xs, hm, hx⟩ := Option.map_eq_some_iff.1 h
      have hxs : xs.map (·.1) = rows.map (Go.Lib.tabData k) := by
        have := congrArg Prod.fst hx
        simpa using this
      have hxl : xs.length = n := by simpa using Go.Lib.mapM_length hm
      have hzl : rows.length = n := by
        have := congrArg List.length hxs
        simp at this
        omega
      refine ⟨hzl, fun i hi hi2 => ?_⟩
      obtain ⟨b, hb, hf⟩ := Go.Lib.mapM_at hm i i (by simp [hi])
      have h2 : (xs.map (·.1))[i]? = some b.1 := by simp [hb]
      rw [hxs, List.getElem?_map, List.getElem?_eq_getElem hi2] at h2
      have h3 : b.1 = Go.Lib.tabData k rows[i] := by simpa using h2.symm
      obtain ⟨b1, b2⟩ := b
      cases h3
      exact Go.Lib.cells_of_tab he hee hce hc2 hf
    · cases h
theorem Laid8.of_cells {w : World} {cs : List Value} (hc : ∀ i, w.cell? ⟨0, i, none⟩ = cs[i]?) (h : ∀ i, (hi : i < 8) → (cs.drop (i * 2)).take 2 = (stepsL[i]'hi).map (Value.int .i32)) : Laid8 w := by
  intro j v hv
  have hj : j < 16 := by
    have := (List.getElem?_eq_some_iff.1 hv).1
    simpa [pvs, stepsL] using this
  have h2 := h (j / 2) (by omega)
  have h3 := flat_row steps_rows (i := j / 2) (show j / 2 < 8 by omega)
  have e : j = j / 2 * 2 + j % 2 := by omega
  have h4 : ((pvs stepsL).drop (j / 2 * 2)).take 2 = (cs.drop (j / 2 * 2)).take 2 := by
    rw [pvs, ← List.map_drop, ← List.map_take, h3, h2]
  have h5 := congrArg (fun l => l[j % 2]?) h4
  simp only [List.getElem?_take, List.getElem?_drop] at h5
  rw [if_pos (by omega), if_pos (by omega), ← e] at h5
  rw [show (⟨0, 0 + j, none⟩ : Addr) = ⟨0, j, none⟩ by rw [Nat.zero_add], hc, ← h5]
  exact hv
end Go.Proofs.YthicgmdkipgkaaaDoor
