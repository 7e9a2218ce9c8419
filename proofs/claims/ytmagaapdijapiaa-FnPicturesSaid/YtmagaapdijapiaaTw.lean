/- Cells struck out of a table of masks. No program in sight. -/
import Derived.Test.YtmagaapdijapiaaRows
import Derived.Test.YtmagaapdijapiaaTv
import Derived.Test.YtmagaapdijapiaaMd
namespace Go.Proofs.Ytmagaapdijapiaa
open Go.ChangeShapes Go.WideShapes Go.ChangeAt Go.RowKit
def strike (lo : List Bl) (x y : Int) : List Bl := putB lo [x / 16, y / 16] (setNot (maskAt lo [x / 16, y / 16]) (y % 16).toNat (x % 16).toNat)
theorem has_strike {lo : List Bl} (ht : Tab lo) (x y U V : Int) : hasB (strike lo x y) U V = (hasB lo U V && !(decide (U = x) && decide (V = y))) := by
  obtain ⟨m1, m2⟩ := ht.mask [x / 16, y / 16]
  rw [hasB, strike, putB_mask, hasB]
  by_cases e : [U / 16, V / 16] = [x / 16, y / 16]
  · rw [if_pos e, setNot_bit m1 m2 (by omega) (by omega) (by omega), e]
    have e0 : U / 16 = x / 16 := by injection e
    have e1 : V / 16 = y / 16 := by injection e with _ h; injection h
    congr 2
    congr 1
    · exact decide_eq_decide.2 (by omega)
    · exact decide_eq_decide.2 (by omega)
  · rw [if_neg e]
    have : (decide (U = x) && decide (V = y)) = false := by
      rw [Bool.and_eq_false_iff, decide_eq_false_iff_not, decide_eq_false_iff_not]
      by_cases h1 : U = x
      · exact .inr fun h2 => e (by rw [h1, h2])
      · exact .inl h1
    rw [this, Bool.not_false, Bool.and_true]
theorem strike_tab {lo : List Bl} (ht : Tab lo) (x y : Int) : Tab (strike lo x y) := by
  obtain ⟨m1, m2⟩ := ht.mask [x / 16, y / 16]
  exact ht.put rfl (setNot_length m1 _ _) (setNot_16 m2 _ _)
theorem strike_length (lo : List Bl) (x y : Int) : (strike lo x y).length ≤ lo.length + 1 := putB_length _ _ _
/-! ### the steps -/
def stepsL : List (List Int) := [[1, 0], [-1, 0], [0, 1], [0, -1], [1, 1], [1, -1], [-1, 1], [-1, -1]]
def stepX (j : Nat) : Int := (stepsL.getD j []).getD 0 0
def stepY (j : Nat) : Int := (stepsL.getD j []).getD 1 0
theorem steps_rows : Rows_ 2 stepsL := fun f hf => by
  simp only [stepsL, List.mem_cons, List.not_mem_nil, or_false] at hf
  rcases hf with rfl | rfl | rfl | rfl | rfl | rfl | rfl | rfl <;> rfl
theorem step_at {j : Nat} (hj : j < 8) : stepsL[j]'hj = [stepX j, stepY j] := by
  have h : j = 0 ∨ j = 1 ∨ j = 2 ∨ j = 3 ∨ j = 4 ∨ j = 5 ∨ j = 6 ∨ j = 7 := by omega
  rcases h with rfl | rfl | rfl | rfl | rfl | rfl | rfl | rfl <;> rfl
theorem step_in (j : Nat) : -1 ≤ stepX j ∧ stepX j ≤ 1 ∧ -1 ≤ stepY j ∧ stepY j ≤ 1 := by
  by_cases hj : j < 8
  · have h : j = 0 ∨ j = 1 ∨ j = 2 ∨ j = 3 ∨ j = 4 ∨ j = 5 ∨ j = 6 ∨ j = 7 := by omega
    rcases h with rfl | rfl | rfl | rfl | rfl | rfl | rfl | rfl <;> decide
  · have e : stepsL.getD j [] = [] := by rw [List.getD_eq_getElem?_getD, List.getElem?_eq_none (by simp [stepsL]; omega)]; rfl
    rw [stepX, stepY, e]
    decide
def stepN (cn : Bool) : Nat := if cn then 8 else 4
theorem step_adj (cn : Bool) {j : Nat} (hj : j < stepN cn) : adjB cn (stepX j) (stepY j) = true := by
  cases cn
  · have hj : j < 4 := hj
    have h : j = 0 ∨ j = 1 ∨ j = 2 ∨ j = 3 := by omega
    rcases h with rfl | rfl | rfl | rfl <;> decide
  · have hj : j < 8 := hj
    have h : j = 0 ∨ j = 1 ∨ j = 2 ∨ j = 3 ∨ j = 4 ∨ j = 5 ∨ j = 6 ∨ j = 7 := by omega
    rcases h with rfl | rfl | rfl | rfl | rfl | rfl | rfl | rfl <;> decide
theorem adj_step {cn : Bool} {dx dy : Int} (h : adjB cn dx dy = true) : ∃ j, j < stepN cn ∧ stepX j = dx ∧ stepY j = dy := by
  have h1 := adj_in h
  have hx1 : dx = -1 ∨ dx = 0 ∨ dx = 1 := by omega
  have hy1 : dy = -1 ∨ dy = 0 ∨ dy = 1 := by omega
  clear h1
  rcases hx1 with rfl | rfl | rfl <;> rcases hy1 with rfl | rfl | rfl <;> cases cn <;> first
    | exact absurd h (by decide)
    | exact ⟨0, by decide, by decide, by decide⟩
    | exact ⟨1, by decide, by decide, by decide⟩
    | exact ⟨2, by decide, by decide, by decide⟩
    | exact ⟨3, by decide, by decide, by decide⟩
    | exact ⟨4, by decide, by decide, by decide⟩
    | exact ⟨5, by decide, by decide, by decide⟩
    | exact ⟨6, by decide, by decide, by decide⟩
    | exact ⟨7, by decide, by decide, by decide⟩
/-- whether the first neighbours are there -/
def inTo (H : Int → Int → Bool) (x y : Int) : Nat → Bool
  | 0 => true
  | j + 1 => inTo H x y j && H (x + stepX j) (y + stepY j)
theorem inTo_all (H : Int → Int → Bool) (x y : Int) : inTo H x y 4 = insideB H x y := by
  have e : inTo H x y 4 = ((((true && H (x + 1) (y + 0)) && H (x + -1) (y + 0)) && H (x + 0) (y + 1)) && H (x + 0) (y + -1)) := rfl
  rw [e, insideB, Int.add_zero, Int.add_zero]
  cases H (x + 1) y <;> cases H (x + -1) y <;> cases H x (y + 1) <;> cases H x (y + -1) <;> rfl
/-- as the program strikes the cells inside -/
structure EdgeI (l : List Bl) (k : Nat) (lo : List Bl) : Prop where
  tab : Tab lo
  few : lo.length ≤ l.length + k
  has : ∀ U V, hasB lo U V = (hasB l U V && !(decide ([U, V] ∈ (specC l).take k) && insideB (hasB l) U V))
theorem edgeI_zero {l : List Bl} (h : Pic l) : EdgeI l 0 l := ⟨Tab.of_pic h, Nat.le_refl _, fun U V => by rw [List.take_zero]; simp⟩
theorem edgeI_no {l : List Bl} {k : Nat} {lo : List Bl} (hk : k < (specC l).length) (h : EdgeI l k lo) {x y : Int} (hc : (specC l)[k] = [x, y]) (hi : insideB (hasB l) x y = false) : EdgeI l (k + 1) lo :=
  ⟨h.tab, by have := h.few; omega, fun U V => by
    rw [h.has]
    congr 2
    by_cases e : [U, V] = [x, y]
    · have e0 : U = x := by injection e
      have e1 : V = y := by injection e with _ e; injection e
      subst e0 e1
      rw [hi, Bool.and_false, Bool.and_false]
    · congr 1
      refine decide_eq_decide.2 ?_
      rw [take_mem_succ hk, hc]
      exact ⟨.inl, fun h => h.elim id (fun h => absurd h e)⟩⟩
theorem edgeI_yes {l : List Bl} {k : Nat} {lo : List Bl} (hk : k < (specC l).length) (h : EdgeI l k lo) {x y : Int} (hc : (specC l)[k] = [x, y]) (hi : insideB (hasB l) x y = true) : EdgeI l (k + 1) (strike lo x y) :=
  ⟨strike_tab h.tab x y, by have := strike_length lo x y; have := h.few; omega, fun U V => by
    rw [has_strike h.tab, h.has, Bool.and_assoc, ← Bool.not_or]
    congr 2
    by_cases e : [U, V] = [x, y]
    · have e0 : U = x := by injection e
      have e1 : V = y := by injection e with _ e; injection e
      subst e0 e1
      have : [U, V] ∈ (specC l).take (k + 1) := (take_mem_succ hk _).2 (.inr hc.symm)
      simp [this, hi]
    · have h1 : (decide (U = x) && decide (V = y)) = false := by
        rw [Bool.and_eq_false_iff, decide_eq_false_iff_not, decide_eq_false_iff_not]
        by_cases e1 : U = x
        · exact .inr fun e2 => e (by rw [e1, e2])
        · exact .inl e1
      rw [h1, Bool.or_false]
      congr 1
      refine decide_eq_decide.2 ?_
      rw [take_mem_succ hk, hc]
      exact ⟨.inl, fun h => h.elim id (fun h => absurd h e)⟩⟩
/-- at the end it has the edge -/
theorem edgeI_all {l lo : List Bl} (hl : Pic l) (h : EdgeI l (specC l).length lo) (U V : Int) : hasB lo U V = edgeB (hasB l) U V := by
  rw [h.has, List.take_length, edgeB]
  cases hx : hasB l U V
  · rfl
  · have : [U, V] ∈ specC l := (spec_mem hl.apart hl.bls _).2 ⟨rfl, hx⟩
    simp [this]
end Go.Proofs.Ytmagaapdijapiaa
