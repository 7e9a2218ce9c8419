/- The picture with some cells; edges. No program in sight. -/
import Derived.Test.YtmagaapdijapiaaRows
import Derived.Test.YtmagaapdijapiaaTu
import Derived.Test.YtmagaapdijapiaaPb
namespace Go.Proofs.Ytmagaapdijapiaa
open Go.ChangeShapes Go.WideShapes Go.ChangeAt Go.RowKit
open Classical in
/-- the picture that has just some cells -/
noncomputable def picHas (E : Int → Int → Bool) : List Bl := if h : ∃ P, Pic P ∧ ∀ U V, hasB P U V = E U V then h.choose else []
theorem picHas_eq {E : Int → Int → Bool} {P : List Bl} (hP : Pic P) (h : ∀ U V, hasB P U V = E U V) : picHas E = P := by
  have hx : ∃ P, Pic P ∧ ∀ U V, hasB P U V = E U V := ⟨P, hP, h⟩
  rw [picHas, dif_pos hx]
  have hc := hx.choose_spec
  exact pic_has hc.1 hP fun U V => (hc.2 U V).trans (h U V).symm
theorem picHas_bls (E : Int → Int → Bool) : Bls (picHas E) := by
  rw [picHas]
  split
  · rename_i h
    exact h.choose_spec.1.bls
  · exact fun b hb => by cases hb
/-- of a table that has the cells of a picture the same comes -/
theorem picOf_has {E : Int → Int → Bool} {P lo : List Bl} (hP : Pic P) (h : ∀ U V, hasB P U V = E U V) (ht : Bls lo) (h16 : ∀ b ∈ lo, is16 b.2) (h2 : ∀ U V, hasB lo U V = E U V) : picOf (maskAt lo) = P :=
  picOf_eq hP (masks_of_has hP.bls ht hP.m16 h16 fun U V => (h U V).trans (h2 U V).symm)
theorem some_bit {M : List Int} (hM : M.length = 16) (h16 : is16 M) (hne : M ≠ zr16) : ∃ x y, x < 16 ∧ y < 16 ∧ bitB M x y = true := by
  by_cases h : ∃ x y, x < 16 ∧ y < 16 ∧ bitB M x y = true
  · exact h
  · refine absurd (mask_ext hM rfl h16 zr16_16 fun x y hx hy => ?_) hne
    rw [zr16_bit]
    cases hb : bitB M x y
    · rfl
    · exact absurd ⟨x, y, hx, hy, hb⟩ h
theorem keys_nodup {l : List Bl} (h : Apart l) : (l.map (·.1)).Nodup := by
  rw [List.Nodup, List.pairwise_map]
  exact h
/-- a picture within another has no more blocks -/
theorem pic_sub_length {P l : List Bl} (hP : Pic P) (_hl : Pic l) (h : ∀ U V, hasB P U V = true → hasB l U V = true) : P.length ≤ l.length := by
  have hsub : P.map (·.1) ⊆ l.map (·.1) := fun k hk => by
    obtain ⟨b, hb, rfl⟩ := List.mem_map.1 hk
    obtain ⟨x, y, hx, hy, hbit⟩ := some_bit (hP.bls b hb).2 (hP.m16 b hb) (hP.noVoid b hb)
    have h1 := has_of_mem hP.apart hb (hP.bls b hb).1 hx hy
    rw [hbit] at h1
    obtain ⟨b', hb', hk', _⟩ := has_mem (h _ _ h1)
    refine List.mem_map.2 ⟨b', hb', ?_⟩
    rw [hk', two_of (hP.bls b hb).1]
    simp only [List.getD_cons_zero, List.getD_cons_succ]
    congr 1
    · omega
    · congr 1
      omega
  have := List.Nodup.length_le_of_subset (keys_nodup hP.apart) hsub
  simpa using this
/-! ### edges -/
def insideB (H : Int → Int → Bool) (x y : Int) : Bool := H (x + 1) y && (H (x + -1) y && (H x (y + 1) && H x (y + -1)))
def edgeB (H : Int → Int → Bool) (x y : Int) : Bool := H x y && !insideB H x y
/-- what is told of the edge -/
noncomputable def edgL (l : List Bl) : List Bl := if vpB l then picHas (edgeB (hasB l)) else []
def edgK (l : List Bl) : Int := if vpB l then 0 else 1
theorem edgL_bls (l : List Bl) : Bls (edgL l) := by
  rw [edgL]
  split
  · exact picHas_bls _
  · exact fun b hb => by cases hb
/-- as the reference gathers it -/
def EdgeS (l : List Bl) (k : Nat) (L : List Bl) : Prop := Pic L ∧ L.length ≤ k ∧ ∀ U V, hasB L U V = (decide ([U, V] ∈ (specC l).take k) && !insideB (hasB l) U V)
theorem edgeS_zero (l : List Bl) : EdgeS l 0 [] := ⟨Pic.nil, Nat.le_refl _, fun U V => by rw [has_nil, List.take_zero]; simp⟩
theorem take_mem_succ {cs : List (List Int)} {k : Nat} (hk : k < cs.length) (c : List Int) : c ∈ cs.take (k + 1) ↔ c ∈ cs.take k ∨ c = cs[k] := by
  rw [List.take_succ_eq_append_getElem hk, List.mem_append, List.mem_singleton]
theorem edgeS_no {l : List Bl} {k : Nat} {L : List Bl} (hk : k < (specC l).length) (h : EdgeS l k L) {x y : Int} (hc : (specC l)[k] = [x, y]) (hi : insideB (hasB l) x y = true) : EdgeS l (k + 1) L :=
  ⟨h.1, by have := h.2.1; omega, fun U V => by
    rw [h.2.2]
    by_cases e : [U, V] = [x, y]
    · have e0 : U = x := by injection e
      have e1 : V = y := by injection e with _ e; injection e
      subst e0 e1
      rw [hi]
      simp
    · congr 1
      refine decide_eq_decide.2 ?_
      rw [take_mem_succ hk, hc]
      exact ⟨.inl, fun h => h.elim id (fun h => absurd h e)⟩⟩
theorem edgeS_yes {l : List Bl} {k : Nat} {L L' : List Bl} (hk : k < (specC l).length) (h : EdgeS l k L) {x y : Int} (hc : (specC l)[k] = [x, y]) (hi : insideB (hasB l) x y = false) (h2 : Pic L' ∧ L'.length ≤ L.length + 1 ∧ ∀ U V, hasB L' U V = (hasB L U V || (decide (U = x) && decide (V = y)))) : EdgeS l (k + 1) L' :=
  ⟨h2.1, by have := h2.2.1; have := h.2.1; omega, fun U V => by
    rw [h2.2.2, h.2.2]
    by_cases e : [U, V] = [x, y]
    · have e0 : U = x := by injection e
      have e1 : V = y := by injection e with _ e; injection e
      subst e0 e1
      rw [hi]
      have : [U, V] ∈ (specC l).take (k + 1) := (take_mem_succ hk _).2 (.inr hc.symm)
      simp [this]
    · have h1 : (decide (U = x) && decide (V = y)) = false := by
        rw [Bool.and_eq_false_iff, decide_eq_false_iff_not, decide_eq_false_iff_not]
        by_cases e1 : U = x
        · exact .inr fun e2 => e (by rw [e1, e2])
        · exact .inl e1
      rw [h1, Bool.or_false]
      congr 1
      refine decide_eq_decide.2 ?_
      rw [take_mem_succ hk, hc]
      exact ⟨.inl, fun h => h.elim id (fun h => absurd h e)⟩⟩
theorem edgeS_all {l L : List Bl} (hl : Pic l) (h : EdgeS l (specC l).length L) : picHas (edgeB (hasB l)) = L :=
  picHas_eq h.1 fun U V => by
    rw [h.2.2, List.take_length, edgeB]
    congr 1
    rw [Bool.eq_iff_iff, decide_eq_true_iff, spec_mem hl.apart hl.bls]
    exact ⟨fun h => h.2, fun h => ⟨rfl, h⟩⟩
end Go.Proofs.Ytmagaapdijapiaa
