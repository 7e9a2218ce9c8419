/- Masks packed into bytes, and found again. No program in sight. -/
import Derived.Test.YtmagaapdijapiaaDoorRows
import Derived.Test.YtmagaapdijapiaaDoorTr
namespace Go.Proofs.YtmagaapdijapiaaDoor
open Go.ChangeShapes Go.WideShapes Go.ChangeAt Go.RowKit
def bitK (M : List Int) (k : Nat) : Bool := bitB M (k % 16) (k / 16)
/-- what has been told up to cell k: the bytes, where the run began, whether it is set -/
def pmTo (M : List Int) : Nat → List Int × Nat × Bool
  | 0 => ([], 0, false)
  | k + 1 => if bitK M k = (pmTo M k).2.2 then pmTo M k else ((pmTo M k).1 ++ [((k - (pmTo M k).2.1 : Nat) : Int)], k, !(pmTo M k).2.2)
def pmL (M : List Int) : List Int := (pmTo M 256).1
theorem pmTo_same {M : List Int} {k : Nat} (h : bitK M k = (pmTo M k).2.2) : pmTo M (k + 1) = pmTo M k := by rw [pmTo, if_pos h]
theorem pmTo_turn {M : List Int} {k : Nat} (h : ¬ bitK M k = (pmTo M k).2.2) : pmTo M (k + 1) = ((pmTo M k).1 ++ [((k - (pmTo M k).2.1 : Nat) : Int)], k, !(pmTo M k).2.2) := by rw [pmTo, if_neg h]
theorem pmTo_from (M : List Int) : ∀ k, (pmTo M k).2.1 ≤ k
  | 0 => Nat.le_refl _
  | k + 1 => by
    have := pmTo_from M k
    by_cases h : bitK M k = (pmTo M k).2.2
    · rw [pmTo_same h]; omega
    · rw [pmTo_turn h]; exact Nat.le_succ k
theorem pmTo_length (M : List Int) : ∀ k, (pmTo M k).1.length ≤ k
  | 0 => Nat.le_refl _
  | k + 1 => by
    have := pmTo_length M k
    by_cases h : bitK M k = (pmTo M k).2.2
    · rw [pmTo_same h]; omega
    · rw [pmTo_turn h, List.length_append, List.length_singleton]; omega
theorem pmTo_in (M : List Int) : ∀ k, k ≤ 256 → ∀ x ∈ (pmTo M k).1, 0 ≤ x ∧ x ≤ 255
  | 0, _ => fun x hx => by cases hx
  | k + 1, hk => fun x hx => by
    have ih := pmTo_in M k (by omega)
    by_cases h : bitK M k = (pmTo M k).2.2
    · rw [pmTo_same h] at hx; exact ih x hx
    · rw [pmTo_turn h] at hx
      rcases List.mem_append.1 hx with hx | hx
      · exact ih x hx
      · rw [List.mem_singleton] at hx
        subst hx
        omega
theorem pmL_length (M : List Int) : (pmL M).length ≤ 256 := pmTo_length M 256
theorem pmL_in (M : List Int) : ∀ x ∈ pmL M, 0 ≤ x ∧ x ≤ 255 := pmTo_in M 256 (Nat.le_refl _)
/-! ### the runs -/
def sumN (l : List Int) (k : Nat) : Nat := ((l.take k).map Int.toNat).sum
theorem sumN_zero (l : List Int) : sumN l 0 = 0 := rfl
theorem sumN_succ {l : List Int} {k : Nat} (h : k < l.length) : sumN l (k + 1) = sumN l k + (l[k]).toNat := by
  rw [sumN, List.take_succ_eq_append_getElem h, List.map_append, List.sum_append, sumN]
  simp
theorem sumN_mono (l : List Int) {i j : Nat} (h : i ≤ j) : sumN l i ≤ sumN l j := by
  induction j with
  | zero => rw [Nat.le_zero.1 h]; exact Nat.le_refl _
  | succ j ih =>
    by_cases e : i = j + 1
    · rw [e]; exact Nat.le_refl _
    · refine Nat.le_trans (ih (by omega)) ?_
      by_cases hj : j < l.length
      · rw [sumN_succ hj]; omega
      · rw [sumN, sumN, List.take_of_length_le (by omega), List.take_of_length_le (by omega)]; exact Nat.le_refl _
theorem sumN_append (a b : List Int) {k : Nat} (h : k ≤ a.length) : sumN (a ++ b) k = sumN a k := by rw [sumN, sumN, List.take_append_of_le_length h]
def oddB (n : Nat) : Bool := n % 2 == 1
theorem oddB_succ (n : Nat) : oddB (n + 1) = !oddB n := by
  have h : n % 2 = 0 ∨ n % 2 = 1 := by omega
  rcases h with h | h
  · rw [oddB, oddB, h, show (n + 1) % 2 = 1 by omega]; rfl
  · rw [oddB, oddB, h, show (n + 1) % 2 = 0 by omega]; rfl
structure Runs (M : List Int) (k : Nat) : Prop where
  sum : sumN (pmTo M k).1 (pmTo M k).1.length = (pmTo M k).2.1
  odd : (pmTo M k).2.2 = oddB (pmTo M k).1.length
  run : ∀ i, i < (pmTo M k).1.length → ∀ j, sumN (pmTo M k).1 i ≤ j → j < sumN (pmTo M k).1 (i + 1) → bitK M j = oddB i
  last : ∀ j, (pmTo M k).2.1 ≤ j → j < k → bitK M j = (pmTo M k).2.2
theorem runs_all (M : List Int) : ∀ k, Runs M k
  | 0 => ⟨rfl, rfl, fun i hi => by simp [pmTo] at hi, fun j _ h => by omega⟩
  | k + 1 => by
    have ih := runs_all M k
    have hf := pmTo_from M k
    by_cases h : bitK M k = (pmTo M k).2.2
    · have hs := pmTo_same h
      refine ⟨by rw [hs]; exact ih.sum, by rw [hs]; exact ih.odd, by rw [hs]; exact ih.run, fun j h1 h2 => ?_⟩
      rw [hs] at h1 ⊢
      by_cases e : j = k
      · rw [e]; exact h
      · exact ih.last j h1 (by omega)
    · have ht := pmTo_turn h
      obtain ⟨O, hO⟩ : ∃ O, O = (pmTo M k).1 := ⟨_, rfl⟩
      obtain ⟨f, hfe⟩ : ∃ f, f = (pmTo M k).2.1 := ⟨_, rfl⟩
      have isum := ih.sum
      have iodd := ih.odd
      have irun := ih.run
      have ilast := ih.last
      rw [← hO, ← hfe] at isum
      rw [← hO] at iodd irun
      rw [← hfe] at ilast hf
      rw [← hO, ← hfe] at ht
      have hl : (O ++ [((k - f : Nat) : Int)]).length = O.length + 1 := by rw [List.length_append]; rfl
      have hsl : sumN (O ++ [((k - f : Nat) : Int)]) (O.length + 1) = k := by
        rw [sumN_succ (by rw [hl]; exact Nat.lt_succ_self _), sumN_append _ _ (Nat.le_refl _), isum]
        simp
        omega
      refine ⟨?_, ?_, fun i hi j h1 h2 => ?_, fun j h1 h2 => ?_⟩
      · rw [ht, hl]; exact hsl
      · rw [ht]
        show (!(pmTo M k).2.2) = oddB (O ++ [((k - f : Nat) : Int)]).length
        rw [hl, oddB_succ, iodd]
      · rw [ht] at hi h1 h2
        rw [hl] at hi
        by_cases e : i = O.length
        · subst e
          rw [hsl] at h2
          rw [sumN_append _ _ (Nat.le_refl _), isum] at h1
          rw [ilast j h1 h2, iodd]
        · have hi2 : i < O.length := by omega
          rw [sumN_append _ _ (by omega)] at h1 h2
          exact irun i hi2 j h1 h2
      · rw [ht] at h1
        have h1 : k ≤ j := h1
        have e : j = k := by omega
        rw [e, ht]
        show bitK M k = !(pmTo M k).2.2
        cases hb : bitK M k <;> cases hc : (pmTo M k).2.2 <;> first | rfl | (rw [hb, hc] at h; exact absurd rfl h)
/-! ### found again -/
def setK (M : List Int) (k : Nat) : List Int := setOr M (k / 16) (k % 16)
theorem setK_length {M : List Int} (hM : M.length = 16) (k : Nat) : (setK M k).length = 16 := setOr_length hM _ _
theorem setK_16 {M : List Int} (h : is16 M) (k : Nat) : is16 (setK M k) := setOr_16 h _ _
theorem setK_bit {M : List Int} (hM : M.length = 16) (h16 : is16 M) {k : Nat} (hk : k < 256) (j : Nat) : bitK (setK M k) j = (bitK M j || decide (j = k)) := by
  rw [bitK, setK, setOr_bit hM h16 (by omega) (by omega), bitK]
  congr 1
  rw [Bool.eq_iff_iff, Bool.and_eq_true, decide_eq_true_iff, decide_eq_true_iff, decide_eq_true_iff]
  omega
def fillK (M : List Int) (a : Nat) : Nat → List Int
  | 0 => M
  | n + 1 => setK (fillK M a n) (a + n)
theorem fillK_ok {M : List Int} (hM : M.length = 16) (h16 : is16 M) (a : Nat) : ∀ n, (fillK M a n).length = 16 ∧ is16 (fillK M a n)
  | 0 => ⟨hM, h16⟩
  | n + 1 => ⟨setK_length (fillK_ok hM h16 a n).1 _, setK_16 (fillK_ok hM h16 a n).2 _⟩
theorem fillK_bit {M : List Int} (hM : M.length = 16) (h16 : is16 M) (a : Nat) (j : Nat) : ∀ n, a + n ≤ 256 → bitK (fillK M a n) j = (bitK M j || (decide (a ≤ j) && decide (j < a + n)))
  | 0, _ => by
    have : (decide (a ≤ j) && decide (j < a + 0)) = false := by
      rw [Bool.and_eq_false_iff, decide_eq_false_iff_not, decide_eq_false_iff_not]
      omega
    rw [fillK, this, Bool.or_false]
  | n + 1, h => by
    obtain ⟨h1, h2⟩ := fillK_ok hM h16 a n
    rw [fillK, setK_bit h1 h2 (by omega), fillK_bit hM h16 a j n (by omega), Bool.or_assoc]
    congr 1
    rw [Bool.eq_iff_iff]
    simp only [Bool.or_eq_true, Bool.and_eq_true, decide_eq_true_iff]
    omega
/-- where the first bytes lead -/
def atK (d : List Int) (k : Nat) : Nat := min 256 (sumN d k)
theorem atK_mono (d : List Int) (k : Nat) : atK d k ≤ atK d (k + 1) := by
  have : sumN d k ≤ sumN d (k + 1) := sumN_mono d (Nat.le_succ k)
  unfold atK
  omega
theorem atK_le (d : List Int) (k : Nat) : atK d k ≤ 256 := by unfold atK; omega
def decK (d : List Int) : Nat → List Int
  | 0 => zr16
  | k + 1 => if oddB k then fillK (decK d k) (atK d k) (atK d (k + 1) - atK d k) else decK d k
theorem decK_ok (d : List Int) : ∀ k, (decK d k).length = 16 ∧ is16 (decK d k)
  | 0 => ⟨rfl, zr16_16⟩
  | k + 1 => by
    have ih := decK_ok d k
    rw [decK]
    split
    · exact fillK_ok ih.1 ih.2 _ _
    · exact ih
/-- all bytes, and the cells behind -/
def decA (d : List Int) : List Int := if oddB d.length then fillK (decK d d.length) (atK d d.length) (256 - atK d d.length) else decK d d.length
theorem decA_ok (d : List Int) : (decA d).length = 16 ∧ is16 (decA d) := by
  have ih := decK_ok d d.length
  rw [decA]
  split
  · exact fillK_ok ih.1 ih.2 _ _
  · exact ih
theorem pmL_sum (M : List Int) : sumN (pmL M) (pmL M).length ≤ 256 := by
  have h := (runs_all M 256).sum
  have h2 := pmTo_from M 256
  rw [pmL]
  omega
theorem mask_extK {a b : List Int} (ha : a.length = 16) (hb : b.length = 16) (h1 : is16 a) (h2 : is16 b) (h : ∀ j, j < 256 → bitK a j = bitK b j) : a = b :=
  mask_ext ha hb h1 h2 fun x y hx hy => by
    have := h (16 * y + x) (by omega)
    rw [bitK, bitK, show (16 * y + x) % 16 = x by omega, show (16 * y + x) / 16 = y by omega] at this
    exact this
theorem decK_bit (M : List Int) : ∀ k, k ≤ (pmL M).length → ∀ j, j < 256 → bitK (decK (pmL M) k) j = (decide (j < sumN (pmL M) k) && bitK M j)
  | 0, _ => fun j hj => by
    rw [decK, sumN_zero, show decide (j < 0) = false by simp, Bool.false_and, bitK, zr16_bit]
  | k + 1, hk => fun j hj => by
    have ih := decK_bit M k (by omega) j hj
    have hr := (runs_all M 256).run k (by exact hk) j
    have hm : sumN (pmL M) k ≤ sumN (pmL M) (k + 1) := sumN_mono (pmL M) (Nat.le_succ k)
    have hs := pmL_sum M
    have hm2 := sumN_mono (pmL M) hk
    have hr : sumN (pmL M) k ≤ j → j < sumN (pmL M) (k + 1) → bitK M j = oddB k := hr
    obtain ⟨d1, d2⟩ := decK_ok (pmL M) k
    have e1 : atK (pmL M) k = sumN (pmL M) k := by unfold atK; omega
    have e2 : atK (pmL M) (k + 1) = sumN (pmL M) (k + 1) := by unfold atK; omega
    rw [decK, e1, e2]
    generalize sumN (pmL M) k = a at *
    generalize sumN (pmL M) (k + 1) = b at *
    by_cases h1 : j < a
    · have h2 : j < b := by omega
      rw [decide_eq_true h1, Bool.true_and] at ih
      rw [decide_eq_true h2, Bool.true_and]
      split
      · rw [fillK_bit d1 d2 _ _ _ (by omega), ih]
        have : (decide (a ≤ j) && decide (j < a + (b - a))) = false := by
          rw [Bool.and_eq_false_iff, decide_eq_false_iff_not, decide_eq_false_iff_not]
          omega
        rw [this, Bool.or_false]
      · exact ih
    · rw [decide_eq_false h1, Bool.false_and] at ih
      by_cases h2 : j < b
      · rw [decide_eq_true h2, Bool.true_and, hr (by omega) h2]
        split
        · rename_i ho
          rw [fillK_bit d1 d2 _ _ _ (by omega), ih, ho, decide_eq_true (show a ≤ j by omega), decide_eq_true (show j < a + (b - a) by omega)]
          rfl
        · rename_i ho
          rw [ih]
          cases hb : oddB k
          · rfl
          · exact absurd hb ho
      · rw [decide_eq_false h2, Bool.false_and]
        split
        · rw [fillK_bit d1 d2 _ _ _ (by omega), ih, decide_eq_false (show ¬ j < a + (b - a) by omega), Bool.and_false]
          rfl
        · exact ih
/-- what was packed is found again -/
theorem dec_pack {M : List Int} (hM : M.length = 16) (h16 : is16 M) : decA (pmL M) = M := by
  obtain ⟨a1, a2⟩ := decA_ok (pmL M)
  refine mask_extK a1 hM a2 h16 fun j hj => ?_
  have ih := decK_bit M (pmL M).length (Nat.le_refl _) j hj
  have R := runs_all M 256
  have hs : sumN (pmL M) (pmL M).length = (pmTo M 256).2.1 := R.sum
  have ho : (pmTo M 256).2.2 = oddB (pmL M).length := R.odd
  have hl := R.last j
  have h256 := pmL_sum M
  obtain ⟨d1, d2⟩ := decK_ok (pmL M) (pmL M).length
  have e1 : atK (pmL M) (pmL M).length = sumN (pmL M) (pmL M).length := by unfold atK; omega
  rw [← hs, ho] at hl
  rw [decA, e1]
  generalize sumN (pmL M) (pmL M).length = a at *
  by_cases h1 : j < a
  · rw [decide_eq_true h1, Bool.true_and] at ih
    split
    · rw [fillK_bit d1 d2 _ _ _ (by omega), ih]
      have : (decide (a ≤ j) && decide (j < a + (256 - a))) = false := by
        rw [Bool.and_eq_false_iff, decide_eq_false_iff_not, decide_eq_false_iff_not]
        omega
      rw [this, Bool.or_false]
    · exact ih
  · rw [decide_eq_false h1, Bool.false_and] at ih
    rw [hl (by omega) hj]
    split
    · rename_i hodd
      rw [fillK_bit d1 d2 _ _ _ (by omega), ih, hodd, decide_eq_true (show a ≤ j by omega), decide_eq_true (show j < a + (256 - a) by omega)]
      rfl
    · rename_i hodd
      rw [ih]
      cases hb : oddB (pmL M).length
      · rfl
      · exact absurd hb hodd
/-- what is told of bytes that may be those of a mask -/
def unM (d : List Int) : List Int := if pmL (decA d) = d then decA d else zr16
def unC (d : List Int) : Int := if pmL (decA d) = d then 0 else 5
theorem un_long {d : List Int} (h : 256 < sumN d d.length ∨ 256 < d.length) : pmL (decA d) ≠ d := fun e => by
  have h1 := pmL_sum (decA d)
  have h2 := pmL_length (decA d)
  rw [e] at h1 h2
  omega
end Go.Proofs.YtmagaapdijapiaaDoor
