/- Ya, Yc, Yf, Md, Mk, Ta, Tc, Sx, Cy, Cv, Ao, Pb, Yw in one text. -/
import Derived.Test.YtmagaapdijapiaaRows
import Derived.Test.YtmagaapdijapiaaKc1
import Derived.Test.YtmagaapdijapiaaFrB
import Derived.Test.YtmagaapdijapiaaPk
import Derived.Test.YtmagaapdijapiaaUb
import Derived.Test.YtmagaapdijapiaaVa
import Derived.Maps.RangeRun
import Derived.Deep.RegionWith
import Derived.Shelf.SlSortCmp.WholeK
import Derived.Test.YtmagaapdijapiaaLf
import Derived.Deep.RegionLaw
import Derived.Test.YtmagaapdijapiaaUe
namespace Go.Proofs.Ytmagaapdijapiaa
open Go.ChangeShapes Go.WideShapes Go.ChangeAt Go.RowKit
def bitK (M : List Int) (k : Nat) : Bool := bitB M (k % 16) (k / 16)
/-- what has been told up to cell k: the bytes, where the run began, whether it is set -/
def pmTo (M : List Int) : Nat → List Int × Nat × Bool
  | 0 => ([], 0, false)
  | k + 1 => if bitK M k = (pmTo M k).2.2 then pmTo M k else ((pmTo M k).1 ++ [((k - (pmTo M k).2.1 : Nat) : Int)], k, !(pmTo M k).2.2)
def pmL (M : List Int) : List Int := (pmTo M 256).1
theorem pmTo_same {M : List Int} {k : Nat} (h : bitK M k = (pmTo M k).2.2) : pmTo M (k + 1) = pmTo M k := by rw [pmTo, if_pos h]
theorem pmTo_turn {M : List Int} {k : Nat} (h : ¬ bitK M k = (pmTo M k).2.2) : pmTo M (k + 1) = ((pmTo M k).1 ++ [((k - (pmTo M k).2.1 : Nat) : Int)], k, !(pmTo M k).2.2) := by rw [pmTo, if_neg h]
theorem pmTo_from (M : List Int) : ∀ k, (pmTo M k).2.1 ≤ k
  | 0 => Nat.le_refl _
  | k + 1 => by
    have := pmTo_from M k
    by_cases h : bitK M k = (pmTo M k).2.2
    · rw [pmTo_same h]; omega
    · rw [pmTo_turn h]; exact Nat.le_succ k
theorem pmTo_length (M : List Int) : ∀ k, (pmTo M k).1.length ≤ k
  | 0 => Nat.le_refl _
  | k + 1 => by
    have := pmTo_length M k
    by_cases h : bitK M k = (pmTo M k).2.2
    · rw [pmTo_same h]; omega
    · rw [pmTo_turn h, List.length_append, List.length_singleton]; omega
theorem pmTo_in (M : List Int) : ∀ k, k ≤ 256 → ∀ x ∈ (pmTo M k).1, 0 ≤ x ∧ x ≤ 255
  | 0, _ => fun x hx => by cases hx
  | k + 1, hk => fun x hx => by
    have ih := pmTo_in M k (by omega)
    by_cases h : bitK M k = (pmTo M k).2.2
    · rw [pmTo_same h] at hx; exact ih x hx
    · rw [pmTo_turn h] at hx
      rcases List.mem_append.1 hx with hx | hx
      · exact ih x hx
      · rw [List.mem_singleton] at hx
        subst hx
        omega
theorem pmL_length (M : List Int) : (pmL M).length ≤ 256 := pmTo_length M 256
theorem pmL_in (M : List Int) : ∀ x ∈ pmL M, 0 ≤ x ∧ x ≤ 255 := pmTo_in M 256 (Nat.le_refl _)
/-! ### the runs -/
def sumN (l : List Int) (k : Nat) : Nat := ((l.take k).map Int.toNat).sum
theorem sumN_zero (l : List Int) : sumN l 0 = 0 := rfl
theorem sumN_succ {l : List Int} {k : Nat} (h : k < l.length) : sumN l (k + 1) = sumN l k + (l[k]).toNat := by
  rw [sumN, List.take_succ_eq_append_getElem h, List.map_append, List.sum_append, sumN]
  simp
theorem sumN_mono (l : List Int) {i j : Nat} (h : i ≤ j) : sumN l i ≤ sumN l j := by
  induction j with
  | zero => rw [Nat.le_zero.1 h]; exact Nat.le_refl _
  | succ j ih =>
    by_cases e : i = j + 1
    · rw [e]; exact Nat.le_refl _
    · refine Nat.le_trans (ih (by omega)) ?_
      by_cases hj : j < l.length
      · rw [sumN_succ hj]; omega
      · rw [sumN, sumN, List.take_of_length_le (by omega), List.take_of_length_le (by omega)]; exact Nat.le_refl _
theorem sumN_append (a b : List Int) {k : Nat} (h : k ≤ a.length) : sumN (a ++ b) k = sumN a k := by rw [sumN, sumN, List.take_append_of_le_length h]
def oddB (n : Nat) : Bool := n % 2 == 1
theorem oddB_succ (n : Nat) : oddB (n + 1) = !oddB n := by
  have h : n % 2 = 0 ∨ n % 2 = 1 := by omega
  rcases h with h | h
  · rw [oddB, oddB, h, show (n + 1) % 2 = 1 by omega]; rfl
  · rw [oddB, oddB, h, show (n + 1) % 2 = 0 by omega]; rfl
structure Runs (M : List Int) (k : Nat) : Prop where
  sum : sumN (pmTo M k).1 (pmTo M k).1.length = (pmTo M k).2.1
  odd : (pmTo M k).2.2 = oddB (pmTo M k).1.length
  run : ∀ i, i < (pmTo M k).1.length → ∀ j, sumN (pmTo M k).1 i ≤ j → j < sumN (pmTo M k).1 (i + 1) → bitK M j = oddB i
  last : ∀ j, (pmTo M k).2.1 ≤ j → j < k → bitK M j = (pmTo M k).2.2
theorem runs_all (M : List Int) : ∀ k, Runs M k
  | 0 => ⟨rfl, rfl, fun i hi => by simp [pmTo] at hi, fun j _ h => by omega⟩
  | k + 1 => by
    have ih := runs_all M k
    have hf := pmTo_from M k
    by_cases h : bitK M k = (pmTo M k).2.2
    · have hs := pmTo_same h
      refine ⟨by rw [hs]; exact ih.sum, by rw [hs]; exact ih.odd, by rw [hs]; exact ih.run, fun j h1 h2 => ?_⟩
      rw [hs] at h1 ⊢
      by_cases e : j = k
      · rw [e]; exact h
      · exact ih.last j h1 (by omega)
    · have ht := pmTo_turn h
      obtain ⟨O, hO⟩ : ∃ O, O = (pmTo M k).1 := ⟨_, rfl⟩
      obtain ⟨f, hfe⟩ : ∃ f, f = (pmTo M k).2.1 := ⟨_, rfl⟩
      have isum := ih.sum
      have iodd := ih.odd
      have irun := ih.run
      have ilast := ih.last
      rw [← hO, ← hfe] at isum
      rw [← hO] at iodd irun
      rw [← hfe] at ilast hf
      rw [← hO, ← hfe] at ht
      have hl : (O ++ [((k - f : Nat) : Int)]).length = O.length + 1 := by rw [List.length_append]; rfl
      have hsl : sumN (O ++ [((k - f : Nat) : Int)]) (O.length + 1) = k := by
        rw [sumN_succ (by rw [hl]; exact Nat.lt_succ_self _), sumN_append _ _ (Nat.le_refl _), isum]
        simp
        omega
      refine ⟨?_, ?_, fun i hi j h1 h2 => ?_, fun j h1 h2 => ?_⟩
      · rw [ht, hl]; exact hsl
      · rw [ht]
        show (!(pmTo M k).2.2) = oddB (O ++ [((k - f : Nat) : Int)]).length
        rw [hl, oddB_succ, iodd]
      · rw [ht] at hi h1 h2
        rw [hl] at hi
        by_cases e : i = O.length
        · subst e
          rw [hsl] at h2
          rw [sumN_append _ _ (Nat.le_refl _), isum] at h1
          rw [ilast j h1 h2, iodd]
        · have hi2 : i < O.length := by omega
          rw [sumN_append _ _ (by omega)] at h1 h2
          exact irun i hi2 j h1 h2
      · rw [ht] at h1
        have h1 : k ≤ j := h1
        have e : j = k := by omega
        rw [e, ht]
        show bitK M k = !(pmTo M k).2.2
        cases hb : bitK M k <;> cases hc : (pmTo M k).2.2 <;> first | rfl | (rw [hb, hc] at h; exact absurd rfl h)
/-! ### found again -/
def setK (M : List Int) (k : Nat) : List Int := setOr M (k / 16) (k % 16)
theorem setK_length {M : List Int} (hM : M.length = 16) (k : Nat) : (setK M k).length = 16 := setOr_length hM _ _
theorem setK_16 {M : List Int} (h : is16 M) (k : Nat) : is16 (setK M k) := setOr_16 h _ _
theorem setK_bit {M : List Int} (hM : M.length = 16) (h16 : is16 M) {k : Nat} (hk : k < 256) (j : Nat) : bitK (setK M k) j = (bitK M j || decide (j = k)) := by
  rw [bitK, setK, setOr_bit hM h16 (by omega) (by omega), bitK]
  congr 1
  rw [Bool.eq_iff_iff, Bool.and_eq_true, decide_eq_true_iff, decide_eq_true_iff, decide_eq_true_iff]
  omega
def fillK (M : List Int) (a : Nat) : Nat → List Int
  | 0 => M
  | n + 1 => setK (fillK M a n) (a + n)
theorem fillK_ok {M : List Int} (hM : M.length = 16) (h16 : is16 M) (a : Nat) : ∀ n, (fillK M a n).length = 16 ∧ is16 (fillK M a n)
  | 0 => ⟨hM, h16⟩
  | n + 1 => ⟨setK_length (fillK_ok hM h16 a n).1 _, setK_16 (fillK_ok hM h16 a n).2 _⟩
theorem fillK_bit {M : List Int} (hM : M.length = 16) (h16 : is16 M) (a : Nat) (j : Nat) : ∀ n, a + n ≤ 256 → bitK (fillK M a n) j = (bitK M j || (decide (a ≤ j) && decide (j < a + n)))
  | 0, _ => by
    have : (decide (a ≤ j) && decide (j < a + 0)) = false := by
      rw [Bool.and_eq_false_iff, decide_eq_false_iff_not, decide_eq_false_iff_not]
      omega
    rw [fillK, this, Bool.or_false]
  | n + 1, h => by
    obtain ⟨h1, h2⟩ := fillK_ok hM h16 a n
    rw [fillK, setK_bit h1 h2 (by omega), fillK_bit hM h16 a j n (by omega), Bool.or_assoc]
    congr 1
    rw [Bool.eq_iff_iff]
    simp only [Bool.or_eq_true, Bool.and_eq_true, decide_eq_true_iff]
    omega
/-- where the first bytes lead -/
def atK (d : List Int) (k : Nat) : Nat := min 256 (sumN d k)
theorem atK_mono (d : List Int) (k : Nat) : atK d k ≤ atK d (k + 1) := by
  have : sumN d k ≤ sumN d (k + 1) := sumN_mono d (Nat.le_succ k)
  unfold atK
  omega
theorem atK_le (d : List Int) (k : Nat) : atK d k ≤ 256 := by unfold atK; omega
def decK (d : List Int) : Nat → List Int
  | 0 => zr16
  | k + 1 => if oddB k then fillK (decK d k) (atK d k) (atK d (k + 1) - atK d k) else decK d k
theorem decK_ok (d : List Int) : ∀ k, (decK d k).length = 16 ∧ is16 (decK d k)
  | 0 => ⟨rfl, zr16_16⟩
  | k + 1 => by
    have ih := decK_ok d k
    rw [decK]
    split
    · exact fillK_ok ih.1 ih.2 _ _
    · exact ih
/-- all bytes, and the cells behind -/
def decA (d : List Int) : List Int := if oddB d.length then fillK (decK d d.length) (atK d d.length) (256 - atK d d.length) else decK d d.length
theorem decA_ok (d : List Int) : (decA d).length = 16 ∧ is16 (decA d) := by
  have ih := decK_ok d d.length
  rw [decA]
  split
  · exact fillK_ok ih.1 ih.2 _ _
  · exact ih
theorem pmL_sum (M : List Int) : sumN (pmL M) (pmL M).length ≤ 256 := by
  have h := (runs_all M 256).sum
  have h2 := pmTo_from M 256
  rw [pmL]
  omega
theorem mask_extK {a b : List Int} (ha : a.length = 16) (hb : b.length = 16) (h1 : is16 a) (h2 : is16 b) (h : ∀ j, j < 256 → bitK a j = bitK b j) : a = b :=
  mask_ext ha hb h1 h2 fun x y hx hy => by
    have := h (16 * y + x) (by omega)
    rw [bitK, bitK, show (16 * y + x) % 16 = x by omega, show (16 * y + x) / 16 = y by omega] at this
    exact this
theorem decK_bit (M : List Int) : ∀ k, k ≤ (pmL M).length → ∀ j, j < 256 → bitK (decK (pmL M) k) j = (decide (j < sumN (pmL M) k) && bitK M j)
  | 0, _ => fun j hj => by
    rw [decK, sumN_zero, show decide (j < 0) = false by simp, Bool.false_and, bitK, zr16_bit]
  | k + 1, hk => fun j hj => by
    have ih := decK_bit M k (by omega) j hj
    have hr := (runs_all M 256).run k (by exact hk) j
    have hm : sumN (pmL M) k ≤ sumN (pmL M) (k + 1) := sumN_mono (pmL M) (Nat.le_succ k)
    have hs := pmL_sum M
    have hm2 := sumN_mono (pmL M) hk
    have hr : sumN (pmL M) k ≤ j → j < sumN (pmL M) (k + 1) → bitK M j = oddB k := hr
    obtain ⟨d1, d2⟩ := decK_ok (pmL M) k
    have e1 : atK (pmL M) k = sumN (pmL M) k := by unfold atK; omega
    have e2 : atK (pmL M) (k + 1) = sumN (pmL M) (k + 1) := by unfold atK; omega
    rw [decK, e1, e2]
    generalize sumN (pmL M) k = a at *
    generalize sumN (pmL M) (k + 1) = b at *
    by_cases h1 : j < a
    · have h2 : j < b := by omega
      rw [decide_eq_true h1, Bool.true_and] at ih
      rw [decide_eq_true h2, Bool.true_and]
      split
      · rw [fillK_bit d1 d2 _ _ _ (by omega), ih]
        have : (decide (a ≤ j) && decide (j < a + (b - a))) = false := by
          rw [Bool.and_eq_false_iff, decide_eq_false_iff_not, decide_eq_false_iff_not]
          omega
        rw [this, Bool.or_false]
      · exact ih
    · rw [decide_eq_false h1, Bool.false_and] at ih
      by_cases h2 : j < b
      · rw [decide_eq_true h2, Bool.true_and, hr (by omega) h2]
        split
        · rename_i ho
          rw [fillK_bit d1 d2 _ _ _ (by omega), ih, ho, decide_eq_true (show a ≤ j by omega), decide_eq_true (show j < a + (b - a) by omega)]
          rfl
        · rename_i ho
          rw [ih]
          cases hb : oddB k
          · rfl
          · exact absurd hb ho
      · rw [decide_eq_false h2, Bool.false_and]
        split
        · rw [fillK_bit d1 d2 _ _ _ (by omega), ih, decide_eq_false (show ¬ j < a + (b - a) by omega), Bool.and_false]
          rfl
        · exact ih
/-- what was packed is found again -/
theorem dec_pack {M : List Int} (hM : M.length = 16) (h16 : is16 M) : decA (pmL M) = M := by
  obtain ⟨a1, a2⟩ := decA_ok (pmL M)
  refine mask_extK a1 hM a2 h16 fun j hj => ?_
  have ih := decK_bit M (pmL M).length (Nat.le_refl _) j hj
  have R := runs_all M 256
  have hs : sumN (pmL M) (pmL M).length = (pmTo M 256).2.1 := R.sum
  have ho : (pmTo M 256).2.2 = oddB (pmL M).length := R.odd
  have hl := R.last j
  have h256 := pmL_sum M
  obtain ⟨d1, d2⟩ := decK_ok (pmL M) (pmL M).length
  have e1 : atK (pmL M) (pmL M).length = sumN (pmL M) (pmL M).length := by unfold atK; omega
  rw [← hs, ho] at hl
  rw [decA, e1]
  generalize sumN (pmL M) (pmL M).length = a at *
  by_cases h1 : j < a
  · rw [decide_eq_true h1, Bool.true_and] at ih
    split
    · rw [fillK_bit d1 d2 _ _ _ (by omega), ih]
      have : (decide (a ≤ j) && decide (j < a + (256 - a))) = false := by
        rw [Bool.and_eq_false_iff, decide_eq_false_iff_not, decide_eq_false_iff_not]
        omega
      rw [this, Bool.or_false]
    · exact ih
  · rw [decide_eq_false h1, Bool.false_and] at ih
    rw [hl (by omega) hj]
    split
    · rename_i hodd
      rw [fillK_bit d1 d2 _ _ _ (by omega), ih, hodd, decide_eq_true (show a ≤ j by omega), decide_eq_true (show j < a + (256 - a) by omega)]
      rfl
    · rename_i hodd
      rw [ih]
      cases hb : oddB (pmL M).length
      · rfl
      · exact absurd hb hodd
/-- what is told of bytes that may be those of a mask -/
def unM (d : List Int) : List Int := if pmL (decA d) = d then decA d else zr16
def unC (d : List Int) : Int := if pmL (decA d) = d then 0 else 5
theorem un_long {d : List Int} (h : 256 < sumN d d.length ∨ 256 < d.length) : pmL (decA d) ≠ d := fun e => by
  have h1 := pmL_sum (decA d)
  have h2 := pmL_length (decA d)
  rw [e] at h1 h2
  omega
end Go.Proofs.Ytmagaapdijapiaa
namespace Go.Proofs.Ytmagaapdijapiaa
open Go.ChangeShapes Go.WideShapes Go.ChangeAt Go.RowKit
theorem pmL_255 (M : List Int) : is255 (pmL M) := pmL_in M
/-- the bytes of a block, of a picture -/
def blkD (b : Bl) : List Int := four (b.1.getD 0 0 % 4294967296) ++ four (b.1.getD 1 0 % 4294967296) ++ [((pmL b.2).length : Int) % 256] ++ pmL b.2
def picD (l : List Bl) : List Int := (l.map blkD).flatten
theorem blkD_length (b : Bl) : (blkD b).length = 9 + (pmL b.2).length := by
  rw [blkD, List.length_append, List.length_append, List.length_append]
  rfl
theorem blkD_le (b : Bl) : (blkD b).length ≤ 265 := by
  have := pmL_length b.2
  rw [blkD_length]
  omega
theorem picD_snoc {l : List Bl} {k : Nat} (h : k < l.length) : picD (l.take (k + 1)) = picD (l.take k) ++ blkD l[k] := by
  rw [picD, picD, List.take_succ_eq_append_getElem h, List.map_append, List.flatten_append]
  simp
theorem picD_le : ∀ l : List Bl, (picD l).length ≤ 265 * l.length
  | [] => by simp [picD]
  | b :: l => by
    have h1 := picD_le l
    have h2 := blkD_le b
    rw [picD] at h1 ⊢
    rw [List.map_cons, List.flatten_cons, List.length_append, List.length_cons]
    omega
theorem fourY_255 (n : Int) : is255 (four n) := fun x hx => by
  simp only [four, List.mem_cons, List.not_mem_nil, or_false] at hx
  omega
theorem picD_255 (l : List Bl) : is255 (picD l) := fun x hx => by
  obtain ⟨s, hs, hx⟩ := List.mem_flatten.1 hx
  obtain ⟨b, _, rfl⟩ := List.mem_map.1 hs
  rw [blkD] at hx
  rcases List.mem_append.1 hx with hx | hx
  · rcases List.mem_append.1 hx with hx | hx
    · rcases List.mem_append.1 hx with hx | hx
      · exact fourY_255 _ x hx
      · exact fourY_255 _ x hx
    · rw [List.mem_singleton] at hx
      omega
  · exact pmL_255 _ x hx
/-- the file of a picture -/
def pfF (l : List Bl) : List (List Int) := if vpB l = true ∧ (picD l).length ≤ 8192 then packOf 2 l.length (picD l) else []
def pfC (l : List Bl) : Int := if vpB l then (if (picD l).length ≤ 8192 then 0 else 3) else 1
theorem pfF_rows (l : List Bl) : Rows_ 16 (pfF l) := by
  unfold pfF
  split
  · exact packOf_rows _ _ _
  · intro f hf; cases hf
theorem pfF_length (l : List Bl) : (pfF l).length ≤ 700 := by
  unfold pfF
  split
  · rename_i h
    rw [packOf, packTo_length, packMany]
    omega
  · exact Nat.zero_le _
end Go.Proofs.Ytmagaapdijapiaa
namespace Go.Proofs.Ytmagaapdijapiaa
open Go.ChangeShapes Go.WideShapes Go.ChangeAt Go.RowKit
def szOf (d : List Int) (a : Nat) : Nat := if d.getD (a + 8) 0 = 0 then 256 else (d.getD (a + 8) 0).toNat
def partD (d : List Int) (a : Nat) : List Int := (d.drop (a + 9)).take (szOf d a)
def corD (d : List Int) (a : Nat) : List Int := [IntKind.i32.wrap (numAt d a), IntKind.i32.wrap (numAt d (a + 4))]
/-- whether a block can be read at a place -/
def okD (d : List Int) (a : Nat) : Bool := decide (a + 9 ≤ d.length) && (decide (a + 9 + szOf d a ≤ d.length) && (unC (partD d a) == 0))
def blkAtD (d : List Int) (a : Nat) : Bl := (corD d a, unM (partD d a))
/-- the blocks that are read, and where the next one begins -/
def rdTo (d : List Int) : Nat → Option (List Bl × Nat)
  | 0 => some ([], 0)
  | k + 1 => match rdTo d k with
    | none => none
    | some (out, a) => if okD d a then some (out ++ [blkAtD d a], a + 9 + szOf d a) else none
theorem rdTo_yes {d : List Int} {k : Nat} {out : List Bl} {a : Nat} (h : rdTo d k = some (out, a)) (ho : okD d a = true) : rdTo d (k + 1) = some (out ++ [blkAtD d a], a + 9 + szOf d a) := by
  rw [rdTo, h]
  simp [ho]
theorem rdTo_no {d : List Int} {k : Nat} {out : List Bl} {a : Nat} (h : rdTo d k = some (out, a)) (ho : okD d a = false) : rdTo d (k + 1) = none := by
  rw [rdTo, h]
  simp [ho]
theorem rdTo_none {d : List Int} {k n : Nat} (h : rdTo d k = none) (hk : k ≤ n) : rdTo d n = none := by
  induction n with
  | zero => rw [Nat.le_zero.1 hk] at h; exact h
  | succ n ih =>
    by_cases e : k = n + 1
    · rw [← e]; exact h
    · rw [rdTo, ih (by omega)]
theorem rdTo_in {d : List Int} : ∀ {k : Nat} {out : List Bl} {a : Nat}, rdTo d k = some (out, a) → out.length = k ∧ a ≤ d.length ∧ Bls out ∧ (∀ b ∈ out, is16 b.2) ∧ (∀ b ∈ out, ∀ x ∈ b.1, -2147483648 ≤ x ∧ x ≤ 2147483647)
  | 0, out, a, h => by
    rw [rdTo] at h
    cases h
    exact ⟨rfl, Nat.zero_le _, fun b hb => (nomatch hb), fun b hb => (nomatch hb), fun b hb => (nomatch hb)⟩
  | k + 1, out, a, h => by
    cases hp : rdTo d k with
    | none => rw [rdTo, hp] at h; cases h
    | some p =>
      obtain ⟨o, q⟩ := p
      obtain ⟨i1, i2, i3, i4, i5⟩ := rdTo_in hp
      cases ho : okD d q
      · rw [rdTo_no hp ho] at h; cases h
      · rw [rdTo_yes hp ho] at h
        cases h
        rw [okD, Bool.and_eq_true, Bool.and_eq_true, decide_eq_true_iff, decide_eq_true_iff] at ho
        have hm : (unM (partD d q)).length = 16 ∧ is16 (unM (partD d q)) := by
          rw [unM]
          split
          · exact decA_ok _
          · exact ⟨rfl, zr16_16⟩
        refine ⟨by rw [List.length_append, i1]; rfl, by omega, fun b hb => ?_, fun b hb => ?_, fun b hb => ?_⟩
        · rcases List.mem_append.1 hb with hb | hb
          · exact i3 b hb
          · rw [List.mem_singleton] at hb; subst hb; exact ⟨rfl, hm.1⟩
        · rcases List.mem_append.1 hb with hb | hb
          · exact i4 b hb
          · rw [List.mem_singleton] at hb; subst hb; exact hm.2
        · rcases List.mem_append.1 hb with hb | hb
          · exact i5 b hb
          · rw [List.mem_singleton] at hb
            subst hb
            intro x hx
            have hw : ∀ z : Int, -2147483648 ≤ IntKind.i32.wrap z ∧ IntKind.i32.wrap z ≤ 2147483647 := fun z => by
              rw [IntKind.wrap_i32]
              omega
            simp only [blkAtD, corD, List.mem_cons, List.not_mem_nil, or_false] at hx
            rcases hx with rfl | rfl
            · exact hw _
            · exact hw _
/-- what is told of a file -/
def rpX (l : List (List Int)) : Option (List Bl) := if opCode l = 0 ∧ opKind l = 2 then (match rdTo (opData l) (opCount l).toNat with
    | none => none
    | some (out, _) => if vpB out && (picD out == opData l) then some out else none) else none
def rpL (l : List (List Int)) : List Bl := (rpX l).getD []
def rpC (l : List (List Int)) : Int := if opCode l = 0 then (match rpX l with
    | none => 5
    | some _ => 0) else opCode l
theorem op_pack {l : List (List Int)} (h : opCode l = 0) : packOf (opKind l) (opCount l) (opData l) = l ∧ (opData l).length ≤ 8192 ∧ packOk (opKind l) (opCount l) = true := by
  rw [opKind, opCount, opData, if_pos h, if_pos h, if_pos h]
  have hg : opGood l = true := by
    unfold opCode at h
    split at h
    · split at h
      · split at h
        · cases h
        · split at h
          · assumption
          · cases h
      · cases h
    · cases h
  unfold opGood at hg
  simp only [Bool.and_eq_true, decide_eq_true_iff, beq_iff_eq] at hg
  obtain ⟨_, h1, h2, h3, h4⟩ := hg
  refine ⟨h4, ?_, h1⟩
  rw [List.length_take]
  omega
/-- the file of what is read is the file, just if its data are the data -/
theorem again_iff {l : List (List Int)} (h : opCode l = 0) (hk : opKind l = 2) {out : List Bl} (hn : opCount l = out.length) (hv : vpB out = true) : (pfC out = 0 ∧ pfF out = l) ↔ picD out = opData l := by
  obtain ⟨h1, h2, h3⟩ := op_pack h
  rw [packOk, Bool.and_eq_true] at h3
  have h256 : out.length ≤ 256 := by
    have := h3.2
    rw [hn, inB, Bool.and_eq_true, decide_eq_true_iff, decide_eq_true_iff] at this
    omega
  constructor
  · rintro ⟨c1, c2⟩
    have hlen : (picD out).length ≤ 8192 := by
      rw [pfC, hv, if_pos rfl] at c1
      split at c1
      · assumption
      · cases c1
    have := (packOf_opens (kd := 2) (cn := out.length) (d := picD out) ⟨by omega, by omega⟩ ⟨by omega, by omega⟩ hlen).2.2.2
    rw [pfF, if_pos ⟨hv, hlen⟩] at c2
    rw [c2] at this
    exact this.symm
  · intro e
    rw [← e] at h1 h2
    rw [hk, hn] at h1
    refine ⟨by rw [pfC, hv, if_pos rfl, if_pos h2], by rw [pfF, if_pos ⟨hv, h2⟩]; exact h1⟩
end Go.Proofs.Ytmagaapdijapiaa
namespace Go.Proofs.Ytmagaapdijapiaa
open Go.ChangeShapes Go.WideShapes Go.ChangeAt Go.RowKit
/-- a mask is put at a corner -/
def putB : List Bl → List Int → List Int → List Bl
  | [], key, M => [(key, M)]
  | b :: r, key, M => if key == b.1 then (b.1, M) :: r else b :: putB r key M
theorem putB_mask (key M k2 : List Int) : ∀ l : List Bl, maskAt (putB l key M) k2 = if k2 = key then M else maskAt l k2
  | [] => by rw [putB, maskAt_cons]
  | b :: r => by
    rw [putB]
    cases h : key == b.1
    · have hne : key ≠ b.1 := beq_eq_false_iff_ne.1 h
      simp only [Bool.false_eq_true, if_false]
      rw [maskAt_cons, maskAt_cons, putB_mask key M k2 r]
      by_cases e : k2 = b.1
      · rw [if_pos e, if_pos e, if_neg (fun e2 => hne (e2.symm.trans e))]
      · rw [if_neg e, if_neg e]
    · have he : key = b.1 := beq_iff_eq.1 h
      simp only [if_true]
      rw [maskAt_cons, maskAt_cons, ← he]
      split <;> rfl
theorem mem_putB {key M : List Int} {c : Bl} : ∀ {l : List Bl}, c ∈ putB l key M → c ∈ l ∨ c = (key, M)
  | [], h => by rw [putB, List.mem_singleton] at h; exact .inr h
  | b :: r, h => by
    rw [putB] at h
    split at h
    · rename_i he
      have he := beq_iff_eq.1 he
      rcases List.mem_cons.1 h with rfl | h
      · exact .inr (by rw [he])
      · exact .inl (List.mem_cons_of_mem _ h)
    · rcases List.mem_cons.1 h with rfl | h
      · exact .inl (List.mem_cons_self ..)
      · rcases mem_putB h with h | h
        · exact .inl (List.mem_cons_of_mem _ h)
        · exact .inr h
theorem putB_apart {key M : List Int} : ∀ {l : List Bl}, Apart l → Apart (putB l key M)
  | [], _ => by rw [putB]; exact List.pairwise_singleton _ _
  | b :: r, h => by
    have h1 := List.pairwise_cons.1 h
    rw [putB]
    split
    · exact List.pairwise_cons.2 ⟨h1.1, h1.2⟩
    · rename_i hne
      refine List.pairwise_cons.2 ⟨fun c hc => ?_, putB_apart h1.2⟩
      rcases mem_putB hc with hc | rfl
      · exact h1.1 c hc
      · exact fun e => hne (beq_iff_eq.2 e.symm)
theorem putB_length (key M : List Int) : ∀ l : List Bl, (putB l key M).length ≤ l.length + 1
  | [] => by simp [putB]
  | b :: r => by
    have := putB_length key M r
    rw [putB]
    split <;> simp <;> omega
/-- what is asked of a table of masks -/
structure Tab (l : List Bl) : Prop where
  bls : Bls l
  m16 : ∀ b ∈ l, is16 b.2
  apart : Apart l
theorem Tab.nil : Tab [] := ⟨fun b hb => (by cases hb), fun b hb => (by cases hb), List.Pairwise.nil⟩
theorem Tab.put {l : List Bl} (h : Tab l) {key M : List Int} (hk : key.length = 2) (hM : M.length = 16) (h16 : is16 M) : Tab (putB l key M) :=
  ⟨fun b hb => by
    rcases mem_putB hb with hb | rfl
    · exact h.bls b hb
    · exact ⟨hk, hM⟩, fun b hb => by
    rcases mem_putB hb with hb | rfl
    · exact h.m16 b hb
    · exact h16, putB_apart h.apart⟩
theorem Tab.of_pic {l : List Bl} (h : Pic l) : Tab l := ⟨h.bls, h.m16, h.apart⟩
theorem Tab.mask {l : List Bl} (h : Tab l) (k : List Int) : (maskAt l k).length = 16 ∧ is16 (maskAt l k) := maskAt_ok h.bls h.m16 k
theorem ents_length : ∀ (l : List Bl) (j : Nat), (ents l j).length = l.length
  | [], _ => rfl
  | b :: r, j => by rw [ents, List.length_cons, List.length_cons, ents_length r (j + 1)]
theorem ents_get : ∀ (l : List Bl) (j i : Nat) (h : i < l.length), (ents l j)[i]? = some ⟨.agg (ivs .i32 l[i].1), .agg (ivs .u16 l[i].2), j + i⟩
  | b :: r, j, 0, _ => rfl
  | b :: r, j, i + 1, h => by
    rw [ents, List.getElem?_cons_succ, ents_get r (j + 1) i (by simpa using h)]
    simp only [List.getElem_cons_succ]
    rw [show j + 1 + i = j + (i + 1) by omega]
theorem ents_put (key M : List Int) : ∀ (l : List Bl) (i j : Nat),
    (findB key l i = none ∧ ents (putB l key M) j = ents l j ++ [⟨.agg (ivs .i32 key), .agg (ivs .u16 M), j + l.length⟩] ∧ (putB l key M).length = l.length + 1) ∨
    ∃ q v, findB key l i = some (i + q, v) ∧ ((ents l j)[q]?).map (·.key) = some (.agg (ivs .i32 key)) ∧ ents (putB l key M) j = (ents l j).modify q (fun e => { e with key := .agg (ivs .i32 key), val := .agg (ivs .u16 M) }) ∧ (putB l key M).length = l.length
  | [], i, j => .inl ⟨rfl, rfl, rfl⟩
  | b :: r, i, j => by
    rw [findB, putB]
    cases h : key == b.1
    · simp only [Bool.false_eq_true, if_false]
      rcases ents_put key M r (i + 1) (j + 1) with ⟨h1, h2, h3⟩ | ⟨q, v, h1, h2, h3, h4⟩
      · refine .inl ⟨h1, ?_, by rw [List.length_cons, h3, List.length_cons]⟩
        rw [ents, h2, ents, List.cons_append, List.length_cons, show j + 1 + r.length = j + (r.length + 1) by omega]
      · refine .inr ⟨q + 1, v, by rw [h1, show i + 1 + q = i + (q + 1) by omega], by rw [ents, List.getElem?_cons_succ]; exact h2, ?_, by rw [List.length_cons, h4, List.length_cons]⟩
        rw [ents, h3, ents, List.modify_succ_cons]
    · have he : key = b.1 := beq_iff_eq.1 h
      simp only [if_true]
      refine .inr ⟨0, _, rfl, by rw [he]; rfl, ?_, by rw [List.length_cons, List.length_cons]⟩
      rw [ents, ents, List.modify_zero_cons, he]
theorem run_keyStays (a : List Int) (ha : a.length = 2) (W : World) : (Instr.keyThatStays (.agg (ivs .i32 a)) (.agg (ivs .i32 a))).run Try.prog W = .ok (.agg (ivs .i32 a)) W := by
  obtain ⟨x, y, rfl⟩ : ∃ x y, a = [x, y] := by
    match a, ha with
    | [x, y], _ => exact ⟨x, y, rfl⟩
  have hs : Instr.sameBits 10000 (.agg (ivs .i32 [x, y])) (.agg (ivs .i32 [x, y])) = true := by
    simp [ivs, Instr.sameBits]
  rw [Instr.keyThatStays, if_pos hs]
  rfl
theorem run_putAny (g : Nat) (l : List Bl) (hl : Bls l) (x y : Int) (M : List Int) (W : World) (h : W.heap[g]? = some (.map (ents l 0).toArray l.length)) :
    (Instr.mapUpdate 124 (.map (some g)) (.agg #[.int .i32 x, .int .i32 y]) (.agg (ivs .u16 M))).run Try.prog W = .ok () (ChangeMaps.setBlock W g (.map (ents (putB l [x, y] M) 0).toArray (putB l [x, y] M).length)) := by
  have hf := run_findKey [x, y] rfl l 0 hl W
  have hck : (Instr.checkKey false 10000 63 (.agg #[.int .i32 x, .int .i32 y])).run Try.prog W = .ok () W := run_checkCorner false x y W
  have hks := run_keyStays [x, y] rfl W
  have hf' : (Instr.findKey 63 (.agg #[.int .i32 x, .int .i32 y]) (ents l 0)).run Try.prog W = .ok (findB [x, y] l 0) W := hf
  have hks' : (Instr.keyThatStays (.agg (ivs .i32 [x, y])) (.agg #[.int .i32 x, .int .i32 y])).run Try.prog W = .ok (.agg (ivs .i32 [x, y])) W := hks
  rcases ents_put [x, y] M l 0 0 with ⟨h1, h2, h3⟩ | ⟨q, v, h1, h2, h3, h4⟩
  · rw [h1] at hf'
    have he : (ents (putB l [x, y] M) 0).toArray = (ents l 0).toArray.push ⟨.agg #[.int .i32 x, .int .i32 y], .agg (ivs .u16 M), l.length⟩ := by
      rw [h2, Nat.zero_add]
      simp
      rfl
    rw [he, h3]
    simp [Instr.mapUpdate, run_underlying Try.underlying124 W, MapKept.run_getObj_map h, hck, hf', MapKept.run_setObj_map _ h, Result.andThen, ChangeMaps.setBlock]
  · rw [h1, Nat.zero_add] at hf'
    have he : (ents (putB l [x, y] M) 0).toArray = (ents l 0).toArray.modify q (fun e => { e with key := .agg (ivs .i32 [x, y]), val := .agg (ivs .u16 M) }) := by
      rw [h3]
      simp
    rw [he, h4]
    obtain ⟨en, hen, hke⟩ : ∃ en, (ents l 0)[q]? = some en ∧ en.key = .agg (ivs .i32 [x, y]) := by
      cases hq : (ents l 0)[q]? with
      | none => rw [hq] at h2; cases h2
      | some en => rw [hq] at h2; simp only [Option.map_some, Option.some.injEq] at h2; exact ⟨en, rfl, h2⟩
    simp [Instr.mapUpdate, run_underlying Try.underlying124 W, MapKept.run_getObj_map h, hck, hf', hen, hke, hks', MapKept.run_setObj_map _ h, Result.andThen, ChangeMaps.setBlock]
/-! ### ranged over -/
/-- block r is an iterator over the map in block g, of n entries; those whose numbers are listed have been handed out -/
def ItAt (w : World) (r g n : Nat) (seen : List Nat) : Prop := ∃ c0, n ≤ c0 ∧ w.heap[r]? = some (.mapIter (some g) n seen.toArray c0) ∧ seen.Nodup ∧ ∀ i ∈ seen, i < n
theorem ents_mem {l : List Bl} {x : MapEntry} (h : x ∈ ents l 0) : ∃ i, ∃ hi : i < l.length, x = ⟨.agg (ivs .i32 l[i].1), .agg (ivs .u16 l[i].2), i⟩ := by
  obtain ⟨i, hi, rfl⟩ := List.getElem_of_mem h
  rw [ents_length] at hi
  refine ⟨i, hi, ?_⟩
  have := ents_get l 0 i hi
  rw [Nat.zero_add, List.getElem?_eq_getElem (by rw [ents_length]; exact hi)] at this
  simpa using this
theorem ents_at {l : List Bl} {i : Nat} (hi : i < l.length) : (⟨.agg (ivs .i32 l[i].1), .agg (ivs .u16 l[i].2), i⟩ : MapEntry) ∈ ents l 0 := by
  have := ents_get l 0 i hi
  rw [Nat.zero_add] at this
  exact List.mem_of_getElem? this
theorem ents_born (l : List Bl) : ∀ j, (ents l j).map (·.born) = List.range' j l.length := by
  induction l with
  | nil => intro j; rfl
  | cons b r ih => intro j; rw [ents, List.map_cons, ih (j + 1), List.length_cons, List.range'_succ]
theorem nodup_full {n : Nat} {seen : List Nat} (hn : seen.Nodup) (hlt : ∀ i ∈ seen, i < n) (hall : ∀ i, i < n → i ∈ seen) : seen.Perm (List.range n) :=
  (List.perm_ext_iff_of_nodup hn List.nodup_range).2 fun i => ⟨fun h => List.mem_range.2 (hlt i h), fun h => hall i (List.mem_range.1 h)⟩
theorem next_blocks (l : List Bl) (W : World) (ty : TypeId) (r g : Nat) (seen : List Nat) (hm : W.heap[g]? = some (.map (ents l 0).toArray l.length)) (hi : ItAt W r g l.length seen) :
    (seen.Perm (List.range l.length) ∧ (Instr.next (.pointer (some ⟨r, 0, none⟩)) false ty).run Try.prog W = .ok (.tuple #[.bool false]) W) ∨
    ∃ i, ∃ h : i < l.length, i ∉ seen ∧ ∃ w1, (w1 = W ∨ w1 = W.drew) ∧ (Instr.next (.pointer (some ⟨r, 0, none⟩)) false ty).run Try.prog W = .ok (.tuple #[.bool true, .agg (ivs .i32 l[i].1), .agg (ivs .u16 l[i].2)]) (ChangeMaps.setBlock w1 r (.mapIter (some g) l.length (seen ++ [i]).toArray l.length)) := by
  obtain ⟨c0, hc, hr, hnd, hlt⟩ := hi
  rcases run_next_at (P := Try.prog) W ty r g l.length c0 seen.toArray (ents l 0).toArray l.length hr hm (fun x hx => by
    obtain ⟨i, hi, rfl⟩ := ents_mem (by simpa using hx)
    exact hi) hc with ⟨h1, h2⟩ | ⟨e, he, w1, h1, h2⟩
  · refine .inl ⟨nodup_full hnd hlt fun i hi => ?_, h2⟩
    have h3 : leftOf (ents l 0).toArray seen.toArray = #[] := Array.eq_empty_of_size_eq_zero h1
    rw [leftOf, Array.filter_eq_empty_iff] at h3
    have h4 := h3 _ (List.mem_toArray.2 (ents_at hi))
    simpa using h4
  · rw [leftOf, Array.toList_filter, List.mem_filter] at he
    obtain ⟨i, hi, rfl⟩ := ents_mem (by simpa using he.1)
    refine .inr ⟨i, hi, by simpa using he.2, w1, h1, ?_⟩
    rw [h2]
    simp
theorem entry_blocks (l : List Bl) (W : World) (r g : Nat) (seen : List Nat) {i : Nat} (hi : i < l.length) (hm : W.heap[g]? = some (.map (ents l 0).toArray l.length)) (hr : W.heap[r]? = some (.mapIter (some g) l.length (seen ++ [i]).toArray l.length)) :
    (Instr.entry (.pointer (some ⟨r, 0, none⟩))).run Try.prog W = .ok (.tuple #[.agg (ivs .i32 l[i].1), .agg (ivs .u16 l[i].2)]) W := by
  refine run_entry_at (P := Try.prog) W r g l.length seen.toArray (ents l 0).toArray l.length ⟨.agg (ivs .i32 l[i].1), .agg (ivs .u16 l[i].2), i⟩ (by rw [hr]; simp) hm (by simpa using ents_at hi) ?_
  rw [ents_born]
  exact List.nodup_range'
theorem ItAt.step {w : World} {r g n : Nat} {seen : List Nat} {i : Nat} (h : ItAt w r g n seen) (hi : i < n) (hs : i ∉ seen) {w' : World} (hr : w'.heap[r]? = some (.mapIter (some g) n (seen ++ [i]).toArray n)) : ItAt w' r g n (seen ++ [i]) := by
  obtain ⟨c0, hc, _, hnd, hlt⟩ := h
  refine ⟨n, Nat.le_refl _, hr, ?_, fun j hj => ?_⟩
  · rw [List.nodup_append]
    refine ⟨hnd, List.nodup_cons.2 ⟨by simp, List.nodup_nil⟩, fun a ha b hb => ?_⟩
    rw [List.mem_singleton] at hb
    subst hb
    exact fun e => hs (e ▸ ha)
  · rcases List.mem_append.1 hj with hj | hj
    · exact hlt j hj
    · rw [List.mem_singleton] at hj
      omega
theorem ItAt.start {w : World} {r g n : Nat} (h : w.heap[r]? = some (.mapIter (some g) n #[] n)) : ItAt w r g n [] := ⟨n, Nat.le_refl _, h, List.nodup_nil, fun i hi => (by cases hi)⟩
theorem ItAt.keep {w w' : World} {r g n : Nat} {seen : List Nat} (h : ItAt w r g n seen) (hr : w'.heap[r]? = w.heap[r]?) : ItAt w' r g n seen := by
  obtain ⟨c0, hc, h1, h2⟩ := h
  exact ⟨c0, hc, hr.trans h1, h2⟩
theorem ItAt.bound {w : World} {r g n : Nat} {seen : List Nat} (h : ItAt w r g n seen) : seen.length ≤ n := by
  obtain ⟨c0, hc, h1, h2, h3⟩ := h
  have := List.Nodup.length_le_of_subset h2 (l₂ := List.range n) (fun i hi => List.mem_range.2 (h3 i hi))
  rwa [List.length_range] at this
theorem ItAt.lt {w : World} {r g n : Nat} {seen : List Nat} (h : ItAt w r g n seen) : r < w.heap.size := by
  obtain ⟨c0, hc, h1, h2⟩ := h
  rcases Nat.lt_or_ge r w.heap.size with h | h
  · exact h
  · rw [Array.getElem?_eq_none h] at h1; cases h1
/-- how many have been handed out, read off the world: for measures -/
theorem iterSeen_of {w : World} {r g n c : Nat} {s : Array Nat} (h : w.heap[r]? = some (.mapIter (some g) n s c)) : w.iterSeen r = s := by
  unfold World.iterSeen
  rw [h]
theorem ItAt.seen_eq {w : World} {r g n : Nat} {seen : List Nat} (h : ItAt w r g n seen) : (w.iterSeen r).size = seen.length := by
  obtain ⟨c0, hc, h1, h2⟩ := h
  rw [iterSeen_of h1]
  simp
/-- the blocks that have been handed out -/
def seenL (l : List Bl) (seen : List Nat) : List Bl := seen.map fun i => l.getD i ([], [])
theorem seenL_snoc (l : List Bl) (seen : List Nat) {i : Nat} (hi : i < l.length) : seenL l (seen ++ [i]) = seenL l seen ++ [l[i]] := by
  rw [seenL, List.map_append, seenL]
  simp [List.getElem?_eq_getElem hi]
theorem seenL_all {l : List Bl} {seen : List Nat} (h : seen.Perm (List.range l.length)) : (seenL l seen).Perm l := by
  have h1 : (seenL l seen).Perm ((List.range l.length).map fun i => l.getD i ([], [])) := h.map _
  have h2 : ((List.range l.length).map fun i => l.getD i ([], [])) = l := by
    apply List.ext_getElem (by simp)
    intro i h1 h2
    simp [List.getElem?_eq_getElem h2]
  rwa [h2] at h1
theorem seenL_mem {l : List Bl} {seen : List Nat} (h : ∀ i ∈ seen, i < l.length) {b : Bl} (hb : b ∈ seenL l seen) : b ∈ l := by
  obtain ⟨i, hi, rfl⟩ := List.mem_map.1 hb
  have := h i hi
  simp [List.getElem?_eq_getElem this]
end Go.Proofs.Ytmagaapdijapiaa
namespace Go.Proofs.Ytmagaapdijapiaa
open Go.ChangeShapes Go.WideShapes Go.ChangeAt Go.RowKit
/-- the first rows are those of c -/
def partM (c a : List Int) (y : Nat) : List Int := c.take y ++ a.drop y
theorem partM_zero (c a : List Int) : partM c a 0 = a := rfl
theorem partM_length {c a : List Int} (h : c.length = a.length) (y : Nat) : (partM c a y).length = a.length := by
  rw [partM, List.length_append, List.length_take, List.length_drop]
  omega
theorem partM_all {c a : List Int} {y : Nat} (h : c.length = a.length) (hy : y = a.length) : partM c a y = c := by
  rw [partM, List.drop_eq_nil_of_le (by omega), List.take_of_length_le (by omega), List.append_nil]
theorem partM_at {c a : List Int} (h : c.length = a.length) {y : Nat} (hy : y < a.length) : (partM c a y)[y]'(by rw [partM_length h]; exact hy) = a[y] := by
  have hl : (c.take y).length = y := by rw [List.length_take]; omega
  simp only [partM]
  rw [List.getElem_append_right (by omega), List.getElem_drop]
  congr 1
  omega
theorem partM_set {c a : List Int} (h : c.length = a.length) {y : Nat} (hy : y < a.length) : (partM c a y).set y (c[y]'(by omega)) = partM c a (y + 1) := by
  have hl : (c.take y).length = y := by rw [List.length_take]; omega
  rw [partM, List.set_append_right _ _ (by omega), hl, Nat.sub_self, List.drop_eq_getElem_cons hy, List.set_cons_zero, partM, List.take_succ_eq_append_getElem (by omega), List.append_assoc]
  rfl
theorem partM_getD {c a : List Int} (h : c.length = a.length) {y : Nat} (hy : y < a.length) : (partM c a y).getD y 0 = a.getD y 0 := by
  rw [List.getD_eq_getElem?_getD, List.getElem?_eq_getElem (by rw [partM_length h]; exact hy), partM_at h hy, List.getD_eq_getElem?_getD, List.getElem?_eq_getElem hy]
theorem opM_part {f : Int → Int → Int} {a b : List Int} (ha : a.length = 16) (hb : b.length = 16) {y : Nat} (hy : y < 16) : (partM (opM f a b) a y).set y (f (a.getD y 0) (b.getD y 0)) = partM (opM f a b) a (y + 1) := by
  have hl := opM_length (f := f) ha hb
  rw [← partM_set (by omega) (by omega)]
  congr 1
  simp only [opM, List.getElem_zipWith]
  rw [List.getD_eq_getElem?_getD, List.getElem?_eq_getElem (by omega), List.getD_eq_getElem?_getD, List.getElem?_eq_getElem (by omega)]
  rfl
set_option maxRecDepth 20000 in
theorem sJoinMasks_any (a b : List Int) (ha : a.length = 16) (hb : b.length = 16) (w : World) :
    Calls Try.prog 108 #[.agg (ivs .u16 a), .agg (ivs .u16 b)] w fun e w' => e = .returned (.agg (ivs .u16 (opM orF a b))) ∧ Below w.heap.size w w' := by
  have hcl : (opM orF a b).length = a.length := by rw [opM_length ha hb, ha]
  have hat := fun y (hy : y < 16) => opM_part (f := orF) ha hb hy
  have h0 : Blk (((w.alloc (.cells (ivs .u16 a) 76)).alloc (.cells (ivs .u16 b) 76)).alloc (.cells (ivs .u16 zr16) 76)) w.heap.size 76 (ivs .u16 (partM (opM orF a b) a 0)) := ((Blk.newAt rfl rfl).alloc _).alloc _
  have h1 : Blk (((w.alloc (.cells (ivs .u16 a) 76)).alloc (.cells (ivs .u16 b) 76)).alloc (.cells (ivs .u16 zr16) 76)) (w.heap.size + 1) 76 (ivs .u16 b) := (Blk.newAt (by simp) rfl).alloc _
  have h2 : Blk (((w.alloc (.cells (ivs .u16 a) 76)).alloc (.cells (ivs .u16 b) 76)).alloc (.cells (ivs .u16 zr16) 76)) (w.heap.size + 1 + 1) 76 (ivs .u16 zr16) := Blk.newAt (by simp) rfl
  have hB : Below w.heap.size w (((w.alloc (.cells (ivs .u16 a) 76)).alloc (.cells (ivs .u16 b) 76)).alloc (.cells (ivs .u16 zr16) 76)) := (((Below.refl _ _).alloc (Nat.le_refl _) _).alloc (by simp) _).alloc (by simp; omega) _
  have K := Lib.hid (And.intro h0 (And.intro h1 (And.intro h2 hB)))
  have HAT := Lib.hid hat
  have HCL := Lib.hid hcl
  clear h0 h1 h2 hB hat hcl
  generalize opM orF a b = c at *
  go_enter Try.func108, Try.ntmps108
  go_wp2
  go_loopw [5] (fun i wr => ∃ y : Nat, y ≤ 16 ∧ i = .int .i64 y ∧ Blk wr w.heap.size 76 (ivs .u16 (partM c a y)) ∧ Blk wr (w.heap.size + 1) 76 (ivs .u16 b) ∧ Blk wr (w.heap.size + 1 + 1) 76 (ivs .u16 zr16) ∧ Below w.heap.size w wr) (fun i _ => 16 - (intOf i).toNat)
  case atStart => exact ⟨0, by omega, rfl, K.out.1, K.out.2.1, K.out.2.2.1, K.out.2.2.2⟩
  case round =>
    clear K
    obtain ⟨y, hy, rfl, h0, h1, h2, hbl⟩ := hrel
    by_cases hlt : y < 16
    · have hlt' : (y : Int) < 16 := by omega
      have hya : y < a.length := by omega
      have c0 := h0.getAtG (i := y) (by rw [partM_length HCL.out]; exact hya)
      rw [partM_getD HCL.out hya] at c0
      have c1 := h1.getAtG (i := y) (by omega)
      have f0 := h0.frozen y
      have HS := Lib.hid (HAT.out y hlt)
      obtain ⟨u, hu⟩ : ∃ u, u = a.getD y 0 := ⟨_, rfl⟩
      obtain ⟨v, hv⟩ : ∃ v, v = b.getD y 0 := ⟨_, rfl⟩
      rw [← hu, ← hv] at HS
      rw [← hu] at c0
      rw [← hv] at c1
      have H0 := Lib.hid h0
      have H1 := Lib.hid h1
      have H2 := Lib.hid h2
      have HB := Lib.hid hbl
      clear h0 h1 h2 hbl hu hv
      go_wp2
      go_region
      go_wp2
      refine ⟨⟨y + 1, by omega, by go_num, ?_, ((H1.out.far (p := ⟨w.heap.size, y, none⟩) (show w.heap.size + 1 ≠ w.heap.size by omega) _).drew), ((H2.out.far (p := ⟨w.heap.size, y, none⟩) (show w.heap.size + 1 + 1 ≠ w.heap.size by omega) _).drew), below_drew (HB.out.setCell (p := ⟨w.heap.size, y, none⟩) (Nat.le_refl _) _)⟩, by simp [intOf]; omega⟩
      rw [← HS.out]
      exact (H0.out.setI y (orF u v)).drew
    · obtain rfl : y = 16 := by omega
      rw [partM_all HCL.out ha.symm] at h0
      have hc16 : c.length = 16 := by rw [HCL.out, ha]
      have H0 := Lib.hid h0
      have H2 := Lib.hid h2
      have HB := Lib.hid hbl
      have HC := Lib.hid hc16
      clear h0 h1 h2 hbl hc16 HCL HAT
      go_wp2_with (first
        | refine wpList_load_row rfl _ _ rfl w.heap.size rfl 76 (ivs .u16 c) (0, 0) _ H0.out Try.underlying76 rfl (by rw [ivs_size, HC.out]; exact size76) ?_
        | refine wpList_store_row rfl _ _ _ rfl (w.heap.size + 1 + 1) (ivs .u16 c) rfl rfl 76 _ H2.out (by rw [ivs_size, HC.out]; exact size76) (by rw [ivs_size, ivs_size, HC.out]; rfl) ivs_one ?_)
      exact bodyPost_ret (results_cell_row rfl _ _ (w.heap.size + 1 + 1) 76 (ivs .u16 c) (0, 0) _ rfl (H2.out.row _) Try.underlying76 rfl (by rw [ivs_size, HC.out]; exact size76)) rfl ⟨rfl, below_setRow HB.out (by omega) _⟩
theorem cJoinMasks_any (x y : Int) (w : World) : Calls Try.prog 126 #[.int .u16 x, .int .u16 y] w fun e w' => e = .returned (.int .u16 (orF x y)) ∧ w = w' := by
  go_enter Try.func126, Try.ntmps126
  go_wp2
  go_ret
  exact ⟨rfl, rfl⟩
set_option maxRecDepth 20000 in
theorem bJoinMasks_any (a b : List Int) (ha : a.length = 16) (hb : b.length = 16) (w : World) :
    Calls Try.prog 125 #[.agg (ivs .u16 a), .agg (ivs .u16 b), .func (.func 126) #[] #[]] w fun e w' => e = .returned (.agg (ivs .u16 (opM orF a b))) ∧ Below w.heap.size w w' := by
  have hcl : (opM orF a b).length = a.length := by rw [opM_length ha hb, ha]
  have hat := fun y (hy : y < 16) => opM_part (f := orF) ha hb hy
  have hca := fun x y W => cJoinMasks_any x y W
  have h0 : Blk (((w.alloc (.cells (ivs .u16 a) 76)).alloc (.cells (ivs .u16 b) 76)).alloc (.cells (ivs .u16 zr16) 76)) w.heap.size 76 (ivs .u16 (partM (opM orF a b) a 0)) := ((Blk.newAt rfl rfl).alloc _).alloc _
  have h1 : Blk (((w.alloc (.cells (ivs .u16 a) 76)).alloc (.cells (ivs .u16 b) 76)).alloc (.cells (ivs .u16 zr16) 76)) (w.heap.size + 1) 76 (ivs .u16 b) := (Blk.newAt (by simp) rfl).alloc _
  have h2 : Blk (((w.alloc (.cells (ivs .u16 a) 76)).alloc (.cells (ivs .u16 b) 76)).alloc (.cells (ivs .u16 zr16) 76)) (w.heap.size + 1 + 1) 76 (ivs .u16 zr16) := Blk.newAt (by simp) rfl
  have hB : Below w.heap.size w (((w.alloc (.cells (ivs .u16 a) 76)).alloc (.cells (ivs .u16 b) 76)).alloc (.cells (ivs .u16 zr16) 76)) := (((Below.refl _ _).alloc (Nat.le_refl _) _).alloc (by simp) _).alloc (by simp; omega) _
  have K := Lib.hid (And.intro h0 (And.intro h1 (And.intro h2 hB)))
  have HAT := Lib.hid hat
  have HCL := Lib.hid hcl
  have HCA := Lib.hid hca
  clear h0 h1 h2 hB hat hcl hca
  generalize opM orF a b = c at *
  go_enter Try.func125, Try.ntmps125
  go_wp2
  go_loopw [8] (fun i wr => ∃ y : Nat, y ≤ 16 ∧ i = .int .i64 y ∧ Blk wr w.heap.size 76 (ivs .u16 (partM c a y)) ∧ Blk wr (w.heap.size + 1) 76 (ivs .u16 b) ∧ Blk wr (w.heap.size + 1 + 1) 76 (ivs .u16 zr16) ∧ Below w.heap.size w wr) (fun i _ => 16 - (intOf i).toNat)
  case atStart => exact ⟨0, by omega, rfl, K.out.1, K.out.2.1, K.out.2.2.1, K.out.2.2.2⟩
  case round =>
    clear K
    obtain ⟨y, hy, rfl, h0, h1, h2, hbl⟩ := hrel
    by_cases hlt : y < 16
    · have hlt' : (y : Int) < 16 := by omega
      have hya : y < a.length := by omega
      have c0 := h0.getAtG (i := y) (by rw [partM_length HCL.out]; exact hya)
      rw [partM_getD HCL.out hya] at c0
      have c1 := h1.getAtG (i := y) (by omega)
      have f0 := h0.frozen y
      have HS := Lib.hid (HAT.out y hlt)
      obtain ⟨u, hu⟩ : ∃ u, u = a.getD y 0 := ⟨_, rfl⟩
      obtain ⟨v, hv⟩ : ∃ v, v = b.getD y 0 := ⟨_, rfl⟩
      rw [← hu, ← hv] at HS
      rw [← hu] at c0
      rw [← hv] at c1
      have H0 := Lib.hid h0
      have H1 := Lib.hid h1
      have H2 := Lib.hid h2
      have HB := Lib.hid hbl
      clear h0 h1 h2 hbl hu hv
      go_wp2
      go_region_with (go_at_call 126; refine (HCA.out _ _ _).mono ?_; rintro e w2 ⟨rfl, rfl⟩)
      all_goals go_wp2
      all_goals refine ⟨⟨y + 1, by omega, by go_num, ?_, ((H1.out.far (p := ⟨w.heap.size, y, none⟩) (show w.heap.size + 1 ≠ w.heap.size by omega) _).drew), ((H2.out.far (p := ⟨w.heap.size, y, none⟩) (show w.heap.size + 1 + 1 ≠ w.heap.size by omega) _).drew), below_drew (HB.out.setCell (p := ⟨w.heap.size, y, none⟩) (Nat.le_refl _) _)⟩, by simp [intOf]; omega⟩
      all_goals rw [← HS.out]
      all_goals exact (H0.out.setI y (orF u v)).drew
    · obtain rfl : y = 16 := by omega
      rw [partM_all HCL.out ha.symm] at h0
      have hc16 : c.length = 16 := by rw [HCL.out, ha]
      have H0 := Lib.hid h0
      have H2 := Lib.hid h2
      have HB := Lib.hid hbl
      have HC := Lib.hid hc16
      clear h0 h1 h2 hbl hc16 HCL HAT HCA
      go_wp2_with (first
        | refine wpList_load_row rfl _ _ rfl w.heap.size rfl 76 (ivs .u16 c) (0, 0) _ H0.out Try.underlying76 rfl (by rw [ivs_size, HC.out]; exact size76) ?_
        | refine wpList_store_row rfl _ _ _ rfl (w.heap.size + 1 + 1) (ivs .u16 c) rfl rfl 76 _ H2.out (by rw [ivs_size, HC.out]; exact size76) (by rw [ivs_size, ivs_size, HC.out]; rfl) ivs_one ?_)
      exact bodyPost_ret (results_cell_row rfl _ _ (w.heap.size + 1 + 1) 76 (ivs .u16 c) (0, 0) _ rfl (H2.out.row _) Try.underlying76 rfl (by rw [ivs_size, HC.out]; exact size76)) rfl ⟨rfl, below_setRow HB.out (by omega) _⟩
theorem iJoinMasks_any (a b : List Int) (ha : a.length = 16) (hb : b.length = 16) (w : World) :
    Calls Try.prog 83 #[.agg (ivs .u16 a), .agg (ivs .u16 b)] w fun e w' => e = .returned (.agg (ivs .u16 (opM orF a b))) ∧ Below w.heap.size w w' := by
  have h0 : Blk (((w.alloc (.cells (ivs .u16 a) 76)).alloc (.cells (ivs .u16 b) 76)).alloc (.cells (ivs .u16 zr16) 76)) w.heap.size 76 (ivs .u16 a) := ((Blk.newAt rfl rfl).alloc _).alloc _
  have h1 : Blk (((w.alloc (.cells (ivs .u16 a) 76)).alloc (.cells (ivs .u16 b) 76)).alloc (.cells (ivs .u16 zr16) 76)) (w.heap.size + 1) 76 (ivs .u16 b) := (Blk.newAt (by simp) rfl).alloc _
  have h2 : Blk (((w.alloc (.cells (ivs .u16 a) 76)).alloc (.cells (ivs .u16 b) 76)).alloc (.cells (ivs .u16 zr16) 76)) (w.heap.size + 1 + 1) 76 (ivs .u16 zr16) := Blk.newAt (by simp) rfl
  have hB : Below w.heap.size w (((w.alloc (.cells (ivs .u16 a) 76)).alloc (.cells (ivs .u16 b) 76)).alloc (.cells (ivs .u16 zr16) 76)) := (((Below.refl _ _).alloc (Nat.le_refl _) _).alloc (by simp) _).alloc (by simp; omega) _
  have HC := Lib.hid (opM_length (f := orF) ha hb)
  have H0 := Lib.hid h0
  have H1 := Lib.hid h1
  have H2 := Lib.hid h2
  have HB := Lib.hid hB
  have HM := Lib.hid (bJoinMasks_any a b ha hb)
  clear h0 h1 h2 hB
  generalize opM orF a b = c at *
  go_enter Try.func83, Try.ntmps83
  go_wp2_with (first
    | refine wpList_load_row rfl _ _ rfl w.heap.size rfl 76 (ivs .u16 a) (0, 0) _ H0.out Try.underlying76 rfl (by rw [ivs_size, ha]; exact size76) ?_
    | refine wpList_load_row rfl _ _ rfl (w.heap.size + 1) rfl 76 (ivs .u16 b) (0, 0) _ H1.out Try.underlying76 rfl (by rw [ivs_size, hb]; exact size76) ?_
    | (go_at_call 125; refine (HM.out _).mono ?_; rintro e w2 ⟨rfl, hb2⟩; have H22 := Lib.hid (H2.out.below hb2 H2.out.lt); have HB2 := Lib.hid (HB.out.trans (hb2.mono (by simp only [size_alloc]; omega))); clear hb2)
    | refine wpList_store_row rfl _ _ _ rfl (w.heap.size + 1 + 1) (ivs .u16 c) rfl rfl 76 _ H22.out (by rw [ivs_size, HC.out]; exact size76) (by rw [ivs_size, ivs_size, HC.out]; rfl) ivs_one ?_)
  exact bodyPost_ret (results_cell_row rfl _ _ (w.heap.size + 1 + 1) 76 (ivs .u16 c) (0, 0) _ rfl (H22.out.row _) Try.underlying76 rfl (by rw [ivs_size, HC.out]; exact size76)) rfl ⟨rfl, below_setRow HB2.out (by omega) _⟩
theorem cMeetMasks_any (x y : Int) (w : World) : Calls Try.prog 127 #[.int .u16 x, .int .u16 y] w fun e w' => e = .returned (.int .u16 (andF x y)) ∧ w = w' := by
  go_enter Try.func127, Try.ntmps127
  go_wp2
  go_ret
  exact ⟨rfl, rfl⟩
set_option maxRecDepth 20000 in
theorem bMeetMasks_any (a b : List Int) (ha : a.length = 16) (hb : b.length = 16) (w : World) :
    Calls Try.prog 125 #[.agg (ivs .u16 a), .agg (ivs .u16 b), .func (.func 127) #[] #[]] w fun e w' => e = .returned (.agg (ivs .u16 (opM andF a b))) ∧ Below w.heap.size w w' := by
  have hcl : (opM andF a b).length = a.length := by rw [opM_length ha hb, ha]
  have hat := fun y (hy : y < 16) => opM_part (f := andF) ha hb hy
  have hca := fun x y W => cMeetMasks_any x y W
  have h0 : Blk (((w.alloc (.cells (ivs .u16 a) 76)).alloc (.cells (ivs .u16 b) 76)).alloc (.cells (ivs .u16 zr16) 76)) w.heap.size 76 (ivs .u16 (partM (opM andF a b) a 0)) := ((Blk.newAt rfl rfl).alloc _).alloc _
  have h1 : Blk (((w.alloc (.cells (ivs .u16 a) 76)).alloc (.cells (ivs .u16 b) 76)).alloc (.cells (ivs .u16 zr16) 76)) (w.heap.size + 1) 76 (ivs .u16 b) := (Blk.newAt (by simp) rfl).alloc _
  have h2 : Blk (((w.alloc (.cells (ivs .u16 a) 76)).alloc (.cells (ivs .u16 b) 76)).alloc (.cells (ivs .u16 zr16) 76)) (w.heap.size + 1 + 1) 76 (ivs .u16 zr16) := Blk.newAt (by simp) rfl
  have hB : Below w.heap.size w (((w.alloc (.cells (ivs .u16 a) 76)).alloc (.cells (ivs .u16 b) 76)).alloc (.cells (ivs .u16 zr16) 76)) := (((Below.refl _ _).alloc (Nat.le_refl _) _).alloc (by simp) _).alloc (by simp; omega) _
  have K := Lib.hid (And.intro h0 (And.intro h1 (And.intro h2 hB)))
  have HAT := Lib.hid hat
  have HCL := Lib.hid hcl
  have HCA := Lib.hid hca
  clear h0 h1 h2 hB hat hcl hca
  generalize opM andF a b = c at *
  go_enter Try.func125, Try.ntmps125
  go_wp2
  go_loopw [8] (fun i wr => ∃ y : Nat, y ≤ 16 ∧ i = .int .i64 y ∧ Blk wr w.heap.size 76 (ivs .u16 (partM c a y)) ∧ Blk wr (w.heap.size + 1) 76 (ivs .u16 b) ∧ Blk wr (w.heap.size + 1 + 1) 76 (ivs .u16 zr16) ∧ Below w.heap.size w wr) (fun i _ => 16 - (intOf i).toNat)
  case atStart => exact ⟨0, by omega, rfl, K.out.1, K.out.2.1, K.out.2.2.1, K.out.2.2.2⟩
  case round =>
    clear K
    obtain ⟨y, hy, rfl, h0, h1, h2, hbl⟩ := hrel
    by_cases hlt : y < 16
    · have hlt' : (y : Int) < 16 := by omega
      have hya : y < a.length := by omega
      have c0 := h0.getAtG (i := y) (by rw [partM_length HCL.out]; exact hya)
      rw [partM_getD HCL.out hya] at c0
      have c1 := h1.getAtG (i := y) (by omega)
      have f0 := h0.frozen y
      have HS := Lib.hid (HAT.out y hlt)
      obtain ⟨u, hu⟩ : ∃ u, u = a.getD y 0 := ⟨_, rfl⟩
      obtain ⟨v, hv⟩ : ∃ v, v = b.getD y 0 := ⟨_, rfl⟩
      rw [← hu, ← hv] at HS
      rw [← hu] at c0
      rw [← hv] at c1
      have H0 := Lib.hid h0
      have H1 := Lib.hid h1
      have H2 := Lib.hid h2
      have HB := Lib.hid hbl
      clear h0 h1 h2 hbl hu hv
      go_wp2
      go_region_with (go_at_call 127; refine (HCA.out _ _ _).mono ?_; rintro e w2 ⟨rfl, rfl⟩)
      all_goals go_wp2
      all_goals refine ⟨⟨y + 1, by omega, by go_num, ?_, ((H1.out.far (p := ⟨w.heap.size, y, none⟩) (show w.heap.size + 1 ≠ w.heap.size by omega) _).drew), ((H2.out.far (p := ⟨w.heap.size, y, none⟩) (show w.heap.size + 1 + 1 ≠ w.heap.size by omega) _).drew), below_drew (HB.out.setCell (p := ⟨w.heap.size, y, none⟩) (Nat.le_refl _) _)⟩, by simp [intOf]; omega⟩
      all_goals rw [← HS.out]
      all_goals exact (H0.out.setI y (andF u v)).drew
    · obtain rfl : y = 16 := by omega
      rw [partM_all HCL.out ha.symm] at h0
      have hc16 : c.length = 16 := by rw [HCL.out, ha]
      have H0 := Lib.hid h0
      have H2 := Lib.hid h2
      have HB := Lib.hid hbl
      have HC := Lib.hid hc16
      clear h0 h1 h2 hbl hc16 HCL HAT HCA
      go_wp2_with (first
        | refine wpList_load_row rfl _ _ rfl w.heap.size rfl 76 (ivs .u16 c) (0, 0) _ H0.out Try.underlying76 rfl (by rw [ivs_size, HC.out]; exact size76) ?_
        | refine wpList_store_row rfl _ _ _ rfl (w.heap.size + 1 + 1) (ivs .u16 c) rfl rfl 76 _ H2.out (by rw [ivs_size, HC.out]; exact size76) (by rw [ivs_size, ivs_size, HC.out]; rfl) ivs_one ?_)
      exact bodyPost_ret (results_cell_row rfl _ _ (w.heap.size + 1 + 1) 76 (ivs .u16 c) (0, 0) _ rfl (H2.out.row _) Try.underlying76 rfl (by rw [ivs_size, HC.out]; exact size76)) rfl ⟨rfl, below_setRow HB.out (by omega) _⟩
theorem iMeetMasks_any (a b : List Int) (ha : a.length = 16) (hb : b.length = 16) (w : World) :
    Calls Try.prog 84 #[.agg (ivs .u16 a), .agg (ivs .u16 b)] w fun e w' => e = .returned (.agg (ivs .u16 (opM andF a b))) ∧ Below w.heap.size w w' := by
  have h0 : Blk (((w.alloc (.cells (ivs .u16 a) 76)).alloc (.cells (ivs .u16 b) 76)).alloc (.cells (ivs .u16 zr16) 76)) w.heap.size 76 (ivs .u16 a) := ((Blk.newAt rfl rfl).alloc _).alloc _
  have h1 : Blk (((w.alloc (.cells (ivs .u16 a) 76)).alloc (.cells (ivs .u16 b) 76)).alloc (.cells (ivs .u16 zr16) 76)) (w.heap.size + 1) 76 (ivs .u16 b) := (Blk.newAt (by simp) rfl).alloc _
  have h2 : Blk (((w.alloc (.cells (ivs .u16 a) 76)).alloc (.cells (ivs .u16 b) 76)).alloc (.cells (ivs .u16 zr16) 76)) (w.heap.size + 1 + 1) 76 (ivs .u16 zr16) := Blk.newAt (by simp) rfl
  have hB : Below w.heap.size w (((w.alloc (.cells (ivs .u16 a) 76)).alloc (.cells (ivs .u16 b) 76)).alloc (.cells (ivs .u16 zr16) 76)) := (((Below.refl _ _).alloc (Nat.le_refl _) _).alloc (by simp) _).alloc (by simp; omega) _
  have HC := Lib.hid (opM_length (f := andF) ha hb)
  have H0 := Lib.hid h0
  have H1 := Lib.hid h1
  have H2 := Lib.hid h2
  have HB := Lib.hid hB
  have HM := Lib.hid (bMeetMasks_any a b ha hb)
  clear h0 h1 h2 hB
  generalize opM andF a b = c at *
  go_enter Try.func84, Try.ntmps84
  go_wp2_with (first
    | refine wpList_load_row rfl _ _ rfl w.heap.size rfl 76 (ivs .u16 a) (0, 0) _ H0.out Try.underlying76 rfl (by rw [ivs_size, ha]; exact size76) ?_
    | refine wpList_load_row rfl _ _ rfl (w.heap.size + 1) rfl 76 (ivs .u16 b) (0, 0) _ H1.out Try.underlying76 rfl (by rw [ivs_size, hb]; exact size76) ?_
    | (go_at_call 125; refine (HM.out _).mono ?_; rintro e w2 ⟨rfl, hb2⟩; have H22 := Lib.hid (H2.out.below hb2 H2.out.lt); have HB2 := Lib.hid (HB.out.trans (hb2.mono (by simp only [size_alloc]; omega))); clear hb2)
    | refine wpList_store_row rfl _ _ _ rfl (w.heap.size + 1 + 1) (ivs .u16 c) rfl rfl 76 _ H22.out (by rw [ivs_size, HC.out]; exact size76) (by rw [ivs_size, ivs_size, HC.out]; rfl) ivs_one ?_)
  exact bodyPost_ret (results_cell_row rfl _ _ (w.heap.size + 1 + 1) 76 (ivs .u16 c) (0, 0) _ rfl (H22.out.row _) Try.underlying76 rfl (by rw [ivs_size, HC.out]; exact size76)) rfl ⟨rfl, below_setRow HB2.out (by omega) _⟩
theorem cMinusMasks_any (x y : Int) (w : World) : Calls Try.prog 128 #[.int .u16 x, .int .u16 y] w fun e w' => e = .returned (.int .u16 (notF x y)) ∧ w = w' := by
  go_enter Try.func128, Try.ntmps128
  go_wp2
  go_ret
  exact ⟨rfl, rfl⟩
set_option maxRecDepth 20000 in
theorem bMinusMasks_any (a b : List Int) (ha : a.length = 16) (hb : b.length = 16) (w : World) :
    Calls Try.prog 125 #[.agg (ivs .u16 a), .agg (ivs .u16 b), .func (.func 128) #[] #[]] w fun e w' => e = .returned (.agg (ivs .u16 (opM notF a b))) ∧ Below w.heap.size w w' := by
  have hcl : (opM notF a b).length = a.length := by rw [opM_length ha hb, ha]
  have hat := fun y (hy : y < 16) => opM_part (f := notF) ha hb hy
  have hca := fun x y W => cMinusMasks_any x y W
  have h0 : Blk (((w.alloc (.cells (ivs .u16 a) 76)).alloc (.cells (ivs .u16 b) 76)).alloc (.cells (ivs .u16 zr16) 76)) w.heap.size 76 (ivs .u16 (partM (opM notF a b) a 0)) := ((Blk.newAt rfl rfl).alloc _).alloc _
  have h1 : Blk (((w.alloc (.cells (ivs .u16 a) 76)).alloc (.cells (ivs .u16 b) 76)).alloc (.cells (ivs .u16 zr16) 76)) (w.heap.size + 1) 76 (ivs .u16 b) := (Blk.newAt (by simp) rfl).alloc _
  have h2 : Blk (((w.alloc (.cells (ivs .u16 a) 76)).alloc (.cells (ivs .u16 b) 76)).alloc (.cells (ivs .u16 zr16) 76)) (w.heap.size + 1 + 1) 76 (ivs .u16 zr16) := Blk.newAt (by simp) rfl
  have hB : Below w.heap.size w (((w.alloc (.cells (ivs .u16 a) 76)).alloc (.cells (ivs .u16 b) 76)).alloc (.cells (ivs .u16 zr16) 76)) := (((Below.refl _ _).alloc (Nat.le_refl _) _).alloc (by simp) _).alloc (by simp; omega) _
  have K := Lib.hid (And.intro h0 (And.intro h1 (And.intro h2 hB)))
  have HAT := Lib.hid hat
  have HCL := Lib.hid hcl
  have HCA := Lib.hid hca
  clear h0 h1 h2 hB hat hcl hca
  generalize opM notF a b = c at *
  go_enter Try.func125, Try.ntmps125
  go_wp2
  go_loopw [8] (fun i wr => ∃ y : Nat, y ≤ 16 ∧ i = .int .i64 y ∧ Blk wr w.heap.size 76 (ivs .u16 (partM c a y)) ∧ Blk wr (w.heap.size + 1) 76 (ivs .u16 b) ∧ Blk wr (w.heap.size + 1 + 1) 76 (ivs .u16 zr16) ∧ Below w.heap.size w wr) (fun i _ => 16 - (intOf i).toNat)
  case atStart => exact ⟨0, by omega, rfl, K.out.1, K.out.2.1, K.out.2.2.1, K.out.2.2.2⟩
  case round =>
    clear K
    obtain ⟨y, hy, rfl, h0, h1, h2, hbl⟩ := hrel
    by_cases hlt : y < 16
    · have hlt' : (y : Int) < 16 := by omega
      have hya : y < a.length := by omega
      have c0 := h0.getAtG (i := y) (by rw [partM_length HCL.out]; exact hya)
      rw [partM_getD HCL.out hya] at c0
      have c1 := h1.getAtG (i := y) (by omega)
      have f0 := h0.frozen y
      have HS := Lib.hid (HAT.out y hlt)
      obtain ⟨u, hu⟩ : ∃ u, u = a.getD y 0 := ⟨_, rfl⟩
      obtain ⟨v, hv⟩ : ∃ v, v = b.getD y 0 := ⟨_, rfl⟩
      rw [← hu, ← hv] at HS
      rw [← hu] at c0
      rw [← hv] at c1
      have H0 := Lib.hid h0
      have H1 := Lib.hid h1
      have H2 := Lib.hid h2
      have HB := Lib.hid hbl
      clear h0 h1 h2 hbl hu hv
      go_wp2
      go_region_with (go_at_call 128; refine (HCA.out _ _ _).mono ?_; rintro e w2 ⟨rfl, rfl⟩)
      all_goals go_wp2
      all_goals refine ⟨⟨y + 1, by omega, by go_num, ?_, ((H1.out.far (p := ⟨w.heap.size, y, none⟩) (show w.heap.size + 1 ≠ w.heap.size by omega) _).drew), ((H2.out.far (p := ⟨w.heap.size, y, none⟩) (show w.heap.size + 1 + 1 ≠ w.heap.size by omega) _).drew), below_drew (HB.out.setCell (p := ⟨w.heap.size, y, none⟩) (Nat.le_refl _) _)⟩, by simp [intOf]; omega⟩
      all_goals rw [← HS.out]
      all_goals exact (H0.out.setI y (notF u v)).drew
    · obtain rfl : y = 16 := by omega
      rw [partM_all HCL.out ha.symm] at h0
      have hc16 : c.length = 16 := by rw [HCL.out, ha]
      have H0 := Lib.hid h0
      have H2 := Lib.hid h2
      have HB := Lib.hid hbl
      have HC := Lib.hid hc16
      clear h0 h1 h2 hbl hc16 HCL HAT HCA
      go_wp2_with (first
        | refine wpList_load_row rfl _ _ rfl w.heap.size rfl 76 (ivs .u16 c) (0, 0) _ H0.out Try.underlying76 rfl (by rw [ivs_size, HC.out]; exact size76) ?_
        | refine wpList_store_row rfl _ _ _ rfl (w.heap.size + 1 + 1) (ivs .u16 c) rfl rfl 76 _ H2.out (by rw [ivs_size, HC.out]; exact size76) (by rw [ivs_size, ivs_size, HC.out]; rfl) ivs_one ?_)
      exact bodyPost_ret (results_cell_row rfl _ _ (w.heap.size + 1 + 1) 76 (ivs .u16 c) (0, 0) _ rfl (H2.out.row _) Try.underlying76 rfl (by rw [ivs_size, HC.out]; exact size76)) rfl ⟨rfl, below_setRow HB.out (by omega) _⟩
theorem iMinusMasks_any (a b : List Int) (ha : a.length = 16) (hb : b.length = 16) (w : World) :
    Calls Try.prog 85 #[.agg (ivs .u16 a), .agg (ivs .u16 b)] w fun e w' => e = .returned (.agg (ivs .u16 (opM notF a b))) ∧ Below w.heap.size w w' := by
  have h0 : Blk (((w.alloc (.cells (ivs .u16 a) 76)).alloc (.cells (ivs .u16 b) 76)).alloc (.cells (ivs .u16 zr16) 76)) w.heap.size 76 (ivs .u16 a) := ((Blk.newAt rfl rfl).alloc _).alloc _
  have h1 : Blk (((w.alloc (.cells (ivs .u16 a) 76)).alloc (.cells (ivs .u16 b) 76)).alloc (.cells (ivs .u16 zr16) 76)) (w.heap.size + 1) 76 (ivs .u16 b) := (Blk.newAt (by simp) rfl).alloc _
  have h2 : Blk (((w.alloc (.cells (ivs .u16 a) 76)).alloc (.cells (ivs .u16 b) 76)).alloc (.cells (ivs .u16 zr16) 76)) (w.heap.size + 1 + 1) 76 (ivs .u16 zr16) := Blk.newAt (by simp) rfl
  have hB : Below w.heap.size w (((w.alloc (.cells (ivs .u16 a) 76)).alloc (.cells (ivs .u16 b) 76)).alloc (.cells (ivs .u16 zr16) 76)) := (((Below.refl _ _).alloc (Nat.le_refl _) _).alloc (by simp) _).alloc (by simp; omega) _
  have HC := Lib.hid (opM_length (f := notF) ha hb)
  have H0 := Lib.hid h0
  have H1 := Lib.hid h1
  have H2 := Lib.hid h2
  have HB := Lib.hid hB
  have HM := Lib.hid (bMinusMasks_any a b ha hb)
  clear h0 h1 h2 hB
  generalize opM notF a b = c at *
  go_enter Try.func85, Try.ntmps85
  go_wp2_with (first
    | refine wpList_load_row rfl _ _ rfl w.heap.size rfl 76 (ivs .u16 a) (0, 0) _ H0.out Try.underlying76 rfl (by rw [ivs_size, ha]; exact size76) ?_
    | refine wpList_load_row rfl _ _ rfl (w.heap.size + 1) rfl 76 (ivs .u16 b) (0, 0) _ H1.out Try.underlying76 rfl (by rw [ivs_size, hb]; exact size76) ?_
    | (go_at_call 125; refine (HM.out _).mono ?_; rintro e w2 ⟨rfl, hb2⟩; have H22 := Lib.hid (H2.out.below hb2 H2.out.lt); have HB2 := Lib.hid (HB.out.trans (hb2.mono (by simp only [size_alloc]; omega))); clear hb2)
    | refine wpList_store_row rfl _ _ _ rfl (w.heap.size + 1 + 1) (ivs .u16 c) rfl rfl 76 _ H22.out (by rw [ivs_size, HC.out]; exact size76) (by rw [ivs_size, ivs_size, HC.out]; rfl) ivs_one ?_)
  exact bodyPost_ret (results_cell_row rfl _ _ (w.heap.size + 1 + 1) 76 (ivs .u16 c) (0, 0) _ rfl (H22.out.row _) Try.underlying76 rfl (by rw [ivs_size, HC.out]; exact size76)) rfl ⟨rfl, below_setRow HB2.out (by omega) _⟩
end Go.Proofs.Ytmagaapdijapiaa
namespace Go.Proofs.Ytmagaapdijapiaa
open Go.ChangeShapes Go.WideShapes Go.ChangeAt Go.RowKit Go.Shelf
open Go.Sort (grow putRow putRowK flatK HoldsK SWO PermIn SortedIn putCells mapBlock onCells)
/-- the cells of a list's elements -/
def catV {α : Type} (enc : α → List Value) (l : List α) : List Value := (l.map enc).flatten
section
variable {α : Type} {enc : α → List Value} {k : Nat}
theorem catV_rows (hk : ∀ x, (enc x).length = k) (l : List α) : RowsV k (l.map enc) := fun f hf => by
  obtain ⟨x, _, rfl⟩ := List.mem_map.1 hf
  exact hk x
theorem catV_length (hk : ∀ x, (enc x).length = k) (l : List α) : (catV enc l).length = l.length * k := by
  rw [catV, vflat_length (catV_rows hk l), List.length_map]
end
section
variable {α : Type} [Inhabited α] {enc : α → List Value} {k : Nat}
theorem flatK_eq (hk : ∀ x, (enc x).length = k) (hk0 : 0 < k) (d : Array α) : (flatK enc k d).toList = catV enc d.toList := by
  apply List.ext_getElem?
  intro t
  by_cases ht : t < d.size * k
  · have hq : t / k < d.size := by rw [Nat.div_lt_iff_lt_mul hk0]; exact ht
    have hm : t % k < k := Nat.mod_lt _ hk0
    have e : t / k * k + t % k = t := by rw [Nat.mul_comm]; exact Nat.div_add_mod t k
    have h1 := vflat_get (catV_rows hk d.toList) (i := t / k) (j := t % k) (by simpa using hq) hm
    rw [e] at h1
    rw [catV, h1]
    have hd : d[t / k]! = d[t / k] := getElem!_pos d _ hq
    have hv : (enc d[t / k]!)[t % k]! = (enc d[t / k])[t % k]'(by rw [hk]; exact hm) := by rw [hd]; exact getElem!_pos _ _ (by rw [hk]; exact hm)
    rw [Array.getElem?_toList, Array.getElem?_eq_getElem (by simpa using ht)]
    simp only [List.getElem_map, Array.getElem_toList]
    rw [List.getElem?_eq_getElem (by rw [hk]; exact hm), ← hv]
    simp [flatK]
  · rw [List.getElem?_eq_none (by simpa using Nat.le_of_not_lt ht), List.getElem?_eq_none (by rw [catV_length hk]; simpa using Nat.le_of_not_lt ht)]
theorem flatK_get (hk : ∀ x, (enc x).length = k) (hk0 : 0 < k) (d : Array α) {j : Nat} (hj : j < (flatK enc k d).size) : (catV enc d.toList)[j]? = some (flatK enc k d)[j]! := by
  rw [← flatK_eq hk hk0, Array.getElem?_toList, Array.getElem?_eq_getElem hj, getElem!_pos (flatK enc k d) j hj]
section
variable {w : World} {lo hi g n c : Nat} {e : TypeId}
theorem holdsK_of_own (hk : ∀ x, (enc x).length = k) (hk0 : 0 < k) (d : Array α) (h : Own w lo hi e k (some ⟨g, 0, none⟩) n c (catV enc d.toList)) : HoldsK enc k w g 0 d := fun j hj => by
  rw [Nat.zero_add]
  exact h.cellV (flatK_get hk hk0 d hj)
theorem putCells_at (F cur : Array Value) {i : Nat} {xs : List Value} (hF : F.toList = xs) (hi : i < F.size) (hc : i < cur.size) : (putCells id 0 F cur)[i]? = xs[i]? := by
  subst hF
  simp only [putCells, Array.getElem?_mapIdx, Array.getElem?_eq_getElem hc, Option.map_some]
  rw [if_pos ⟨Nat.zero_le _, by omega⟩, Nat.sub_zero, Array.getElem?_toList, Array.getElem?_eq_getElem hi, getElem!_pos F i hi]
  rfl
theorem heap_sorted {m : Nat} {F : Array Value} {os : Array Obj} (j : Nat) (hj : j < w.heap.size) : (grow (putRow id (Go.Sort.ahead w m) g 0 F) os).heap[j]? = if g = j then (w.heap[j]?).map (onCells (putCells id 0 F)) else w.heap[j]? := by
  rw [Go.Sort.heap_grow_old _ _ (by simp [putRow, mapBlock, Go.Sort.ahead]; exact hj)]
  simp only [putRow, mapBlock, Go.Sort.ahead, Array.getElem?_modify]
theorem own_of_sorted (hk : ∀ x, (enc x).length = k) (hk0 : 0 < k) {xs : List Value} (d' : Array α) (hs : d'.size = n) (h : Own w lo hi e k (some ⟨g, 0, none⟩) n c xs) (m : Nat) (os : Array Obj) :
    Own (sortWorldK enc k w g 0 m d' os) lo hi e k (some ⟨g, 0, none⟩) n c (catV enc d'.toList) ∧ Below lo w (sortWorldK enc k w g 0 m d' os) := by
  have hlen : (catV enc d'.toList).length = n * k := by rw [catV_length hk, Array.length_toList, hs]
  rcases h.2 with ⟨h, _⟩ | ⟨g', cur, h1, h2, h3, h4, h5, h6, h7, h8⟩
  · cases h
  · cases h1
    have hg : g < w.heap.size := h4.lt
    refine ⟨⟨hlen, .inr ⟨g, putCells id 0 (flatK enc k d') cur, rfl, h2, h3, ?_, h5, h6, by simp [putCells, h7], ?_⟩⟩, rfl, rfl, rfl, ?_, fun i hi => ?_⟩
    · show (sortWorldK enc k w g 0 m d' os).heap[g]? = _
      unfold sortWorldK putRowK
      rw [heap_sorted g hg, if_pos rfl, show w.heap[g]? = _ from h4]
      rfl
    · apply List.ext_getElem?
      intro i
      rw [List.getElem?_take]
      by_cases hi : i < n * k
      · rw [if_pos hi, Array.getElem?_toList, putCells_at _ _ (flatK_eq hk hk0 d') (by rw [Go.Sort.size_flatK, hs]; exact hi) (by rw [h7]; exact Nat.lt_of_lt_of_le hi (Nat.mul_le_mul_right k h5))]
      · rw [if_neg hi, List.getElem?_eq_none (by omega)]
    · unfold sortWorldK putRowK
      simp [putRow, mapBlock, Go.Sort.ahead]
    · unfold sortWorldK putRowK
      rw [heap_sorted i (by omega), if_neg (by omega)]
end
theorem sorted_perm {d d' : Array α} (h : PermIn 0 d.size d d') : d'.size = d.size ∧ d'.toList.Perm d.toList := by
  obtain ⟨hs, _, hp⟩ := h
  refine ⟨hs, ?_⟩
  have e1 : d'.extract 0 d.size = d' := by rw [← hs]; exact Array.extract_size
  have e2 : d.extract 0 d.size = d := Array.extract_size
  rw [e1, e2] at hp
  exact hp
theorem sorted_pairs {lt : α → α → Bool} {d' : Array α} {n : Nat} (hs : d'.size = n) (h : SortedIn lt 0 n d') : d'.toList.Pairwise fun x y => lt y x = false := by
  rw [List.pairwise_iff_getElem]
  intro i j hi hj hij
  have hi' : i < d'.size := by simpa using hi
  have hj' : j < d'.size := by simpa using hj
  have := h i j (Nat.zero_le _) hij (by omega)
  rwa [getElem!_pos d' i hi', getElem!_pos d' j hj'] at this
/-- what SortFunc gives on a row of the call's own -/
def GivesSorted (enc : α → List Value) (k : Nat) (lt : α → α → Bool) (l : List α) (lo hi : Nat) (e : TypeId) (g c : Nat) (w : World) (en : Ending) (w' : World) : Prop :=
  en = .returned (.tuple #[]) ∧ ∃ l' : List α, l'.Perm l ∧ (l'.Pairwise fun x y => lt y x = false) ∧ Own w' lo hi e k (some ⟨g, 0, none⟩) l.length c (catV enc l') ∧ Below lo w w'
theorem sort_own {P : Program} {ρ : Ren} (L : SlLaysF0.n6 P ρ) (hk0 : 0 < k) (aE : ∀ w, (isAgg (ρ.t 24)).run P w = .ok true w) (zE : ∀ w, (Go.sizeOf (ρ.t 24)).run P w = .ok k w) (hk : ∀ x, (enc x).length = k) (h1 : ∀ x, ∀ v ∈ enc x, v.oneCell' = true) (cf : α → α → Int) (hO : SWO (ltOf cf)) (gf : Nat)
    (eg : ∀ args w, (callFunc gf args).run P w = .ok (.enter gf args) w) (hcmp : ∀ (W : World) (x y : α), Calls P gf #[.agg (enc x).toArray, .agg (enc y).toArray] W fun e w' => e = .returned (.int .i64 (cf x y)) ∧ ∃ q os', w' = grow (W.drewN q) os')
    {w : World} {lo hi g n c : Nat} {e : TypeId} (l : List α) (hl : l.length = n) (ho : Own w lo hi e k (some ⟨g, 0, none⟩) n c (catV enc l)) (hn : n < 4611686018427387904) :
    Calls P (ρ.f 6) #[.slice (some ⟨g, 0, none⟩) n c, .func (.func gf) #[] #[]] w (GivesSorted enc k (ltOf cf) l lo hi e g c w) := by
  subst hl
  have hg : g < w.heap.size := by
    rcases ho.2 with ⟨h, _⟩ | ⟨g', cur, h1, h2, h3, h4, h5⟩
    · cases h
    · cases h1
      exact h4.lt
  have hx := AnyQ.slices_SortFunc L k aE zE enc hk h1 cf hO gf #[] g 0 c l.toArray w eg (fun m os dk _ x y => hcmp _ x y) (holdsK_of_own hk hk0 l.toArray ho) hg (by simpa using hn)
  have hsz : l.toArray.size = l.length := List.size_toArray
  rw [hsz] at hx
  refine hx.mono ?_
  rintro en w' ⟨rfl, d', m, os, hp, hs, rfl⟩
  rw [← hsz] at hp hs
  obtain ⟨h2, h3⟩ := sorted_perm hp
  obtain ⟨o1, o2⟩ := own_of_sorted hk hk0 d' (h2.trans hsz) ho m os
  exact ⟨rfl, d'.toList, h3, sorted_pairs h2 hs, o1, o2⟩
end
/-- a world that has only grown, or drawn -/
def Grew (w w' : World) : Prop := ∃ (q : Nat) (os : Array Obj), w' = grow (w.drewN q) os
theorem Grew.refl (w : World) : Grew w w := ⟨0, #[], by rw [Go.Sort.grow_empty]; rfl⟩
theorem Grew.alloc {w w' : World} (h : Grew w w') (o : Obj) : Grew w (w'.alloc o) := by
  obtain ⟨q, os, rfl⟩ := h
  exact ⟨q, os ++ #[o], by rw [Go.Sort.alloc_eq_grow, Go.Sort.grow_grow]⟩
theorem Grew.drewN {w w' : World} (h : Grew w w') (m : Nat) : Grew w (w'.drewN m) := by
  obtain ⟨q, os, rfl⟩ := h
  refine ⟨q + m, os, ?_⟩
  simp only [grow, World.drewN]
  rw [Nat.add_assoc]
theorem Grew.drew {w w' : World} (h : Grew w w') : Grew w w'.drew := h.drewN 1
theorem Grew.trans {a b c : World} (h : Grew a b) (h2 : Grew b c) : Grew a c := by
  obtain ⟨q, os, rfl⟩ := h2
  obtain ⟨q', os', hq⟩ := h.drewN q
  exact ⟨q', os' ++ os, by rw [hq, Go.Sort.grow_grow]⟩
end Go.Proofs.Ytmagaapdijapiaa
namespace Go.Proofs.Ytmagaapdijapiaa
open Go.ChangeShapes Go.WideShapes Go.ChangeAt Go.RowKit
set_option maxRecDepth 20000 in
set_option maxHeartbeats 1600000 in
theorem compareCorners_grew (a0 a1 b0 b1 : Int) (w : World) :
    Calls Try.prog 71 #[.agg #[.int .i32 a0, .int .i32 a1], .agg #[.int .i32 b0, .int .i32 b1]] w fun e w' => e = .returned (.int .i64 (cmpC a0 a1 b0 b1)) ∧ Grew w w' := by
  have h1 := fun W => cmpI_any a1 b1 W
  have h0 := fun W => cmpI_any a0 b0 W
  have hc : cmpC a0 a1 b0 b1 = orI (cmpI a1 b1) (cmpI a0 b0) := rfl
  have bW : Grew w ((w.alloc (.cells #[.int .i32 a0, .int .i32 a1] 63)).alloc (.cells #[.int .i32 b0, .int .i32 b1] 63)) := ((Grew.refl _).alloc _).alloc _
  have BW := Lib.hid bW
  rw [hc]
  generalize cmpI a1 b1 = x at *
  generalize cmpI a0 b0 = y at *
  have ho := fun g c W h => orI_any g c x y W h
  generalize orI x y = z at *
  clear bW hc
  go_enter Try.func71, Try.ntmps71
  have s1 : ∀ W, Calls Try.prog 119 #[.int .i32 a1, .int .i32 b1] W fun e W' => e = .returned (.int .i64 x) ∧ W' = W := fun W => (h1 W).mono (by rintro _ _ ⟨rfl, rfl⟩; exact ⟨rfl, rfl⟩)
  have s0 : ∀ W, Calls Try.prog 119 #[.int .i32 a0, .int .i32 b0] W fun e W' => e = .returned (.int .i64 y) ∧ W' = W := fun W => (h0 W).mono (by rintro _ _ ⟨rfl, rfl⟩; exact ⟨rfl, rfl⟩)
  have k0 : Blk ((w.alloc (.cells #[.int .i32 a0, .int .i32 a1] 63)).alloc (.cells #[.int .i32 b0, .int .i32 b1] 63)) w.heap.size 63 #[.int .i32 a0, .int .i32 a1] := (Blk.newAt rfl rfl).alloc _
  have k1 : Blk ((w.alloc (.cells #[.int .i32 a0, .int .i32 a1] 63)).alloc (.cells #[.int .i32 b0, .int .i32 b1] 63)) (w.heap.size + 1) 63 #[.int .i32 b0, .int .i32 b1] := Blk.newAt (by simp) rfl
  have K := Lib.hid (And.intro (k0.drew) (And.intro k1.drew BW.out.drew))
  clear k0 k1 BW
  go_wp2_with fail
  refine still_tail 10 (by kernel_rfl) (by kernel_rfl) ?_
  generalize World.drew _ = w2 at *
  have c00 : w2.cell? ⟨w.heap.size, 0, none⟩ = some (.int .i32 a0) := K.out.1.cell 0
  have c01 : w2.cell? ⟨w.heap.size, 1, none⟩ = some (.int .i32 a1) := K.out.1.cell 1
  have c10 : w2.cell? ⟨w.heap.size + 1, 0, none⟩ = some (.int .i32 b0) := K.out.2.1.cell 0
  have c11 : w2.cell? ⟨w.heap.size + 1, 1, none⟩ = some (.int .i32 b1) := K.out.2.1.cell 1
  simp only [List.take_succ_cons, List.take_zero, List.drop_succ_cons, List.drop_zero]
  repeat still_step
  still_call (s1 _)
  repeat still_step
  still_call (s0 _)
  repeat still_step
  refine wpStill_nil ?_
  go_wp2_with (go_at_call 118; refine (ho _ _ _ (Blk.newAt rfl rfl)).mono ?_; rintro e w1 ⟨rfl, rfl⟩)
  go_ret
  exact ⟨rfl, K.out.2.2.alloc _⟩
end Go.Proofs.Ytmagaapdijapiaa
namespace Go.Proofs.Ytmagaapdijapiaa
open Go.ChangeShapes Go.WideShapes Go.ChangeAt Go.RowKit
open Go.Sort (SWO)
/-- a cell; a block -/
abbrev Ce := { f : List Int // f.length = 2 }
abbrev Bo := { b : Bl // b.1.length = 2 ∧ b.2.length = 16 }
instance : Inhabited Ce := ⟨⟨[0, 0], rfl⟩⟩
instance : Inhabited Bo := ⟨⟨([0, 0], zr16), rfl, rfl⟩⟩
def encC (f : Ce) : List Value := f.1.map (.int .i32)
def encB (b : Bo) : List Value := bvs b.1
theorem encC_len (f : Ce) : (encC f).length = 2 := by rw [encC, List.length_map, f.2]
theorem encB_len (b : Bo) : (encB b).length = 18 := bvs_length b.2
theorem encC_one (f : Ce) : ∀ v ∈ encC f, v.oneCell' = true := ints_one
theorem encB_one (b : Bo) : ∀ v ∈ encB b, v.oneCell' = true := bvs_one b.1
def cmpL (a b : List Int) : Int := cmpC (a.getD 0 0) (a.getD 1 0) (b.getD 0 0) (b.getD 1 0)
theorem cmpL_lt (a b : List Int) : decide (cmpL a b < 0) = true ↔ ltL a b := by
  rw [cmpL, cmpC_lt, ltL]
  split
  · exact ⟨fun _ => .inl (by assumption), fun _ => rfl⟩
  · split
    · rw [decide_eq_true_iff]
      omega
    · exact ⟨fun h => absurd h (by decide), fun h => by omega⟩
theorem cmpL_not (a b : List Int) : decide (cmpL a b < 0) = false ↔ ¬ ltL a b := by
  rw [← cmpL_lt, Bool.not_eq_true]
theorem swo_of {α : Type} [Inhabited α] (f : α → List Int) : SWO (ltOf fun a b : α => cmpL (f a) (f b)) :=
  ⟨fun x => (cmpL_not _ _).2 (by unfold ltL; omega), fun x y z h1 h2 => (cmpL_lt _ _).2 (by
    have h1 := (cmpL_lt _ _).1 h1
    have h2 := (cmpL_lt _ _).1 h2
    unfold ltL at *
    omega), fun x y z h1 h2 => (cmpL_not _ _).2 (by
    have h1 := (cmpL_not _ _).1 h1
    have h2 := (cmpL_not _ _).1 h2
    unfold ltL at *
    omega)⟩
theorem encC_two (f : Ce) : (encC f).toArray = #[.int .i32 (f.1.getD 0 0), .int .i32 (f.1.getD 1 0)] := by
  rw [encC, two_of f.2]
  rfl
theorem cmpCells_grew (a0 a1 b0 b1 : Int) (w : World) :
    Calls Try.prog 117 #[.agg #[.int .i32 a0, .int .i32 a1], .agg #[.int .i32 b0, .int .i32 b1]] w fun e w' => e = .returned (.int .i64 (cmpC a0 a1 b0 b1)) ∧ Grew w w' := by
  have HC := Lib.hid (fun W => compareCorners_grew a0 a1 b0 b1 W)
  have bW : Grew w ((w.alloc (.cells #[.int .i32 a0, .int .i32 a1] 60)).alloc (.cells #[.int .i32 b0, .int .i32 b1] 60)) := ((Grew.refl _).alloc _).alloc _
  have k0 : Blk ((w.alloc (.cells #[.int .i32 a0, .int .i32 a1] 60)).alloc (.cells #[.int .i32 b0, .int .i32 b1] 60)) w.heap.size 60 #[.int .i32 a0, .int .i32 a1] := (Blk.newAt rfl rfl).alloc _
  have k1 : Blk ((w.alloc (.cells #[.int .i32 a0, .int .i32 a1] 60)).alloc (.cells #[.int .i32 b0, .int .i32 b1] 60)) (w.heap.size + 1) 60 #[.int .i32 b0, .int .i32 b1] := Blk.newAt (by simp) rfl
  have BW := Lib.hid bW
  have K0 := Lib.hid k0
  have K1 := Lib.hid k1
  clear bW k0 k1
  generalize cmpC a0 a1 b0 b1 = r at *
  go_enter Try.func117, Try.ntmps117
  go_wp2_with (first
    | refine wpList_load_row rfl _ _ rfl w.heap.size rfl 60 #[.int .i32 a0, .int .i32 a1] (0, 0) _ K0.out Try.underlying60 rfl (by exact size60) ?_
    | refine wpList_load_row rfl _ _ rfl (w.heap.size + 1) rfl 60 #[.int .i32 b0, .int .i32 b1] (0, 0) _ K1.out Try.underlying60 rfl (by exact size60) ?_
    | (go_at_call 71; refine (HC.out _).mono ?_; rintro e w2 ⟨rfl, b2⟩; have B2 := Lib.hid (BW.out.trans b2); clear b2))
  go_ret
  exact ⟨rfl, B2.out⟩
theorem cmpBlocks_grew (b c : Bl) (hb : b.1.length = 2 ∧ b.2.length = 16) (hc : c.1.length = 2 ∧ c.2.length = 16) (w : World) :
    Calls Try.prog 124 #[.agg (bav b), .agg (bav c)] w fun e w' => e = .returned (.int .i64 (cmpL b.1 c.1)) ∧ Grew w w' := by
  have HC := Lib.hid (fun W => compareCorners_grew (b.1.getD 0 0) (b.1.getD 1 0) (c.1.getD 0 0) (c.1.getD 1 0) W)
  have bW : Grew w ((w.alloc (.cells (bav b) 78)).alloc (.cells (bav c) 78)) := ((Grew.refl _).alloc _).alloc _
  have k0 : Blk ((w.alloc (.cells (bav b) 78)).alloc (.cells (bav c) 78)) w.heap.size 78 (bav b) := (Blk.newAt rfl rfl).alloc _
  have k1 : Blk ((w.alloc (.cells (bav b) 78)).alloc (.cells (bav c) 78)) (w.heap.size + 1) 78 (bav c) := Blk.newAt (by simp) rfl
  have r0 := k0.rangeV (bav_at1 hb)
  have r1 := k1.rangeV (bav_at1 hc)
  rw [two_eq hb.1] at r0
  rw [two_eq hc.1] at r1
  have BW := Lib.hid bW
  have R0 := Lib.hid r0
  have R1 := Lib.hid r1
  clear bW k0 k1 r0 r1
  have he : cmpL b.1 c.1 = cmpC (b.1.getD 0 0) (b.1.getD 1 0) (c.1.getD 0 0) (c.1.getD 1 0) := rfl
  rw [he]
  clear he
  generalize cmpC (b.1.getD 0 0) (b.1.getD 1 0) (c.1.getD 0 0) (c.1.getD 1 0) = r at *
  generalize b.1.getD 0 0 = a0 at *
  generalize b.1.getD 1 0 = a1 at *
  generalize c.1.getD 0 0 = b0 at *
  generalize c.1.getD 1 0 = b1 at *
  go_enter Try.func124, Try.ntmps124
  go_wp2_with (first
    | refine wpList_load_mid rfl _ _ rfl w.heap.size 0 (by rfl) [.int .i32 a0, .int .i32 a1] _ R0.out Try.underlying63 rfl size63 ?_
    | refine wpList_load_mid rfl _ _ rfl (w.heap.size + 1) 0 (by rfl) [.int .i32 b0, .int .i32 b1] _ R1.out Try.underlying63 rfl size63 ?_
    | (go_at_call 71; refine (HC.out _).mono ?_; rintro e w2 ⟨rfl, b2⟩; have B2 := Lib.hid (BW.out.trans b2); clear b2))
  go_ret
  exact ⟨rfl, B2.out⟩
/-- lists of cells, of blocks, each of its length -/
theorem liftC {l : List (List Int)} (h : ∀ f ∈ l, f.length = 2) : ∃ k : List Ce, k.map (·.1) = l := ⟨l.pmap (fun f hf => ⟨f, hf⟩) h, by rw [List.map_pmap]; simp⟩
theorem liftB {l : List Bl} (h : ∀ b ∈ l, b.1.length = 2 ∧ b.2.length = 16) : ∃ k : List Bo, k.map (·.1) = l := ⟨l.pmap (fun f hf => ⟨f, hf⟩) h, by rw [List.map_pmap]; simp⟩
theorem catC (k : List Ce) : catV encC k = pvs (k.map (·.1)) := by
  rw [catV, pvs, List.map_flatten, List.map_map]
  rfl
theorem catB (k : List Bo) : catV encB k = bcs (k.map (·.1)) := by
  rw [catV, bcs, List.map_map]
  rfl
theorem sortCells_any (l : List (List Int)) (hl : Rows_ 2 l) {w : World} {lo hi g n c : Nat} (hn : l.length = n) (hn2 : n ≤ 1048576) (ho : Own w lo hi 60 2 (some ⟨g, 0, none⟩) n c (pvs l)) :
    Calls Try.prog 116 #[.slice (some ⟨g, 0, none⟩) n c, .func (.func 117) #[] #[]] w fun e w' => e = .returned (.tuple #[]) ∧ ∃ l', List.Perm l' l ∧ (l'.Pairwise fun x y => ¬ ltL y x) ∧ Own w' lo hi 60 2 (some ⟨g, 0, none⟩) n c (pvs l') ∧ Below lo w w' := by
  obtain ⟨k, rfl⟩ := liftC hl
  have hk : k.length = n := by rw [← hn, List.length_map]
  subst hk
  rw [← catC] at ho
  refine (sort_own (P := Try.prog) (enc := encC) (k := 2) Try.laysSlF06_f116 (by decide) (fun w => by kernel_rfl) (fun w => by kernel_rfl) encC_len encC_one (fun a b => cmpL a.1 b.1) (swo_of (fun a : Ce => a.1)) 117 (fun _ _ => by kernel_rfl) (fun W x y => by
    rw [encC_two, encC_two]
    exact cmpCells_grew _ _ _ _ W) k rfl ho (by omega)).mono ?_
  rintro e w' ⟨rfl, l', h1, h2, h3, h4⟩
  rw [catC] at h3
  refine ⟨rfl, l'.map (·.1), h1.map _, ?_, h3, h4⟩
  rw [List.pairwise_map]
  exact h2.imp fun {a b} h => (cmpL_not _ _).1 h
theorem sortBlocks_any (l : List Bl) (hl : Bls l) {w : World} {lo hi g n c : Nat} (hn : l.length = n) (hn2 : n ≤ 1048576) (ho : Own w lo hi 78 18 (some ⟨g, 0, none⟩) n c (bcs l)) :
    Calls Try.prog 123 #[.slice (some ⟨g, 0, none⟩) n c, .func (.func 124) #[] #[]] w fun e w' => e = .returned (.tuple #[]) ∧ ∃ l', List.Perm l' l ∧ (l'.Pairwise fun x y => ¬ ltC y x) ∧ Own w' lo hi 78 18 (some ⟨g, 0, none⟩) n c (bcs l') ∧ Below lo w w' := by
  obtain ⟨k, rfl⟩ := liftB hl
  have hk : k.length = n := by rw [← hn, List.length_map]
  subst hk
  rw [← catB] at ho
  refine (sort_own (P := Try.prog) (enc := encB) (k := 18) Try.laysSlF06_f123 (by decide) (fun w => by kernel_rfl) (fun w => by kernel_rfl) encB_len encB_one (fun a b => cmpL a.1.1 b.1.1) (swo_of (fun a : Bo => a.1.1)) 124 (fun _ _ => by kernel_rfl) (fun W x y => cmpBlocks_grew x.1 y.1 x.2 y.2 W) k rfl ho (by omega)).mono ?_
  rintro e w' ⟨rfl, l', h1, h2, h3, h4⟩
  rw [catB] at h3
  refine ⟨rfl, l'.map (·.1), h1.map _, ?_, h3, h4⟩
  rw [List.pairwise_map]
  exact h2.imp fun {a b} h => fun hlt => (cmpL_not _ _).1 h hlt
end Go.Proofs.Ytmagaapdijapiaa
namespace Go.Proofs.Ytmagaapdijapiaa
open Go.ChangeShapes Go.WideShapes Go.ChangeAt Go.RowKit
/-- a list that passes as a picture -/
structure VPic (l : List Bl) : Prop where
  pic : Pic l
  far : ∀ b ∈ l, inFar b
  ok : ∀ b ∈ l, okCells (bCells b) = true
  few : l.length ≤ 64
theorem blkOk_of_vpB {l : List Bl} (h : vpB l = true) {b : Bl} (hb : b ∈ l) : blkOk b = true := by
  obtain ⟨k, hk, rfl⟩ := List.getElem_of_mem hb
  rw [vpB, Bool.and_eq_true, vpTo, List.all_eq_true] at h
  have := h.1 k (List.mem_range.2 hk)
  rw [blkAt, Bool.and_eq_true, getDB_at hk] at this
  exact this.2
theorem vpic_of {l : List Bl} (hl : Bls l) (h16 : ∀ b ∈ l, is16 b.2) (h : vpB l = true) : VPic l :=
  ⟨⟨rising_of_vpB h, fun b hb e => by
    have := blkOk_of_vpB h hb
    rw [blkOk, emptyM, e] at this
    simp at this, hl, h16⟩, fun b hb => by
    have := blkOk_of_vpB h hb
    rw [blkOk, farB, Bool.and_eq_true, Bool.and_eq_true, Bool.and_eq_true] at this
    exact farB_in this.2.1.1 this.2.1.2, fun b hb => by
    have := blkOk_of_vpB h hb
    rw [blkOk, Bool.and_eq_true, Bool.and_eq_true] at this
    exact this.2.2, by
    rw [vpB, Bool.and_eq_true, decide_eq_true_iff] at h
    exact h.2⟩
theorem VPic.cells {l : List Bl} (h : VPic l) {X Y : Int} (hx : hasB l X Y = true) : cellB X Y = true := by
  have hm : [X, Y] ∈ specC l := (spec_mem h.pic.apart h.pic.bls _).2 ⟨rfl, hx⟩
  rw [(specC_perm _ l (Nat.le_refl _)).mem_iff] at hm
  obtain ⟨b, hb, hc⟩ := List.mem_flatMap.1 hm
  have := h.ok b hb
  rw [okCells, List.all_eq_true] at this
  exact this _ hc
theorem VPic.holds {l : List Bl} (h : VPic l) (X Y : Int) : holdsB l X Y = hasB l X Y := by
  rw [holdsB]
  cases hx : hasB l X Y
  · rw [Bool.and_false]
  · rw [h.cells hx]; rfl
theorem VPic.count {l : List Bl} (h : VPic l) : (specC l).length ≤ 16384 := by
  have := specC_length l
  have := h.few
  omega
theorem addr_add0 (b j : Nat) : (⟨b, 0, none⟩ : Addr).add j = ⟨b, j, none⟩ := by unfold Addr.add; split <;> simp_all
theorem Own.news {w : World} {lo hi g : Nat} {e : TypeId} {size n c : Nat} {xs : List Value} (h : Own w lo hi e size (some ⟨g, 0, none⟩) n c xs) : ∀ j u, xs[j]? = some u → w.cell? ((⟨g, 0, none⟩ : Addr).add j) = some u := fun j u hu => by
  rw [addr_add0]
  exact (h.cellV hu).1
theorem flatB_take_succ {l : List Bl} {k : Nat} (hk : k < l.length) : (l.take (k + 1)).flatMap bCells = (l.take k).flatMap bCells ++ bCells l[k] := by
  rw [List.take_succ_eq_append_getElem hk, List.flatMap_append]
  simp
theorem flat_rows (l : List Bl) : Rows_ 2 (l.flatMap bCells) := fun f hf => by
  obtain ⟨b, _, hb⟩ := List.mem_flatMap.1 hf
  exact bCells_rows b f hb
set_option maxRecDepth 20000 in
set_option maxHeartbeats 3200000 in
theorem cellsOf_any (A : Option Addr) (n c : Nat) (l : List Bl) (hl : l.length = n) (hv : VPic l) (w : World) (hR : Rd w w.heap.size 18 A n (bcs l)) :
    Calls Try.prog 70 #[.slice A n c] w (GivesCells (specC l) w) := by
  obtain ⟨i0, hi, hz0, hz1, hzb⟩ := info_parts Pair_info
  have hn64 : n ≤ 64 := by have := hv.few; omega
  have HR := Lib.hid hR
  have HV := Lib.hid hv
  have HL := Lib.hid hl
  have h0 : (w.alloc (.cells #[] 60)).ownsRow w.heap.size 60 2 (.slice (some ⟨w.heap.size, 0, none⟩) 0 0) ((l.take 0).flatMap bCells).length (pvs ((l.take 0).flatMap bCells)) := by
    have := World.ownsRow_lit (e := 60) (base := w.heap.size) (size := 2) w #[] 0 (Nat.le_refl _) (by unfold maxLen; omega) rfl
    exact this
  have H0 := Lib.hid h0
  have B0 := Lib.hid ((Below.refl w.heap.size w).alloc (Nat.le_refl _) (.cells #[] 60))
  clear hR hv h0 hl
  go_enter Try.func70, Try.ntmps70
  go_wp2
  go_loopw [3, 9] (fun v i wr => ∃ k : Nat, k ≤ n ∧ i = .int .i64 k ∧ (∃ g cc, v = .slice (some ⟨g, 0, none⟩) ((l.take k).flatMap bCells).length cc) ∧ wr.ownsRow w.heap.size 60 2 v ((l.take k).flatMap bCells).length (pvs ((l.take k).flatMap bCells)) ∧ Below w.heap.size w wr) (fun _ i _ => n - (intOf i).toNat)
  case atStart => exact ⟨0, by omega, rfl, ⟨_, _, rfl⟩, H0.out, B0.out⟩
  case round =>
    clear H0 B0
    obtain ⟨k, hk, rfl, ⟨g, cc, rfl⟩, ho, hb⟩ := hrel
    by_cases hlt : k < n
    · have hkl : k < l.length := by have := HL.out; omega
      have hz := hb.size
      have hRw := HR.out.below hb (Nat.le_refl _)
      obtain ⟨b, o, rfl, hbB, hc⟩ := hRw.at_ (by omega)
      have hrg := hRw.block HV.out.pic.bls (by omega) hkl
      have hF1 := HV.out.pic.bls.at_ hkl
      have hF2 := HV.out.far _ (List.getElem_mem hkl)
      have hF3 := HV.out.pic.m16 _ (List.getElem_mem hkl)
      have hsu := flatB_take_succ hkl
      have hlen : ((l.take k).flatMap bCells).length ≤ 256 * 64 := by
        have := flat_len (l.take k)
        rw [List.length_take] at this
        omega
      obtain ⟨F, hF⟩ : ∃ F, F = l[k] := ⟨_, rfl⟩
      rw [← hF] at hrg hF1 hF2 hF3 hsu
      obtain ⟨L, hL⟩ : ∃ L, L = (l.take k).flatMap bCells := ⟨_, rfl⟩
      have hrows : Rows_ 2 L := by rw [hL]; exact flat_rows _
      rw [← hL] at ho hlen hsu ⊢
      have hlF := bCells_length F
      have hpl : (pvs (bCells F)).length = (bCells F).length * 2 := by rw [pvs, List.length_map, flat_length (bCells_rows F)]
      have HRG := Lib.hid hrg
      have HF1 := Lib.hid hF1
      have HC := Lib.hid (fun W => iCells_any F hF1 hF3 hF2 W)
      have HSU := Lib.hid hsu
      have hlt' : (k : Int) < n := by omega
      have HB := Lib.hid hb
      have HO := Lib.hid ho
      clear hc hbB hrg hF1 hF2 hF3 hsu hb ho hRw hF hL hrows
      go_wp2_with (first
        | refine wpList_load_mid rfl _ _ rfl b (o + k * 18) (by rfl) (bvs F) _ HRG.out Try.underlying78 rfl (by rw [bvs_length HF1.out]; exact size78) ?_
        | (refine wpList_store_row rfl _ _ _ rfl wr.heap.size (bav F) rfl rfl 78 (bav (zr2, zr16)) (Blk.newAt rfl rfl) (by rw [bav_size HF1.out]; exact size78) (by rw [bav_size HF1.out, bav_size ⟨rfl, rfl⟩]) (bav_one F) ?_; generalize hw5 : World.setRow _ _ _ = w5; have G0 : Hid (Blk w5 wr.heap.size 78 (bav F)) := Lib.hid (by rw [← hw5]; exact (Blk.newAt rfl rfl).row _); have B5 : Hid (Below w.heap.size w w5) := Lib.hid (by rw [← hw5]; exact below_setRow (HB.out.alloc hz _) (g := wr.heap.size) hz _); have B5r : Hid (Below wr.heap.size wr w5) := Lib.hid (by rw [← hw5]; exact below_setRow ((Below.refl _ _).alloc (Nat.le_refl _) _) (g := wr.heap.size) (Nat.le_refl _) _); clear hw5)
        | refine wpList_load_row rfl _ _ rfl wr.heap.size rfl 78 (bav F) (0, 0) _ G0.out Try.underlying78 rfl (by rw [bav_size HF1.out]; exact size78) ?_
        | (go_at_call 74; refine (HC.out _).mono ?_; rintro e w7 ⟨g7, c7, rfl, hO7, hb7⟩; have z5 := B5.out.size; have z5r := B5r.out.size; have z7 := hb7.size; have HN7 := Lib.hid hO7.news; have B7 := Lib.hid (B5.out.trans (hb7.mono z5)); have HO7 := Lib.hid (own_below HO.out (B5r.out.trans (hb7.mono z5r)) (Nat.le_refl _)); clear hO7 hb7)
        | (at_builtin; refine wpList_append_own _ rfl _ _ 56 rfl w.heap.size 60 i0 _ 2 8 Try.underlying56 hi hz0 hz1 hzb rfl (by decide) (.slice (some ⟨g, 0, none⟩) L.length cc) L.length _ rfl HO7.out ⟨g7, 0, none⟩ (bCells F).length c7 (pvs (bCells F)) rfl hpl HN7.out pvs_one (by unfold maxLen; omega) (by omega) (by omega) ?_; intro v' w8 hown' hgrow hnil; rw [← pvs_append] at hown'; have HOWN := Lib.hid hown'; have HGR := Lib.hid hgrow; have HNIL := Lib.hid hnil; clear hown' hgrow hnil))
      have hle : ((l.take (k + 1)).flatMap bCells).length = L.length + (bCells F).length := by rw [HSU.out, List.length_append]
      have hne := fun j e => (HO7.out.lt j e).1
      have hown2 := HOWN.out
      rw [← HSU.out, ← hle] at hown2
      have hsl : ∃ g' cc', v' = .slice (some ⟨g', 0, none⟩) ((l.take (k + 1)).flatMap bCells).length cc' := by
        rcases hown2.2 with ⟨rfl, h0⟩ | ⟨g', cc', cur, rfl, _⟩
        · exact absurd (HNIL.out.1 rfl).1 (by simp)
        · exact ⟨_, _, rfl⟩
      exact ⟨⟨k + 1, by omega, by go_num, hsl, hown2, B7.out.grown HGR.out (by omega) (fun j e => by have := hne j e; omega)⟩, by simp [intOf]; omega⟩
    · obtain rfl : k = n := by omega
      rw [List.take_of_length_le (by have := HL.out; omega)] at ho
      have hlen : (l.flatMap bCells).length ≤ 16384 := by
        have := flat_len l
        have := HL.out
        omega
      rw [List.take_of_length_le (by have := HL.out; omega)]
      obtain ⟨A1, c1, hve, hOO⟩ := Own.of_row ho
      cases hve
      have HS := Lib.hid (sortCells_any (l.flatMap bCells) (flat_rows l) rfl (by omega) hOO)
      have HSP : Hid (∀ s : List (List Int), s.Perm (l.flatMap bCells) → (s.Pairwise fun x y => ¬ ltL y x) → s = specC l) := Lib.hid (fun s => cells_sorted_eq HV.out.pic.rising)
      have HLE : Hid ((specC l).length = (l.flatMap bCells).length) := Lib.hid (specC_perm _ l (Nat.le_refl _)).length_eq
      have HB := Lib.hid hb
      clear ho hb hOO
      generalize l.flatMap bCells = L at *
      generalize specC l = S at *
      go_wp2_with (go_at_call 116; refine HS.out.mono ?_; rintro e w2 ⟨rfl, s, hp, hs, ho2, hb2⟩; obtain rfl := HSP.out s hp hs; have HO2 := Lib.hid ho2; have HB2 := Lib.hid (HB.out.trans hb2); have HZ := Lib.hid hb2.size; clear ho2 hb2 hp hs)
      go_ret
      exact ⟨g, cc, by rw [HLE.out]; rfl, by rw [HLE.out]; exact HO2.out.more HZ.out, HB2.out⟩
end Go.Proofs.Ytmagaapdijapiaa
namespace Go.Proofs.Ytmagaapdijapiaa
open Go.ChangeShapes Go.WideShapes Go.ChangeAt Go.RowKit
theorem step_append_own {P : Program} {ops : Array Oper} {o : Oper} {a : Act} {w : World} {K : Act → World → Prop} {Q : Exit → Act → World → Prop} {E : Prop}
    (hg : o.guard = none) (s x : Operand) (t : TypeId) (hop : o.op = Op.call { callee := Callee.builtin Builtin.append, args := #[s, x], argTypes := #[t, t] })
    (base : Nat) (e : TypeId) (i : TypeInfo) (z : Value) (size bytes : Nat) (h1 : P.underlying t = some (.slice e)) (h2 : P.info? e = some i) (h3 : i.zero = some z) (h4 : i.size = size) (h5 : i.bytes = bytes) (h6 : z.cells.size = size) (h7 : 0 < size)
    (v : Value) (k : Nat) (xs : List Value) (hs : a.eval s = v) (hown : w.ownsRow base e size v k xs) (ad : Addr) (m c : Nat) (news : List Value) (hx : a.eval x = .slice (some ad) m c) (hn : news.length = m * size)
    (hc : ∀ j u, news[j]? = some u → w.cell? (ad.add j) = some u) (h1c : ∀ u ∈ news, u.oneCell' = true) (b1 : k + m ≤ maxLen) (b2 : (k + m) * bytes ≤ 140737488355328) (b3 : base ≤ w.heap.size)
    (hK : ∀ v' w', w'.ownsRow base e size v' (k + m) (xs ++ news) → w.grownBy w' v.ownBlock → K (a.put o.dst v') w') :
    if Region.wanted o (yielded ops a.tmps) = true then Oper.wp P o a w K Q else E := by
  have hw : Region.wanted o (yielded ops a.tmps) = true := by simp [Region.wanted, hg]
  rw [if_pos hw]
  subst hs
  obtain ⟨v', w', hrun, r1, r2, _⟩ := run_append_own (P := P) w base t o.type e i z size bytes h1 h2 h3 h4 h5 h6 h7 _ k xs hown ad m c news hn hc h1c b1 b2 b3
  unfold Oper.wp
  simp [execOp, hop, resolve, invoke, builtin, hx, hrun, Result.andThen]
  exact hK v' w' r1 r2
set_option maxHeartbeats 1600000 in
theorem l07HasAt_any (g o : Nat) (M : List Int) (hM : M.length = 16) (h16 : is16 M) (x y : Nat) (hx : x < 16) (hy : y < 16) (w : World) (h : w.rangeAt g o (M.map (.int .u16))) :
    Calls Try.prog 89 #[.pointer (some ⟨g, o, none⟩), .int .i64 x, .int .i64 y] w fun e w' => e = .returned (.bool (bitB M x y)) ∧ w = w' := by
  have c1 : w.cell? ⟨g, o + y, none⟩ = some (.int .u16 (M.getD y 0)) := h y _ (by rw [List.getElem?_map, List.getD_eq_getElem?_getD, List.getElem?_eq_getElem (by omega)]; rfl)
  obtain ⟨v0, v1⟩ := h16.getD y
  have hb : bitB M x y = decide (M.getD y 0 / 2 ^ x % 2 = 1) := rfl
  rw [hb]
  generalize M.getD y 0 = v at *
  have hx0 : (0 : Int) ≤ x := by omega
  have hx1 : (x : Int) < 16 := by omega
  have hy0 : (0 : Int) ≤ y := by omega
  have hy1 : (y : Int) < 16 := by omega
  clear h hb h16
  go_enter Try.func89, Try.ntmps89
  go_wp2
  go_ret
  rw [bit_eq v0 v1]
  exact ⟨rfl, rfl⟩
/-- the blocks of one row -/
def gap (l : List Bl) (k q : Nat) : List Bl := (l.drop k).take (q - k)
theorem gap_length {l : List Bl} {k q : Nat} (h1 : k ≤ q) (h2 : q ≤ l.length) : (gap l k q).length = q - k := by rw [gap, List.length_take, List.length_drop]; omega
theorem gap_at {l : List Bl} {k q j : Nat} (h1 : k ≤ j) (h2 : j < q) (h3 : q ≤ l.length) : (gap l k q)[j - k]'(by rw [gap_length (by omega) h3]; omega) = l[j]'(by omega) := by
  simp only [gap, List.getElem_take, List.getElem_drop]
  congr 1
  omega
/-- what a loop of the reference holds -/
def Told (w wr : World) (v : Value) (L : List (List Int)) : Prop := (∃ g cc, v = .slice (some ⟨g, 0, none⟩) L.length cc) ∧ wr.ownsRow w.heap.size 60 2 v L.length (pvs L) ∧ Below w.heap.size w wr
theorem Told.drew {w wr : World} {v : Value} {L : List (List Int)} (h : Told w wr v L) : Told w wr.drew v L := ⟨h.1, h.2.1, below_drew h.2.2⟩
theorem Told.drewN {w wr : World} {v : Value} {L : List (List Int)} (h : Told w wr v L) (m : Nat) : Told w (wr.drewN m) v L := ⟨h.1, h.2.1, below_drewN h.2.2 m⟩
theorem rows_of_told {l : List Bl} {P R : List (List Int)} (h : P ++ R = specC l) : Rows_ 2 P := fun f hf => specC_rows l f (by rw [← h]; exact List.mem_append_left _ hf)
/-- the corner and the mask of a block, where they lie -/
theorem rd_corner {w : World} {B b o n : Nat} {l : List Bl} (h : Rd w B 18 (some ⟨b, o, none⟩) n (bcs l)) (hl : Bls l) (hn : l.length = n) {k : Nat} (hk : k < l.length) :
    w.cell? ⟨b, o + k * 18, none⟩ = some (.int .i32 ((l[k]).1.getD 0 0)) ∧ w.cell? ⟨b, o + k * 18 + 1, none⟩ = some (.int .i32 ((l[k]).1.getD 1 0)) ∧ w.rangeAt b (o + k * 18 + 2) ((l[k]).2.map (.int .u16)) := by
  have hr := h.block hl (by omega) hk
  have h1 := (hl.at_ hk).1
  refine ⟨?_, ?_, fun j v hv => ?_⟩
  · exact hr 0 _ (by rw [bvs, List.getElem?_append_left (by rw [List.length_map, h1]; omega), List.getElem?_map, List.getD_eq_getElem?_getD, List.getElem?_eq_getElem (by omega)]; rfl)
  · exact hr 1 _ (by rw [bvs, List.getElem?_append_left (by rw [List.length_map, h1]; omega), List.getElem?_map, List.getD_eq_getElem?_getD, List.getElem?_eq_getElem (by omega)]; rfl)
  · rw [Nat.add_assoc (o + k * 18)]
    exact hr (2 + j) v (by rw [bvs, List.getElem?_append_right (by rw [List.length_map, h1]; omega), List.length_map, h1, Nat.add_sub_cancel_left]; exact hv)
end Go.Proofs.Ytmagaapdijapiaa
namespace Go.Proofs.Ytmagaapdijapiaa
open Go.ChangeShapes Go.WideShapes Go.ChangeAt Go.RowKit
def setAll : List Value → Nat → List Value → List Value
  | xs, _, [] => xs
  | xs, o, v :: vs => setAll (xs.set o v) (o + 1) vs
theorem setAll_length : ∀ (vs xs : List Value) (o : Nat), (setAll xs o vs).length = xs.length
  | [], _, _ => rfl
  | v :: vs, xs, o => by rw [setAll, setAll_length vs, List.length_set]
theorem setAll_get : ∀ (vs xs : List Value) (o i : Nat), o + vs.length ≤ xs.length → (setAll xs o vs)[i]? = if o ≤ i ∧ i < o + vs.length then vs[i - o]? else xs[i]?
  | [], xs, o, i, _ => by rw [setAll, if_neg (by rw [List.length_nil]; omega)]
  | v :: vs, xs, o, i, h => by
    simp only [List.length_cons] at h
    rw [setAll, setAll_get vs (xs.set o v) (o + 1) i (by rw [List.length_set]; omega), List.length_cons]
    by_cases h1 : i = o
    · subst h1
      rw [if_neg (by omega), if_pos (by omega), Nat.sub_self, List.getElem?_set_self (by omega)]
      rfl
    · by_cases h2 : o + 1 ≤ i ∧ i < o + 1 + vs.length
      · rw [if_pos h2, if_pos (by omega), show i - o = (i - (o + 1)) + 1 by omega, List.getElem?_cons_succ]
      · rw [if_neg h2, if_neg (by omega), List.getElem?_set_ne (fun e => h1 e.symm)]
section
variable {lo hi g : Nat} {e : TypeId} {size n c : Nat}
theorem Own.setAllC : ∀ (vs : List Value) {xs : List Value} (o : Nat) {w : World}, Own w lo hi e size (some ⟨g, 0, none⟩) n c xs → Own (w.setCells g o vs) lo hi e size (some ⟨g, 0, none⟩) n c (setAll xs o vs)
  | [], _, _, _, h => h
  | v :: vs, _xs, o, _w, h => Own.setAllC vs (o + 1) (h.setV o v)
theorem Own.thereC {w : World} {xs : List Value} (h : Own w lo hi e size (some ⟨g, 0, none⟩) n c xs) (o m : Nat) (hm : o + m ≤ n * size) : w.there g o m := fun j hj => by
  have hl := h.1
  obtain ⟨h1, h2⟩ := h.cellV (j := o + j) (u := xs[o + j]'(by omega)) (List.getElem?_eq_getElem (by omega))
  exact ⟨by rw [h1]; rfl, h2⟩
end
theorem bcs_set {l : List Bl} (hl : Bls l) {k : Nat} (hk : k < l.length) {b : Bl} (hb : b.1.length = 2 ∧ b.2.length = 16) {off : Nat} {vs : List Value} (ho : off + vs.length ≤ 18) (he : bvs b = setAll (bvs l[k]) off vs) : setAll (bcs l) (k * 18 + off) vs = bcs (l.set k b) := by
  have hs : Bls (l.set k b) := fun c hc => by
    rcases List.mem_or_eq_of_mem_set hc with h | rfl
    · exact hl c h
    · exact hb
  have hlen := bcs_length hl
  have hle : k * 18 + off + vs.length ≤ (bcs l).length := by omega
  have hkl := bvs_length (hl.at_ hk)
  apply List.ext_getElem?
  intro i
  rw [setAll_get vs (bcs l) _ i hle]
  by_cases hi : i < l.length * 18
  · have e : i = i / 18 * 18 + i % 18 := by omega
    have hq : i / 18 < l.length := by omega
    have hr : i % 18 < 18 := by omega
    have g1 := bcs_get hs (i := i / 18) (j := i % 18) (by rw [List.length_set]; exact hq) hr
    have g2 := bcs_get hl hq hr
    rw [← e] at g1 g2
    rw [g1]
    by_cases hqk : i / 18 = k
    · subst hqk
      simp only [List.getElem_set_self]
      rw [he, setAll_get vs _ _ _ (by omega), g2]
      by_cases hin : off ≤ i % 18 ∧ i % 18 < off + vs.length
      · rw [if_pos hin, if_pos (by omega)]
        congr 1
        omega
      · rw [if_neg hin, if_neg (by omega)]
    · rw [if_neg (by omega), g2]
      congr 2
      rw [List.getElem_set_ne (fun e => hqk e.symm)]
  · rw [if_neg (by omega), List.getElem?_eq_none (by omega), List.getElem?_eq_none (by rw [bcs_length hs, List.length_set]; omega)]
theorem setAll_whole {xs vs : List Value} (h : vs.length = xs.length) : setAll xs 0 vs = vs := by
  apply List.ext_getElem?
  intro i
  rw [setAll_get vs xs 0 i (by omega)]
  by_cases hi : i < vs.length
  · rw [if_pos (by omega)]; rfl
  · rw [if_neg (by omega), List.getElem?_eq_none (by omega), List.getElem?_eq_none (by omega)]
theorem bcs_set_whole {l : List Bl} (hl : Bls l) {k : Nat} (hk : k < l.length) {b : Bl} (hb : b.1.length = 2 ∧ b.2.length = 16) : setAll (bcs l) (k * 18) (bvs b) = bcs (l.set k b) :=
  bcs_set hl hk hb (off := 0) (by rw [bvs_length hb]; omega) (setAll_whole (by rw [bvs_length hb, bvs_length (hl.at_ hk)])).symm
theorem bcs_set_mask {l : List Bl} (hl : Bls l) {k : Nat} (hk : k < l.length) {M : List Int} (hM : M.length = 16) : setAll (bcs l) (k * 18 + 2) (M.map (.int .u16)) = bcs (l.set k ((l[k]).1, M)) := by
  have hb := hl.at_ hk
  refine bcs_set (b := ((l[k]).1, M)) (off := 2) hl hk ⟨hb.1, hM⟩ (by rw [List.length_map, hM]; omega) ?_
  apply List.ext_getElem?
  intro i
  have hb1 := hb.1
  rw [setAll_get _ _ _ _ (by rw [List.length_map, bvs_length hb]; omega), bvs, bvs, List.length_map]
  dsimp only
  by_cases h1 : i < 2
  · rw [if_neg (by omega), List.getElem?_append_left (by rw [List.length_map]; omega), List.getElem?_append_left (by rw [List.length_map]; omega)]
  · rw [List.getElem?_append_right (by rw [List.length_map]; omega), List.length_map]
    by_cases h2 : i < 18
    · rw [if_pos (by omega), hb.1]
    · rw [if_neg (by omega), List.getElem?_eq_none (by rw [List.length_map]; omega), List.getElem?_eq_none (by rw [List.length_append, List.length_map, List.length_map]; omega)]
section
variable {w : World} {lo hi g n c : Nat} {e : TypeId} {l : List Bl}
theorem own_block (h : Own w lo hi e 18 (some ⟨g, 0, none⟩) n c (bcs l)) (hl : Bls l) {k : Nat} (hk : k < l.length) : w.rangeAt g (k * 18) (bvs l[k]) := fun j v hv => by
  have hj : j < 18 := by rw [← bvs_length (hl.at_ hk)]; exact (List.getElem?_eq_some_iff.1 hv).1
  exact (h.cellV (j := k * 18 + j) (u := v) (by rw [bcs_get hl hk hj]; exact hv)).1
theorem own_corner (h : Own w lo hi e 18 (some ⟨g, 0, none⟩) n c (bcs l)) (hl : Bls l) {k : Nat} (hk : k < l.length) : w.rangeAt g (k * 18) ((l[k]).1.map (.int .i32)) := fun q v hq => own_block h hl hk q v (by
  rw [bvs, List.getElem?_append_left (by exact (List.getElem?_eq_some_iff.1 hq).1)]
  exact hq)
theorem own_mask (h : Own w lo hi e 18 (some ⟨g, 0, none⟩) n c (bcs l)) (hl : Bls l) {k : Nat} (hk : k < l.length) : w.rangeAt g (k * 18 + 2) ((l[k]).2.map (.int .u16)) := fun j v hv => by
  rw [Nat.add_assoc]
  exact own_block h hl hk (2 + j) v (by rw [bvs, List.getElem?_append_right (by rw [List.length_map, (hl.at_ hk).1]; omega), List.length_map, (hl.at_ hk).1, Nat.add_sub_cancel_left]; exact hv)
end
theorem bvs_pair (X Y : Int) (M : List Int) : bvs ([X, Y], M) = .int .i32 X :: .int .i32 Y :: M.map (.int .u16) := rfl
end Go.Proofs.Ytmagaapdijapiaa
namespace Go.Proofs.Ytmagaapdijapiaa
open Go.ChangeShapes Go.WideShapes Go.ChangeAt Go.RowKit
theorem run_buildBlock (X Y : Int) (M : List Int) (hM : M.length = 16) (W : World) : (Instr.build 78 #[(0, .agg #[.int .i32 X, .int .i32 Y]), (1, .agg (ivs .u16 M))]).run Try.prog W = .ok (.agg (bav ([X, Y], M))) W := by
  match M, hM with
  | [a, b, c, d, e, f, g, h, i, j, k, l, m, n, o, p], _ => exact run_build W _ _ _ (by kernel_rfl)
theorem wpList_build_block {w : World} {ops : Array Oper} {rest : List Oper} {o : Oper} {a : Act} {Q : Exit → Act → World → Prop} (hgd : o.guard = none) (x y : Operand) (ho : o.op = .build 78 #[(0, x), (1, y)])
    (X Y : Int) (M : List Int) (hM : M.length = 16) (hx : a.eval x = .agg #[.int .i32 X, .int .i32 Y]) (hy : a.eval y = .agg (ivs .u16 M))
    (h : wpList Try.prog ops Q rest (a.put o.dst (.agg (bav ([X, Y], M)))) w) : wpList Try.prog ops Q (o :: rest) a w := by
  refine wpList_plain hgd fun K hK => ?_
  have hr := run_buildBlock X Y M hM w
  unfold Oper.wp execOp
  simp only [ho, List.map_toArray, List.map_cons, List.map_nil, hx, hy, Sem.run_bind, hr, Result.andThen_ok]
  exact hK _ _ h
theorem run_buildSlice_block {P : Program} {t e : TypeId} {i : TypeInfo} {z : Value} (ht : P.underlying t = some (.slice e)) (hi : P.info? e = some i) (hz : i.zero = some z) (hsize : i.size = 18)
    (b : Bl) (hb : b.1.length = 2 ∧ b.2.length = 16) (w : World) :
    (Instr.buildSlice t 1 #[(0, .agg (bav b))]).run P w = .ok (.slice (some ⟨w.heap.size, 0, none⟩) 1 1) (w.alloc (.cells (bav b) e)) := by
  refine run_buildSlice w t e 1 _ _ i z ht hi hz (by rw [hsize]; omega) (by rw [hsize]; omega) ?_
  have hf := Great.fill_whole (s := 18) (by omega) [Value.agg (bav b)] ((Array.range (1 * 18)).map (z.cells[· % z.cells.size]!)) (fun v hv => by
    rw [List.mem_singleton] at hv
    subst hv
    exact bav_size hb) (by simp)
  rw [hsize]
  have e1 : ([Value.agg (bav b)].flatMap fun v => v.cells.toList).toArray = bav b := by
    rw [List.flatMap_cons, List.flatMap_nil, List.append_nil]
    simp [Value.cells]
  rw [e1] at hf
  exact hf
theorem wpList_buildSlice_block {P : Program} {w : World} {ops : Array Oper} {rest : List Oper} {o : Oper} {a : Act} {Q : Exit → Act → World → Prop} (hgd : o.guard = none) (t e : TypeId) (x : Operand) (ho : o.op = .buildSlice t 1 #[(0, x)])
    {i : TypeInfo} {z : Value} (ht : P.underlying t = some (.slice e)) (hi : P.info? e = some i) (hz : i.zero = some z) (hsize : i.size = 18)
    (b : Bl) (hb : b.1.length = 2 ∧ b.2.length = 16) (hx : a.eval x = .agg (bav b))
    (h : wpList P ops Q rest (a.put o.dst (.slice (some ⟨w.heap.size, 0, none⟩) 1 1)) (w.alloc (.cells (bav b) e))) : wpList P ops Q (o :: rest) a w := by
  refine wpList_plain hgd fun K hK => ?_
  have hr := run_buildSlice_block (P := P) ht hi hz hsize b hb w
  unfold Oper.wp execOp
  simp only [ho, List.map_toArray, List.map_cons, List.map_nil, hx, Sem.run_bind, hr, Result.andThen_ok]
  exact hK _ _ h
theorem block_news (W : World) (b : Bl) : ∀ j u, (bcs [b])[j]? = some u → (W.alloc (.cells (bav b) 78)).cell? ((⟨W.heap.size, 0, none⟩ : Addr).add j) = some u := fun j u hu => by
  rw [addr_add0, (Blk.newAt (w := W) (t := 78) (cs := bav b) rfl rfl).cell, bav, List.getElem?_toArray]
  rw [bcs, List.map_cons, List.map_nil, List.flatten_cons, List.flatten_nil, List.append_nil] at hu
  exact hu
theorem bcs_append (a b : List Bl) : bcs (a ++ b) = bcs a ++ bcs b := by rw [bcs, bcs, bcs, List.map_append, List.flatten_append]
theorem bls_append {a b : List Bl} (ha : Bls a) (hb : Bls b) : Bls (a ++ b) := fun c hc => by
  rcases List.mem_append.1 hc with h | h
  · exact ha c h
  · exact hb c h
theorem bls_one {b : Bl} (hb : b.1.length = 2 ∧ b.2.length = 16) : Bls [b] := fun c hc => by rw [List.mem_singleton] at hc; subst hc; exact hb
theorem bcs_one (l : List Bl) : ∀ v ∈ bcs l, v.oneCell' = true := fun v hv => by
  obtain ⟨f, hf, hv⟩ := List.mem_flatten.1 hv
  obtain ⟨b, _, rfl⟩ := List.mem_map.1 hf
  exact bvs_one b v hv
theorem emptyM_iff {M : List Int} : emptyM M = true ↔ M = zr16 := by rw [emptyM, beq_iff_eq]
theorem own_some {w : World} {base : Nat} {e : TypeId} {size n : Nat} {v : Value} {xs : List Value} (h : w.ownsRow base e size v n xs) (hn : 0 < n) : ∃ g c, v = .slice (some ⟨g, 0, none⟩) n c := by
  rcases h.2 with ⟨_, rfl⟩ | ⟨g, cap, cur, rfl, _⟩
  · omega
  · exact ⟨g, cap, rfl⟩
/-! ### what a picture becomes -/
open Classical in
/-- the picture with some masks -/
noncomputable def picOf (F : List Int → List Int) : List Bl := if h : ∃ P, Pic P ∧ ∀ key, maskAt P key = F key then h.choose else []
theorem picOf_eq {F : List Int → List Int} {P : List Bl} (hP : Pic P) (h : ∀ key, maskAt P key = F key) : picOf F = P := by
  have hx : ∃ P, Pic P ∧ ∀ key, maskAt P key = F key := ⟨P, hP, h⟩
  rw [picOf, dif_pos hx]
  have hc := hx.choose_spec
  exact pic_ext hc.1.rising hP.rising hc.1.noVoid hP.noVoid fun key => (hc.2 key).trans (h key).symm
/-- what is told of it -/
def picR (P : List Bl) : List Bl := if P.length ≤ 64 then P else []
def picK (P : List Bl) : Int := if P.length ≤ 64 then 0 else 3
theorem picR_length (P : List Bl) : (picR P).length ≤ 64 := by
  rw [picR]
  split
  · assumption
  · exact Nat.zero_le _
def GivesToldB (L : List Bl) (k : Int) (w : World) (e : Ending) (w' : World) : Prop :=
  ∃ A c, e = .returned (.tuple #[.slice A L.length c, .int .i64 k]) ∧ Own w' w.heap.size w'.heap.size 78 18 A L.length c (bcs L) ∧ Below w.heap.size w w'
theorem GivesToldB.nil {w w' : World} {k : Int} (hb : Below w.heap.size w w') : GivesToldB [] k w (.returned (.tuple #[.slice none 0 0, .int .i64 k])) w' := ⟨none, 0, rfl, ⟨rfl, .inl ⟨rfl, rfl, rfl⟩⟩, hb⟩
theorem GivesToldB.lit {w w1 : World} {k : Int} (hb : Below w.heap.size w w1) : GivesToldB [] k w (.returned (.tuple #[.slice (some ⟨w1.heap.size, 0, none⟩) 0 0, .int .i64 k])) (w1.alloc (.cells #[] 78)) := by
  have h0 := World.ownsRow_lit (e := 78) (base := w.heap.size) (size := 18) w1 #[] 0 hb.size (by unfold maxLen; omega) rfl
  obtain ⟨A, c, he, ho⟩ := Own.of_row h0
  cases he
  exact ⟨_, _, rfl, ho, hb.alloc hb.size _⟩
/-- a table whose blocks with cells are sorted is a picture -/
theorem pic_sorted {l m : List Bl} (hl : Tab l) (hp : m.Perm (solid l)) (hs : m.Pairwise fun x y => ¬ ltC y x) : Pic m ∧ ∀ key, maskAt m key = maskAt l key := by
  have ha := solid_apart hl.apart
  have hmem : ∀ b ∈ m, b ∈ l := fun b hb => (List.mem_filter.1 (hp.mem_iff.1 hb)).1
  refine ⟨⟨rising_of_sorted (fun b hb => hl.bls b (hmem b hb)) (apart_perm ha hp) hs, fun b hb => solid_noVoid l b (hp.mem_iff.1 hb), fun b hb => hl.bls b (hmem b hb), fun b hb => hl.m16 b (hmem b hb)⟩, fun key => ?_⟩
  rw [maskAt_perm ha hp, maskAt_solid hl.apart]
end Go.Proofs.Ytmagaapdijapiaa
namespace Go.Proofs.Ytmagaapdijapiaa
open Go.ChangeShapes Go.WideShapes Go.ChangeAt Go.RowKit
theorem opData_255Y {l : List (List Int)} (h : ∀ f ∈ l, is255 f) : is255 (opData l) := fun x hx => by
  unfold opData at hx
  split at hx
  · exact dataOf_255 h x (List.mem_of_mem_take hx)
  · cases hx
theorem opHead_255Y {l : List (List Int)} (h : ∀ f ∈ l, is255 f) : is255 (opHead l) := by
  cases l with
  | nil => intro x hx; cases hx
  | cons f r => exact h f (List.mem_cons_self ..)
theorem opCount_rangeY {l : List (List Int)} (h : ∀ f ∈ l, is255 f) : 0 ≤ opCount l ∧ opCount l ≤ 4294967295 := by
  unfold opCount
  split
  · exact numAt_range (opHead_255Y h) 4
  · omega
theorem Rd.partY {w : World} {B n b o : Nat} {D : List Int} (h : Rd w B 1 (some ⟨b, o, none⟩) n (D.map (.int .u8))) (i m : Nat) (hi : i + m ≤ n) : Rd w B 1 (some ⟨b, o + i, none⟩) m (((D.drop i).take m).map (.int .u8)) := by
  have hl : D.length = n := by have := h.1; rwa [List.length_map, Nat.mul_one] at this
  refine ⟨by rw [List.length_map, List.length_take, List.length_drop]; omega, fun hn => ?_⟩
  obtain ⟨b', o', e, hb, hc⟩ := h.2 (by omega)
  cases e
  refine ⟨b, o + i, rfl, hb, fun j u hu => ?_⟩
  rw [List.map_take, List.map_drop, List.getElem?_take] at hu
  split at hu
  · rw [List.getElem?_drop] at hu
    rw [Nat.add_assoc]
    exact hc _ _ hu
  · cases hu
/-! ### what is told -/
theorem rdTo_far {d : List Int} : ∀ {k : Nat} {out : List Bl} {a : Nat}, rdTo d k = some (out, a) → 9 * k ≤ a
  | 0, out, a, h => by omega
  | k + 1, out, a, h => by
    cases hp : rdTo d k with
    | none => rw [rdTo, hp] at h; cases h
    | some p =>
      obtain ⟨o, q⟩ := p
      have i1 := rdTo_far hp
      cases ho : okD d q
      · rw [rdTo_no hp ho] at h; cases h
      · rw [rdTo_yes hp ho] at h
        cases h
        omega
section
variable {l : List (List Int)} (hC : opCode l = 0)
theorem rp_code (hC : opCode l ≠ 0) : rpL l = [] ∧ rpC l = opCode l := by
  rw [rpL, rpX, if_neg (fun h => hC h.1), rpC, if_neg hC]
  exact ⟨rfl, rfl⟩
include hC
theorem rp_kind (hK : opKind l ≠ 2) : rpL l = [] ∧ rpC l = 5 := by
  rw [rpL, rpC, if_pos hC, rpX, if_neg (fun h => hK h.2)]
  exact ⟨rfl, rfl⟩
theorem rp_none (h : rdTo (opData l) (opCount l).toNat = none) : rpL l = [] ∧ rpC l = 5 := by
  by_cases hK : opKind l = 2
  · rw [rpL, rpC, if_pos hC, rpX, if_pos ⟨hC, hK⟩, h]
    exact ⟨rfl, rfl⟩
  · exact rp_kind hC hK
theorem rp_bad {out : List Bl} {p : Nat} (h : rdTo (opData l) (opCount l).toNat = some (out, p)) (hb : vpB out = false ∨ picD out ≠ opData l) : rpL l = [] ∧ rpC l = 5 := by
  by_cases hK : opKind l = 2
  · have hf : (vpB out && (picD out == opData l)) = false := by
      rcases hb with hb | hb
      · rw [hb]; rfl
      · rw [beq_eq_false_iff_ne.2 hb, Bool.and_false]
    rw [rpL, rpC, if_pos hC, rpX, if_pos ⟨hC, hK⟩, h]
    simp only [hf]
    exact ⟨rfl, rfl⟩
  · exact rp_kind hC hK
theorem rp_yes (hK : opKind l = 2) {out : List Bl} {p : Nat} (h : rdTo (opData l) (opCount l).toNat = some (out, p)) (hv : vpB out = true) (hd : picD out = opData l) : rpL l = out ∧ rpC l = 0 := by
  have hf : (vpB out && (picD out == opData l)) = true := by rw [hv, hd, beq_self_eq_true]; rfl
  rw [rpL, rpC, if_pos hC, rpX, if_pos ⟨hC, hK⟩, h]
  simp only [hf]
  exact ⟨rfl, rfl⟩
end
end Go.Proofs.Ytmagaapdijapiaa
