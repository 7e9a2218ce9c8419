/- ValidDeed: the reference's and the program's walk come to the same answer. -/
import Derived.Test.YtfjfiljgbkhblaaDoorRows
import Derived.Test.YtfjfiljgbkhblaaDoorBase
import Derived.Test.YtfjfiljgbkhblaaDoorInr
namespace Go.Proofs.YtfjfiljgbkhblaaDoor
open Go.ChangeShapes Go.WideShapes Go.ChangeAt Go.RowKit

set_option maxHeartbeats 400000 in
theorem inRange_any (n lo hi : Int) (w : World) : Calls Tryd.prog 47 #[.int .i64 n, .int .i64 lo, .int .i64 hi] w fun e w' => e = .returned (.bool (inB n lo hi)) ∧ w = w' := by
  go_enter Tryd.func47, Tryd.ntmps47
  go_wp2
  all_goals
    go_ret
    exact ⟨by simp [inB, *]; try omega, rfl⟩

/-- how many numbers a kind has -/
def numsK (k : Int) : Int := if k = 7 ∨ k = 8 then 0 else if k = 6 then 2 else if 1 ≤ k ∧ k ≤ 9 then 1 else 0
def numsS (k : Int) : Int := if k = 7 ∨ k = 8 then 0 else if k = 6 then 2 else 1
theorem nums_eq {k : Int} (h1 : 1 ≤ k) (h2 : k ≤ 9) : numsS k = numsK k := by
  unfold numsK numsS
  split <;> try rfl
  split <;> try rfl
  rw [if_pos ⟨h1, h2⟩]

set_option maxHeartbeats 400000 in
theorem l10Numbers_any (k : Int) (w : World) : Calls Tryd.prog 27 #[.int .i64 k] w fun e w' => e = .returned (.int .i64 (numsS k)) ∧ w = w' := by
  by_cases h7 : k = 7
  · subst h7; go_enter Tryd.func27, Tryd.ntmps27; go_wp2; go_ret; exact ⟨rfl, rfl⟩
  by_cases h8 : k = 8
  · subst h8; go_enter Tryd.func27, Tryd.ntmps27; go_wp2; go_ret; exact ⟨rfl, rfl⟩
  by_cases h6 : k = 6
  · subst h6; go_enter Tryd.func27, Tryd.ntmps27; go_wp2; go_ret; exact ⟨rfl, rfl⟩
  have e : numsS k = 1 := by simp [numsS, h7, h8, h6]
  rw [e]
  go_enter Tryd.func27, Tryd.ntmps27
  go_wp2
  go_ret
  exact ⟨rfl, rfl⟩

/-- the word of a kind, as bytes -/
def word (k : Int) : ByteArray :=
  if k = 1 then ⟨#[103, 105, 118, 101]⟩ else if k = 2 then ⟨#[119, 111, 114, 107]⟩ else if k = 3 then ⟨#[100, 101, 108, 105, 118, 101, 114]⟩ else if k = 4 then ⟨#[99, 111, 112, 121]⟩ else if k = 5 then ⟨#[100, 114, 111, 112]⟩
  else if k = 6 then ⟨#[115, 112, 111, 105, 108]⟩ else if k = 7 then ⟨#[115, 121, 110, 99]⟩ else if k = 8 then ⟨#[99, 114, 97, 115, 104]⟩ else if k = 9 then ⟨#[113, 117, 105, 116]⟩ else ⟨#[]⟩
theorem word_in {k : Int} (h1 : 1 ≤ k) (h2 : k ≤ 9) : (word k).toList ≠ [] := by
  rcases (by omega : k = 1 ∨ k = 2 ∨ k = 3 ∨ k = 4 ∨ k = 5 ∨ k = 6 ∨ k = 7 ∨ k = 8 ∨ k = 9) with rfl | rfl | rfl | rfl | rfl | rfl | rfl | rfl | rfl <;> decide +kernel

set_option maxHeartbeats 800000 in
theorem deedWord_any (k : Int) (w : World) : Calls Tryd.prog 29 #[.int .i64 k] w fun e w' => e = .returned (.tuple #[.string (word k), .int .i64 (numsK k)]) ∧ w = w' := by
  by_cases h : 1 ≤ k ∧ k ≤ 9
  · rcases (by omega : k = 1 ∨ k = 2 ∨ k = 3 ∨ k = 4 ∨ k = 5 ∨ k = 6 ∨ k = 7 ∨ k = 8 ∨ k = 9) with rfl | rfl | rfl | rfl | rfl | rfl | rfl | rfl | rfl
    all_goals
      go_enter Tryd.func29, Tryd.ntmps29
      go_wp2
      go_ret2
      exact ⟨rfl, rfl⟩
  · have e1 : word k = ⟨#[]⟩ := by
      unfold word
      rw [if_neg (by omega), if_neg (by omega), if_neg (by omega), if_neg (by omega), if_neg (by omega), if_neg (by omega), if_neg (by omega), if_neg (by omega), if_neg (by omega)]
    have e2 : numsK k = 0 := by
      unfold numsK
      rw [if_neg (by omega), if_neg (by omega), if_neg (by omega)]
    rw [e1, e2]
    clear e1 e2
    have hk : k < 1 ∨ 9 < k := by omega
    clear h
    rcases hk with hk | hk
    all_goals
      go_enter Tryd.func29, Tryd.ntmps29
      go_wp2
      go_ret2
      exact ⟨rfl, rfl⟩

def deedB (k a b : Int) : Bool := inB k 1 9 && inB a 0 999 && inB b 0 999 && (decide (0 < numsK k) || a == 0) && (decide (1 < numsK k) || b == 0)

theorem nums_cases (k : Int) : numsK k = 0 ∨ numsK k = 1 ∨ numsK k = 2 := by
  unfold numsK
  split
  · exact .inl rfl
  · split
    · exact .inr (.inr rfl)
    · split
      · exact .inr (.inl rfl)
      · exact .inl rfl

set_option maxHeartbeats 1600000 in
theorem sValidDeed_any (k a b : Int) (w : World) : Calls Tryd.prog 25 #[.agg #[.int .i64 k, .int .i64 a, .int .i64 b]] w fun e w' => e = .returned (.bool (deedB k a b)) ∧ Below w.heap.size w w' := by
  cases h1 : inB k 1 9
  · have e : deedB k a b = false := by simp [deedB, h1]
    rw [e]; clear e
    go_enter Tryd.func25, Tryd.ntmps25
    go_wp2_with (go_at_call 46; refine (l00In_any _ _ _ _).mono ?_; rintro e w' ⟨rfl, rfl⟩)
    go_ret
    exact ⟨rfl, (Below.refl _ _).alloc (Nat.le_refl _) _⟩
  cases h2 : inB a 0 999
  · have e : deedB k a b = false := by simp [deedB, h2]
    rw [e]; clear e
    go_enter Tryd.func25, Tryd.ntmps25
    go_wp2_with (go_at_call 46; refine (l00In_any _ _ _ _).mono ?_; rintro e w' ⟨rfl, rfl⟩)
    go_ret
    exact ⟨rfl, (Below.refl _ _).alloc (Nat.le_refl _) _⟩
  cases h3 : inB b 0 999
  · have e : deedB k a b = false := by simp [deedB, h3]
    rw [e]; clear e
    go_enter Tryd.func25, Tryd.ntmps25
    go_wp2_with (go_at_call 46; refine (l00In_any _ _ _ _).mono ?_; rintro e w' ⟨rfl, rfl⟩)
    go_ret
    exact ⟨rfl, (Below.refl _ _).alloc (Nat.le_refl _) _⟩
  have hk := inB_true h1
  have e : deedB k a b = ((decide (0 < numsK k) || a == 0) && (decide (1 < numsK k) || b == 0)) := by simp [deedB, h1, h2, h3]
  rw [e]; clear e
  have hn := nums_cases k
  have es := nums_eq hk.1 hk.2
  have hc : ∀ W, Calls Tryd.prog 27 #[.int .i64 k] W fun e w' => e = .returned (.int .i64 (numsK k)) ∧ W = w' := fun W => by rw [← es]; exact l10Numbers_any k W
  have HC := Lib.hid hc
  clear hc es hk
  generalize numsK k = m at *
  rcases hn with rfl | rfl | rfl
  all_goals
    by_cases ha : a = 0 <;> by_cases hb : b = 0
  all_goals
    go_enter Tryd.func25, Tryd.ntmps25
    go_wp2_with (first
      | (go_at_call 46; refine (l00In_any _ _ _ _).mono ?_; rintro e w' ⟨rfl, rfl⟩)
      | (go_at_call 27; refine (HC.out _).mono ?_; rintro e w' ⟨rfl, rfl⟩))
    go_ret
    exact ⟨by simp [ha, hb], (Below.refl _ _).alloc (Nat.le_refl _) _⟩

theorem word_out {k : Int} (h : inB k 1 9 = false) : word k = ⟨#[]⟩ := by
  have := inB_false h
  unfold word
  rw [if_neg (by omega), if_neg (by omega), if_neg (by omega), if_neg (by omega), if_neg (by omega), if_neg (by omega), if_neg (by omega), if_neg (by omega), if_neg (by omega)]

set_option maxHeartbeats 1600000 in
theorem iValidDeed_any (k a b : Int) (w : World) : Calls Tryd.prog 28 #[.agg #[.int .i64 k, .int .i64 a, .int .i64 b]] w fun e w' => e = .returned (.bool (deedB k a b)) ∧ Below w.heap.size w w' := by
  have hc := deedWord_any k
  cases h1 : inB k 1 9
  · have e : deedB k a b = false := by simp [deedB, h1]
    rw [word_out h1] at hc
    generalize numsK k = m at *
    have HC := Lib.hid hc
    rw [e]; clear e hc
    go_enter Tryd.func28, Tryd.ntmps28
    go_wp2_with (first
      | (go_at_call 47; refine (inRange_any _ _ _ _).mono ?_; rintro e w' ⟨rfl, rfl⟩)
      | (go_at_call 29; refine (HC.out _).mono ?_; rintro e w' ⟨rfl, rfl⟩))
    go_ret
    exact ⟨rfl, (Below.refl _ _).alloc (Nat.le_refl _) _⟩
  have hk := inB_true h1
  have hw := word_in hk.1 hk.2
  have hs1 : (word k).toList.isEmpty = false := by simpa using hw
  have hn := nums_cases k
  have e : deedB k a b = (inB a 0 999 && inB b 0 999 && (decide (0 < numsK k) || a == 0) && (decide (1 < numsK k) || b == 0)) := by simp [deedB, h1]
  rw [e]
  clear e hw hk h1
  generalize numsK k = m at *
  generalize word k = s at *
  have HC := Lib.hid hc
  clear hc
  cases h2 : inB a 0 999
  · go_enter Tryd.func28, Tryd.ntmps28
    go_wp2_with (first
      | (go_at_call 47; refine (inRange_any _ _ _ _).mono ?_; rintro e w' ⟨rfl, rfl⟩)
      | (go_at_call 29; refine (HC.out _).mono ?_; rintro e w' ⟨rfl, rfl⟩))
    go_ret
    exact ⟨rfl, (Below.refl _ _).alloc (Nat.le_refl _) _⟩
  cases h3 : inB b 0 999
  · go_enter Tryd.func28, Tryd.ntmps28
    go_wp2_with (first
      | (go_at_call 47; refine (inRange_any _ _ _ _).mono ?_; rintro e w' ⟨rfl, rfl⟩)
      | (go_at_call 29; refine (HC.out _).mono ?_; rintro e w' ⟨rfl, rfl⟩))
    go_ret
    exact ⟨rfl, (Below.refl _ _).alloc (Nat.le_refl _) _⟩
  rcases hn with rfl | rfl | rfl
  all_goals
    by_cases ha : a = 0 <;> by_cases hb : b = 0
  all_goals
    go_enter Tryd.func28, Tryd.ntmps28
    go_wp2_with (first
      | (go_at_call 47; refine (inRange_any _ _ _ _).mono ?_; rintro e w' ⟨rfl, rfl⟩)
      | (go_at_call 29; refine (HC.out _).mono ?_; rintro e w' ⟨rfl, rfl⟩))
    go_ret
    exact ⟨by simp [ha, hb], (Below.refl _ _).alloc (Nat.le_refl _) _⟩

set_option maxHeartbeats 400000 in
theorem toDeed_any (k a b : Int) (w : World) : Calls Tryd.prog 12 #[.agg #[.int .i64 k, .int .i64 a, .int .i64 b]] w fun e w' => e = .returned (.agg #[.int .i64 k, .int .i64 a, .int .i64 b]) ∧ Below w.heap.size w w' := by
  go_enter Tryd.func12, Tryd.ntmps12
  go_wp2
  exact bodyPost_ret (v := .agg #[.int .i64 k, .int .i64 a, .int .i64 b]) (by simp [results, Tryd.results12, go_sem]) rfl ⟨rfl, (((Below.refl _ _).alloc (Nat.le_refl _) _).alloc (by simp) _).alloc (by simp; omega) _⟩

end Go.Proofs.YtfjfiljgbkhblaaDoor
