/- ValidDeed: the reference's and the program's walk come to the same answer. -/
import Derived.Test.YtagcmgnakejlcaaRows
import Derived.Test.YtagcmgnakejlcaaBase
namespace Go.Proofs.Ytagcmgnakejlcaa
open Go.ChangeShapes Go.WideShapes Go.ChangeAt Go.RowKit

def inB (n lo hi : Int) : Bool := decide (lo ≤ n) && decide (n ≤ hi)
theorem inB_true {n lo hi : Int} (h : inB n lo hi = true) : lo ≤ n ∧ n ≤ hi := by simpa [inB] using h
theorem inB_false {n lo hi : Int} (h : inB n lo hi = false) : n < lo ∨ hi < n := by
  simp only [inB, Bool.and_eq_false_iff, decide_eq_false_iff_not] at h
  omega

set_option maxHeartbeats 400000 in
theorem l00In_any (n lo hi : Int) (w : World) : Calls Try.prog 18 #[.int .i64 n, .int .i64 lo, .int .i64 hi] w fun e w' => e = .returned (.bool (inB n lo hi)) ∧ w = w' := by
  go_enter Try.func18, Try.ntmps18
  go_wp2
  all_goals
    go_ret
    exact ⟨by simp [inB, *]; try omega, rfl⟩

set_option maxHeartbeats 400000 in
theorem inRange_any (n lo hi : Int) (w : World) : Calls Try.prog 21 #[.int .i64 n, .int .i64 lo, .int .i64 hi] w fun e w' => e = .returned (.bool (inB n lo hi)) ∧ w = w' := by
  go_enter Try.func21, Try.ntmps21
  go_wp2
  all_goals
    go_ret
    exact ⟨by simp [inB, *]; try omega, rfl⟩

/-- how many numbers a kind has -/
def nums (k : Int) : Int := if k = 7 ∨ k = 8 then 0 else if k = 6 then 2 else if 1 ≤ k ∧ k ≤ 9 then 1 else 0
def numsS (k : Int) : Int := if k = 7 ∨ k = 8 then 0 else if k = 6 then 2 else 1
theorem nums_eq {k : Int} (h1 : 1 ≤ k) (h2 : k ≤ 9) : numsS k = nums k := by
  unfold nums numsS
  split <;> try rfl
  split <;> try rfl
  rw [if_pos ⟨h1, h2⟩]

set_option maxHeartbeats 400000 in
theorem l10Numbers_any (k : Int) (w : World) : Calls Try.prog 19 #[.int .i64 k] w fun e w' => e = .returned (.int .i64 (numsS k)) ∧ w = w' := by
  by_cases h7 : k = 7
  · subst h7; go_enter Try.func19, Try.ntmps19; go_wp2; go_ret; exact ⟨rfl, rfl⟩
  by_cases h8 : k = 8
  · subst h8; go_enter Try.func19, Try.ntmps19; go_wp2; go_ret; exact ⟨rfl, rfl⟩
  by_cases h6 : k = 6
  · subst h6; go_enter Try.func19, Try.ntmps19; go_wp2; go_ret; exact ⟨rfl, rfl⟩
  have e : numsS k = 1 := by simp [numsS, h7, h8, h6]
  rw [e]
  go_enter Try.func19, Try.ntmps19
  go_wp2
  go_ret
  exact ⟨rfl, rfl⟩

/-- the word of a kind, as bytes -/
def word (k : Int) : ByteArray :=
  if k = 1 then ⟨#[103, 105, 118, 101]⟩ else if k = 2 then ⟨#[119, 111, 114, 107]⟩ else if k = 3 then ⟨#[100, 101, 108, 105, 118, 101, 114]⟩ else if k = 4 then ⟨#[99, 111, 112, 121]⟩ else if k = 5 then ⟨#[100, 114, 111, 112]⟩
  else if k = 6 then ⟨#[115, 112, 111, 105, 108]⟩ else if k = 7 then ⟨#[115, 121, 110, 99]⟩ else if k = 8 then ⟨#[99, 114, 97, 115, 104]⟩ else if k = 9 then ⟨#[113, 117, 105, 116]⟩ else ⟨#[]⟩
theorem word_in {k : Int} (h1 : 1 ≤ k) (h2 : k ≤ 9) : (word k).toList ≠ [] := by
  rcases (by omega : k = 1 ∨ k = 2 ∨ k = 3 ∨ k = 4 ∨ k = 5 ∨ k = 6 ∨ k = 7 ∨ k = 8 ∨ k = 9) with rfl | rfl | rfl | rfl | rfl | rfl | rfl | rfl | rfl <;> decide +kernel

set_option maxHeartbeats 800000 in
theorem deedWord_any (k : Int) (w : World) : Calls Try.prog 20 #[.int .i64 k] w fun e w' => e = .returned (.tuple #[.string (word k), .int .i64 (nums k)]) ∧ w = w' := by
  by_cases h : 1 ≤ k ∧ k ≤ 9
  · rcases (by omega : k = 1 ∨ k = 2 ∨ k = 3 ∨ k = 4 ∨ k = 5 ∨ k = 6 ∨ k = 7 ∨ k = 8 ∨ k = 9) with rfl | rfl | rfl | rfl | rfl | rfl | rfl | rfl | rfl
    all_goals
      go_enter Try.func20, Try.ntmps20
      go_wp2
      go_ret2
      exact ⟨rfl, rfl⟩
  · have e1 : word k = ⟨#[]⟩ := by
      unfold word
      rw [if_neg (by omega), if_neg (by omega), if_neg (by omega), if_neg (by omega), if_neg (by omega), if_neg (by omega), if_neg (by omega), if_neg (by omega), if_neg (by omega)]
    have e2 : nums k = 0 := by
      unfold nums
      rw [if_neg (by omega), if_neg (by omega), if_neg (by omega)]
    rw [e1, e2]
    clear e1 e2
    have hk : k < 1 ∨ 9 < k := by omega
    clear h
    rcases hk with hk | hk
    all_goals
      go_enter Try.func20, Try.ntmps20
      go_wp2
      go_ret2
      exact ⟨rfl, rfl⟩

def deedB (k a b : Int) : Bool := inB k 1 9 && inB a 0 999 && inB b 0 999 && (decide (0 < nums k) || a == 0) && (decide (1 < nums k) || b == 0)

theorem nums_cases (k : Int) : nums k = 0 ∨ nums k = 1 ∨ nums k = 2 := by
  unfold nums
  split
  · exact .inl rfl
  · split
    · exact .inr (.inr rfl)
    · split
      · exact .inr (.inl rfl)
      · exact .inl rfl

set_option maxHeartbeats 1600000 in
theorem sValidDeed_any (k a b : Int) (w : World) : Calls Try.prog 9 #[.agg #[.int .i64 k, .int .i64 a, .int .i64 b]] w fun e w' => e = .returned (.bool (deedB k a b)) ∧ Below w.heap.size w w' := by
  cases h1 : inB k 1 9
  · have e : deedB k a b = false := by simp [deedB, h1]
    rw [e]; clear e
    go_enter Try.func9, Try.ntmps9
    go_wp2_with (go_at_call 18; refine (l00In_any _ _ _ _).mono ?_; rintro e w' ⟨rfl, rfl⟩)
    go_ret
    exact ⟨rfl, (Below.refl _ _).alloc (Nat.le_refl _) _⟩
  cases h2 : inB a 0 999
  · have e : deedB k a b = false := by simp [deedB, h2]
    rw [e]; clear e
    go_enter Try.func9, Try.ntmps9
    go_wp2_with (go_at_call 18; refine (l00In_any _ _ _ _).mono ?_; rintro e w' ⟨rfl, rfl⟩)
    go_ret
    exact ⟨rfl, (Below.refl _ _).alloc (Nat.le_refl _) _⟩
  cases h3 : inB b 0 999
  · have e : deedB k a b = false := by simp [deedB, h3]
    rw [e]; clear e
    go_enter Try.func9, Try.ntmps9
    go_wp2_with (go_at_call 18; refine (l00In_any _ _ _ _).mono ?_; rintro e w' ⟨rfl, rfl⟩)
    go_ret
    exact ⟨rfl, (Below.refl _ _).alloc (Nat.le_refl _) _⟩
  have hk := inB_true h1
  have e : deedB k a b = ((decide (0 < nums k) || a == 0) && (decide (1 < nums k) || b == 0)) := by simp [deedB, h1, h2, h3]
  rw [e]; clear e
  have hn := nums_cases k
  have es := nums_eq hk.1 hk.2
  have hc : ∀ W, Calls Try.prog 19 #[.int .i64 k] W fun e w' => e = .returned (.int .i64 (nums k)) ∧ W = w' := fun W => by rw [← es]; exact l10Numbers_any k W
  have HC := Lib.hid hc
  clear hc es hk
  generalize nums k = m at *
  rcases hn with rfl | rfl | rfl
  all_goals
    by_cases ha : a = 0 <;> by_cases hb : b = 0
  all_goals
    go_enter Try.func9, Try.ntmps9
    go_wp2_with (first
      | (go_at_call 18; refine (l00In_any _ _ _ _).mono ?_; rintro e w' ⟨rfl, rfl⟩)
      | (go_at_call 19; refine (HC.out _).mono ?_; rintro e w' ⟨rfl, rfl⟩))
    go_ret
    exact ⟨by simp [ha, hb], (Below.refl _ _).alloc (Nat.le_refl _) _⟩

theorem word_out {k : Int} (h : inB k 1 9 = false) : word k = ⟨#[]⟩ := by
  have := inB_false h
  unfold word
  rw [if_neg (by omega), if_neg (by omega), if_neg (by omega), if_neg (by omega), if_neg (by omega), if_neg (by omega), if_neg (by omega), if_neg (by omega), if_neg (by omega)]

set_option maxHeartbeats 1600000 in
theorem iValidDeed_any (k a b : Int) (w : World) : Calls Try.prog 11 #[.agg #[.int .i64 k, .int .i64 a, .int .i64 b]] w fun e w' => e = .returned (.bool (deedB k a b)) ∧ Below w.heap.size w w' := by
  have hc := deedWord_any k
  cases h1 : inB k 1 9
  · have e : deedB k a b = false := by simp [deedB, h1]
    rw [word_out h1] at hc
    generalize nums k = m at *
    have HC := Lib.hid hc
    rw [e]; clear e hc
    go_enter Try.func11, Try.ntmps11
    go_wp2_with (first
      | (go_at_call 21; refine (inRange_any _ _ _ _).mono ?_; rintro e w' ⟨rfl, rfl⟩)
      | (go_at_call 20; refine (HC.out _).mono ?_; rintro e w' ⟨rfl, rfl⟩))
    go_ret
    exact ⟨rfl, (Below.refl _ _).alloc (Nat.le_refl _) _⟩
  have hk := inB_true h1
  have hw := word_in hk.1 hk.2
  have hs1 : (word k).toList.isEmpty = false := by simpa using hw
  have hn := nums_cases k
  have e : deedB k a b = (inB a 0 999 && inB b 0 999 && (decide (0 < nums k) || a == 0) && (decide (1 < nums k) || b == 0)) := by simp [deedB, h1]
  rw [e]
  clear e hw hk h1
  generalize nums k = m at *
  generalize word k = s at *
  have HC := Lib.hid hc
  clear hc
  cases h2 : inB a 0 999
  · go_enter Try.func11, Try.ntmps11
    go_wp2_with (first
      | (go_at_call 21; refine (inRange_any _ _ _ _).mono ?_; rintro e w' ⟨rfl, rfl⟩)
      | (go_at_call 20; refine (HC.out _).mono ?_; rintro e w' ⟨rfl, rfl⟩))
    go_ret
    exact ⟨rfl, (Below.refl _ _).alloc (Nat.le_refl _) _⟩
  cases h3 : inB b 0 999
  · go_enter Try.func11, Try.ntmps11
    go_wp2_with (first
      | (go_at_call 21; refine (inRange_any _ _ _ _).mono ?_; rintro e w' ⟨rfl, rfl⟩)
      | (go_at_call 20; refine (HC.out _).mono ?_; rintro e w' ⟨rfl, rfl⟩))
    go_ret
    exact ⟨rfl, (Below.refl _ _).alloc (Nat.le_refl _) _⟩
  rcases hn with rfl | rfl | rfl
  all_goals
    by_cases ha : a = 0 <;> by_cases hb : b = 0
  all_goals
    go_enter Try.func11, Try.ntmps11
    go_wp2_with (first
      | (go_at_call 21; refine (inRange_any _ _ _ _).mono ?_; rintro e w' ⟨rfl, rfl⟩)
      | (go_at_call 20; refine (HC.out _).mono ?_; rintro e w' ⟨rfl, rfl⟩))
    go_ret
    exact ⟨by simp [ha, hb], (Below.refl _ _).alloc (Nat.le_refl _) _⟩

set_option maxHeartbeats 400000 in
theorem toDeed_any (k a b : Int) (w : World) : Calls Try.prog 10 #[.agg #[.int .i64 k, .int .i64 a, .int .i64 b]] w fun e w' => e = .returned (.agg #[.int .i64 k, .int .i64 a, .int .i64 b]) ∧ Below w.heap.size w w' := by
  go_enter Try.func10, Try.ntmps10
  go_wp2
  exact bodyPost_ret (v := .agg #[.int .i64 k, .int .i64 a, .int .i64 b]) (by simp [results, Try.results10, go_sem]) rfl ⟨rfl, (((Below.refl _ _).alloc (Nat.le_refl _) _).alloc (by simp) _).alloc (by simp; omega) _⟩

set_option maxHeartbeats 400000 in
theorem lawValidDeed_any (k a b : Int) (w : World) : Calls Try.prog 4 #[.agg #[.int .i64 k, .int .i64 a, .int .i64 b]] w fun e w' => e = .returned (.bool true) ∧ Below w.heap.size w w' := by
  have h1 : Blk (w.alloc (.cells #[.int .i64 k, .int .i64 a, .int .i64 b] 28)) w.heap.size 28 #[.int .i64 k, .int .i64 a, .int .i64 b] := Blk.newAt rfl rfl
  have b1 : Below w.heap.size w (w.alloc (.cells #[.int .i64 k, .int .i64 a, .int .i64 b] 28)) := (Below.refl _ _).alloc (Nat.le_refl _) _
  go_enter Try.func4, Try.ntmps4
  go_wp2_with fail
  refine (toDeed_any k a b _).mono ?_
  rintro e w2 ⟨rfl, hb2⟩
  go_wp2_with fail
  refine (sValidDeed_any k a b _).mono ?_
  rintro e w3 ⟨rfl, hb3⟩
  have z2 := hb2.size
  rw [size_alloc] at z2
  have B3 : Below w.heap.size w w3 := (b1.trans (hb2.mono (by rw [size_alloc]; omega))).trans (hb3.mono (by omega))
  have h3 : Blk w3 w.heap.size 28 #[.int .i64 k, .int .i64 a, .int .i64 b] := (h1.below hb2 (by rw [size_alloc]; omega)).below hb3 (by omega)
  have z3 := hb3.size
  clear hb2 hb3 h1 b1
  go_wp2_with (refine wpList_load_row rfl _ _ rfl w.heap.size rfl 28 _ (0, 0) _ h3 Try.underlying28 rfl (by kernel_rfl) ?_)
  refine (toDeed_any k a b _).mono ?_
  rintro e w5 ⟨rfl, hb5⟩
  go_wp2_with fail
  refine (iValidDeed_any k a b _).mono ?_
  rintro e w6 ⟨rfl, hb6⟩
  have z5 := hb5.size
  have B6 : Below w.heap.size w w6 := (B3.trans (hb5.mono (by omega))).trans (hb6.mono (by omega))
  clear hb5 hb6 h3 B3
  go_wp2
  go_ret
  exact ⟨rfl, B6⟩
end Go.Proofs.Ytagcmgnakejlcaa
