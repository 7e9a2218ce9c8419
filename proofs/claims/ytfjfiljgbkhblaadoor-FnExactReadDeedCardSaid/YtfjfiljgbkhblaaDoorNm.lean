/- Numerals read: plain law. -/
import Derived.Test.YtfjfiljgbkhblaaDoorRows
import Derived.Test.YtfjfiljgbkhblaaDoorNx
namespace Go.Proofs.YtfjfiljgbkhblaaDoor
open Go.ChangeShapes Go.WideShapes Go.ChangeAt Go.RowKit

theorem decFrom_append : ∀ (l r : List UInt8) (a : Nat), Lib.decFrom a (l ++ r) = (Lib.decFrom a l).bind fun b => Lib.decFrom b r
  | [], _, _ => rfl
  | x :: l, r, a => by
    rw [List.cons_append, Lib.decFrom, Lib.decFrom]
    cases Lib.digitVal x with
    | none => rfl
    | some d => exact decFrom_append l r _
theorem digs_more {n : Nat} (h : ¬ n < 10) : Lib.decDigits n = Lib.decDigits (n / 10) ++ [UInt8.ofNat (48 + n % 10)] := by
  rw [Lib.decDigits, dif_neg h]
theorem digit_val : ∀ d, d < 10 → Lib.digitVal (UInt8.ofNat (48 + d)) = some d ∧ UInt8.ofNat (48 + d) ≠ 47 ∧ UInt8.ofNat (48 + d) ≠ 45 := by decide +kernel
theorem decFrom_digs : ∀ n, Lib.decFrom 0 (Lib.decDigits n) = some n := fun n => by
  induction n using Nat.strongRecOn with
  | _ n ih =>
    by_cases h : n < 10
    · rw [Lib.decDigits_one h, Lib.decFrom, (digit_val n h).1]
      simp [Lib.decFrom]
    · rw [digs_more h, decFrom_append, ih (n / 10) (by omega), Option.bind_some, Lib.decFrom, (digit_val (n % 10) (by omega)).1]
      simp only [Lib.decFrom, Option.some.injEq]
      omega
theorem digs_mem : ∀ n, ∀ x ∈ Lib.decDigits n, x ≠ 47 ∧ x ≠ 45 := fun n => by
  induction n using Nat.strongRecOn with
  | _ n ih =>
    by_cases h : n < 10
    · rw [Lib.decDigits_one h]
      intro x hx
      rw [List.mem_singleton] at hx
      subst hx
      exact (digit_val n h).2
    · rw [digs_more h]
      intro x hx
      rcases List.mem_append.1 hx with hx | hx
      · exact ih (n / 10) (by omega) x hx
      · rw [List.mem_singleton] at hx
        subst hx
        exact (digit_val (n % 10) (by omega)).2
theorem digs_ne (n : Nat) : ∃ x r, Lib.decDigits n = x :: r := by
  have := Lib.nDigits_pos n
  rw [← Lib.decDigits_length] at this
  cases e : Lib.decDigits n with
  | nil => rw [e] at this; simp at this
  | cons x r => exact ⟨x, r, rfl⟩
theorem digs_slash (n : Nat) : (Lib.decDigits n).contains 47 = false := by
  rw [← Bool.not_eq_true, List.contains_iff_mem]
  exact fun h => (digs_mem n 47 h).1 rfl
theorem digs_sign (n : Nat) : signOf (Lib.decDigits n) = false := by
  obtain ⟨x, r, e⟩ := digs_ne n
  have := digs_mem n x (by rw [e]; exact List.mem_cons_self)
  unfold signOf
  rw [e, List.head?_cons]
  exact beq_eq_false_iff_ne.2 fun h => this.2 (Option.some.inj h)
theorem digs_five {n : Nat} (h : n < 100000) : (Lib.decDigits n).length ≤ 5 := by
  rw [Lib.decDigits_length]
  rw [Lib.nDigits]; split
  · omega
  rw [Lib.nDigits]; split
  · omega
  rw [Lib.nDigits]; split
  · omega
  rw [Lib.nDigits]; split
  · omega
  rw [Lib.nDigits, dif_pos (by omega)]
  decide
theorem digs_six {n : Nat} (h : n < 100000) : sixV (Lib.decDigits n) = some n := by
  have h5 := digs_five h
  obtain ⟨x, r, e⟩ := digs_ne n
  rw [sixV, if_pos (by omega), Lib.decNat, if_neg (by rw [e]; simp)]
  exact decFrom_digs n
theorem num_whole {n : Nat} (h : n < 100000) : numV (Lib.decDigits n) = some ((n : Int), 0) := by
  have hs := digs_sign n
  have hb : bodyOf (Lib.decDigits n) = Lib.decDigits n := by rw [bodyOf, hs]; rfl
  have hc := cut_none (digs_slash n)
  unfold numV
  rw [hb, hc, hs]
  simp only [digs_six h]
  rfl
theorem num_neg {n k : Nat} (h : n < 100000) (k1 : 1 ≤ k) (k10 : k ≤ 10) : numV (45 :: (Lib.decDigits n ++ 47 :: Lib.decDigits (2 ^ k))) = some (-(n : Int), k) := by
  have hs : signOf (45 :: (Lib.decDigits n ++ 47 :: Lib.decDigits (2 ^ k))) = true := rfl
  have hb : bodyOf (45 :: (Lib.decDigits n ++ 47 :: Lib.decDigits (2 ^ k))) = Lib.decDigits n ++ 47 :: Lib.decDigits (2 ^ k) := rfl
  have hc := cut_app (c := 47) (Lib.decDigits (2 ^ k)) (digs_slash n)
  have hp := powEx_of k1 rfl 10 k10 (Nat.le_refl _)
  unfold numV
  rw [hb, hc, hs]
  simp only [digs_six h, hp, if_true, if_neg (show ¬ k = 0 by omega)]
theorem odd_pow : ∀ k, k < 11 → ∀ j, j < 11 → 1 ≤ k → 1 ≤ j → ¬ Lib.decDigits (2 ^ k + 1) = Lib.decDigits (2 ^ j) := by decide +kernel
theorem num_odd {n k : Nat} (h : n < 100000) (k1 : 1 ≤ k) (k10 : k ≤ 10) : numV (Lib.decDigits n ++ 47 :: Lib.decDigits (2 ^ k + 1)) = none := by
  obtain ⟨x, r, e⟩ := digs_ne n
  have hs0 := digs_sign n
  have hs : signOf (Lib.decDigits n ++ 47 :: Lib.decDigits (2 ^ k + 1)) = false := by
    unfold signOf at hs0 ⊢
    rw [e] at hs0 ⊢
    exact hs0
  have hb : bodyOf (Lib.decDigits n ++ 47 :: Lib.decDigits (2 ^ k + 1)) = Lib.decDigits n ++ 47 :: Lib.decDigits (2 ^ k + 1) := by rw [bodyOf, hs]; rfl
  have hc := cut_app (c := 47) (Lib.decDigits (2 ^ k + 1)) (digs_slash n)
  have hp : powEx (Lib.decDigits (2 ^ k + 1)) 10 = 0 := powEx_none 10 fun j j1 j10 => odd_pow k (by omega) j (by omega) k1 j1
  unfold numV
  rw [hb, hc, hs]
  simp only [digs_six h, hp]
  rfl
end Go.Proofs.YtfjfiljgbkhblaaDoor
