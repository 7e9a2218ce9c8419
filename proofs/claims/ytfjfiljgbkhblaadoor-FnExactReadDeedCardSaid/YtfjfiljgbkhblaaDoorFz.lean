/- Narrow numbers: whole numbers, their quotients by powers of two are exact. -/
import Derived.Test.YtfjfiljgbkhblaaDoorRows
import Derived.Laws.FloatArith
namespace Go.Proofs.YtfjfiljgbkhblaaDoor
/-- the word of M units of place e: M * 2 ^ (e - 149) -/
def flw (s : Bool) (e M : Nat) : Nat := Ieee.single.word s (e * 8388608 + M)
theorem flw_read (s : Bool) {e M : Nat} (he : e ≤ 253) (h0 : 8388608 ≤ M) (h1 : M < 16777216) : Ieee.single.read (flw s e M) = .number s M ((e : Int) - 149) := by
  have hs : Ieee.single.signWeight = 2147483648 := rfl
  have hb : Ieee.single.binade = 8388608 := rfl
  have hi : Ieee.single.infRung = 2139095040 := rfl
  have hl : Ieee.single.leastPlace = -149 := rfl
  have hw : flw s e M / 2147483648 % 2 = (if s then 1 else 0) ∧ flw s e M % 2147483648 = e * 8388608 + M := by
    unfold flw Ieee.Format.word
    rw [hs]
    cases s <;> simp <;> omega
  unfold Ieee.Format.read
  simp only [hs, hb, hi, hl, hw.1, hw.2]
  rw [if_neg (by omega), if_pos (by omega)]
  have e1 : (e * 8388608 + M) % 8388608 = M - 8388608 := by omega
  have e2 : (e * 8388608 + M) / 8388608 = e + 1 := by omega
  rw [e1, e2, show 8388608 + (M - 8388608) = M by omega, show ((-149 : Int) + ((e + 1 - 1 : Nat) : Int)) = (e : Int) - 149 by omega]
  cases s <;> rfl
theorem cut_exact (s : Bool) (M j : Nat) (h0 : 0 < M) : Ieee.Toward.even.cut s (M * 2 ^ j) j = M := by
  have hlog : (M * 2 ^ j).log2 = M.log2 + j := by
    rw [Nat.log2_eq_iff (by have := Nat.two_pow_pos j; exact Nat.ne_of_gt (Nat.mul_pos h0 this))]
    have a := Nat.log2_self_le (n := M) (by omega)
    have b := Nat.lt_log2_self (n := M)
    constructor
    · rw [Nat.pow_add]; exact Nat.mul_le_mul_right _ a
    · rw [show M.log2 + j + 1 = (M.log2 + 1) + j by omega, Nat.pow_add]; exact Nat.mul_lt_mul_of_pos_right b (Nat.two_pow_pos j)
  unfold Ieee.Toward.cut
  have hm : min j ((M * 2 ^ j).log2 + 2) = j := by rw [hlog]; omega
  simp only [hm, Nat.shiftLeft_eq, Nat.one_mul]
  rw [Nat.mul_div_cancel _ (Nat.two_pow_pos j), Nat.mul_mod_left]
  have := Nat.two_pow_pos j
  simp
theorem log2_of {M : Nat} (t : Nat) (h0 : 2 ^ t ≤ M) (h1 : M < 2 ^ (t + 1)) : M.log2 = t := (Nat.log2_eq_iff (by have := Nat.two_pow_pos t; omega)).2 ⟨h0, h1⟩
theorem flw_write (s : Bool) {e M j : Nat} {p : Int} (he : e ≤ 253) (h0 : 8388608 ≤ M) (h1 : M < 16777216) (hp : p = (e : Int) - 149 - j) : Ieee.single.write (.number s (M * 2 ^ j) p) = flw s e M := by
  have hb : Ieee.single.binade = 8388608 := rfl
  have hi : Ieee.single.infRung = 2139095040 := rfl
  have hl : Ieee.single.leastPlace = -149 := rfl
  have hf : Ieee.single.fractionBits = 23 := rfl
  have hpos : 0 < M * 2 ^ j := Nat.mul_pos (by omega) (Nat.two_pow_pos j)
  have hlog : (M * 2 ^ j).log2 = 23 + j := by
    refine log2_of _ ?_ ?_
    · rw [Nat.pow_add]; exact Nat.mul_le_mul_right _ (by omega)
    · rw [show 23 + j + 1 = 24 + j by omega, Nat.pow_add]; exact Nat.mul_lt_mul_of_pos_right (by omega) (Nat.two_pow_pos j)
  show Ieee.single.nearest s (M * 2 ^ j) p = _
  unfold Ieee.Format.nearest
  rw [if_neg (by omega)]
  simp only [hb, hi, hl, hf, hlog]
  have hlast : max (p + ((23 + j : Nat) : Int) - (23 : Nat)) (-149) = (e : Int) - 149 := by omega
  rw [hlast]
  have e1 : (p - ((e : Int) - 149)).toNat = 0 := by omega
  have e2 : (((e : Int) - 149) - p).toNat = j := by omega
  have e3 : (((e : Int) - 149) - (-149)).toNat = e := by omega
  rw [e1, e2, e3, Nat.shiftLeft_zero, cut_exact s M j (by omega), flw, Nat.min_eq_left (by omega)]
/-- a whole number's word -/
theorem flw_int (n : Int) (hn : n ≠ 0) (h : n.natAbs < 16777216) : ∃ e M : Nat, 126 ≤ e ∧ e ≤ 149 ∧ 8388608 ≤ M ∧ M < 16777216 ∧ floatOfInt .f32 n = flw (n < 0) e M := by
  have hl : Ieee.single.leastPlace = -149 := rfl
  have hf : Ieee.single.fractionBits = 23 := rfl
  have hb : Ieee.single.binade = 8388608 := rfl
  have hi : Ieee.single.infRung = 2139095040 := rfl
  obtain ⟨m, hm⟩ : ∃ m, m = n.natAbs := ⟨_, rfl⟩
  have hm0 : m ≠ 0 := by omega
  have t1 := Nat.log2_self_le hm0
  have t2 := Nat.lt_log2_self (n := m)
  obtain ⟨t, ht⟩ : ∃ t, t = m.log2 := ⟨_, rfl⟩
  rw [← ht] at t1 t2
  have t23 : t ≤ 23 := by
    rcases Nat.lt_or_ge 23 t with hlt | hge
    · have : 2 ^ 24 ≤ 2 ^ t := Nat.pow_le_pow_right (by omega) hlt
      omega
    · exact hge
  have M0 : 8388608 ≤ m <<< (23 - t) := by
    rw [Nat.shiftLeft_eq]
    calc 8388608 = 2 ^ t * 2 ^ (23 - t) := by rw [← Nat.pow_add, show t + (23 - t) = 23 by omega]
      _ ≤ _ := Nat.mul_le_mul_right _ t1
  have M1 : m <<< (23 - t) < 16777216 := by
    rw [Nat.shiftLeft_eq]
    calc m * 2 ^ (23 - t) < 2 ^ (t + 1) * 2 ^ (23 - t) := Nat.mul_lt_mul_of_pos_right t2 (Nat.two_pow_pos _)
      _ = 16777216 := by rw [← Nat.pow_add, show t + 1 + (23 - t) = 24 by omega]
  refine ⟨t + 126, m <<< (23 - t), by omega, by omega, M0, M1, ?_⟩
  show Ieee.single.nearest (decide (n < 0)) n.natAbs 0 = _
  rw [← hm]
  unfold Ieee.Format.nearest
  rw [if_neg hm0]
  simp only [hb, hi, hl, hf, ← ht]
  have hlast : max ((0 : Int) + (t : Int) - (23 : Nat)) (-149) = (t : Int) - 23 := by omega
  rw [hlast]
  have e1 : ((0 : Int) - ((t : Int) - 23)).toNat = 23 - t := by omega
  have e2 : (((t : Int) - 23) - 0).toNat = 0 := by omega
  have e3 : (((t : Int) - 23) - (-149)).toNat = t + 126 := by omega
  have hc := cut_exact (decide (n < 0)) (m <<< (23 - t)) 0 (by omega)
  rw [Nat.pow_zero, Nat.mul_one] at hc
  rw [e1, e2, e3, hc, flw, Nat.min_eq_left (by omega)]
theorem flw_two (k : Nat) (h : k ≤ 10) : floatOfInt .f32 ((2 ^ k : Nat) : Int) = flw false (k + 126) 8388608 := by
  have : ∀ k : Nat, k < 11 → floatOfInt .f32 ((2 ^ k : Nat) : Int) = flw false (k + 126) 8388608 := by decide +kernel
  exact this k (by omega)
/-- a quotient by a power of two is exact -/
theorem flw_div (s : Bool) {e M k : Nat} (hk : k ≤ 10) (he : 126 ≤ e) (he' : e ≤ 149) (h0 : 8388608 ≤ M) (h1 : M < 16777216) : floatBits .quo .f32 (flw s e M) (flw false (k + 126) 8388608) = some (flw s (e - k) M) := by
  show ((Ieee.single.read _).quotient (23 + 2) (Ieee.single.read _)).map Ieee.single.write = _
  rw [flw_read s (by omega) h0 h1, flw_read false (by omega) (by omega) (by omega)]
  have l1 : (8388608 : Nat).log2 = 23 := by decide +kernel
  have l2 : M.log2 = 23 := log2_of 23 (by omega) (by omega)
  unfold Ieee.Datum.quotient
  simp only [l1, l2]
  have e1 : M <<< (23 + 2 + 23 - 23) = M * 4 * 8388608 := by rw [Nat.shiftLeft_eq]; omega
  rw [if_neg (by omega), e1, Nat.mul_div_cancel _ (by omega), Nat.mul_mod_left]
  have := flw_write s (e := e - k) (M := M) (j := 3) (p := ((e : Int) - 149) - ((k + 126 : Nat) - 149) - ((23 + 2 + 23 - 23 : Nat) : Int) - 1) (by omega) h0 h1 (by omega)
  have hx : (s ^^ false) = s := by cases s <;> rfl
  have h8 : 2 * (M * 4) + ((0 : Nat) != 0).toNat = M * 2 ^ 3 := by rw [show ((0 : Nat) != 0).toNat = 0 from rfl]; omega
  rw [Option.map_some, hx, h8, this]
theorem flw_mul (s : Bool) {e M k : Nat} (hk : k ≤ 10) (he : 126 ≤ e) (he' : e ≤ 149) (h0 : 8388608 ≤ M) (h1 : M < 16777216) : floatBits .mul .f32 (flw s (e - k) M) (flw false (k + 126) 8388608) = some (flw s e M) := by
  show ((Ieee.single.read _).product (Ieee.single.read _)).map Ieee.single.write = _
  rw [flw_read s (by omega) h0 h1, flw_read false (by omega) (by omega) (by omega)]
  unfold Ieee.Datum.product
  have := flw_write s (e := e) (M := M) (j := 23) (p := (((e - k : Nat) : Int) - 149) + ((k + 126 : Nat) - 149)) (by omega) h0 h1 (by omega)
  have hx : (s ^^ false) = s := by cases s <;> rfl
  rw [show (8388608 : Nat) = 2 ^ 23 by decide +kernel]
  rw [Option.map_some, hx, this]
/-- a whole number by a power of two -/
def qv (n : Int) (k : Nat) : Nat := (floatBits .quo .f32 (floatOfInt .f32 n) (floatOfInt .f32 ((2 ^ k : Nat) : Int))).getD 0
theorem qv_zero : ∀ k : Nat, k < 11 → floatBits .quo .f32 (floatOfInt .f32 0) (floatOfInt .f32 ((2 ^ k : Nat) : Int)) = some 0 := by decide +kernel
theorem mv_zero : ∀ k : Nat, k < 11 → floatBits .mul .f32 0 (floatOfInt .f32 ((2 ^ k : Nat) : Int)) = some 0 := by decide +kernel
theorem qv_form {n : Int} {k : Nat} (h : n.natAbs < 16777216) (hk : k ≤ 10) :
    floatBits .quo .f32 (floatOfInt .f32 n) (floatOfInt .f32 ((2 ^ k : Nat) : Int)) = some (qv n k) ∧ floatBits .mul .f32 (qv n k) (floatOfInt .f32 ((2 ^ k : Nat) : Int)) = some (floatOfInt .f32 n) := by
  by_cases h0 : n = 0
  · subst h0
    have e := qv_zero k (by omega)
    have q : qv 0 k = 0 := by rw [qv, e]; rfl
    rw [q]
    exact ⟨e, (mv_zero k (by omega)).trans (by decide +kernel)⟩
  · obtain ⟨e, M, e0, e1, m0, m1, hf⟩ := flw_int n h0 h
    have d := flw_div (n < 0) (k := k) hk e0 e1 m0 m1
    have q : qv n k = flw (n < 0) (e - k) M := by rw [qv, hf, flw_two k hk, d]; rfl
    rw [q, hf, flw_two k hk]
    exact ⟨d, flw_mul (n < 0) hk e0 e1 m0 m1⟩
theorem qv_one {n : Int} (h : n.natAbs < 16777216) : qv n 0 = floatOfInt .f32 n := by
  by_cases h0 : n = 0
  · subst h0; decide +kernel
  · obtain ⟨e, M, e0, e1, m0, m1, hf⟩ := flw_int n h0 h
    have d := flw_div (n < 0) (k := 0) (by omega) e0 e1 m0 m1
    rw [qv, hf, flw_two 0 (by omega), d]
    rfl
theorem flo_self {n : Int} (h : n.natAbs < 16777216) : FloatKind.f32.format.order (floatOfInt .f32 n) (floatOfInt .f32 n) = some .eq := by
  by_cases h0 : n = 0
  · subst h0; decide +kernel
  · obtain ⟨e, M, e0, e1, m0, m1, hf⟩ := flw_int n h0 h
    rw [hf]
    show (Ieee.single.read _).order (Ieee.single.read _) = _
    rw [flw_read _ (by omega) m0 m1]
    simp [Ieee.Datum.order]
theorem xor31 {r : Nat} (h : r < 2147483648) : r ^^^ 2147483648 = 2147483648 + r := by
  have e : (2147483648 : Nat) = 2 ^ 31 := by decide +kernel
  rw [e] at h ⊢
  apply Nat.eq_of_testBit_eq
  intro i
  rw [Nat.testBit_xor, Nat.testBit_two_pow]
  by_cases hi : i < 31
  · rw [Nat.testBit_two_pow_add_gt hi, decide_eq_false (by omega), Bool.xor_false]
  · by_cases he : i = 31
    · subst he
      rw [Nat.testBit_two_pow_add_eq]; simp
    · have h1 : r.testBit i = false := Nat.testBit_lt_two_pow (Nat.lt_of_lt_of_le h (Nat.pow_le_pow_right (by omega) (by omega)))
      have h2 : (2 ^ 31 + r).testBit i = false := Nat.testBit_lt_two_pow (Nat.lt_of_lt_of_le (show 2 ^ 31 + r < 2 ^ 32 by omega) (Nat.pow_le_pow_right (by omega) (by omega)))
      rw [h1, h2]; simp; omega
/-- the negative of a whole number, in floats -/
theorem flo_neg {n : Int} (h0 : 0 ≤ n) (h : n.natAbs < 16777216) : FloatKind.f32.format.order (floatOfInt .f32 (-n)) (Op.negFloat .f32 (floatOfInt .f32 n)) = some .eq := by
  by_cases hz : n = 0
  · subst hz; decide +kernel
  · obtain ⟨e, M, e0, e1, m0, m1, hf⟩ := flw_int n hz h
    obtain ⟨m, hm⟩ : ∃ m : Nat, n = m := ⟨n.toNat, by omega⟩
    have hneg : floatOfInt .f32 (-n) = Ieee.single.write (.number true m 0) := by
      show Ieee.single.write (.number (decide (-n < 0)) (-n).natAbs 0) = _
      rw [decide_eq_true (by omega), Int.natAbs_neg, hm, Int.natAbs_natCast]
    have hpos : floatOfInt .f32 n = Ieee.single.write (.number false m 0) := by
      show Ieee.single.write (.number (decide (n < 0)) n.natAbs 0) = _
      rw [decide_eq_false (by omega), hm, Int.natAbs_natCast]
    have hw : ∀ r, Ieee.single.word true r = 2147483648 + Ieee.single.word false r := fun r => rfl
    have hnw : floatOfInt .f32 (-n) = 2147483648 + floatOfInt .f32 n := by
      rw [hneg, hpos]
      show Ieee.single.nearest true m 0 = _ + Ieee.single.nearest false m 0
      unfold Ieee.Format.nearest
      rw [if_neg (by omega), if_neg (by omega)]
      exact hw _
    have hf2 : floatOfInt .f32 n = flw false e M := by rw [hf, decide_eq_false (by omega)]
    have hlt : flw false e M < 2147483648 := by
      show e * 8388608 + M < _
      omega
    have hxr : Op.negFloat .f32 (floatOfInt .f32 n) = flw true e M := by
      show floatOfInt .f32 n ^^^ 2147483648 = _
      rw [hf2, xor31 hlt]
      exact (hw _).symm
    rw [hxr, hnw, hf2, show 2147483648 + flw false e M = flw true e M from (hw _).symm]
    show (Ieee.single.read _).order (Ieee.single.read _) = _
    rw [flw_read _ (by omega) m0 m1]
    simp [Ieee.Datum.order]
end Go.Proofs.YtfjfiljgbkhblaaDoor
