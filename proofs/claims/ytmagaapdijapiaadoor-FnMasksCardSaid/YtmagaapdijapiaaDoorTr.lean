/- Pictures are known by their cells. No program in sight. -/
import Derived.Test.YtmagaapdijapiaaDoorRows
import Derived.Test.YtmagaapdijapiaaDoorTq
namespace Go.Proofs.YtmagaapdijapiaaDoor
open Go.ChangeShapes Go.WideShapes Go.ChangeAt Go.RowKit
def rowBit (v : Int) (x : Nat) : Bool := decide (v / 2 ^ x % 2 = 1)
theorem rowBit_nat {v : Int} (h : 0 ≤ v) (x : Nat) : rowBit v x = v.toNat.testBit x := by
  obtain ⟨n, rfl⟩ : ∃ n : Nat, v = n := ⟨v.toNat, by omega⟩
  rw [rowBit, Nat.testBit_eq_decide_div_mod_eq, Int.toNat_natCast]
  have e : ((n / 2 ^ x % 2 : Nat) : Int) = (n : Int) / 2 ^ x % 2 := by
    rw [Int.natCast_emod, Int.natCast_ediv, Int.natCast_pow]
    rfl
  rw [← e]
  exact decide_eq_decide.2 (by omega)
theorem row_ext {u v : Int} (hu : 0 ≤ u ∧ u < 65536) (hv : 0 ≤ v ∧ v < 65536) (h : ∀ x, x < 16 → rowBit u x = rowBit v x) : u = v := by
  have hn : u.toNat = v.toNat := by
    apply Nat.eq_of_testBit_eq
    intro i
    by_cases hi : i < 16
    · rw [← rowBit_nat hu.1, ← rowBit_nat hv.1]
      exact h i hi
    · have h16 : (2 : Nat) ^ 16 ≤ 2 ^ i := Nat.pow_le_pow_right (by decide) (by omega)
      have h65 : (2 : Nat) ^ 16 = 65536 := by decide
      have h1 : u.toNat < 2 ^ i := by omega
      have h2 : v.toNat < 2 ^ i := by omega
      rw [Nat.testBit_lt_two_pow h1, Nat.testBit_lt_two_pow h2]
  omega
theorem orF_bit {u v : Int} (hu : 0 ≤ u ∧ u < 65536) (hv : 0 ≤ v ∧ v < 65536) (x : Nat) : rowBit (orF u v) x = (rowBit u x || rowBit v x) := by
  rw [orF, u16_or u v hu.1 hu.2 hv.1 hv.2, rowBit_nat (by omega), rowBit_nat hu.1, rowBit_nat hv.1, Int.toNat_natCast, Nat.testBit_or]
theorem andF_bit {u v : Int} (hu : 0 ≤ u ∧ u < 65536) (hv : 0 ≤ v ∧ v < 65536) (x : Nat) : rowBit (andF u v) x = (rowBit u x && rowBit v x) := by
  rw [andF, u16_and u v hu.1 hu.2 hv.1 hv.2, rowBit_nat (by omega), rowBit_nat hu.1, rowBit_nat hv.1, Int.toNat_natCast, Nat.testBit_and]
theorem notF_bit {u v : Int} (hu : 0 ≤ u ∧ u < 65536) (hv : 0 ≤ v ∧ v < 65536) {x : Nat} (hx : x < 16) : rowBit (notF u v) x = (rowBit u x && !rowBit v x) := by
  rw [notF, u16_andNot u v hu.1 hu.2 hv.1 hv.2, rowBit_nat (by omega), rowBit_nat hu.1, rowBit_nat hv.1, Int.toNat_natCast, Nat.testBit_and]
  have h1 : v.toNat < 2 ^ 16 := by
    have : (2 : Nat) ^ 16 = 65536 := by decide
    omega
  have h2 : 65535 - v.toNat = 2 ^ 16 - (v.toNat + 1) := by
    have : (2 : Nat) ^ 16 = 65536 := by decide
    omega
  rw [h2, Nat.testBit_two_pow_sub_succ h1, decide_eq_true hx, Bool.true_and]
theorem pow_bit {a x : Nat} (_ha : a < 16) : rowBit (2 ^ a) x = decide (x = a) := by
  have h2 : ((2 ^ a : Nat) : Int) = (2 : Int) ^ a := by simp
  rw [← h2, rowBit_nat (Int.natCast_nonneg _), Int.toNat_natCast, Nat.testBit_two_pow]
  exact decide_eq_decide.2 eq_comm
theorem bitB_row (M : List Int) (x y : Nat) : bitB M x y = rowBit (M.getD y 0) x := rfl
theorem zero_bit (x : Nat) : rowBit 0 x = false := by
  rw [rowBit_nat (by decide)]
  exact Nat.zero_testBit x
theorem zr16_getD (y : Nat) : zr16.getD y 0 = 0 := by
  by_cases h : y < 16
  · have h' : y < zr16.length := h
    rw [List.getD_eq_getElem?_getD, List.getElem?_eq_getElem h', zr16_at]
    rfl
  · rw [List.getD_eq_getElem?_getD, List.getElem?_eq_none (by exact Nat.le_of_not_lt h)]
    rfl
theorem zr16_bit (x y : Nat) : bitB zr16 x y = false := by rw [bitB_row, zr16_getD, zero_bit]
theorem opM_getD {f : Int → Int → Int} {a b : List Int} (ha : a.length = 16) (hb : b.length = 16) {y : Nat} (hy : y < 16) : (opM f a b).getD y 0 = f (a.getD y 0) (b.getD y 0) := by
  have hl := opM_length (f := f) ha hb
  rw [List.getD_eq_getElem?_getD, List.getElem?_eq_getElem (by omega), List.getD_eq_getElem?_getD, List.getElem?_eq_getElem (by omega), List.getD_eq_getElem?_getD, List.getElem?_eq_getElem (by omega)]
  simp only [opM, List.getElem_zipWith, Option.getD_some]
theorem orM_bit {a b : List Int} (ha : a.length = 16) (hb : b.length = 16) (h1 : is16 a) (h2 : is16 b) {x y : Nat} (hy : y < 16) : bitB (opM orF a b) x y = (bitB a x y || bitB b x y) := by
  rw [bitB_row, opM_getD ha hb hy, orF_bit (h1.getD y) (h2.getD y)]
  rfl
theorem andM_bit {a b : List Int} (ha : a.length = 16) (hb : b.length = 16) (h1 : is16 a) (h2 : is16 b) {x y : Nat} (hy : y < 16) : bitB (opM andF a b) x y = (bitB a x y && bitB b x y) := by
  rw [bitB_row, opM_getD ha hb hy, andF_bit (h1.getD y) (h2.getD y)]
  rfl
theorem notM_bit {a b : List Int} (ha : a.length = 16) (hb : b.length = 16) (h1 : is16 a) (h2 : is16 b) {x y : Nat} (hx : x < 16) (hy : y < 16) : bitB (opM notF a b) x y = (bitB a x y && !bitB b x y) := by
  rw [bitB_row, opM_getD ha hb hy, notF_bit (h1.getD y) (h2.getD y) hx]
  rfl
theorem set_getD {M : List Int} {y j : Nat} (v : Int) (hy : y < M.length) : (M.set y v).getD j 0 = if j = y then v else M.getD j 0 := by
  rw [List.getD_eq_getElem?_getD, List.getElem?_set, List.getD_eq_getElem?_getD]
  by_cases h : y = j
  · subst h
    simp [hy]
  · rw [if_neg h, if_neg (fun e => h e.symm)]
theorem spot_bit {a b x y : Nat} (ha : a < 16) (hb : b < 16) : bitB (zr16.set b (2 ^ a)) x y = (decide (x = a) && decide (y = b)) := by
  rw [bitB_row, set_getD _ (by exact hb)]
  by_cases h : y = b
  · rw [if_pos h, pow_bit ha, decide_eq_true h, Bool.and_true]
  · rw [if_neg h, zr16_getD, zero_bit, decide_eq_false h, Bool.and_false]
/-- a cell is set, or struck -/
theorem setOr_bit {M : List Int} (hM : M.length = 16) (h16 : is16 M) {a b x y : Nat} (ha : a < 16) (hb : b < 16) : bitB (setOr M b a) x y = (bitB M x y || (decide (x = a) && decide (y = b))) := by
  rw [setOr, bitB_row, set_getD _ (by omega)]
  by_cases h : y = b
  · rw [if_pos h, h, orF_bit (h16.getD b) (pow_16 ha), pow_bit ha, decide_eq_true (rfl : b = b), Bool.and_true]
    rfl
  · rw [if_neg h, decide_eq_false h, Bool.and_false, Bool.or_false]
    rfl
def setNot (M : List Int) (y x : Nat) : List Int := M.set y (notF (M.getD y 0) (2 ^ x))
theorem setNot_length {M : List Int} (hM : M.length = 16) (y x : Nat) : (setNot M y x).length = 16 := by rw [setNot, List.length_set, hM]
theorem setNot_16 {M : List Int} (h16 : is16 M) (y x : Nat) : is16 (setNot M y x) := fun v hv => by
  rcases List.mem_or_eq_of_mem_set hv with h | rfl
  · exact h16 v h
  · exact notF_way.range _ _
theorem setNot_bit {M : List Int} (hM : M.length = 16) (h16 : is16 M) {a b x y : Nat} (ha : a < 16) (hb : b < 16) (hx : x < 16) : bitB (setNot M b a) x y = (bitB M x y && !(decide (x = a) && decide (y = b))) := by
  rw [setNot, bitB_row, set_getD _ (by omega)]
  by_cases h : y = b
  · rw [if_pos h, h, notF_bit (h16.getD b) (pow_16 ha) hx, pow_bit ha, decide_eq_true (rfl : b = b), Bool.and_true]
    rfl
  · rw [if_neg h, decide_eq_false h, Bool.and_false, Bool.not_false, Bool.and_true]
    rfl
theorem mask_ext {a b : List Int} (ha : a.length = 16) (hb : b.length = 16) (h1 : is16 a) (h2 : is16 b) (h : ∀ x y, x < 16 → y < 16 → bitB a x y = bitB b x y) : a = b := by
  apply List.ext_getElem (by omega)
  intro i hi hj
  refine row_ext (h1 _ (List.getElem_mem _)) (h2 _ (List.getElem_mem _)) fun x hx => ?_
  have := h x i hx (by omega)
  rw [bitB_row, bitB_row, List.getD_eq_getElem?_getD, List.getElem?_eq_getElem hi, List.getD_eq_getElem?_getD, List.getElem?_eq_getElem hj] at this
  exact this
/-! ### pictures -/
theorem maskAt_odd {l : List Bl} (h : Bls l) {key : List Int} (hk : key.length ≠ 2) : maskAt l key = zr16 := maskAt_no fun b hb e => hk (by rw [e]; exact (h b hb).1)
theorem hasB_at (l : List Bl) (a b : Int) {x y : Nat} (hx : x < 16) (hy : y < 16) : hasB l (16 * a + x) (16 * b + y) = bitB (maskAt l [a, b]) x y := by
  rw [hasB, show (16 * a + (x : Int)) / 16 = a by omega, show (16 * b + (y : Int)) / 16 = b by omega, show ((16 * a + (x : Int)) % 16).toNat = x by omega, show ((16 * b + (y : Int)) % 16).toNat = y by omega]
theorem masks_of_has {l m : List Bl} (hl : Bls l) (hm : Bls m) (h1 : ∀ b ∈ l, is16 b.2) (h2 : ∀ b ∈ m, is16 b.2) (h : ∀ X Y, hasB l X Y = hasB m X Y) (key : List Int) : maskAt l key = maskAt m key := by
  by_cases hk : key.length = 2
  · obtain ⟨a1, a2⟩ := maskAt_ok hl h1 key
    obtain ⟨b1, b2⟩ := maskAt_ok hm h2 key
    refine mask_ext a1 b1 a2 b2 fun x y hx hy => ?_
    have := h (16 * key.getD 0 0 + x) (16 * key.getD 1 0 + y)
    rw [hasB_at _ _ _ hx hy, hasB_at _ _ _ hx hy, ← two_of hk] at this
    exact this
  · rw [maskAt_odd hl hk, maskAt_odd hm hk]
/-- pictures are known by their cells -/
theorem pic_has {l m : List Bl} (hl : Pic l) (hm : Pic m) (h : ∀ X Y, hasB l X Y = hasB m X Y) : l = m :=
  pic_ext hl.rising hm.rising hl.noVoid hm.noVoid (masks_of_has hl.bls hm.bls hl.m16 hm.m16 h)
theorem has_nil (X Y : Int) : hasB [] X Y = false := by rw [hasB, maskAt_nil, zr16_bit]
theorem cornerL_two (X Y : Int) : cornerL [X, Y] = [X / 16, Y / 16] := rfl
/-- a cell is put in -/
theorem has_put {l l' : List Bl} (h : Pic l) (X Y : Int) (h2 : Added l [X / 16, Y / 16] (zr16.set (Y % 16).toNat (2 ^ (X % 16).toNat)) l') (U V : Int) : hasB l' U V = (hasB l U V || (decide (U = X) && decide (V = Y))) := by
  obtain ⟨m1, m2⟩ := maskAt_ok h.bls h.m16 [X / 16, Y / 16]
  rw [hasB, h2.2.2, hasB]
  by_cases e : [U / 16, V / 16] = [X / 16, Y / 16]
  · rw [if_pos e, setOr_eq m1 m2 (by omega) (by omega), setOr_bit m1 m2 (by omega) (by omega), e]
    congr 1
    have e0 : U / 16 = X / 16 := by injection e
    have e1 : V / 16 = Y / 16 := by injection e with _ h; injection h
    congr 1
    · exact decide_eq_decide.2 (by omega)
    · exact decide_eq_decide.2 (by omega)
  · rw [if_neg e]
    have : (decide (U = X) && decide (V = Y)) = false := by
      rw [Bool.and_eq_false_iff, decide_eq_false_iff_not, decide_eq_false_iff_not]
      by_cases h1 : U = X
      · exact .inr fun h2 => e (by rw [h1, h2])
      · exact .inl h1
    rw [this, Bool.or_false]
/-- a cell of a picture lies in a block -/
theorem has_mem {l : List Bl} {X Y : Int} (h : hasB l X Y = true) : ∃ b ∈ l, b.1 = [X / 16, Y / 16] ∧ bitB b.2 (X % 16).toNat (Y % 16).toNat = true := by
  rw [hasB] at h
  have hne : maskAt l [X / 16, Y / 16] ≠ zr16 := fun e => by rw [e, zr16_bit] at h; cases h
  exact ⟨_, mem_of_maskAt hne, rfl, h⟩
theorem has_of_mem {l : List Bl} (h : Apart l) {b : Bl} (hb : b ∈ l) (h2 : b.1.length = 2) {x y : Nat} (hx : x < 16) (hy : y < 16) : hasB l (16 * b.1.getD 0 0 + x) (16 * b.1.getD 1 0 + y) = bitB b.2 x y := by
  rw [hasB_at _ _ _ hx hy, ← two_of h2, maskAt_of_mem h hb]
/-- the cells that are told are those that it has -/
theorem spec_mem {l : List Bl} (h : Apart l) (hl : Bls l) (c : List Int) : c ∈ specC l ↔ c.length = 2 ∧ hasB l (c.getD 0 0) (c.getD 1 0) = true := by
  rw [(specC_perm _ l (Nat.le_refl _)).mem_iff, List.mem_flatMap]
  constructor
  · rintro ⟨b, hb, hc⟩
    rw [bCells_flat] at hc
    obtain ⟨y, hy, h2⟩ := List.mem_flatMap.1 hc
    obtain ⟨x, hx, rfl⟩ := List.mem_map.1 h2
    have hxb := (List.mem_filter.1 hx)
    have hx16 := List.mem_range.1 hxb.1
    refine ⟨rfl, ?_⟩
    simp only [cellL, List.getD_cons_zero, List.getD_cons_succ]
    rw [has_of_mem h hb (hl b hb).1 hx16 (List.mem_range.1 hy)]
    exact hxb.2
  · rintro ⟨h2, hc⟩
    obtain ⟨b, hb, hk, hbit⟩ := has_mem hc
    refine ⟨b, hb, ?_⟩
    rw [bCells_flat]
    refine List.mem_flatMap.2 ⟨(c.getD 1 0 % 16).toNat, List.mem_range.2 (by omega), List.mem_map.2 ⟨(c.getD 0 0 % 16).toNat, List.mem_filter.2 ⟨List.mem_range.2 (by omega), hbit⟩, ?_⟩⟩
    rw [two_of h2, cellL, hk]
    simp only [List.getD_cons_zero, List.getD_cons_succ]
    congr 1
    · omega
    · congr 1
      omega
theorem spec_nodup {l : List Bl} (h : Rising l) : (specC l).Nodup := (specC_sorted _ l (Nat.le_refl _) h).imp fun {a b} hab e => by
  subst e
  exact ltL_asymm hab hab
end Go.Proofs.YtmagaapdijapiaaDoor
