/- The number with a text: plain law. -/
import Derived.Test.YtfjfiljgbkhblaaDoorRows
import Derived.Test.YtfjfiljgbkhblaaDoorNu
import Derived.Test.YtfjfiljgbkhblaaDoorFz
import Derived.Test.YtfjfiljgbkhblaaDoorDt
namespace Go.Proofs.YtfjfiljgbkhblaaDoor
open Go.ChangeShapes Go.WideShapes Go.ChangeAt Go.RowKit

theorem bAt_eq {s : ByteArray} {k : Nat} (h : k < s.size) (c : UInt8) : (bAt s k = (c.toNat : Int)) ↔ s.data.toList[k]? = some c := by
  obtain ⟨b, hb, e⟩ := bAt_get h
  rw [e, hb]
  constructor
  · intro h
    have : b.toNat = c.toNat := by omega
    rw [UInt8.toNat_inj.1 this]
  · intro h
    injection h with h
    rw [h]
theorem parts_inv (s : ByteArray) (c : UInt8) : ∀ i, i ≤ s.size → pcs c s.data.toList = (sst s c.toNat i).2.map (·.data.toList) ++ ((s.extract (sst s c.toNat i).1 i).data.toList ++ (pcs c (s.data.toList.drop i)).headD []) :: (pcs c (s.data.toList.drop i)).tail
  | 0, _ => by
    have e : (s.extract 0 0).data.toList = [] := by rw [Lib.extract_data]; simp
    show _ = [] ++ ((s.extract 0 0).data.toList ++ _) :: _
    rw [e, List.nil_append, List.nil_append, List.drop_zero]
    exact pcs_cons _ _
  | i + 1, h => by
    have hi : i < s.size := by omega
    rw [parts_inv s c i (by omega)]
    have hsz := Lib.size_eq s
    have hle := (sst_le s c.toNat i).1
    have hd : s.data.toList.drop i = s.data.toList[i]'(by omega) :: s.data.toList.drop (i + 1) := List.drop_eq_getElem_cons (by omega)
    by_cases hx : bAt s i = (c.toNat : Int)
    · have hc := (bAt_eq hi c).1 hx
      rw [List.getElem?_eq_getElem (by omega)] at hc
      injection hc with hc
      have e0 : (s.extract (i + 1) (i + 1)).data.toList = [] := by rw [Lib.extract_data]; simp
      rw [sst_yes hx, hd, hc, pcs, if_pos rfl, e0]
      simp only [List.headD_cons, List.tail_cons, List.append_nil, List.nil_append, List.map_append, List.map_cons, List.map_nil, List.append_assoc, List.cons_append]
      rw [← pcs_cons]
    · have hc : ¬ s.data.toList[i]'(by omega) = c := fun e => hx ((bAt_eq hi c).2 (by rw [List.getElem?_eq_getElem (by omega), e]))
      rw [sst_no hx, hd, pcs, if_neg hc]
      have e1 : (s.extract (sst s c.toNat i).1 (i + 1)).data.toList = (s.extract (sst s c.toNat i).1 i).data.toList ++ [s.data.toList[i]'(by omega)] := by
        rw [Lib.extract_data, Lib.extract_data, show i + 1 - (sst s c.toNat i).1 = i - (sst s c.toNat i).1 + 1 by omega, List.take_add_one, List.getElem?_drop, show (sst s c.toNat i).1 + (i - (sst s c.toNat i).1) = i by omega, List.getElem?_eq_getElem (by omega)]
        rfl
      rw [e1]
      simp only [List.headD_cons, List.tail_cons, List.append_assoc, List.cons_append, List.nil_append]
theorem parts_pcs (s : ByteArray) (c : UInt8) : (partsOf s c.toNat).map (·.data.toList) = pcs c s.data.toList := by
  rw [parts_inv s c s.size (Nat.le_refl _), Lib.size_eq, List.drop_length]
  rw [← Lib.size_eq, partsOf, List.map_append]
  simp [pcs]
theorem parts_pos (s : ByteArray) (c : UInt8) : 0 < (partsOf s c.toNat).length := by rw [partsOf, List.length_append]; simp
/-- which power of two a text spells, among the first k; 0 where none -/
def powEx (b : List UInt8) : Nat → Nat
  | 0 => 0
  | k + 1 => if b = Lib.decDigits (2 ^ (k + 1)) then k + 1 else powEx b k
theorem powEx_le (b : List UInt8) : ∀ k, powEx b k ≤ k
  | 0 => Nat.le_refl _
  | k + 1 => by have := powEx_le b k; unfold powEx; split <;> omega
theorem pow_digs : ∀ k, k < 11 → ∀ j, j < 11 → Lib.decDigits (2 ^ j) = Lib.decDigits (2 ^ k) → j = k := by decide +kernel
theorem pow_slash : ∀ k, k < 11 → (Lib.decDigits (2 ^ k)).contains 47 = false := by decide +kernel
theorem powEx_of {b : List UInt8} {j : Nat} (h0 : 1 ≤ j) (h : b = Lib.decDigits (2 ^ j)) : ∀ k, j ≤ k → k ≤ 10 → powEx b k = j
  | 0, h1, _ => by omega
  | k + 1, h1, h2 => by
    unfold powEx
    by_cases e : b = Lib.decDigits (2 ^ (k + 1))
    · rw [if_pos e]
      exact (pow_digs j (by omega) (k + 1) (by omega) (by rw [← e, h])) 
    · rw [if_neg e]
      have : j ≠ k + 1 := fun e2 => e (by rw [h, e2])
      exact powEx_of h0 h k (by omega) (by omega)
theorem powEx_none {b : List UInt8} : ∀ k, (∀ j, 1 ≤ j → j ≤ k → ¬ b = Lib.decDigits (2 ^ j)) → powEx b k = 0
  | 0, _ => rfl
  | k + 1, h => by
    unfold powEx
    rw [if_neg (h (k + 1) (by omega) (by omega))]
    exact powEx_none k fun j h1 h2 => h j h1 (by omega)
theorem powEx_is {b : List UInt8} : ∀ k, powEx b k ≠ 0 → b = Lib.decDigits (2 ^ powEx b k)
  | 0, h => absurd rfl h
  | k + 1, h => by
    unfold powEx at h ⊢
    by_cases e : b = Lib.decDigits (2 ^ (k + 1))
    · rw [if_pos e]; exact e
    · rw [if_neg e] at h ⊢; exact powEx_is k h
theorem powEx_slash {b : List UInt8} (h : b.contains 47 = true) : powEx b 10 = 0 := by
  by_cases e : powEx b 10 = 0
  · exact e
  · have h1 := powEx_is 10 e
    have h2 := pow_slash (powEx b 10) (by have := powEx_le b 10; omega)
    rw [← h1, h] at h2
    cases h2
/-- the digits' number, at most six of them -/
def sixV (a : List UInt8) : Option Nat := if a.length ≤ 6 then Lib.decNat a else none
def signOf (l : List UInt8) : Bool := l.head? == some 45
def bodyOf (l : List UInt8) : List UInt8 := if signOf l then l.tail else l
/-- the number with a text: a whole number and a power of two -/
def numV (l : List UInt8) : Option (Int × Nat) :=
  match sixV (Lib.cut (bodyOf l) [47]).1 with
  | none => none
  | some m =>
    if (Lib.cut (bodyOf l) [47]).2.2 then
      (if powEx (Lib.cut (bodyOf l) [47]).2.1 10 = 0 then none else some (if signOf l then -(m : Int) else m, powEx (Lib.cut (bodyOf l) [47]).2.1 10))
    else some (if signOf l then -(m : Int) else m, 0)
theorem sixV_lt {a : List UInt8} {m : Nat} (h : sixV a = some m) : m < 1000000 := by
  unfold sixV at h
  split at h
  · rename_i hl
    rw [Lib.decNat] at h
    split at h
    · cases h
    · have := decFrom_lt _ 0 m 0 (by decide) h
      rw [Nat.zero_add] at this
      have h2 : 10 ^ a.length ≤ 10 ^ 6 := Nat.pow_le_pow_right (by decide) hl
      have h3 : (10 : Nat) ^ 6 = 1000000 := by decide +kernel
      omega
  · cases h
theorem numV_range {l : List UInt8} {n : Int} {k : Nat} (h : numV l = some (n, k)) : n.natAbs < 16777216 ∧ k ≤ 10 := by
  unfold numV at h
  cases e : sixV (Lib.cut (bodyOf l) [47]).1 with
  | none => rw [e] at h; cases h
  | some m =>
    have hm := sixV_lt e
    have hp := powEx_le (Lib.cut (bodyOf l) [47]).2.1 10
    rw [e] at h
    simp only at h
    have hn : (if signOf l then -(m : Int) else m).natAbs < 16777216 := by split <;> omega
    split at h
    · split at h
      · cases h
      · injection h with h; injection h with h1 h2; subst h1 h2; exact ⟨hn, hp⟩
    · injection h with h; injection h with h1 h2; subst h1 h2; exact ⟨hn, by omega⟩
/-- what is told of a number: its bits, and a code -/
def numB (l : List UInt8) : Nat := match numV l with | some (n, k) => qv n k | none => 0
def numC (l : List UInt8) : Int := match numV l with | some _ => 0 | none => 5
end Go.Proofs.YtfjfiljgbkhblaaDoor
