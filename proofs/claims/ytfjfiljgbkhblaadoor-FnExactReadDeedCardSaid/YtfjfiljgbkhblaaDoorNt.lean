/- Pieces of a text between bytes: plain law. -/
import Derived.Test.YtfjfiljgbkhblaaDoorRows
import Derived.Lib.SplitLaws
import Derived.Lib.Atoi
import Derived.Lib.AtoiTie
import Derived.Lib.ItoaNum
import Derived.Lib.Strings
namespace Go.Proofs.YtfjfiljgbkhblaaDoor
/-- a text's pieces between bytes c -/
def pcs (c : UInt8) : List UInt8 → List (List UInt8)
  | [] => [[]]
  | x :: r => if x = c then [] :: pcs c r else (x :: (pcs c r).headD []) :: (pcs c r).tail
theorem pcs_cons (c : UInt8) (l : List UInt8) : pcs c l = (pcs c l).headD [] :: (pcs c l).tail := by
  cases l with
  | nil => rfl
  | cons x r => unfold pcs; split <;> rfl
theorem index_one_nil (c : UInt8) : Lib.index [] [c] = -1 := by simp [Lib.index]
theorem index_one_same (c : UInt8) (r : List UInt8) : Lib.index (c :: r) [c] = 0 := by simp [Lib.index, List.isPrefixOf]
theorem index_one_other {c x : UInt8} (h : x ≠ c) (r : List UInt8) : Lib.index (x :: r) [c] = if Lib.index r [c] == -1 then -1 else Lib.index r [c] + 1 := by
  have hp : ([c] : List UInt8).isPrefixOf (x :: r) = false := by simp [List.isPrefixOf, Ne.symm h]
  rw [Lib.index, hp]; simp
theorem split_pcs (c : UInt8) : ∀ l : List UInt8, Lib.splitK [c] 0 (Lib.count l [c]) l = pcs c l
  | [] => by rw [Lib.count_miss (index_one_nil c)]; rfl
  | x :: r => by
    have ih := split_pcs c r
    by_cases h : x = c
    · subst h
      rw [Lib.count_hit (i := 0) (by simp) (index_one_same x r), pcs, if_pos rfl, ← ih, Nat.add_comm 1]
      have e0 : ¬ ((0 : Int) == -1) = true := fun e => by cases e
      rw [Lib.splitK, index_one_same, if_neg e0]
      rfl
    · have hx := index_one_other h r
      rw [pcs, if_neg h, ← ih]
      by_cases hm : Lib.index r [c] = -1
      · rw [Lib.count_miss hm, Lib.count_miss (by rw [hx, hm]; rfl)]
        rfl
      · have hge := Lib.index_ge r [c]
        obtain ⟨j, hj⟩ : ∃ j : Nat, Lib.index r [c] = j := ⟨(Lib.index r [c]).toNat, by omega⟩
        have hx2 : Lib.index (x :: r) [c] = ((j + 1 : Nat) : Int) := by rw [hx, if_neg (fun e => hm (beq_iff_eq.1 e)), hj]; omega
        rw [Lib.count_hit (by simp) hj, Lib.count_hit (by simp) hx2, Nat.add_comm 1, Nat.add_comm 1]
        simp only [Lib.splitK, hx2, hj]
        have n1 : ¬ (((j + 1 : Nat) : Int) == -1) = true := fun e => by have := beq_iff_eq.1 e; omega
        have n2 : ¬ ((j : Int) == -1) = true := fun e => by have := beq_iff_eq.1 e; omega
        rw [if_neg n1, if_neg n2]
        simp
theorem cut_nil (c : UInt8) : Lib.cut [] [c] = ([], [], false) := by rw [Lib.cut, index_one_nil]; rfl
theorem cut_same (c : UInt8) (r : List UInt8) : Lib.cut (c :: r) [c] = ([], r, true) := by rw [Lib.cut, index_one_same]; rfl
theorem cut_other {c x : UInt8} (h : x ≠ c) (r : List UInt8) : Lib.cut (x :: r) [c] = (x :: (Lib.cut r [c]).1, (Lib.cut r [c]).2.1, (Lib.cut r [c]).2.2) := by
  have hx := index_one_other h r
  have hge := Lib.index_ge r [c]
  unfold Lib.cut
  by_cases hm : Lib.index r [c] = -1
  · rw [hx, hm]; rfl
  · obtain ⟨j, hj⟩ : ∃ j : Nat, Lib.index r [c] = j := ⟨(Lib.index r [c]).toNat, by omega⟩
    have hx2 : Lib.index (x :: r) [c] = ((j + 1 : Nat) : Int) := by rw [hx, if_neg (fun e => hm (beq_iff_eq.1 e)), hj]; omega
    rw [hx2, hj, if_pos (by omega), if_pos (by omega)]
    simp
theorem pcs_cut (c : UInt8) : ∀ l : List UInt8, pcs c l = (Lib.cut l [c]).1 :: (if (Lib.cut l [c]).2.2 then pcs c (Lib.cut l [c]).2.1 else [])
  | [] => by rw [cut_nil]; rfl
  | x :: r => by
    by_cases h : x = c
    · subst h; rw [cut_same, pcs, if_pos rfl]; rfl
    · rw [cut_other h, pcs, if_neg h, pcs_cut c r]; rfl
theorem cut_not (c : UInt8) : ∀ l : List UInt8, (Lib.cut l [c]).2.2 = l.contains c
  | [] => by rw [cut_nil]; rfl
  | x :: r => by
    by_cases h : x = c
    · subst h; rw [cut_same]; simp
    · rw [cut_other h, cut_not c r]; simp [Ne.symm h]
/-- the pieces of texts put together -/
theorem pcs_none {c : UInt8} : ∀ {a : List UInt8}, a.contains c = false → pcs c a = [a]
  | [], _ => rfl
  | x :: r, h => by
    rw [List.contains_cons, Bool.or_eq_false_iff] at h
    have hx : x ≠ c := fun e => by subst e; simp at h
    rw [pcs, if_neg hx, pcs_none h.2]; rfl
theorem pcs_app {c : UInt8} (b : List UInt8) : ∀ {a : List UInt8}, a.contains c = false → pcs c (a ++ c :: b) = a :: pcs c b
  | [], _ => by rw [List.nil_append, pcs, if_pos rfl]
  | x :: r, h => by
    rw [List.contains_cons, Bool.or_eq_false_iff] at h
    have hx : x ≠ c := fun e => by subst e; simp at h
    rw [List.cons_append, pcs, if_neg hx, pcs_app b h.2]; rfl
theorem cut_app {c : UInt8} (b : List UInt8) : ∀ {a : List UInt8}, a.contains c = false → Lib.cut (a ++ c :: b) [c] = (a, b, true)
  | [], _ => by rw [List.nil_append, cut_same]
  | x :: r, h => by
    rw [List.contains_cons, Bool.or_eq_false_iff] at h
    have hx : x ≠ c := fun e => by subst e; simp at h
    rw [List.cons_append, cut_other hx, cut_app b h.2]
theorem cut_none {c : UInt8} : ∀ {a : List UInt8}, a.contains c = false → Lib.cut a [c] = (a, [], false)
  | [], _ => cut_nil c
  | x :: r, h => by
    rw [List.contains_cons, Bool.or_eq_false_iff] at h
    have hx : x ≠ c := fun e => by subst e; simp at h
    rw [cut_other hx, cut_none h.2]
end Go.Proofs.YtfjfiljgbkhblaaDoor
