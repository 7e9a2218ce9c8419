/- The words of a file: plain law, the reference's walk. -/
import Derived.Test.YtmagaapdijapiaaRows
import Derived.Test.YtmagaapdijapiaaWk
import Derived.Test.YtmagaapdijapiaaSs
import Derived.Test.YtmagaapdijapiaaUe
import Derived.Test.YtmagaapdijapiaaOpen
namespace Go.Proofs.Ytmagaapdijapiaa
open Go.ChangeShapes Go.WideShapes Go.ChangeAt Go.RowKit

/-- part i of the data, sixteen bytes -/
def chW (D : List Int) (i : Nat) : List Int := (D.drop (16 * i)).take 16
theorem chW_length {D : List Int} {i : Nat} (h : 16 * i + 16 ≤ D.length) : (chW D i).length = 16 := by
  rw [chW, List.length_take, List.length_drop]
  omega
theorem chW_255 {D : List Int} (h : is255 D) (i : Nat) : is255 (chW D i) := fun x hx => h x (List.mem_of_mem_drop (List.mem_of_mem_take hx))
theorem chW_getD {D : List Int} {i k : Nat} (hk : k < 16) (h : 16 * i + 16 ≤ D.length) : (chW D i)[k]'(by rw [chW_length h]; exact hk) = D[16 * i + k]'(by omega) := by
  simp [chW, List.getElem_take, List.getElem_drop]
def rwN (l : List (List Int)) : Nat := (opData l).length / 16
def rwAll (D : List Int) (n : Nat) : Bool := (List.range n).all fun i => woOk (chW D i)
def rwGood (l : List (List Int)) : Bool := (opKind l == 3) && (((opData l).length : Int) == 16 * opCount l)
def rwC (l : List (List Int)) : Int := if opCode l = 0 then (if rwGood l then (if rwAll (opData l) (rwN l) then 0 else 5) else 5) else opCode l
def wds (D : List Int) (n : Nat) : List ByteArray := (List.range n).map fun i => dw (chW D i)
def rwL (l : List (List Int)) : List ByteArray := if rwC l = 0 then wds (opData l) (rwN l) else []
theorem wds_length (D : List Int) (n : Nat) : (wds D n).length = n := by simp [wds]
theorem wds_succ (D : List Int) (n : Nat) : wds D (n + 1) = wds D n ++ [dw (chW D n)] := by rw [wds, wds, List.range_succ, List.map_append]; rfl
theorem rwAll_no {D : List Int} {n k : Nat} (hk : k < n) (h : woOk (chW D k) = false) : rwAll D n = false := by
  rw [rwAll, List.all_eq_false]
  exact ⟨k, List.mem_range.2 hk, by rw [h]; decide⟩
theorem rwAll_yes {D : List Int} {n : Nat} (h : ∀ k, k < n → woOk (chW D k) = true) : rwAll D n = true := by
  rw [rwAll, List.all_eq_true]
  intro k hk
  exact h k (List.mem_range.1 hk)
theorem opData_255 {l : List (List Int)} (h : ∀ f ∈ l, is255 f) : is255 (opData l) := fun x hx => by
  unfold opData at hx
  split at hx
  · exact dataOf_255 h x (List.mem_of_mem_take hx)
  · cases hx
theorem opHead_255 {l : List (List Int)} (h : ∀ f ∈ l, is255 f) : is255 (opHead l) := by
  cases l with
  | nil => intro x hx; cases hx
  | cons f r => exact h f (List.mem_cons_self ..)
theorem opCount_range {l : List (List Int)} (h : ∀ f ∈ l, is255 f) : 0 ≤ opCount l ∧ opCount l ≤ 4294967295 := by
  unfold opCount
  split
  · exact numAt_range (opHead_255 h) 4
  · omega
def GivesWs (l : List ByteArray) (code : Int) (w : World) (e : Ending) (w' : World) : Prop :=
  ∃ A c, e = .returned (.tuple #[.slice A l.length c, .int .i64 code]) ∧ Own w' w.heap.size w'.heap.size 9 1 A l.length c (strs l) ∧ Below w.heap.size w w'
theorem GivesWs.empty {w w1 : World} (code : Int) (h : Below w.heap.size w w1) : GivesWs [] code w (.returned (.tuple #[.slice (some ⟨w1.heap.size, 0, none⟩) 0 0, .int .i64 code])) (w1.alloc (.cells #[] 9)) :=
  ⟨_, 0, rfl, ⟨rfl, .inr ⟨_, #[], rfl, h.size, by rw [size_alloc]; omega, Blk.newAt rfl rfl, Nat.le_refl _, by unfold maxLen; omega, rfl, rfl⟩⟩, h.alloc h.size _⟩

theorem strs_one' {l : List ByteArray} : ∀ v ∈ strs l, v.oneCell' = true := fun v hv => by
  simp only [strs, List.mem_map] at hv
  obtain ⟨s, _, rfl⟩ := hv
  rfl
theorem str_news (w : World) (s : ByteArray) : ∀ j u, (strs [s])[j]? = some u → (w.alloc (.cells #[.string s] 9)).cell? ((⟨w.heap.size, 0, none⟩ : Addr).add j) = some u := fun j u hu => by
  have hj : j = 0 := by
    rcases Nat.eq_zero_or_pos j with h | h
    · exact h
    · rw [List.getElem?_eq_none (by simp [strs]; omega)] at hu; cases hu
  subst hj
  have hb : Blk (w.alloc (.cells #[.string s] 9)) w.heap.size 9 #[.string s] := Blk.newAt rfl rfl
  rw [addr_add, Nat.add_zero, hb.cell]
  exact hu
end Go.Proofs.Ytmagaapdijapiaa
