/- What the laws draw from bytes; two files held against each other. -/
import Derived.Test.YtjjmgonbhofipaaRows
import Derived.Test.YtjjmgonbhofipaaUd
import Derived.Test.YtjjmgonbhofipaaUb
namespace Go.Proofs.Ytjjmgonbhofipaa
open Go.ChangeShapes Go.WideShapes Go.ChangeAt Go.RowKit

set_option maxHeartbeats 400000 in
theorem a2Long_in (A A2 : Option Addr) (n c n2 c2 : Nat) (hn : n ≤ 3000) (hn2 : n2 ≤ 3000) (w : World) :
    Calls Try.prog 53 #[.slice A n c, .slice A2 n2 c2] w fun e w' => e = .returned (.bool false) ∧ w = w' := by
  go_enter Try.func53, Try.ntmps53
  go_wp2
  go_ret
  exact ⟨by simp; omega, rfl⟩
set_option maxHeartbeats 400000 in
theorem a2Long_out (A A2 : Option Addr) (n c n2 c2 : Nat) (h : 3000 < n ∨ 3000 < n2) (w : World) :
    Calls Try.prog 53 #[.slice A n c, .slice A2 n2 c2] w fun e w' => e = .returned (.bool true) ∧ w = w' := by
  by_cases h1 : 3000 < n
  · have h2 : (3000 : Int) < (n : Int) := by omega
    clear h
    go_enter Try.func53, Try.ntmps53
    go_wp2
    go_ret
    exact ⟨rfl, rfl⟩
  · have h2 : (n : Int) ≤ 3000 := by omega
    have h3 : (3000 : Int) < (n2 : Int) := by omega
    clear h
    go_enter Try.func53, Try.ntmps53
    go_wp2
    go_ret
    exact ⟨rfl, rfl⟩

def atOf (l : List Int) (i : Nat) (m : Int) : Int := if i < l.length then l.getD i 0 % m else 0
theorem atOf_range (l : List Int) (i : Nat) {m : Int} (hm : 1 ≤ m) : 0 ≤ atOf l i m ∧ atOf l i m < m := by
  unfold atOf
  split
  · exact ⟨Int.emod_nonneg _ (by omega), Int.emod_lt_of_pos _ (by omega)⟩
  · omega
set_option maxHeartbeats 400000 in
theorem a2At_any (A : Option Addr) (n c : Nat) (l : List Int) (hl : l.length = n) (h255 : is255 l) (j : Int) (i : Nat) (hj : j = i) (m : Int) (hm : 1 ≤ m) (hm2 : m ≤ 1000000) (hn : n ≤ 3000) (w : World) (hR : Rd w w.heap.size 1 A n (l.map (.int .u8))) :
    Calls Try.prog 54 #[.slice A n c, .int .i64 j, .int .i64 m] w fun e w' => e = .returned (.int .i64 (atOf l i m)) ∧ w = w' := by
  subst hj
  by_cases hi : i < n
  · have e1 : atOf l i m = l.getD i 0 % m := by rw [atOf, if_pos (by omega)]
    rw [e1]
    obtain ⟨b, o, rfl, hbB, hc⟩ := hR.at_ (by omega)
    have c1 := hc i (.int .u8 (l.getD i 0)) (by rw [List.getElem?_map, List.getElem?_eq_getElem (by omega), List.getD_eq_getElem?_getD, List.getElem?_eq_getElem (by omega)]; rfl)
    obtain ⟨x0, x1⟩ := h255.getD i
    obtain ⟨x, hx⟩ : ∃ x, x = l.getD i 0 := ⟨_, rfl⟩
    rw [← hx] at c1 x0 x1 ⊢
    have hi2 : (i : Int) < (n : Int) := by omega
    clear hl h255 hR hbB hc e1 hx
    go_enter Try.func54, Try.ntmps54
    go_wp2
    go_ret
    exact ⟨rfl, rfl⟩
  · have e1 : atOf l i m = 0 := by rw [atOf, if_neg (by omega)]
    rw [e1]
    have hi2 : (n : Int) ≤ (i : Int) := by omega
    clear hl h255 hR e1 hi
    go_enter Try.func54, Try.ntmps54
    go_wp2
    go_ret
    exact ⟨rfl, rfl⟩

set_option maxHeartbeats 400000 in
theorem sameFs_any (A A' : Option Addr) (n n' c c' : Nat) (l l' : List (List Int)) (hl : l.length = n) (hl' : l'.length = n') (hrow : Rows_ 16 l) (hrow' : Rows_ 16 l') (hn : n ≤ 100000000) (w : World) (hR : Rd w w.heap.size 16 A n (l.flatten.map (.int .u8))) (hR' : Rd w w.heap.size 16 A' n' (l'.flatten.map (.int .u8))) :
    Calls Try.prog 55 #[.slice A n c, .slice A' n' c'] w fun e w' => e = .returned (.bool (l == l')) ∧ Below w.heap.size w w' := by
  have HS := Lib.hid (l09Same_any A A' n n' c c' l l' hl hl' hrow hrow' hn w hR hR')
  clear hl hl' hrow hrow' hR hR'
  go_enter Try.func55, Try.ntmps55
  go_wp2_with fail
  refine (HS.out).mono ?_
  rintro e w1 ⟨rfl, hb⟩
  go_wp2
  go_ret
  exact ⟨rfl, hb⟩

theorem conv_own {w : World} {lo hi : Nat} {A : Option Addr} {n c : Nat} {l : List Int} (h : Own w lo hi 5 1 A n c (l.map (.int .u8))) (hl : l.length = n) :
    ∃ s : ByteArray, (convert 40 9 (.slice A n c)).run Try.prog w = .ok (.string s) w ∧ s.toList = (strOfNums l).toList := by
  rcases h.2 with ⟨rfl, rfl, rfl⟩ | ⟨g, cur, rfl, h1, h2, h3, h4, h5, h6, h7⟩
  · have : l = [] := List.eq_nil_of_length_eq_zero hl
    subst this
    exact ⟨_, run_convert_bytes_nil w 40 5 Try.underlying40 Try.underlying5 0 0 9 Try.underlying9, rfl⟩
  · refine ⟨_, conv_bytes hl fun j v hv => ?_, rfl⟩
    rw [Nat.zero_add, h3.cell]
    rw [← h7, List.getElem?_take] at hv
    split at hv
    · simpa using hv
    · cases hv
end Go.Proofs.Ytjjmgonbhofipaa
