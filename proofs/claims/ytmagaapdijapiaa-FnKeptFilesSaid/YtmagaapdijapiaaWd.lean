/- Words: letters, valid words. -/
import Derived.Test.YtmagaapdijapiaaRows
import Derived.Test.YtmagaapdijapiaaSl
import Derived.Test.YtmagaapdijapiaaShw
import Derived.Laws.BytesArg
import Derived.Deep.RegionHeld3
namespace Go.Proofs.Ytmagaapdijapiaa
open Go.ChangeShapes Go.WideShapes Go.ChangeAt Go.RowKit

/-- a byte of a text, as a number -/
def bAt (s : ByteArray) (k : Nat) : Int := ((s.data.toList.getD k 0).toNat : Int)
theorem bAt_range (s : ByteArray) (k : Nat) : 0 ≤ bAt s k ∧ bAt s k ≤ 255 := by
  unfold bAt
  have := (s.data.toList.getD k 0).toNat_lt
  omega
theorem run_bAt {w : World} (s : ByteArray) (k : Nat) (h : k < s.size) : (Instr.index 9 (.string s) (.int .i64 (k : Nat))).run Try.prog w = .ok (.int .u8 (bAt s k)) w := by
  rw [run_index_string w 9 s .i64 k Try.underlying9, dif_pos ⟨by omega, by omega⟩]
  congr 2
  unfold bAt
  rw [List.getD_eq_getElem?_getD, List.getElem?_eq_getElem (by simpa using h)]
  rfl

def lts : List Int := [97, 65, 98, 66, 99, 67, 100, 68]
/-- the number of a letter, -1 for what is none -/
def lt (x : Int) : Int := if x = 97 then 0 else if x = 65 then 1 else if x = 98 then 2 else if x = 66 then 3 else if x = 99 then 4 else if x = 67 then 5 else if x = 100 then 6 else if x = 68 then 7 else -1
def isL (x : Int) : Bool := (decide (97 ≤ x) && decide (x ≤ 100)) || (decide (65 ≤ x) && decide (x ≤ 68))
theorem isL_cases {x : Int} (h : isL x = true) : x = 97 ∨ x = 65 ∨ x = 98 ∨ x = 66 ∨ x = 99 ∨ x = 67 ∨ x = 100 ∨ x = 68 := by
  simp only [isL, Bool.or_eq_true, Bool.and_eq_true, decide_eq_true_eq] at h
  omega
theorem lt_of_isL {x : Int} (h : isL x = true) : 0 ≤ lt x ∧ lt x ≤ 7 := by
  rcases isL_cases h with rfl | rfl | rfl | rfl | rfl | rfl | rfl | rfl <;> decide
theorem lt_of_not {x : Int} (h : isL x = false) : lt x = -1 := by
  have : ¬ isL x = true := by rw [h]; decide
  have h2 : ∀ y, isL y = true → x ≠ y := fun y hy e => this (e ▸ hy)
  unfold lt
  rw [if_neg (h2 97 rfl), if_neg (h2 65 rfl), if_neg (h2 98 rfl), if_neg (h2 66 rfl), if_neg (h2 99 rfl), if_neg (h2 67 rfl), if_neg (h2 100 rfl), if_neg (h2 68 rfl)]
theorem lt_at {k : Nat} (h : k < 8) : lt (lts.getD k 0) = k := by
  rcases (by omega : k = 0 ∨ k = 1 ∨ k = 2 ∨ k = 3 ∨ k = 4 ∨ k = 5 ∨ k = 6 ∨ k = 7) with rfl | rfl | rfl | rfl | rfl | rfl | rfl | rfl <;> rfl
theorem lt_no {x : Int} (h : ∀ k, k < 8 → lts.getD k 0 ≠ x) : lt x = -1 := by
  unfold lt
  rw [if_neg (fun e => h 0 (by omega) e.symm), if_neg (fun e => h 1 (by omega) e.symm), if_neg (fun e => h 2 (by omega) e.symm), if_neg (fun e => h 3 (by omega) e.symm), if_neg (fun e => h 4 (by omega) e.symm), if_neg (fun e => h 5 (by omega) e.symm), if_neg (fun e => h 6 (by omega) e.symm), if_neg (fun e => h 7 (by omega) e.symm)]
theorem run_lts {w : World} (k : Nat) (h : k < 8) : (Instr.index 9 (.string { data := #[97, 65, 98, 66, 99, 67, 100, 68] }) (.int .i64 (k : Nat))).run Try.prog w = .ok (.int .u8 (lts.getD k 0)) w := by
  rw [run_bAt _ _ (by exact h)]
  rcases (by omega : k = 0 ∨ k = 1 ∨ k = 2 ∨ k = 3 ∨ k = 4 ∨ k = 5 ∨ k = 6 ∨ k = 7) with rfl | rfl | rfl | rfl | rfl | rfl | rfl | rfl <;> rfl

set_option maxRecDepth 20000 in
theorem l05Letter_any (x : Int) (w : World) : Calls Try.prog 149 #[.int .u8 x] w fun e w' => e = .returned (.int .i64 (lt x)) ∧ w = w' := by
  go_enter Try.func149, Try.ntmps149
  go_wp2
  go_loopw [3] (fun i wr => ∃ k : Nat, k ≤ 8 ∧ i = .int .i64 k ∧ Hid (∀ j, j < k → lts.getD j 0 ≠ x) ∧ w = wr) (fun i _ => 8 - (intOf i).toNat)
  case atStart => exact ⟨0, by omega, rfl, Lib.hid (fun j hj => by omega), rfl⟩
  case round =>
    obtain ⟨k, hk, rfl, hv, rfl⟩ := hrel
    by_cases hlt : k < 8
    · have hr := fun W => run_lts (w := W) k hlt
      have hlt' : (k : Int) < 8 := by omega
      have HA := Lib.hid (lt_at hlt)
      have hv2 : lts.getD k 0 ≠ x → Hid (∀ j, j < k + 1 → lts.getD j 0 ≠ x) := fun h => Lib.hid (fun j hj => by
        by_cases e : j = k
        · subst e; exact h
        · exact hv.out j (by omega))
      have HV := Lib.hid hv2
      clear hv2
      generalize lts.getD k 0 = y at *
      by_cases he : y = x
      · subst he
        go_wp2
        go_ret
        exact ⟨by rw [HA.out]; rfl, rfl⟩
      · go_wp2
        exact ⟨⟨k + 1, by omega, by go_num, HV.out he, by first | rfl | trivial⟩, by simp [intOf]; omega⟩
    · obtain rfl : k = 8 := by omega
      have HA := Lib.hid (lt_no hv.out)
      go_wp2
      go_ret
      exact ⟨by rw [HA.out]; rfl, rfl⟩

set_option maxRecDepth 20000 in
theorem inRangeB_any (n lo hi : Int) (w : World) : Calls Try.prog 150 #[.int .u8 n, .int .u8 lo, .int .u8 hi] w fun e w' => e = .returned (.bool (decide (lo ≤ n) && decide (n ≤ hi))) ∧ w = w' := by
  go_enter Try.func150, Try.ntmps150
  go_wp2
  all_goals
    go_ret
    exact ⟨by simp [*]; try omega, rfl⟩
theorem isLetter_any (x : Int) (w : World) : Calls Try.prog 140 #[.int .u8 x] w fun e w' => e = .returned (.bool (isL x)) ∧ w = w' := by
  have h1 := fun W => inRangeB_any x 97 100 W
  have h2 := fun W => inRangeB_any x 65 68 W
  unfold isL
  generalize (decide (97 ≤ x) && decide (x ≤ 100)) = a at *
  generalize (decide (65 ≤ x) && decide (x ≤ 68)) = b at *
  have H1 := Lib.hid h1
  have H2 := Lib.hid h2
  clear h1 h2
  cases a <;> cases b
  all_goals
    go_enter Try.func140, Try.ntmps140
    go_wp2_with (first
      | (go_at_call_of 150 (97 : Int); refine (H1.out _).mono ?_; rintro e w' ⟨rfl, rfl⟩)
      | (go_at_call_of 150 (65 : Int); refine (H2.out _).mono ?_; rintro e w' ⟨rfl, rfl⟩))
    go_ret
    exact ⟨rfl, rfl⟩

theorem placeOf_any (x : Int) (h : isL x = true) (w : World) : Calls Try.prog 112 #[.int .u8 x] w fun e w' => e = .returned (.int .i64 (lt x)) ∧ w = w' := by
  have hc := Try.strings_IndexByte { data := #[97, 65, 98, 66, 99, 67, 100, 68] } x w
  have e : Lib.indexByte ({ data := #[97, 65, 98, 66, 99, 67, 100, 68] } : ByteArray).data.toList x.toNat.toUInt8 = lt x := by
    rcases isL_cases h with rfl | rfl | rfl | rfl | rfl | rfl | rfl | rfl <;> rfl
  rw [e] at hc
  have HC := Lib.hid hc
  clear hc e h
  go_enter Try.func112, Try.ntmps112
  go_wp2_with (go_at_call 141; refine HC.out.mono ?_; rintro e w' ⟨rfl, rfl⟩)
  go_ret
  exact ⟨rfl, rfl⟩

/-! ### valid words -/
def bys (s : ByteArray) : List Int := s.data.toList.map fun b => (b.toNat : Int)
theorem bys_length (s : ByteArray) : (bys s).length = s.size := by rw [bys, List.length_map]; exact (Lib.size_eq s).symm
theorem bys_at {s : ByteArray} {k : Nat} : (bys s).getD k 0 = bAt s k := by
  unfold bAt bys
  rw [List.getD_eq_getElem?_getD, List.getElem?_map, List.getD_eq_getElem?_getD]
  cases s.data.toList[k]? <;> rfl
def wOk (s : ByteArray) : Bool := (bys s).all isL && decide (s.size ≤ 40)
theorem wOk_all {s : ByteArray} (h : ∀ j, j < s.size → isL (bAt s j) = true) : (bys s).all isL = true := by
  rw [List.all_eq_true]
  intro x hx
  obtain ⟨j, hj, rfl⟩ := List.getElem_of_mem hx
  have := h j (by rw [← bys_length]; exact hj)
  rw [← bys_at, List.getD_eq_getElem?_getD, List.getElem?_eq_getElem hj] at this
  exact this
theorem wOk_no {s : ByteArray} {k : Nat} (hk : k < s.size) (h : isL (bAt s k) = false) : wOk s = false := by
  rw [wOk, Bool.and_eq_false_iff]
  refine .inl ?_
  rw [List.all_eq_false]
  refine ⟨bAt s k, ?_, by rw [h]; decide⟩
  rw [← bys_at, List.getD_eq_getElem?_getD, List.getElem?_eq_getElem (by rw [bys_length]; exact hk)]
  exact List.getElem_mem _
theorem wOk_isL {s : ByteArray} (h : wOk s = true) {k : Nat} (hk : k < s.size) : isL (bAt s k) = true := by
  rw [wOk, Bool.and_eq_true, List.all_eq_true] at h
  refine h.1 _ ?_
  rw [← bys_at, List.getD_eq_getElem?_getD, List.getElem?_eq_getElem (by rw [bys_length]; exact hk)]
  exact List.getElem_mem _
theorem wOk_size {s : ByteArray} (h : wOk s = true) : s.size ≤ 40 := by
  rw [wOk, Bool.and_eq_true, decide_eq_true_eq] at h
  exact h.2

set_option maxRecDepth 20000 in
theorem validWord_any (s : ByteArray) (hs : s.size ≤ 1048576) (w : World) : Calls Try.prog 111 #[.string s] w fun e w' => e = .returned (.bool (wOk s)) ∧ w = w' := by
  go_enter Try.func111, Try.ntmps111
  go_wp2
  go_loopw [3, 6] (fun _ i wr => ∃ k : Nat, k ≤ s.size ∧ i = .int .i64 k ∧ Hid (∀ j, j < k → isL (bAt s j) = true) ∧ w = wr) (fun _ i _ => s.size - (intOf i).toNat)
  case atStart => exact ⟨0, by omega, rfl, Lib.hid (fun j hj => by omega), rfl⟩
  case round =>
    obtain ⟨k, hk, rfl, hv, rfl⟩ := hrel
    by_cases hlt : k < s.size
    · have hr := fun W => run_bAt (w := W) s k hlt
      have hlt' : (k : Int) < s.size := by omega
      have hL := fun W => isLetter_any (bAt s k) W
      have HL := Lib.hid hL
      clear hL
      rcases hb : isL (bAt s k) with _ | _
      · have e : wOk s = false := wOk_no hlt hb
        have HE := Lib.hid e
        clear e hv
        rw [hb] at HL
        go_wp2_with (go_at_call 140; refine (HL.out _).mono ?_; rintro e w' ⟨rfl, rfl⟩)
        go_ret
        exact ⟨by rw [HE.out]; rfl, rfl⟩
      · have hv2 : Hid (∀ j, j < k + 1 → isL (bAt s j) = true) := Lib.hid (fun j hj => by
          by_cases e : j = k
          · subst e; exact hb
          · exact hv.out j (by omega))
        rw [hb] at HL
        clear hv hb
        go_wp2_with (go_at_call 140; refine (HL.out _).mono ?_; rintro e w' ⟨rfl, rfl⟩)
        exact ⟨⟨k + 1, by omega, by go_num, hv2, by first | rfl | trivial⟩, by simp [intOf]; omega⟩
    · obtain rfl : k = s.size := by omega
      have e : wOk s = decide (s.size ≤ 40) := by rw [wOk, wOk_all hv.out, Bool.true_and]
      have E := Lib.hid e
      have e2 : decide ((s.size : Int) ≤ 40) = decide (s.size ≤ 40) := by simp only [decide_eq_decide]; omega
      have HE := Lib.hid e2
      clear e e2 hv
      go_wp2
      all_goals
        go_ret
        exact ⟨by rw [E.out, ← HE.out]; rfl, rfl⟩
end Go.Proofs.Ytmagaapdijapiaa
