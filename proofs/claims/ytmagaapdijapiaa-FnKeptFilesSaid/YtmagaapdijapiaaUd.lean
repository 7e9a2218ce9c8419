/- Two lists of frames held against each other, by the reference and by the program. -/
import Derived.Test.YtmagaapdijapiaaRows
import Derived.Test.YtmagaapdijapiaaSf
import Derived.Test.YtmagaapdijapiaaSb
import Derived.Test.YtmagaapdijapiaaLd
import Derived.Test.YtmagaapdijapiaaEqA
import Derived.Deep.QuietTactic
import Derived.BigQuiet
namespace Go.Proofs.Ytmagaapdijapiaa
open Go.ChangeShapes Go.WideShapes Go.ChangeAt Go.RowKit

theorem rowAt_drewN (W : World) (m g o n : Nat) : rowAt (W.drewN m) g o n = rowAt W g o n := rfl
theorem hasRow_drewN (W : World) (m g o n : Nat) : hasRow (W.drewN m) g o n = hasRow W g o n := rfl
theorem beq_of_takes {α : Type} [BEq α] [LawfulBEq α] {a b : List α} {n : Nat} (ha : a.length = n) (hb : b.length = n) (h : a.take n = b.take n) : (a == b) = true := by
  rw [List.take_of_length_le (by omega), List.take_of_length_le (by omega)] at h
  subst h
  exact beq_self_eq_true _
theorem bne_of_at {α : Type} [BEq α] [LawfulBEq α] {a b : List α} {k : Nat} (ha : k < a.length) (hb : k < b.length) (h : a[k] ≠ b[k]) : (a == b) = false := by
  rw [beq_eq_false_iff_ne]
  rintro rfl
  exact h rfl
theorem take_eq_succ {α : Type} {a b : List α} {k : Nat} (ha : k < a.length) (hb : k < b.length) (h : a.take k = b.take k) (he : a[k] = b[k]) : a.take (k + 1) = b.take (k + 1) := by
  rw [List.take_succ_eq_append_getElem ha, List.take_succ_eq_append_getElem hb, h, he]

section
attribute [local go_sem ↓] exec_loadFrame
attribute [local go_sem] run_ldFrame rowAt_drewN hasRow_drewN
set_option maxRecDepth 20000 in
set_option maxHeartbeats 1600000 in
theorem l09Same_any (A A' : Option Addr) (n n' c c' : Nat) (l l' : List (List Int)) (hl : l.length = n) (hl' : l'.length = n') (hrow : Rows_ 16 l) (hrow' : Rows_ 16 l') (hn : n ≤ 100000000) (w : World) (hR : Rd w w.heap.size 16 A n (l.flatten.map (.int .u8))) (hR' : Rd w w.heap.size 16 A' n' (l'.flatten.map (.int .u8))) :
    Calls Try.prog 55 #[.slice A n c, .slice A' n' c'] w fun e w' => e = .returned (.bool (l == l')) ∧ Below w.heap.size w w' := by
  obtain ⟨i0, hi0, -, -, -⟩ := info_parts Byte_info
  by_cases hnn : n = n'
  · subst hnn
    have HR := Lib.hid hR
    have HR' := Lib.hid hR'
    have Hl := Lib.hid hl
    have Hl' := Lib.hid hl'
    clear hR hR' hl hl'
    go_enter Try.func55, Try.ntmps55
    go_wp2
    go_loopw [5] (fun i wr => ∃ k : Nat, k ≤ n ∧ i = .int .i64 k ∧ Hid (l.take k = l'.take k) ∧ Below w.heap.size w wr) (fun i _ => n - (intOf i).toNat)
    case atStart => exact ⟨0, by omega, rfl, Lib.hid (by simp), Below.refl _ _⟩
    case round =>
      obtain ⟨k, hk, rfl, htk, hb⟩ := hrel
      by_cases hlt : k < n
      · obtain ⟨b, o, rfl, hbB, hc⟩ := (HR.out.below hb (Nat.le_refl _)).at_ (by omega)
        obtain ⟨b', o', rfl, hbB', hc'⟩ := (HR'.out.below hb (Nat.le_refl _)).at_ (by omega)
        have hkl : k < l.length := by rw [Hl.out]; exact hlt
        have hkl' : k < l'.length := by rw [Hl'.out]; exact hlt
        obtain ⟨r1, r3⟩ := rowAt_rd hc hrow hkl
        obtain ⟨r2, r4⟩ := rowAt_rd hc' hrow' hkl'
        have hF : (l[k]).length = 16 := hrow.at_ _
        have hF' : (l'[k]).length = 16 := hrow'.at_ _
        have heq : ∀ W : World, (Op.equalIn 10000 87 (.agg (ivs .u8 l[k])) (.agg (ivs .u8 l'[k]))).run Try.prog W = .ok (l[k] == l'[k]) W := fun W => run_eql_arr W Try.underlying87 Try.underlying5 hi0 (by kernel_rfl) hF hF'
        by_cases he : l[k] = l'[k]
        · have htk2 := Lib.hid (take_eq_succ hkl hkl' htk.out he)
          rw [show (l[k] == l'[k]) = true from by rw [he]; exact beq_self_eq_true _] at heq
          obtain ⟨F, hF1⟩ : ∃ F, F = l[k] := ⟨_, rfl⟩
          obtain ⟨F', hF1'⟩ : ∃ F, F = l'[k] := ⟨_, rfl⟩
          rw [← hF1] at r1 heq
          rw [← hF1'] at r2 heq
          have hi1 : (k : Int) < (n : Int) := by omega
          clear hc hbB hc' hbB' hF1 hF1' hF hF' he hkl hkl' htk
          go_wp2_with fail
          go_quiet (fail)
          go_wp2
          exact ⟨⟨k + 1, by omega, by go_num, htk2, below_drewN hb _⟩, by simp [intOf]; omega⟩
        · have hfin := Lib.hid (bne_of_at hkl hkl' he)
          rw [show (l[k] == l'[k]) = false from beq_eq_false_iff_ne.2 he] at heq
          obtain ⟨F, hF1⟩ : ∃ F, F = l[k] := ⟨_, rfl⟩
          obtain ⟨F', hF1'⟩ : ∃ F, F = l'[k] := ⟨_, rfl⟩
          rw [← hF1] at r1 heq
          rw [← hF1'] at r2 heq
          have hi1 : (k : Int) < (n : Int) := by omega
          clear hc hbB hc' hbB' hF1 hF1' hF hF' he hkl hkl' htk
          go_wp2_with fail
          go_quiet (fail)
          go_wp2
          go_ret
          exact ⟨by rw [hfin.out]; rfl, below_drewN hb _⟩
      · have : k = n := by omega
        subst this
        have hfin := Lib.hid (beq_of_takes Hl.out Hl'.out htk.out)
        clear htk
        go_wp2
        go_ret
        exact ⟨by rw [hfin.out]; rfl, hb⟩
  · have hne : (l == l') = false := by
      rw [beq_eq_false_iff_ne]
      rintro rfl
      exact hnn (hl.symm.trans hl')
    rw [hne]
    clear hne hl hl' hR hR'
    go_enter Try.func55, Try.ntmps55
    go_wp2
    go_ret
    exact ⟨rfl, Below.refl _ _⟩

set_option maxRecDepth 20000 in
set_option maxHeartbeats 1600000 in
theorem equalFs_any (A A' : Option Addr) (n n' c c' : Nat) (l l' : List (List Int)) (hl : l.length = n) (hl' : l'.length = n') (hrow : Rows_ 16 l) (hrow' : Rows_ 16 l') (hn : n ≤ 100000000) (w : World) (hR : Rd w w.heap.size 16 A n (l.flatten.map (.int .u8))) (hR' : Rd w w.heap.size 16 A' n' (l'.flatten.map (.int .u8))) :
    Calls Try.prog 105 #[.slice A n c, .slice A' n' c'] w fun e w' => e = .returned (.bool (l == l')) ∧ Below w.heap.size w w' := by
  obtain ⟨i0, hi0, -, -, -⟩ := info_parts Byte_info
  by_cases hnn : n = n'
  · subst hnn
    have HR := Lib.hid hR
    have HR' := Lib.hid hR'
    have Hl := Lib.hid hl
    have Hl' := Lib.hid hl'
    clear hR hR' hl hl'
    go_enter Try.func105, Try.ntmps105
    go_wp2
    go_loopw [5, 13] (fun _ i wr => ∃ k : Nat, k ≤ n ∧ i = .int .i64 k ∧ Hid (l.take k = l'.take k) ∧ Below w.heap.size w wr) (fun _ i _ => n - (intOf i).toNat)
    case atStart => exact ⟨0, by omega, rfl, Lib.hid (by simp), Below.refl _ _⟩
    case round =>
      obtain ⟨k, hk, rfl, htk, hb⟩ := hrel
      by_cases hlt : k < n
      · obtain ⟨b, o, rfl, hbB, hc⟩ := (HR.out.below hb (Nat.le_refl _)).at_ (by omega)
        obtain ⟨b', o', rfl, hbB', hc'⟩ := (HR'.out.below hb (Nat.le_refl _)).at_ (by omega)
        have hkl : k < l.length := by rw [Hl.out]; exact hlt
        have hkl' : k < l'.length := by rw [Hl'.out]; exact hlt
        obtain ⟨r1, r3⟩ := rowAt_rd hc hrow hkl
        obtain ⟨r2, r4⟩ := rowAt_rd hc' hrow' hkl'
        have hF : (l[k]).length = 16 := hrow.at_ _
        have hF' : (l'[k]).length = 16 := hrow'.at_ _
        have heq : ∀ W : World, (Op.equalIn 10000 87 (.agg (ivs .u8 l[k])) (.agg (ivs .u8 l'[k]))).run Try.prog W = .ok (l[k] == l'[k]) W := fun W => run_eql_arr W Try.underlying87 Try.underlying5 hi0 (by kernel_rfl) hF hF'
        by_cases he : l[k] = l'[k]
        · have htk2 := Lib.hid (take_eq_succ hkl hkl' htk.out he)
          rw [show (l[k] == l'[k]) = true from by rw [he]; exact beq_self_eq_true _] at heq
          obtain ⟨F, hF1⟩ : ∃ F, F = l[k] := ⟨_, rfl⟩
          obtain ⟨F', hF1'⟩ : ∃ F, F = l'[k] := ⟨_, rfl⟩
          rw [← hF1] at r1 heq
          rw [← hF1'] at r2 heq
          have hi1 : (k : Int) < (n : Int) := by omega
          clear hc hbB hc' hbB' hF1 hF1' hF hF' he hkl hkl' htk
          go_wp2_with fail
          go_quiet (fail)
          go_wp2
          exact ⟨⟨k + 1, by omega, by go_num, htk2, below_drewN hb _⟩, by simp [intOf]; omega⟩
        · have hfin := Lib.hid (bne_of_at hkl hkl' he)
          rw [show (l[k] == l'[k]) = false from beq_eq_false_iff_ne.2 he] at heq
          obtain ⟨F, hF1⟩ : ∃ F, F = l[k] := ⟨_, rfl⟩
          obtain ⟨F', hF1'⟩ : ∃ F, F = l'[k] := ⟨_, rfl⟩
          rw [← hF1] at r1 heq
          rw [← hF1'] at r2 heq
          have hi1 : (k : Int) < (n : Int) := by omega
          clear hc hbB hc' hbB' hF1 hF1' hF hF' he hkl hkl' htk
          go_wp2_with fail
          go_quiet (fail)
          go_wp2
          go_ret
          exact ⟨by rw [hfin.out]; rfl, below_drewN hb _⟩
      · have : k = n := by omega
        subst this
        have hfin := Lib.hid (beq_of_takes Hl.out Hl'.out htk.out)
        clear htk
        go_wp2
        go_ret
        exact ⟨by rw [hfin.out]; rfl, hb⟩
  · have hne : (l == l') = false := by
      rw [beq_eq_false_iff_ne]
      rintro rfl
      exact hnn (hl.symm.trans hl')
    rw [hne]
    clear hne hl hl' hR hR'
    go_enter Try.func105, Try.ntmps105
    go_wp2
    go_ret
    exact ⟨rfl, Below.refl _ _⟩
end
end Go.Proofs.Ytmagaapdijapiaa
