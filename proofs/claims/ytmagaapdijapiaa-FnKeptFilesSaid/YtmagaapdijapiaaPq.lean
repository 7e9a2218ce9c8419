/- PackFrames of both sides. -/
import Derived.Test.YtmagaapdijapiaaRows
import Derived.Test.YtmagaapdijapiaaPl
import Derived.Test.YtmagaapdijapiaaSp
namespace Go.Proofs.Ytmagaapdijapiaa
open Go.ChangeShapes Go.WideShapes Go.ChangeAt Go.RowKit

def packOk (kind count : Int) : Bool := inB kind 1 3 && inB count 0 256
def packFs (kind count : Int) (l : List Int) : List (List Int) := if packOk kind count && decide (l.length ≤ 8192) then packOf kind count l else []
def packCd (kind count : Int) (n : Nat) : Int := if packOk kind count then (if n ≤ 8192 then 0 else 3) else 2
theorem packFs_rows (kind count : Int) (l : List Int) : Rows_ 16 (packFs kind count l) := by
  unfold packFs
  split
  · exact packOf_rows _ _ _
  · intro f hf; cases hf
theorem packFs_length (kind count : Int) (l : List Int) : (packFs kind count l).length ≤ 700 := by
  unfold packFs
  split
  · rename_i h
    simp at h
    rw [packOf, packTo_length, packMany]
    omega
  · simp

set_option maxRecDepth 20000 in
set_option maxHeartbeats 800000 in
theorem packCode_any (kind count : Int) (n : Nat) (hn : n ≤ 1048576) (w : World) :
    Calls Try.prog 104 #[.int .i64 kind, .int .i64 count, .int .i64 n] w fun e w' => e = .returned (.int .i64 (packCd kind count n)) ∧ w = w' := by
  have e1 := fun W : World => inRange_any kind 1 3 W
  have e2 := fun W : World => inRange_any count 0 256 W
  cases q1 : inB kind 1 3
  · rw [q1] at e1
    have E1 := Lib.hid e1
    have hv : packCd kind count n = 2 := by simp [packCd, packOk, q1]
    rw [hv]
    clear e1 e2 q1 hv
    go_enter Try.func104, Try.ntmps104
    go_wp2_with fail
    refine (E1.out _).mono ?_
    rintro e wx ⟨rfl, rfl⟩
    go_wp2
    go_ret
    exact ⟨rfl, rfl⟩
  · rw [q1] at e1
    have E1 := Lib.hid e1
    cases q2 : inB count 0 256
    · rw [q2] at e2
      have E2 := Lib.hid e2
      have hv : packCd kind count n = 2 := by simp [packCd, packOk, q1, q2]
      rw [hv]
      clear e1 e2 q1 q2 hv
      go_enter Try.func104, Try.ntmps104
      go_wp2_with fail
      refine (E1.out _).mono ?_
      rintro e wx ⟨rfl, rfl⟩
      go_wp2_with fail
      refine (E2.out _).mono ?_
      rintro e wx ⟨rfl, rfl⟩
      go_wp2
      go_ret
      exact ⟨rfl, rfl⟩
    · rw [q2] at e2
      have E2 := Lib.hid e2
      have hv : packCd kind count n = if n ≤ 8192 then 0 else 3 := by simp [packCd, packOk, q1, q2]
      rw [hv]
      clear e1 e2 q1 q2 hv
      by_cases h : n ≤ 8192
      · rw [if_pos h]
        go_enter Try.func104, Try.ntmps104
        go_wp2_with fail
        refine (E1.out _).mono ?_
        rintro e wx ⟨rfl, rfl⟩
        go_wp2_with fail
        refine (E2.out _).mono ?_
        rintro e wx ⟨rfl, rfl⟩
        go_wp2
        go_ret
        exact ⟨rfl, rfl⟩
      · rw [if_neg h]
        go_enter Try.func104, Try.ntmps104
        go_wp2_with fail
        refine (E1.out _).mono ?_
        rintro e wx ⟨rfl, rfl⟩
        go_wp2_with fail
        refine (E2.out _).mono ?_
        rintro e wx ⟨rfl, rfl⟩
        go_wp2
        go_ret
        exact ⟨rfl, rfl⟩

set_option maxRecDepth 20000 in
set_option maxHeartbeats 1600000 in
theorem sPackFrames_any (kind count : Int) (b o n c : Nat) (l : List Int) (hl : l.length = n) (hn : n ≤ 1048576) (w : World) (hR : Rd w w.heap.size 1 (some ⟨b, o, none⟩) n (l.map (.int .u8))) :
    Calls Try.prog 101 #[.int .i64 kind, .int .i64 count, .slice (some ⟨b, o, none⟩) n c] w (GivesFs (packFs kind count l) (packCd kind count n) w) := by
  have e1 := fun W : World => l00In_any kind 1 3 W
  have e2 := fun W : World => l00In_any count 0 256 W
  cases q1 : inB kind 1 3
  · rw [q1] at e1
    have E1 := Lib.hid e1
    have hv : packCd kind count n = 2 := by simp [packCd, packOk, q1]
    have hf : packFs kind count l = [] := by simp [packFs, packOk, q1]
    rw [hv, hf]
    clear e1 e2 q1 hv hf hl hR
    go_enter Try.func101, Try.ntmps101
    go_wp2_with fail
    refine (E1.out _).mono ?_
    rintro e wx ⟨rfl, rfl⟩
    go_wp2
    go_ret2
    exact ⟨some ⟨w.heap.size, 0, none⟩, 0, rfl, ⟨rfl, .inr ⟨w.heap.size, #[], rfl, Nat.le_refl _, by rw [size_alloc]; omega, Blk.newAt rfl rfl, Nat.le_refl _, by unfold maxLen; omega, rfl, rfl⟩⟩, (Below.refl _ _).alloc (Nat.le_refl _) _⟩
  · rw [q1] at e1
    have E1 := Lib.hid e1
    cases q2 : inB count 0 256
    · rw [q2] at e2
      have E2 := Lib.hid e2
      have hv : packCd kind count n = 2 := by simp [packCd, packOk, q1, q2]
      have hf : packFs kind count l = [] := by simp [packFs, packOk, q1, q2]
      rw [hv, hf]
      clear e1 e2 q1 q2 hv hf hl hR
      go_enter Try.func101, Try.ntmps101
      go_wp2_with fail
      refine (E1.out _).mono ?_
      rintro e wx ⟨rfl, rfl⟩
      go_wp2_with fail
      refine (E2.out _).mono ?_
      rintro e wx ⟨rfl, rfl⟩
      go_wp2
      go_ret2
      exact ⟨some ⟨w.heap.size, 0, none⟩, 0, rfl, ⟨rfl, .inr ⟨w.heap.size, #[], rfl, Nat.le_refl _, by rw [size_alloc]; omega, Blk.newAt rfl rfl, Nat.le_refl _, by unfold maxLen; omega, rfl, rfl⟩⟩, (Below.refl _ _).alloc (Nat.le_refl _) _⟩
    · rw [q2] at e2
      have E2 := Lib.hid e2
      have h1 := inB_true q1
      have h2 := inB_true q2
      by_cases h : n ≤ 8192
      · have hv : packCd kind count n = 0 := by simp [packCd, packOk, q1, q2, h]
        have hf : packFs kind count l = packOf kind count l := by simp [packFs, packOk, q1, q2, hl, h]
        rw [hv, hf]
        clear e1 e2 q1 q2 hv hf
        go_enter Try.func101, Try.ntmps101
        go_wp2_with fail
        refine (E1.out _).mono ?_
        rintro e wx ⟨rfl, rfl⟩
        go_wp2_with fail
        refine (E2.out _).mono ?_
        rintro e wx ⟨rfl, rfl⟩
        go_wp2_with fail
        refine (l09Pack_any b o n c kind count h1.1 h1.2 h2.1 h2.2 l hl h _ hR).mono ?_
        rintro e w2 ⟨A, c2, rfl, hO, hB⟩
        go_wp2
        go_ret2
        exact ⟨A, c2, rfl, hO, hB⟩
      · have hv : packCd kind count n = 3 := by simp [packCd, packOk, q1, q2, h]
        have hf : packFs kind count l = [] := by simp [packFs, hl, h]
        rw [hv, hf]
        clear e1 e2 q1 q2 hv hf hl hR
        go_enter Try.func101, Try.ntmps101
        go_wp2_with fail
        refine (E1.out _).mono ?_
        rintro e wx ⟨rfl, rfl⟩
        go_wp2_with fail
        refine (E2.out _).mono ?_
        rintro e wx ⟨rfl, rfl⟩
        go_wp2
        go_ret2
        exact ⟨some ⟨w.heap.size, 0, none⟩, 0, rfl, ⟨rfl, .inr ⟨w.heap.size, #[], rfl, Nat.le_refl _, by rw [size_alloc]; omega, Blk.newAt rfl rfl, Nat.le_refl _, by unfold maxLen; omega, rfl, rfl⟩⟩, (Below.refl _ _).alloc (Nat.le_refl _) _⟩
end Go.Proofs.Ytmagaapdijapiaa
