/- Sp, Pq, Ue, Mn, Ga, Va, Yf in one text. -/
import Derived.Test.YtmagaapdijapiaaRows
import Derived.Test.YtmagaapdijapiaaFrE
import Derived.Test.YtmagaapdijapiaaSf
import Derived.Test.YtmagaapdijapiaaCl
import Derived.Test.YtmagaapdijapiaaPl
import Derived.Test.YtmagaapdijapiaaUc
import Derived.Test.YtmagaapdijapiaaUd
import Derived.Test.YtmagaapdijapiaaHc
import Derived.Test.YtmagaapdijapiaaSb
import Derived.Test.YtmagaapdijapiaaHa
import Derived.Laws.BitsAllLaws
import Derived.Test.YtmagaapdijapiaaYc
namespace Go.Proofs.Ytmagaapdijapiaa
open Go.ChangeShapes Go.WideShapes Go.ChangeAt Go.RowKit

def flipAt (x : Int) (t : Nat) : Int := bits .xor .u8 x (2 ^ (t % 8) % 256)
def spoil (l : List (List Int)) (a t : Nat) : List (List Int) := l.set a ((l.getD a []).set (t / 8) (flipAt ((l.getD a []).getD (t / 8) 0) t))
theorem spoil_rows {l : List (List Int)} {a t : Nat} (h : Rows_ 16 l) (ha : a < l.length) : Rows_ 16 (spoil l a t) := by
  refine h.set ?_
  rw [List.length_set, List.getD_eq_getElem?_getD, List.getElem?_eq_getElem ha]
  exact h.at_ ha
theorem flat_set_cell {l : List (List Int)} {a j : Nat} (h : Rows_ 16 l) (ha : a < l.length) (hj : j < 16) (v : Int) : (l.set a ((l[a]).set j v)).flatten = l.flatten.set (a * 16 + j) v := by
  have hla := h.at_ ha
  have e0 := flat_set h ha hla
  rw [List.set_getElem_self, hla] at e0
  have e1 := flat_set (f := (l[a]).set j v) h ha (by rw [List.length_set, hla])
  rw [List.length_set, hla] at e1
  have hlen : (l.flatten.take (a * 16)).length = a * 16 := by
    rw [List.length_take, flat_length h]
    omega
  rw [e1]
  conv => rhs; rw [e0]
  rw [List.set_append_right _ _ (by omega), hlen, Nat.add_sub_cancel_left, List.set_append_left _ _ (by omega)]
theorem spoil_flat {l : List (List Int)} {a t : Nat} (h : Rows_ 16 l) (ha : a < l.length) (ht : t < 128) (hj : a * 16 + t / 8 < l.flatten.length) :
    (spoil l a t).flatten = l.flatten.set (a * 16 + t / 8) (flipAt (l.flatten[a * 16 + t / 8]'hj) t) := by
  have hla := h.at_ ha
  have e1 : l.getD a [] = l[a] := by rw [List.getD_eq_getElem?_getD, List.getElem?_eq_getElem ha]; rfl
  have e2 : (l[a]).getD (t / 8) 0 = l.flatten[a * 16 + t / 8]'hj := by
    have := flat_get h ha (j := t / 8) (by omega)
    rw [List.getElem?_eq_getElem hj] at this
    rw [List.getD_eq_getElem?_getD, List.getElem?_eq_getElem (by omega)]
    exact (Option.some.inj this).symm
  rw [spoil, e1, e2]
  exact flat_set_cell h ha (by omega) _

def spoilOk (l : List (List Int)) (x y : Int) : Bool := inB x 0 ((l.length : Int) - 1) && inB y 0 127
def spoilOf (l : List (List Int)) (x y : Int) : List (List Int) := if l.length ≤ 700 then (if spoilOk l x y then spoil l x.toNat y.toNat else []) else []
def spoilCode (l : List (List Int)) (x y : Int) : Int := if l.length ≤ 700 then (if spoilOk l x y then 0 else 2) else 3
theorem spoilOf_rows {l : List (List Int)} (h : Rows_ 16 l) (x y : Int) : Rows_ 16 (spoilOf l x y) := by
  unfold spoilOf
  split
  · split
    · rename_i hk
      simp only [spoilOk, Bool.and_eq_true] at hk
      have := inB_true hk.1
      exact spoil_rows h (by omega)
    · intro f hf; cases hf
  · intro f hf; cases hf
theorem spoilOf_length (l : List (List Int)) (x y : Int) : (spoilOf l x y).length ≤ 700 := by
  unfold spoilOf
  split
  · split
    · rw [spoil, List.length_set]; omega
    · simp
  · simp

/-- what SpoilFrame gives -/
def GivesFs (out : List (List Int)) (code : Int) (w : World) (e : Ending) (w' : World) : Prop :=
  ∃ A c, e = .returned (.tuple #[.slice A out.length c, .int .i64 code]) ∧ Own w' w.heap.size w'.heap.size 87 16 A out.length c (out.flatten.map (.int .u8)) ∧ Below w.heap.size w w'

end Go.Proofs.Ytmagaapdijapiaa
namespace Go.Proofs.Ytmagaapdijapiaa
open Go.ChangeShapes Go.WideShapes Go.ChangeAt Go.RowKit

def packOk (kind count : Int) : Bool := inB kind 1 3 && inB count 0 256
def packFs (kind count : Int) (l : List Int) : List (List Int) := if packOk kind count && decide (l.length ≤ 8192) then packOf kind count l else []
def packCd (kind count : Int) (n : Nat) : Int := if packOk kind count then (if n ≤ 8192 then 0 else 3) else 2
theorem packFs_rows (kind count : Int) (l : List Int) : Rows_ 16 (packFs kind count l) := by
  unfold packFs
  split
  · exact packOf_rows _ _ _
  · intro f hf; cases hf
theorem packFs_length (kind count : Int) (l : List Int) : (packFs kind count l).length ≤ 700 := by
  unfold packFs
  split
  · rename_i h
    simp at h
    rw [packOf, packTo_length, packMany]
    omega
  · simp

set_option maxRecDepth 20000 in
set_option maxHeartbeats 800000 in
theorem packCode_any (kind count : Int) (n : Nat) (hn : n ≤ 1048576) (w : World) :
    Calls Try.prog 104 #[.int .i64 kind, .int .i64 count, .int .i64 n] w fun e w' => e = .returned (.int .i64 (packCd kind count n)) ∧ w = w' := by
  have e1 := fun W : World => inRange_any kind 1 3 W
  have e2 := fun W : World => inRange_any count 0 256 W
  cases q1 : inB kind 1 3
  · rw [q1] at e1
    have E1 := Lib.hid e1
    have hv : packCd kind count n = 2 := by simp [packCd, packOk, q1]
    rw [hv]
    clear e1 e2 q1 hv
    go_enter Try.func104, Try.ntmps104
    go_wp2_with fail
    refine (E1.out _).mono ?_
    rintro e wx ⟨rfl, rfl⟩
    go_wp2
    go_ret
    exact ⟨rfl, rfl⟩
  · rw [q1] at e1
    have E1 := Lib.hid e1
    cases q2 : inB count 0 256
    · rw [q2] at e2
      have E2 := Lib.hid e2
      have hv : packCd kind count n = 2 := by simp [packCd, packOk, q1, q2]
      rw [hv]
      clear e1 e2 q1 q2 hv
      go_enter Try.func104, Try.ntmps104
      go_wp2_with fail
      refine (E1.out _).mono ?_
      rintro e wx ⟨rfl, rfl⟩
      go_wp2_with fail
      refine (E2.out _).mono ?_
      rintro e wx ⟨rfl, rfl⟩
      go_wp2
      go_ret
      exact ⟨rfl, rfl⟩
    · rw [q2] at e2
      have E2 := Lib.hid e2
      have hv : packCd kind count n = if n ≤ 8192 then 0 else 3 := by simp [packCd, packOk, q1, q2]
      rw [hv]
      clear e1 e2 q1 q2 hv
      by_cases h : n ≤ 8192
      · rw [if_pos h]
        go_enter Try.func104, Try.ntmps104
        go_wp2_with fail
        refine (E1.out _).mono ?_
        rintro e wx ⟨rfl, rfl⟩
        go_wp2_with fail
        refine (E2.out _).mono ?_
        rintro e wx ⟨rfl, rfl⟩
        go_wp2
        go_ret
        exact ⟨rfl, rfl⟩
      · rw [if_neg h]
        go_enter Try.func104, Try.ntmps104
        go_wp2_with fail
        refine (E1.out _).mono ?_
        rintro e wx ⟨rfl, rfl⟩
        go_wp2_with fail
        refine (E2.out _).mono ?_
        rintro e wx ⟨rfl, rfl⟩
        go_wp2
        go_ret
        exact ⟨rfl, rfl⟩

set_option maxRecDepth 20000 in
set_option maxHeartbeats 1600000 in
theorem sPackFrames_any (kind count : Int) (b o n c : Nat) (l : List Int) (hl : l.length = n) (hn : n ≤ 1048576) (w : World) (hR : Rd w w.heap.size 1 (some ⟨b, o, none⟩) n (l.map (.int .u8))) :
    Calls Try.prog 101 #[.int .i64 kind, .int .i64 count, .slice (some ⟨b, o, none⟩) n c] w (GivesFs (packFs kind count l) (packCd kind count n) w) := by
  have e1 := fun W : World => l00In_any kind 1 3 W
  have e2 := fun W : World => l00In_any count 0 256 W
  cases q1 : inB kind 1 3
  · rw [q1] at e1
    have E1 := Lib.hid e1
    have hv : packCd kind count n = 2 := by simp [packCd, packOk, q1]
    have hf : packFs kind count l = [] := by simp [packFs, packOk, q1]
    rw [hv, hf]
    clear e1 e2 q1 hv hf hl hR
    go_enter Try.func101, Try.ntmps101
    go_wp2_with fail
    refine (E1.out _).mono ?_
    rintro e wx ⟨rfl, rfl⟩
    go_wp2
    go_ret2
    exact ⟨some ⟨w.heap.size, 0, none⟩, 0, rfl, ⟨rfl, .inr ⟨w.heap.size, #[], rfl, Nat.le_refl _, by rw [size_alloc]; omega, Blk.newAt rfl rfl, Nat.le_refl _, by unfold maxLen; omega, rfl, rfl⟩⟩, (Below.refl _ _).alloc (Nat.le_refl _) _⟩
  · rw [q1] at e1
    have E1 := Lib.hid e1
    cases q2 : inB count 0 256
    · rw [q2] at e2
      have E2 := Lib.hid e2
      have hv : packCd kind count n = 2 := by simp [packCd, packOk, q1, q2]
      have hf : packFs kind count l = [] := by simp [packFs, packOk, q1, q2]
      rw [hv, hf]
      clear e1 e2 q1 q2 hv hf hl hR
      go_enter Try.func101, Try.ntmps101
      go_wp2_with fail
      refine (E1.out _).mono ?_
      rintro e wx ⟨rfl, rfl⟩
      go_wp2_with fail
      refine (E2.out _).mono ?_
      rintro e wx ⟨rfl, rfl⟩
      go_wp2
      go_ret2
      exact ⟨some ⟨w.heap.size, 0, none⟩, 0, rfl, ⟨rfl, .inr ⟨w.heap.size, #[], rfl, Nat.le_refl _, by rw [size_alloc]; omega, Blk.newAt rfl rfl, Nat.le_refl _, by unfold maxLen; omega, rfl, rfl⟩⟩, (Below.refl _ _).alloc (Nat.le_refl _) _⟩
    · rw [q2] at e2
      have E2 := Lib.hid e2
      have h1 := inB_true q1
      have h2 := inB_true q2
      by_cases h : n ≤ 8192
      · have hv : packCd kind count n = 0 := by simp [packCd, packOk, q1, q2, h]
        have hf : packFs kind count l = packOf kind count l := by simp [packFs, packOk, q1, q2, hl, h]
        rw [hv, hf]
        clear e1 e2 q1 q2 hv hf
        go_enter Try.func101, Try.ntmps101
        go_wp2_with fail
        refine (E1.out _).mono ?_
        rintro e wx ⟨rfl, rfl⟩
        go_wp2_with fail
        refine (E2.out _).mono ?_
        rintro e wx ⟨rfl, rfl⟩
        go_wp2_with fail
        refine (l09Pack_any b o n c kind count h1.1 h1.2 h2.1 h2.2 l hl h _ hR).mono ?_
        rintro e w2 ⟨A, c2, rfl, hO, hB⟩
        go_wp2
        go_ret2
        exact ⟨A, c2, rfl, hO, hB⟩
      · have hv : packCd kind count n = 3 := by simp [packCd, packOk, q1, q2, h]
        have hf : packFs kind count l = [] := by simp [packFs, hl, h]
        rw [hv, hf]
        clear e1 e2 q1 q2 hv hf hl hR
        go_enter Try.func101, Try.ntmps101
        go_wp2_with fail
        refine (E1.out _).mono ?_
        rintro e wx ⟨rfl, rfl⟩
        go_wp2_with fail
        refine (E2.out _).mono ?_
        rintro e wx ⟨rfl, rfl⟩
        go_wp2
        go_ret2
        exact ⟨some ⟨w.heap.size, 0, none⟩, 0, rfl, ⟨rfl, .inr ⟨w.heap.size, #[], rfl, Nat.le_refl _, by rw [size_alloc]; omega, Blk.newAt rfl rfl, Nat.le_refl _, by unfold maxLen; omega, rfl, rfl⟩⟩, (Below.refl _ _).alloc (Nat.le_refl _) _⟩
end Go.Proofs.Ytmagaapdijapiaa
namespace Go.Proofs.Ytmagaapdijapiaa
open Go.ChangeShapes Go.WideShapes Go.ChangeAt Go.RowKit

def opHead (l : List (List Int)) : List Int := l.headD []
def opGood (l : List (List Int)) : Bool :=
  hdOk (opHead l) && (packOk (hdKind (opHead l)) (numAt (opHead l) 4) && (decide (numAt (opHead l) 8 ≤ 8192) && (decide (numAt (opHead l) 8 ≤ ((dataOf l).length : Int)) && (packOf (hdKind (opHead l)) (numAt (opHead l) 4) ((dataOf l).take (numAt (opHead l) 8).toNat) == l))))
def opCode (l : List (List Int)) : Int := if l.length ≤ 700 then (if brokenTo l l.length = [] then (if l = [] then 5 else (if opGood l then 0 else 5)) else 8) else 3
def opKind (l : List (List Int)) : Int := if opCode l = 0 then hdKind (opHead l) else 0
def opCount (l : List (List Int)) : Int := if opCode l = 0 then numAt (opHead l) 4 else 0
def opData (l : List (List Int)) : List Int := if opCode l = 0 then (dataOf l).take (numAt (opHead l) 8).toNat else []
theorem opData_length (l : List (List Int)) (h : Rows_ 16 l) : (opData l).length ≤ 8400 := by
  unfold opData
  split
  · rename_i hc
    have h7 : l.length ≤ 700 := by
      unfold opCode at hc
      split at hc
      · assumption
      · cases hc
    have := dataOf_length h
    rw [List.length_take]
    omega
  · simp
/-- what UnpackFrames gives -/
def GivesOpen (k n : Int) (d : List Int) (code : Int) (w : World) (e : Ending) (w' : World) : Prop :=
  ∃ A c, e = .returned (.tuple #[.int .i64 k, .int .i64 n, .slice A d.length c, .int .i64 code]) ∧ Own w' w.heap.size w'.heap.size 5 1 A d.length c (d.map (.int .u8)) ∧ Below w.heap.size w w'

theorem Own.cut {w : World} {lo hi : Nat} {e : TypeId} {size : Nat} {A : Option Addr} {n c m : Nat} {xs : List Value} (h : Own w lo hi e size A n c xs) (hm : m ≤ n) : Own w lo hi e size A m c (xs.take (m * size)) := by
  obtain ⟨hl, h⟩ := h
  have hms : m * size ≤ n * size := Nat.mul_le_mul_right _ hm
  refine ⟨by rw [List.length_take]; omega, ?_⟩
  rcases h with ⟨rfl, rfl, rfl⟩ | ⟨g, cur, h1, h2, h3, h4, h5, h6, h7, h8⟩
  · exact .inl ⟨rfl, by omega, rfl⟩
  · exact .inr ⟨g, cur, h1, h2, h3, h4, by omega, h6, h7, by rw [← h8, List.take_take, Nat.min_eq_left hms]⟩
theorem opHead_eq {l : List (List Int)} (h : 0 < l.length) : l[0] = opHead l := by
  cases l with
  | nil => simp at h
  | cons f l => rfl
theorem packCd_cases (k n : Int) (m : Nat) : packCd k n m = 0 ∨ packCd k n m = 2 ∨ packCd k n m = 3 := by
  unfold packCd
  split
  · split
    · exact .inl rfl
    · exact .inr (.inr rfl)
  · exact .inr (.inl rfl)
theorem packFs_same {k n : Int} {d : List Int} {l : List (List Int)} (hk : packOk k n = true) (hd : d.length ≤ 8192) : (packFs k n d == l) = (packOf k n d == l) := by
  rw [packFs, hk, show decide (d.length ≤ 8192) = true by simpa using hd]
  rfl

set_option maxRecDepth 20000 in
set_option maxHeartbeats 3200000 in
theorem l09Open_in (A : Option Addr) (n c : Nat) (l : List (List Int)) (hl : l.length = n) (hrow : Rows_ 16 l) (h255 : ∀ f ∈ l, is255 f) (hn : n ≤ 1048576) (w : World) (hR : Rd w w.heap.size 16 A n (l.flatten.map (.int .u8))) :
    Calls Try.prog 52 #[.slice A n c] w (GivesOpen (opKind l) (opCount l) (opData l) (opCode l) w) := by
  have hsz : (Try.prog.info? 87).map (·.size) = some 16 := by kernel_rfl
  by_cases h7 : n ≤ 700
  · have ec : opCode l = if brokenTo l n = [] then (if l = [] then 5 else (if opGood l then 0 else 5)) else 8 := by rw [opCode, if_pos (by omega), hl]
    have hbk := l09Broken_any A n c l hl hrow h7 w hR
    by_cases hB : brokenTo l n = []
    · rw [if_pos hB] at ec
      rw [hB] at hbk
      by_cases h0 : n = 0
      · have : l = [] := List.eq_nil_of_length_eq_zero (by omega)
        rw [if_pos this] at ec
        rw [opKind, opCount, opData, ec]
        simp only [show (5 : Int) = 0 ↔ False from ⟨by decide, False.elim⟩, if_false]
        subst h0
        have HB := Lib.hid hbk
        clear hl hrow hR hB ec hbk this
        go_enter Try.func52, Try.ntmps52
        go_wp2_with fail
        refine (HB.out).mono ?_
        rintro e w1 ⟨AB, cB, rfl, hO, hb⟩
        have hz := hb.size
        go_wp2
        refine bodyPost_ret (results_tmp4 rfl _ _ _) rfl ?_
        exact ⟨some ⟨w1.heap.size, 0, none⟩, 0, rfl, ⟨rfl, .inr ⟨w1.heap.size, #[], rfl, hz, by rw [size_alloc]; omega, Blk.newAt rfl rfl, Nat.le_refl _, by unfold maxLen; omega, rfl, rfl⟩⟩, hb.alloc hz _⟩
      · have hne : l ≠ [] := by rintro rfl; exact h0 hl.symm
        rw [if_neg hne] at ec
        have hn1 : 0 < l.length := by omega
        have hF0 : l[0] = opHead l := opHead_eq hn1
        have hFl : (opHead l).length = 16 := by rw [← hF0]; exact hrow.at_ hn1
        have hFw : is255 (opHead l) := by rw [← hF0]; exact h255 _ (List.getElem_mem hn1)
        obtain ⟨b, o, rfl, hbB, hc⟩ := hR.at_ (by omega)
        have hrg : w.rangeAt b o ((opHead l).map (.int .u8)) := by
          have := Rd.rangeAt (i := 0 * 16) (s := 16) hc
          rw [← List.map_drop, ← List.map_take, flat_row hrow hn1, hF0] at this
          simpa using this
        have hgood : opGood l = (hdOk (opHead l) && (packOk (hdKind (opHead l)) (numAt (opHead l) 4) && (decide (numAt (opHead l) 8 ≤ 8192) && (decide (numAt (opHead l) 8 ≤ ((dataOf l).length : Int)) && (packOf (hdKind (opHead l)) (numAt (opHead l) 4) ((dataOf l).take (numAt (opHead l) 8).toNat) == l))))) := rfl
        have hh := fun W => l09Head_any (opHead l) hFl hFw W
        have hDl := dataOf_length hrow
        have hdat := fun (W : World) (hW : Rd W W.heap.size 16 (some ⟨b, o, none⟩) n (l.flatten.map (.int .u8))) => l09Data_any (some ⟨b, o, none⟩) n c l hl hrow (by omega) hn W hW
        rw [opKind, opCount, opData, ec]
        obtain ⟨s0, s1⟩ := numAt_range hFw 8
        obtain ⟨m, hm⟩ : ∃ m : Nat, numAt (opHead l) 8 = (m : Int) := ⟨_, (Int.toNat_of_nonneg s0).symm⟩
        rw [hm] at hh hgood s1 ⊢
        rw [Int.toNat_natCast] at hgood ⊢
        obtain ⟨kd, hkd⟩ : ∃ k, k = hdKind (opHead l) := ⟨_, rfl⟩
        obtain ⟨cn, hcn⟩ : ∃ k, k = numAt (opHead l) 4 := ⟨_, rfl⟩
        rw [← hkd, ← hcn] at hh hgood
        rw [← hkd, ← hcn]
        obtain ⟨F, hF⟩ : ∃ F, F = opHead l := ⟨_, rfl⟩
        rw [← hF] at hh hgood hFl hrg
        obtain ⟨D, hD⟩ : ∃ D, D = dataOf l := ⟨_, rfl⟩
        rw [← hD] at hgood hDl hdat ⊢
        have hDn : D.length ≤ 8400 := by omega
        have HR := Lib.hid hR
        have HB := Lib.hid hbk
        have HRG := Lib.hid hrg
        have HbB := Lib.hid hbB
        have HFl := Lib.hid hFl
        have HD := Lib.hid hdat
        have HROW := Lib.hid hrow
        have Hl := Lib.hid hl
        clear hl hrow h255 hR hbk hrg hbB hFl hFw hdat hF0 hkd hcn hm hF hD hc hB ec hDl s0 hn1
        cases q1 : hdOk F
        · have hg : opGood l = false := by rw [hgood, q1]; rfl
          rw [hg]
          simp only [Bool.false_eq_true, if_false, show (5 : Int) = 0 ↔ False from ⟨by decide, False.elim⟩]
          rw [q1] at hh
          have HH := Lib.hid hh
          clear hh hgood hg q1
          go_enter Try.func52, Try.ntmps52
          go_wp2_with fail
          refine (HB.out).mono ?_
          rintro e w1 ⟨AB, cB, rfl, -, hb1⟩
          have z1 := hb1.size
          have HRG1 := Lib.hid (range_below HRG.out hb1 HbB.out)
          go_wp2_with (refine wpList_load_ivs rfl _ _ rfl b o (by rfl) .u8 F _ HRG1.out Try.underlying87 rfl (by rw [HFl.out]; exact hsz) ?_)
          refine (HH.out _).mono ?_
          rintro e w2 ⟨rfl, hb2⟩
          have z2 := hb2.size
          have B2 := hb1.trans (hb2.mono z1)
          have HR2 := Lib.hid ((HR.out.below B2 (Nat.le_refl _)).more (show w.heap.size ≤ w2.heap.size by omega))
          go_wp2_with fail
          refine (HD.out _ HR2.out).mono ?_
          rintro e w3 ⟨gD, cD, rfl, OD, hb3⟩
          have z3 := hb3.size
          have B3 := B2.trans (hb3.mono (by omega))
          have z3' := B3.size
          have hlc := OD.len
          have HOD := Lib.hid OD
          clear hb1 hb2 hb3 OD
          go_wp2
          refine bodyPost_ret (results_tmp4 rfl _ _ _) rfl ?_
          exact ⟨some ⟨w3.heap.size, 0, none⟩, 0, rfl, ⟨rfl, .inr ⟨w3.heap.size, #[], rfl, B3.size, by rw [size_alloc]; omega, Blk.newAt rfl rfl, Nat.le_refl _, by unfold maxLen; omega, rfl, rfl⟩⟩, B3.alloc B3.size _⟩
        · rw [q1] at hh hgood
          have HH := Lib.hid hh
          clear hh q1
          by_cases q2 : m ≤ D.length
          · have hp := fun (W : World) (gD cD : Nat) (hW : Rd W W.heap.size 1 (some ⟨gD, 0, none⟩) m ((D.take m).map (.int .u8))) => sPackFrames_any kd cn gD 0 m cD (D.take m) (by rw [List.length_take]; omega) (by omega) W hW
            have e2 : decide ((m : Int) ≤ (D.length : Int)) = true := by rw [decide_eq_true_eq]; omega
            rw [e2, Bool.true_and] at hgood
            clear e2
            have hcd := packCd_cases kd cn m
            by_cases q3 : packOk kd cn = true ∧ m ≤ 8192
            · have e3 : decide ((m : Int) ≤ 8192) = true := by rw [decide_eq_true_eq]; omega
              rw [q3.1, e3, Bool.true_and, Bool.true_and, Bool.true_and] at hgood
              have hcd0 : packCd kd cn m = 0 := by rw [packCd, if_pos q3.1, if_pos q3.2]
              have hpf : packFs kd cn (D.take m) = packOf kd cn (D.take m) := by rw [packFs, if_pos]; rw [q3.1, Bool.true_and, decide_eq_true_eq, List.length_take]; omega
              rw [hcd0] at hp
              have hfr := packFs_rows kd cn (D.take m)
              have hfn := packFs_length kd cn (D.take m)
              rw [hpf] at hp hfr hfn
              obtain ⟨G, hG⟩ : ∃ G, G = packOf kd cn (D.take m) := ⟨_, rfl⟩
              rw [← hG] at hp hfr hfn hgood
              have HP := Lib.hid hp
              have HFR := Lib.hid hfr
              clear hcd hp hfr hcd0 hpf hG e3
              cases q4 : (G == l)
              · have hg : opGood l = false := by rw [hgood, q4]
                rw [hg]
                simp only [Bool.false_eq_true, if_false, show (5 : Int) = 0 ↔ False from ⟨by decide, False.elim⟩]
                clear hgood hg q3
                go_enter Try.func52, Try.ntmps52
                go_wp2_with fail
                refine (HB.out).mono ?_
                rintro e w1 ⟨AB, cB, rfl, -, hb1⟩
                have z1 := hb1.size
                have HRG1 := Lib.hid (range_below HRG.out hb1 HbB.out)
                go_wp2_with (refine wpList_load_ivs rfl _ _ rfl b o (by rfl) .u8 F _ HRG1.out Try.underlying87 rfl (by rw [HFl.out]; exact hsz) ?_)
                refine (HH.out _).mono ?_
                rintro e w2 ⟨rfl, hb2⟩
                have z2 := hb2.size
                have B2 := hb1.trans (hb2.mono z1)
                have HR2 := Lib.hid ((HR.out.below B2 (Nat.le_refl _)).more (show w.heap.size ≤ w2.heap.size by omega))
                go_wp2_with fail
                refine (HD.out _ HR2.out).mono ?_
                rintro e w3 ⟨gD, cD, rfl, OD, hb3⟩
                have z3 := hb3.size
                have B3 := B2.trans (hb3.mono (by omega))
                have z3' := B3.size
                have hlc := OD.len
                have HOD := Lib.hid OD
                clear hb1 hb2 hb3 OD
                have HO3 := Lib.hid (HOD.out.cut q2)
                rw [← List.map_take, Nat.mul_one] at HO3
                have HRd := Lib.hid (HO3.out.rd)
                go_wp2_with fail
                refine (HP.out w3 gD cD HRd.out).mono ?_
                rintro e w4 ⟨AP, cP, rfl, OP, hb4⟩
                have z4 := hb4.size
                have B4 := B3.trans (hb4.mono (by omega))
                have z4' := B4.size
                have HR4 := Lib.hid ((HR.out.below B4 (Nat.le_refl _)).more (show w.heap.size ≤ w4.heap.size by omega))
                have HOP := Lib.hid (OP.rd)
                have hsm := l09Same_any AP (some ⟨b, o, none⟩) G.length n cP c G l rfl Hl.out HFR.out HROW.out (by omega) w4 HOP.out HR4.out
                rw [q4] at hsm
                have HSM := Lib.hid hsm
                have HB4 := Lib.hid hb4
                clear hsm OP hb4 q4
                go_wp2_with fail
                refine (HSM.out).mono ?_
                rintro e w5 ⟨rfl, hb5⟩
                have z5 := hb5.size
                have B5 := B4.trans (hb5.mono (by omega))
                go_wp2
                refine bodyPost_ret (results_tmp4 rfl _ _ _) rfl ?_
                exact ⟨some ⟨w5.heap.size, 0, none⟩, 0, rfl, ⟨rfl, .inr ⟨w5.heap.size, #[], rfl, B5.size, by rw [size_alloc]; omega, Blk.newAt rfl rfl, Nat.le_refl _, by unfold maxLen; omega, rfl, rfl⟩⟩, B5.alloc B5.size _⟩
              · have hg : opGood l = true := by rw [hgood, q4]
                rw [hg]
                simp only [if_true]
                have hdl : (D.take m).length = m := by rw [List.length_take]; omega
                have HDL := Lib.hid hdl
                clear hgood hg q3 hdl
                go_enter Try.func52, Try.ntmps52
                go_wp2_with fail
                refine (HB.out).mono ?_
                rintro e w1 ⟨AB, cB, rfl, -, hb1⟩
                have z1 := hb1.size
                have HRG1 := Lib.hid (range_below HRG.out hb1 HbB.out)
                go_wp2_with (refine wpList_load_ivs rfl _ _ rfl b o (by rfl) .u8 F _ HRG1.out Try.underlying87 rfl (by rw [HFl.out]; exact hsz) ?_)
                refine (HH.out _).mono ?_
                rintro e w2 ⟨rfl, hb2⟩
                have z2 := hb2.size
                have B2 := hb1.trans (hb2.mono z1)
                have HR2 := Lib.hid ((HR.out.below B2 (Nat.le_refl _)).more (show w.heap.size ≤ w2.heap.size by omega))
                go_wp2_with fail
                refine (HD.out _ HR2.out).mono ?_
                rintro e w3 ⟨gD, cD, rfl, OD, hb3⟩
                have z3 := hb3.size
                have B3 := B2.trans (hb3.mono (by omega))
                have z3' := B3.size
                have hlc := OD.len
                have HOD := Lib.hid OD
                clear hb1 hb2 hb3 OD
                have HO3 := Lib.hid (HOD.out.cut q2)
                rw [← List.map_take, Nat.mul_one] at HO3
                have HRd := Lib.hid (HO3.out.rd)
                go_wp2_with fail
                refine (HP.out w3 gD cD HRd.out).mono ?_
                rintro e w4 ⟨AP, cP, rfl, OP, hb4⟩
                have z4 := hb4.size
                have B4 := B3.trans (hb4.mono (by omega))
                have z4' := B4.size
                have HR4 := Lib.hid ((HR.out.below B4 (Nat.le_refl _)).more (show w.heap.size ≤ w4.heap.size by omega))
                have HOP := Lib.hid (OP.rd)
                have hsm := l09Same_any AP (some ⟨b, o, none⟩) G.length n cP c G l rfl Hl.out HFR.out HROW.out (by omega) w4 HOP.out HR4.out
                rw [q4] at hsm
                have HSM := Lib.hid hsm
                have HB4 := Lib.hid hb4
                clear hsm OP hb4 q4
                go_wp2_with fail
                refine (HSM.out).mono ?_
                rintro e w5 ⟨rfl, hb5⟩
                have z5 := hb5.size
                have B5 := B4.trans (hb5.mono (by omega))
                go_wp2
                refine bodyPost_ret (results_tmp4 rfl _ _ _) rfl ?_
                refine ⟨_, cD, by rw [HDL.out]; rfl, ?_, B5⟩
                rw [HDL.out]
                exact (((HO3.out).below HB4.out (Nat.le_refl _)).below hb5 (by omega)).more (by omega) |>.less (by omega)
            · have hg : opGood l = false := by
                rw [hgood]
                cases p1 : packOk kd cn
                · rfl
                · have : ¬ m ≤ 8192 := fun h => q3 ⟨p1, h⟩
                  rw [decide_eq_false (show ¬ ((m : Int) ≤ 8192) by omega)]
                  rfl
              rw [hg]
              simp only [Bool.false_eq_true, if_false, show (5 : Int) = 0 ↔ False from ⟨by decide, False.elim⟩]
              rcases hcd with hcd | hcd | hcd
              · exfalso
                refine q3 ?_
                unfold packCd at hcd
                split at hcd
                · split at hcd
                  · exact ⟨‹_›, ‹_›⟩
                  · cases hcd
                · cases hcd
              all_goals
                rw [hcd] at hp
                have HP := Lib.hid hp
                clear hp hcd hgood hg q3
                go_enter Try.func52, Try.ntmps52
                go_wp2_with fail
                refine (HB.out).mono ?_
                rintro e w1 ⟨AB, cB, rfl, -, hb1⟩
                have z1 := hb1.size
                have HRG1 := Lib.hid (range_below HRG.out hb1 HbB.out)
                go_wp2_with (refine wpList_load_ivs rfl _ _ rfl b o (by rfl) .u8 F _ HRG1.out Try.underlying87 rfl (by rw [HFl.out]; exact hsz) ?_)
                refine (HH.out _).mono ?_
                rintro e w2 ⟨rfl, hb2⟩
                have z2 := hb2.size
                have B2 := hb1.trans (hb2.mono z1)
                have HR2 := Lib.hid ((HR.out.below B2 (Nat.le_refl _)).more (show w.heap.size ≤ w2.heap.size by omega))
                go_wp2_with fail
                refine (HD.out _ HR2.out).mono ?_
                rintro e w3 ⟨gD, cD, rfl, OD, hb3⟩
                have z3 := hb3.size
                have B3 := B2.trans (hb3.mono (by omega))
                have z3' := B3.size
                have hlc := OD.len
                have HOD := Lib.hid OD
                clear hb1 hb2 hb3 OD
                have HO3 := Lib.hid (HOD.out.cut q2)
                rw [← List.map_take, Nat.mul_one] at HO3
                have HRd := Lib.hid (HO3.out.rd)
                go_wp2_with fail
                refine (HP.out w3 gD cD HRd.out).mono ?_
                rintro e w4 ⟨AP, cP, rfl, OP, hb4⟩
                have z4 := hb4.size
                have B4 := B3.trans (hb4.mono (by omega))
                have z4' := B4.size
                go_wp2
                refine bodyPost_ret (results_tmp4 rfl _ _ _) rfl ?_
                exact ⟨some ⟨w4.heap.size, 0, none⟩, 0, rfl, ⟨rfl, .inr ⟨w4.heap.size, #[], rfl, B4.size, by rw [size_alloc]; omega, Blk.newAt rfl rfl, Nat.le_refl _, by unfold maxLen; omega, rfl, rfl⟩⟩, B4.alloc B4.size _⟩
          · have hg : opGood l = false := by
              rw [hgood, decide_eq_false (show ¬ ((m : Int) ≤ (D.length : Int)) by omega)]
              simp
            rw [hg]
            simp only [Bool.false_eq_true, if_false, show (5 : Int) = 0 ↔ False from ⟨by decide, False.elim⟩]
            have q2' : D.length < m := by omega
            clear hgood hg q2
            go_enter Try.func52, Try.ntmps52
            go_wp2_with fail
            refine (HB.out).mono ?_
            rintro e w1 ⟨AB, cB, rfl, -, hb1⟩
            have z1 := hb1.size
            have HRG1 := Lib.hid (range_below HRG.out hb1 HbB.out)
            go_wp2_with (refine wpList_load_ivs rfl _ _ rfl b o (by rfl) .u8 F _ HRG1.out Try.underlying87 rfl (by rw [HFl.out]; exact hsz) ?_)
            refine (HH.out _).mono ?_
            rintro e w2 ⟨rfl, hb2⟩
            have z2 := hb2.size
            have B2 := hb1.trans (hb2.mono z1)
            have HR2 := Lib.hid ((HR.out.below B2 (Nat.le_refl _)).more (show w.heap.size ≤ w2.heap.size by omega))
            go_wp2_with fail
            refine (HD.out _ HR2.out).mono ?_
            rintro e w3 ⟨gD, cD, rfl, OD, hb3⟩
            have z3 := hb3.size
            have B3 := B2.trans (hb3.mono (by omega))
            have z3' := B3.size
            have hlc := OD.len
            have HOD := Lib.hid OD
            clear hb1 hb2 hb3 OD
            go_wp2
            refine bodyPost_ret (results_tmp4 rfl _ _ _) rfl ?_
            exact ⟨some ⟨w3.heap.size, 0, none⟩, 0, rfl, ⟨rfl, .inr ⟨w3.heap.size, #[], rfl, B3.size, by rw [size_alloc]; omega, Blk.newAt rfl rfl, Nat.le_refl _, by unfold maxLen; omega, rfl, rfl⟩⟩, B3.alloc B3.size _⟩
    · rw [if_neg hB] at ec
      rw [opKind, opCount, opData, ec]
      simp only [show (8 : Int) = 0 ↔ False from ⟨by decide, False.elim⟩, if_false]
      have hB1 : 1 ≤ (brokenTo l n).length := by
        cases hq : brokenTo l n with
        | nil => exact absurd hq hB
        | cons _ _ => simp
      have hBl := brokenTo_length l n
      obtain ⟨m, hm⟩ : ∃ m, m = brokenTo l n := ⟨_, rfl⟩
      rw [← hm] at hbk hB1 hBl
      have HB := Lib.hid hbk
      clear hl hrow hR hB ec hbk hm
      go_enter Try.func52, Try.ntmps52
      go_wp2_with fail
      refine (HB.out).mono ?_
      rintro e w1 ⟨AB, cB, rfl, hO, hb⟩
      have hz := hb.size
      go_wp2
      refine bodyPost_ret (results_tmp4 rfl _ _ _) rfl ?_
      exact ⟨some ⟨w1.heap.size, 0, none⟩, 0, rfl, ⟨rfl, .inr ⟨w1.heap.size, #[], rfl, hz, by rw [size_alloc]; omega, Blk.newAt rfl rfl, Nat.le_refl _, by unfold maxLen; omega, rfl, rfl⟩⟩, hb.alloc hz _⟩
  · have ec : opCode l = 3 := by rw [opCode, if_neg (by omega)]
    rw [opKind, opCount, opData, ec]
    simp only [show (3 : Int) = 0 ↔ False from ⟨by decide, False.elim⟩, if_false]
    clear hl hrow hR ec
    go_enter Try.func52, Try.ntmps52
    go_wp2
    refine bodyPost_ret (results_tmp4 rfl _ _ _) rfl ?_
    exact ⟨some ⟨w.heap.size, 0, none⟩, 0, rfl, ⟨rfl, .inr ⟨w.heap.size, #[], rfl, Nat.le_refl _, by rw [size_alloc]; omega, Blk.newAt rfl rfl, Nat.le_refl _, by unfold maxLen; omega, rfl, rfl⟩⟩, (Below.refl _ _).alloc (Nat.le_refl _) _⟩
end Go.Proofs.Ytmagaapdijapiaa
namespace Go.Proofs.Ytmagaapdijapiaa
open Go.ChangeShapes Go.WideShapes Go.ChangeAt Go.RowKit

def mendIt (l m : List (List Int)) (k : Nat) : Bool := !soundB k (l.getD k []) && (decide (k < m.length) && soundB k (m.getD k []))
def mendTo (l m : List (List Int)) : Nat → List (List Int)
  | 0 => l
  | k + 1 => if mendIt l m k then (mendTo l m k).set k (m.getD k []) else mendTo l m k
def mendMany (l m : List (List Int)) : Nat → Nat
  | 0 => 0
  | k + 1 => if mendIt l m k then mendMany l m k + 1 else mendMany l m k
theorem mendTo_length (l m : List (List Int)) : ∀ k, (mendTo l m k).length = l.length
  | 0 => rfl
  | k + 1 => by
    unfold mendTo
    split <;> simp [mendTo_length l m k]
theorem mendMany_le (l m : List (List Int)) : ∀ k, mendMany l m k ≤ k
  | 0 => Nat.le_refl _
  | k + 1 => by
    have := mendMany_le l m k
    unfold mendMany
    split <;> omega
theorem mendTo_rows {sz : Nat} {l m : List (List Int)} (hl : Rows_ sz l) (hm : Rows_ sz m) : ∀ k, Rows_ sz (mendTo l m k)
  | 0 => hl
  | k + 1 => by
    unfold mendTo
    split
    · rename_i h
      refine (mendTo_rows hl hm k).set ?_
      have hk : k < m.length := by simp [mendIt] at h; exact h.2.1
      rw [List.getD_eq_getElem?_getD, List.getElem?_eq_getElem hk]
      exact hm _ (List.getElem_mem hk)
    · exact mendTo_rows hl hm k
theorem mendTo_at (l m : List (List Int)) : ∀ k i, k ≤ i → (mendTo l m k)[i]? = l[i]?
  | 0, _, _ => rfl
  | k + 1, i, h => by
    unfold mendTo
    split
    · rw [List.getElem?_set_ne (by omega)]
      exact mendTo_at l m k i (by omega)
    · exact mendTo_at l m k i (by omega)
theorem mend_no {l m : List (List Int)} {k : Nat} (h : mendIt l m k = false) : mendTo l m (k + 1) = mendTo l m k ∧ mendMany l m (k + 1) = mendMany l m k := by
  constructor
  · show (if mendIt l m k then (mendTo l m k).set k (m.getD k []) else mendTo l m k) = _
    rw [h]; rfl
  · show (if mendIt l m k then mendMany l m k + 1 else mendMany l m k) = _
    rw [h]; rfl
theorem mend_yes {l m : List (List Int)} {k : Nat} (h : mendIt l m k = true) : mendTo l m (k + 1) = (mendTo l m k).set k (m.getD k []) ∧ mendMany l m (k + 1) = mendMany l m k + 1 := by
  constructor
  · show (if mendIt l m k then (mendTo l m k).set k (m.getD k []) else mendTo l m k) = _
    rw [h]; rfl
  · show (if mendIt l m k then mendMany l m k + 1 else mendMany l m k) = _
    rw [h]; rfl
theorem getD_at {l : List (List Int)} {k : Nat} (h : k < l.length) : l.getD k [] = l[k] := by rw [List.getD_eq_getElem?_getD, List.getElem?_eq_getElem h]; rfl

def lims (n m : Nat) : Bool := decide (n ≤ 700) && decide (m ≤ 700)
def mendOf (l m : List (List Int)) : List (List Int) := if lims l.length m.length then mendTo l m l.length else []
def mendCount (l m : List (List Int)) : Int := if lims l.length m.length then (mendMany l m l.length : Nat) else 0
def mendCode (l m : List (List Int)) : Int := if lims l.length m.length then 0 else 3
theorem mendOf_rows {l m : List (List Int)} (hl : Rows_ 16 l) (hm : Rows_ 16 m) : Rows_ 16 (mendOf l m) := by
  unfold mendOf
  split
  · exact mendTo_rows hl hm _
  · intro f hf; cases hf
theorem mendOf_length (l m : List (List Int)) : (mendOf l m).length ≤ 700 := by
  unfold mendOf
  split
  · rename_i h
    rw [mendTo_length]
    simp [lims] at h
    omega
  · simp

/-- what MendFrames gives -/
def GivesMend (out : List (List Int)) (count code : Int) (w : World) (e : Ending) (w' : World) : Prop :=
  ∃ A c, e = .returned (.tuple #[.slice A out.length c, .int .i64 count, .int .i64 code]) ∧ Own w' w.heap.size w'.heap.size 87 16 A out.length c (out.flatten.map (.int .u8)) ∧ Below w.heap.size w w'

theorem lims_false {n m : Nat} (h : lims n m = false) : (700 : Int) < n ∨ ((n : Int) ≤ 700 ∧ (700 : Int) < m) := by
  simp only [lims, Bool.and_eq_false_iff, decide_eq_false_iff_not] at h
  omega
theorem lims_true {n m : Nat} (h : lims n m = true) : n ≤ 700 ∧ m ≤ 700 := by simpa [lims] using h

end Go.Proofs.Ytmagaapdijapiaa
namespace Go.Proofs.Ytmagaapdijapiaa
open Go.ChangeShapes Go.WideShapes Go.ChangeAt Go.RowKit

def frs (l : List Int) (m : Nat) : List (List Int) := (List.range m).map fun i => (l.drop (i * 16)).take 16
theorem frs_succ (l : List Int) (m : Nat) : frs l (m + 1) = frs l m ++ [(l.drop (m * 16)).take 16] := by simp [frs, List.range_succ]
theorem frs_length (l : List Int) (m : Nat) : (frs l m).length = m := by simp [frs]
theorem frs_rows (l : List Int) (m : Nat) (h : m * 16 ≤ l.length) : Rows_ 16 (frs l m) := fun f hf => by
  obtain ⟨i, hi, rfl⟩ := List.mem_map.1 hf
  have := List.mem_range.1 hi
  simp
  omega
def many (l : List Int) : Nat := if l.length / 16 ≤ 700 then l.length / 16 else 0
def restOf (l : List Int) : Int := if l.length / 16 ≤ 700 then ((l.length % 16 : Nat) : Int) else 0
def codeOf (l : List Int) : Int := if l.length / 16 ≤ 700 then 0 else 3
def outOf (l : List Int) : List (List Int) := frs l (many l)
theorem outOf_rows (l : List Int) : Rows_ 16 (outOf l) := by
  unfold outOf many
  split
  · exact frs_rows l _ (by omega)
  · exact frs_rows l _ (by omega)
theorem outOf_length (l : List Int) : (outOf l).length ≤ 700 := by
  unfold outOf many
  rw [frs_length]
  split <;> omega

theorem results_tmp3 {P : Program} {fn : Func} {t u v : Tmp} (h : fn.results = #[.tmp t, .tmp u, .tmp v]) (tmps : Array Value) (w : World) :
    (results fn tmps).run P w = .ok (.tuple #[tmps.getD t undef, tmps.getD u undef, tmps.getD v undef]) w := by simp [results, h]

/-- what FramesOfBytes gives -/
def GivesFrames (l : List Int) (w : World) (e : Ending) (w' : World) : Prop :=
  ∃ A c, e = .returned (.tuple #[.slice A (outOf l).length c, .int .i64 (restOf l), .int .i64 (codeOf l)]) ∧ Own w' w.heap.size w'.heap.size 87 16 A (outOf l).length c ((outOf l).flatten.map (.int .u8)) ∧ Below w.heap.size w w'

set_option maxRecDepth 20000 in
set_option maxHeartbeats 3200000 in
theorem iFramesOfBytes_any (A : Option Addr) (n c : Nat) (l : List Int) (hl : l.length = n) (hn : n ≤ 1048576) (hnc : n ≤ c) (hc63 : c ≤ 9223372036854775807) (w : World) (hR : Rd w w.heap.size 1 A n (l.map (.int .u8))) :
    Calls Try.prog 30 #[.slice A n c] w (GivesFrames l w) := by
  obtain ⟨i0, hi, hz0, hz1, hz2⟩ := info_parts Frame_info
  have hsz : (Try.prog.info? 87).map (·.size) = some 16 := by kernel_rfl
  by_cases h7 : n / 16 ≤ 700
  · have e1 : many l = n / 16 := by simp [many, hl, h7]
    have e2 : restOf l = ((n % 16 : Nat) : Int) := by simp [restOf, hl, h7]
    have e3 : codeOf l = 0 := by simp [codeOf, hl, h7]
    have E1 := Lib.hid e1
    have E2 := Lib.hid e2
    have E3 := Lib.hid e3
    have h7' : (n : Int) / 16 ≤ 700 := by omega
    have Hl := Lib.hid hl
    clear e1 e2 e3
    go_enter Try.func30, Try.ntmps30
    go_wp2
    go_loopw [6, 7, 15] (fun v _ i wr => ∃ k : Nat, k ≤ n / 16 ∧ i = .int .i64 k ∧ wr.ownsRow w.heap.size 87 16 v k ((frs l k).flatten.map (.int .u8)) ∧ Below w.heap.size w wr) (fun _ _ i _ => n / 16 - (intOf i).toNat)
    case atStart =>
      refine ⟨0, by omega, rfl, ?_, (Below.refl _ _).alloc (Nat.le_refl _) _⟩
      exact World.ownsRow_lit (e := 87) (base := w.heap.size) (size := 16) w #[] 0 (Nat.le_refl _) (by unfold maxLen; omega) rfl
    case round =>
      obtain ⟨k, hk, rfl, hown, hb⟩ := hrel
      by_cases hlt : k < n / 16
      · obtain ⟨b, o, rfl, hbB, hc⟩ := (hR.below hb (Nat.le_refl _)).at_ (by omega)
        have hrg : wr.rangeAt b (o + 16 * k) (((l.drop (k * 16)).take 16).map (.int .u8)) := by
          have := Rd.rangeAt (i := 16 * k) (s := 16) hc
          rw [← List.map_drop, ← List.map_take, Nat.mul_comm 16 k] at this
          rw [Nat.mul_comm 16 k]
          exact this
        have hFl : ((l.drop (k * 16)).take 16).length = 16 := by simp; omega
        obtain ⟨F, hF⟩ : ∃ F, F = (l.drop (k * 16)).take 16 := ⟨_, rfl⟩
        rw [← hF] at hrg hFl
        have harr := fun (a : Option Addr) (c : Nat) (x : World) => run_arrayAt (P := Try.prog) (w := x) 87 5 16 a 16 c Try.underlying87 (by omega)
        have hblk : Blk (wr.alloc (.cells (ivs .u8 F) 87)) wr.heap.size 87 (ivs .u8 F) := Blk.newAt rfl rfl
        have Hn := Lib.hid hblk.news
        have HF := Lib.hid hF
        have HFl := Lib.hid hFl
        have Hrg := Lib.hid hrg
        have HO := Lib.hid hown
        have Hb := Lib.hid hbB
        have b1 : (k : Int) < (n : Int) / 16 := by omega
        have b2 : 16 * (k : Int) + 16 ≤ (n : Int) := by omega
        have b3 : 16 * (k : Int) < (c : Int) := by omega
        have b4 : 16 * k < c := by omega
        clear hc hR hrg hFl hF hblk hown hbB hl
        go_wp2_with (first
          | refine wpList_load_ivs rfl _ _ rfl b (o + 16 * k) (by rfl) .u8 F _ Hrg.out Try.underlying87 rfl (by rw [HFl.out]; exact hsz) ?_
          | refine wpList_buildSlice_row rfl 24 87 (.tmp 27) rfl (kd := .u8) (sz := 16) Try.underlying24 hi hz0 hz1 (by omega) (by omega) F rfl HFl.out ?_
          | (at_builtin; refine wpList_append_own _ rfl (.tmp 18) (.tmp 28) 24 rfl w.heap.size 87 i0 _ 16 16 Try.underlying24 hi hz0 hz1 hz2 rfl (by decide) u6 k _ rfl (HO.out.alloc _) ⟨wr.heap.size, 0, none⟩ 1 1 (F.map (.int .u8)) rfl (by rw [List.length_map, HFl.out]) Hn.out ints_one (by unfold maxLen; omega) (by omega) (by have := hb.size; rw [size_alloc]; omega) ?_; intro v' w1 hown' hgrow _))
        refine ⟨⟨k + 1, by omega, by go_num, ?_, (hb.alloc hb.size _).grown hgrow (by have := hb.size; rw [size_alloc]; omega) (fun j e => (HO.out.lt _ e).1)⟩, by simp [intOf]; omega⟩
        rw [frs_succ, ← HF.out, List.flatten_append, List.flatten_cons, List.flatten_nil, List.append_nil, List.map_append]
        exact hown'
      · have : k = n / 16 := by omega
        subst this
        obtain ⟨A', c', rfl, hO⟩ := Own.of_row hown
        go_wp2
        refine bodyPost_ret (results_tmp3 rfl _ _) rfl ⟨A', c', ?_, ?_, hb⟩
        · rw [E2.out, E3.out, show (outOf l).length = n / 16 from by rw [outOf, frs_length, E1.out]]
          rfl
        · have e4 : outOf l = frs l (n / 16) := by rw [outOf, E1.out]
          rw [e4, frs_length]
          exact hO
  · have e1 : many l = 0 := by simp [many, hl, h7]
    have e2 : restOf l = 0 := by simp [restOf, hl, h7]
    have e3 : codeOf l = 3 := by simp [codeOf, hl, h7]
    have e4 : outOf l = [] := by rw [outOf, e1]; rfl
    have E2 := Lib.hid e2
    have E3 := Lib.hid e3
    have E4 := Lib.hid e4
    have h7' : ¬ (n : Int) / 16 ≤ 700 := by omega
    clear e1 e2 e3 e4
    go_enter Try.func30, Try.ntmps30
    go_wp2
    refine bodyPost_ret (results_tmp3 rfl _ _) rfl ⟨none, 0, ?_, ?_, Below.refl _ _⟩
    · rw [E2.out, E3.out, E4.out]
      rfl
    · rw [E4.out]
      exact ⟨rfl, .inl ⟨rfl, rfl, rfl⟩⟩

end Go.Proofs.Ytmagaapdijapiaa
namespace Go.Proofs.Ytmagaapdijapiaa
open Go.ChangeShapes Go.WideShapes Go.ChangeAt Go.RowKit

/-! ### the check tells two payloads that differ in one byte apart -/
def u32r (x : Int) : Prop := 0 ≤ x ∧ x < 4294967296
theorem mul_inj_gen {x y p inv M t : Int} (hM : p * inv = 1 + M * t) (hx0 : 0 ≤ x) (hx1 : x < M) (hy0 : 0 ≤ y) (hy1 : y < M) (h : x * p % M = y * p % M) : x = y := by
  obtain ⟨k, hk⟩ := Int.dvd_of_emod_eq_zero (Int.emod_eq_emod_iff_emod_sub_eq_zero.1 h)
  have h2 : (x - y) * (1 + M * t) = M * (k * inv) := by rw [← hM, ← Int.mul_assoc, Int.sub_mul, hk, Int.mul_assoc]
  have h3 : x - y = M * (k * inv - (x - y) * t) := by
    rw [Int.mul_sub, ← h2, Int.mul_add, Int.mul_one, ← Int.mul_assoc (x - y) M t, Int.mul_comm (x - y) M, Int.mul_assoc]
    omega
  generalize k * inv - (x - y) * t = q at h3
  have hM0 : 0 < M := by omega
  rcases Int.lt_trichotomy q 0 with hq | hq | hq
  · have := Int.mul_le_mul_of_nonneg_left (show q ≤ -1 by omega) (Int.le_of_lt hM0)
    omega
  · subst hq
    omega
  · have := Int.mul_le_mul_of_nonneg_left (show 1 ≤ q by omega) (Int.le_of_lt hM0)
    omega
theorem mul_inj {x y : Int} (hx : u32r x) (hy : u32r y) (h : x * 16777619 % 4294967296 = y * 16777619 % 4294967296) : x = y :=
  mul_inj_gen (inv := 899433627) (t := 3513497) (by decide) hx.1 hx.2 hy.1 hy.2 h
theorem xor_cancel {a b c : Nat} (h : a ^^^ c = b ^^^ c) : a = b := by
  have := congrArg (· ^^^ c) h
  simpa [Nat.xor_assoc] using this
theorem fnvStep_range (c b : Int) : u32r (fnvStep c b) := by
  unfold fnvStep u32r
  omega
theorem fnvStep_xor {c b : Int} (hc : u32r c) (hb : 0 ≤ b ∧ b ≤ 255) : fnvStep c b = ((c.toNat ^^^ b.toNat : Nat) : Int) * 16777619 % 4294967296 := by
  obtain ⟨h0, h1⟩ := hc
  obtain ⟨g0, g1⟩ := hb
  rw [fnvStep, Int.emod_eq_of_lt g0 (by omega), u32_xor c b h0 h1 g0 (by omega)]
theorem xor_range {c b : Nat} (hc : c < 4294967296) (hb : b < 4294967296) : u32r ((c ^^^ b : Nat) : Int) := by
  have : c ^^^ b < 2 ^ 32 := Nat.xor_lt_two_pow (by omega) (by omega)
  unfold u32r
  omega
theorem fnvStep_inj {c c' b b' : Int} (hc : u32r c) (hc' : u32r c') (hb : 0 ≤ b ∧ b ≤ 255) (hb' : 0 ≤ b' ∧ b' ≤ 255) (h : fnvStep c b = fnvStep c' b') : c.toNat ^^^ b.toNat = c'.toNat ^^^ b'.toNat := by
  rw [fnvStep_xor hc hb, fnvStep_xor hc' hb'] at h
  have h0 := hc
  have h1 := hc'
  unfold u32r at h0 h1
  exact Int.ofNat_inj.1 (mul_inj (xor_range (by omega) (by omega)) (xor_range (by omega) (by omega)) h)
theorem fnv_inj : ∀ {l : List Int} {c c' : Int}, is255 l → u32r c → u32r c' → l.foldl fnvStep c = l.foldl fnvStep c' → c = c'
  | [], _, _, _, _, _, h => h
  | b :: l, c, c', hl, hc, hc', h => by
    have h1 := fnv_inj (fun x hx => hl x (List.mem_cons_of_mem _ hx)) (fnvStep_range c b) (fnvStep_range c' b) h
    have hb := hl b (List.mem_cons_self ..)
    have h2 := xor_cancel (fnvStep_inj hc hc' hb hb h1)
    unfold u32r at hc hc'
    omega
theorem fnv_range : ∀ (l : List Int) (c : Int), u32r c → u32r (l.foldl fnvStep c)
  | [], _, h => h
  | b :: l, c, _ => fnv_range l (fnvStep c b) (fnvStep_range c b)
theorem fnv_differ {a r : List Int} {x y c : Int} (hc : u32r c) (hr : is255 r) (hx : 0 ≤ x ∧ x ≤ 255) (hy : 0 ≤ y ∧ y ≤ 255) (hxy : x ≠ y) : (a ++ x :: r).foldl fnvStep c ≠ (a ++ y :: r).foldl fnvStep c := by
  intro h
  rw [List.foldl_append, List.foldl_append, List.foldl_cons, List.foldl_cons] at h
  have h1 := fnv_inj hr (fnvStep_range _ _) (fnvStep_range _ _) h
  have hm := fnv_range a c hc
  have h2 := fnvStep_inj hm hm hx hy h1
  rw [Nat.xor_comm, Nat.xor_comm (Int.toNat _) y.toNat] at h2
  have := xor_cancel h2
  omega
theorem four_inj {a b : Int} (ha : u32r a) (hb : u32r b) (h : four a = four b) : a = b := by
  simp only [four, List.cons.injEq, and_true] at h
  unfold u32r at ha hb
  omega
theorem four_255 (n : Int) : is255 (four n) := fun x hx => by
  simp only [four, List.mem_cons, List.not_mem_nil, or_false] at hx
  omega
theorem num4_four {n : Int} (h : u32r n) : num4 (n / 16777216 % 256) (n / 65536 % 256) (n / 256 % 256) (n % 256) = n := by
  unfold num4 u32r at *
  omega
theorem chk_range (n : Int) (p : List Int) : u32r (chk n p) := fnv_range _ _ (by unfold u32r; omega)
theorem chk_set {n : Int} {p : List Int} {j : Nat} {y : Int} (hp : is255 p) (hj : j < p.length) (hy : 0 ≤ y ∧ y ≤ 255) (hne : p[j] ≠ y) : chk n (p.set j y) ≠ chk n p := by
  have e1 : p = p.take j ++ p[j] :: p.drop (j + 1) := by rw [← List.drop_eq_getElem_cons hj, List.take_append_drop]
  have e2 : p.set j y = p.take j ++ y :: p.drop (j + 1) := by rw [List.set_eq_take_append_cons_drop, if_pos hj]
  unfold chk fnv
  conv => rhs; rw [e1]
  rw [e2, ← List.append_assoc, ← List.append_assoc]
  exact fun h => fnv_differ (by unfold u32r; omega) (fun x hx => hp x (List.mem_of_mem_drop hx)) (hp _ (List.getElem_mem hj)) hy hne h.symm

/-! ### a frame, and a frame with one byte changed -/
theorem mk_take {n : Int} {p : List Int} (hp : p.length = 12) : (mk n p).take 12 = p := by
  rw [mk, ← hp, List.take_left]
theorem mk_255 {n : Int} {p : List Int} (hp : is255 p) : is255 (mk n p) := fun x hx => by
  rcases List.mem_append.1 hx with h | h
  · exact hp x h
  · exact four_255 _ x h
theorem sound_mk {n : Int} {p : List Int} (hp : p.length = 12) : soundB n (mk n p) = true := by
  rw [soundB, mk_take hp]
  exact beq_self_eq_true _
theorem sound_set {n : Int} {p : List Int} (hp : p.length = 12) (h255 : is255 p) {j : Nat} (hj : j < 16) {y : Int} (hy : 0 ≤ y ∧ y ≤ 255) (hne : (mk n p).getD j 0 ≠ y) : soundB n ((mk n p).set j y) = false := by
  rw [soundB, beq_eq_false_iff_ne]
  have hl := mk_length (n := n) hp
  have hg : (mk n p).getD j 0 = (mk n p)[j]'(by omega) := by rw [List.getD_eq_getElem?_getD, List.getElem?_eq_getElem (by omega)]; rfl
  rw [hg] at hne
  intro h
  by_cases h12 : j < 12
  · have e1 : (mk n p).set j y = p.set j y ++ four (chk n p) := by rw [mk, List.set_append_left _ _ (by omega)]
    have e2 : ((mk n p).set j y).take 12 = p.set j y := by rw [e1, List.take_append_of_le_length (by simp [hp]), List.take_of_length_le (by simp [hp])]
    rw [e2, e1, mk] at h
    have h3 := List.append_cancel_left h
    have hpj : p[j]'(by omega) ≠ y := by
      rw [show (mk n p)[j]'(by omega) = p[j]'(by omega) from List.getElem_append_left (by omega)] at hne
      exact hne
    exact chk_set h255 (by omega) hy hpj (four_inj (chk_range _ _) (chk_range _ _) h3)
  · have e1 : (mk n p).set j y = p ++ (four (chk n p)).set (j - p.length) y := by rw [mk, List.set_append_right _ _ (by omega)]
    have e2 : ((mk n p).set j y).take 12 = p := by rw [e1, ← hp, List.take_left]
    rw [e2] at h
    have h2 := congrArg (fun l => l[j]?) h
    simp only [List.getElem?_set_self (show j < (mk n p).length by omega), List.getElem?_eq_getElem (show j < (mk n p).length by omega), Option.some.injEq] at h2
    exact hne h2
theorem flipAt_range {x : Int} (h : 0 ≤ x ∧ x ≤ 255) (t : Nat) : 0 ≤ flipAt x t ∧ flipAt x t ≤ 255 ∧ x ≠ flipAt x t := by
  obtain ⟨h0, h1⟩ := h
  have ht : t % 8 < 8 := Nat.mod_lt _ (by omega)
  have hc : (2 ^ (t % 8) % 256 : Int) = ((2 ^ (t % 8) : Nat) : Int) ∧ 2 ^ (t % 8) < 256 ∧ 0 < 2 ^ (t % 8) := by
    rcases (by omega : t % 8 = 0 ∨ t % 8 = 1 ∨ t % 8 = 2 ∨ t % 8 = 3 ∨ t % 8 = 4 ∨ t % 8 = 5 ∨ t % 8 = 6 ∨ t % 8 = 7) with e | e | e | e | e | e | e | e <;> rw [e] <;> exact ⟨by decide, by decide, by decide⟩
  obtain ⟨c1, c2, c3⟩ := hc
  rw [flipAt, c1]
  obtain ⟨m, rfl⟩ := Int.eq_ofNat_of_zero_le h0
  rw [u8_xor_nat m _ (by omega) c2]
  generalize 2 ^ (t % 8) = q at c2 c3
  have : m ^^^ q < 2 ^ 8 := Nat.xor_lt_two_pow (by omega) (by omega)
  refine ⟨by omega, by omega, fun h => ?_⟩
  have h2 : m ^^^ q = 0 ^^^ m := by rw [Nat.zero_xor]; omega
  rw [Nat.xor_comm m q] at h2
  have := xor_cancel h2
  omega

/-! ### a file -/
theorem packTo_getD {all : List Int} {k i : Nat} (h : i < k) : (packTo all k).getD i [] = mk i ((all.drop (i * 12)).take 12) := by
  rw [List.getD_eq_getElem?_getD, packTo, List.getElem?_map, List.getElem?_range h]
  rfl
theorem chunk_len {all : List Int} {k i : Nat} (h : i < k) (ha : all.length = k * 12) : ((all.drop (i * 12)).take 12).length = 12 := by
  rw [List.length_take, List.length_drop]
  omega
theorem packTo_sound {all : List Int} {k i : Nat} (h : i < k) (ha : all.length = k * 12) : soundB i ((packTo all k).getD i []) = true := by
  rw [packTo_getD h]
  exact sound_mk (chunk_len h ha)
theorem brokenTo_nil {l : List (List Int)} (h : ∀ i, i < l.length → soundB i (l.getD i []) = true) : ∀ k, k ≤ l.length → brokenTo l k = []
  | 0, _ => rfl
  | k + 1, hk => by rw [brokenTo, brokenTo_nil h k (by omega), h k (by omega)]; rfl
theorem brokenTo_one {l : List (List Int)} {a : Nat} (h : ∀ i, i < l.length → i ≠ a → soundB i (l.getD i []) = true) (ha : soundB a (l.getD a []) = false) : ∀ k, k ≤ l.length → brokenTo l k = if a < k then [(a : Int)] else []
  | 0, _ => by simp [brokenTo]
  | k + 1, hk => by
    rw [brokenTo, brokenTo_one h ha k (by omega)]
    by_cases e : k = a
    · subst e
      rw [ha]
      simp
    · rw [h k (by omega) e]
      by_cases h1 : a < k
      · simp [h1, show a < k + 1 by omega]
      · simp [h1, show ¬ a < k + 1 by omega]
theorem getD_set_ne {l : List (List Int)} {a i : Nat} {f : List Int} (h : i ≠ a) : (l.set a f).getD i [] = l.getD i [] := by
  rw [List.getD_eq_getElem?_getD, List.getD_eq_getElem?_getD, List.getElem?_set_ne (fun e => h e.symm)]
theorem getD_set_eq {l : List (List Int)} {a : Nat} {f : List Int} (h : a < l.length) : (l.set a f).getD a [] = f := by
  rw [List.getD_eq_getElem?_getD, List.getElem?_set_self h]
  rfl
theorem mendTo_one {l m : List (List Int)} {a : Nat} (hlm : l.length = m.length) (h : ∀ i, i < l.length → i ≠ a → soundB i (l.getD i []) = true) (ha : soundB a (l.getD a []) = false) (hm : soundB a (m.getD a []) = true) (hal : a < l.length) :
    ∀ k, k ≤ l.length → mendTo l m k = (if a < k then l.set a (m.getD a []) else l) ∧ mendMany l m k = if a < k then 1 else 0
  | 0, _ => by simp [mendTo, mendMany]
  | k + 1, hk => by
    obtain ⟨h1, h2⟩ := mendTo_one hlm h ha hm hal k (by omega)
    unfold mendTo mendMany
    by_cases e : k = a
    · subst e
      have hi : mendIt l m k = true := by rw [mendIt, ha, hm, decide_eq_true (by omega)]; rfl
      rw [hi, h1, h2]
      simp
    · have hi : mendIt l m k = false := by rw [mendIt, h k (by omega) e]; rfl
      rw [hi, h1, h2]
      simp only [Bool.false_eq_true, if_false]
      by_cases h3 : a < k
      · rw [if_pos h3, if_pos h3, if_pos (by omega), if_pos (by omega)]; exact ⟨rfl, rfl⟩
      · rw [if_neg h3, if_neg h3, if_neg (by omega), if_neg (by omega)]; exact ⟨rfl, rfl⟩
theorem dataOf_packTo {all : List Int} : ∀ {k : Nat}, all.length = (k + 1) * 12 → dataOf (packTo all (k + 1)) = all.drop 12 := fun {k} ha => by
  have h1 : ∀ m, m ≤ k → ((List.range m).map fun (i : Nat) => mk ((i + 1 : Nat) : Int) ((all.drop ((i + 1) * 12)).take 12)).flatMap (List.take 12) = (all.drop 12).take (m * 12) := by
    intro m
    induction m with
    | zero => intro _; simp
    | succ m ih =>
      intro hm
      rw [List.range_succ, List.map_append, List.flatMap_append, ih (by omega), List.map_cons, List.map_nil, List.flatMap_cons, List.flatMap_nil, List.append_nil, mk_take (chunk_len (k := k + 1) (by omega) ha)]
      rw [show (m + 1) * 12 = m * 12 + 12 by omega, List.take_add, List.drop_drop, Nat.add_comm 12 (m * 12)]
  unfold dataOf packTo
  rw [List.range_succ_eq_map, List.map_cons, List.drop_succ_cons, List.drop_zero, List.map_map]
  have := h1 k (Nat.le_refl _)
  rw [List.take_of_length_le (by rw [List.length_drop]; omega)] at this
  exact this

section
variable {kd cn : Int} {d : List Int}
theorem packOf_len : (packOf kd cn d).length = packMany d.length := packTo_length _ _
theorem packOf_sound (i : Nat) (h : i < (packOf kd cn d).length) : soundB i ((packOf kd cn d).getD i []) = true := by
  rw [packOf_len] at h
  exact packTo_sound h (packAll_length kd cn d)
theorem packAll_255 (hk : 0 ≤ kd ∧ kd ≤ 255) (hd : is255 d) : is255 (packAll kd cn d) := fun x hx => by
  rw [packAll, headB] at hx
  simp only [List.mem_append, List.mem_cons, List.not_mem_nil, or_false, List.mem_replicate] at hx
  rcases hx with ((((h | h | h | h) | h) | h) | h) | h
  · omega
  · omega
  · omega
  · omega
  · exact four_255 _ x h
  · exact four_255 _ x h
  · exact hd x h
  · omega
theorem packOf_255 (hk : 0 ≤ kd ∧ kd ≤ 255) (hd : is255 d) : ∀ f ∈ packOf kd cn d, is255 f := fun f hf => by
  obtain ⟨i, _, rfl⟩ := List.mem_map.1 hf
  exact mk_255 fun x hx => packAll_255 hk hd x (List.mem_of_mem_drop (List.mem_of_mem_take hx))
theorem packOf_head : opHead (packOf kd cn d) = mk 0 (headB kd cn d.length) := by
  rw [packOf, packMany, packTo, List.range_succ_eq_map, List.map_cons]
  show mk _ _ = _
  rw [pack_head]
  rfl
theorem packOf_opens (hk : 1 ≤ kd ∧ kd ≤ 3) (hc : 0 ≤ cn ∧ cn ≤ 256) (hd : d.length ≤ 8192) : opCode (packOf kd cn d) = 0 ∧ opKind (packOf kd cn d) = kd ∧ opCount (packOf kd cn d) = cn ∧ opData (packOf kd cn d) = d := by
  have hh := packOf_head (kd := kd) (cn := cn) (d := d)
  have hlen := packOf_len (kd := kd) (cn := cn) (d := d)
  have h1 : hdOk (opHead (packOf kd cn d)) = true := by rw [hh, hdOk, mk, headB]; rfl
  have h2 : hdKind (opHead (packOf kd cn d)) = kd := by rw [hh, hdKind, mk, headB]; rfl
  have h3 : numAt (opHead (packOf kd cn d)) 4 = cn := by
    rw [hh, numAt, mk, headB]
    exact num4_four (by unfold u32r; omega)
  have h4 : numAt (opHead (packOf kd cn d)) 8 = (d.length : Int) := by
    rw [hh, numAt, mk, headB]
    exact num4_four (by unfold u32r; omega)
  have h5 : dataOf (packOf kd cn d) = d ++ List.replicate (padLen d.length) 0 := by
    have ha := packAll_length kd cn d
    rw [packOf, packMany, dataOf_packTo (by rw [ha, packMany]), packAll, List.append_assoc, ← headB_length kd cn d.length, List.drop_left]
  have h6 : (dataOf (packOf kd cn d)).take d.length = d := by rw [h5, List.take_left]
  have hg : opGood (packOf kd cn d) = true := by
    rw [opGood, h1, h2, h3, h4, Int.toNat_natCast, h6, beq_self_eq_true, decide_eq_true (show (d.length : Int) ≤ 8192 by omega), decide_eq_true (show (d.length : Int) ≤ ((dataOf (packOf kd cn d)).length : Int) by rw [h5, List.length_append]; omega)]
    have : packOk kd cn = true := by rw [packOk, inB, inB, decide_eq_true hk.1, decide_eq_true hk.2, decide_eq_true hc.1, decide_eq_true hc.2]; rfl
    rw [this]
    rfl
  have hne : packOf kd cn d ≠ [] := by
    intro h
    rw [h] at hlen
    simp [packMany] at hlen
  have hcode : opCode (packOf kd cn d) = 0 := by
    rw [opCode, if_pos (by rw [hlen, packMany]; omega), brokenTo_nil packOf_sound _ (Nat.le_refl _), if_pos rfl, if_neg hne, if_pos hg]
  exact ⟨hcode, by rw [opKind, if_pos hcode, h2], by rw [opCount, if_pos hcode, h3], by rw [opData, if_pos hcode, h4, Int.toNat_natCast, h6]⟩

/-- one bit of one frame is changed -/
theorem spoil_broken {a t : Nat} (hk : 0 ≤ kd ∧ kd ≤ 255) (hd : is255 d) (ha : a < (packOf kd cn d).length) (ht : t < 128) :
    (∀ i, i < (spoil (packOf kd cn d) a t).length → i ≠ a → soundB i ((spoil (packOf kd cn d) a t).getD i []) = true) ∧ soundB a ((spoil (packOf kd cn d) a t).getD a []) = false := by
  constructor
  · intro i hi hia
    rw [spoil, List.length_set] at hi
    rw [spoil, getD_set_ne hia]
    exact packOf_sound i hi
  · rw [spoil, getD_set_eq ha]
    have ha' : a < packMany d.length := by rw [← packOf_len (kd := kd) (cn := cn)]; exact ha
    have e : (packOf kd cn d).getD a [] = mk a (((packAll kd cn d).drop (a * 12)).take 12) := packTo_getD ha'
    have hp : is255 (((packAll kd cn d).drop (a * 12)).take 12) := fun x hx => packAll_255 hk hd x (List.mem_of_mem_drop (List.mem_of_mem_take hx))
    rw [e]
    have hr := flipAt_range ((mk_255 (n := (a : Int)) hp).getD (t / 8)) t
    exact sound_set (chunk_len ha' (packAll_length kd cn d)) hp (by omega) ⟨hr.1, hr.2.1⟩ hr.2.2
end
theorem frs_flat {l : List (List Int)} (hr : Rows_ 16 l) {c k : Nat} (_hc : c ≤ l.flatten.length) (hk : k * 16 ≤ c) (hkl : k ≤ l.length) : frs (l.flatten.take c) k = l.take k := by
  apply List.ext_getElem?
  intro i
  rw [frs, List.getElem?_map]
  by_cases h : i < k
  · rw [List.getElem?_range h, List.getElem?_take_of_lt h, List.getElem?_eq_getElem (show i < l.length by omega), Option.map_some]
    congr 1
    rw [List.drop_take, List.take_take, Nat.min_eq_left (by omega)]
    exact flat_row hr (by omega)
  · rw [List.getElem?_eq_none (by simp; omega), List.getElem?_eq_none (by rw [List.length_take]; omega)]
    rfl
end Go.Proofs.Ytmagaapdijapiaa
namespace Go.Proofs.Ytmagaapdijapiaa
open Go.ChangeShapes Go.WideShapes Go.ChangeAt Go.RowKit
def szOf (d : List Int) (a : Nat) : Nat := if d.getD (a + 8) 0 = 0 then 256 else (d.getD (a + 8) 0).toNat
def partD (d : List Int) (a : Nat) : List Int := (d.drop (a + 9)).take (szOf d a)
def corD (d : List Int) (a : Nat) : List Int := [IntKind.i32.wrap (numAt d a), IntKind.i32.wrap (numAt d (a + 4))]
/-- whether a block can be read at a place -/
def okD (d : List Int) (a : Nat) : Bool := decide (a + 9 ≤ d.length) && (decide (a + 9 + szOf d a ≤ d.length) && (unC (partD d a) == 0))
def blkAtD (d : List Int) (a : Nat) : Bl := (corD d a, unM (partD d a))
/-- the blocks that are read, and where the next one begins -/
def rdTo (d : List Int) : Nat → Option (List Bl × Nat)
  | 0 => some ([], 0)
  | k + 1 => match rdTo d k with
    | none => none
    | some (out, a) => if okD d a then some (out ++ [blkAtD d a], a + 9 + szOf d a) else none
theorem rdTo_yes {d : List Int} {k : Nat} {out : List Bl} {a : Nat} (h : rdTo d k = some (out, a)) (ho : okD d a = true) : rdTo d (k + 1) = some (out ++ [blkAtD d a], a + 9 + szOf d a) := by
  rw [rdTo, h]
  simp [ho]
theorem rdTo_no {d : List Int} {k : Nat} {out : List Bl} {a : Nat} (h : rdTo d k = some (out, a)) (ho : okD d a = false) : rdTo d (k + 1) = none := by
  rw [rdTo, h]
  simp [ho]
theorem rdTo_none {d : List Int} {k n : Nat} (h : rdTo d k = none) (hk : k ≤ n) : rdTo d n = none := by
  induction n with
  | zero => rw [Nat.le_zero.1 hk] at h; exact h
  | succ n ih =>
    by_cases e : k = n + 1
    · rw [← e]; exact h
    · rw [rdTo, ih (by omega)]
theorem rdTo_in {d : List Int} : ∀ {k : Nat} {out : List Bl} {a : Nat}, rdTo d k = some (out, a) → out.length = k ∧ a ≤ d.length ∧ Bls out ∧ (∀ b ∈ out, is16 b.2) ∧ (∀ b ∈ out, ∀ x ∈ b.1, -2147483648 ≤ x ∧ x ≤ 2147483647)
  | 0, out, a, h => by
    rw [rdTo] at h
    cases h
    exact ⟨rfl, Nat.zero_le _, fun b hb => (nomatch hb), fun b hb => (nomatch hb), fun b hb => (nomatch hb)⟩
  | k + 1, out, a, h => by
    cases hp : rdTo d k with
    | none => rw [rdTo, hp] at h; cases h
    | some p =>
      obtain ⟨o, q⟩ := p
      obtain ⟨i1, i2, i3, i4, i5⟩ := rdTo_in hp
      cases ho : okD d q
      · rw [rdTo_no hp ho] at h; cases h
      · rw [rdTo_yes hp ho] at h
        cases h
        rw [okD, Bool.and_eq_true, Bool.and_eq_true, decide_eq_true_iff, decide_eq_true_iff] at ho
        have hm : (unM (partD d q)).length = 16 ∧ is16 (unM (partD d q)) := by
          rw [unM]
          split
          · exact decA_ok _
          · exact ⟨rfl, zr16_16⟩
        refine ⟨by rw [List.length_append, i1]; rfl, by omega, fun b hb => ?_, fun b hb => ?_, fun b hb => ?_⟩
        · rcases List.mem_append.1 hb with hb | hb
          · exact i3 b hb
          · rw [List.mem_singleton] at hb; subst hb; exact ⟨rfl, hm.1⟩
        · rcases List.mem_append.1 hb with hb | hb
          · exact i4 b hb
          · rw [List.mem_singleton] at hb; subst hb; exact hm.2
        · rcases List.mem_append.1 hb with hb | hb
          · exact i5 b hb
          · rw [List.mem_singleton] at hb
            subst hb
            intro x hx
            have hw : ∀ z : Int, -2147483648 ≤ IntKind.i32.wrap z ∧ IntKind.i32.wrap z ≤ 2147483647 := fun z => by
              rw [IntKind.wrap_i32]
              omega
            simp only [blkAtD, corD, List.mem_cons, List.not_mem_nil, or_false] at hx
            rcases hx with rfl | rfl
            · exact hw _
            · exact hw _
/-- what is told of a file -/
def rpX (l : List (List Int)) : Option (List Bl) := if opCode l = 0 ∧ opKind l = 2 then (match rdTo (opData l) (opCount l).toNat with
    | none => none
    | some (out, _) => if vpB out && (picD out == opData l) then some out else none) else none
def rpL (l : List (List Int)) : List Bl := (rpX l).getD []
def rpC (l : List (List Int)) : Int := if opCode l = 0 then (match rpX l with
    | none => 5
    | some _ => 0) else opCode l
theorem op_pack {l : List (List Int)} (h : opCode l = 0) : packOf (opKind l) (opCount l) (opData l) = l ∧ (opData l).length ≤ 8192 ∧ packOk (opKind l) (opCount l) = true := by
  rw [opKind, opCount, opData, if_pos h, if_pos h, if_pos h]
  have hg : opGood l = true := by
    unfold opCode at h
    split at h
    · split at h
      · split at h
        · cases h
        · split at h
          · assumption
          · cases h
      · cases h
    · cases h
  unfold opGood at hg
  simp only [Bool.and_eq_true, decide_eq_true_iff, beq_iff_eq] at hg
  obtain ⟨_, h1, h2, h3, h4⟩ := hg
  refine ⟨h4, ?_, h1⟩
  rw [List.length_take]
  omega
/-- the file of what is read is the file, just if its data are the data -/
theorem again_iff {l : List (List Int)} (h : opCode l = 0) (hk : opKind l = 2) {out : List Bl} (hn : opCount l = out.length) (hv : vpB out = true) : (pfC out = 0 ∧ pfF out = l) ↔ picD out = opData l := by
  obtain ⟨h1, h2, h3⟩ := op_pack h
  rw [packOk, Bool.and_eq_true] at h3
  have h256 : out.length ≤ 256 := by
    have := h3.2
    rw [hn, inB, Bool.and_eq_true, decide_eq_true_iff, decide_eq_true_iff] at this
    omega
  constructor
  · rintro ⟨c1, c2⟩
    have hlen : (picD out).length ≤ 8192 := by
      rw [pfC, hv, if_pos rfl] at c1
      split at c1
      · assumption
      · cases c1
    have := (packOf_opens (kd := 2) (cn := out.length) (d := picD out) ⟨by omega, by omega⟩ ⟨by omega, by omega⟩ hlen).2.2.2
    rw [pfF, if_pos ⟨hv, hlen⟩] at c2
    rw [c2] at this
    exact this.symm
  · intro e
    rw [← e] at h1 h2
    rw [hk, hn] at h1
    refine ⟨by rw [pfC, hv, if_pos rfl, if_pos h2], by rw [pfF, if_pos ⟨hv, h2⟩]; exact h1⟩
end Go.Proofs.Ytmagaapdijapiaa
