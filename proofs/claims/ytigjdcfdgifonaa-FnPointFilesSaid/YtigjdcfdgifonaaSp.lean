/- SpoilFrame: the reference's and the program's walk come to the same frames. -/
import Derived.Test.YtigjdcfdgifonaaRows
import Derived.Test.YtigjdcfdgifonaaFrE
import Derived.Test.YtigjdcfdgifonaaSf
import Derived.Test.YtigjdcfdgifonaaCl
namespace Go.Proofs.Ytigjdcfdgifonaa
open Go.ChangeShapes Go.WideShapes Go.ChangeAt Go.RowKit

def flipAt (x : Int) (t : Nat) : Int := bits .xor .u8 x (2 ^ (t % 8) % 256)
def spoil (l : List (List Int)) (a t : Nat) : List (List Int) := l.set a ((l.getD a []).set (t / 8) (flipAt ((l.getD a []).getD (t / 8) 0) t))
theorem spoil_rows {l : List (List Int)} {a t : Nat} (h : Rows_ 16 l) (ha : a < l.length) : Rows_ 16 (spoil l a t) := by
  refine h.set ?_
  rw [List.length_set, List.getD_eq_getElem?_getD, List.getElem?_eq_getElem ha]
  exact h.at_ ha
theorem flat_set_cell {l : List (List Int)} {a j : Nat} (h : Rows_ 16 l) (ha : a < l.length) (hj : j < 16) (v : Int) : (l.set a ((l[a]).set j v)).flatten = l.flatten.set (a * 16 + j) v := by
  have hla := h.at_ ha
  have e0 := flat_set h ha hla
  rw [List.set_getElem_self, hla] at e0
  have e1 := flat_set (f := (l[a]).set j v) h ha (by rw [List.length_set, hla])
  rw [List.length_set, hla] at e1
  have hlen : (l.flatten.take (a * 16)).length = a * 16 := by
    rw [List.length_take, flat_length h]
    omega
  rw [e1]
  conv => rhs; rw [e0]
  rw [List.set_append_right _ _ (by omega), hlen, Nat.add_sub_cancel_left, List.set_append_left _ _ (by omega)]
theorem spoil_flat {l : List (List Int)} {a t : Nat} (h : Rows_ 16 l) (ha : a < l.length) (ht : t < 128) (hj : a * 16 + t / 8 < l.flatten.length) :
    (spoil l a t).flatten = l.flatten.set (a * 16 + t / 8) (flipAt (l.flatten[a * 16 + t / 8]'hj) t) := by
  have hla := h.at_ ha
  have e1 : l.getD a [] = l[a] := by rw [List.getD_eq_getElem?_getD, List.getElem?_eq_getElem ha]; rfl
  have e2 : (l[a]).getD (t / 8) 0 = l.flatten[a * 16 + t / 8]'hj := by
    have := flat_get h ha (j := t / 8) (by omega)
    rw [List.getElem?_eq_getElem hj] at this
    rw [List.getD_eq_getElem?_getD, List.getElem?_eq_getElem (by omega)]
    exact (Option.some.inj this).symm
  rw [spoil, e1, e2]
  exact flat_set_cell h ha (by omega) _

def spoilOk (l : List (List Int)) (x y : Int) : Bool := inB x 0 ((l.length : Int) - 1) && inB y 0 127
def spoilOf (l : List (List Int)) (x y : Int) : List (List Int) := if l.length ≤ 700 then (if spoilOk l x y then spoil l x.toNat y.toNat else []) else []
def spoilCode (l : List (List Int)) (x y : Int) : Int := if l.length ≤ 700 then (if spoilOk l x y then 0 else 2) else 3
theorem spoilOf_rows {l : List (List Int)} (h : Rows_ 16 l) (x y : Int) : Rows_ 16 (spoilOf l x y) := by
  unfold spoilOf
  split
  · split
    · rename_i hk
      simp only [spoilOk, Bool.and_eq_true] at hk
      have := inB_true hk.1
      exact spoil_rows h (by omega)
    · intro f hf; cases hf
  · intro f hf; cases hf
theorem spoilOf_length (l : List (List Int)) (x y : Int) : (spoilOf l x y).length ≤ 700 := by
  unfold spoilOf
  split
  · split
    · rw [spoil, List.length_set]; omega
    · simp
  · simp

/-- what SpoilFrame gives -/
def GivesFs (out : List (List Int)) (code : Int) (w : World) (e : Ending) (w' : World) : Prop :=
  ∃ A c, e = .returned (.tuple #[.slice A out.length c, .int .i64 code]) ∧ Own w' w.heap.size w'.heap.size 65 16 A out.length c (out.flatten.map (.int .u8)) ∧ Below w.heap.size w w'

set_option maxRecDepth 20000 in
set_option maxHeartbeats 1600000 in
theorem iSpoil_in (b o n c a t : Nat) (l : List (List Int)) (hl : l.length = n) (hrow : Rows_ 16 l) (h7 : n ≤ 700) (ha : a < n) (ht : t < 128) (w : World) (hR : Rd w w.heap.size 16 (some ⟨b, o, none⟩) n (l.flatten.map (.int .u8))) :
    Calls Try.prog 40 #[.slice (some ⟨b, o, none⟩) n c, .int .i64 a, .int .i64 t] w (GivesFs (spoil l a t) 0 w) := by
  have hsz : (Try.prog.info? 65).map (·.size) = some 16 := by kernel_rfl
  have Hl := Lib.hid hl
  have Hrow := Lib.hid hrow
  have HR := Lib.hid hR
  clear hl hrow hR
  have q1 : inB (a : Int) 0 ((n : Int) - 1) = true := by simp [inB]; omega
  have q2 : inB (t : Int) 0 127 = true := by simp [inB]; omega
  have e1 := fun W : World => inRange_any (a : Int) 0 ((n : Int) - 1) W
  have e2 := fun W : World => inRange_any (t : Int) 0 127 W
  rw [q1] at e1
  rw [q2] at e2
  have E1 := Lib.hid e1
  have E2 := Lib.hid e2
  clear e1 e2 q1 q2
  go_enter Try.func40, Try.ntmps40
  go_wp2_with fail
  refine (E1.out _).mono ?_
  rintro e wx ⟨rfl, rfl⟩
  go_wp2_with fail
  refine (E2.out _).mono ?_
  rintro e wx ⟨rfl, rfl⟩
  go_wp2_with fail
  refine (clone_any b o n c l Hl.out Hrow.out (by omega) _ HR.out).mono ?_
  rintro e w1 ⟨A', c1, rfl, hO, hb1⟩
  obtain ⟨g, cur, rfl, hg1, hg2, hblk, hnc, hcm, hcs, hxs⟩ := hO.at_ (by omega)
  unfold maxLen at hcm
  have hfl : l.flatten.length = n * 16 := by rw [flat_length Hrow.out, Hl.out]
  have hj : a * 16 + t / 8 < l.flatten.length := by omega
  have hset := spoil_flat (l := l) (a := a) (t := t) Hrow.out (by rw [Hl.out]; exact ha) ht hj
  obtain ⟨x, hx⟩ : ∃ x, x = l.flatten[a * 16 + t / 8]'hj := ⟨_, rfl⟩
  rw [← hx] at hset
  have c2 : w1.cell? ⟨g, a * 16 + t / 8, none⟩ = some (.int .u8 x) := by
    rw [hblk.cell]
    have : (cur.toList.take (n * 16))[a * 16 + t / 8]? = some (.int .u8 x) := by
      rw [hxs, List.getElem?_map, List.getElem?_eq_getElem hj, hx]; rfl
    rw [List.getElem?_take_of_lt (by omega)] at this
    simpa using this
  have f1 : w1.frozen? ⟨g, a * 16 + t / 8, none⟩ = false := hblk.frozen _
  have b1 : (a : Int) < (n : Int) := by omega
  have b2 : (0 : Int) ≤ (t : Int) := by omega
  have b3 : (t : Int) < 128 := by omega
  have b4 : (t : Int) / 8 < 16 := by omega
  have b5 : (0 : Int) ≤ (t : Int) / 8 := by omega
  have hOs := hO.setCell (a * 16 + t / 8) (.int .u8 (flipAt x t))
  rw [← List.map_set, ← hset] at hOs
  have HOs := Lib.hid hOs
  have e9 : (spoil l a t).length = n := by rw [spoil, List.length_set, Hl.out]
  rw [← e9] at HOs
  have Hn9 := Lib.hid e9
  have Hg2 := Lib.hid hg2
  have hzz := hb1.size
  clear hfl hblk hxs hO hx hg2 hset hj hOs e9
  go_wp2_with fail
  go_region
  go_wp2
  go_ret2
  have hb2 := below_drew (hb1.setCell (p := ⟨g, a * 16 + t / 8, none⟩) hg1 (.int .u8 (flipAt x t)))
  have hlt : g < ((w1.setCell ⟨g, a * 16 + t / 8, none⟩ (.int .u8 (flipAt x t))).drew).heap.size := by
    have := (below_drew ((Below.refl g w1).setCell (p := ⟨g, a * 16 + t / 8, none⟩) (Nat.le_refl _) (.int .u8 (flipAt x t)))).size
    have := Hg2.out
    omega
  have hsz1 : w1.heap.size ≤ ((w1.setCell ⟨g, a * 16 + t / 8, none⟩ (.int .u8 (flipAt x t))).drew).heap.size := (below_drew ((Below.refl 0 w1).setCell (p := ⟨g, a * 16 + t / 8, none⟩) (Nat.zero_le _) (.int .u8 (flipAt x t)))).size
  exact ⟨some ⟨g, 0, none⟩, c1, by rw [Hn9.out]; rfl, (HOs.out.drew).more hsz1, hb2⟩

set_option maxRecDepth 20000 in
set_option maxHeartbeats 800000 in
theorem iSpoilFrame_any (b o n c : Nat) (l : List (List Int)) (hl : l.length = n) (hrow : Rows_ 16 l) (hn : n ≤ 1048576) (x y : Int) (w : World) (hR : Rd w w.heap.size 16 (some ⟨b, o, none⟩) n (l.flatten.map (.int .u8))) :
    Calls Try.prog 40 #[.slice (some ⟨b, o, none⟩) n c, .int .i64 x, .int .i64 y] w (GivesFs (spoilOf l x y) (spoilCode l x y) w) := by
  by_cases h7 : n ≤ 700
  · cases hq : spoilOk l x y
    · have e1 : spoilOf l x y = [] := by simp [spoilOf, hq]
      have e2 : spoilCode l x y = 2 := by simp [spoilCode, hl, h7, hq]
      rw [e1, e2]
      rw [spoilOk, hl] at hq
      clear e1 e2 hl hrow hR
      cases q1 : inB x 0 ((n : Int) - 1)
      · clear hq
        have e1 := fun W : World => inRange_any x 0 ((n : Int) - 1) W
        rw [q1] at e1
        have E1 := Lib.hid e1
        clear e1 q1
        go_enter Try.func40, Try.ntmps40
        go_wp2_with fail
        refine (E1.out _).mono ?_
        rintro e wx ⟨rfl, rfl⟩
        go_wp2
        go_ret2
        exact ⟨none, 0, rfl, ⟨rfl, .inl ⟨rfl, rfl, rfl⟩⟩, Below.refl _ _⟩
      · rw [q1, Bool.true_and] at hq
        have e1 := fun W : World => inRange_any x 0 ((n : Int) - 1) W
        have e2 := fun W : World => inRange_any y 0 127 W
        rw [q1] at e1
        rw [hq] at e2
        have E1 := Lib.hid e1
        have E2 := Lib.hid e2
        clear e1 e2 q1 hq
        go_enter Try.func40, Try.ntmps40
        go_wp2_with fail
        refine (E1.out _).mono ?_
        rintro e wx ⟨rfl, rfl⟩
        go_wp2_with fail
        refine (E2.out _).mono ?_
        rintro e wx ⟨rfl, rfl⟩
        go_wp2
        go_ret2
        exact ⟨none, 0, rfl, ⟨rfl, .inl ⟨rfl, rfl, rfl⟩⟩, Below.refl _ _⟩
    · have e1 : spoilOf l x y = spoil l x.toNat y.toNat := by simp [spoilOf, hl, h7, hq]
      have e2 : spoilCode l x y = 0 := by simp [spoilCode, hl, h7, hq]
      rw [e1, e2]
      simp only [spoilOk, Bool.and_eq_true, hl] at hq
      have h1 := inB_true hq.1
      have h2 := inB_true hq.2
      have := iSpoil_in b o n c x.toNat y.toNat l hl hrow h7 (by omega) (by omega) w hR
      rw [Int.toNat_of_nonneg h1.1, Int.toNat_of_nonneg h2.1] at this
      exact this
  · have e1 : spoilOf l x y = [] := by simp [spoilOf, hl, h7]
    have e2 : spoilCode l x y = 3 := by simp [spoilCode, hl, h7]
    rw [e1, e2]
    clear e1 e2 hl hrow hR
    go_enter Try.func40, Try.ntmps40
    go_wp2
    go_ret2
    exact ⟨none, 0, rfl, ⟨rfl, .inl ⟨rfl, rfl, rfl⟩⟩, Below.refl _ _⟩

end Go.Proofs.Ytigjdcfdgifonaa
