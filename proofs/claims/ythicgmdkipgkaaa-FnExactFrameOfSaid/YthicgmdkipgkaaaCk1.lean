/- The law FnExactValidPicture, walked. -/
import Derived.Test.YthicgmdkipgkaaaRows
import Derived.Test.YthicgmdkipgkaaaCj
namespace Go.Proofs.Ythicgmdkipgkaaa
open Go.ChangeShapes Go.WideShapes Go.ChangeAt Go.RowKit

set_option maxRecDepth 100000 in
set_option maxHeartbeats 1600000 in
theorem lawValidPicture_in (A : Option Addr) (n c : Nat) (l : List Bl) (hl : l.length = n) (hrow : Bls l) (h16 : ∀ b ∈ l, is16 b.2) (h32 : ∀ b ∈ l, ∀ x ∈ b.1, -2147483648 ≤ x ∧ x ≤ 2147483647) (hn : n ≤ 1048576) (w : World) (RA : Rd w w.heap.size 18 A n (bcs l)) :
    Calls Try.prog 3 #[.slice A n c] w fun e w' => e = .returned (.bool true) ∧ Below w.heap.size w w' := by
  have hbl : (bcs l).length = n * 18 := by rw [bcs_length hrow, hl]
  have HBL := Lib.hid hbl
  have Hrow := Lib.hid hrow
  have Hl := Lib.hid hl
  have SP := Lib.hid (fun A c W (hW : Rd W W.heap.size 18 A n (bcs l)) => sValidPicture_any A n c l hl hrow h16 h32 hn W hW)
  have IP := Lib.hid (fun A c W (hW : Rd W W.heap.size 18 A n (bcs l)) => iValidPicture_any A n c l hl hrow h16 h32 hn W hW)
  clear hl hrow hbl h16 h32
  generalize vpB l = ok at *
  have B0 : Below w.heap.size w w := Below.refl _ _
  go_enter Try.func3, Try.ntmps3
  go_wp2_with fail
  refine (szBlockS_in A n c 1048576 (by omega) (by omega) _).mono ?_
  rintro e wx ⟨rfl, rfl⟩
  go_wp2_with fail
  refine (toBlockS_any A n c l Hl.out Hrow.out hn _ (RA.more (by omega))).mono ?_
  rintro e w1 ⟨rfl, b1, hb1⟩
  have z1 := hb1.size
  have RA_1 := RA.below hb1 (by omega)
  have B1 := B0.trans (hb1.mono (by omega))
  clear RA hb1 B0
  have OT := b1.ownV (n := n) (size := 18) (lo := w.heap.size) (hi := w1.heap.size) HBL.out (Nat.le_refl _) (by have := b1.lt; omega) (by unfold maxLen; omega)
  clear b1
  go_wp2_with fail
  refine (SP.out _ n _ (OT.rd.more (by omega))).mono ?_
  rintro e w2 ⟨rfl, hb2⟩
  have z2 := hb2.size
  have RA_2 := RA_1.below hb2 (by omega)
  have OT_2 := OT.below hb2 (by omega)
  have B2 := B1.trans (hb2.mono (by omega))
  clear RA_1 OT hb2 B1
  go_wp2_with fail
  refine (toBlockS_any A n c l Hl.out Hrow.out hn _ (RA_2.more (by omega))).mono ?_
  rintro e w3 ⟨rfl, b3, hb3⟩
  have z3 := hb3.size
  have RA_3 := RA_2.below hb3 (by omega)
  have OT_3 := OT_2.below hb3 (by omega)
  have B3 := B2.trans (hb3.mono (by omega))
  clear RA_2 OT_2 hb3 B2
  have OX := b3.ownV (n := n) (size := 18) (lo := w2.heap.size) (hi := w3.heap.size) HBL.out (Nat.le_refl _) (by have := b3.lt; omega) (by unfold maxLen; omega)
  clear b3
  go_wp2_with fail
  refine (IP.out _ n _ (OX.rd.more (by omega))).mono ?_
  rintro e w4 ⟨rfl, hb4⟩
  have z4 := hb4.size
  have RA_4 := RA_3.below hb4 (by omega)
  have OT_4 := OT_3.below hb4 (by omega)
  have OX_4 := OX.below hb4 (by omega)
  have B4 := B3.trans (hb4.mono (by omega))
  clear RA_3 OT_3 OX hb4 B3
  go_wp2_with fail
  refine (toBlockS_any A n c l Hl.out Hrow.out hn _ (RA_4.more (by omega))).mono ?_
  rintro e w5 ⟨rfl, b5, hb5⟩
  have z5 := hb5.size
  have RA_5 := RA_4.below hb5 (by omega)
  have OT_5 := OT_4.below hb5 (by omega)
  have OX_5 := OX_4.below hb5 (by omega)
  have B5 := B4.trans (hb5.mono (by omega))
  clear RA_4 OT_4 OX_4 hb5 B4
  have OY := b5.ownV (n := n) (size := 18) (lo := w4.heap.size) (hi := w5.heap.size) HBL.out (Nat.le_refl _) (by have := b5.lt; omega) (by unfold maxLen; omega)
  clear b5
  go_wp2_with fail
  refine (eqBlockS_same _ _ _ _ _ l Hl.out Hrow.out (by omega) _ (OX_5.rd.more (by omega)) (OY.rd.more (by omega))).mono ?_
  rintro e w6 ⟨rfl, hb6⟩
  have z6 := hb6.size
  have RA_6 := RA_5.below hb6 (by omega)
  have OT_6 := OT_5.below hb6 (by omega)
  have OX_6 := OX_5.below hb6 (by omega)
  have OY_6 := OY.below hb6 (by omega)
  have B6 := B5.trans (hb6.mono (by omega))
  clear RA_5 OT_5 OX_5 OY hb6 B5
  go_wp2
  go_ret
  exact ⟨rfl, B6⟩

set_option maxRecDepth 100000 in
set_option maxHeartbeats 400000 in
theorem lawValidPicture_any (A : Option Addr) (n c : Nat) (l : List Bl) (hl : l.length = n) (hrow : Bls l) (h16 : ∀ b ∈ l, is16 b.2) (h32 : ∀ b ∈ l, ∀ x ∈ b.1, -2147483648 ≤ x ∧ x ≤ 2147483647) (hs : n ≤ 9223372036854775807) (w : World) (hR : Rd w w.heap.size 18 A n (bcs l)) :
    Calls Try.prog 3 #[.slice A n c] w fun e w' => e = .returned (.bool true) ∧ Below w.heap.size w w' := by
  by_cases h : n ≤ 1048576
  · exact lawValidPicture_in A n c l hl hrow h16 h32 h w hR
  · clear hl hrow hR h16 h32
    go_enter Try.func3, Try.ntmps3
    go_wp2_with fail
    refine (szBlockS_out A n c 1048576 (by omega) (by omega) (by omega) (by omega) _).mono ?_
    rintro e wx ⟨rfl, rfl⟩
    go_wp2
    go_ret
    exact ⟨rfl, Below.refl _ _⟩
theorem is16_of_wfs {l : List Int} (h : wfs .u16 l) : is16 l := fun x hx => by
  have := h x hx
  simp only [Lit.wf, Bool.and_eq_true, IntKind.min, IntKind.max, IntKind.signed, IntKind.bits] at this
  simp at this
  omega
theorem i32_of_wfs {l : List Int} (h : wfs .i32 l) : ∀ x ∈ l, -2147483648 ≤ x ∧ x ≤ 2147483647 := fun x hx => by
  have := h x hx
  simp only [Lit.wf, Bool.and_eq_true, IntKind.min, IntKind.max, IntKind.signed, IntKind.bits] at this
  simp at this
  omega
end Go.Proofs.Ythicgmdkipgkaaa
