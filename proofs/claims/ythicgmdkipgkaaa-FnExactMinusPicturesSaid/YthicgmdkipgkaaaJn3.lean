/- Two pictures less one another: the program's walk. -/
import Derived.Test.YthicgmdkipgkaaaRows
import Derived.Test.YthicgmdkipgkaaaCm3
namespace Go.Proofs.Ythicgmdkipgkaaa
open Go.ChangeShapes Go.WideShapes Go.ChangeAt Go.RowKit
theorem iMinusPictures_any (A : Option Addr) (n c : Nat) (l : List Bl) (hl : l.length = n) (hrow : Bls l) (h16 : ∀ b ∈ l, is16 b.2) (h32 : ∀ b ∈ l, ∀ x ∈ b.1, -2147483648 ≤ x ∧ x ≤ 2147483647) (A2 : Option Addr) (n2 c2 : Nat) (l2 : List Bl) (hl2 : l2.length = n2) (hrow2 : Bls l2) (h162 : ∀ b ∈ l2, is16 b.2) (h322 : ∀ b ∈ l2, ∀ x ∈ b.1, -2147483648 ≤ x ∧ x ≤ 2147483647) (hn : n ≤ 1048576) (hn2 : n2 ≤ 1048576) (w : World) (hR : Rd w w.heap.size 18 A n (bcs l)) (hR2 : Rd w w.heap.size 18 A2 n2 (bcs l2)) :
    Calls Try.prog 40 #[.slice A n c, .slice A2 n2 c2] w (GivesToldB (cmbL notF l l2) (cmbK notF l l2) w) := by
  have HC := Lib.hid (combMinusMasks_any A n c l hl hrow h16 h32 A2 n2 c2 l2 hl2 hrow2 h162 h322 hn hn2 w hR hR2)
  clear hl hrow h16 h32 hl2 hrow2 h162 h322 hR hR2
  generalize cmbL notF l l2 = L at *
  generalize cmbK notF l l2 = K at *
  go_enter Try.func40, Try.ntmps40
  go_wp2_with (go_at_call 63; refine HC.out.mono ?_; rintro e w9 ⟨A9, c9, rfl, o9, b9⟩; have HO9 := Lib.hid o9; have HB9 := Lib.hid b9; clear o9 b9)
  go_ret2
  exact ⟨A9, c9, rfl, HO9.out, HB9.out⟩
end Go.Proofs.Ythicgmdkipgkaaa
