/- The file of a picture: the walks. -/
import Derived.Test.YtmagaapdijapiaaRows
import Derived.Test.YtmagaapdijapiaaYh
import Derived.Test.YtmagaapdijapiaaPl
import Derived.Test.YtmagaapdijapiaaPk
import Derived.Test.YtmagaapdijapiaaCj
namespace Go.Proofs.Ytmagaapdijapiaa
open Go.ChangeShapes Go.WideShapes Go.ChangeAt Go.RowKit
theorem Own.capY {w : World} {lo hi : Nat} {e : TypeId} {size : Nat} {A : Option Addr} {n c : Nat} {xs : List Value} (h : Own w lo hi e size A n c xs) : c ≤ 9223372036854775807 := by
  rcases h.2 with ⟨_, _, rfl⟩ | ⟨g, cur, h1, h2, h3, h4, h5, h6, _⟩
  · omega
  · unfold maxLen at h6; exact h6
def GivesFp (fs : List (List Int)) (code : Int) (w : World) (e : Ending) (w' : World) : Prop :=
  ∃ A c, e = .returned (.tuple #[.slice A fs.length c, .int .i64 code]) ∧ Own w' w.heap.size w'.heap.size 87 16 A fs.length c (fs.flatten.map (.int .u8)) ∧ Below w.heap.size w w'
theorem GivesFp.nil {w w' : World} {k : Int} (hb : Below w.heap.size w w') : GivesFp [] k w (.returned (.tuple #[.slice none 0 0, .int .i64 k])) w' := ⟨none, 0, rfl, ⟨rfl, .inl ⟨rfl, rfl, rfl⟩⟩, hb⟩
theorem GivesFp.lit {w w1 : World} {k : Int} (hb : Below w.heap.size w w1) : GivesFp [] k w (.returned (.tuple #[.slice (some ⟨w1.heap.size, 0, none⟩) 0 0, .int .i64 k])) (w1.alloc (.cells #[] 87)) := by
  have h0 := World.ownsRow_lit (e := 87) (base := w.heap.size) (size := 16) w1 #[] 0 hb.size (by unfold maxLen; omega) rfl
  obtain ⟨A, c, he, ho⟩ := Own.of_row h0
  cases he
  exact ⟨_, _, rfl, ho, hb.alloc hb.size _⟩
set_option maxRecDepth 20000 in
set_option maxHeartbeats 1600000 in
theorem iPictureFile_any (A : Option Addr) (n c : Nat) (l : List Bl) (hl : l.length = n) (hrow : Bls l) (h16 : ∀ b ∈ l, is16 b.2) (h32 : ∀ b ∈ l, ∀ x ∈ b.1, -2147483648 ≤ x ∧ x ≤ 2147483647) (hn : n ≤ 1048576) (w : World) (hR : Rd w w.heap.size 18 A n (bcs l)) :
    Calls Try.prog 10 #[.slice A n c] w (GivesFp (pfF l) (pfC l) w) := by
  have ho := fun W h => iValidPicture_any A n c l hl hrow h16 h32 hn W h
  cases hok : vpB l
  · have e1 : pfF l = [] := by rw [pfF, hok, if_neg (by simp)]
    have e2 : pfC l = 1 := by rw [pfC, hok]; rfl
    rw [e1, e2]
    rw [hok] at ho
    clear hok hrow h16 h32 hl e1 e2
    go_enter Try.func10, Try.ntmps10
    go_wp2_with (go_at_call 33; refine (ho _ (hR.more (by first | exact Nat.le_refl _ | omega))).mono ?_; rintro e w1 ⟨rfl, b1⟩)
    go_ret2
    exact GivesFp.nil b1
  · rw [hok] at ho
    have hfew := hok
    rw [vpB, Bool.and_eq_true, decide_eq_true_iff] at hfew
    have hn64 : n ≤ 64 := by have := hfew.2; omega
    have HD := Lib.hid (fun W h => pictureData_any A n c l hl hrow h16 hn W h)
    by_cases h8 : (picD l).length ≤ 8192
    · have e1 : pfF l = packOf 2 n (picD l) := by rw [pfF, if_pos ⟨hok, h8⟩, hl]
      have e2 : pfC l = 0 := by rw [pfC, hok, if_pos rfl, if_pos h8]
      rw [e1, e2]
      clear hok hfew hrow h16 h32 hl e1 e2
      generalize picD l = D at *
      have h8I : (D.length : Int) ≤ 8192 := by omega
      go_enter Try.func10, Try.ntmps10
      go_wp2_with (first
        | (go_at_call 33; refine (ho _ (hR.more (by first | exact Nat.le_refl _ | omega))).mono ?_; rintro e w1 ⟨rfl, b1⟩)
        | (go_at_call 48; refine (HD.out _ ((hR.below b1 (Nat.le_refl _)).more b1.size)).mono ?_; rintro e w2 ⟨g2, c2, rfl, hO, b2⟩; have HO := Lib.hid hO; have B2 := Lib.hid (b1.trans (b2.mono b1.size)); clear hO b2)
        | (go_at_call 49; refine (packFrames_any g2 0 D.length c2 2 n (by omega) (by omega) (by omega) (by omega) D rfl h8 HO.out.len HO.out.capY _ HO.out.rd).mono ?_; rintro e w3 ⟨A3, c3, rfl, hO3, b3⟩; have HO3 := Lib.hid hO3; have B3 := Lib.hid (B2.out.trans (b3.mono B2.out.size)); clear hO3 b3))
      go_ret2
      exact ⟨A3, c3, rfl, HO3.out.less B2.out.size, B3.out⟩
    · have e1 : pfF l = [] := by rw [pfF, if_neg (fun h => h8 h.2)]
      have e2 : pfC l = 3 := by rw [pfC, hok, if_pos rfl, if_neg h8]
      rw [e1, e2]
      clear hok hfew hrow h16 h32 hl e1 e2
      generalize picD l = D at *
      have h8I : (8192 : Int) < (D.length : Int) := by omega
      go_enter Try.func10, Try.ntmps10
      go_wp2_with (first
        | (go_at_call 33; refine (ho _ (hR.more (by first | exact Nat.le_refl _ | omega))).mono ?_; rintro e w1 ⟨rfl, b1⟩)
        | (go_at_call 48; refine (HD.out _ ((hR.below b1 (Nat.le_refl _)).more b1.size)).mono ?_; rintro e w2 ⟨g2, c2, rfl, hO, b2⟩; have B2 := Lib.hid (b1.trans (b2.mono b1.size)); clear hO b2))
      go_ret2
      exact GivesFp.nil B2.out
end Go.Proofs.Ytmagaapdijapiaa
