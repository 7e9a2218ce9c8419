/- The source of choices: next, pick, one. -/
import Derived.Test.YtfjfiljgbkhblaaDoorRows
import Derived.Test.YtfjfiljgbkhblaaDoorSl
import Derived.Test.YtfjfiljgbkhblaaDoorUd
import Derived.Test.YtfjfiljgbkhblaaDoorUb
import Derived.Deep.Cut
import Derived.Laws.Bits64b
namespace Go.Proofs.YtfjfiljgbkhblaaDoor
open Go.ChangeShapes Go.WideShapes Go.ChangeAt Go.RowKit

/-- the source's block: the bytes, how many are read, the seed -/
def Src (W : World) (g : Nat) (A : Option Addr) (n c : Nat) (k : Nat) : Prop := ∃ s : Int, 0 ≤ s ∧ s < 18446744073709551616 ∧ Blk W g 88 #[.slice A n c, .int .i64 k, .int .u64 s]
theorem Src.lt {W : World} {g : Nat} {A : Option Addr} {n c k : Nat} (h : Src W g A n c k) : g < W.heap.size := by
  obtain ⟨s, _, _, h⟩ := h
  exact h.lt
theorem u64wrap (x : Int) : 0 ≤ IntKind.wrap .u64 x ∧ IntKind.wrap .u64 x < 18446744073709551616 := by
  have h : IntKind.wrap .u64 x = x % 18446744073709551616 := rfl
  omega
theorem and255 {x : Int} (h0 : 0 ≤ x) (h1 : x < 18446744073709551616) : 0 ≤ bits .and .u64 x 255 ∧ bits .and .u64 x 255 ≤ 255 := by
  obtain ⟨a, rfl⟩ := Int.eq_ofNat_of_zero_le h0
  have h := bits_and_u64_nat a 255 (by omega) (by decide)
  have h2 : a &&& 255 ≤ 255 := Nat.and_le_right
  rw [show ((255 : Nat) : Int) = 255 from rfl] at h
  rw [h]
  omega
theorem wrap64_small {x : Int} (h0 : 0 ≤ x) (h1 : x ≤ 255) : wrap64 x = x := by
  unfold wrap64
  go_num
theorem div40 {x : Int} (h0 : 0 ≤ x) (h1 : x < 18446744073709551616) : 0 ≤ x / 1099511627776 ∧ x / 1099511627776 < 18446744073709551616 := by omega
set_option maxHeartbeats 1600000 in
theorem next_any (g : Nat) (A : Option Addr) (n c : Nat) (l : List Int) (hl : l.length = n) (h255 : is255 l) (k : Nat) (hk : k < 1000000000) (hn : n ≤ 1000000000) (w : World) (hs : Src w g A n c k) (hR : Rd w g 1 A n (l.map (.int .u8))) :
    Calls Tryd.prog 57 #[.pointer (some ⟨g, 0, none⟩)] w fun e w' => (∃ v : Int, 0 ≤ v ∧ v ≤ 255 ∧ e = .returned (.int .i64 v)) ∧ Src w' g A n c (k + 1) ∧ w.grownBy w' (some g) := by
  obtain ⟨s, hs0, hs1, hb⟩ := hs
  have c0 : w.cell? ⟨g, 0, none⟩ = some (.slice A n c) := hb.cell 0
  have c1 : w.cell? ⟨g, 1, none⟩ = some (.int .i64 k) := hb.cell 1
  have c2 : w.cell? ⟨g, 2, none⟩ = some (.int .u64 s) := hb.cell 2
  have f1 := hb.frozen 1
  have f2 := hb.frozen 2
  by_cases hlt : k < n
  · obtain ⟨b, o, rfl, hbg, hc⟩ := hR.at_ (by omega)
    have cb := hc k (.int .u8 (l[k]'(by omega))) (by rw [List.getElem?_map, List.getElem?_eq_getElem (by omega)]; rfl)
    have hv := h255 _ (List.getElem_mem (l := l) (n := k) (by omega))
    generalize l[k]'(by omega) = v at *
    have hlt' : (k : Int) < n := by omega
    clear hc hR
    go_enter Tryd.func57, Tryd.ntmps57
    go_wp2
    go_quiet (fail)
    go_wp2
    go_quiet (fail)
    go_wp2
    go_quiet (fail)
    go_wp2
    go_ret
    refine ⟨⟨_, hv.1, hv.2, rfl⟩, ?_, ?_⟩
    · exact ⟨_, (u64wrap _).1, (u64wrap _).2, (((hb.drewN _).set_ 1 _).set_ 2 _).drewN _⟩
    · exact only_drewN (only_setCell (g := g) (p := ⟨g, 2, none⟩) (only_setCell (g := g) (p := ⟨g, 1, none⟩) (only_drewN (World.grownBy.refl _ _) _) rfl _) rfl _) _
  · have hge : (n : Int) ≤ k := by omega
    clear hR
    go_enter Tryd.func57, Tryd.ntmps57
    go_wp2
    go_quiet (fail)
    go_wp2
    go_quiet (fail)
    go_wp2
    go_ret
    obtain ⟨q0, q1⟩ := u64wrap (IntKind.wrap .u64 (IntKind.wrap .u64 (s * 6364136223846793005)) + 1442695040888963407)
    obtain ⟨p0, p1⟩ := and255 (div40 q0 q1).1 (div40 q0 q1).2
    refine ⟨⟨_, ?_, ?_, rfl⟩, ?_, ?_⟩
    · have h : wrap64 (bits .and .u64 (IntKind.wrap .u64 (IntKind.wrap .u64 (IntKind.wrap .u64 (s * 6364136223846793005)) + 1442695040888963407) / 1099511627776) 255) = bits .and .u64 (IntKind.wrap .u64 (IntKind.wrap .u64 (IntKind.wrap .u64 (s * 6364136223846793005)) + 1442695040888963407) / 1099511627776) 255 := wrap64_small p0 p1
      rw [h]; exact p0
    · have h : wrap64 (bits .and .u64 (IntKind.wrap .u64 (IntKind.wrap .u64 (IntKind.wrap .u64 (s * 6364136223846793005)) + 1442695040888963407) / 1099511627776) 255) = bits .and .u64 (IntKind.wrap .u64 (IntKind.wrap .u64 (IntKind.wrap .u64 (s * 6364136223846793005)) + 1442695040888963407) / 1099511627776) 255 := wrap64_small p0 p1
      rw [h]; exact p1
    · exact ⟨_, q0, q1, (((hb.drewN _).set_ 1 _).set_ 2 _).drewN _⟩
    · exact only_drewN (only_setCell (g := g) (p := ⟨g, 2, none⟩) (only_setCell (g := g) (p := ⟨g, 1, none⟩) (only_drewN (World.grownBy.refl _ _) _) rfl _) rfl _) _
/-- what a call of the source gives: a number, and the source has gone on by at most d bytes -/
def Gone (w : World) (g : Nat) (A : Option Addr) (n c k d : Nat) (w' : World) : Prop := (∃ k', k' ≤ k + d ∧ Src w' g A n c k') ∧ w.grownBy w' (some g)
set_option maxHeartbeats 1600000 in
theorem pick_any (m : Int) (hm1 : 2 ≤ m) (hm2 : m ≤ 200) (g : Nat) (A : Option Addr) (n c : Nat) (l : List Int) (hl : l.length = n) (h255 : is255 l) (k : Nat) (hk : k < 1000000000) (hn : n ≤ 1000000000) (w : World) (hs : Src w g A n c k) (hR : Rd w g 1 A n (l.map (.int .u8))) :
    Calls Tryd.prog 42 #[.pointer (some ⟨g, 0, none⟩), .int .i64 m] w fun e w' => (∃ v : Int, 0 ≤ v ∧ v < m ∧ e = .returned (.int .i64 v)) ∧ Gone w g A n c k 1 w' := by
  have hx := next_any g A n c l hl h255 k hk hn w hs hR
  have HX := Lib.hid hx
  clear hx hs hR
  go_enter Tryd.func42, Tryd.ntmps42
  go_wp2_with (go_at_call 57; refine HX.out.mono ?_; rintro e w2 ⟨⟨v, hv0, hv1, rfl⟩, hs2, hg2⟩; have HS := Lib.hid hs2; have HG := Lib.hid hg2; clear hs2 hg2)
  go_ret
  exact ⟨⟨_, Int.emod_nonneg _ (by omega), Int.emod_lt_of_pos _ (by omega), rfl⟩, ⟨k + 1, Nat.le_refl _, HS.out⟩, HG.out⟩
end Go.Proofs.YtfjfiljgbkhblaaDoor
