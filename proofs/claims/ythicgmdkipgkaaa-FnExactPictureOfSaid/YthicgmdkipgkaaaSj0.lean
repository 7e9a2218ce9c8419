/- A picture that must not have too many blocks: the reference's walk. -/
import Derived.Test.YthicgmdkipgkaaaRows
import Derived.Test.YthicgmdkipgkaaaAd
import Derived.Test.YthicgmdkipgkaaaCo
namespace Go.Proofs.Ythicgmdkipgkaaa
open Go.ChangeShapes Go.WideShapes Go.ChangeAt Go.RowKit
theorem l07Told_any (A : Option Addr) (n c : Nat) (L : List Bl) (hL : L.length = n) (hn : n ≤ 1048576) (lo : Nat) (w : World) (hlo : lo ≤ w.heap.size) (hO : Own w lo w.heap.size 55 18 A n c (bcs L)) :
    Calls Try.prog 56 #[.slice A n c] w fun e w' => ∃ A' c', e = .returned (.tuple #[.slice A' (picR L).length c', .int .i64 (picK L)]) ∧ Own w' lo w'.heap.size 55 18 A' (picR L).length c' (bcs (picR L)) ∧ Below w.heap.size w w' := by
  rw [picR, picK, hL]
  by_cases h : n ≤ 64
  · have hI : (n : Int) ≤ 64 := by omega
    rw [if_pos h, if_pos h, hL]
    have HO := Lib.hid hO
    clear hO
    go_enter Try.func56, Try.ntmps56
    go_wp2
    go_ret2
    exact ⟨A, c, rfl, HO.out, Below.refl _ _⟩
  · have hI : 64 < (n : Int) := by omega
    rw [if_neg h, if_neg h]
    have HO := Lib.hid hO
    clear hO
    go_enter Try.func56, Try.ntmps56
    go_wp2
    go_ret2
    have h0 := World.ownsRow_lit (e := 55) (base := lo) (size := 18) w #[] 0 hlo (by unfold maxLen; omega) rfl
    obtain ⟨A', c', he, ho⟩ := Own.of_row h0
    cases he
    exact ⟨_, _, rfl, ho, (Below.refl _ _).alloc (Nat.le_refl _) _⟩
/-- the corner and the mask of a block of a list, whole, wherever the world has gone -/
theorem rd_rows {w W : World} {b o n : Nat} {l : List Bl} (h : Rd w w.heap.size 18 (some ⟨b, o, none⟩) n (bcs l)) (hl : Bls l) (hn : l.length = n) {k : Nat} (hk : k < l.length) (hb : Below w.heap.size w W) {X Y : Int} {M : List Int} (he : l[k] = ([X, Y], M)) (hM : M.length = 16) :
    (rowAt W b (o + k * 18) 2 = #[.int .i32 X, .int .i32 Y] ∧ hasRow W b (o + k * 18) 2 = true) ∧ (rowAt W b (o + k * 18 + 2) 16 = ivs .u16 M ∧ hasRow W b (o + k * 18 + 2) 16 = true) := by
  have hr := (h.below hb (Nat.le_refl _)).block hl (by omega) hk
  have h3 := (rd_corner (h.below hb (Nat.le_refl _)) hl hn hk).2.2
  rw [he] at hr h3
  have r2 : W.rangeAt b (o + k * 18) [.int .i32 X, .int .i32 Y] := fun q v hq => hr q v (by
    rw [bvs, List.getElem?_append_left (by exact (List.getElem?_eq_some_iff.1 hq).1)]
    exact hq)
  refine ⟨rowAt_vals r2, ?_⟩
  have := rowAt_vals h3
  rwa [List.length_map, hM] at this
end Go.Proofs.Ythicgmdkipgkaaa
