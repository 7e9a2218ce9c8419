/- Corners compared; a list looked through by a function. -/
import Derived.Test.YtmagaapdijapiaaDoorRows
import Derived.Test.YtmagaapdijapiaaDoorCe
import Derived.Deep.RegionWith
import Derived.Deep.RegionLaw
import Derived.StillTailTactics
namespace Go.Proofs.YtmagaapdijapiaaDoor
open Go.ChangeShapes Go.WideShapes Go.ChangeAt Go.RowKit
theorem still_tail {P : Program} {id : Nat} {Q : Exit → Act → World → Prop} {a : Act} {w : World} {l : List Oper} (n : Nat) (hm : P.follows .mixedOrders = true) (hB : Region.lexTailB .any l.toArray n = true)
    (h : wpStill P l.toArray w.drew (fun a' => wpList P l.toArray Q (l.drop n) a' w.drew) (l.take n) a) : (Code.region id l.toArray true).wp P Q a w := wp_region_still_tail n hm hB h
theorem two_eq {A : List Int} (h : A.length = 2) : A = [A.getD 0 0, A.getD 1 0] := by
  match A, h with
  | [a, b], _ => rfl
set_option maxHeartbeats 800000 in
theorem orI_any (g c : Nat) (a b : Int) (w : World) (h : Blk w g 3 (ivs .i64 [a, b])) :
    Calls Tryd.prog 80 #[.slice (some ⟨g, 0, none⟩) 2 c] w fun e w' => e = .returned (.int .i64 (orI a b)) ∧ w = w' := by
  have c0 : w.cell? ⟨g, 0, none⟩ = some (.int .i64 a) := h.cell 0
  have c1 : w.cell? ⟨g, 1, none⟩ = some (.int .i64 b) := h.cell 1
  clear h
  have ho : orI a b = if a = 0 then b else a := rfl
  rw [ho]
  go_enter Tryd.func80, Tryd.ntmps80
  go_wp2
  go_loopw [8] (fun i wr => ∃ k : Nat, k ≤ 2 ∧ i = .int .i64 k ∧ (1 ≤ k → a = 0) ∧ (2 ≤ k → b = 0) ∧ wr = w) (fun i _ => 2 - (intOf i).toNat)
  case atStart => exact ⟨0, by omega, rfl, by omega, by omega, rfl⟩
  case round =>
    obtain ⟨k, hk, rfl, h1, h2, rfl⟩ := hrel
    have hcs : k = 0 ∨ k = 1 ∨ k = 2 := by omega
    rcases hcs with rfl | rfl | rfl
    · by_cases ha : a = 0
      · subst ha
        go_wp2
        exact ⟨⟨1, by omega, by go_num, by simp, by omega, by simp⟩, by simp [intOf]⟩
      · go_wp2
        go_ret
        exact ⟨by simp, rfl⟩
    · have ha := h1 (by omega)
      subst ha
      by_cases hb : b = 0
      · subst hb
        go_wp2
        exact ⟨⟨2, by omega, by go_num, by simp, by simp, by simp⟩, by simp [intOf]⟩
      · go_wp2
        go_ret
        exact ⟨by simp, rfl⟩
    · have ha := h1 (by omega)
      have hb := h2 (by omega)
      subst ha hb
      go_wp2
      go_ret
      exact ⟨by simp, rfl⟩
def cmpC (a0 a1 b0 b1 : Int) : Int := orI (cmpI a1 b1) (cmpI a0 b0)
set_option maxRecDepth 20000 in
set_option maxHeartbeats 1600000 in
theorem compareCorners_any (a0 a1 b0 b1 : Int) (w : World) :
    Calls Tryd.prog 67 #[.agg #[.int .i32 a0, .int .i32 a1], .agg #[.int .i32 b0, .int .i32 b1]] w fun e w' => e = .returned (.int .i64 (cmpC a0 a1 b0 b1)) ∧ Below w.heap.size w w' := by
  have h1 := fun W => cmpI_any a1 b1 W
  have h0 := fun W => cmpI_any a0 b0 W
  have hc : cmpC a0 a1 b0 b1 = orI (cmpI a1 b1) (cmpI a0 b0) := rfl
  have bW : Below w.heap.size w ((w.alloc (.cells #[.int .i32 a0, .int .i32 a1] 63)).alloc (.cells #[.int .i32 b0, .int .i32 b1] 63)) := ((Below.refl _ _).alloc (Nat.le_refl _) _).alloc (by simp) _
  have BW := Lib.hid bW
  rw [hc]
  generalize cmpI a1 b1 = x at *
  generalize cmpI a0 b0 = y at *
  have ho := fun g c W h => orI_any g c x y W h
  generalize orI x y = z at *
  clear bW hc
  go_enter Tryd.func67, Tryd.ntmps67
  have s1 : ∀ W, Calls Tryd.prog 81 #[.int .i32 a1, .int .i32 b1] W fun e W' => e = .returned (.int .i64 x) ∧ W' = W := fun W => (h1 W).mono (by rintro _ _ ⟨rfl, rfl⟩; exact ⟨rfl, rfl⟩)
  have s0 : ∀ W, Calls Tryd.prog 81 #[.int .i32 a0, .int .i32 b0] W fun e W' => e = .returned (.int .i64 y) ∧ W' = W := fun W => (h0 W).mono (by rintro _ _ ⟨rfl, rfl⟩; exact ⟨rfl, rfl⟩)
  have k0 : Blk ((w.alloc (.cells #[.int .i32 a0, .int .i32 a1] 63)).alloc (.cells #[.int .i32 b0, .int .i32 b1] 63)) w.heap.size 63 #[.int .i32 a0, .int .i32 a1] := (Blk.newAt rfl rfl).alloc _
  have k1 : Blk ((w.alloc (.cells #[.int .i32 a0, .int .i32 a1] 63)).alloc (.cells #[.int .i32 b0, .int .i32 b1] 63)) (w.heap.size + 1) 63 #[.int .i32 b0, .int .i32 b1] := Blk.newAt (by simp) rfl
  have K := Lib.hid (And.intro (k0.drew) (And.intro k1.drew (below_drew BW.out)))
  clear k0 k1 BW
  go_wp2_with fail
  refine still_tail 10 (by kernel_rfl) (by kernel_rfl) ?_
  generalize World.drew _ = w2 at *
  have c00 : w2.cell? ⟨w.heap.size, 0, none⟩ = some (.int .i32 a0) := K.out.1.cell 0
  have c01 : w2.cell? ⟨w.heap.size, 1, none⟩ = some (.int .i32 a1) := K.out.1.cell 1
  have c10 : w2.cell? ⟨w.heap.size + 1, 0, none⟩ = some (.int .i32 b0) := K.out.2.1.cell 0
  have c11 : w2.cell? ⟨w.heap.size + 1, 1, none⟩ = some (.int .i32 b1) := K.out.2.1.cell 1
  simp only [List.take_succ_cons, List.take_zero, List.drop_succ_cons, List.drop_zero]
  repeat still_step
  still_call (s1 _)
  repeat still_step
  still_call (s0 _)
  repeat still_step
  refine wpStill_nil ?_
  go_wp2_with (go_at_call 80; refine (ho _ _ _ (Blk.newAt rfl rfl)).mono ?_; rintro e w1 ⟨rfl, rfl⟩)
  go_ret
  exact ⟨rfl, K.out.2.2.alloc K.out.2.2.size _⟩
set_option maxHeartbeats 800000 in
theorem vp1_any (x y : Int) (hx : -2147483648 ≤ x ∧ x ≤ 2147483647) (hy : -2147483648 ≤ y ∧ y ≤ 2147483647) (w : World) :
    Calls Tryd.prog 71 #[.agg #[.int .i32 x, .int .i32 y]] w fun e w' => e = .returned (.bool (!cellB x y)) ∧ Below w.heap.size w w' := by
  have h1 := fun W => isCell_any x y W
  generalize cellB x y = b at *
  go_enter Tryd.func71, Tryd.ntmps71
  go_wp2_with (go_at_call 47; refine (h1 _).mono ?_; rintro e w1 ⟨rfl, rfl⟩)
  go_ret
  exact ⟨rfl, (Below.refl _ _).alloc (Nat.le_refl _) _⟩
end Go.Proofs.YtmagaapdijapiaaDoor
