/- A picture with a further cell: the reference's walk. -/
import Derived.Test.YthicgmdkipgkaaaDoorRows
import Derived.Test.YthicgmdkipgkaaaDoorAd
import Derived.Test.YthicgmdkipgkaaaDoorTu
namespace Go.Proofs.YthicgmdkipgkaaaDoor
open Go.ChangeShapes Go.WideShapes Go.ChangeAt Go.RowKit
section
attribute [local go_sem ↓] exec_ldCorner exec_ldMask
attribute [local go_sem] run_ldCorner run_ldMask
set_option maxRecDepth 20000 in
set_option maxHeartbeats 6400000 in
theorem l07Put_any (A : Option Addr) (n c : Nat) (L : List Bl) (hL : L.length = n) (hp : Pic L) (hn : n ≤ 1048576) (x y : Int) (hx : -1000000 ≤ x ∧ x ≤ 1000000) (hy : -1000000 ≤ y ∧ y ≤ 1000000) (lo : Nat) (w : World) (hlo : lo ≤ w.heap.size) (hO : Own w lo w.heap.size 50 18 A n c (bcs L)) :
    Calls Tryd.prog 23 #[.slice A n c, .int .i64 x, .int .i64 y] w fun e w' => ∃ A' c' L', e = .returned (.slice A' L'.length c') ∧ (Pic L' ∧ L'.length ≤ n + 1 ∧ ∀ U V, hasB L' U V = (hasB L U V || (decide (U = x) && decide (V = y)))) ∧ Own w' lo w'.heap.size 50 18 A' L'.length c' (bcs L') ∧ Below w.heap.size w w' := by
  subst hL
  obtain ⟨u, hu⟩ : ∃ u : Nat, (u : Int) = x % 16 := ⟨(x % 16).toNat, by omega⟩
  obtain ⟨v, hv⟩ : ∃ v : Nat, (v : Int) = y % 16 := ⟨(y % 16).toNat, by omega⟩
  have hu16 : u < 16 := by omega
  have hv16 : v < 16 := by omega
  have hlx := fun W => l07Low_any x (by omega) W
  have hly := fun W => l07Low_any y (by omega) W
  have hco := fun W => l07Corner_any x y (by omega) (by omega) W
  have hxu : x - 16 * (x / 16) = u := by omega
  have hyv : y - 16 * (y / 16) = v := by omega
  have hXr : -62501 ≤ x / 16 ∧ x / 16 ≤ 62501 := by omega
  have hYr : -62501 ≤ y / 16 ∧ y / 16 ≤ 62501 := by omega
  have hspot : (zr16.set v (2 ^ u)).length = 16 := by rw [List.length_set]; rfl
  have hss2 : ∀ L', Added L [x / 16, y / 16] (zr16.set v (2 ^ u)) L' → (Pic L' ∧ L'.length ≤ L.length + 1 ∧ ∀ U V, hasB L' U V = (hasB L U V || (decide (U = x) && decide (V = y)))) := fun L' h => ⟨h.1, h.2.1, fun U V => has_put hp x y (by
    rw [← hu, ← hv]
    exact h) U V⟩
  have HADD := Lib.hid (fun W (h : lo ≤ W.heap.size) hO => l07Add_own A L.length c L rfl hp hn (x / 16) (y / 16) (zr16.set v (2 ^ u)) hspot (spot_16 hu16) lo W h hO)
  have HSS := Lib.hid hss2
  have HSP := Lib.hid hspot
  have hp16 := pow_16 hu16
  have hwp : IntKind.u16.wrap (2 ^ u) = 2 ^ u := by rw [IntKind.wrap_u16]; omega
  have HLX := Lib.hid hlx
  have HLY := Lib.hid hly
  have HCO := Lib.hid hco
  have HOW := Lib.hid hO
  obtain ⟨X, hX⟩ : ∃ X, X = x / 16 := ⟨_, rfl⟩
  obtain ⟨Y, hY⟩ : ∃ Y, Y = y / 16 := ⟨_, rfl⟩
  rw [← hX] at hxu hXr HLX HCO HADD HSS
  rw [← hY] at hyv hYr HLY HCO HADD HSS
  have hXa := hXr.1
  have hXb := hXr.2
  have hYa := hYr.1
  have hYb := hYr.2
  have hx2 := hx.1
  have hx3 := hx.2
  have hy2 := hy.1
  have hy3 := hy.2
  have huI : (u : Int) < 16 := by omega
  have hu0 : (0 : Int) ≤ u := by omega
  have hvI : (v : Int) < 16 := by omega
  have hv0 : (0 : Int) ≤ v := by omega
  clear hX hY hu hv hss2 hlx hly hco hspot hXr hYr hp16 hO hp hx hy
  go_enter Tryd.func23, Tryd.ntmps23
  go_wp2_with (first
    | (go_at_call_of 45 (Value.int .i64 x); refine (HLX.out _).mono ?_; rintro e w1 ⟨rfl, rfl⟩)
    | (go_at_call_of 45 (Value.int .i64 y); refine (HLY.out _).mono ?_; rintro e w1 ⟨rfl, rfl⟩)
    | (refine wpList_store_row rfl _ _ _ rfl w.heap.size (ivs .u16 zr16) rfl rfl 48 (ivs .u16 zr16) (Blk.newAt rfl rfl) (by exact size48) rfl ivs_one ?_; generalize hw5 : World.setRow _ _ _ = w5; have G5 : Hid (Blk w5 w.heap.size 48 (ivs .u16 zr16)) := Lib.hid (by rw [← hw5]; exact (Blk.newAt rfl rfl).row _); have B5 : Hid (Below w.heap.size w w5) := Lib.hid (by rw [← hw5]; exact below_setRow ((Below.refl _ _).alloc (Nat.le_refl _) _) (g := w.heap.size) (Nat.le_refl _) _); have c5 : w5.cell? ⟨w.heap.size, v, none⟩ = some (.int .u16 (zr16.getD v 0)) := G5.out.getAtG (i := v) (by exact hv16); have f5 := G5.out.frozen v; clear hw5))
  have g6 : Blk (w5.setCell ⟨w.heap.size, v, none⟩ (.int .u16 (2 ^ u))) w.heap.size 48 (ivs .u16 (zr16.set v (2 ^ u))) := G5.out.setI v _
  have b6 : Below w.heap.size w (w5.setCell ⟨w.heap.size, v, none⟩ (.int .u16 (2 ^ u))) := B5.out.setCell (p := ⟨w.heap.size, v, none⟩) (Nat.le_refl _) _
  generalize w5.setCell ⟨w.heap.size, v, none⟩ (.int .u16 (2 ^ u)) = w6 at *
  have G6 := Lib.hid g6.drew
  have B6 := Lib.hid (below_drew b6)
  have O6 := Lib.hid ((HOW.out.below (below_drew b6) (Nat.le_refl _)).more (below_drew b6).size)
  clear g6 b6 c5 f5
  generalize zr16.set v (2 ^ u) = S at *
  have r1 := G6.out.rowAt_eq HSP.out
  have r2 := G6.out.hasRow_eq HSP.out
  go_region_law (first
    | (go_simp; go_at_call 44; refine (HCO.out _).mono ?_; rintro e w7 ⟨rfl, b7⟩; have B7 := Lib.hid (B6.out.trans (b7.mono B6.out.size)); have O7 := Lib.hid ((O6.out.below b7 (Nat.le_refl _)).more b7.size); have q1 := (G6.out.below b7 G6.out.lt).rowAt_eq HSP.out; have q2 := (G6.out.below b7 G6.out.lt).hasRow_eq HSP.out; clear b7)
    | (go_simp; go_at_call 38; refine (HADD.out _ (by have h2 := B7.out.size; omega) O7.out).mono ?_; rintro e w8 ⟨A8, c8, L8, rfl, ha8, o8, b8⟩; have HA8 := Lib.hid (HSS.out L8 ha8); have HO8 := Lib.hid o8; have HB8 := Lib.hid (B7.out.trans (b8.mono B7.out.size)); clear ha8 o8 b8))
  all_goals
    go_wp2
    go_ret
    exact ⟨A8, c8, L8, rfl, HA8.out, HO8.out, HB8.out⟩
end
theorem l07Beside_any (dx dy : Int) (hx : -1 ≤ dx ∧ dx ≤ 1) (hy : -1 ≤ dy ∧ dy ≤ 1) (cn : Bool) (w : World) :
    Calls Tryd.prog 61 #[.int .i64 dx, .int .i64 dy, .bool cn] w fun e w' => e = .returned (.bool (adjB cn dx dy)) ∧ w = w' := by
  have hx1 : dx = -1 ∨ dx = 0 ∨ dx = 1 := by omega
  have hy1 : dy = -1 ∨ dy = 0 ∨ dy = 1 := by omega
  clear hx hy
  rcases hx1 with rfl | rfl | rfl <;> rcases hy1 with rfl | rfl | rfl <;> cases cn
  all_goals
    go_enter Tryd.func61, Tryd.ntmps61
    go_wp2
    go_ret
    exact ⟨rfl, rfl⟩
end Go.Proofs.YthicgmdkipgkaaaDoor
