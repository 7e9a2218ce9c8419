/- Slices of blocks in the laws: marked, and held against their marks. -/
import Derived.Test.YtmagaapdijapiaaRows
import Derived.Test.YtmagaapdijapiaaCj
namespace Go.Proofs.Ytmagaapdijapiaa
open Go.ChangeShapes Go.WideShapes Go.ChangeAt Go.RowKit
/-- the mark of cell number t of a list of blocks -/
def mkB (k : Int) (t : Nat) : Value := if t % 18 < 2 then .int .i32 (wrap32 (k + t)) else .int .u16 (IntKind.u16.wrap (k + t))
def marksB (k : Int) (m : Nat) : List Value := (List.range m).map (mkB k)
theorem marksB_length (k : Int) (m : Nat) : (marksB k m).length = m := by simp [marksB]
theorem marksB_at {k : Int} {m j : Nat} (h : j < m) : (marksB k m)[j]? = some (mkB k j) := by simp [marksB, List.getElem?_map, List.getElem?_range h]
theorem mkB_corner (k : Int) {i j : Nat} (hj : j < 2) : mkB k (i * 18 + j) = .int .i32 (wrap32 (k + ((i * 18 + j : Nat) : Int))) := by rw [mkB, if_pos (by omega)]
theorem mkB_mask (k : Int) {i j : Nat} (hj : j < 16) : mkB k (i * 18 + 2 + j) = .int .u16 (IntKind.u16.wrap (k + ((i * 18 + 2 + j : Nat) : Int))) := by rw [mkB, if_neg (by omega)]
def MarkedB (w : World) (g sz : Nat) (k : Int) (j : Nat) : Prop := ∃ cur : Array Value, Blk w g 78 cur ∧ cur.size = sz ∧ ∀ i, i < j → cur[i]? = some (mkB k i)
section
variable {w : World} {g sz j : Nat} {k : Int}
theorem MarkedB.step (h : MarkedB w g sz k j) (hj : j < sz) : MarkedB (w.setCell ⟨g, j, none⟩ (mkB k j)) g sz k (j + 1) := by
  obtain ⟨cur, hb, hs, hc⟩ := h
  refine ⟨_, hb.set_ j _, by simp [hs], fun i hi => ?_⟩
  rw [Array.getElem?_setIfInBounds]
  by_cases he : j = i
  · subst he
    rw [if_pos rfl, if_pos (by omega)]
  · rw [if_neg he]
    exact hc i (by omega)
theorem MarkedB.cell (h : MarkedB w g sz k j) {i : Nat} (hi : i < sz) : (∃ u, w.cell? ⟨g, i, none⟩ = some u) ∧ w.frozen? ⟨g, i, none⟩ = false := by
  obtain ⟨cur, hb, hs, hc⟩ := h
  exact ⟨⟨cur[i]'(by omega), by rw [hb.cell]; exact Array.getElem?_eq_getElem (by omega)⟩, hb.frozen i⟩
theorem MarkedB.own {lo hi n c : Nat} (h : MarkedB w g (c * 18) k (n * 18)) (h1 : lo ≤ g) (h2 : g < hi) (h3 : n ≤ c) (h4 : c ≤ maxLen) :
    Own w lo hi 78 18 (some ⟨g, 0, none⟩) n c (marksB k (n * 18)) := by
  obtain ⟨cur, hb, hs, hc⟩ := h
  refine ⟨marksB_length _ _, .inr ⟨g, cur, rfl, h1, h2, hb, h3, h4, hs, ?_⟩⟩
  apply List.ext_getElem?
  intro i
  rw [List.getElem?_take]
  by_cases hi : i < n * 18
  · rw [if_pos hi, marksB_at hi]
    have := hc i hi
    simpa using this
  · rw [if_neg hi, List.getElem?_eq_none (by rw [marksB_length]; omega)]
end
set_option maxRecDepth 20000 in
set_option maxHeartbeats 1600000 in
theorem markBlockS_any (lo hi : Nat) (A : Option Addr) (n c : Nat) (xs : List Value) (k : Int) (h0 : 0 ≤ k) (h1 : k ≤ 4611686018427387904) (hn : n ≤ 100000000) (w : World) (hO : Own w lo hi 78 18 A n c xs) :
    Calls Try.prog 13 #[.slice A n c, .int .i64 k] w fun e w' => e = .returned (.int .i64 (k + ((n * 18 : Nat) : Int))) ∧ Own w' lo hi 78 18 A n c (marksB k (n * 18)) ∧ w.grownBy w' (A.map (·.block)) := by
  by_cases hz : n = 0
  · subst hz
    have hx : xs = [] := List.eq_nil_of_length_eq_zero (by have := hO.1; omega)
    subst hx
    go_enter Try.func13, Try.ntmps13
    go_wp2_with fail
    go_loopw [1, 5] (fun q i wr => q = .int .i64 k ∧ i = .int .i64 0 ∧ wr = w) (fun _ _ _ => 0)
    case atStart => exact ⟨rfl, rfl, rfl⟩
    case round =>
      obtain ⟨rfl, rfl, rfl⟩ := hrel
      go_wp2
      go_ret
      exact ⟨ret_int (by simp), by simpa [marksB] using hO, World.grownBy.refl _ _⟩
  · obtain ⟨g, cur, rfl, hg1, hg2, hb, hnc, hcm, hcs, hxs⟩ := hO.at_ (by omega)
    have hm : MarkedB w g (c * 18) k 0 := ⟨cur, hb, hcs, fun i hi => by omega⟩
    clear hb hcs hxs hO
    go_enter Try.func13, Try.ntmps13
    go_wp2_with fail
    go_loopw [1, 5] (fun q i wr => ∃ j : Nat, j ≤ n ∧ q = .int .i64 (k + ((j * 18 : Nat) : Int)) ∧ i = .int .i64 j ∧ MarkedB wr g (c * 18) k (j * 18) ∧ w.grownBy wr (some g)) (fun _ i _ => n - (intOf i).toNat)
    case atStart => exact ⟨0, by omega, by simp, rfl, by simpa using hm, World.grownBy.refl _ _⟩
    case round =>
      clear hm
      obtain ⟨j, hj, rfl, rfl, hm, hg⟩ := hrel
      by_cases hlt : j < n
      · go_wp2_with fail
        obtain ⟨wo, rfl⟩ : ∃ wo : World, wo = wr := ⟨_, rfl⟩
        go_loopw [1, 6] (fun q i wq => ∃ m : Nat, m ≤ 2 ∧ q = .int .i64 (k + ((j * 18 + m : Nat) : Int)) ∧ i = .int .i64 m ∧ MarkedB wq g (c * 18) k (j * 18 + m) ∧ w.grownBy wq (some g)) (fun _ i _ => 2 - (intOf i).toNat)
        case atStart => exact ⟨0, by omega, rfl, rfl, hm, hg⟩
        case round =>
          clear hm hg
          obtain ⟨m, hmm, rfl, rfl, hm, hg⟩ := hrel
          by_cases hlt2 : m < 2
          · obtain ⟨⟨u, c1⟩, f1⟩ := hm.cell (i := j * 18 + m) (by omega)
            have hs := hm.step (by omega)
            rw [mkB_corner k hlt2] at hs
            have HS := Lib.hid hs
            have hin : (j : Int) < (n : Int) := by omega
            clear hs hm
            go_wp2
            exact ⟨⟨m + 1, by omega, by congr 1; omega, by go_num, HS.out, only_setCell hg rfl _⟩, by simp [intOf]; omega⟩
          · have : m = 2 := by omega
            subst this
            go_wp2_with fail
            obtain ⟨wo2, rfl⟩ : ∃ wo2 : World, wo2 = wr := ⟨_, rfl⟩
            go_loopw [1, 7] (fun q i wq => ∃ m : Nat, m ≤ 16 ∧ q = .int .i64 (k + ((j * 18 + 2 + m : Nat) : Int)) ∧ i = .int .i64 m ∧ MarkedB wq g (c * 18) k (j * 18 + 2 + m) ∧ w.grownBy wq (some g)) (fun _ i _ => 16 - (intOf i).toNat)
            case atStart => exact ⟨0, by omega, rfl, rfl, hm, hg⟩
            case round =>
              clear hm hg
              obtain ⟨m, hmm, rfl, rfl, hm, hg⟩ := hrel
              by_cases hlt3 : m < 16
              · obtain ⟨⟨u, c1⟩, f1⟩ := hm.cell (i := j * 18 + 2 + m) (by omega)
                have hs := hm.step (by omega)
                rw [mkB_mask k hlt3] at hs
                have HS := Lib.hid hs
                have hin : (j : Int) < (n : Int) := by omega
                clear hs hm
                go_wp2
                exact ⟨⟨m + 1, by omega, by congr 1; omega, by go_num, HS.out, only_setCell hg rfl _⟩, by simp [intOf]; omega⟩
              · have : m = 16 := by omega
                subst this
                go_wp2
                exact ⟨⟨j + 1, by omega, by congr 1; omega, by go_num, by rw [Nat.add_mul, Nat.one_mul]; exact hm, hg⟩, by simp [intOf]; omega⟩
      · have : j = n := by omega
        subst this
        go_wp2
        go_ret
        exact ⟨rfl, MarkedB.own hm hg1 hg2 hnc hcm, hg⟩
set_option maxRecDepth 20000 in
set_option maxHeartbeats 1600000 in
theorem heldBlockS_any (A : Option Addr) (n c : Nat) (k : Int) (h0 : 0 ≤ k) (h1 : k ≤ 4611686018427387904) (hn : n ≤ 100000000) (w : World) (hR : Rd w w.heap.size 18 A n (marksB k (n * 18))) :
    Calls Try.prog 20 #[.slice A n c, .int .i64 k] w fun e w' => e = .returned (.int .i64 (k + ((n * 18 : Nat) : Int))) ∧ w = w' := by
  go_enter Try.func20, Try.ntmps20
  go_wp2_with fail
  go_loop [1, 5] (fun q i => ∃ j : Nat, j ≤ n ∧ q = .int .i64 (k + ((j * 18 : Nat) : Int)) ∧ i = .int .i64 j) (fun _ i => n - (intOf i).toNat)
  case atStart => exact ⟨0, by omega, by simp, rfl⟩
  case round =>
    obtain ⟨j, hj, rfl, rfl⟩ := hrel
    by_cases hlt : j < n
    · obtain ⟨b, o, rfl, hbB, hc⟩ := hR.at_ (by omega)
      have Hc := Lib.hid hc
      clear hc hR hbB
      go_wp2_with fail
      go_loop [1, 6] (fun q i => ∃ m : Nat, m ≤ 2 ∧ q = .int .i64 (k + ((j * 18 + m : Nat) : Int)) ∧ i = .int .i64 m) (fun _ i => 2 - (intOf i).toNat)
      case atStart => exact ⟨0, by omega, rfl, rfl⟩
      case round =>
        obtain ⟨m, hmm, rfl, rfl⟩ := hrel
        by_cases hlt2 : m < 2
        · have c1 := Hc.out (j * 18 + m) _ (marksB_at (by omega))
          rw [← Nat.add_assoc, mkB_corner k hlt2] at c1
          have hin : (j : Int) < (n : Int) := by omega
          go_wp2
          exact ⟨⟨m + 1, by omega, by congr 1; omega, by go_num⟩, by simp [intOf]; omega⟩
        · have : m = 2 := by omega
          subst this
          go_wp2_with fail
          go_loop [1, 7] (fun q i => ∃ m : Nat, m ≤ 16 ∧ q = .int .i64 (k + ((j * 18 + 2 + m : Nat) : Int)) ∧ i = .int .i64 m) (fun _ i => 16 - (intOf i).toNat)
          case atStart => exact ⟨0, by omega, rfl, rfl⟩
          case round =>
            obtain ⟨m, hmm, rfl, rfl⟩ := hrel
            by_cases hlt3 : m < 16
            · have c1 := Hc.out (j * 18 + 2 + m) _ (marksB_at (by omega))
              rw [← Nat.add_assoc, ← Nat.add_assoc, mkB_mask k hlt3] at c1
              have hin : (j : Int) < (n : Int) := by omega
              go_wp2
              exact ⟨⟨m + 1, by omega, by congr 1; omega, by go_num⟩, by simp [intOf]; omega⟩
            · have : m = 16 := by omega
              subst this
              go_wp2
              exact ⟨⟨j + 1, by omega, by congr 1; omega, by go_num⟩, by simp [intOf]; omega⟩
    · have : j = n := by omega
      subst this
      go_wp2
      go_ret
      exact ⟨rfl, rfl⟩
end Go.Proofs.Ytmagaapdijapiaa
