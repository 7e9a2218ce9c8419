/- Slices of frames in the laws: copied, compared, marked. -/
import Derived.Test.YtmagaapdijapiaaRows
import Derived.Test.YtmagaapdijapiaaFrA
import Derived.Test.YtmagaapdijapiaaLd
import Derived.Deep.RegionLaw
namespace Go.Proofs.Ytmagaapdijapiaa
open Go.ChangeShapes Go.WideShapes Go.ChangeAt Go.RowKit

theorem Frame_info : (Try.prog.info? 87).map (fun i => (i.zero, i.size, i.bytes)) = some (some (.agg #[.int .u8 0, .int .u8 0, .int .u8 0, .int .u8 0, .int .u8 0, .int .u8 0, .int .u8 0, .int .u8 0, .int .u8 0, .int .u8 0, .int .u8 0, .int .u8 0, .int .u8 0, .int .u8 0, .int .u8 0, .int .u8 0]), 16, 16) := by kernel_rfl
def mkFrame (x : Int) : Int := x % 256

set_option maxHeartbeats 800000 in
theorem toFrameS_any (A : Option Addr) (n c : Nat) (l : List (List Int)) (hl : l.length = n) (hrow : Rows_ 16 l) (hn : n ≤ 1048576) (w : World) (hR : Rd w w.heap.size 16 A n (l.flatten.map (.int .u8))) :
    Calls Try.prog 18 #[.slice A n c] w fun e w' => e = .returned (.slice (some ⟨w.heap.size, 0, none⟩) n n) ∧ Blk w' w.heap.size 87 (ivs .u8 l.flatten) ∧ Below w.heap.size w w' := by
  obtain ⟨i0, hi, hz0, hz1, hz2⟩ := info_parts Frame_info
  have hmk := run_make_rows (P := Try.prog) (kd := .u8) (sz := 16) Try.underlying24 hi hz0 hz1 n (by rw [hz2]; omega) (by omega)
  have hi1 : (Try.prog.info? 86).map (·.size) = some 16 := by kernel_rfl
  have hi2 : (Try.prog.info? 87).map (·.size) = some 16 := by kernel_rfl
  go_enter Try.func18, Try.ntmps18
  go_wp2
  go_loopw [4] (fun i wr => ∃ k : Nat, k ≤ n ∧ i = .int .i64 k ∧ Blk wr w.heap.size 87 (ivs .u8 ((l.take k).flatten ++ List.replicate ((n - k) * 16) 0)) ∧ Below w.heap.size w wr) (fun i _ => n - (intOf i).toNat)
  case atStart =>
    exact ⟨0, by omega, rfl, Blk.newAt rfl (by simp), (Below.refl _ _).alloc (Nat.le_refl _) _⟩
  case round =>
    clear hmk
    obtain ⟨k, hk, rfl, h3, hb⟩ := hrel
    by_cases hlt : k < n
    · obtain ⟨b, o, rfl, hbB, hc⟩ := (hR.below hb (Nat.le_refl _)).at_ (by omega)
      have hrg : wr.rangeAt b (o + k * 16) ((l[k]'(by omega)).map (.int .u8)) := by
        have := Rd.rangeAt (i := k * 16) (s := 16) hc
        rw [← List.map_drop, ← List.map_take, flat_row hrow (by omega)] at this
        exact this
      have hlk : (l[k]'(by omega)).length = 16 := hrow.at_ _
      obtain ⟨F, hF⟩ : ∃ F, F = l[k]'(by omega) := ⟨_, rfl⟩
      rw [← hF] at hrg hlk
      have HF := Lib.hid hF
      have Hl := Lib.hid hlk
      have Hrg := Lib.hid hrg
      have HbB := Lib.hid hbB
      have h3lt := h3.lt
      have H3lt := Lib.hid h3lt
      have hkn : (k : Int) < (n : Int) := by omega
      have hk0 : (0 : Int) ≤ (k : Int) := Int.natCast_nonneg _
      clear hc hR hrg hlk hF hbB h3lt
      go_wp2_with (refine wpList_load_mid rfl _ _ rfl b (o + k * 16) (by rfl) (F.map (.int .u8)) _ Hrg.out Try.underlying86 rfl (by rw [List.length_map, Hl.out]; exact hi1) ?_)
      refine (toFrame_any F Hl.out _).mono ?_
      rintro e w2 ⟨rfl, hb2⟩
      have k3 := h3.below hb2 H3lt.out
      have kb := hb.trans (hb2.mono (Nat.le_of_lt H3lt.out))
      have hth := k3.there (k * 16) 16 (by rw [ivs_size, List.length_append, flat_length (hrow.take k), List.length_replicate, List.length_take, Nat.min_eq_left (by omega)]; omega)
      have Hth := Lib.hid hth
      clear hb2 h3 hb hth
      go_wp2_with (refine wpList_store_mid rfl _ _ _ rfl w.heap.size (k * 16) (ivs .u8 F) (by first | rfl | (simp; done)) rfl (by rw [ivs_size, Hl.out]; exact Hth.out) (by rw [ivs_size, Hl.out]; exact hi2) ivs_one ?_)
      refine ⟨⟨k + 1, by omega, by go_num, ?_, by rw [ivs_toList]; exact below_setCells (Nat.le_refl _) _ _ kb⟩, by simp [intOf]; omega⟩
      rw [ivs_toList, ← fill_rows hrow hl hlt]
      have hk3 := Blk.setCellsI F (k * 16) k3 (by rw [Hl.out, List.length_append, flat_length (hrow.take k), List.length_replicate, List.length_take, Nat.min_eq_left (by omega)]; omega)
      rw [HF.out] at hk3 ⊢
      exact hk3
    · have : k = n := by omega
      subst this
      have hfin : (l.take k).flatten ++ List.replicate ((k - k) * 16) 0 = l.flatten := by rw [← hl]; simp
      rw [hfin] at h3
      go_wp2
      go_ret
      exact ⟨rfl, h3, hb⟩

theorem exec_loadFrame (ρ : Operand → Value) (dst : Option Tmp) (x : Operand) (t : TypeId) (pos : String) (after : Array Edge) (guard : Option (Nat × Bool)) :
    execOp ρ { dst := dst, op := .load 87 x, type := t, pos := pos, after := after, guard := guard } = ldRow 87 (ρ x) := rfl
theorem run_ldFrame : ∀ (W : World) (g o : Nat), hasRow W g o 16 = true → (ldRow 87 (.pointer (some ⟨g, o, none⟩))).run Try.prog W = .ok (.value (.agg (rowAt W g o 16))) W := run_ldRow Try.underlying87 rfl (by kernel_rfl)
section
attribute [local go_sem ↓] exec_loadFrame
attribute [local go_sem] run_ldFrame
set_option maxHeartbeats 1600000 in
theorem eqFrameS_same (A A' : Option Addr) (n c c' : Nat) (l : List (List Int)) (hl : l.length = n) (hrow : Rows_ 16 l) (hn : n ≤ 100000000) (w : World) (hR : Rd w w.heap.size 16 A n (l.flatten.map (.int .u8))) (hR' : Rd w w.heap.size 16 A' n (l.flatten.map (.int .u8))) :
    Calls Try.prog 11 #[.slice A n c, .slice A' n c'] w fun e w' => e = .returned (.bool true) ∧ Below w.heap.size w w' := by
  go_enter Try.func11, Try.ntmps11
  go_wp2
  go_loopw [5] (fun i wr => ∃ k : Nat, k ≤ n ∧ i = .int .i64 k ∧ Below w.heap.size w wr) (fun i _ => n - (intOf i).toNat)
  case atStart => exact ⟨0, by omega, rfl, Below.refl _ _⟩
  case round =>
    obtain ⟨k, hk, rfl, hb⟩ := hrel
    by_cases hlt : k < n
    · obtain ⟨b, o, rfl, hbB, hc⟩ := (hR.below hb (Nat.le_refl _)).at_ (by omega)
      obtain ⟨b', o', rfl, hbB', hc'⟩ := (hR'.below hb (Nat.le_refl _)).at_ (by omega)
      have hlk : (l[k]'(by omega)).length = 16 := hrow.at_ _
      have r1 := rowAt_rd hc hrow (k := k) (by omega)
      have r2 := rowAt_rd hc' hrow (k := k) (by omega)
      obtain ⟨r1, r3⟩ := (rowAt_drew wr _ _ _).trans r1.1 |> fun h => (And.intro h ((hasRow_drew wr _ _ _).trans r1.2))
      obtain ⟨r2, r4⟩ := (rowAt_drew wr _ _ _).trans r2.1 |> fun h => (And.intro h ((hasRow_drew wr _ _ _).trans r2.2))
      obtain ⟨F, hF⟩ : ∃ F, F = l[k]'(by omega) := ⟨_, rfl⟩
      rw [← hF] at r1 r2 hlk
      have Hl := Lib.hid hlk
      have HR := Lib.hid hR
      have HR' := Lib.hid hR'
      have hz := hb.size
      have hi0 : (0 : Int) ≤ (k : Int) := Int.natCast_nonneg _
      have hi1 : (k : Int) < (n : Int) := by omega
      clear hc hR hbB hc' hR' hbB' hF hlk
      go_wp2_with fail
      go_region_law (go_simp; go_at_call 50; refine (eqFrame_same F Hl.out _).mono ?_; rintro e w2 ⟨rfl, hb2⟩)
      all_goals
        go_wp2
        exact ⟨⟨k + 1, by omega, by go_num, (below_drew hb).trans (hb2.mono hz)⟩, by simp [intOf]; omega⟩
    · have : k = n := by omega
      subst this
      go_wp2
      go_ret
      exact ⟨rfl, hb⟩
end

set_option maxHeartbeats 1600000 in
theorem markFrameS_any (lo hi : Nat) (A : Option Addr) (n c : Nat) (xs : List Value) (k : Int) (h0 : 0 ≤ k) (h1 : k ≤ 4611686018427387904) (hn : n ≤ 100000000) (w : World) (hO : Own w lo hi 87 16 A n c xs) :
    Calls Try.prog 14 #[.slice A n c, .int .i64 k] w fun e w' => e = .returned (.int .i64 (k + ((n * 16 : Nat) : Int))) ∧ Own w' lo hi 87 16 A n c (marks .u8 mkFrame k (n * 16)) ∧ w.grownBy w' (A.map (·.block)) := by
  by_cases hz : n = 0
  · subst hz
    have hx : xs = [] := List.eq_nil_of_length_eq_zero (by have := hO.1; omega)
    subst hx
    go_enter Try.func14, Try.ntmps14
    go_wp2_with fail
    go_loopw [1, 5, 6] (fun q i _ wr => q = .int .i64 k ∧ i = .int .i64 0 ∧ wr = w) (fun _ _ _ _ => 0)
    case atStart => exact ⟨rfl, rfl, rfl⟩
    case round =>
      obtain ⟨rfl, rfl, rfl⟩ := hrel
      go_wp2
      go_ret
      exact ⟨ret_int (by simp), by simpa [marks] using hO, World.grownBy.refl _ _⟩
  · obtain ⟨g, cur, rfl, hg1, hg2, hb, hnc, hcm, hcs, hxs⟩ := hO.at_ (by omega)
    have hm : Marked w g 87 (c * 16) .u8 mkFrame k 0 := Marked.start hb hcs
    clear hb hcs hxs hO
    go_enter Try.func14, Try.ntmps14
    go_wp2_with fail
    go_loopw [1, 5, 6] (fun q i _ wr => ∃ j : Nat, j ≤ n ∧ q = .int .i64 (k + ((j * 16 : Nat) : Int)) ∧ i = .int .i64 j ∧ Marked wr g 87 (c * 16) .u8 mkFrame k (j * 16) ∧ w.grownBy wr (some g)) (fun _ i _ _ => n - (intOf i).toNat)
    case atStart => exact ⟨0, by omega, by simp, rfl, by simpa using hm, World.grownBy.refl _ _⟩
    case round =>
      clear hm
      obtain ⟨j, hj, rfl, rfl, hm, hg⟩ := hrel
      by_cases hlt : j < n
      · go_wp2_with fail
        obtain ⟨wo, rfl⟩ : ∃ wo : World, wo = wr := ⟨_, rfl⟩
        go_loopw [1, 6] (fun q i wq => ∃ m : Nat, m ≤ 16 ∧ q = .int .i64 (k + ((j * 16 + m : Nat) : Int)) ∧ i = .int .i64 m ∧ Marked wq g 87 (c * 16) .u8 mkFrame k (j * 16 + m) ∧ w.grownBy wq (some g)) (fun _ i _ => 16 - (intOf i).toNat)
        case atStart => exact ⟨0, by omega, rfl, rfl, hm, hg⟩
        case round =>
          clear hm hg
          obtain ⟨m, hmm, rfl, rfl, hm, hg⟩ := hrel
          by_cases hlt2 : m < 16
          · obtain ⟨⟨u, c1⟩, f1⟩ := hm.cell (i := j * 16 + m) (by omega)
            have hs := hm.step (by omega)
            have HS := Lib.hid hs
            have hin : (j : Int) < (n : Int) := by omega
            clear hs hm
            go_wp2
            exact ⟨⟨m + 1, by omega, by congr 1; omega, by go_num, HS.out, only_setCell hg rfl _⟩, by simp [intOf]; omega⟩
          · have : m = 16 := by omega
            subst this
            go_wp2
            exact ⟨⟨j + 1, by omega, by congr 1; omega, by go_num, by rw [Nat.add_mul, Nat.one_mul]; exact hm, hg⟩, by simp [intOf]; omega⟩
      · have : j = n := by omega
        subst this
        go_wp2
        go_ret
        exact ⟨rfl, Marked.own hm hg1 hg2 hnc hcm, hg⟩

set_option maxHeartbeats 1600000 in
theorem heldFrameS_any (A : Option Addr) (n c : Nat) (k : Int) (h0 : 0 ≤ k) (h1 : k ≤ 4611686018427387904) (hn : n ≤ 100000000) (w : World) (hR : Rd w w.heap.size 16 A n (marks .u8 mkFrame k (n * 16))) :
    Calls Try.prog 15 #[.slice A n c, .int .i64 k] w fun e w' => e = .returned (.int .i64 (k + ((n * 16 : Nat) : Int))) ∧ w = w' := by
  go_enter Try.func15, Try.ntmps15
  go_wp2_with fail
  go_loop [1, 5, 6] (fun q i _ => ∃ j : Nat, j ≤ n ∧ q = .int .i64 (k + ((j * 16 : Nat) : Int)) ∧ i = .int .i64 j) (fun _ i _ => n - (intOf i).toNat)
  case atStart => exact ⟨0, by omega, by simp, rfl⟩
  case round =>
    obtain ⟨j, hj, rfl, rfl⟩ := hrel
    by_cases hlt : j < n
    · obtain ⟨b, o, rfl, hbB, hc⟩ := hR.at_ (by omega)
      have Hc := Lib.hid hc
      clear hc hR hbB
      go_wp2_with fail
      go_loop [1, 6] (fun q i => ∃ m : Nat, m ≤ 16 ∧ q = .int .i64 (k + ((j * 16 + m : Nat) : Int)) ∧ i = .int .i64 m) (fun _ i => 16 - (intOf i).toNat)
      case atStart => exact ⟨0, by omega, rfl, rfl⟩
      case round =>
        obtain ⟨m, hmm, rfl, rfl⟩ := hrel
        by_cases hlt2 : m < 16
        · have c1 := Hc.out (j * 16 + m) _ (marks_at (by omega))
          rw [← Nat.add_assoc] at c1
          unfold mkFrame at c1
          have hin : (j : Int) < (n : Int) := by omega
          go_wp2
          exact ⟨⟨m + 1, by omega, by congr 1; omega, by go_num⟩, by simp [intOf]; omega⟩
        · have : m = 16 := by omega
          subst this
          go_wp2
          exact ⟨⟨j + 1, by omega, by congr 1; omega, by go_num⟩, by simp [intOf]; omega⟩
    · have : j = n := by omega
      subst this
      go_wp2
      go_ret
      exact ⟨rfl, rfl⟩
end Go.Proofs.Ytmagaapdijapiaa
