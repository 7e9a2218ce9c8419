/- Slices of cells in the laws: copied, compared, marked. -/
import Derived.Test.YthicgmdkipgkaaaRows
import Derived.Test.YthicgmdkipgkaaaCj
import Derived.Deep.RegionLaw
namespace Go.Proofs.Ythicgmdkipgkaaa
open Go.ChangeShapes Go.WideShapes Go.ChangeAt Go.RowKit
def mkC32 (x : Int) : Int := wrap32 x
theorem szInt32A2S_in (A : Option Addr) (n c : Nat) (left : Int) (h : n ≤ left) (h2 : left ≤ 1048576) (w : World) :
    Calls Try.prog 21 #[.slice A n c, .int .i64 left] w fun e w' => e = .returned (.int .i64 (left - n)) ∧ w = w' := by
  go_enter Try.func21, Try.ntmps21
  go_wp2
  go_ret
  exact ⟨rfl, rfl⟩
theorem szInt32A2S_out (A : Option Addr) (n c : Nat) (left : Int) (h : left < n) (hn : n ≤ 9223372036854775807) (h0 : 0 ≤ left) (h2 : left ≤ 1048576) (w : World) :
    Calls Try.prog 21 #[.slice A n c, .int .i64 left] w fun e w' => e = .returned (.int .i64 (-1)) ∧ w = w' := by
  go_enter Try.func21, Try.ntmps21
  go_wp2
  go_ret
  exact ⟨rfl, rfl⟩
set_option maxHeartbeats 400000 in
theorem toInt32A2_any (L : List Int) (hL : L.length = 2) (w : World) :
    Calls Try.prog 58 #[.agg (ivs .i32 L)] w fun e w' => e = .returned (.agg (ivs .i32 L)) ∧ Below w.heap.size w w' := by
  go_enter Try.func58, Try.ntmps58
  go_wp2
  go_loopw [4] (fun i wr => ∃ k : Nat, k ≤ 2 ∧ i = .int .i64 k ∧ Blk wr w.heap.size 42 (ivs .i32 L) ∧ Blk wr (w.heap.size + 1) 42 (ivs .i32 (List.replicate 2 0)) ∧ Blk wr (w.heap.size + 1 + 1) 42 (ivs .i32 (L.take k ++ List.replicate (2 - k) 0)) ∧ wr.heap.size = w.heap.size + 1 + 1 + 1 ∧ Below w.heap.size w wr) (fun i _ => 2 - (intOf i).toNat)
  case atStart =>
    exact ⟨0, by omega, rfl, ((Blk.newAt rfl rfl).alloc _).alloc _, (Blk.newAt (by simp) rfl).alloc _, Blk.newAt (by simp) rfl, by simp, (((Below.refl _ _).alloc (Nat.le_refl _) _).alloc (by simp) _).alloc (by simp; omega) _⟩
  case round =>
    obtain ⟨k, hk, rfl, h1, h2, h3, hz, hb⟩ := hrel
    by_cases hlt : k < 2
    · have c1 := h1.cellI (i := k) (by omega)
      have c3 := h3.cellI (i := k) (by simp; omega)
      have f3 := h3.frozen k
      go_wp2
      go_roundw
      case rel =>
        refine ⟨k + 1, by omega, by go_num, h1.far (by simp; omega) _, h2.far (by simp) _, ?_, ?_, ?_⟩
        · rw [← fill_step hL hlt]; exact h3.setI _ _
        · rw [size_setCell]; exact hz
        · exact hb.setCell (by simp; omega) _
      case measure => simp [intOf]; omega
    · have : k = 2 := by omega
      subst this
      rw [fill_end hL] at h3
      go_wp2_with (first
        | refine wpList_load_row rfl _ _ rfl (w.heap.size + 1 + 1) rfl 42 (ivs .i32 L) (0, 0) _ h3 Try.underlying42 rfl (by rw [ivs_size, hL]; exact size42) ?_
        | refine wpList_store_row rfl _ _ _ rfl (w.heap.size + 1) (ivs .i32 L) rfl rfl 42 _ h2 (by rw [ivs_size, hL]; exact size42) (by simp [ivs_size, hL]) ivs_one ?_)
      exact bodyPost_ret (results_cell_row rfl _ _ (w.heap.size + 1) 42 (ivs .i32 L) (0, 0) _ rfl (h2.row _) Try.underlying42 rfl (by rw [ivs_size, hL]; exact size42)) rfl ⟨rfl, below_setRow hb (by omega) _⟩
set_option maxHeartbeats 400000 in
theorem eqInt32A2_same (L : List Int) (hL : L.length = 2) (w : World) :
    Calls Try.prog 61 #[.agg (ivs .i32 L), .agg (ivs .i32 L)] w fun e w' => e = .returned (.bool true) ∧ Below w.heap.size w w' := by
  go_enter Try.func61, Try.ntmps61
  go_wp2_with fail
  go_loopw [5] (fun i wr => ∃ k : Nat, k ≤ 2 ∧ i = .int .i64 k ∧ Blk wr w.heap.size 42 (ivs .i32 L) ∧ Blk wr (w.heap.size + 1) 42 (ivs .i32 L) ∧ Below w.heap.size w wr) (fun i _ => 2 - (intOf i).toNat)
  case atStart =>
    exact ⟨0, by omega, rfl, (Blk.newAt rfl rfl).alloc _, Blk.newAt (by simp) rfl, ((Below.refl _ _).alloc (Nat.le_refl _) _).alloc (by simp) _⟩
  case round =>
    obtain ⟨k, hk, rfl, h1, h2, hb⟩ := hrel
    by_cases hlt : k < 2
    · have c1 := h1.cellI (i := k) (by omega)
      have c2 := h2.cellI (i := k) (by omega)
      go_wp2
      go_quiet (fail)
      go_wp2
      go_roundw
      case rel => exact ⟨k + 1, by omega, by go_num, h1.drewN _, h2.drewN _, below_drewN hb _⟩
      case measure => simp [intOf]; omega
    · go_wp2
      go_ret
      exact ⟨rfl, hb⟩
set_option maxHeartbeats 800000 in
theorem toInt32A2S_any (A : Option Addr) (n c : Nat) (l : List (List Int)) (hl : l.length = n) (hrow : Rows_ 2 l) (hn : n ≤ 1048576) (w : World) (hR : Rd w w.heap.size 2 A n (l.flatten.map (.int .i32))) :
    Calls Try.prog 23 #[.slice A n c] w fun e w' => e = .returned (.slice (some ⟨w.heap.size, 0, none⟩) n n) ∧ Blk w' w.heap.size 42 (ivs .i32 l.flatten) ∧ Below w.heap.size w w' := by
  obtain ⟨i0, hi, hz0, hz1, hz2⟩ := info_parts Pair_info
  have hmk := run_make_rows (P := Try.prog) (kd := .i32) (sz := 2) Try.underlying34 hi hz0 hz1 n (by rw [hz2]; omega) (by omega)
  have hi1 : (Try.prog.info? 42).map (·.size) = some 2 := by kernel_rfl
  have hi2 : (Try.prog.info? 42).map (·.size) = some 2 := by kernel_rfl
  go_enter Try.func23, Try.ntmps23
  go_wp2
  go_loopw [4] (fun i wr => ∃ k : Nat, k ≤ n ∧ i = .int .i64 k ∧ Blk wr w.heap.size 42 (ivs .i32 ((l.take k).flatten ++ List.replicate ((n - k) * 2) 0)) ∧ Below w.heap.size w wr) (fun i _ => n - (intOf i).toNat)
  case atStart =>
    exact ⟨0, by omega, rfl, Blk.newAt rfl (by simp), (Below.refl _ _).alloc (Nat.le_refl _) _⟩
  case round =>
    clear hmk
    obtain ⟨k, hk, rfl, h3, hb⟩ := hrel
    by_cases hlt : k < n
    · obtain ⟨b, o, rfl, hbB, hc⟩ := (hR.below hb (Nat.le_refl _)).at_ (by omega)
      have hrg : wr.rangeAt b (o + k * 2) ((l[k]'(by omega)).map (.int .i32)) := by
        have := Rd.rangeAt (i := k * 2) (s := 2) hc
        rw [← List.map_drop, ← List.map_take, flat_row hrow (by omega)] at this
        exact this
      have hlk : (l[k]'(by omega)).length = 2 := hrow.at_ _
      obtain ⟨F, hF⟩ : ∃ F, F = l[k]'(by omega) := ⟨_, rfl⟩
      rw [← hF] at hrg hlk
      have HF := Lib.hid hF
      have Hl := Lib.hid hlk
      have Hrg := Lib.hid hrg
      have HbB := Lib.hid hbB
      have h3lt := h3.lt
      have H3lt := Lib.hid h3lt
      have hkn : (k : Int) < (n : Int) := by omega
      have hk0 : (0 : Int) ≤ (k : Int) := Int.natCast_nonneg _
      clear hc hR hrg hlk hF hbB h3lt
      go_wp2_with (refine wpList_load_mid rfl _ _ rfl b (o + k * 2) (by rfl) (F.map (.int .i32)) _ Hrg.out Try.underlying42 rfl (by rw [List.length_map, Hl.out]; exact hi1) ?_)
      refine (toInt32A2_any F Hl.out _).mono ?_
      rintro e w2 ⟨rfl, hb2⟩
      have k3 := h3.below hb2 H3lt.out
      have kb := hb.trans (hb2.mono (Nat.le_of_lt H3lt.out))
      have hth := k3.there (k * 2) 2 (by rw [ivs_size, List.length_append, flat_length (hrow.take k), List.length_replicate, List.length_take, Nat.min_eq_left (by omega)]; omega)
      have Hth := Lib.hid hth
      clear hb2 h3 hb hth
      go_wp2_with (refine wpList_store_mid rfl _ _ _ rfl w.heap.size (k * 2) (ivs .i32 F) (by first | rfl | (simp; done)) rfl (by rw [ivs_size, Hl.out]; exact Hth.out) (by rw [ivs_size, Hl.out]; exact hi2) ivs_one ?_)
      refine ⟨⟨k + 1, by omega, by go_num, ?_, by rw [ivs_toList]; exact below_setCells (Nat.le_refl _) _ _ kb⟩, by simp [intOf]; omega⟩
      rw [ivs_toList, ← fill_rows hrow hl hlt]
      have hk3 := Blk.setCellsI F (k * 2) k3 (by rw [Hl.out, List.length_append, flat_length (hrow.take k), List.length_replicate, List.length_take, Nat.min_eq_left (by omega)]; omega)
      rw [HF.out] at hk3 ⊢
      exact hk3
    · have : k = n := by omega
      subst this
      have hfin : (l.take k).flatten ++ List.replicate ((k - k) * 2) 0 = l.flatten := by rw [← hl]; simp
      rw [hfin] at h3
      go_wp2
      go_ret
      exact ⟨rfl, h3, hb⟩

theorem exec_loadPair (ρ : Operand → Value) (dst : Option Tmp) (x : Operand) (t : TypeId) (pos : String) (after : Array Edge) (guard : Option (Nat × Bool)) :
    execOp ρ { dst := dst, op := .load 42 x, type := t, pos := pos, after := after, guard := guard } = ldRow 42 (ρ x) := rfl
theorem run_ldPair : ∀ (W : World) (g o : Nat), hasRow W g o 2 = true → (ldRow 42 (.pointer (some ⟨g, o, none⟩))).run Try.prog W = .ok (.value (.agg (rowAt W g o 2))) W := run_ldRow Try.underlying42 rfl (by kernel_rfl)
section
attribute [local go_sem ↓] exec_loadPair
attribute [local go_sem] run_ldPair
set_option maxHeartbeats 1600000 in
theorem eqInt32A2S_same (A A' : Option Addr) (n c c' : Nat) (l : List (List Int)) (hl : l.length = n) (hrow : Rows_ 2 l) (hn : n ≤ 100000000) (w : World) (hR : Rd w w.heap.size 2 A n (l.flatten.map (.int .i32))) (hR' : Rd w w.heap.size 2 A' n (l.flatten.map (.int .i32))) :
    Calls Try.prog 25 #[.slice A n c, .slice A' n c'] w fun e w' => e = .returned (.bool true) ∧ Below w.heap.size w w' := by
  go_enter Try.func25, Try.ntmps25
  go_wp2
  go_loopw [5] (fun i wr => ∃ k : Nat, k ≤ n ∧ i = .int .i64 k ∧ Below w.heap.size w wr) (fun i _ => n - (intOf i).toNat)
  case atStart => exact ⟨0, by omega, rfl, Below.refl _ _⟩
  case round =>
    obtain ⟨k, hk, rfl, hb⟩ := hrel
    by_cases hlt : k < n
    · obtain ⟨b, o, rfl, hbB, hc⟩ := (hR.below hb (Nat.le_refl _)).at_ (by omega)
      obtain ⟨b', o', rfl, hbB', hc'⟩ := (hR'.below hb (Nat.le_refl _)).at_ (by omega)
      have hlk : (l[k]'(by omega)).length = 2 := hrow.at_ _
      have r1 := rowAt_rd hc hrow (k := k) (by omega)
      have r2 := rowAt_rd hc' hrow (k := k) (by omega)
      obtain ⟨r1, r3⟩ := (rowAt_drew wr _ _ _).trans r1.1 |> fun h => (And.intro h ((hasRow_drew wr _ _ _).trans r1.2))
      obtain ⟨r2, r4⟩ := (rowAt_drew wr _ _ _).trans r2.1 |> fun h => (And.intro h ((hasRow_drew wr _ _ _).trans r2.2))
      obtain ⟨F, hF⟩ : ∃ F, F = l[k]'(by omega) := ⟨_, rfl⟩
      rw [← hF] at r1 r2 hlk
      have Hl := Lib.hid hlk
      have HR := Lib.hid hR
      have HR' := Lib.hid hR'
      have hz := hb.size
      have hi0 : (0 : Int) ≤ (k : Int) := Int.natCast_nonneg _
      have hi1 : (k : Int) < (n : Int) := by omega
      clear hc hR hbB hc' hR' hbB' hF hlk
      go_wp2_with fail
      go_region_law (go_simp; go_at_call 61; refine (eqInt32A2_same F Hl.out _).mono ?_; rintro e w2 ⟨rfl, hb2⟩)
      all_goals
        go_wp2
        exact ⟨⟨k + 1, by omega, by go_num, (below_drew hb).trans (hb2.mono hz)⟩, by simp [intOf]; omega⟩
    · have : k = n := by omega
      subst this
      go_wp2
      go_ret
      exact ⟨rfl, hb⟩
end

set_option maxHeartbeats 1600000 in
theorem markInt32A2S_any (lo hi : Nat) (A : Option Addr) (n c : Nat) (xs : List Value) (k : Int) (h0 : 0 ≤ k) (h1 : k ≤ 4611686018427387904) (hn : n ≤ 100000000) (w : World) (hO : Own w lo hi 42 2 A n c xs) :
    Calls Try.prog 26 #[.slice A n c, .int .i64 k] w fun e w' => e = .returned (.int .i64 (k + ((n * 2 : Nat) : Int))) ∧ Own w' lo hi 42 2 A n c (marks .i32 mkC32 k (n * 2)) ∧ w.grownBy w' (A.map (·.block)) := by
  by_cases hz : n = 0
  · subst hz
    have hx : xs = [] := List.eq_nil_of_length_eq_zero (by have := hO.1; omega)
    subst hx
    go_enter Try.func26, Try.ntmps26
    go_wp2_with fail
    go_loopw [1, 5, 6] (fun q i _ wr => q = .int .i64 k ∧ i = .int .i64 0 ∧ wr = w) (fun _ _ _ _ => 0)
    case atStart => exact ⟨rfl, rfl, rfl⟩
    case round =>
      obtain ⟨rfl, rfl, rfl⟩ := hrel
      go_wp2
      go_ret
      exact ⟨ret_int (by simp), by simpa [marks] using hO, World.grownBy.refl _ _⟩
  · obtain ⟨g, cur, rfl, hg1, hg2, hb, hnc, hcm, hcs, hxs⟩ := hO.at_ (by omega)
    have hm : Marked w g 42 (c * 2) .i32 mkC32 k 0 := Marked.start hb hcs
    clear hb hcs hxs hO
    go_enter Try.func26, Try.ntmps26
    go_wp2_with fail
    go_loopw [1, 5, 6] (fun q i _ wr => ∃ j : Nat, j ≤ n ∧ q = .int .i64 (k + ((j * 2 : Nat) : Int)) ∧ i = .int .i64 j ∧ Marked wr g 42 (c * 2) .i32 mkC32 k (j * 2) ∧ w.grownBy wr (some g)) (fun _ i _ _ => n - (intOf i).toNat)
    case atStart => exact ⟨0, by omega, by simp, rfl, by simpa using hm, World.grownBy.refl _ _⟩
    case round =>
      clear hm
      obtain ⟨j, hj, rfl, rfl, hm, hg⟩ := hrel
      by_cases hlt : j < n
      · go_wp2_with fail
        obtain ⟨wo, rfl⟩ : ∃ wo : World, wo = wr := ⟨_, rfl⟩
        go_loopw [1, 6] (fun q i wq => ∃ m : Nat, m ≤ 2 ∧ q = .int .i64 (k + ((j * 2 + m : Nat) : Int)) ∧ i = .int .i64 m ∧ Marked wq g 42 (c * 2) .i32 mkC32 k (j * 2 + m) ∧ w.grownBy wq (some g)) (fun _ i _ => 2 - (intOf i).toNat)
        case atStart => exact ⟨0, by omega, rfl, rfl, hm, hg⟩
        case round =>
          clear hm hg
          obtain ⟨m, hmm, rfl, rfl, hm, hg⟩ := hrel
          by_cases hlt2 : m < 2
          · obtain ⟨⟨u, c1⟩, f1⟩ := hm.cell (i := j * 2 + m) (by omega)
            have hs := hm.step (by omega)
            have HS := Lib.hid hs
            have hin : (j : Int) < (n : Int) := by omega
            clear hs hm
            go_wp2
            exact ⟨⟨m + 1, by omega, by congr 1; omega, by go_num, HS.out, only_setCell hg rfl _⟩, by simp [intOf]; omega⟩
          · have : m = 2 := by omega
            subst this
            go_wp2
            exact ⟨⟨j + 1, by omega, by congr 1; omega, by go_num, by rw [Nat.add_mul, Nat.one_mul]; exact hm, hg⟩, by simp [intOf]; omega⟩
      · have : j = n := by omega
        subst this
        go_wp2
        go_ret
        exact ⟨rfl, Marked.own hm hg1 hg2 hnc hcm, hg⟩

set_option maxHeartbeats 1600000 in
theorem heldInt32A2S_any (A : Option Addr) (n c : Nat) (k : Int) (h0 : 0 ≤ k) (h1 : k ≤ 4611686018427387904) (hn : n ≤ 100000000) (w : World) (hR : Rd w w.heap.size 2 A n (marks .i32 mkC32 k (n * 2))) :
    Calls Try.prog 34 #[.slice A n c, .int .i64 k] w fun e w' => e = .returned (.int .i64 (k + ((n * 2 : Nat) : Int))) ∧ w = w' := by
  go_enter Try.func34, Try.ntmps34
  go_wp2_with fail
  go_loop [1, 5, 6] (fun q i _ => ∃ j : Nat, j ≤ n ∧ q = .int .i64 (k + ((j * 2 : Nat) : Int)) ∧ i = .int .i64 j) (fun _ i _ => n - (intOf i).toNat)
  case atStart => exact ⟨0, by omega, by simp, rfl⟩
  case round =>
    obtain ⟨j, hj, rfl, rfl⟩ := hrel
    by_cases hlt : j < n
    · obtain ⟨b, o, rfl, hbB, hc⟩ := hR.at_ (by omega)
      have Hc := Lib.hid hc
      clear hc hR hbB
      go_wp2_with fail
      go_loop [1, 6] (fun q i => ∃ m : Nat, m ≤ 2 ∧ q = .int .i64 (k + ((j * 2 + m : Nat) : Int)) ∧ i = .int .i64 m) (fun _ i => 2 - (intOf i).toNat)
      case atStart => exact ⟨0, by omega, rfl, rfl⟩
      case round =>
        obtain ⟨m, hmm, rfl, rfl⟩ := hrel
        by_cases hlt2 : m < 2
        · have c1 := Hc.out (j * 2 + m) _ (marks_at (by omega))
          rw [← Nat.add_assoc] at c1
          unfold mkC32 at c1
          have hin : (j : Int) < (n : Int) := by omega
          go_wp2
          exact ⟨⟨m + 1, by omega, by congr 1; omega, by go_num⟩, by simp [intOf]; omega⟩
        · have : m = 2 := by omega
          subst this
          go_wp2
          exact ⟨⟨j + 1, by omega, by congr 1; omega, by go_num⟩, by simp [intOf]; omega⟩
    · have : j = n := by omega
      subst this
      go_wp2
      go_ret
      exact ⟨rfl, rfl⟩
end Go.Proofs.Ythicgmdkipgkaaa
