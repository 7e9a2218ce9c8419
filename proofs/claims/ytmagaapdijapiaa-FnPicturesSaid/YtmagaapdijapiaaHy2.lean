/- Sf, Sb, Ud, Ua, FrB, Ub, Na, Ya, Yd, Gm, Gp, Gt in one text. -/
import Derived.Test.YtmagaapdijapiaaRows
import Derived.Test.YtmagaapdijapiaaHy1
import Derived.Test.YtmagaapdijapiaaLd
import Derived.Deep.RegionLaw
import Derived.Test.YtmagaapdijapiaaSl
import Derived.Test.YtmagaapdijapiaaEqA
import Derived.Deep.QuietTactic
import Derived.BigQuiet
import Derived.Laws.BytesArg
import Derived.Lib.EndianBits
import Derived.Test.YtmagaapdijapiaaInr
import Derived.Lib.SlBytesConst
import Derived.ArgAppend
import Derived.Deep.RegionHeld3
import Derived.Deep.Cut
import Derived.Laws.Bits64b
import Derived.Test.YtmagaapdijapiaaTr
import Derived.Test.YtmagaapdijapiaaBm
import Derived.Deep.RegionWith
import Derived.Deep.CutRange
import Derived.Deep.CutBlock
import Derived.Test.YtmagaapdijapiaaAd
import Derived.Test.YtmagaapdijapiaaBn
import Derived.Test.YtmagaapdijapiaaMq
import Derived.Laws.StructEq
namespace Go.Proofs.Ytmagaapdijapiaa
open Go.ChangeShapes Go.WideShapes Go.ChangeAt Go.RowKit

theorem Frame_info : (Try.prog.info? 87).map (fun i => (i.zero, i.size, i.bytes)) = some (some (.agg #[.int .u8 0, .int .u8 0, .int .u8 0, .int .u8 0, .int .u8 0, .int .u8 0, .int .u8 0, .int .u8 0, .int .u8 0, .int .u8 0, .int .u8 0, .int .u8 0, .int .u8 0, .int .u8 0, .int .u8 0, .int .u8 0]), 16, 16) := by kernel_rfl
def mkFrame (x : Int) : Int := x % 256

set_option maxHeartbeats 800000 in
theorem toFrameS_any (A : Option Addr) (n c : Nat) (l : List (List Int)) (hl : l.length = n) (hrow : Rows_ 16 l) (hn : n ≤ 1048576) (w : World) (hR : Rd w w.heap.size 16 A n (l.flatten.map (.int .u8))) :
    Calls Try.prog 18 #[.slice A n c] w fun e w' => e = .returned (.slice (some ⟨w.heap.size, 0, none⟩) n n) ∧ Blk w' w.heap.size 87 (ivs .u8 l.flatten) ∧ Below w.heap.size w w' := by
  obtain ⟨i0, hi, hz0, hz1, hz2⟩ := info_parts Frame_info
  have hmk := run_make_rows (P := Try.prog) (kd := .u8) (sz := 16) Try.underlying24 hi hz0 hz1 n (by rw [hz2]; omega) (by omega)
  have hi1 : (Try.prog.info? 86).map (·.size) = some 16 := by kernel_rfl
  have hi2 : (Try.prog.info? 87).map (·.size) = some 16 := by kernel_rfl
  go_enter Try.func18, Try.ntmps18
  go_wp2
  go_loopw [4] (fun i wr => ∃ k : Nat, k ≤ n ∧ i = .int .i64 k ∧ Blk wr w.heap.size 87 (ivs .u8 ((l.take k).flatten ++ List.replicate ((n - k) * 16) 0)) ∧ Below w.heap.size w wr) (fun i _ => n - (intOf i).toNat)
  case atStart =>
    exact ⟨0, by omega, rfl, Blk.newAt rfl (by simp), (Below.refl _ _).alloc (Nat.le_refl _) _⟩
  case round =>
    clear hmk
    obtain ⟨k, hk, rfl, h3, hb⟩ := hrel
    by_cases hlt : k < n
    · obtain ⟨b, o, rfl, hbB, hc⟩ := (hR.below hb (Nat.le_refl _)).at_ (by omega)
      have hrg : wr.rangeAt b (o + k * 16) ((l[k]'(by omega)).map (.int .u8)) := by
        have := Rd.rangeAt (i := k * 16) (s := 16) hc
        rw [← List.map_drop, ← List.map_take, flat_row hrow (by omega)] at this
        exact this
      have hlk : (l[k]'(by omega)).length = 16 := hrow.at_ _
      obtain ⟨F, hF⟩ : ∃ F, F = l[k]'(by omega) := ⟨_, rfl⟩
      rw [← hF] at hrg hlk
      have HF := Lib.hid hF
      have Hl := Lib.hid hlk
      have Hrg := Lib.hid hrg
      have HbB := Lib.hid hbB
      have h3lt := h3.lt
      have H3lt := Lib.hid h3lt
      have hkn : (k : Int) < (n : Int) := by omega
      have hk0 : (0 : Int) ≤ (k : Int) := Int.natCast_nonneg _
      clear hc hR hrg hlk hF hbB h3lt
      go_wp2_with (refine wpList_load_mid rfl _ _ rfl b (o + k * 16) (by rfl) (F.map (.int .u8)) _ Hrg.out Try.underlying86 rfl (by rw [List.length_map, Hl.out]; exact hi1) ?_)
      refine (toFrame_any F Hl.out _).mono ?_
      rintro e w2 ⟨rfl, hb2⟩
      have k3 := h3.below hb2 H3lt.out
      have kb := hb.trans (hb2.mono (Nat.le_of_lt H3lt.out))
      have hth := k3.there (k * 16) 16 (by rw [ivs_size, List.length_append, flat_length (hrow.take k), List.length_replicate, List.length_take, Nat.min_eq_left (by omega)]; omega)
      have Hth := Lib.hid hth
      clear hb2 h3 hb hth
      go_wp2_with (refine wpList_store_mid rfl _ _ _ rfl w.heap.size (k * 16) (ivs .u8 F) (by first | rfl | (simp; done)) rfl (by rw [ivs_size, Hl.out]; exact Hth.out) (by rw [ivs_size, Hl.out]; exact hi2) ivs_one ?_)
      refine ⟨⟨k + 1, by omega, by go_num, ?_, by rw [ivs_toList]; exact below_setCells (Nat.le_refl _) _ _ kb⟩, by simp [intOf]; omega⟩
      rw [ivs_toList, ← fill_rows hrow hl hlt]
      have hk3 := Blk.setCellsI F (k * 16) k3 (by rw [Hl.out, List.length_append, flat_length (hrow.take k), List.length_replicate, List.length_take, Nat.min_eq_left (by omega)]; omega)
      rw [HF.out] at hk3 ⊢
      exact hk3
    · have : k = n := by omega
      subst this
      have hfin : (l.take k).flatten ++ List.replicate ((k - k) * 16) 0 = l.flatten := by rw [← hl]; simp
      rw [hfin] at h3
      go_wp2
      go_ret
      exact ⟨rfl, h3, hb⟩

theorem exec_loadFrame (ρ : Operand → Value) (dst : Option Tmp) (x : Operand) (t : TypeId) (pos : String) (after : Array Edge) (guard : Option (Nat × Bool)) :
    execOp ρ { dst := dst, op := .load 87 x, type := t, pos := pos, after := after, guard := guard } = ldRow 87 (ρ x) := rfl
theorem run_ldFrame : ∀ (W : World) (g o : Nat), hasRow W g o 16 = true → (ldRow 87 (.pointer (some ⟨g, o, none⟩))).run Try.prog W = .ok (.value (.agg (rowAt W g o 16))) W := run_ldRow Try.underlying87 rfl (by kernel_rfl)
section
attribute [local go_sem ↓] exec_loadFrame
attribute [local go_sem] run_ldFrame
set_option maxHeartbeats 1600000 in
theorem eqFrameS_same (A A' : Option Addr) (n c c' : Nat) (l : List (List Int)) (hl : l.length = n) (hrow : Rows_ 16 l) (hn : n ≤ 100000000) (w : World) (hR : Rd w w.heap.size 16 A n (l.flatten.map (.int .u8))) (hR' : Rd w w.heap.size 16 A' n (l.flatten.map (.int .u8))) :
    Calls Try.prog 11 #[.slice A n c, .slice A' n c'] w fun e w' => e = .returned (.bool true) ∧ Below w.heap.size w w' := by
  go_enter Try.func11, Try.ntmps11
  go_wp2
  go_loopw [5] (fun i wr => ∃ k : Nat, k ≤ n ∧ i = .int .i64 k ∧ Below w.heap.size w wr) (fun i _ => n - (intOf i).toNat)
  case atStart => exact ⟨0, by omega, rfl, Below.refl _ _⟩
  case round =>
    obtain ⟨k, hk, rfl, hb⟩ := hrel
    by_cases hlt : k < n
    · obtain ⟨b, o, rfl, hbB, hc⟩ := (hR.below hb (Nat.le_refl _)).at_ (by omega)
      obtain ⟨b', o', rfl, hbB', hc'⟩ := (hR'.below hb (Nat.le_refl _)).at_ (by omega)
      have hlk : (l[k]'(by omega)).length = 16 := hrow.at_ _
      have r1 := rowAt_rd hc hrow (k := k) (by omega)
      have r2 := rowAt_rd hc' hrow (k := k) (by omega)
      obtain ⟨r1, r3⟩ := (rowAt_drew wr _ _ _).trans r1.1 |> fun h => (And.intro h ((hasRow_drew wr _ _ _).trans r1.2))
      obtain ⟨r2, r4⟩ := (rowAt_drew wr _ _ _).trans r2.1 |> fun h => (And.intro h ((hasRow_drew wr _ _ _).trans r2.2))
      obtain ⟨F, hF⟩ : ∃ F, F = l[k]'(by omega) := ⟨_, rfl⟩
      rw [← hF] at r1 r2 hlk
      have Hl := Lib.hid hlk
      have HR := Lib.hid hR
      have HR' := Lib.hid hR'
      have hz := hb.size
      have hi0 : (0 : Int) ≤ (k : Int) := Int.natCast_nonneg _
      have hi1 : (k : Int) < (n : Int) := by omega
      clear hc hR hbB hc' hR' hbB' hF hlk
      go_wp2_with fail
      go_region_law (go_simp; go_at_call 50; refine (eqFrame_same F Hl.out _).mono ?_; rintro e w2 ⟨rfl, hb2⟩)
      all_goals
        go_wp2
        exact ⟨⟨k + 1, by omega, by go_num, (below_drew hb).trans (hb2.mono hz)⟩, by simp [intOf]; omega⟩
    · have : k = n := by omega
      subst this
      go_wp2
      go_ret
      exact ⟨rfl, hb⟩
end

set_option maxHeartbeats 1600000 in
theorem markFrameS_any (lo hi : Nat) (A : Option Addr) (n c : Nat) (xs : List Value) (k : Int) (h0 : 0 ≤ k) (h1 : k ≤ 4611686018427387904) (hn : n ≤ 100000000) (w : World) (hO : Own w lo hi 87 16 A n c xs) :
    Calls Try.prog 14 #[.slice A n c, .int .i64 k] w fun e w' => e = .returned (.int .i64 (k + ((n * 16 : Nat) : Int))) ∧ Own w' lo hi 87 16 A n c (marks .u8 mkFrame k (n * 16)) ∧ w.grownBy w' (A.map (·.block)) := by
  by_cases hz : n = 0
  · subst hz
    have hx : xs = [] := List.eq_nil_of_length_eq_zero (by have := hO.1; omega)
    subst hx
    go_enter Try.func14, Try.ntmps14
    go_wp2_with fail
    go_loopw [1, 5, 6] (fun q i _ wr => q = .int .i64 k ∧ i = .int .i64 0 ∧ wr = w) (fun _ _ _ _ => 0)
    case atStart => exact ⟨rfl, rfl, rfl⟩
    case round =>
      obtain ⟨rfl, rfl, rfl⟩ := hrel
      go_wp2
      go_ret
      exact ⟨ret_int (by simp), by simpa [marks] using hO, World.grownBy.refl _ _⟩
  · obtain ⟨g, cur, rfl, hg1, hg2, hb, hnc, hcm, hcs, hxs⟩ := hO.at_ (by omega)
    have hm : Marked w g 87 (c * 16) .u8 mkFrame k 0 := Marked.start hb hcs
    clear hb hcs hxs hO
    go_enter Try.func14, Try.ntmps14
    go_wp2_with fail
    go_loopw [1, 5, 6] (fun q i _ wr => ∃ j : Nat, j ≤ n ∧ q = .int .i64 (k + ((j * 16 : Nat) : Int)) ∧ i = .int .i64 j ∧ Marked wr g 87 (c * 16) .u8 mkFrame k (j * 16) ∧ w.grownBy wr (some g)) (fun _ i _ _ => n - (intOf i).toNat)
    case atStart => exact ⟨0, by omega, by simp, rfl, by simpa using hm, World.grownBy.refl _ _⟩
    case round =>
      clear hm
      obtain ⟨j, hj, rfl, rfl, hm, hg⟩ := hrel
      by_cases hlt : j < n
      · go_wp2_with fail
        obtain ⟨wo, rfl⟩ : ∃ wo : World, wo = wr := ⟨_, rfl⟩
        go_loopw [1, 6] (fun q i wq => ∃ m : Nat, m ≤ 16 ∧ q = .int .i64 (k + ((j * 16 + m : Nat) : Int)) ∧ i = .int .i64 m ∧ Marked wq g 87 (c * 16) .u8 mkFrame k (j * 16 + m) ∧ w.grownBy wq (some g)) (fun _ i _ => 16 - (intOf i).toNat)
        case atStart => exact ⟨0, by omega, rfl, rfl, hm, hg⟩
        case round =>
          clear hm hg
          obtain ⟨m, hmm, rfl, rfl, hm, hg⟩ := hrel
          by_cases hlt2 : m < 16
          · obtain ⟨⟨u, c1⟩, f1⟩ := hm.cell (i := j * 16 + m) (by omega)
            have hs := hm.step (by omega)
            have HS := Lib.hid hs
            have hin : (j : Int) < (n : Int) := by omega
            clear hs hm
            go_wp2
            exact ⟨⟨m + 1, by omega, by congr 1; omega, by go_num, HS.out, only_setCell hg rfl _⟩, by simp [intOf]; omega⟩
          · have : m = 16 := by omega
            subst this
            go_wp2
            exact ⟨⟨j + 1, by omega, by congr 1; omega, by go_num, by rw [Nat.add_mul, Nat.one_mul]; exact hm, hg⟩, by simp [intOf]; omega⟩
      · have : j = n := by omega
        subst this
        go_wp2
        go_ret
        exact ⟨rfl, Marked.own hm hg1 hg2 hnc hcm, hg⟩

set_option maxHeartbeats 1600000 in
theorem heldFrameS_any (A : Option Addr) (n c : Nat) (k : Int) (h0 : 0 ≤ k) (h1 : k ≤ 4611686018427387904) (hn : n ≤ 100000000) (w : World) (hR : Rd w w.heap.size 16 A n (marks .u8 mkFrame k (n * 16))) :
    Calls Try.prog 15 #[.slice A n c, .int .i64 k] w fun e w' => e = .returned (.int .i64 (k + ((n * 16 : Nat) : Int))) ∧ w = w' := by
  go_enter Try.func15, Try.ntmps15
  go_wp2_with fail
  go_loop [1, 5, 6] (fun q i _ => ∃ j : Nat, j ≤ n ∧ q = .int .i64 (k + ((j * 16 : Nat) : Int)) ∧ i = .int .i64 j) (fun _ i _ => n - (intOf i).toNat)
  case atStart => exact ⟨0, by omega, by simp, rfl⟩
  case round =>
    obtain ⟨j, hj, rfl, rfl⟩ := hrel
    by_cases hlt : j < n
    · obtain ⟨b, o, rfl, hbB, hc⟩ := hR.at_ (by omega)
      have Hc := Lib.hid hc
      clear hc hR hbB
      go_wp2_with fail
      go_loop [1, 6] (fun q i => ∃ m : Nat, m ≤ 16 ∧ q = .int .i64 (k + ((j * 16 + m : Nat) : Int)) ∧ i = .int .i64 m) (fun _ i => 16 - (intOf i).toNat)
      case atStart => exact ⟨0, by omega, rfl, rfl⟩
      case round =>
        obtain ⟨m, hmm, rfl, rfl⟩ := hrel
        by_cases hlt2 : m < 16
        · have c1 := Hc.out (j * 16 + m) _ (marks_at (by omega))
          rw [← Nat.add_assoc] at c1
          unfold mkFrame at c1
          have hin : (j : Int) < (n : Int) := by omega
          go_wp2
          exact ⟨⟨m + 1, by omega, by congr 1; omega, by go_num⟩, by simp [intOf]; omega⟩
        · have : m = 16 := by omega
          subst this
          go_wp2
          exact ⟨⟨j + 1, by omega, by congr 1; omega, by go_num⟩, by simp [intOf]; omega⟩
    · have : j = n := by omega
      subst this
      go_wp2
      go_ret
      exact ⟨rfl, rfl⟩
end Go.Proofs.Ytmagaapdijapiaa
namespace Go.Proofs.Ytmagaapdijapiaa
open Go.ChangeShapes Go.WideShapes Go.ChangeAt Go.RowKit

theorem Byte_info : (Try.prog.info? 5).map (fun i => (i.zero, i.size, i.bytes)) = some (some (.int .u8 0), 1, 1) := by kernel_rfl

def mkByte (x : Int) : Int := x % 256
theorem Int64_info : (Try.prog.info? 2).map (fun i => (i.zero, i.size, i.bytes)) = some (some (.int .i64 0), 1, 8) := by kernel_rfl

def mkInt64 (x : Int) : Int := x
end Go.Proofs.Ytmagaapdijapiaa
namespace Go.Proofs.Ytmagaapdijapiaa
open Go.ChangeShapes Go.WideShapes Go.ChangeAt Go.RowKit

theorem rowAt_drewN (W : World) (m g o n : Nat) : rowAt (W.drewN m) g o n = rowAt W g o n := rfl
theorem hasRow_drewN (W : World) (m g o n : Nat) : hasRow (W.drewN m) g o n = hasRow W g o n := rfl
theorem beq_of_takes {α : Type} [BEq α] [LawfulBEq α] {a b : List α} {n : Nat} (ha : a.length = n) (hb : b.length = n) (h : a.take n = b.take n) : (a == b) = true := by
  rw [List.take_of_length_le (by omega), List.take_of_length_le (by omega)] at h
  subst h
  exact beq_self_eq_true _
theorem bne_of_at {α : Type} [BEq α] [LawfulBEq α] {a b : List α} {k : Nat} (ha : k < a.length) (hb : k < b.length) (h : a[k] ≠ b[k]) : (a == b) = false := by
  rw [beq_eq_false_iff_ne]
  rintro rfl
  exact h rfl
theorem take_eq_succ {α : Type} {a b : List α} {k : Nat} (ha : k < a.length) (hb : k < b.length) (h : a.take k = b.take k) (he : a[k] = b[k]) : a.take (k + 1) = b.take (k + 1) := by
  rw [List.take_succ_eq_append_getElem ha, List.take_succ_eq_append_getElem hb, h, he]

section
attribute [local go_sem ↓] exec_loadFrame
attribute [local go_sem] run_ldFrame rowAt_drewN hasRow_drewN
set_option maxRecDepth 20000 in
set_option maxHeartbeats 1600000 in
theorem l09Same_any (A A' : Option Addr) (n n' c c' : Nat) (l l' : List (List Int)) (hl : l.length = n) (hl' : l'.length = n') (hrow : Rows_ 16 l) (hrow' : Rows_ 16 l') (hn : n ≤ 100000000) (w : World) (hR : Rd w w.heap.size 16 A n (l.flatten.map (.int .u8))) (hR' : Rd w w.heap.size 16 A' n' (l'.flatten.map (.int .u8))) :
    Calls Try.prog 55 #[.slice A n c, .slice A' n' c'] w fun e w' => e = .returned (.bool (l == l')) ∧ Below w.heap.size w w' := by
  obtain ⟨i0, hi0, -, -, -⟩ := info_parts Byte_info
  by_cases hnn : n = n'
  · subst hnn
    have HR := Lib.hid hR
    have HR' := Lib.hid hR'
    have Hl := Lib.hid hl
    have Hl' := Lib.hid hl'
    clear hR hR' hl hl'
    go_enter Try.func55, Try.ntmps55
    go_wp2
    go_loopw [5] (fun i wr => ∃ k : Nat, k ≤ n ∧ i = .int .i64 k ∧ Hid (l.take k = l'.take k) ∧ Below w.heap.size w wr) (fun i _ => n - (intOf i).toNat)
    case atStart => exact ⟨0, by omega, rfl, Lib.hid (by simp), Below.refl _ _⟩
    case round =>
      obtain ⟨k, hk, rfl, htk, hb⟩ := hrel
      by_cases hlt : k < n
      · obtain ⟨b, o, rfl, hbB, hc⟩ := (HR.out.below hb (Nat.le_refl _)).at_ (by omega)
        obtain ⟨b', o', rfl, hbB', hc'⟩ := (HR'.out.below hb (Nat.le_refl _)).at_ (by omega)
        have hkl : k < l.length := by rw [Hl.out]; exact hlt
        have hkl' : k < l'.length := by rw [Hl'.out]; exact hlt
        obtain ⟨r1, r3⟩ := rowAt_rd hc hrow hkl
        obtain ⟨r2, r4⟩ := rowAt_rd hc' hrow' hkl'
        have hF : (l[k]).length = 16 := hrow.at_ _
        have hF' : (l'[k]).length = 16 := hrow'.at_ _
        have heq : ∀ W : World, (Op.equalIn 10000 87 (.agg (ivs .u8 l[k])) (.agg (ivs .u8 l'[k]))).run Try.prog W = .ok (l[k] == l'[k]) W := fun W => run_eql_arr W Try.underlying87 Try.underlying5 hi0 (by kernel_rfl) hF hF'
        by_cases he : l[k] = l'[k]
        · have htk2 := Lib.hid (take_eq_succ hkl hkl' htk.out he)
          rw [show (l[k] == l'[k]) = true from by rw [he]; exact beq_self_eq_true _] at heq
          obtain ⟨F, hF1⟩ : ∃ F, F = l[k] := ⟨_, rfl⟩
          obtain ⟨F', hF1'⟩ : ∃ F, F = l'[k] := ⟨_, rfl⟩
          rw [← hF1] at r1 heq
          rw [← hF1'] at r2 heq
          have hi1 : (k : Int) < (n : Int) := by omega
          clear hc hbB hc' hbB' hF1 hF1' hF hF' he hkl hkl' htk
          go_wp2_with fail
          go_quiet (fail)
          go_wp2
          exact ⟨⟨k + 1, by omega, by go_num, htk2, below_drewN hb _⟩, by simp [intOf]; omega⟩
        · have hfin := Lib.hid (bne_of_at hkl hkl' he)
          rw [show (l[k] == l'[k]) = false from beq_eq_false_iff_ne.2 he] at heq
          obtain ⟨F, hF1⟩ : ∃ F, F = l[k] := ⟨_, rfl⟩
          obtain ⟨F', hF1'⟩ : ∃ F, F = l'[k] := ⟨_, rfl⟩
          rw [← hF1] at r1 heq
          rw [← hF1'] at r2 heq
          have hi1 : (k : Int) < (n : Int) := by omega
          clear hc hbB hc' hbB' hF1 hF1' hF hF' he hkl hkl' htk
          go_wp2_with fail
          go_quiet (fail)
          go_wp2
          go_ret
          exact ⟨by rw [hfin.out]; rfl, below_drewN hb _⟩
      · have : k = n := by omega
        subst this
        have hfin := Lib.hid (beq_of_takes Hl.out Hl'.out htk.out)
        clear htk
        go_wp2
        go_ret
        exact ⟨by rw [hfin.out]; rfl, hb⟩
  · have hne : (l == l') = false := by
      rw [beq_eq_false_iff_ne]
      rintro rfl
      exact hnn (hl.symm.trans hl')
    rw [hne]
    clear hne hl hl' hR hR'
    go_enter Try.func55, Try.ntmps55
    go_wp2
    go_ret
    exact ⟨rfl, Below.refl _ _⟩

set_option maxRecDepth 20000 in
set_option maxHeartbeats 1600000 in
theorem equalFs_any (A A' : Option Addr) (n n' c c' : Nat) (l l' : List (List Int)) (hl : l.length = n) (hl' : l'.length = n') (hrow : Rows_ 16 l) (hrow' : Rows_ 16 l') (hn : n ≤ 100000000) (w : World) (hR : Rd w w.heap.size 16 A n (l.flatten.map (.int .u8))) (hR' : Rd w w.heap.size 16 A' n' (l'.flatten.map (.int .u8))) :
    Calls Try.prog 105 #[.slice A n c, .slice A' n' c'] w fun e w' => e = .returned (.bool (l == l')) ∧ Below w.heap.size w w' := by
  obtain ⟨i0, hi0, -, -, -⟩ := info_parts Byte_info
  by_cases hnn : n = n'
  · subst hnn
    have HR := Lib.hid hR
    have HR' := Lib.hid hR'
    have Hl := Lib.hid hl
    have Hl' := Lib.hid hl'
    clear hR hR' hl hl'
    go_enter Try.func105, Try.ntmps105
    go_wp2
    go_loopw [5, 13] (fun _ i wr => ∃ k : Nat, k ≤ n ∧ i = .int .i64 k ∧ Hid (l.take k = l'.take k) ∧ Below w.heap.size w wr) (fun _ i _ => n - (intOf i).toNat)
    case atStart => exact ⟨0, by omega, rfl, Lib.hid (by simp), Below.refl _ _⟩
    case round =>
      obtain ⟨k, hk, rfl, htk, hb⟩ := hrel
      by_cases hlt : k < n
      · obtain ⟨b, o, rfl, hbB, hc⟩ := (HR.out.below hb (Nat.le_refl _)).at_ (by omega)
        obtain ⟨b', o', rfl, hbB', hc'⟩ := (HR'.out.below hb (Nat.le_refl _)).at_ (by omega)
        have hkl : k < l.length := by rw [Hl.out]; exact hlt
        have hkl' : k < l'.length := by rw [Hl'.out]; exact hlt
        obtain ⟨r1, r3⟩ := rowAt_rd hc hrow hkl
        obtain ⟨r2, r4⟩ := rowAt_rd hc' hrow' hkl'
        have hF : (l[k]).length = 16 := hrow.at_ _
        have hF' : (l'[k]).length = 16 := hrow'.at_ _
        have heq : ∀ W : World, (Op.equalIn 10000 87 (.agg (ivs .u8 l[k])) (.agg (ivs .u8 l'[k]))).run Try.prog W = .ok (l[k] == l'[k]) W := fun W => run_eql_arr W Try.underlying87 Try.underlying5 hi0 (by kernel_rfl) hF hF'
        by_cases he : l[k] = l'[k]
        · have htk2 := Lib.hid (take_eq_succ hkl hkl' htk.out he)
          rw [show (l[k] == l'[k]) = true from by rw [he]; exact beq_self_eq_true _] at heq
          obtain ⟨F, hF1⟩ : ∃ F, F = l[k] := ⟨_, rfl⟩
          obtain ⟨F', hF1'⟩ : ∃ F, F = l'[k] := ⟨_, rfl⟩
          rw [← hF1] at r1 heq
          rw [← hF1'] at r2 heq
          have hi1 : (k : Int) < (n : Int) := by omega
          clear hc hbB hc' hbB' hF1 hF1' hF hF' he hkl hkl' htk
          go_wp2_with fail
          go_quiet (fail)
          go_wp2
          exact ⟨⟨k + 1, by omega, by go_num, htk2, below_drewN hb _⟩, by simp [intOf]; omega⟩
        · have hfin := Lib.hid (bne_of_at hkl hkl' he)
          rw [show (l[k] == l'[k]) = false from beq_eq_false_iff_ne.2 he] at heq
          obtain ⟨F, hF1⟩ : ∃ F, F = l[k] := ⟨_, rfl⟩
          obtain ⟨F', hF1'⟩ : ∃ F, F = l'[k] := ⟨_, rfl⟩
          rw [← hF1] at r1 heq
          rw [← hF1'] at r2 heq
          have hi1 : (k : Int) < (n : Int) := by omega
          clear hc hbB hc' hbB' hF1 hF1' hF hF' he hkl hkl' htk
          go_wp2_with fail
          go_quiet (fail)
          go_wp2
          go_ret
          exact ⟨by rw [hfin.out]; rfl, below_drewN hb _⟩
      · have : k = n := by omega
        subst this
        have hfin := Lib.hid (beq_of_takes Hl.out Hl'.out htk.out)
        clear htk
        go_wp2
        go_ret
        exact ⟨by rw [hfin.out]; rfl, hb⟩
  · have hne : (l == l') = false := by
      rw [beq_eq_false_iff_ne]
      rintro rfl
      exact hnn (hl.symm.trans hl')
    rw [hne]
    clear hne hl hl' hR hR'
    go_enter Try.func105, Try.ntmps105
    go_wp2
    go_ret
    exact ⟨rfl, Below.refl _ _⟩
end
end Go.Proofs.Ytmagaapdijapiaa
namespace Go.Proofs.Ytmagaapdijapiaa
open Go.ChangeShapes Go.WideShapes Go.ChangeAt Go.RowKit

def num4 (b0 b1 b2 b3 : Int) : Int := b0 * 16777216 + b1 * 65536 + b2 * 256 + b3

theorem cell_alloc {w : World} {g i : Nat} {v : Value} (o : Obj) (h : w.cell? ⟨g, i, none⟩ = some v) : (w.alloc o).cell? ⟨g, i, none⟩ = some v :=
  (((Below.refl w.heap.size w).alloc (Nat.le_refl _) o).cell (p := ⟨g, i, none⟩) (World.block_lt_of_cell? w _ h)).trans h

set_option maxHeartbeats 800000 in
theorem beUint32_any (g o n c : Nat) (b0 b1 b2 b3 : Int) (w : World) (hn : 4 ≤ n) (h0 : 0 ≤ b0 ∧ b0 ≤ 255) (h1 : 0 ≤ b1 ∧ b1 ≤ 255) (h2 : 0 ≤ b2 ∧ b2 ≤ 255) (h3 : 0 ≤ b3 ∧ b3 ≤ 255)
    (c0 : w.cell? ⟨g, o, none⟩ = some (.int .u8 b0)) (c1 : w.cell? ⟨g, o + 1, none⟩ = some (.int .u8 b1)) (c2 : w.cell? ⟨g, o + 2, none⟩ = some (.int .u8 b2)) (c3 : w.cell? ⟨g, o + 3, none⟩ = some (.int .u8 b3)) :
    Calls Try.prog 59 #[.agg #[], .slice (some ⟨g, o, none⟩) n c] w fun e w' => e = .returned (.int .u32 (num4 b0 b1 b2 b3)) ∧ Below w.heap.size w w' := by
  obtain ⟨p0, q0⟩ := h0
  obtain ⟨p1, q1⟩ := h1
  obtain ⟨p2, q2⟩ := h2
  obtain ⟨p3, q3⟩ := h3
  have d0 := cell_alloc (.cells #[] 96) c0
  have d1 := cell_alloc (.cells #[] 96) c1
  have d2 := cell_alloc (.cells #[] 96) c2
  have d3 := cell_alloc (.cells #[] 96) c3
  have n0 : 0 < n := by omega
  have n1 : (1 : Int) < (n : Int) := by omega
  have n2 : (2 : Int) < (n : Int) := by omega
  have n3 : (3 : Int) < (n : Int) := by omega
  clear c0 c1 c2 c3
  go_enter Try.func59, Try.ntmps59
  go_wp2
  go_quiet (fail)
  go_wp2
  go_ret
  refine ⟨ret_int ?_, below_drewN ((Below.refl _ _).alloc (Nat.le_refl _) _) _⟩
  unfold num4
  simp (disch := omega) only [u32_or8, u32_or16, u32_or24]
  omega

theorem shl8_or (x b : Int) (h0 : 0 ≤ x) (h1 : x < 16777216) (g0 : 0 ≤ b) (g1 : b ≤ 255) : bits .or .u32 (x * 256) b = x * 256 + b :=
  bits_join .u32 32 (by decide) wraps_u32 8 (x * 256) b (by omega) (by omega) (by omega) g0 (by omega) (by omega)

def numTo (b0 b1 b2 b3 : Int) : Nat → Int
  | 0 => 0
  | 1 => b0
  | 2 => b0 * 256 + b1
  | 3 => b0 * 65536 + b1 * 256 + b2
  | _ => num4 b0 b1 b2 b3

set_option maxHeartbeats 800000 in
theorem l09Number_any (g o n c : Nat) (b0 b1 b2 b3 : Int) (w : World) (hn : 4 ≤ n) (h0 : 0 ≤ b0 ∧ b0 ≤ 255) (h1 : 0 ≤ b1 ∧ b1 ≤ 255) (h2 : 0 ≤ b2 ∧ b2 ≤ 255) (h3 : 0 ≤ b3 ∧ b3 ≤ 255)
    (c0 : w.cell? ⟨g, o, none⟩ = some (.int .u8 b0)) (c1 : w.cell? ⟨g, o + 1, none⟩ = some (.int .u8 b1)) (c2 : w.cell? ⟨g, o + 2, none⟩ = some (.int .u8 b2)) (c3 : w.cell? ⟨g, o + 3, none⟩ = some (.int .u8 b3)) :
    Calls Try.prog 53 #[.slice (some ⟨g, o, none⟩) n c] w fun e w' => e = .returned (.int .u32 (num4 b0 b1 b2 b3)) ∧ w = w' := by
  obtain ⟨p0, q0⟩ := h0
  obtain ⟨p1, q1⟩ := h1
  obtain ⟨p2, q2⟩ := h2
  obtain ⟨p3, q3⟩ := h3
  go_enter Try.func53, Try.ntmps53
  go_wp2_with fail
  go_loop [3, 4] (fun v i => ∃ k : Nat, k ≤ 4 ∧ i = .int .i64 k ∧ v = .int .u32 (numTo b0 b1 b2 b3 k)) (fun _ i => 4 - (intOf i).toNat)
  case atStart => exact ⟨0, by omega, rfl, rfl⟩
  case round =>
    obtain ⟨k, hk, rfl, rfl⟩ := hrel
    have hs : k = 0 ∨ k = 1 ∨ k = 2 ∨ k = 3 ∨ k = 4 := by omega
    rcases hs with rfl | rfl | rfl | rfl | rfl
    · have e : bits .or .u32 0 b0 = b0 := by have := shl8_or 0 b0 (by omega) (by omega) p0 q0; simpa using this
      have E := Lib.hid e
      clear e
      simp only [numTo]
      go_wp2
      exact ⟨⟨1, by omega, by go_num, congrArg (Value.int .u32) E.out⟩, by simp [intOf]⟩
    · have E := Lib.hid (shl8_or b0 b1 p0 (by omega) p1 q1)
      simp only [numTo]
      go_wp2
      exact ⟨⟨2, by omega, by go_num, congrArg (Value.int .u32) E.out⟩, by simp [intOf]⟩
    · have e := shl8_or (b0 * 256 + b1) b2 (by omega) (by omega) p2 q2
      rw [show (b0 * 256 + b1) * 256 + b2 = b0 * 65536 + b1 * 256 + b2 by omega] at e
      have E := Lib.hid e
      clear e
      simp only [numTo]
      go_wp2
      exact ⟨⟨3, by omega, by go_num, congrArg (Value.int .u32) E.out⟩, by simp [intOf]⟩
    · have e := shl8_or (b0 * 65536 + b1 * 256 + b2) b3 (by omega) (by omega) p3 q3
      rw [show (b0 * 65536 + b1 * 256 + b2) * 256 + b3 = num4 b0 b1 b2 b3 by unfold num4; omega] at e
      have E := Lib.hid e
      clear e
      simp only [numTo]
      go_wp2
      exact ⟨⟨4, by omega, by go_num, congrArg (Value.int .u32) E.out⟩, by simp [intOf]⟩
    · simp only [numTo]
      go_wp2
      go_ret
      exact ⟨rfl, rfl⟩

theorem conv_bytes {W : World} {g o n c : Nat} {l : List Int} (hl : l.length = n) (hr : W.rangeAt g o (l.map (.int .u8))) :
    (convert 40 9 (.slice (some ⟨g, o, none⟩) n c)).run Try.prog W = .ok (.string (strOfNums l)) W :=
  run_convert_bytes_arg W 40 5 Try.underlying40 Try.underlying5 g o n c l hl (fun i hi => by
    rw [hr i (.int .u8 (l.getD i 0)) (by rw [List.getElem?_map, List.getElem?_eq_getElem (by omega)]; simp [List.getD, List.getElem?_eq_getElem (show i < l.length by omega)])]) 9 Try.underlying9

set_option maxHeartbeats 800000 in
theorem bytesEqual_any (g o n c g' o' n' c' : Nat) (s s' : ByteArray) (w : World)
    (hs : (convert 40 9 (.slice (some ⟨g, o, none⟩) n c)).run Try.prog w = .ok (.string s) w) (hs' : (convert 40 9 (.slice (some ⟨g', o', none⟩) n' c')).run Try.prog w = .ok (.string s') w) :
    Calls Try.prog 60 #[.slice (some ⟨g, o, none⟩) n c, .slice (some ⟨g', o', none⟩) n' c'] w fun e w' => e = .returned (.bool (s.toList == s'.toList)) ∧ w = w' := by
  go_enter Try.func60, Try.ntmps60
  go_wp2
  go_ret

  exact ⟨rfl, rfl⟩

set_option maxHeartbeats 800000 in
theorem hasPrefix_any (g o n c g' o' n' c' : Nat) (l l' : List Int) (hn : n' ≤ n) (hl : l.length = n) (hl' : l'.length = n') (hnc : n ≤ c) (_hn2 : n ≤ 1048576) (w : World) (hr : w.rangeAt g o (l.map (.int .u8))) (hr' : w.rangeAt g' o' (l'.map (.int .u8))) :
    Calls Try.prog 138 #[.slice (some ⟨g, o, none⟩) n c, .slice (some ⟨g', o', none⟩) n' c'] w fun e w' => e = .returned (.bool ((strOfNums (l.take n')).toList == (strOfNums l').toList)) ∧ w = w' := by
  have hb := fun c => bytesEqual_any g o n' c g' o' n' c' (strOfNums (l.take n')) (strOfNums l') w (conv_bytes (by simp; omega) (fun j v hv => hr j v (by
    rw [List.map_take, List.getElem?_take] at hv
    split at hv
    · exact hv
    · cases hv))) (conv_bytes hl' hr')
  have HB := Lib.hid hb
  have b0 : (n' : Int) ≤ (n : Int) := by omega
  clear hl hl' hr hr' hb
  go_enter Try.func138, Try.ntmps138
  go_wp2_with fail
  refine (HB.out _).mono ?_
  rintro e w' ⟨rfl, rfl⟩
  go_wp2
  go_ret
  exact ⟨rfl, rfl⟩
end Go.Proofs.Ytmagaapdijapiaa
namespace Go.Proofs.Ytmagaapdijapiaa
open Go.ChangeShapes Go.WideShapes Go.ChangeAt Go.RowKit

set_option maxHeartbeats 400000 in
theorem inRange_any (n lo hi : Int) (w : World) : Calls Try.prog 122 #[.int .i64 n, .int .i64 lo, .int .i64 hi] w fun e w' => e = .returned (.bool (inB n lo hi)) ∧ w = w' := by
  go_enter Try.func122, Try.ntmps122
  go_wp2
  all_goals
    go_ret
    exact ⟨by simp [inB, *]; try omega, rfl⟩

def four (n : Int) : List Int := [n / 16777216 % 256, n / 65536 % 256, n / 256 % 256, n % 256]

set_option maxHeartbeats 400000 in
theorem l09Four_any (n : Int) (w : World) : Calls Try.prog 44 #[.int .u32 n] w fun e w' => e = .returned (.slice (some ⟨w.heap.size, 0, none⟩) 4 4) ∧ w' = w.alloc (.cells (ivs .u8 (four n)) 5) := by
  go_enter Try.func44, Try.ntmps44
  go_wp2
  go_ret
  exact ⟨rfl, rfl⟩

theorem uint8_info : (Try.prog.info? 5).map (fun i => (i.zero, i.size, i.bytes)) = some (some (.int .u8 0), 1, 1) := by kernel_rfl

set_option maxHeartbeats 400000 in
theorem append32_any (n : Int) (v : Value) (l : List Int) (B : Nat) (w : World) (hB : B ≤ w.heap.size) (hown : w.ownsRow B 5 1 v l.length (l.map (.int .u8))) (hlen : l.length ≤ 1000000000) :
    Calls Try.prog 93 #[.agg #[], v, .int .u32 n] w fun e w' => ∃ v', e = .returned v' ∧ w'.ownsRow B 5 1 v' (l.length + 4) (l.map (.int .u8) ++ (four n).map (.int .u8)) ∧ w.grownBy w' v.ownBlock := by
  obtain ⟨i0, hi, hz0, hz1, hz2⟩ := info_parts uint8_info
  have hb : Blk ((w.alloc (.cells #[] 96)).alloc (.cells (ivs .u8 (four n)) 5)) (w.heap.size + 1) 5 (ivs .u8 (four n)) := Blk.newAt (by simp) rfl
  have hn := hb.news
  have Hn := Lib.hid hn
  clear hn hb
  have Hown := Lib.hid hown
  clear hown
  go_enter Try.func93, Try.ntmps93
  go_wp2_with (at_builtin; refine wpList_append_own _ rfl (.tmp 7) (.tmp 19) 40 rfl B 5 i0 (.int .u8 0) 1 1 Try.underlying40 hi hz0 hz1 hz2 rfl (by decide) v l.length (l.map (.int .u8)) rfl ((Hown.out.alloc _).alloc _) ⟨w.heap.size + 1, 0, none⟩ 4 4 ((four n).map (.int .u8)) rfl rfl Hn.out ints_one (by unfold maxLen; omega) (by omega) (by simp; omega) ?_; intro v' w' hown' hgrow _)
  go_ret
  exact ⟨v', rfl, hown', ((World.grownBy_alloc _ _ _).trans (World.grownBy_alloc _ _ _)).trans hgrow⟩

def put4 (l : List Int) (o : Nat) (n : Int) : List Int := (((l.set o (n / 16777216 % 256)).set (o + 1) (n / 65536 % 256)).set (o + 2) (n / 256 % 256)).set (o + 3) (n % 256)
theorem put4_length (l : List Int) (o : Nat) (n : Int) : (put4 l o n).length = l.length := by simp [put4]

set_option maxHeartbeats 400000 in
theorem put32_any (n : Int) (g o m c : Nat) (t : TypeId) (l : List Int) (w : World) (hm : 4 ≤ m) (ho : o + 4 ≤ l.length) (hb : Blk w g t (ivs .u8 l)) :
    Calls Try.prog 133 #[.agg #[], .slice (some ⟨g, o, none⟩) m c, .int .u32 n] w fun e w' => e = .returned (.tuple #[]) ∧ Blk w' g t (ivs .u8 (put4 l o n)) ∧ w.grownBy w' (some g) := by
  have h := hb.alloc (.cells #[] 96)
  obtain ⟨x0, c0⟩ := h.some_ (i := o) (by omega)
  obtain ⟨x1, c1⟩ := h.some_ (i := o + 1) (by omega)
  obtain ⟨x2, c2⟩ := h.some_ (i := o + 2) (by omega)
  obtain ⟨x3, c3⟩ := h.some_ (i := o + 3) (by omega)
  have f0 := h.frozen o
  have f1 := h.frozen (o + 1)
  have f2 := h.frozen (o + 2)
  have f3 := h.frozen (o + 3)
  have hs := (((h.setI o (n / 16777216 % 256)).setI (o + 1) (n / 65536 % 256)).setI (o + 2) (n / 256 % 256)).setI (o + 3) (n % 256)
  have Hs := Lib.hid hs
  clear h hs hb ho
  go_enter Try.func133, Try.ntmps133
  go_wp2
  go_end0
  refine ⟨rfl, Hs.out, ?_⟩
  refine only_setCell ?_ rfl _
  refine only_setCell ?_ rfl _
  refine only_setCell ?_ rfl _
  refine only_setCell ?_ rfl _
  exact only_alloc (World.grownBy.refl w _) _
end Go.Proofs.Ytmagaapdijapiaa
namespace Go.Proofs.Ytmagaapdijapiaa
open Go.ChangeShapes Go.WideShapes Go.ChangeAt Go.RowKit

def is255 (l : List Int) : Prop := ∀ x ∈ l, 0 ≤ x ∧ x ≤ 255
theorem is255_of_wfs {l : List Int} (h : ∀ x ∈ l, (Lit.int .u8 x).wf = true) : is255 l := fun x hx => by
  have := h x hx
  simp [Lit.wf, IntKind.min, IntKind.max, IntKind.signed, IntKind.bits] at this
  omega
theorem is255.getD {l : List Int} (h : is255 l) (i : Nat) : 0 ≤ l.getD i 0 ∧ l.getD i 0 ≤ 255 := by
  by_cases hi : i < l.length
  · rw [List.getD_eq_getElem?_getD, List.getElem?_eq_getElem hi]
    exact h _ (List.getElem_mem hi)
  · rw [List.getD_eq_getElem?_getD, List.getElem?_eq_none (by omega)]
    exact ⟨by decide, by decide⟩
def numAt (F : List Int) (o : Nat) : Int := num4 (F.getD o 0) (F.getD (o + 1) 0) (F.getD (o + 2) 0) (F.getD (o + 3) 0)
theorem numAt_range {F : List Int} (h : is255 F) (o : Nat) : 0 ≤ numAt F o ∧ numAt F o ≤ 4294967295 := by
  have h0 := h.getD o
  have h1 := h.getD (o + 1)
  have h2 := h.getD (o + 2)
  have h3 := h.getD (o + 3)
  unfold numAt num4
  omega
def hdKind (F : List Int) : Int := F.getD 3 0
def hdOk (F : List Int) : Bool := F.take 3 == [77, 80, 78]
theorem Blk.getAt {w : World} {g : Nat} {t : TypeId} {k : IntKind} {l : List Int} (h : Blk w g t (ivs k l)) {i : Nat} (hi : i < l.length) : w.cell? ⟨g, i, none⟩ = some (.int k (l.getD i 0)) := by
  have := h.getD i hi
  rwa [Nat.zero_add] at this
theorem beAt_any (F : List Int) (h255 : is255 F) (g o n c : Nat) (t : TypeId) (w : World) (h : Blk w g t (ivs .u8 F)) (hn : 4 ≤ n) (ho : o + 4 ≤ F.length) :
    Calls Try.prog 59 #[.agg #[], .slice (some ⟨g, o, none⟩) n c] w fun e w' => e = .returned (.int .u32 (numAt F o)) ∧ Below w.heap.size w w' :=
  beUint32_any g o n c _ _ _ _ w hn (h255.getD o) (h255.getD (o + 1)) (h255.getD (o + 2)) (h255.getD (o + 3)) (h.getAt (by omega)) (h.getAt (by omega)) (h.getAt (by omega)) (h.getAt (by omega))

theorem strOfNums_inj {a b : List Int} (ha : is255 a) (hb : is255 b) : ((strOfNums a).toList == (strOfNums b).toList) = (a == b) := by
  rw [ByteArray.toList_eq, ByteArray.toList_eq, strOfNums_data, strOfNums_data]
  induction a generalizing b with
  | nil => cases b <;> rfl
  | cons x a ih =>
    cases b with
    | nil => rfl
    | cons y b =>
      have h1 := ha x (List.mem_cons_self ..)
      have h2 := hb y (List.mem_cons_self ..)
      rw [List.map_cons, List.map_cons, List.cons_beq_cons, List.cons_beq_cons, ih (fun z hz => ha z (List.mem_cons_of_mem _ hz)) (fun z hz => hb z (List.mem_cons_of_mem _ hz))]
      congr 1
      rw [Bool.eq_iff_iff, beq_iff_eq, beq_iff_eq]
      constructor
      · intro h
        have := congrArg UInt8.toNat h
        simp only [UInt8.toNat_ofNat'] at this
        omega
      · rintro rfl; rfl

theorem hdOk_eq {F : List Int} (h : is255 F) : ((strOfNums (F.take 3)).toList == (strOfNums [77, 80, 78]).toList) = hdOk F :=
  strOfNums_inj (fun x hx => h x (List.mem_of_mem_take hx)) (fun x hx => by simp at hx; omega)

theorem results_tmp4 {fn : Func} {t u v x : Tmp} (h : fn.results = #[.tmp t, .tmp u, .tmp v, .tmp x]) (tmps : Array Value) (P : Program) (w : World) :
    (results fn tmps).run P w = .ok (.tuple #[tmps.getD t undef, tmps.getD u undef, tmps.getD v undef, tmps.getD x undef]) w := by simp [results, h]

set_option maxRecDepth 20000 in
set_option maxHeartbeats 1600000 in
theorem headOf_any (F : List Int) (hF : F.length = 16) (h255 : is255 F) (w : World) :
    Calls Try.prog 103 #[.agg (ivs .u8 F)] w fun e w' => e = .returned (.tuple #[.int .i64 (hdKind F), .int .i64 (numAt F 4), .int .i64 (numAt F 8), .bool (hdOk F)]) ∧ Below w.heap.size w w' := by
  have hb0 : Blk (w.alloc (.cells (ivs .u8 F) 87)).drew w.heap.size 87 (ivs .u8 F) := Blk.drew (Blk.newAt rfl rfl)
  have bb : Below w.heap.size w (w.alloc (.cells (ivs .u8 F) 87)).drew := below_drew ((Below.refl _ _).alloc (Nat.le_refl _) _)
  have HB0 := Lib.hid hb0
  have HF := Lib.hid hF
  have H255 := Lib.hid h255
  clear hb0 hF h255
  go_enter Try.func103, Try.ntmps103
  go_wp2_with fail
  go_region_law (go_simp; go_at_call 59; first
    | (with_reducible refine (beAt_any F H255.out w.heap.size _ _ _ 87 _ HB0.out (by omega) (by have := HF.out; omega)).mono ?_; rintro e w1 ⟨rfl, hb1⟩)
    | (refine (beAt_any F H255.out w.heap.size _ _ _ 87 _ (HB0.out.below hb1 HB0.out.lt) (by omega) (by have := HF.out; omega)).mono ?_; rintro e w2 ⟨rfl, hb2⟩))
  all_goals
    have hz0 := HB0.out.lt
    have hz1 := hb1.size
    have hz2 := hb2.size
    have b2 := (HB0.out.below hb1 hz0).below hb2 (by omega)
    have B2 := (bb.trans (hb1.mono (Nat.le_of_lt hz0))).trans (hb2.mono (by omega))
    have c3 := b2.getAt (i := 3) (by have := HF.out; omega)
    have HB2 := Lib.hid b2
    have hcv := Lib.run_convert_bytes_const (P := Try.prog) w2 40 5 #[.int .u8 77, .int .u8 80, .int .u8 78] 3 3 Try.underlying40 Try.underlying5
    have hme : (#[.int .u8 77, .int .u8 80, .int .u8 78] : Array Value).size = 3 := rfl
    rw [hme] at hcv
    have hr0 : (w2.alloc (.cells #[.int .u8 77, .int .u8 80, .int .u8 78] 5 (3, 3 + 1))).rangeAt w2.heap.size 0 ([77, 80, 78].map (Value.int .u8)) := fun j v hj => by
      rw [Nat.zero_add, World.cell?_alloc_mark, ← hj]
      simp
    have hb3 := b2.alloc (.cells #[.int .u8 77, .int .u8 80, .int .u8 78] 5 (3, 3 + 1))
    have hp := hasPrefix_any w.heap.size 0 16 16 w2.heap.size 0 3 3 F [77, 80, 78] (by omega) HF.out rfl (by omega) (by omega) _ hb3.range0 hr0
    rw [hdOk_eq H255.out] at hp
    have HP := Lib.hid hp
    have k0 := H255.out.getD 3
    obtain ⟨k0, k1⟩ := k0
    rw [List.getD_eq_getElem?_getD] at k0 k1
    obtain ⟨k2, k3⟩ := numAt_range H255.out 4
    obtain ⟨k4, k5⟩ := numAt_range H255.out 8
    have hzz : w.heap.size ≤ w2.heap.size := by omega
    clear hb1 hb2 b2 hb3 hp hz0 hz1 hz2 hme hr0
    go_wp2_with fail
    refine (HP.out).mono ?_
    rintro e w3 ⟨rfl, rfl⟩
    go_wp2
    refine bodyPost_ret (results_tmp4 rfl _ _ _) rfl ?_
    exact ⟨by unfold hdKind; rw [List.getD_eq_getElem?_getD]; rfl, B2.alloc hzz _⟩
end Go.Proofs.Ytmagaapdijapiaa
namespace Go.Proofs.Ytmagaapdijapiaa
open Go.ChangeShapes Go.WideShapes Go.ChangeAt Go.RowKit

/-- the source's block: the bytes, how many are read, the seed -/
def Src (W : World) (g : Nat) (A : Option Addr) (n c : Nat) (k : Nat) : Prop := ∃ s : Int, 0 ≤ s ∧ s < 18446744073709551616 ∧ Blk W g 157 #[.slice A n c, .int .i64 k, .int .u64 s]
theorem Src.lt {W : World} {g : Nat} {A : Option Addr} {n c k : Nat} (h : Src W g A n c k) : g < W.heap.size := by
  obtain ⟨s, _, _, h⟩ := h
  exact h.lt
theorem u64wrap (x : Int) : 0 ≤ IntKind.wrap .u64 x ∧ IntKind.wrap .u64 x < 18446744073709551616 := by
  have h : IntKind.wrap .u64 x = x % 18446744073709551616 := rfl
  omega
theorem and255 {x : Int} (h0 : 0 ≤ x) (h1 : x < 18446744073709551616) : 0 ≤ bits .and .u64 x 255 ∧ bits .and .u64 x 255 ≤ 255 := by
  obtain ⟨a, rfl⟩ := Int.eq_ofNat_of_zero_le h0
  have h := bits_and_u64_nat a 255 (by omega) (by decide)
  have h2 : a &&& 255 ≤ 255 := Nat.and_le_right
  rw [show ((255 : Nat) : Int) = 255 from rfl] at h
  rw [h]
  omega
theorem wrap64_small {x : Int} (h0 : 0 ≤ x) (h1 : x ≤ 255) : wrap64 x = x := by
  unfold wrap64
  go_num
theorem div40 {x : Int} (h0 : 0 ≤ x) (h1 : x < 18446744073709551616) : 0 ≤ x / 1099511627776 ∧ x / 1099511627776 < 18446744073709551616 := by omega
set_option maxHeartbeats 1600000 in
theorem next_any (g : Nat) (A : Option Addr) (n c : Nat) (l : List Int) (hl : l.length = n) (h255 : is255 l) (k : Nat) (hk : k < 1000000000) (hn : n ≤ 1000000000) (w : World) (hs : Src w g A n c k) (hR : Rd w g 1 A n (l.map (.int .u8))) :
    Calls Try.prog 107 #[.pointer (some ⟨g, 0, none⟩)] w fun e w' => (∃ v : Int, 0 ≤ v ∧ v ≤ 255 ∧ e = .returned (.int .i64 v)) ∧ Src w' g A n c (k + 1) ∧ w.grownBy w' (some g) := by
  obtain ⟨s, hs0, hs1, hb⟩ := hs
  have c0 : w.cell? ⟨g, 0, none⟩ = some (.slice A n c) := hb.cell 0
  have c1 : w.cell? ⟨g, 1, none⟩ = some (.int .i64 k) := hb.cell 1
  have c2 : w.cell? ⟨g, 2, none⟩ = some (.int .u64 s) := hb.cell 2
  have f1 := hb.frozen 1
  have f2 := hb.frozen 2
  by_cases hlt : k < n
  · obtain ⟨b, o, rfl, hbg, hc⟩ := hR.at_ (by omega)
    have cb := hc k (.int .u8 (l[k]'(by omega))) (by rw [List.getElem?_map, List.getElem?_eq_getElem (by omega)]; rfl)
    have hv := h255 _ (List.getElem_mem (l := l) (n := k) (by omega))
    generalize l[k]'(by omega) = v at *
    have hlt' : (k : Int) < n := by omega
    clear hc hR
    go_enter Try.func107, Try.ntmps107
    go_wp2
    go_quiet (fail)
    go_wp2
    go_quiet (fail)
    go_wp2
    go_quiet (fail)
    go_wp2
    go_ret
    refine ⟨⟨_, hv.1, hv.2, rfl⟩, ?_, ?_⟩
    · exact ⟨_, (u64wrap _).1, (u64wrap _).2, (((hb.drewN _).set_ 1 _).set_ 2 _).drewN _⟩
    · exact only_drewN (only_setCell (g := g) (p := ⟨g, 2, none⟩) (only_setCell (g := g) (p := ⟨g, 1, none⟩) (only_drewN (World.grownBy.refl _ _) _) rfl _) rfl _) _
  · have hge : (n : Int) ≤ k := by omega
    clear hR
    go_enter Try.func107, Try.ntmps107
    go_wp2
    go_quiet (fail)
    go_wp2
    go_quiet (fail)
    go_wp2
    go_ret
    obtain ⟨q0, q1⟩ := u64wrap (IntKind.wrap .u64 (IntKind.wrap .u64 (s * 6364136223846793005)) + 1442695040888963407)
    obtain ⟨p0, p1⟩ := and255 (div40 q0 q1).1 (div40 q0 q1).2
    refine ⟨⟨_, ?_, ?_, rfl⟩, ?_, ?_⟩
    · have h : wrap64 (bits .and .u64 (IntKind.wrap .u64 (IntKind.wrap .u64 (IntKind.wrap .u64 (s * 6364136223846793005)) + 1442695040888963407) / 1099511627776) 255) = bits .and .u64 (IntKind.wrap .u64 (IntKind.wrap .u64 (IntKind.wrap .u64 (s * 6364136223846793005)) + 1442695040888963407) / 1099511627776) 255 := wrap64_small p0 p1
      rw [h]; exact p0
    · have h : wrap64 (bits .and .u64 (IntKind.wrap .u64 (IntKind.wrap .u64 (IntKind.wrap .u64 (s * 6364136223846793005)) + 1442695040888963407) / 1099511627776) 255) = bits .and .u64 (IntKind.wrap .u64 (IntKind.wrap .u64 (IntKind.wrap .u64 (s * 6364136223846793005)) + 1442695040888963407) / 1099511627776) 255 := wrap64_small p0 p1
      rw [h]; exact p1
    · exact ⟨_, q0, q1, (((hb.drewN _).set_ 1 _).set_ 2 _).drewN _⟩
    · exact only_drewN (only_setCell (g := g) (p := ⟨g, 2, none⟩) (only_setCell (g := g) (p := ⟨g, 1, none⟩) (only_drewN (World.grownBy.refl _ _) _) rfl _) rfl _) _
/-- what a call of the source gives: a number, and the source has gone on by at most d bytes -/
def Gone (w : World) (g : Nat) (A : Option Addr) (n c k d : Nat) (w' : World) : Prop := (∃ k', k' ≤ k + d ∧ Src w' g A n c k') ∧ w.grownBy w' (some g)
set_option maxHeartbeats 1600000 in
theorem pick_any (m : Int) (hm1 : 2 ≤ m) (hm2 : m ≤ 200) (g : Nat) (A : Option Addr) (n c : Nat) (l : List Int) (hl : l.length = n) (h255 : is255 l) (k : Nat) (hk : k < 1000000000) (hn : n ≤ 1000000000) (w : World) (hs : Src w g A n c k) (hR : Rd w g 1 A n (l.map (.int .u8))) :
    Calls Try.prog 62 #[.pointer (some ⟨g, 0, none⟩), .int .i64 m] w fun e w' => (∃ v : Int, 0 ≤ v ∧ v < m ∧ e = .returned (.int .i64 v)) ∧ Gone w g A n c k 1 w' := by
  have hx := next_any g A n c l hl h255 k hk hn w hs hR
  have HX := Lib.hid hx
  clear hx hs hR
  go_enter Try.func62, Try.ntmps62
  go_wp2_with (go_at_call 107; refine HX.out.mono ?_; rintro e w2 ⟨⟨v, hv0, hv1, rfl⟩, hs2, hg2⟩; have HS := Lib.hid hs2; have HG := Lib.hid hg2; clear hs2 hg2)
  go_ret
  exact ⟨⟨_, Int.emod_nonneg _ (by omega), Int.emod_lt_of_pos _ (by omega), rfl⟩, ⟨k + 1, Nat.le_refl _, HS.out⟩, HG.out⟩
set_option maxHeartbeats 1600000 in
theorem one_any (m : Int) (hm1 : 2 ≤ m) (hm2 : m ≤ 200) (g : Nat) (A : Option Addr) (n c : Nat) (l : List Int) (hl : l.length = n) (h255 : is255 l) (k : Nat) (hk : k < 1000000000) (hn : n ≤ 1000000000) (w : World) (hs : Src w g A n c k) (hR : Rd w g 1 A n (l.map (.int .u8))) :
    Calls Try.prog 109 #[.pointer (some ⟨g, 0, none⟩), .int .i64 m] w fun e w' => (∃ b : Bool, e = .returned (.bool b)) ∧ Gone w g A n c k 1 w' := by
  have hx := pick_any m hm1 hm2 g A n c l hl h255 k hk hn w hs hR
  have HX := Lib.hid hx
  clear hx hs hR
  go_enter Try.func109, Try.ntmps109
  go_wp2_with (go_at_call 62; refine HX.out.mono ?_; rintro e w2 ⟨⟨v, hv0, hv1, rfl⟩, hg2⟩; have HG := Lib.hid hg2; clear hg2)
  go_ret
  exact ⟨⟨_, rfl⟩, HG.out⟩
end Go.Proofs.Ytmagaapdijapiaa
namespace Go.Proofs.Ytmagaapdijapiaa
open Go.ChangeShapes Go.WideShapes Go.ChangeAt Go.RowKit
def bitK (M : List Int) (k : Nat) : Bool := bitB M (k % 16) (k / 16)
/-- what has been told up to cell k: the bytes, where the run began, whether it is set -/
def pmTo (M : List Int) : Nat → List Int × Nat × Bool
  | 0 => ([], 0, false)
  | k + 1 => if bitK M k = (pmTo M k).2.2 then pmTo M k else ((pmTo M k).1 ++ [((k - (pmTo M k).2.1 : Nat) : Int)], k, !(pmTo M k).2.2)
def pmL (M : List Int) : List Int := (pmTo M 256).1
theorem pmTo_same {M : List Int} {k : Nat} (h : bitK M k = (pmTo M k).2.2) : pmTo M (k + 1) = pmTo M k := by rw [pmTo, if_pos h]
theorem pmTo_turn {M : List Int} {k : Nat} (h : ¬ bitK M k = (pmTo M k).2.2) : pmTo M (k + 1) = ((pmTo M k).1 ++ [((k - (pmTo M k).2.1 : Nat) : Int)], k, !(pmTo M k).2.2) := by rw [pmTo, if_neg h]
theorem pmTo_from (M : List Int) : ∀ k, (pmTo M k).2.1 ≤ k
  | 0 => Nat.le_refl _
  | k + 1 => by
    have := pmTo_from M k
    by_cases h : bitK M k = (pmTo M k).2.2
    · rw [pmTo_same h]; omega
    · rw [pmTo_turn h]; exact Nat.le_succ k
theorem pmTo_length (M : List Int) : ∀ k, (pmTo M k).1.length ≤ k
  | 0 => Nat.le_refl _
  | k + 1 => by
    have := pmTo_length M k
    by_cases h : bitK M k = (pmTo M k).2.2
    · rw [pmTo_same h]; omega
    · rw [pmTo_turn h, List.length_append, List.length_singleton]; omega
theorem pmTo_in (M : List Int) : ∀ k, k ≤ 256 → ∀ x ∈ (pmTo M k).1, 0 ≤ x ∧ x ≤ 255
  | 0, _ => fun x hx => by cases hx
  | k + 1, hk => fun x hx => by
    have ih := pmTo_in M k (by omega)
    by_cases h : bitK M k = (pmTo M k).2.2
    · rw [pmTo_same h] at hx; exact ih x hx
    · rw [pmTo_turn h] at hx
      rcases List.mem_append.1 hx with hx | hx
      · exact ih x hx
      · rw [List.mem_singleton] at hx
        subst hx
        omega
theorem pmL_length (M : List Int) : (pmL M).length ≤ 256 := pmTo_length M 256
theorem pmL_in (M : List Int) : ∀ x ∈ pmL M, 0 ≤ x ∧ x ≤ 255 := pmTo_in M 256 (Nat.le_refl _)
/-! ### the runs -/
def sumN (l : List Int) (k : Nat) : Nat := ((l.take k).map Int.toNat).sum
theorem sumN_zero (l : List Int) : sumN l 0 = 0 := rfl
theorem sumN_succ {l : List Int} {k : Nat} (h : k < l.length) : sumN l (k + 1) = sumN l k + (l[k]).toNat := by
  rw [sumN, List.take_succ_eq_append_getElem h, List.map_append, List.sum_append, sumN]
  simp
theorem sumN_mono (l : List Int) {i j : Nat} (h : i ≤ j) : sumN l i ≤ sumN l j := by
  induction j with
  | zero => rw [Nat.le_zero.1 h]; exact Nat.le_refl _
  | succ j ih =>
    by_cases e : i = j + 1
    · rw [e]; exact Nat.le_refl _
    · refine Nat.le_trans (ih (by omega)) ?_
      by_cases hj : j < l.length
      · rw [sumN_succ hj]; omega
      · rw [sumN, sumN, List.take_of_length_le (by omega), List.take_of_length_le (by omega)]; exact Nat.le_refl _
theorem sumN_append (a b : List Int) {k : Nat} (h : k ≤ a.length) : sumN (a ++ b) k = sumN a k := by rw [sumN, sumN, List.take_append_of_le_length h]
def oddB (n : Nat) : Bool := n % 2 == 1
theorem oddB_succ (n : Nat) : oddB (n + 1) = !oddB n := by
  have h : n % 2 = 0 ∨ n % 2 = 1 := by omega
  rcases h with h | h
  · rw [oddB, oddB, h, show (n + 1) % 2 = 1 by omega]; rfl
  · rw [oddB, oddB, h, show (n + 1) % 2 = 0 by omega]; rfl
structure Runs (M : List Int) (k : Nat) : Prop where
  sum : sumN (pmTo M k).1 (pmTo M k).1.length = (pmTo M k).2.1
  odd : (pmTo M k).2.2 = oddB (pmTo M k).1.length
  run : ∀ i, i < (pmTo M k).1.length → ∀ j, sumN (pmTo M k).1 i ≤ j → j < sumN (pmTo M k).1 (i + 1) → bitK M j = oddB i
  last : ∀ j, (pmTo M k).2.1 ≤ j → j < k → bitK M j = (pmTo M k).2.2
theorem runs_all (M : List Int) : ∀ k, Runs M k
  | 0 => ⟨rfl, rfl, fun i hi => by simp [pmTo] at hi, fun j _ h => by omega⟩
  | k + 1 => by
    have ih := runs_all M k
    have hf := pmTo_from M k
    by_cases h : bitK M k = (pmTo M k).2.2
    · have hs := pmTo_same h
      refine ⟨by rw [hs]; exact ih.sum, by rw [hs]; exact ih.odd, by rw [hs]; exact ih.run, fun j h1 h2 => ?_⟩
      rw [hs] at h1 ⊢
      by_cases e : j = k
      · rw [e]; exact h
      · exact ih.last j h1 (by omega)
    · have ht := pmTo_turn h
      obtain ⟨O, hO⟩ : ∃ O, O = (pmTo M k).1 := ⟨_, rfl⟩
      obtain ⟨f, hfe⟩ : ∃ f, f = (pmTo M k).2.1 := ⟨_, rfl⟩
      have isum := ih.sum
      have iodd := ih.odd
      have irun := ih.run
      have ilast := ih.last
      rw [← hO, ← hfe] at isum
      rw [← hO] at iodd irun
      rw [← hfe] at ilast hf
      rw [← hO, ← hfe] at ht
      have hl : (O ++ [((k - f : Nat) : Int)]).length = O.length + 1 := by rw [List.length_append]; rfl
      have hsl : sumN (O ++ [((k - f : Nat) : Int)]) (O.length + 1) = k := by
        rw [sumN_succ (by rw [hl]; exact Nat.lt_succ_self _), sumN_append _ _ (Nat.le_refl _), isum]
        simp
        omega
      refine ⟨?_, ?_, fun i hi j h1 h2 => ?_, fun j h1 h2 => ?_⟩
      · rw [ht, hl]; exact hsl
      · rw [ht]
        show (!(pmTo M k).2.2) = oddB (O ++ [((k - f : Nat) : Int)]).length
        rw [hl, oddB_succ, iodd]
      · rw [ht] at hi h1 h2
        rw [hl] at hi
        by_cases e : i = O.length
        · subst e
          rw [hsl] at h2
          rw [sumN_append _ _ (Nat.le_refl _), isum] at h1
          rw [ilast j h1 h2, iodd]
        · have hi2 : i < O.length := by omega
          rw [sumN_append _ _ (by omega)] at h1 h2
          exact irun i hi2 j h1 h2
      · rw [ht] at h1
        have h1 : k ≤ j := h1
        have e : j = k := by omega
        rw [e, ht]
        show bitK M k = !(pmTo M k).2.2
        cases hb : bitK M k <;> cases hc : (pmTo M k).2.2 <;> first | rfl | (rw [hb, hc] at h; exact absurd rfl h)
/-! ### found again -/
def setK (M : List Int) (k : Nat) : List Int := setOr M (k / 16) (k % 16)
theorem setK_length {M : List Int} (hM : M.length = 16) (k : Nat) : (setK M k).length = 16 := setOr_length hM _ _
theorem setK_16 {M : List Int} (h : is16 M) (k : Nat) : is16 (setK M k) := setOr_16 h _ _
theorem setK_bit {M : List Int} (hM : M.length = 16) (h16 : is16 M) {k : Nat} (hk : k < 256) (j : Nat) : bitK (setK M k) j = (bitK M j || decide (j = k)) := by
  rw [bitK, setK, setOr_bit hM h16 (by omega) (by omega), bitK]
  congr 1
  rw [Bool.eq_iff_iff, Bool.and_eq_true, decide_eq_true_iff, decide_eq_true_iff, decide_eq_true_iff]
  omega
def fillK (M : List Int) (a : Nat) : Nat → List Int
  | 0 => M
  | n + 1 => setK (fillK M a n) (a + n)
theorem fillK_ok {M : List Int} (hM : M.length = 16) (h16 : is16 M) (a : Nat) : ∀ n, (fillK M a n).length = 16 ∧ is16 (fillK M a n)
  | 0 => ⟨hM, h16⟩
  | n + 1 => ⟨setK_length (fillK_ok hM h16 a n).1 _, setK_16 (fillK_ok hM h16 a n).2 _⟩
theorem fillK_bit {M : List Int} (hM : M.length = 16) (h16 : is16 M) (a : Nat) (j : Nat) : ∀ n, a + n ≤ 256 → bitK (fillK M a n) j = (bitK M j || (decide (a ≤ j) && decide (j < a + n)))
  | 0, _ => by
    have : (decide (a ≤ j) && decide (j < a + 0)) = false := by
      rw [Bool.and_eq_false_iff, decide_eq_false_iff_not, decide_eq_false_iff_not]
      omega
    rw [fillK, this, Bool.or_false]
  | n + 1, h => by
    obtain ⟨h1, h2⟩ := fillK_ok hM h16 a n
    rw [fillK, setK_bit h1 h2 (by omega), fillK_bit hM h16 a j n (by omega), Bool.or_assoc]
    congr 1
    rw [Bool.eq_iff_iff]
    simp only [Bool.or_eq_true, Bool.and_eq_true, decide_eq_true_iff]
    omega
/-- where the first bytes lead -/
def atK (d : List Int) (k : Nat) : Nat := min 256 (sumN d k)
theorem atK_mono (d : List Int) (k : Nat) : atK d k ≤ atK d (k + 1) := by
  have : sumN d k ≤ sumN d (k + 1) := sumN_mono d (Nat.le_succ k)
  unfold atK
  omega
theorem atK_le (d : List Int) (k : Nat) : atK d k ≤ 256 := by unfold atK; omega
def decK (d : List Int) : Nat → List Int
  | 0 => zr16
  | k + 1 => if oddB k then fillK (decK d k) (atK d k) (atK d (k + 1) - atK d k) else decK d k
theorem decK_ok (d : List Int) : ∀ k, (decK d k).length = 16 ∧ is16 (decK d k)
  | 0 => ⟨rfl, zr16_16⟩
  | k + 1 => by
    have ih := decK_ok d k
    rw [decK]
    split
    · exact fillK_ok ih.1 ih.2 _ _
    · exact ih
/-- all bytes, and the cells behind -/
def decA (d : List Int) : List Int := if oddB d.length then fillK (decK d d.length) (atK d d.length) (256 - atK d d.length) else decK d d.length
theorem decA_ok (d : List Int) : (decA d).length = 16 ∧ is16 (decA d) := by
  have ih := decK_ok d d.length
  rw [decA]
  split
  · exact fillK_ok ih.1 ih.2 _ _
  · exact ih
theorem pmL_sum (M : List Int) : sumN (pmL M) (pmL M).length ≤ 256 := by
  have h := (runs_all M 256).sum
  have h2 := pmTo_from M 256
  rw [pmL]
  omega
theorem mask_extK {a b : List Int} (ha : a.length = 16) (hb : b.length = 16) (h1 : is16 a) (h2 : is16 b) (h : ∀ j, j < 256 → bitK a j = bitK b j) : a = b :=
  mask_ext ha hb h1 h2 fun x y hx hy => by
    have := h (16 * y + x) (by omega)
    rw [bitK, bitK, show (16 * y + x) % 16 = x by omega, show (16 * y + x) / 16 = y by omega] at this
    exact this
theorem decK_bit (M : List Int) : ∀ k, k ≤ (pmL M).length → ∀ j, j < 256 → bitK (decK (pmL M) k) j = (decide (j < sumN (pmL M) k) && bitK M j)
  | 0, _ => fun j hj => by
    rw [decK, sumN_zero, show decide (j < 0) = false by simp, Bool.false_and, bitK, zr16_bit]
  | k + 1, hk => fun j hj => by
    have ih := decK_bit M k (by omega) j hj
    have hr := (runs_all M 256).run k (by exact hk) j
    have hm : sumN (pmL M) k ≤ sumN (pmL M) (k + 1) := sumN_mono (pmL M) (Nat.le_succ k)
    have hs := pmL_sum M
    have hm2 := sumN_mono (pmL M) hk
    have hr : sumN (pmL M) k ≤ j → j < sumN (pmL M) (k + 1) → bitK M j = oddB k := hr
    obtain ⟨d1, d2⟩ := decK_ok (pmL M) k
    have e1 : atK (pmL M) k = sumN (pmL M) k := by unfold atK; omega
    have e2 : atK (pmL M) (k + 1) = sumN (pmL M) (k + 1) := by unfold atK; omega
    rw [decK, e1, e2]
    generalize sumN (pmL M) k = a at *
    generalize sumN (pmL M) (k + 1) = b at *
    by_cases h1 : j < a
    · have h2 : j < b := by omega
      rw [decide_eq_true h1, Bool.true_and] at ih
      rw [decide_eq_true h2, Bool.true_and]
      split
      · rw [fillK_bit d1 d2 _ _ _ (by omega), ih]
        have : (decide (a ≤ j) && decide (j < a + (b - a))) = false := by
          rw [Bool.and_eq_false_iff, decide_eq_false_iff_not, decide_eq_false_iff_not]
          omega
        rw [this, Bool.or_false]
      · exact ih
    · rw [decide_eq_false h1, Bool.false_and] at ih
      by_cases h2 : j < b
      · rw [decide_eq_true h2, Bool.true_and, hr (by omega) h2]
        split
        · rename_i ho
          rw [fillK_bit d1 d2 _ _ _ (by omega), ih, ho, decide_eq_true (show a ≤ j by omega), decide_eq_true (show j < a + (b - a) by omega)]
          rfl
        · rename_i ho
          rw [ih]
          cases hb : oddB k
          · rfl
          · exact absurd hb ho
      · rw [decide_eq_false h2, Bool.false_and]
        split
        · rw [fillK_bit d1 d2 _ _ _ (by omega), ih, decide_eq_false (show ¬ j < a + (b - a) by omega), Bool.and_false]
          rfl
        · exact ih
/-- what was packed is found again -/
theorem dec_pack {M : List Int} (hM : M.length = 16) (h16 : is16 M) : decA (pmL M) = M := by
  obtain ⟨a1, a2⟩ := decA_ok (pmL M)
  refine mask_extK a1 hM a2 h16 fun j hj => ?_
  have ih := decK_bit M (pmL M).length (Nat.le_refl _) j hj
  have R := runs_all M 256
  have hs : sumN (pmL M) (pmL M).length = (pmTo M 256).2.1 := R.sum
  have ho : (pmTo M 256).2.2 = oddB (pmL M).length := R.odd
  have hl := R.last j
  have h256 := pmL_sum M
  obtain ⟨d1, d2⟩ := decK_ok (pmL M) (pmL M).length
  have e1 : atK (pmL M) (pmL M).length = sumN (pmL M) (pmL M).length := by unfold atK; omega
  rw [← hs, ho] at hl
  rw [decA, e1]
  generalize sumN (pmL M) (pmL M).length = a at *
  by_cases h1 : j < a
  · rw [decide_eq_true h1, Bool.true_and] at ih
    split
    · rw [fillK_bit d1 d2 _ _ _ (by omega), ih]
      have : (decide (a ≤ j) && decide (j < a + (256 - a))) = false := by
        rw [Bool.and_eq_false_iff, decide_eq_false_iff_not, decide_eq_false_iff_not]
        omega
      rw [this, Bool.or_false]
    · exact ih
  · rw [decide_eq_false h1, Bool.false_and] at ih
    rw [hl (by omega) hj]
    split
    · rename_i hodd
      rw [fillK_bit d1 d2 _ _ _ (by omega), ih, hodd, decide_eq_true (show a ≤ j by omega), decide_eq_true (show j < a + (256 - a) by omega)]
      rfl
    · rename_i hodd
      rw [ih]
      cases hb : oddB (pmL M).length
      · rfl
      · exact absurd hb hodd
/-- what is told of bytes that may be those of a mask -/
def unM (d : List Int) : List Int := if pmL (decA d) = d then decA d else zr16
def unC (d : List Int) : Int := if pmL (decA d) = d then 0 else 5
theorem un_long {d : List Int} (h : 256 < sumN d d.length ∨ 256 < d.length) : pmL (decA d) ≠ d := fun e => by
  have h1 := pmL_sum (decA d)
  have h2 := pmL_length (decA d)
  rw [e] at h1 h2
  omega
end Go.Proofs.Ytmagaapdijapiaa
namespace Go.Proofs.Ytmagaapdijapiaa
open Go.ChangeShapes Go.WideShapes Go.ChangeAt Go.RowKit
def GivesPk (D : List Int) (w : World) (e : Ending) (w' : World) : Prop :=
  ∃ g c, e = .returned (.slice (some ⟨g, 0, none⟩) D.length c) ∧ Own w' w.heap.size w'.heap.size 5 1 (some ⟨g, 0, none⟩) D.length c (D.map (.int .u8)) ∧ Below w.heap.size w w'
theorem pm_same {M : List Int} {k : Nat} {O : List Int} {f : Nat} {s : Bool} (h : pmTo M k = (O, f, s)) (hb : bitK M k = s) : pmTo M (k + 1) = (O, f, s) := by rw [pmTo_same (by rw [h]; exact hb), h]
theorem pm_turn {M : List Int} {k r : Nat} {O : List Int} {f : Nat} {s : Bool} (h : pmTo M k = (O, f, s)) (hr : f + r = k) (hb : ¬ bitK M k = s) : pmTo M (k + 1) = (O ++ [(r : Int)], k, !s) := by
  rw [pmTo_turn (by rw [h]; exact hb), h]
  show (O ++ [((k - f : Nat) : Int)], k, !s) = _
  rw [show k - f = r by omega]
theorem pm_len {M : List Int} {k : Nat} {O : List Int} {f : Nat} {s : Bool} (h : pmTo M k = (O, f, s)) : O.length ≤ k := by
  have := pmTo_length M k
  rw [h] at this
  exact this
set_option maxRecDepth 20000 in
set_option maxHeartbeats 3200000 in
theorem sPackMask_any (M : List Int) (hM : M.length = 16) (h16 : is16 M) (w : World) :
    Calls Try.prog 45 #[.agg (ivs .u16 M)] w (GivesPk (pmL M) w) := by
  obtain ⟨i0, hi, iz0, iz1, iz2⟩ := info_parts Byte_info
  have h0 : Blk (w.alloc (.cells (ivs .u16 M) 76)) w.heap.size 76 (ivs .u16 M) := Blk.newAt rfl rfl
  have H0 := Lib.hid h0
  clear h0
  go_enter Try.func45, Try.ntmps45
  go_wp2
  go_loopw [3, 4, 5, 6] (fun v o q i wr => ∃ (k : Nat) (O : List Int) (f : Nat) (s : Bool) (r : Nat) (g cc : Nat), k ≤ 256 ∧ v = .slice (some ⟨g, 0, none⟩) O.length cc ∧ o = .bool s ∧ q = .int .i64 r ∧ i = .int .i64 k ∧ Hid (pmTo M k = (O, f, s)) ∧ Hid (f + r = k) ∧ Hid (wr.ownsRow (w.heap.size + 1) 5 1 (.slice (some ⟨g, 0, none⟩) O.length cc) O.length (O.map (.int .u8))) ∧ Hid (Blk wr w.heap.size 76 (ivs .u16 M)) ∧ w.heap.size + 1 ≤ wr.heap.size ∧ Hid (Below w.heap.size w wr)) (fun _ _ _ i _ => 256 - (intOf i).toNat)
  case atStart =>
    refine ⟨0, [], 0, false, 0, _, _, by omega, rfl, rfl, rfl, rfl, Lib.hid rfl, Lib.hid rfl, Lib.hid ?_, Lib.hid (H0.out.alloc _), by simp, Lib.hid (((Below.refl _ _).alloc (Nat.le_refl _) _).alloc (by simp) _)⟩
    have := World.ownsRow_lit (e := 5) (base := w.heap.size + 1) (size := 1) (w.alloc (.cells (ivs .u16 M) 76)) #[] 0 (by simp) (by unfold maxLen; omega) rfl
    rw [size_alloc] at this
    exact this
  case round =>
    clear H0
    obtain ⟨k, O, f, s, r, g, cc, hk, rfl, rfl, rfl, rfl, HP, HF, HO, H0, hz, HB⟩ := hrel
    have hlen := pm_len HP.out
    by_cases hlt : k < 256
    · have hkI : (k : Int) < 256 := by omega
      have hk0 : (0 : Int) ≤ k := by omega
      have hr255 : (r : Int) ≤ 255 := by have := HF.out; omega
      have hr0 : (0 : Int) ≤ r := by omega
      obtain ⟨u, hu⟩ : ∃ u : Nat, (k : Int) % 16 = u := ⟨k % 16, by omega⟩
      obtain ⟨v, hv⟩ : ∃ v : Nat, (k : Int) / 16 = v := ⟨k / 16, by omega⟩
      have HX := Lib.hid (l07Has_any w.heap.size M hM h16 u v (by omega) (by omega) wr H0.out)
      have hbk : bitB M u v = bitK M k := by rw [bitK, show k % 16 = u by omega, show k / 16 = v by omega]
      rw [hbk] at HX
      have HSM := Lib.hid (fun h => pm_same HP.out h)
      have HTN := Lib.hid (fun h => pm_turn HP.out HF.out h)
      have HF1 : Hid (f + (r + 1) = k + 1) := Lib.hid (by have := HF.out; omega)
      clear HP HF hbk
      by_cases hbs : bitK M k = s
      · have HS2 := Lib.hid (HSM.out hbs)
        rw [hbs] at HX
        clear HSM HTN hbs
        cases s
        all_goals
          go_wp2_with (go_at_call 89; refine HX.out.mono ?_; rintro e w2 ⟨rfl, hb2⟩; have hz2 := hb2.size; have HO2 := Lib.hid (own_below HO.out hb2 (Nat.le_refl _)); have H2 := Lib.hid (H0.out.below hb2 H0.out.lt); have HB2 := Lib.hid (HB.out.trans (hb2.mono (by omega))); clear hb2)
          exact ⟨⟨k + 1, O, f, _, r + 1, g, cc, by omega, rfl, rfl, by go_num, by go_num, HS2, HF1, HO2, H2, by omega, HB2⟩, by simp [intOf]; omega⟩
      · have HT2 := Lib.hid (HTN.out hbs)
        have hne : bitK M k = !s := by cases hq : bitK M k <;> cases s <;> first | rfl | exact absurd hq hbs
        rw [hne] at HX
        clear HSM HTN hbs hne HF1
        cases s
        all_goals
          go_wp2_with (first
            | (go_at_call 89; refine HX.out.mono ?_; rintro e w2 ⟨rfl, hb2⟩; have hz2 := hb2.size; have HO2 := Lib.hid (own_below HO.out hb2 (Nat.le_refl _)); have H2 := Lib.hid (H0.out.below hb2 H0.out.lt); have HB2 := Lib.hid (HB.out.trans (hb2.mono (by omega))); clear hb2; have HN2 := Lib.hid (Blk.news (k := .u8) (l := [(r : Int)]) (t := 5) (w := w2.alloc (.cells #[.int .u8 (r : Int)] 5)) (g := w2.heap.size) (Blk.newAt rfl rfl)))
            | (at_builtin; refine wpList_append_own _ rfl _ _ 40 rfl (w.heap.size + 1) 5 i0 _ 1 1 Try.underlying40 hi iz0 iz1 iz2 rfl (by decide) (.slice (some ⟨g, 0, none⟩) O.length cc) O.length _ rfl (HO2.out.alloc _) ⟨w2.heap.size, 0, none⟩ 1 1 ([(r : Int)].map (.int .u8)) rfl rfl HN2.out ints_one (by unfold maxLen; omega) (by omega) (by rw [size_alloc]; omega) ?_; intro v' w3 hown' hgrow _; rw [← List.map_append] at hown'; have HOWN := Lib.hid hown'; have HGR := Lib.hid hgrow; clear hown' hgrow))
          obtain ⟨A1, c1', hve, hOO⟩ := Own.of_row HOWN.out
          obtain ⟨g2, cur1, hA1, _⟩ := hOO.at_ (by omega)
          subst hve hA1
          have hne := fun j e => (HO2.out.lt j e).1
          exact ⟨⟨k + 1, O ++ [(r : Int)], k, _, 1, g2, c1', by omega, by rw [List.length_append]; rfl, rfl, by go_num, by go_num, HT2, Lib.hid rfl, Lib.hid (by rw [List.length_append]; exact HOWN.out), Lib.hid ((H2.out.alloc _).grown HGR.out (fun e => by have := hne _ e.symm; omega)), by have := HGR.out.size; rw [size_alloc] at this; omega, Lib.hid ((HB2.out.alloc (by omega) _).grown HGR.out (by rw [size_alloc]; omega) (fun j e => by have := hne j e; omega))⟩, by simp [intOf]; omega⟩
    · obtain rfl : k = 256 := by omega
      have HE : Hid (pmL M = O) := Lib.hid (by rw [pmL, HP.out])
      obtain ⟨A1, c1', hve, hO⟩ := Own.of_row HO.out
      cases hve
      have HOO := Lib.hid hO
      clear hO
      go_wp2
      go_ret
      exact ⟨g, cc, by rw [HE.out]; rfl, by rw [HE.out]; exact HOO.out.less (by omega), HB.out⟩
end Go.Proofs.Ytmagaapdijapiaa
namespace Go.Proofs.Ytmagaapdijapiaa
open Go.ChangeShapes Go.WideShapes Go.ChangeAt Go.RowKit
theorem only_setNew {a w : World} {row : Option Nat} (h : a.grownBy w row) {p : Addr} (hp : a.heap.size ≤ p.block) (u : Value) : a.grownBy (w.setCell p u) row :=
  ⟨h.os, h.tape, h.output, by simpa [World.setCell] using h.size, fun i hi hne => (Below.heap_setCell w p u i (by omega)).trans (h.block i hi hne)⟩
theorem Src.drew {W : World} {g : Nat} {A : Option Addr} {n c k : Nat} (h : Src W g A n c k) : Src W.drew g A n c k := by
  obtain ⟨s, h0, h1, hb⟩ := h
  exact ⟨s, h0, h1, hb.drew⟩
theorem Src.other {W W' : World} {g : Nat} {A : Option Addr} {n c k : Nat} (h : Src W g A n c k) (hb : W'.heap[g]? = W.heap[g]?) : Src W' g A n c k := by
  obtain ⟨s, h0, h1, hs⟩ := h
  exact ⟨s, h0, h1, hb.trans hs⟩
set_option maxHeartbeats 1600000 in
theorem pickB_any (g : Nat) (A : Option Addr) (n c : Nat) (l : List Int) (hl : l.length = n) (h255 : is255 l) (k : Nat) (hk : k < 900000000) (hn : n ≤ 1000000000) (w : World) (hs : Src w g A n c k) (hR : Rd w g 1 A n (l.map (.int .u8))) :
    Calls Try.prog 62 #[.pointer (some ⟨g, 0, none⟩), .int .i64 65536] w fun e w' => (∃ v : Int, 0 ≤ v ∧ v < 65536 ∧ e = .returned (.int .i64 v)) ∧ Gone w g A n c k 2 w' := by
  have hx := next_any g A n c l hl h255 k (by omega) hn w hs hR
  have HX := Lib.hid hx
  have HR := Lib.hid hR
  have hgl := hs.lt
  clear hx hs hR
  go_enter Try.func62, Try.ntmps62
  go_wp2_with fail
  refine HX.out.mono ?_
  rintro e w2 ⟨⟨v, hv0, hv1, rfl⟩, hs2, hg2⟩
  have hz2 := hg2.size
  have hR2 := HR.out.grown hg2 (by omega) (fun g' e => by cases e; omega)
  have HY := Lib.hid (next_any g A n c l hl h255 (k + 1) (by omega) hn w2 hs2 hR2)
  have HG2 := Lib.hid hg2
  clear hs2 hg2 hR2 HX HR
  go_wp2_with fail
  refine HY.out.mono ?_
  rintro e w3 ⟨⟨y, hy0, hy1, rfl⟩, hs3, hg3⟩
  have HS3 := Lib.hid hs3
  have HG3 := Lib.hid hg3
  clear hs3 hg3 HY
  go_wp2
  go_ret
  exact ⟨⟨_, Int.emod_nonneg _ (by omega), Int.emod_lt_of_pos _ (by omega), rfl⟩, ⟨⟨k + 2, by omega, HS3.out⟩, HG2.out.trans HG3.out⟩⟩
/-- the masks' blocks and the source, as they stand while a mask is made -/
structure MkR (w : World) (g : Nat) (A : Option Addr) (n c : Nat) (M : List Int) (k : Nat) (wx : World) : Prop where
  len : M.length = 16
  m16 : is16 M
  res : Blk wx w.heap.size 76 (ivs .u16 zr16)
  blk : Blk wx (w.heap.size + 1) 76 (ivs .u16 M)
  src : Src wx g A n c k
  gro : w.grownBy wx (some g)
  lt : g < w.heap.size
section
variable {w wx w2 : World} {g n c k : Nat} {A : Option Addr} {M : List Int}
theorem MkR.drew (h : MkR w g A n c M k wx) : MkR w g A n c M k wx.drew := ⟨h.len, h.m16, h.res.drew, h.blk.drew, h.src.drew, only_drew h.gro, h.lt⟩
theorem MkR.gone (h : MkR w g A n c M k wx) {d : Nat} (h2 : Gone wx g A n c k d w2) : ∃ k2, k2 ≤ k + d ∧ MkR w g A n c M k2 w2 := by
  obtain ⟨⟨k2, hk2, hs2⟩, hg2⟩ := h2
  have := h.lt
  exact ⟨k2, hk2, h.len, h.m16, h.res.grown hg2 (fun e => by cases e; omega), h.blk.grown hg2 (fun e => by cases e; omega), hs2, h.gro.trans hg2, h.lt⟩
theorem MkR.set (h : MkR w g A n c M k wx) (v : Nat) {x : Int} (h0 : 0 ≤ x) (h1 : x < 65536) : MkR w g A n c (M.set v x) k (wx.setCell ⟨w.heap.size + 1, v, none⟩ (.int .u16 x)) := by
  have := h.lt
  refine ⟨by rw [List.length_set]; exact h.len, fun y hy => ?_, h.res.far (show w.heap.size ≠ w.heap.size + 1 by omega) _, h.blk.setI _ _, ?_, only_setNew h.gro (show w.heap.size ≤ w.heap.size + 1 by omega) _, h.lt⟩
  · rcases List.mem_or_eq_of_mem_set hy with hy | rfl
    · exact h.m16 y hy
    · exact ⟨h0, h1⟩
  · exact h.src.other (Below.heap_setCell _ _ _ _ (show g ≠ w.heap.size + 1 by omega))
theorem MkR.cell (h : MkR w g A n c M k wx) {v : Nat} (hv : v < 16) : wx.cell? ⟨w.heap.size + 1, v, none⟩ = some (.int .u16 (M.getD v 0)) := h.blk.getAtG (i := v) (by rw [h.len]; exact hv)
theorem MkR.free (h : MkR w g A n c M k wx) (v : Nat) : wx.frozen? ⟨w.heap.size + 1, v, none⟩ = false := h.blk.frozen v
end
theorem or16 (a b : Int) : 0 ≤ bits .or .u16 a b ∧ bits .or .u16 a b < 65536 := wrap16 _
set_option maxRecDepth 20000 in
set_option maxHeartbeats 6400000 in
theorem l07Mask_any (g : Nat) (A : Option Addr) (n c : Nat) (l : List Int) (hl : l.length = n) (h255 : is255 l) (k : Nat) (hk : k < 700000000) (hn : n ≤ 1000000000) (w : World) (hs : Src w g A n c k) (hR : Rd w g 1 A n (l.map (.int .u8))) :
    Calls Try.prog 64 #[.pointer (some ⟨g, 0, none⟩)] w fun e w' => (∃ M : List Int, M.length = 16 ∧ is16 M ∧ e = .returned (.agg (ivs .u16 M))) ∧ Gone w g A n c k 40 w' := by
  have hgl := hs.lt
  have HP : Hid (∀ (m : Int), 2 ≤ m → m ≤ 200 → ∀ (M : List Int) (k' : Nat) (W : World), k' ≤ k + 40 → MkR w g A n c M k' W → Calls Try.prog 62 #[.pointer (some ⟨g, 0, none⟩), .int .i64 m] W fun e w' => (∃ v : Int, 0 ≤ v ∧ v < m ∧ e = .returned (.int .i64 v)) ∧ Gone W g A n c k' 1 w') := Lib.hid (fun m h1 h2 _ k' W hk' h' => pick_any m h1 h2 g A n c l hl h255 k' (by omega) hn W h'.src (hR.grown h'.gro (by omega) (fun g' e => by cases e; omega)))
  have HB : Hid (∀ (M : List Int) (k' : Nat) (W : World), k' ≤ k + 40 → MkR w g A n c M k' W → Calls Try.prog 62 #[.pointer (some ⟨g, 0, none⟩), .int .i64 65536] W fun e w' => (∃ v : Int, 0 ≤ v ∧ v < 65536 ∧ e = .returned (.int .i64 v)) ∧ Gone W g A n c k' 2 w') := Lib.hid (fun _ k' W hk' h' => pickB_any g A n c l hl h255 k' (by omega) hn W h'.src (hR.grown h'.gro (by omega) (fun g' e => by cases e; omega)))
  have HO : Hid (∀ (M : List Int) (k' : Nat) (W : World), k' ≤ k + 40 → MkR w g A n c M k' W → Calls Try.prog 109 #[.pointer (some ⟨g, 0, none⟩), .int .i64 3] W fun e w' => (∃ b : Bool, e = .returned (.bool b)) ∧ Gone W g A n c k' 1 w') := Lib.hid (fun _ k' W hk' h' => one_any 3 (by decide) (by decide) g A n c l hl h255 k' (by omega) hn W h'.src (hR.grown h'.gro (by omega) (fun g' e => by cases e; omega)))
  have h0 : MkR w g A n c zr16 k ((w.alloc (.cells (ivs .u16 zr16) 76)).alloc (.cells (ivs .u16 zr16) 76)) :=
    ⟨rfl, zr16_16, (Blk.newAt rfl rfl).alloc _, Blk.newAt (by simp) rfl, hs.other (((Below.heap_alloc _ _ _ (by simp; omega)).trans (Below.heap_alloc _ _ _ hgl))), only_alloc (only_alloc (World.grownBy.refl _ _) _) _, hgl⟩
  have H0 := Lib.hid h0
  clear h0 hR hs
  go_enter Try.func64, Try.ntmps64
  go_upto_block 0 with (go_at_call 62; refine (HP.out 4 (by decide) (by decide) _ _ _ (by omega) H0.out).mono ?_; rintro e w2 ⟨⟨r, hr0, hr1, rfl⟩, hg2⟩; obtain ⟨k2, hk2, h2⟩ := H0.out.gone hg2; have H2 := Lib.hid h2; clear h2 hg2)
  clear H0
  go_cut [4, 5, 6, 7, 8] from 12 to 65 (fun _ _ _ _ _ wx => ∃ (M : List Int) (k' : Nat), k' ≤ k + 40 ∧ Hid (MkR w g A n c M k' wx))
  case first =>
    have hcs : r = 0 ∨ r = 1 ∨ r = 2 ∨ r = 3 := by omega
    rcases hcs with rfl | rfl | rfl | rfl
    · go_wp2_with (go_at_call 62; refine (HP.out 6 (by decide) (by decide) _ _ _ (by omega) H2.out).mono ?_; rintro e w3 ⟨⟨q, hq0, hq1, rfl⟩, hg3⟩; obtain ⟨k3, hk3, h3⟩ := H2.out.gone hg3; have H3 := Lib.hid h3; clear h3 hg3)
      obtain ⟨q', rfl⟩ := Int.eq_ofNat_of_zero_le hq0
      clear H2 hq0
      go_loopw [4] (fun v wr => ∃ (j : Nat) (M : List Int) (k' : Nat), j ≤ 5 ∧ v = .int .i64 j ∧ k' + 2 * j ≤ k + 12 ∧ Hid (MkR w g A n c M k' wr)) (fun v _ => (intOf v).toNat)
      case atStart => exact ⟨q', zr16, k3, by omega, rfl, by omega, H3⟩
      case round =>
        clear H3
        obtain ⟨j, M, k', hj, rfl, hkk, HM⟩ := hrel
        by_cases hj0 : 0 < j
        · have hji : (0 : Int) < j := by omega
          go_upto_block 2 with fail
          go_cut [4] from 20 to 29 (fun v wx => v = .int .i64 j ∧ ∃ (M : List Int) (k2 : Nat), k2 ≤ k' + 2 ∧ Hid (MkR w g A n c M k2 wx))
          case first =>
            go_wp2_with fail
            go_region_with (first
              | (go_at_call 62; refine (HP.out 16 (by decide) (by decide) M k5 w5 (by omega) H5.out).mono ?_; rintro e w6 ⟨⟨u, hu0, hu1, rfl⟩, hg6⟩; obtain ⟨k6, hk6, h6⟩ := H5.out.gone hg6; obtain ⟨u', rfl⟩ := Int.eq_ofNat_of_zero_le hu0; have c6 := h6.cell (v := v') (by omega); have f6 := h6.free v'; have hwu : IntKind.u64.wrap (u' : Int) = u' := (by have h : IntKind.u64.wrap (u' : Int) = (u' : Int) % 18446744073709551616 := rfl; omega); have H6 := Lib.hid h6; clear h6 hg6)
              | (go_at_call 62; refine (HP.out 16 (by decide) (by decide) M k' wr.drew (by omega) HM.out.drew).mono ?_; rintro e w5 ⟨⟨v, hv0, hv1, rfl⟩, hg5⟩; obtain ⟨k5, hk5, h5⟩ := HM.out.drew.gone hg5; obtain ⟨v', rfl⟩ := Int.eq_ofNat_of_zero_le hv0; have c5 := h5.cell (v := v') (by omega); have f5 := h5.free v'; have H5 := Lib.hid h5; clear h5 hg5))
            all_goals
              go_wp2_with fail
              go_meet
              exact ⟨rfl, _, k6, by omega, Lib.hid (H6.out.set v' (or16 _ _).1 (or16 _ _).2)⟩
          case rest =>
            obtain ⟨rfl, M2, k2, hk2', HM2⟩ := hcut
            go_wp2
            exact ⟨⟨j - 1, M2, k2, by omega, by go_num, by omega, HM2⟩, by simp [intOf]; omega⟩
        · obtain rfl : j = 0 := by omega
          go_wp2_with fail
          go_meet
          exact ⟨M, k', by omega, HM⟩
    · go_wp2_with fail
      go_loopw [5] (fun v wr => ∃ (y : Nat) (M : List Int) (k' : Nat), y ≤ 16 ∧ v = .int .i64 y ∧ k' ≤ k + 1 + 2 * y ∧ Hid (MkR w g A n c M k' wr)) (fun v _ => 16 - (intOf v).toNat)
      case atStart => exact ⟨0, zr16, k2, by omega, rfl, by omega, H2⟩
      case round =>
        clear H2
        obtain ⟨y, M, k', hy, rfl, hkk, HM⟩ := hrel
        by_cases hy0 : y < 16
        · have hyi : (y : Int) < 16 := by omega
          go_wp2_with (go_at_call 62; refine (HB.out M k' _ (by omega) HM.out).mono ?_; rintro e w5 ⟨⟨v, hv0, hv1, rfl⟩, hg5⟩; obtain ⟨k5, hk5, h5⟩ := HM.out.gone hg5; have c5 := h5.cell (v := y) (by omega); have f5 := h5.free y; have hwv : IntKind.u16.wrap v = v := (by rw [IntKind.wrap_u16]; omega); have H5 := Lib.hid h5; clear h5 hg5)
          exact ⟨⟨y + 1, _, k5, by omega, by go_num, by omega, Lib.hid (H5.out.set y hv0 hv1)⟩, by simp [intOf]; omega⟩
        · obtain rfl : y = 16 := by omega
          go_wp2_with fail
          go_meet
          exact ⟨M, k', by omega, HM⟩
    · go_wp2_with (first
        | (go_at_call 62; refine (HP.out 8 (by decide) (by decide) _ k3 w3 (by omega) H3.out).mono ?_; rintro e w4 ⟨⟨y, hy0, hy1, rfl⟩, hg4⟩; obtain ⟨k4, hk4, h4⟩ := H3.out.gone hg4; have H4 := Lib.hid h4; clear h4 hg4)
        | (go_at_call 62; refine (HP.out 10 (by decide) (by decide) _ k2 w2 (by omega) H2.out).mono ?_; rintro e w3 ⟨⟨x, hx0, hx1, rfl⟩, hg3⟩; obtain ⟨k3, hk3, h3⟩ := H2.out.gone hg3; have hwx : IntKind.u64.wrap x = x := (by have h : IntKind.u64.wrap x = x % 18446744073709551616 := rfl; omega); have H3 := Lib.hid h3; clear h3 hg3))
      obtain ⟨x', rfl⟩ := Int.eq_ofNat_of_zero_le hx0
      obtain ⟨y', rfl⟩ := Int.eq_ofNat_of_zero_le hy0
      clear H2 H3
      go_loopw [7] (fun v wr => ∃ (y : Nat) (M : List Int), y ≤ 16 ∧ v = .int .i64 y ∧ Hid (MkR w g A n c M k4 wr)) (fun v _ => 16 - (intOf v).toNat)
      case atStart => exact ⟨y', zr16, by omega, rfl, H4⟩
      case round =>
        clear H4
        obtain ⟨y, M, hy, rfl, HM⟩ := hrel
        by_cases hyl : y < 16
        · have hyi : (y : Int) < 16 := by omega
          have c5 := HM.out.cell (v := y) hyl
          have f5 := HM.out.free y
          go_wp2
          exact ⟨⟨y + 1, _, by omega, by go_num, Lib.hid (HM.out.set y (wrap16 _).1 (wrap16 _).2)⟩, by simp [intOf]; omega⟩
        · obtain rfl : y = 16 := by omega
          go_wp2_with fail
          go_meet
          exact ⟨M, k4, by omega, HM⟩
    · go_wp2_with (go_at_call 109; refine (HO.out _ k2 w2 (by omega) H2.out).mono ?_; rintro e w3 ⟨⟨b, rfl⟩, hg3⟩; obtain ⟨k3, hk3, h3⟩ := H2.out.gone hg3; have H3 := Lib.hid h3; clear h3 hg3; cases b)
      · go_wp2_with fail
        go_meet
        exact ⟨_, k3, by omega, H3⟩
      · go_wp2_with fail
        clear H2
        go_loopw [8] (fun v wr => ∃ (y : Nat) (M : List Int), y ≤ 16 ∧ v = .int .i64 y ∧ Hid (MkR w g A n c M k3 wr)) (fun v _ => 16 - (intOf v).toNat)
        case atStart => exact ⟨0, zr16, by omega, rfl, H3⟩
        case round =>
          clear H3
          obtain ⟨y, M, hy, rfl, HM⟩ := hrel
          by_cases hyl : y < 16
          · have hyi : (y : Int) < 16 := by omega
            have c5 := HM.out.cell (v := y) hyl
            have f5 := HM.out.free y
            go_wp2
            exact ⟨⟨y + 1, _, by omega, by go_num, Lib.hid (HM.out.set y (by decide) (by decide))⟩, by simp [intOf]; omega⟩
          · obtain rfl : y = 16 := by omega
            go_wp2_with fail
            go_meet
            exact ⟨M, k3, by omega, HM⟩
  case rest =>
    obtain ⟨M, k', hk', HM⟩ := hcut
    have hM := HM.out.len
    go_wp2_with (first
      | refine wpList_load_row rfl _ _ rfl (w.heap.size + 1) rfl 76 (ivs .u16 M) (0, 0) _ HM.out.blk Try.underlying76 rfl (by rw [ivs_size, hM]; exact size76) ?_
      | refine wpList_store_row rfl _ _ _ rfl w.heap.size (ivs .u16 M) rfl rfl 76 (ivs .u16 zr16) HM.out.res (by rw [ivs_size, hM]; exact size76) (by first | (rw [ivs_size, ivs_size, hM]; rfl) | rw [ivs_size, ivs_size, hM]) ivs_one ?_)
    refine bodyPost_ret (results_cell_row rfl _ _ w.heap.size 76 (ivs .u16 M) (0, 0) _ rfl (HM.out.res.row _) Try.underlying76 rfl (by rw [ivs_size, hM]; exact size76)) rfl ⟨⟨M, hM, HM.out.m16, rfl⟩, ⟨k', by omega, HM.out.src.other ?_⟩, ?_⟩
    · exact setRow_other _ _ _ _ (by have := HM.out.lt; omega)
    · exact ⟨HM.out.gro.os, HM.out.gro.tape, HM.out.gro.output, by rw [size_setRow]; exact HM.out.gro.size, fun i hi hne => (setRow_other _ _ _ _ (by omega)).trans (HM.out.gro.block i hi hne)⟩
end Go.Proofs.Ytmagaapdijapiaa
namespace Go.Proofs.Ytmagaapdijapiaa
open Go.ChangeShapes Go.WideShapes Go.ChangeAt Go.RowKit
theorem l00FromY_any (A : Option Addr) (n c : Nat) (w : World) :
    Calls Try.prog 61 #[.slice A n c] w fun e w' => e = .returned (.pointer (some ⟨w.heap.size, 0, none⟩)) ∧ Src w' w.heap.size A n c 0 ∧ Below w.heap.size w w' := by
  go_enter Try.func61, Try.ntmps61
  go_wp2
  go_ret
  exact ⟨rfl, ⟨0, by omega, by omega, Blk.newAt rfl rfl⟩, (Below.refl _ _).alloc (Nat.le_refl _) _⟩
theorem near_added {l l' : List Bl} {X Y : Int} {M : List Int} (hl : Small l) (hf : l.length ≤ 2) (hX : -1 ≤ X ∧ X ≤ 1) (hY : -1 ≤ Y ∧ Y ≤ 1) (h : Added l [X, Y] M l') : Small l' ∧ l'.length ≤ l.length + 1 := by
  obtain ⟨h1, h2, h3⟩ := h
  refine ⟨⟨h1, by omega, fun b hb => ?_⟩, h2⟩
  have hm := maskAt_of_mem h1.apart hb
  rw [h3] at hm
  by_cases e : b.1 = [X, Y]
  · rw [e]
    exact ⟨hX, hY⟩
  · rw [if_neg e] at hm
    have hne : maskAt l b.1 ≠ zr16 := by rw [hm]; exact h1.noVoid b hb
    have hmem := mem_of_maskAt hne
    have := hl.near _ hmem
    exact this
section
attribute [local go_sem ↓] exec_ldCorner
attribute [local go_sem] run_ldCorner
set_option maxRecDepth 20000 in
set_option maxHeartbeats 6400000 in
theorem A2Picture_any (A : Option Addr) (n c : Nat) (l : List Int) (hl : l.length = n) (h255 : is255 l) (hn : n ≤ 1000000) (w : World) (hR : Rd w w.heap.size 1 A n (l.map (.int .u8))) :
    Calls Try.prog 22 #[.slice A n c] w fun e w' => ∃ (P : List Bl) (A' : Option Addr) (c' : Nat), Small P ∧ e = .returned (.slice A' P.length c') ∧ Own w' w.heap.size w'.heap.size 78 18 A' P.length c' (bcs P) ∧ Below w.heap.size w w' := by
  have HR := Lib.hid hR
  have HPK : Hid (∀ (m : Int), 2 ≤ m → m ≤ 200 → ∀ (k : Nat) (W : World), k ≤ 1000 → Src W w.heap.size A n c k → Below w.heap.size w W → Calls Try.prog 62 #[.pointer (some ⟨w.heap.size, 0, none⟩), .int .i64 m] W fun e w' => (∃ v : Int, 0 ≤ v ∧ v < m ∧ e = .returned (.int .i64 v)) ∧ Gone W w.heap.size A n c k 1 w') := Lib.hid (fun m h1 h2 k W hk hs hb => pick_any m h1 h2 w.heap.size A n c l hl h255 k (by omega) (by omega) W hs (hR.below hb (Nat.le_refl _)))
  have HMK : Hid (∀ (k : Nat) (W : World), k ≤ 1000 → Src W w.heap.size A n c k → Below w.heap.size w W → Calls Try.prog 64 #[.pointer (some ⟨w.heap.size, 0, none⟩)] W fun e w' => (∃ M : List Int, M.length = 16 ∧ is16 M ∧ e = .returned (.agg (ivs .u16 M))) ∧ Gone W w.heap.size A n c k 40 w') := Lib.hid (fun k W hk hs hb => l07Mask_any w.heap.size A n c l hl h255 k (by omega) (by omega) W hs (hR.below hb (Nat.le_refl _)))
  clear hR hl h255
  go_enter Try.func22, Try.ntmps22
  go_wp2_with (first
    | (go_at_call 61; refine (l00FromY_any A n c w).mono ?_; rintro e w1 ⟨rfl, hs1, hb1⟩; have hz1 := hs1.lt; have HS1 := Lib.hid (hs1.other (W' := w1.alloc (.cells #[] 78)) (Below.heap_alloc _ _ _ hs1.lt)); have B1 := Lib.hid (hb1.alloc (show w.heap.size ≤ w1.heap.size by omega) (.cells #[] 78)); have O1 : Hid (Own (w1.alloc (.cells #[] 78)) (w.heap.size + 1) (w1.alloc (.cells #[] 78)).heap.size 78 18 (some ⟨w1.heap.size, 0, none⟩) 0 0 (bcs [])) := Lib.hid ⟨rfl, .inr ⟨w1.heap.size, #[], rfl, by omega, by rw [size_alloc]; omega, Blk.newAt rfl rfl, Nat.le_refl _, by unfold maxLen; omega, rfl, rfl⟩⟩; clear hs1 hb1)
    | (go_at_call 62; refine (HPK.out 4 (by decide) (by decide) 0 _ (by omega) HS1.out B1.out).mono ?_; rintro e w2 ⟨⟨q, hq0, hq1, rfl⟩, ⟨⟨k2, hk2, hs2⟩, hg2⟩⟩; have HS2 := Lib.hid hs2; have HG2 := Lib.hid hg2; clear hs2 hg2))
  obtain ⟨q', rfl⟩ := Int.eq_ofNat_of_zero_le hq0
  have hzz := HG2.out.size
  have B2 : Hid (Below w.heap.size w w2) := Lib.hid (B1.out.grown HG2.out (by rw [size_alloc]; omega) (fun g e => by cases e; omega))
  have O2 : Hid (Own w2 (w.heap.size + 1) w2.heap.size 78 18 (some ⟨w1.heap.size, 0, none⟩) 0 0 (bcs [])) := Lib.hid ((O1.out.grown HG2.out (fun g e => by cases e; omega)).more hzz)
  clear HS1 B1 O1 HG2 hzz
  go_loopw [4, 5] (fun v i wr => ∃ (j k : Nat) (P : List Bl) (A' : Option Addr) (m c' : Nat), j ≤ 3 ∧ i = .int .i64 j ∧ v = .slice A' m c' ∧ m = P.length ∧ P.length + j ≤ 3 ∧ k + 50 * j ≤ 200 ∧ Hid (Small P) ∧ Hid (Own wr (w.heap.size + 1) wr.heap.size 78 18 A' m c' (bcs P)) ∧ Hid (Src wr w.heap.size A n c k) ∧ Hid (Below w.heap.size w wr)) (fun _ i _ => (intOf i).toNat)
  case atStart => exact ⟨q', k2, [], _, 0, 0, by omega, rfl, rfl, rfl, by simp; omega, by omega, Lib.hid Small.nil, O2, HS2, B2⟩
  case round =>
    clear O2 HS2 B2
    obtain ⟨j, k, P, A', m, c', hj, rfl, rfl, rfl, hPj, hkk, HS, HO, HSR, HB⟩ := hrel
    by_cases hj0 : 0 < j
    · have hji : (0 : Int) < j := by omega
      go_upto_block 1 with fail
      go_cut [4, 6] from 16 to 29 (fun v _ wx => ∃ (k2 : Nat) (P2 : List Bl) (A2 : Option Addr) (m2 c2 : Nat), v = .slice A2 m2 c2 ∧ m2 = P2.length ∧ P2.length + j ≤ 4 ∧ k2 ≤ k + 50 ∧ Hid (Small P2) ∧ Hid (Own wx (w.heap.size + 1) wx.heap.size 78 18 A2 m2 c2 (bcs P2)) ∧ Hid (Src wx w.heap.size A n c k2) ∧ Hid (Below w.heap.size w wx))
      case first =>
        have hwlt := HSR.out.lt
        go_upto_region 7 with (first
          | (go_at_call 62; refine (HPK.out 3 (by decide) (by decide) k3 w3 (by omega) HS3.out B3.out).mono ?_; rintro e w4 ⟨⟨y, hy0, hy1, rfl⟩, ⟨⟨k4, hk4, hs4⟩, hg4⟩⟩; have z4 := hg4.size; have HS4 := Lib.hid hs4; have B4 := Lib.hid (B3.out.grown hg4 (by omega) (fun g e => by cases e; omega)); have O4 := Lib.hid ((O3.out.grown hg4 (fun g e => by cases e; omega)).more z4); have hwy : IntKind.i32.wrap y = y := (by rw [IntKind.wrap_i32]; omega); have hwy1 : IntKind.i32.wrap (y - 1) = y - 1 := (by rw [IntKind.wrap_i32]; omega); clear hs4 hg4)
          | (go_at_call 62; refine (HPK.out 3 (by decide) (by decide) k wr (by omega) HSR.out HB.out).mono ?_; rintro e w3 ⟨⟨x, hx0, hx1, rfl⟩, ⟨⟨k3, hk3, hs3⟩, hg3⟩⟩; have z3 := hg3.size; have HS3 := Lib.hid hs3; have B3 := Lib.hid (HB.out.grown hg3 (by omega) (fun g e => by cases e; omega)); have O3 := Lib.hid ((HO.out.grown hg3 (fun g e => by cases e; omega)).more z3); have hwx : IntKind.i32.wrap x = x := (by rw [IntKind.wrap_i32]; omega); have hwx1 : IntKind.i32.wrap (x - 1) = x - 1 := (by rw [IntKind.wrap_i32]; omega); clear hs3 hg3))
        have hX : -1 ≤ x - 1 ∧ x - 1 ≤ 1 := by omega
        have hY : -1 ≤ y - 1 ∧ y - 1 ≤ 1 := by omega
        have HXY := Lib.hid (And.intro hX hY)
        clear hX hY HO HSR HB HS3 B3 O3 hwx hwy hwx1 hwy1
        generalize x - 1 = X at *
        generalize y - 1 = Y at *
        have K7 : Hid (Blk (w4.alloc (.cells #[.int .i32 X, .int .i32 Y] 63)) w4.heap.size 63 (ivs .i32 [X, Y])) := Lib.hid (Blk.newAt rfl rfl)
        have S7 := Lib.hid (HS4.out.other (W' := w4.alloc (.cells #[.int .i32 X, .int .i32 Y] 63)) (Below.heap_alloc _ _ _ HS4.out.lt))
        have B7 := Lib.hid (B4.out.alloc B4.out.size (.cells #[.int .i32 X, .int .i32 Y] 63))
        have O7 : Hid (Own (w4.alloc (.cells #[.int .i32 X, .int .i32 Y] 63)) (w.heap.size + 1) (w4.alloc (.cells #[.int .i32 X, .int .i32 Y] 63)).heap.size 78 18 A' P.length c' (bcs P)) := Lib.hid ((O4.out.below ((Below.refl _ _).alloc (Nat.le_refl _) _) (Nat.le_refl _)).more (by rw [size_alloc]; omega))
        have z7 : w4.heap.size < (w4.alloc (.cells #[.int .i32 X, .int .i32 Y] 63)).heap.size := by rw [size_alloc]; omega
        have hw4 := B4.out.size
        have hl4 := HS4.out.lt
        clear HS4 B4 O4
        generalize w4.alloc (.cells #[.int .i32 X, .int .i32 Y] 63) = w7 at *
        have r1 : rowAt w7.drew w4.heap.size 0 2 = #[.int .i32 X, .int .i32 Y] := K7.out.drew.rowAt_eq rfl
        have r2 : hasRow w7.drew w4.heap.size 0 2 = true := K7.out.drew.hasRow_eq rfl
        go_region_law (go_simp; first
          | (go_at_call 63; refine (l07Add_own A' P.length c' P rfl HS.out.pic (by omega) X Y M hM h16 (w.heap.size + 1) w8 (by omega) O8.out).mono ?_; rintro e w9 ⟨A9, c9, l9, rfl, hadd, hO9, hb9⟩; have HADD := Lib.hid hadd; have O9 := Lib.hid hO9; have S9 := Lib.hid (S8.out.other (hb9.block _ S8.out.lt)); have B9 := Lib.hid (B8.out.trans (hb9.mono (by omega))); clear hadd hO9 hb9)
          | (go_at_call 64; refine (HMK.out k4 w7.drew (by omega) S7.out.drew (below_drew B7.out)).mono ?_; rintro e w8 ⟨⟨M, hM, h16, rfl⟩, ⟨⟨k8, hk8, hs8⟩, hg8⟩⟩; have z8 : w7.heap.size ≤ w8.heap.size := hg8.size; have K8 := K7.out.drew.grown hg8 (fun e => by have := Option.some.inj e; omega); have r5 : rowAt w8 w4.heap.size 0 2 = #[.int .i32 X, .int .i32 Y] := K8.rowAt_eq rfl; have r6 : hasRow w8 w4.heap.size 0 2 = true := K8.hasRow_eq rfl; have S8 := Lib.hid hs8; have B8 := Lib.hid ((below_drew B7.out).grown hg8 (by show w.heap.size ≤ w7.heap.size; omega) (fun g e => by have := Option.some.inj e; omega)); have O8 := Lib.hid ((O7.out.drew.grown hg8 (fun g e => by have := Option.some.inj e; omega)).more z8); clear hs8 hg8 K8))
        all_goals
          go_wp2_with fail
          go_meet
          obtain ⟨n1, n2⟩ := near_added HS.out (by omega) HXY.out.1 HXY.out.2 HADD.out
          exact ⟨k8, l9, A9, l9.length, c9, rfl, rfl, by omega, by omega, Lib.hid n1, O9, S9, B9⟩
      case rest =>
        obtain ⟨k2, P2, A2, m2, c2, rfl, rfl, hp2, hk2', HS2, HO2, HSR2, HB2⟩ := hcut
        go_wp2
        exact ⟨⟨j - 1, k2, P2, A2, _, c2, by omega, by go_num, rfl, rfl, by omega, by omega, HS2, HO2, HSR2, HB2⟩, by simp [intOf]; omega⟩
    · obtain rfl : j = 0 := by omega
      go_wp2
      go_ret
      exact ⟨P, A', c', HS.out, rfl, HO.out.less (by omega), HB.out⟩
end
end Go.Proofs.Ytmagaapdijapiaa
namespace Go.Proofs.Ytmagaapdijapiaa
open Go.ChangeShapes Go.WideShapes Go.ChangeAt Go.RowKit
set_option maxRecDepth 20000 in
theorem run_equal_block (b : Bl) (hb : b.1.length = 2 ∧ b.2.length = 16) (W : World) : (Op.equalIn 10000 78 (.agg (bav b)) (.agg (bav b))).run Try.prog W = .ok true W := by
  obtain ⟨i0, hi0, -, -, -⟩ := info_parts I32_info
  obtain ⟨iu, hiu, -, -, -⟩ := info_parts U16_info
  obtain ⟨C, M⟩ := b
  have hC : C.length = 2 := hb.1
  have hM : M.length = 16 := hb.2
  have h1 : ∀ W : World, (Op.equalIn 9999 63 (.agg (ivs .i32 C)) (.agg (ivs .i32 C))).run Try.prog W = .ok true W := fun W => by
    rw [run_equalIn_array W 9998 _ _ Try.underlying63 hi0, show Try.prog.cellsOf 21 = 1 by kernel_rfl, List.range_eq_range']
    have := run_eqItems_ivs (P := Try.prog) W (d := 9997) (k := .i32) (a := C) (b := C) Try.underlying21 rfl 2 0 (by omega)
    rw [beq_self_eq_true] at this
    exact this
  have h2 : ∀ W : World, (Op.equalIn 9999 76 (.agg (ivs .u16 M)) (.agg (ivs .u16 M))).run Try.prog W = .ok true W := fun W => by
    rw [run_equalIn_array W 9998 _ _ Try.underlying76 hiu, show Try.prog.cellsOf 74 = 1 by kernel_rfl, List.range_eq_range']
    have := run_eqItems_ivs (P := Try.prog) W (d := 9997) (k := .u16) (a := M) (b := M) Try.underlying74 rfl 16 0 (by omega)
    rw [beq_self_eq_true] at this
    exact this
  have p1 : ∀ W : World, (part 63 (bav (C, M)) 0).run Try.prog W = .ok (.agg (ivs .i32 C)) W := fun W => by
    have e : (bav (C, M)).extract 0 2 = ivs .i32 C := by
      match C, hC, M, hM with
      | [a, b], _, [c, d, e, f, g, h, i, j, k, l, m, n, o, p, q, r], _ => rfl
    simp [part, isAgg, run_underlying Try.underlying63, e]
  have p2 : ∀ W : World, (part 76 (bav (C, M)) 2).run Try.prog W = .ok (.agg (ivs .u16 M)) W := fun W => by
    have e : (bav (C, M)).extract 2 18 = ivs .u16 M := by
      match C, hC, M, hM with
      | [a, b], _, [c, d, e, f, g, h, i, j, k, l, m, n, o, p, q, r], _ => rfl
    simp [part, isAgg, run_underlying Try.underlying76, e]
  rw [run_equalIn_struct W 9999 _ _ _ (by kernel_rfl) (by kernel_rfl)]
  simp [Op.eqFields, Program.fieldsOf, Try.underlying78, p1, p2, h1, h2]
section
attribute [local go_sem ↓] exec_loadBlock
attribute [local go_sem] run_ldBlock rowAt_drewN hasRow_drewN
set_option maxRecDepth 20000 in
set_option maxHeartbeats 1600000 in
theorem sSamePicture_same (A A' : Option Addr) (n c c' : Nat) (l : List Bl) (hl : l.length = n) (hrow : Bls l) (hn : n ≤ 100000000) (w : World) (hR : Rd w w.heap.size 18 A n (bcs l)) (hR' : Rd w w.heap.size 18 A' n (bcs l)) :
    Calls Try.prog 28 #[.slice A n c, .slice A' n c'] w fun e w' => e = .returned (.bool true) ∧ Below w.heap.size w w' := by
  have HR := Lib.hid hR
  have HR' := Lib.hid hR'
  have Hl := Lib.hid hl
  clear hR hR' hl
  go_enter Try.func28, Try.ntmps28
  go_wp2
  go_loopw [5] (fun i wr => ∃ k : Nat, k ≤ n ∧ i = .int .i64 k ∧ Below w.heap.size w wr) (fun i _ => n - (intOf i).toNat)
  case atStart => exact ⟨0, by omega, rfl, Below.refl _ _⟩
  case round =>
    obtain ⟨k, hk, rfl, hb⟩ := hrel
    by_cases hlt : k < n
    · obtain ⟨b, o, rfl, hbB, hc⟩ := (HR.out.below hb (Nat.le_refl _)).at_ (by omega)
      obtain ⟨b', o', rfl, hbB', hc'⟩ := (HR'.out.below hb (Nat.le_refl _)).at_ (by omega)
      have hkl : k < l.length := by rw [Hl.out]; exact hlt
      have r1 := rowAt_vals ((HR.out.below hb (Nat.le_refl _)).block hrow (by have := Hl.out; omega) hkl)
      have r2 := rowAt_vals ((HR'.out.below hb (Nat.le_refl _)).block hrow (by have := Hl.out; omega) hkl)
      rw [bvs_length (hrow.at_ hkl)] at r1 r2
      obtain ⟨r1, r3⟩ := r1
      obtain ⟨r2, r4⟩ := r2
      rw [show (bvs l[k]).toArray = bav l[k] from rfl] at r1 r2
      have heq := fun W => run_equal_block l[k] (hrow.at_ hkl) W
      generalize bav l[k] = F at *
      have hi1 : (k : Int) < (n : Int) := by omega
      clear hc hbB hc' hbB' hkl
      go_wp2_with fail
      go_quiet (fail)
      go_wp2
      exact ⟨⟨k + 1, by omega, by go_num, below_drewN hb _⟩, by simp [intOf]; omega⟩
    · have : k = n := by omega
      subst this
      go_wp2
      go_ret
      exact ⟨rfl, hb⟩
set_option maxRecDepth 20000 in
set_option maxHeartbeats 1600000 in
theorem equalBlk_same (A A' : Option Addr) (n c c' : Nat) (l : List Bl) (hl : l.length = n) (hrow : Bls l) (hn : n ≤ 100000000) (w : World) (hR : Rd w w.heap.size 18 A n (bcs l)) (hR' : Rd w w.heap.size 18 A' n (bcs l)) :
    Calls Try.prog 81 #[.slice A n c, .slice A' n c'] w fun e w' => e = .returned (.bool true) ∧ Below w.heap.size w w' := by
  have HR := Lib.hid hR
  have HR' := Lib.hid hR'
  have Hl := Lib.hid hl
  clear hR hR' hl
  go_enter Try.func81, Try.ntmps81
  go_wp2
  go_loopw [5, 13] (fun _ i wr => ∃ k : Nat, k ≤ n ∧ i = .int .i64 k ∧ Below w.heap.size w wr) (fun _ i _ => n - (intOf i).toNat)
  case atStart => exact ⟨0, by omega, rfl, Below.refl _ _⟩
  case round =>
    obtain ⟨k, hk, rfl, hb⟩ := hrel
    by_cases hlt : k < n
    · obtain ⟨b, o, rfl, hbB, hc⟩ := (HR.out.below hb (Nat.le_refl _)).at_ (by omega)
      obtain ⟨b', o', rfl, hbB', hc'⟩ := (HR'.out.below hb (Nat.le_refl _)).at_ (by omega)
      have hkl : k < l.length := by rw [Hl.out]; exact hlt
      have r1 := rowAt_vals ((HR.out.below hb (Nat.le_refl _)).block hrow (by have := Hl.out; omega) hkl)
      have r2 := rowAt_vals ((HR'.out.below hb (Nat.le_refl _)).block hrow (by have := Hl.out; omega) hkl)
      rw [bvs_length (hrow.at_ hkl)] at r1 r2
      obtain ⟨r1, r3⟩ := r1
      obtain ⟨r2, r4⟩ := r2
      rw [show (bvs l[k]).toArray = bav l[k] from rfl] at r1 r2
      have heq := fun W => run_equal_block l[k] (hrow.at_ hkl) W
      generalize bav l[k] = F at *
      have hi1 : (k : Int) < (n : Int) := by omega
      clear hc hbB hc' hbB' hkl
      go_wp2_with fail
      go_quiet (fail)
      go_wp2
      exact ⟨⟨k + 1, by omega, by go_num, below_drewN hb _⟩, by simp [intOf]; omega⟩
    · have : k = n := by omega
      subst this
      go_wp2
      go_ret
      exact ⟨rfl, hb⟩
theorem iSamePicture_same (A A' : Option Addr) (n c c' : Nat) (l : List Bl) (hl : l.length = n) (hrow : Bls l) (hn : n ≤ 100000000) (w : World) (hR : Rd w w.heap.size 18 A n (bcs l)) (hR' : Rd w w.heap.size 18 A' n (bcs l)) :
    Calls Try.prog 37 #[.slice A n c, .slice A' n c'] w fun e w' => e = .returned (.bool true) ∧ Below w.heap.size w w' := by
  have HX := Lib.hid (equalBlk_same A A' n c c' l hl hrow hn w hR hR')
  clear hR hR' hl hrow
  go_enter Try.func37, Try.ntmps37
  go_wp2_with (go_at_call 81; refine HX.out.mono ?_; rintro e w2 ⟨rfl, hb⟩; have HB := Lib.hid hb; clear hb)
  go_ret
  exact ⟨rfl, HB.out⟩
end
theorem results_row_tmp3 {P : Program} {fn : Func} {p u v x : Tmp} {ty : TypeId} (h : fn.results = #[.cell p ty, .tmp u, .tmp v, .tmp x]) (tmps : Array Value) (w : World) (g : Nat) (t : TypeId) (cs : Array Value) (fr : Nat × Nat) (d : TypeDesc)
    (hp : tmps.getD p undef = .pointer (some ⟨g, 0, none⟩)) (hg : w.heap[g]? = some (.cells cs t fr))
    (hu : P.underlying ty = some d) (hd : (match d with | .struct _ | .array _ _ => true | _ => false) = true) (hi : (P.info? ty).map (·.size) = some cs.size) :
    (results fn tmps).run P w = .ok (.tuple #[.agg cs, tmps.getD u undef, tmps.getD v undef, tmps.getD x undef]) w := by
  have hp' : tmps[p]?.getD undef = .pointer (some ⟨g, 0, none⟩) := by simpa using hp
  simp [results, h, hp', asAddr, run_loadVar_row w g t ty cs fr d hg hu hd hi]
set_option maxHeartbeats 1600000 in
theorem iBlockAt_in (x y : Int) (hc : cellB x y = true) (w : World) :
    Calls Try.prog 35 #[.int .i64 x, .int .i64 y] w fun e w' => e = .returned (.tuple #[.agg (ivs .i32 [x / 16, y / 16]), .int .i64 (x % 16), .int .i64 (y % 16), .int .i64 0]) ∧ Below w.heap.size w w' := by
  have h1 := fun W => isCell_any x y W
  rw [hc] at h1
  have hin : (-1000000 ≤ x ∧ x ≤ 1000000) ∧ (-1000000 ≤ y ∧ y ≤ 1000000) := by
    simp only [cellB, inB, Bool.and_eq_true, decide_eq_true_iff] at hc
    omega
  have h2 := fun W => blockAt_any x y (by omega) (by omega) W
  have b0 : Below w.heap.size w (w.alloc (.cells (ivs .i32 [0, 0]) 63)) := (Below.refl _ _).alloc (Nat.le_refl _) _
  have H1 := Lib.hid h1
  have H2 := Lib.hid h2
  have B0 := Lib.hid b0
  have K0 : Hid (Blk (w.alloc (.cells (ivs .i32 [0, 0]) 63)) w.heap.size 63 (ivs .i32 [0, 0])) := Lib.hid (Blk.newAt rfl rfl)
  clear h1 h2 hin hc b0
  go_enter Try.func35, Try.ntmps35
  go_wp2_with (first
    | (go_at_call 76; refine (H1.out _).mono ?_; rintro e w2 ⟨rfl, rfl⟩)
    | (go_at_call 79; refine (H2.out _).mono ?_; rintro e w3 ⟨rfl, hb3⟩; have B3 := Lib.hid (B0.out.trans (hb3.mono B0.out.size)); have K3 := Lib.hid (K0.out.below hb3 K0.out.lt); clear hb3)
    | refine wpList_store_row rfl _ _ _ rfl w.heap.size (ivs .i32 [x / 16, y / 16]) rfl rfl 63 (ivs .i32 [0, 0]) (K3.out.alloc _) (by exact size63) rfl ivs_one ?_)
  exact bodyPost_ret (results_row_tmp3 rfl _ _ w.heap.size 63 (ivs .i32 [x / 16, y / 16]) (0, 0) _ rfl ((K3.out.alloc _).row _) Try.underlying63 rfl (by exact size63)) rfl ⟨rfl, below_setRow (B3.out.alloc B3.out.size _) (Nat.le_refl _) _⟩
end Go.Proofs.Ytmagaapdijapiaa
