/- slices.Chunk over bytes, 16 at a time: the iterator's contract. -/
import Derived.RangeFuncNested
import Derived.RangeFuncBound
import Derived.RangeFuncCalls
import Derived.RangeFuncLeaves
import Derived.RangeFuncBox
import Derived.Shelf.Abstract
import Derived.Shelf.RegionOpen
import Derived.WalkKit
import Derived.OwnWalkIn
import Derived.TacticsInMore
import Derived.LoopNIn
import Derived.LoopIn
import Derived.Test.YtmagaapdijapiaaRows
import Derived.Test.YtmagaapdijapiaaSb
import Derived.Test.YtmagaapdijapiaaCk
namespace Go.Proofs.Ytmagaapdijapiaa
open Go.ChangeShapes Go.WideShapes Go.ChangeAt Go.RowKit Go.Shelf

attribute [local go_sem] Oper.semAt_some

def chunkAtw (n k : Nat) : Nat := if 16 * k < n then k else 0
def chunkLenw (n k : Nat) : Nat := min 16 (n - 16 * chunkAtw n k)
def chunkVw (b o n k : Nat) : Value := .slice (some ⟨b, o + 16 * chunkAtw n k, none⟩) (chunkLenw n k) (chunkLenw n k)

set_option maxRecDepth 100000 in
set_option maxHeartbeats 2000000 in
theorem chunk1_inw (F : Fence) (fn : Nat) (h82 : F.fn 113) (hro : F.round = none) (hfn : 1 ≤ fn) (l Bs Bn b o n c : Nat) (A : Option Addr) (hA : 0 < n → A = some ⟨b, o, none⟩) (hn : n ≤ 9000) (hnc : n ≤ c) (hc63 : c ≤ 9223372036854775807) (J Jx : List Nat → World → Prop)
    (hY : ∀ pre x W, J pre W → pre.length < (n + 15) / 16 → YieldAt F (fn - 1) Try.prog l #[chunkVw b o n x] W fun e W' =>
      (e = .returned (.bool true) ∧ J (pre ++ [x]) W' ∧ KpC Bs Bn W W') ∨ (e = .returned (.bool false) ∧ Jx (pre ++ [x]) W'))
    (hJd : ∀ pre W, J pre W → J pre W.drew)
    (W : World) (hcs : W.cell? ⟨Bs, 0, none⟩ = some (.slice A n c)) (hcn : W.cell? ⟨Bn, 0, none⟩ = some (.int .i64 16)) (h0 : J [] W) :
    CallsIn F fn Try.prog 113 #[.func (.yield l) #[] #[], .pointer (some ⟨Bs, 0, none⟩), .pointer (some ⟨Bn, 0, none⟩)] W fun e W' => (∃ v, e = .returned v) ∧
      ((∃ ys, ys = List.range ((n + 15) / 16) ∧ J ys W') ∨ (∃ pre, True ∧ Jx pre W')) := by
  refine callsIn_of_wp Try.func113 rfl h82 ?_ hro
  simp only [Try.ntmps113, List.size_toArray, List.length_cons, List.length_nil, Nat.reduceAdd, Nat.reduceSub, Array.replicate_succ, Array.replicate_zero, List.push_toArray, List.append_toArray, List.nil_append, List.cons_append]
  gi_wp2
  gi_loopw [4, 5] (fun i _ wr => ∃ k : Nat, k ≤ (n + 15) / 16 ∧ i = .int .i64 ((16 * k : Nat) : Int) ∧ J (List.range k) wr ∧ KpC Bs Bn W wr)
    (fun i _ _ => n + 32 - (intOf i).toNat)
  case atStart => exact ⟨0, Nat.zero_le _, rfl, h0, KpC.refl _ _ _⟩
  case round =>
    obtain ⟨k, hk, rfl, hJs, hnx⟩ := hrel
    have hs1 : wr.cell? ⟨Bs, 0, none⟩ = some (.slice A n c) := hnx.s.trans hcs
    have hs2 : wr.cell? ⟨Bn, 0, none⟩ = some (.int .i64 16) := hnx.n.trans hcn
    by_cases hlt : k < (n + 15) / 16
    · rw [hA (by omega)] at hs1
      have b1 : 16 * (k : Int) < (n : Int) := by omega
      obtain ⟨yf, ytmps, assign, body, hy, hR⟩ := hY _ k wr.drew (hJd _ _ hJs) (by rw [List.length_range]; exact hlt)
      have hca : chunkAtw n k = k := by rw [chunkAtw, if_pos (by omega)]
      obtain ⟨e, he⟩ : ∃ e : Nat, e = min 16 (n - 16 * k) := ⟨_, rfl⟩
      have hcv : chunkVw b o n k = .slice (some ⟨b, o + 16 * k, none⟩) e e := by rw [chunkVw, chunkLenw, hca, ← he]
      rw [hcv] at hy
      have hmin : (if ((n - 16 * k : Nat) : Int) < 16 then ((n - 16 * k : Nat) : Int) else 16) = (e : Int) := by
        rw [he]
        split <;> omega
      have he1 : 1 ≤ e := by omega
      have he2 : 16 * k + e ≤ n := by omega
      have he3 : 16 * (k : Int) + (e : Int) ≤ (n : Int) := by omega
      have he4 : 16 * (k : Int) + (e : Int) ≤ (c : Int) := by omega
      have he5 : (0 : Int) ≤ (e : Int) := by omega
      have Hmin := Lib.hid hmin
      have HY := Lib.hid hY
      have hrs : List.range (k + 1) = List.range k ++ [k] := List.range_succ
      have Hrs := Lib.hid hrs
      clear he hcv hca hmin hrs hY
      gi_wp2
      gi_region
      all_goals (try (exfalso; omega))
      all_goals rw [Hmin.out]
      all_goals
        gi_wp2
        refine hR.mono ?_
        rintro e' W3 (⟨rfl, hJ3, hk3⟩ | ⟨rfl, hJx3⟩)
        · have hn3 : KpC Bs Bn W W3 := hnx.drew.trans hk3
          have hs3 : W3.cell? ⟨Bn, 0, none⟩ = some (.int .i64 16) := hn3.n.trans hcn
          gi_wp2
          go_roundw
          case rel => exact ⟨k + 1, by omega, by congr 1, by rw [Hrs.out]; exact hJ3, hn3⟩
          case measure => simp [intOf]; omega
        · gi_wp2
          refine bodyPost_ret (results_none rfl _ _ _) rfl ?_
          exact ⟨⟨_, rfl⟩, .inr ⟨_, trivial, hJx3⟩⟩
    · have hkn : k = (n + 15) / 16 := by omega
      have b1 : (n : Int) ≤ 16 * (k : Int) := by omega
      gi_wp2
      go_end0
      exact ⟨⟨_, rfl⟩, .inl ⟨_, by rw [hkn], hJs⟩⟩

set_option maxHeartbeats 1000000 in
theorem chunk_inw (F : Fence) (fn : Nat) (h77 : F.fn 67) (hro : F.round = none) (a : Option Addr) (n c : Nat) (w : World) :
    CallsIn F fn Try.prog 67 #[.slice a n c, .int .i64 16] w fun e w' => e = .returned (.func (.func 113) #[] #[.pointer (some ⟨w.heap.size, 0, none⟩), .pointer (some ⟨w.heap.size + 1, 0, none⟩)]) ∧ w' = (w.alloc (.cells #[.slice a n c] 40)).alloc (.cells #[.int .i64 16] 3) := by
  refine callsIn_of_wp Try.func67 rfl h77 ?_ hro
  simp only [Try.ntmps67, List.size_toArray, List.length_cons, List.length_nil, Nat.reduceAdd, Nat.reduceSub, Array.replicate_succ, Array.replicate_zero, List.push_toArray, List.append_toArray, List.nil_append, List.cons_append]
  gi_wp2
  go_ret
  exact ⟨by simp, rfl⟩

theorem chunk_stopsw (F : Fence) (fn : Nat) (h82 : F.fn 113) (hro : F.round = none) (hfn : 1 ≤ fn) (Bs Bn b o n c : Nat) (A : Option Addr) (hA : 0 < n → A = some ⟨b, o, none⟩) (hn : n ≤ 9000) (hnc : n ≤ c) (hc63 : c ≤ 9223372036854775807) (w : World) (hBs : Bs < w.heap.size) (hBn : Bn < w.heap.size)
    (hcs : w.cell? ⟨Bs, 0, none⟩ = some (.slice A n c)) (hcn : w.cell? ⟨Bn, 0, none⟩ = some (.int .i64 16)) :
    SeqStopsK F fn Try.prog 113 #[.pointer (some ⟨Bs, 0, none⟩), .pointer (some ⟨Bn, 0, none⟩)] (fun x : Nat => #[chunkVw b o n x]) (KpC Bs Bn) (fun ys => ys = List.range ((n + 15) / 16)) (fun _ => True) ((n + 15) / 16) w := fun l J Jx W hW hJ _ hY h0 =>
  chunk1_inw F fn h82 hro hfn l Bs Bn b o n c A hA hn hnc hc63 J Jx hY (fun pre W1 h => hJ pre W1 W1.drew none h (only_drew (World.grownBy.refl W1 none)) (fun r e => by cases e)) W ((hW.cell (p := ⟨Bs, 0, none⟩) hBs).trans hcs) ((hW.cell (p := ⟨Bn, 0, none⟩) hBn).trans hcn) h0
end Go.Proofs.Ytmagaapdijapiaa
