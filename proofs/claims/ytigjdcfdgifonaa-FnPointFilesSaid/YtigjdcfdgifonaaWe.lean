/- The code of a word: plain law, the reference's walk. -/
import Derived.Test.YtigjdcfdgifonaaRows
import Derived.Test.YtigjdcfdgifonaaWd
import Derived.Test.YtigjdcfdgifonaaSl
import Derived.Laws.BitsAllLaws
namespace Go.Proofs.Ytigjdcfdgifonaa
open Go.ChangeShapes Go.WideShapes Go.ChangeAt Go.RowKit
theorem size76 : (Try.prog.info? 76).map (·.size) = some 16 := by kernel_rfl

/-- whether bit p of a word's code is set -/
def wbit (s : ByteArray) (p : Nat) : Bool := decide (lt (bAt s (p / 3)) / 2 ^ (2 - p % 3) % 2 = 1)
def cw (s : ByteArray) : Nat → List Int
  | 0 => (s.size : Int) :: List.replicate 15 0
  | p + 1 => if wbit s p then (cw s p).set (1 + p / 8) (bits .or .u8 ((cw s p).getD (1 + p / 8) 0) (2 ^ (7 - p % 8) % 256)) else cw s p
theorem cw_length (s : ByteArray) : ∀ p, (cw s p).length = 16
  | 0 => rfl
  | p + 1 => by
    rw [cw]
    split
    · rw [List.length_set, cw_length s p]
    · exact cw_length s p
def wcV (s : ByteArray) : List Int := if wOk s then cw s (3 * s.size) else List.replicate 16 0
def wcC (s : ByteArray) : Int := if wOk s then 0 else 1
theorem wcV_length (s : ByteArray) : (wcV s).length = 16 := by
  unfold wcV
  split
  · exact cw_length _ _
  · simp
theorem results_row_tmp {P : Program} {fn : Func} {p u : Tmp} {ty : TypeId} (h : fn.results = #[.cell p ty, .tmp u]) (tmps : Array Value) (w : World) (g : Nat) (t : TypeId) (cs : Array Value) (fr : Nat × Nat) (d : TypeDesc)
    (hp : tmps.getD p undef = .pointer (some ⟨g, 0, none⟩)) (hg : w.heap[g]? = some (.cells cs t fr))
    (hu : P.underlying ty = some d) (hd : (match d with | .struct _ | .array _ _ => true | _ => false) = true) (hi : (P.info? ty).map (·.size) = some cs.size) :
    (results fn tmps).run P w = .ok (.tuple #[.agg cs, tmps.getD u undef]) w := by
  have hp' : tmps[p]?.getD undef = .pointer (some ⟨g, 0, none⟩) := by simpa using hp
  simp [results, h, hp', asAddr, run_loadVar_row w g t ty cs fr d hg hu hd hi]

theorem wbit_b (s : ByteArray) (k b : Nat) (hb : b < 3) : wbit s (3 * k + b) = decide (lt (bAt s k) / 2 ^ (2 - b) % 2 = 1) := by
  rw [wbit, show (3 * k + b) / 3 = k by omega, show (3 * k + b) % 3 = b by omega]
theorem btest (v : Int) (h0 : 0 ≤ v) (h1 : v ≤ 7) : (bits .and .i64 v 1 == 1) = decide (v % 2 = 1) := by
  rcases (by omega : v = 0 ∨ v = 1 ∨ v = 2 ∨ v = 3 ∨ v = 4 ∨ v = 5 ∨ v = 6 ∨ v = 7) with rfl | rfl | rfl | rfl | rfl | rfl | rfl | rfl <;> decide
theorem cw_no {s : ByteArray} {p : Nat} (h : wbit s p = false) : cw s (p + 1) = cw s p := by rw [cw, if_neg (by rw [h]; decide)]
theorem cw_yes {s : ByteArray} {p : Nat} (h : wbit s p = true) : cw s (p + 1) = (cw s p).set (1 + p / 8) (bits .or .u8 ((cw s p).getD (1 + p / 8) 0) (2 ^ (7 - p % 8) % 256)) := by rw [cw, if_pos h]
/-- what a round of the inner loop needs of place p = 3 i + b -/
structure Rnd (s : ByteArray) (i b : Nat) : Prop where
  q : (3 * (i : Int) + b) / 8 = (((3 * i + b) / 8 : Nat) : Int)
  lt : (3 * i + b) / 8 < 15

set_option maxRecDepth 20000 in
set_option maxHeartbeats 6400000 in
theorem sCodeOfWord_any (s : ByteArray) (hs : s.size ≤ 1048576) (w : World) :
    Calls Try.prog 59 #[.string s] w fun e w' => e = .returned (.tuple #[.agg (ivs .u8 (wcV s)), .int .i64 (wcC s)]) ∧ Below w.heap.size w w' := by
  have hok := fun W => l05Ok_any s hs W
  have r1 : Blk ((w.alloc (.cells #[.int .u8 0, .int .u8 0, .int .u8 0, .int .u8 0, .int .u8 0, .int .u8 0, .int .u8 0, .int .u8 0, .int .u8 0, .int .u8 0, .int .u8 0, .int .u8 0, .int .u8 0, .int .u8 0, .int .u8 0, .int .u8 0] 76)).alloc (.cells #[.int .u8 0, .int .u8 0, .int .u8 0, .int .u8 0, .int .u8 0, .int .u8 0, .int .u8 0, .int .u8 0, .int .u8 0, .int .u8 0, .int .u8 0, .int .u8 0, .int .u8 0, .int .u8 0, .int .u8 0, .int .u8 0] 76)) w.heap.size 76 (ivs .u8 (List.replicate 16 0)) := (Blk.newAt rfl rfl).alloc _
  have r2 : Blk ((w.alloc (.cells #[.int .u8 0, .int .u8 0, .int .u8 0, .int .u8 0, .int .u8 0, .int .u8 0, .int .u8 0, .int .u8 0, .int .u8 0, .int .u8 0, .int .u8 0, .int .u8 0, .int .u8 0, .int .u8 0, .int .u8 0, .int .u8 0] 76)).alloc (.cells #[.int .u8 0, .int .u8 0, .int .u8 0, .int .u8 0, .int .u8 0, .int .u8 0, .int .u8 0, .int .u8 0, .int .u8 0, .int .u8 0, .int .u8 0, .int .u8 0, .int .u8 0, .int .u8 0, .int .u8 0, .int .u8 0] 76)) (w.heap.size + 1) 76 (ivs .u8 (List.replicate 16 0)) := Blk.newAt (by simp) rfl
  have b2 : Below w.heap.size w ((w.alloc (.cells #[.int .u8 0, .int .u8 0, .int .u8 0, .int .u8 0, .int .u8 0, .int .u8 0, .int .u8 0, .int .u8 0, .int .u8 0, .int .u8 0, .int .u8 0, .int .u8 0, .int .u8 0, .int .u8 0, .int .u8 0, .int .u8 0] 76)).alloc (.cells #[.int .u8 0, .int .u8 0, .int .u8 0, .int .u8 0, .int .u8 0, .int .u8 0, .int .u8 0, .int .u8 0, .int .u8 0, .int .u8 0, .int .u8 0, .int .u8 0, .int .u8 0, .int .u8 0, .int .u8 0, .int .u8 0] 76)) := ((Below.refl _ _).alloc (Nat.le_refl _) _).alloc (by simp) _
  have r3 := r1.rowFar (show w.heap.size ≠ w.heap.size + 1 by omega) (ivs .u8 (List.replicate 16 0))
  have r4 := r2.row (ivs .u8 (List.replicate 16 0))
  have b3 := below_setRow b2 (g := w.heap.size + 1) (by omega) (ivs .u8 (List.replicate 16 0))
  rcases hw : wOk s with _ | _
  · have e2 : wcV s = List.replicate 16 0 := by rw [wcV, hw]; rfl
    have e3 : wcC s = 1 := by rw [wcC, hw]; rfl
    rw [e2, e3]
    rw [hw] at hok
    have HOK := Lib.hid hok
    clear hok hw e2 e3
    go_enter Try.func59, Try.ntmps59
    go_wp2_with (first
      | refine wpList_store_row rfl _ _ _ rfl (w.heap.size + 1) (ivs .u8 (List.replicate 16 0)) rfl rfl 76 _ r2 (by rw [ivs_size]; exact size76) (by simp [ivs_size]) ivs_one ?_
      | (go_at_call 87; refine (HOK.out _).mono ?_; rintro e w' ⟨rfl, rfl⟩)
      | refine wpList_load_row rfl _ _ rfl (w.heap.size + 1) rfl 76 (ivs .u8 (List.replicate 16 0)) (0, 0) _ r4 Try.underlying76 rfl (by rw [ivs_size]; exact size76) ?_
      | refine wpList_store_row rfl _ _ _ rfl w.heap.size (ivs .u8 (List.replicate 16 0)) rfl rfl 76 _ r3 (by rw [ivs_size]; exact size76) (by simp [ivs_size]) ivs_one ?_)
    exact bodyPost_ret (results_row_tmp rfl _ _ w.heap.size 76 (ivs .u8 (List.replicate 16 0)) (0, 0) _ rfl (r3.row _) Try.underlying76 rfl (by rw [ivs_size]; exact size76)) rfl ⟨rfl, below_setRow b3 (by omega) _⟩
  · have e2 : wcV s = cw s (3 * s.size) := by rw [wcV, hw]; rfl
    have e3 : wcC s = 0 := by rw [wcC, hw]; rfl
    rw [e2, e3]
    have h40 := wOk_size hw
    have hL := fun k hk => wOk_isL (k := k) hw hk
    rw [hw] at hok
    have HOK := Lib.hid hok
    have HL := Lib.hid hL
    clear hok hw e2 e3 hL
    have hw8 : (s.size : Int) % 256 = s.size := by omega
    have q3 : Blk (((w.alloc (.cells #[.int .u8 0, .int .u8 0, .int .u8 0, .int .u8 0, .int .u8 0, .int .u8 0, .int .u8 0, .int .u8 0, .int .u8 0, .int .u8 0, .int .u8 0, .int .u8 0, .int .u8 0, .int .u8 0, .int .u8 0, .int .u8 0] 76)).alloc (.cells #[.int .u8 0, .int .u8 0, .int .u8 0, .int .u8 0, .int .u8 0, .int .u8 0, .int .u8 0, .int .u8 0, .int .u8 0, .int .u8 0, .int .u8 0, .int .u8 0, .int .u8 0, .int .u8 0, .int .u8 0, .int .u8 0] 76)).setRow (w.heap.size + 1) (ivs .u8 [0, 0, 0, 0, 0, 0, 0, 0, 0, 0, 0, 0, 0, 0, 0, 0])) w.heap.size 76 (ivs .u8 (List.replicate 16 0)) := r3
    have q4 : Blk (((w.alloc (.cells #[.int .u8 0, .int .u8 0, .int .u8 0, .int .u8 0, .int .u8 0, .int .u8 0, .int .u8 0, .int .u8 0, .int .u8 0, .int .u8 0, .int .u8 0, .int .u8 0, .int .u8 0, .int .u8 0, .int .u8 0, .int .u8 0] 76)).alloc (.cells #[.int .u8 0, .int .u8 0, .int .u8 0, .int .u8 0, .int .u8 0, .int .u8 0, .int .u8 0, .int .u8 0, .int .u8 0, .int .u8 0, .int .u8 0, .int .u8 0, .int .u8 0, .int .u8 0, .int .u8 0, .int .u8 0] 76)).setRow (w.heap.size + 1) (ivs .u8 [0, 0, 0, 0, 0, 0, 0, 0, 0, 0, 0, 0, 0, 0, 0, 0])) (w.heap.size + 1) 76 (ivs .u8 (List.replicate 16 0)) := r4
    have p3 : Below w.heap.size w (((w.alloc (.cells #[.int .u8 0, .int .u8 0, .int .u8 0, .int .u8 0, .int .u8 0, .int .u8 0, .int .u8 0, .int .u8 0, .int .u8 0, .int .u8 0, .int .u8 0, .int .u8 0, .int .u8 0, .int .u8 0, .int .u8 0, .int .u8 0] 76)).alloc (.cells #[.int .u8 0, .int .u8 0, .int .u8 0, .int .u8 0, .int .u8 0, .int .u8 0, .int .u8 0, .int .u8 0, .int .u8 0, .int .u8 0, .int .u8 0, .int .u8 0, .int .u8 0, .int .u8 0, .int .u8 0, .int .u8 0] 76)).setRow (w.heap.size + 1) (ivs .u8 [0, 0, 0, 0, 0, 0, 0, 0, 0, 0, 0, 0, 0, 0, 0, 0])) := b3
    clear r3 r4 b3
    go_enter Try.func59, Try.ntmps59
    go_wp2_with (refine wpList_store_row rfl _ _ _ rfl (w.heap.size + 1) (ivs .u8 (List.replicate 16 0)) rfl rfl 76 _ r2 (by rw [ivs_size]; exact size76) (by simp [ivs_size]) ivs_one ?_)
    clear r1 r2 b2
    generalize ((w.alloc (.cells #[.int .u8 0, .int .u8 0, .int .u8 0, .int .u8 0, .int .u8 0, .int .u8 0, .int .u8 0, .int .u8 0, .int .u8 0, .int .u8 0, .int .u8 0, .int .u8 0, .int .u8 0, .int .u8 0, .int .u8 0, .int .u8 0] 76)).alloc (.cells #[.int .u8 0, .int .u8 0, .int .u8 0, .int .u8 0, .int .u8 0, .int .u8 0, .int .u8 0, .int .u8 0, .int .u8 0, .int .u8 0, .int .u8 0, .int .u8 0, .int .u8 0, .int .u8 0, .int .u8 0, .int .u8 0] 76)).setRow (w.heap.size + 1) (ivs .u8 [0, 0, 0, 0, 0, 0, 0, 0, 0, 0, 0, 0, 0, 0, 0, 0]) = w4 at *
    have c4 : w4.cell? ⟨w.heap.size + 1, 0, none⟩ = some (.int .u8 0) := by rw [q4.cell]; rfl
    have f4 := q4.frozen 0
    have r5 : Blk (w4.setCell ⟨w.heap.size + 1, 0, none⟩ (.int .u8 (s.size : Int))) (w.heap.size + 1) 76 (ivs .u8 (cw s 0)) := q4.setI 0 (s.size : Int)
    have r6 := q3.far (show w.heap.size ≠ w.heap.size + 1 by omega) (p := ⟨w.heap.size + 1, 0, none⟩) (.int .u8 (s.size : Int))
    have b6 := p3.setCell (p := ⟨w.heap.size + 1, 0, none⟩) (Nat.le_succ _) (.int .u8 (s.size : Int))
    refine (HOK.out _).mono ?_
    rintro e w' ⟨rfl, rfl⟩
    go_wp2
    clear q3 q4 p3 c4 f4
    go_loopw [5, 6, 7] (fun i _ _ wr => ∃ k : Nat, k ≤ s.size ∧ i = .int .i64 k ∧ Blk wr w.heap.size 76 (ivs .u8 (List.replicate 16 0)) ∧ Blk wr (w.heap.size + 1) 76 (ivs .u8 (cw s (3 * k))) ∧ Below w.heap.size w wr) (fun i _ _ _ => s.size - (intOf i).toNat)
    case atStart => exact ⟨0, by omega, rfl, r6, r5, b6⟩
    case round =>
      clear r5 r6 b6 hw8
      obtain ⟨k, hk, rfl, h1, h2, hb⟩ := hrel
      by_cases hlt : k < s.size
      · have hlt' : (k : Int) < s.size := by omega
        go_wp2
        obtain ⟨wo, rfl⟩ : ∃ wo : World, wo = wr := ⟨_, rfl⟩
        go_loopw [6, 7] (fun j _ wr => ∃ b : Nat, b ≤ 3 ∧ j = .int .i64 b ∧ Blk wr w.heap.size 76 (ivs .u8 (List.replicate 16 0)) ∧ Blk wr (w.heap.size + 1) 76 (ivs .u8 (cw s (3 * k + b))) ∧ Below w.heap.size w wr) (fun j _ _ => 3 - (intOf j).toNat)
        case atStart => exact ⟨0, by omega, rfl, h1, h2, hb⟩
        case round =>
          clear h1 h2 hb
          obtain ⟨b, hb3, rfl, h1, h2, hb⟩ := hrel
          by_cases hlt3 : b < 3
          · have hlt3' : (b : Int) < 3 := by omega
            have hr := fun W => run_bAt (w := W) s k hlt
            have hL := fun W => l05Letter_any (bAt s k) W
            have HLT := Lib.hid hL
            have hv := lt_of_isL (HL.out k hlt)
            obtain ⟨v0, v1⟩ := hv
            clear hL
            obtain ⟨v, hvv⟩ : ∃ v, v = lt (bAt s k) := ⟨_, rfl⟩
            have HV := Lib.hid hvv.symm
            rw [← hvv] at v0 v1 HLT
            clear hvv
            rcases (by omega : b = 0 ∨ b = 1 ∨ b = 2) with rfl | rfl | rfl
            · have hwb : wbit s (3 * k + 0) = (bits .and .i64 (v / 4) 1 == 1) := by
                rw [wbit_b s k 0 (by omega), btest _ (by omega) (by omega), HV.out]
                simp
              have hi1 : 1 + (3 * (k : Int)) / 8 < 16 := by omega
              have hi0 : 0 ≤ 1 + (3 * (k : Int)) / 8 := by omega
              obtain ⟨y, hy⟩ : ∃ y, y = (cw s (3 * k + 0)).getD (1 + (3 * k) / 8) 0 := ⟨_, rfl⟩
              have c2 : wr.cell? ⟨w.heap.size + 1, 1 + (3 * k) / 8, none⟩ = some (.int .u8 y) := by rw [hy]; have := h2.getD (1 + (3 * k) / 8) (by rw [cw_length]; omega); rwa [Nat.zero_add] at this
              have f2 := h2.frozen (1 + (3 * k) / 8)
              have HWB := Lib.hid hwb
              have HY := Lib.hid hy
              clear hwb hy
              rcases ht : (bits .and .i64 (v / 4) 1 == 1) with _ | _
              · rw [ht] at HWB
                go_wp2_with (go_at_call 88; refine (HLT.out _).mono ?_; rintro e w' ⟨rfl, rfl⟩)
                exact ⟨⟨1, by omega, by go_num, h1, by have e := cw_no HWB.out; rw [show 3 * k + 1 = 3 * k + 0 + 1 by omega, e]; exact h2, hb⟩, by simp [intOf]⟩
              · rw [ht] at HWB
                go_wp2_with (go_at_call 88; refine (HLT.out _).mono ?_; rintro e w' ⟨rfl, rfl⟩)
                exact ⟨⟨1, by omega, by go_num, h1.far (by simp) _, by have e := cw_yes HWB.out; rw [show 3 * k + 1 = 3 * k + 0 + 1 by omega, e, show (cw s (3 * k + 0)).getD (1 + (3 * k + 0) / 8) 0 = y from HY.out.symm]; exact h2.setI _ _, hb.setCell (by simp) _⟩, by simp [intOf]⟩
            · have hwb : wbit s (3 * k + 1) = (bits .and .i64 (v / 2) 1 == 1) := by
                rw [wbit_b s k 1 (by omega), btest _ (by omega) (by omega), HV.out]
                simp
              have hi1 : 1 + (3 * (k : Int) + 1) / 8 < 16 := by omega
              have hi0 : 0 ≤ 1 + (3 * (k : Int) + 1) / 8 := by omega
              obtain ⟨y, hy⟩ : ∃ y, y = (cw s (3 * k + 1)).getD (1 + (3 * k + 1) / 8) 0 := ⟨_, rfl⟩
              have c2 : wr.cell? ⟨w.heap.size + 1, 1 + (3 * k + 1) / 8, none⟩ = some (.int .u8 y) := by rw [hy]; have := h2.getD (1 + (3 * k + 1) / 8) (by rw [cw_length]; omega); rwa [Nat.zero_add] at this
              have f2 := h2.frozen (1 + (3 * k + 1) / 8)
              have HWB := Lib.hid hwb
              have HY := Lib.hid hy
              clear hwb hy
              rcases ht : (bits .and .i64 (v / 2) 1 == 1) with _ | _
              · rw [ht] at HWB
                go_wp2_with (go_at_call 88; refine (HLT.out _).mono ?_; rintro e w' ⟨rfl, rfl⟩)
                exact ⟨⟨2, by omega, by go_num, h1, by have e := cw_no HWB.out; rw [show 3 * k + 2 = 3 * k + 1 + 1 by omega, e]; exact h2, hb⟩, by simp [intOf]⟩
              · rw [ht] at HWB
                go_wp2_with (go_at_call 88; refine (HLT.out _).mono ?_; rintro e w' ⟨rfl, rfl⟩)
                exact ⟨⟨2, by omega, by go_num, h1.far (by simp) _, by have e := cw_yes HWB.out; rw [show 3 * k + 2 = 3 * k + 1 + 1 by omega, e, ← HY.out]; exact h2.setI _ _, hb.setCell (by simp) _⟩, by simp [intOf]⟩
            · have hwb : wbit s (3 * k + 2) = (bits .and .i64 (v) 1 == 1) := by
                rw [wbit_b s k 2 (by omega), btest _ (by omega) (by omega), HV.out]
                simp
              have hi1 : 1 + (3 * (k : Int) + 2) / 8 < 16 := by omega
              have hi0 : 0 ≤ 1 + (3 * (k : Int) + 2) / 8 := by omega
              obtain ⟨y, hy⟩ : ∃ y, y = (cw s (3 * k + 2)).getD (1 + (3 * k + 2) / 8) 0 := ⟨_, rfl⟩
              have c2 : wr.cell? ⟨w.heap.size + 1, 1 + (3 * k + 2) / 8, none⟩ = some (.int .u8 y) := by rw [hy]; have := h2.getD (1 + (3 * k + 2) / 8) (by rw [cw_length]; omega); rwa [Nat.zero_add] at this
              have f2 := h2.frozen (1 + (3 * k + 2) / 8)
              have HWB := Lib.hid hwb
              have HY := Lib.hid hy
              clear hwb hy
              rcases ht : (bits .and .i64 (v) 1 == 1) with _ | _
              · rw [ht] at HWB
                go_wp2_with (go_at_call 88; refine (HLT.out _).mono ?_; rintro e w' ⟨rfl, rfl⟩)
                exact ⟨⟨3, by omega, by go_num, h1, by have e := cw_no HWB.out; rw [show 3 * k + 3 = 3 * k + 2 + 1 by omega, e]; exact h2, hb⟩, by simp [intOf]⟩
              · rw [ht] at HWB
                go_wp2_with (go_at_call 88; refine (HLT.out _).mono ?_; rintro e w' ⟨rfl, rfl⟩)
                exact ⟨⟨3, by omega, by go_num, h1.far (by simp) _, by have e := cw_yes HWB.out; rw [show 3 * k + 3 = 3 * k + 2 + 1 by omega, e, ← HY.out]; exact h2.setI _ _, hb.setCell (by simp) _⟩, by simp [intOf]⟩
          · obtain rfl : b = 3 := by omega
            go_wp2
            exact ⟨⟨k + 1, by omega, by go_num, h1, h2, hb⟩, by simp [intOf]; omega⟩
      · obtain rfl : k = s.size := by omega
        have hl := cw_length s (3 * s.size)
        have HLN := Lib.hid hl
        clear hl
        go_wp2_with (first
          | refine wpList_load_row rfl _ _ rfl (w.heap.size + 1) rfl 76 (ivs .u8 (cw s (3 * s.size))) (0, 0) _ h2 Try.underlying76 rfl (by rw [ivs_size, HLN.out]; exact size76) ?_
          | refine wpList_store_row rfl _ _ _ rfl w.heap.size (ivs .u8 (cw s (3 * s.size))) rfl rfl 76 _ h1 (by rw [ivs_size, HLN.out]; exact size76) (by simp [ivs_size, HLN.out]) ivs_one ?_)
        exact bodyPost_ret (results_row_tmp rfl _ _ w.heap.size 76 (ivs .u8 (cw s (3 * s.size))) (0, 0) _ rfl (h1.row _) Try.underlying76 rfl (by rw [ivs_size, HLN.out]; exact size76)) rfl ⟨rfl, below_setRow hb (by omega) _⟩
end Go.Proofs.Ytigjdcfdgifonaa
