/- Words out of codes: the reference's walk. -/
import Derived.Test.YtigjdcfdgifonaaRows
import Derived.Test.YtigjdcfdgifonaaWj
namespace Go.Proofs.Ytigjdcfdgifonaa
open Go.ChangeShapes Go.WideShapes Go.ChangeAt Go.RowKit
theorem strOf_append (a b : List Int) : strOfNums (a ++ b) = strOfNums a ++ strOfNums b := by
  unfold strOfNums
  rw [ByteArray.mk_append_mk, List.map_append]
theorem run_letter (P : Nat) (h : P < 8) (W : World) : (Instr.slice 9 (.string { data := #[97, 65, 98, 66, 99, 67, 100, 68] }) (some (.int .i64 (P : Int))) (some (.int .i64 ((P : Int) + 1))) none).run Try.prog W = .ok (.string (strOfNums [lts.getD P 0])) W := by
  rcases (by omega : P = 0 ∨ P = 1 ∨ P = 2 ∨ P = 3 ∨ P = 4 ∨ P = 5 ∨ P = 6 ∨ P = 7) with rfl | rfl | rfl | rfl | rfl | rfl | rfl | rfl <;> kernel_rfl
set_option maxRecDepth 20000 in
set_option maxHeartbeats 6400000 in
theorem sWordOfCode_any (c : List Int) (hc : c.length = 16) (h255 : is255 c) (w : World) :
    Calls Try.prog 49 #[.agg (ivs .u8 c)] w fun e w' => e = .returned (.tuple #[.string (woV c), .int .i64 (woC c)]) ∧ Below w.heap.size w w' := by
  have h1 : Blk (w.alloc (.cells (ivs .u8 c) 76)) w.heap.size 76 (ivs .u8 c) := Blk.newAt rfl rfl
  have b1 : Below w.heap.size w (w.alloc (.cells (ivs .u8 c) 76)) := (Below.refl _ _).alloc (Nat.le_refl _) _
  have hx := h255.getD 0
  obtain ⟨x, hx0⟩ : ∃ x, x = c.getD 0 0 := ⟨_, rfl⟩
  have c0 : (w.alloc (.cells (ivs .u8 c) 76)).cell? ⟨w.heap.size, 0, none⟩ = some (.int .u8 x) := by rw [hx0]; exact h1.getAt (by omega)
  rw [← hx0] at hx
  obtain ⟨x0, x1⟩ := hx
  have H1 := Lib.hid h1
  have B1 := Lib.hid b1
  have HC := Lib.hid hc
  have H255 := Lib.hid h255
  have HX := Lib.hid hx0
  clear h1 b1 hc h255 hx0
  by_cases h40 : x ≤ 40
  · obtain ⟨m, rfl⟩ : ∃ m : Nat, x = (m : Int) := ⟨x.toNat, by omega⟩
    have hm40 : m ≤ 40 := by omega
    go_enter Try.func49, Try.ntmps49
    go_wp2
    go_loopw [4, 5, 6, 7, 8] (fun v i _ _ _ wr => ∃ k : Nat, k ≤ m ∧ i = .int .i64 k ∧ v = .string (strOfNums (dl c k)) ∧ wr = w.alloc (.cells (ivs .u8 c) 76)) (fun _ i _ _ _ _ => m - (intOf i).toNat)
    case atStart => exact ⟨0, by omega, rfl, rfl, rfl⟩
    case round =>
      obtain ⟨k, hk, rfl, rfl, rfl⟩ := hrel
      by_cases hlt : k < m
      · have hlt' : (k : Int) < m := by omega
        go_wp2
        go_loopw [6, 7, 8] (fun q j _ wr => ∃ b : Nat, b ≤ 3 ∧ j = .int .i64 b ∧ q = .int .i64 (pl c k b) ∧ wr = w.alloc (.cells (ivs .u8 c) 76)) (fun _ j _ _ => 3 - (intOf j).toNat)
        case atStart => exact ⟨0, by omega, rfl, rfl, rfl⟩
        case round =>
          obtain ⟨b, hb3, rfl, rfl, rfl⟩ := hrel
          obtain ⟨⟨p10, p11⟩, ⟨p20, p21⟩, ⟨p30, p31⟩⟩ := pl_range H255.out k
          by_cases hlt3 : b < 3
          · rcases (by omega : b = 0 ∨ b = 1 ∨ b = 2) with rfl | rfl | rfl
            · have hi1 : 1 + (3 * (k : Int)) / 8 < 16 := by omega
              have hi0 : 0 ≤ 1 + (3 * (k : Int)) / 8 := by omega
              have c2 := H1.out.getAt (i := 1 + (3 * k) / 8) (by have := HC.out; omega)
              have hcb : pl c k 1 = 2 * pl c k 0 + bits .and .u8 (c.getD (1 + (3 * k) / 8) 0 / 2 ^ (7 - (3 * k) % 8)) 1 := rfl
              have hcr : 0 ≤ bits .and .u8 (c.getD (1 + (3 * k) / 8) 0 / 2 ^ (7 - (3 * k) % 8)) 1 ∧ bits .and .u8 (c.getD (1 + (3 * k) / 8) 0 / 2 ^ (7 - (3 * k) % 8)) 1 ≤ 1 := cbit_range H255.out (3 * k + 0)
              have hp0 : 0 ≤ pl c k 0 ∧ pl c k 0 ≤ 3 := ⟨Int.le_refl _, by show (0 : Int) ≤ 3; decide⟩
              have hd := H255.out.getD (1 + (3 * k) / 8)
              obtain ⟨d0, d1⟩ := hd
              obtain ⟨y, hy⟩ : ∃ y, y = c.getD (1 + (3 * k) / 8) 0 := ⟨_, rfl⟩
              rw [← hy] at c2 hcb hcr d0 d1
              have hw := wrap3 hp0.1 hp0.2 hcr.1 hcr.2
              rw [← hcb] at hw
              have HW := Lib.hid hw
              clear hy hcb hcr hw hp0 p10 p11 p20 p21 p30 p31
              go_wp2
              exact ⟨⟨1, by omega, by go_num, by rw [HW.out], by first | rfl | trivial⟩, by simp [intOf]⟩
            · have hi1 : 1 + (3 * (k : Int) + 1) / 8 < 16 := by omega
              have hi0 : 0 ≤ 1 + (3 * (k : Int) + 1) / 8 := by omega
              have c2 := H1.out.getAt (i := 1 + (3 * k + 1) / 8) (by have := HC.out; omega)
              have hcb : pl c k 2 = 2 * pl c k 1 + bits .and .u8 (c.getD (1 + (3 * k + 1) / 8) 0 / 2 ^ (7 - (3 * k + 1) % 8)) 1 := rfl
              have hcr : 0 ≤ bits .and .u8 (c.getD (1 + (3 * k + 1) / 8) 0 / 2 ^ (7 - (3 * k + 1) % 8)) 1 ∧ bits .and .u8 (c.getD (1 + (3 * k + 1) / 8) 0 / 2 ^ (7 - (3 * k + 1) % 8)) 1 ≤ 1 := cbit_range H255.out (3 * k + 1)
              have hp0 : 0 ≤ pl c k 1 ∧ pl c k 1 ≤ 3 := ⟨p10, by omega⟩
              have hd := H255.out.getD (1 + (3 * k + 1) / 8)
              obtain ⟨d0, d1⟩ := hd
              obtain ⟨y, hy⟩ : ∃ y, y = c.getD (1 + (3 * k + 1) / 8) 0 := ⟨_, rfl⟩
              rw [← hy] at c2 hcb hcr d0 d1
              have hw := wrap3 hp0.1 hp0.2 hcr.1 hcr.2
              rw [← hcb] at hw
              have HW := Lib.hid hw
              clear hy hcb hcr hw hp0 p10 p11 p20 p21 p30 p31
              go_wp2
              exact ⟨⟨2, by omega, by go_num, by rw [HW.out], by first | rfl | trivial⟩, by simp [intOf]⟩
            · have hi1 : 1 + (3 * (k : Int) + 2) / 8 < 16 := by omega
              have hi0 : 0 ≤ 1 + (3 * (k : Int) + 2) / 8 := by omega
              have c2 := H1.out.getAt (i := 1 + (3 * k + 2) / 8) (by have := HC.out; omega)
              have hcb : pl c k 3 = 2 * pl c k 2 + bits .and .u8 (c.getD (1 + (3 * k + 2) / 8) 0 / 2 ^ (7 - (3 * k + 2) % 8)) 1 := rfl
              have hcr : 0 ≤ bits .and .u8 (c.getD (1 + (3 * k + 2) / 8) 0 / 2 ^ (7 - (3 * k + 2) % 8)) 1 ∧ bits .and .u8 (c.getD (1 + (3 * k + 2) / 8) 0 / 2 ^ (7 - (3 * k + 2) % 8)) 1 ≤ 1 := cbit_range H255.out (3 * k + 2)
              have hp0 : 0 ≤ pl c k 2 ∧ pl c k 2 ≤ 3 := ⟨p20, p21⟩
              have hd := H255.out.getD (1 + (3 * k + 2) / 8)
              obtain ⟨d0, d1⟩ := hd
              obtain ⟨y, hy⟩ : ∃ y, y = c.getD (1 + (3 * k + 2) / 8) 0 := ⟨_, rfl⟩
              rw [← hy] at c2 hcb hcr d0 d1
              have hw := wrap3 hp0.1 hp0.2 hcr.1 hcr.2
              rw [← hcb] at hw
              have HW := Lib.hid hw
              clear hy hcb hcr hw hp0 p10 p11 p20 p21 p30 p31
              go_wp2
              exact ⟨⟨3, by omega, by go_num, by rw [HW.out], by first | rfl | trivial⟩, by simp [intOf]⟩
          · obtain rfl : b = 3 := by omega
            obtain ⟨P, hP⟩ : ∃ P : Nat, pl c k 3 = (P : Int) := ⟨(pl c k 3).toNat, by omega⟩
            have hP8 : P < 8 := by omega
            have hds := dl_succ c k
            rw [hP, Int.toNat_natCast] at hds
            rw [hP]
            have hds2 := congrArg strOfNums hds
            rw [strOf_append] at hds2
            have HDS := Lib.hid hds2
            have hsz : (strOfNums (dl c k)).size ≤ 40 := by rw [strOfNums_size, dl_length]; omega
            clear hds hds2 hP p10 p11 p20 p21 p30 p31
            have hsl := fun W => run_letter P hP8 W
            obtain ⟨z, hz⟩ : ∃ z, z = strOfNums [lts.getD P 0] := ⟨_, rfl⟩
            rw [← hz] at hsl HDS
            have hz1 : z.size = 1 := by rw [hz, strOfNums_size]; rfl
            have hlz : ¬ 9223372036854775807 < (strOfNums (dl c k)).size + z.size := by omega
            clear hz hz1
            generalize strOfNums (dl c k) = o at *
            go_wp2
            exact ⟨⟨k + 1, by omega, by go_num, by rw [HDS.out], by first | rfl | trivial⟩, by simp [intOf]; omega⟩
      · obtain rfl : k = m := by omega
        have hdw : dw c = strOfNums (dl c k) := by rw [dw, ← HX.out, Int.toNat_natCast]
        obtain ⟨s, hs⟩ : ∃ s, s = strOfNums (dl c k) := ⟨_, rfl⟩
        have hsz : s.size ≤ 1048576 := by rw [hs, strOfNums_size, dl_length]; omega
        have hcd := fun W => sCodeOfWord_any s hsz W
        obtain ⟨V, hV⟩ : ∃ V, V = wcV s := ⟨_, rfl⟩
        have hVl : V.length = 16 := by rw [hV]; exact wcV_length s
        have hwo : woOk c = (V == c) := by
          rw [woOk, hdw, ← hs, ← hV, ← HX.out]
          rw [decide_eq_true (by omega), Bool.true_and]
        have hwv : woOk c = true → woV c = s := fun h => by rw [woV, if_pos h, hdw, hs]
        obtain ⟨j0, hj0, -, -, -⟩ := info_parts uint8_info
        have heq : ∀ W : World, (Op.equalIn 10000 76 (.agg (ivs .u8 V)) (.agg (ivs .u8 c))).run Try.prog W = .ok (V == c) W := fun W => run_eql_arr W Try.underlying76 Try.underlying5 hj0 (by kernel_rfl) hVl HC.out
        rw [← hwo] at heq
        rw [← hs]
        rw [← hV] at hcd
        have HCD := Lib.hid hcd
        have HVL := Lib.hid hVl
        have HWV := Lib.hid hwv
        clear hcd hVl hwv hwo hV hdw hs
        have hcodes : woC c = if woOk c then 0 else 5 := rfl
        have hvals : woV c = if woOk c then dw c else ⟨#[]⟩ := rfl
        have HCO := Lib.hid hcodes
        have HVA := Lib.hid hvals
        clear hcodes hvals
        have hz0 : w.heap.size < (w.alloc (.cells (ivs .u8 c) 76)).heap.size := H1.out.lt
        have HZ0 := Lib.hid hz0
        clear hz0
        rcases hok : woOk c with _ | _
        all_goals
          have hwv := fun h => HWV.out h
          rw [hok] at heq HCO HVA
          rw [hok] at hwv
          have HWV2 := Lib.hid hwv
          clear hok hwv HWV
          go_wp2_with (first
            | (go_at_call 59; refine (HCD.out _).mono ?_; rintro e w2 ⟨rfl, hb2⟩; have HB2 := Lib.hid hb2; have HR2 := Lib.hid ((Blk.newAt (w := w2) (cs := (ivs .u8 (List.replicate 16 0))) (t := 76) rfl rfl).row (ivs .u8 V)); have HR1 := Lib.hid (((H1.out.below hb2 HZ0.out).alloc (.cells #[.int .u8 0, .int .u8 0, .int .u8 0, .int .u8 0, .int .u8 0, .int .u8 0, .int .u8 0, .int .u8 0, .int .u8 0, .int .u8 0, .int .u8 0, .int .u8 0, .int .u8 0, .int .u8 0, .int .u8 0, .int .u8 0] 76)).rowFar (g' := w2.heap.size) (by have := HZ0.out; have := hb2.size; omega) (ivs .u8 V)); clear hb2)
            | refine wpList_store_row rfl _ _ _ rfl w2.heap.size (ivs .u8 V) rfl rfl 76 (ivs .u8 (List.replicate 16 0)) (Blk.newAt rfl rfl) (by rw [ivs_size, HVL.out]; exact size76) (by simp [ivs_size, HVL.out]) ivs_one ?_
            | refine wpList_load_row rfl _ _ rfl w2.heap.size rfl 76 (ivs .u8 V) (0, 0) _ HR2.out Try.underlying76 rfl (by rw [ivs_size, HVL.out]; exact size76) ?_
            | refine wpList_load_row rfl _ _ rfl w.heap.size rfl 76 (ivs .u8 c) (0, 0) _ HR1.out Try.underlying76 rfl (by rw [ivs_size, HC.out]; exact size76) ?_)
          go_ret2
          have hB := B1.out.trans (HB2.out.mono (Nat.le_of_lt HZ0.out))
          first
            | exact ⟨by rw [HCO.out, HVA.out]; rfl, below_setRow (hB.alloc hB.size _) hB.size _⟩
            | exact ⟨by rw [HCO.out, HWV2.out (by first | rfl | trivial)]; rfl, below_setRow (hB.alloc hB.size _) hB.size _⟩
  · have e0 : woOk c = false := by rw [woOk, decide_eq_false (by rw [← HX.out]; exact h40)]; rfl
    have e1 : woC c = 5 := by rw [woC, e0]; rfl
    have e2 : woV c = ⟨#[]⟩ := by rw [woV, e0]; rfl
    rw [e1, e2]
    clear e0 e1 e2
    go_enter Try.func49, Try.ntmps49
    go_wp2
    go_ret2
    exact ⟨rfl, B1.out⟩
end Go.Proofs.Ytigjdcfdgifonaa
