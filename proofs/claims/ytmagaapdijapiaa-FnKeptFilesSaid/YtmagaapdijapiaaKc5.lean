/- Zd, Ye, Yk, Eqb, Yl, Yh in one text. -/
import Derived.Test.YtmagaapdijapiaaRows
import Derived.Test.YtmagaapdijapiaaWk
import Derived.Test.YtmagaapdijapiaaKc4
import Derived.Deep.RegionWith
import Derived.Deep.CutRange
import Derived.Deep.QuietTactic
import Derived.BigQuiet
import Derived.Test.YtmagaapdijapiaaUb
import Derived.Test.YtmagaapdijapiaaUd
import Derived.Test.YtmagaapdijapiaaKc2
import Derived.Test.YtmagaapdijapiaaKc1
namespace Go.Proofs.Ytmagaapdijapiaa
open Go.ChangeShapes Go.WideShapes Go.ChangeAt Go.RowKit
/-! ### letters -/
def GoodL (xs : List Int) : Prop := ∀ x ∈ xs, isL x = true
theorem goodL_255 {xs : List Int} (h : GoodL xs) : is255 xs := fun x hx => by
  rcases isL_cases (h x hx) with rfl | rfl | rfl | rfl | rfl | rfl | rfl | rfl <;> decide
theorem GoodL.snoc {xs : List Int} (h : GoodL xs) {x : Int} (hx : isL x = true) : GoodL (xs ++ [x]) := fun y hy => by
  rcases List.mem_append.1 hy with hy | hy
  · exact h y hy
  · rw [List.mem_singleton] at hy
    rw [hy]
    exact hx
theorem bys_nums {xs : List Int} (h : is255 xs) : bys (strOfNums xs) = xs := by
  rw [bys, strOfNums_data, List.map_map]
  conv => rhs; rw [← List.map_id xs]
  refine List.map_congr_left fun x hx => ?_
  have hb := h x hx
  show (((UInt8.ofNat x.toNat).toNat : Nat) : Int) = x
  rw [UInt8.toNat_ofNat']
  omega
theorem goodL_at {xs : List Int} (h : GoodL xs) {k : Nat} (hk : k < (strOfNums xs).size) : isL (bAt (strOfNums xs) k) = true := by
  rw [strOfNums_size] at hk
  rw [← bys_at, bys_nums (goodL_255 h), List.getD_eq_getElem?_getD, List.getElem?_eq_getElem hk]
  exact h _ (List.getElem_mem hk)
theorem goodL_ok {xs : List Int} (h : GoodL xs) (hl : xs.length ≤ 40) : wOk (strOfNums xs) = true := by
  rw [wOk, wOk_all fun j hj => goodL_at h hj, strOfNums_size, decide_eq_true hl]
  rfl
theorem lts_isL {k : Nat} (h : k < 8) : isL (lts.getD k 0) = true := by
  rcases (by omega : k = 0 ∨ k = 1 ∨ k = 2 ∨ k = 3 ∨ k = 4 ∨ k = 5 ∨ k = 6 ∨ k = 7) with rfl | rfl | rfl | rfl | rfl | rfl | rfl | rfl <;> decide
/-- the other letter of a pair -/
def oth (x : Int) : Int := lts.getD (bits .xor .i64 (lt x) 1).toNat 0
theorem xor1 {v : Int} (h0 : 0 ≤ v) (h1 : v ≤ 7) : ∃ k : Nat, k < 8 ∧ bits .xor .i64 v 1 = (k : Int) := by
  rcases (by omega : v = 0 ∨ v = 1 ∨ v = 2 ∨ v = 3 ∨ v = 4 ∨ v = 5 ∨ v = 6 ∨ v = 7) with rfl | rfl | rfl | rfl | rfl | rfl | rfl | rfl
  · exact ⟨1, by decide, by decide⟩
  · exact ⟨0, by decide, by decide⟩
  · exact ⟨3, by decide, by decide⟩
  · exact ⟨2, by decide, by decide⟩
  · exact ⟨5, by decide, by decide⟩
  · exact ⟨4, by decide, by decide⟩
  · exact ⟨7, by decide, by decide⟩
  · exact ⟨6, by decide, by decide⟩
theorem own_cut {w : World} {base : Nat} {e : TypeId} {g n c m : Nat} {xs : List Value} (h : w.ownsRow base e 1 (.slice (some ⟨g, 0, none⟩) n c) n xs) (hm : m ≤ n) : w.ownsRow base e 1 (.slice (some ⟨g, 0, none⟩) m c) m (xs.take m) := by
  obtain ⟨hl, h⟩ := h
  refine ⟨by rw [List.length_take]; omega, ?_⟩
  rcases h with ⟨h, _⟩ | ⟨g', cap, cur, e1, h1, h2, h3, h4, h5, h6⟩
  · cases h
  · cases e1
    exact .inr ⟨g, c, cur, rfl, h1, h2, by omega, h4, h5, by rw [← h6, List.take_take]; congr 1; omega⟩
theorem own_fit {w : World} {base : Nat} {e : TypeId} {g n c : Nat} {xs : List Value} (h : w.ownsRow base e 1 (.slice (some ⟨g, 0, none⟩) n c) n xs) : n ≤ c ∧ c ≤ maxLen := by
  rcases h.2 with ⟨h, _⟩ | ⟨g', cap, cur, e1, h1, h2, h3, h4, h5, h6⟩
  · cases h
  · cases e1
    exact ⟨h3, h4⟩
theorem own_cells {w : World} {base : Nat} {e : TypeId} {g n c : Nat} {xs : List Value} (h : w.ownsRow base e 1 (.slice (some ⟨g, 0, none⟩) n c) n xs) : w.rangeAt g 0 xs := fun j u hu => by
  have hj := (List.getElem?_eq_some_iff.1 hu).1
  have hl := h.1
  obtain ⟨b, o, e, _, hc⟩ := (Rd.of_own h).at_ (by omega)
  cases e
  exact hc j u hu
set_option maxRecDepth 20000 in
set_option maxHeartbeats 1600000 in
theorem l05Other_any (x : Int) (h : isL x = true) (w : World) : Calls Try.prog 139 #[.int .u8 x] w fun e w' => e = .returned (.int .u8 (oth x)) ∧ w' = w := by
  have hl := lt_of_isL h
  obtain ⟨k, hk, hx⟩ := xor1 hl.1 hl.2
  have ho : oth x = lts.getD k 0 := by rw [oth, hx, Int.toNat_natCast]
  rw [ho]
  have HC := Lib.hid (l05Letter_any x w)
  have hr : ∀ W : World, (Instr.index 9 (.string { data := #[97, 65, 98, 66, 99, 67, 100, 68] }) (.int .i64 (k : Int))).run Try.prog W = .ok (.int .u8 (lts.getD k 0)) W := fun W => run_lts k hk
  clear h hl ho
  generalize lt x = v at *
  go_enter Try.func139, Try.ntmps139
  go_wp2_with (go_at_call 149; refine HC.out.mono ?_; rintro e w' ⟨rfl, rfl⟩)
  go_ret
  exact ⟨rfl, rfl⟩
set_option maxRecDepth 20000 in
set_option maxHeartbeats 3200000 in
theorem l05Reduce_any (s : ByteArray) (hs : s.size ≤ 40) (ha : ∀ k, k < s.size → isL (bAt s k) = true) (w : World) : Calls Try.prog 110 #[.string s] w fun e w' => (∃ t, wOk t = true ∧ e = .returned (.string t)) ∧ Below w.heap.size w w' := by
  obtain ⟨i0, hi, hz0, hz1, hz2'⟩ := info_parts Byte_info
  have HA := Lib.hid ha
  have o0 : (w.alloc (.cells #[] 5)).ownsRow w.heap.size 5 1 (.slice (some ⟨w.heap.size, 0, none⟩) 0 0) 0 (([] : List Int).map (.int .u8)) := World.ownsRow_lit (e := 5) (base := w.heap.size) (size := 1) w #[] 0 (Nat.le_refl _) (by unfold maxLen; omega) rfl
  have O0 := Lib.hid o0
  clear o0 ha
  go_enter Try.func110, Try.ntmps110
  go_wp2
  go_loopw [3, 4] (fun v i wr => ∃ (k m g cc : Nat) (xs : List Int), i = .int .i64 k ∧ k ≤ s.size ∧ v = .slice (some ⟨g, 0, none⟩) m cc ∧ m ≤ k ∧ Hid (m = xs.length) ∧ Hid (GoodL xs) ∧ Hid (wr.ownsRow w.heap.size 5 1 (.slice (some ⟨g, 0, none⟩) m cc) m (xs.map (.int .u8))) ∧ Hid (Below w.heap.size w wr)) (fun _ i _ => s.size - (intOf i).toNat)
  case atStart => exact ⟨0, 0, _, 0, [], rfl, by omega, rfl, by omega, Lib.hid rfl, Lib.hid (fun _ hx => nomatch hx), O0, Lib.hid ((Below.refl _ _).alloc (Nat.le_refl _) _)⟩
  case round =>
    clear O0
    obtain ⟨k, m, g, cc, xs, rfl, hk, rfl, hmk, HM, HG, HO, HB⟩ := hrel
    by_cases hlt : k < s.size
    · have hki : (k : Int) < s.size := by omega
      have hL := HA.out k hlt
      have HOT := Lib.hid (fun W => l05Other_any (bAt s k) hL W)
      have hsx : ∀ W : World, (Instr.index 9 (.string s) (.int .i64 (k : Int))).run Try.prog W = .ok (.int .u8 (bAt s k)) W := fun W => run_bAt s k hlt
      have HLX := Lib.hid hL
      clear hL
      generalize bAt s k = y at *
      obtain ⟨hmc, hcm⟩ := own_fit HO.out
      go_upto_region 5 with fail
      go_cut [27] from 12 to 27 (fun v wx => ∃ b : Bool, v = .bool b ∧ (b = true → 0 < m) ∧ Hid (wx.ownsRow w.heap.size 5 1 (.slice (some ⟨g, 0, none⟩) m cc) m (xs.map (.int .u8))) ∧ Hid (Below w.heap.size w wx))
      case first =>
        by_cases hm0 : 0 < m
        · have i1 : (0 : Int) < m := by omega
          have i2 : (0 : Int) ≤ (m : Int) - 1 := by omega
          have i3 : (m : Int) - 1 < (m : Int) := by omega
          have i4 : ((m : Int) - 1).toNat = m - 1 := by omega
          have i5 : IntKind.i64.wrap ((m : Int) - 1) = (m : Int) - 1 := IntWalk.i64_in _ (by unfold maxLen at hcm; omega)
          have c1 : wr.cell? ⟨g, m - 1, none⟩ = some (.int .u8 (xs.getD (m - 1) 0)) := by
            have := own_cells HO.out (m - 1) (.int .u8 (xs.getD (m - 1) 0)) (by rw [List.getElem?_map, List.getD_eq_getElem?_getD, List.getElem?_eq_getElem (by have := HM.out; omega)]; rfl)
            rwa [Nat.zero_add] at this
          generalize xs.getD (m - 1) 0 = z at *
          clear HM HG HA HLX
          go_quiet ((go_at_call 139; exact Calls.quiet_of_same (HOT.out _)))
          go_wp2_with fail
          go_meet
          exact ⟨_, rfl, fun _ => hm0, Lib.hid HO.out, Lib.hid (below_drewN HB.out _)⟩
        · obtain rfl : m = 0 := by omega
          go_quiet (fail)
          go_wp2_with fail
          go_meet
          exact ⟨_, rfl, fun h => by simp at h, Lib.hid HO.out, Lib.hid (below_drewN HB.out _)⟩
      case rest =>
        obtain ⟨b, rfl, hb0, HO2, HB2⟩ := hcut
        cases b
        · have HNW : Hid (∀ j u, ([y].map (Value.int .u8))[j]? = some u → (wc.alloc (.cells #[.int .u8 y] 5)).cell? ((⟨wc.heap.size, 0, none⟩ : Addr).add j) = some u) := Lib.hid ((Blk.newAt rfl rfl : Blk (wc.alloc (.cells (ivs .u8 [y]) 5)) wc.heap.size 5 (ivs .u8 [y])).news)
          have hz2 := HB2.out.size
          go_wp2_with (at_builtin; refine wpList_append_own _ rfl (.tmp 33) (.tmp 37) 40 rfl w.heap.size 5 i0 _ 1 1 Try.underlying40 hi hz0 hz1 hz2' rfl (by decide) (.slice (some ⟨g, 0, none⟩) m cc) m _ rfl (HO2.out.alloc _) ⟨wc.heap.size, 0, none⟩ 1 1 ([y].map (.int .u8)) rfl rfl HNW.out ints_one (by unfold maxLen; omega) (by omega) (by rw [size_alloc]; omega) ?_; intro v8 w8 hown8 hgrow8 hnil8; rw [← List.map_append] at hown8; obtain ⟨g8, c8, rfl⟩ := own_some hown8 (by omega); have HO8 := Lib.hid hown8; have HG8 := Lib.hid hgrow8; clear hown8 hgrow8 hnil8)
          have BA := Lib.hid (HB2.out.alloc hz2 (.cells #[.int .u8 y] 5))
          exact ⟨⟨k + 1, m + 1, g8, c8, xs ++ [y], by go_num, by omega, rfl, by omega, Lib.hid (by rw [List.length_append, HM.out]; rfl), Lib.hid (HG.out.snoc HLX.out), HO8, Lib.hid (BA.out.grown HG8.out (by rw [size_alloc]; omega) (fun j e => ((HO2.out.alloc (.cells #[.int .u8 y] 5)).lt _ e).1))⟩, by simp [intOf]; omega⟩
        · have hm0 := hb0 rfl
          have i2 : (0 : Int) ≤ (m : Int) - 1 := by omega
          have i3 : (m : Int) - 1 ≤ (cc : Int) := by omega
          have i4 : ((m : Int) - 1).toNat = m - 1 := by omega
          have i5 : IntKind.i64.wrap ((m : Int) - 1) = (m : Int) - 1 := IntWalk.i64_in _ (by unfold maxLen at hcm; omega)
          go_wp2
          exact ⟨⟨k + 1, m - 1, g, cc, xs.take (m - 1), by go_num, by omega, rfl, by omega, Lib.hid (by rw [List.length_take]; have := HM.out; omega), Lib.hid (fun x hx => HG.out x (List.mem_of_mem_take hx)), Lib.hid (by rw [List.map_take]; exact own_cut HO2.out (by omega)), HB2⟩, by simp [intOf]; omega⟩
    · obtain rfl : k = s.size := by omega
      have hcv := conv_bytes (c := cc) HM.out.symm (own_cells HO.out)
      have hok := goodL_ok HG.out (by have := HM.out; omega)
      have HOK := Lib.hid hok
      clear hok
      go_wp2
      go_ret
      exact ⟨⟨_, HOK.out, rfl⟩, HB.out⟩
set_option maxRecDepth 20000 in
set_option maxHeartbeats 3200000 in
theorem l05Drawn_any (w0 : World) (A : Option Addr) (n c : Nat) (l : List Int) (hl : l.length = n) (h255 : is255 l) (hn : n ≤ 1000000) (hR : Rd w0 w0.heap.size 1 A n (l.map (.int .u8))) (w : World) (hs : Src w w0.heap.size A n c 0) (hB : Below w0.heap.size w0 w) :
    Calls Try.prog 65 #[.pointer (some ⟨w0.heap.size, 0, none⟩), .int .i64 4, .int .i64 9] w fun e w' => (∃ t, wOk t = true ∧ e = .returned (.string t)) ∧ Below w0.heap.size w0 w' := by
  have HPK : Hid (∀ (m : Int), 2 ≤ m → m ≤ 200 → ∀ (k : Nat) (W : World), k ≤ 1000 → Src W w0.heap.size A n c k → Below w0.heap.size w0 W → Calls Try.prog 62 #[.pointer (some ⟨w0.heap.size, 0, none⟩), .int .i64 m] W fun e w' => (∃ v : Int, 0 ≤ v ∧ v < m ∧ e = .returned (.int .i64 v)) ∧ (∃ k', k' ≤ k + 1 ∧ Src w' w0.heap.size A n c k') ∧ Below w0.heap.size w0 w') := Lib.hid (fun m h1 h2 k W hk hs hb => by
    refine (pick_any m h1 h2 w0.heap.size A n c l hl h255 k (by omega) (by omega) W hs (hR.below hb (Nat.le_refl _))).mono ?_
    rintro e w' ⟨h3, h4, h5⟩
    exact ⟨h3, h4, hb.grown h5 hb.size (fun g e => by cases e; omega)⟩)
  have HON : Hid (∀ (k : Nat) (W : World), k ≤ 1000 → Src W w0.heap.size A n c k → Below w0.heap.size w0 W → Calls Try.prog 109 #[.pointer (some ⟨w0.heap.size, 0, none⟩), .int .i64 2] W fun e w' => (∃ b : Bool, e = .returned (.bool b)) ∧ Below w0.heap.size w0 w') := Lib.hid (fun k W hk hs hb => by
    refine (one_any 2 (by decide) (by decide) w0.heap.size A n c l hl h255 k (by omega) (by omega) W hs (hR.below hb (Nat.le_refl _))).mono ?_
    rintro e w' ⟨h3, h4, h5⟩
    exact ⟨h3, hb.grown h5 hb.size (fun g e => by cases e; omega)⟩)
  have HS := Lib.hid hs
  have HB0 := Lib.hid hB
  clear hR hl h255 hs hB
  go_enter Try.func65, Try.ntmps65
  go_wp2_with (go_at_call 62; refine (HPK.out 10 (by decide) (by decide) 0 _ (by omega) HS.out HB0.out).mono ?_; rintro e w2 ⟨⟨q, hq0, hq1, rfl⟩, ⟨k2, hk2, hs2⟩, hb2⟩; have HS2 := Lib.hid hs2; have B2 := Lib.hid hb2; clear hs2 hb2)
  obtain ⟨q', rfl⟩ := Int.eq_ofNat_of_zero_le hq0
  clear HS HB0
  go_loopw [7, 8] (fun v i wr => ∃ (j k : Nat) (xs : List Int), i = .int .i64 j ∧ v = .string (strOfNums xs) ∧ xs.length + j ≤ 9 ∧ k + 10 * j ≤ 200 ∧ Hid (GoodL xs) ∧ Hid (Src wr w0.heap.size A n c k) ∧ Hid (Below w0.heap.size w0 wr)) (fun _ i _ => (intOf i).toNat)
  case atStart => exact ⟨q', k2, [], rfl, rfl, by simp; omega, by omega, Lib.hid (fun _ hx => nomatch hx), HS2, B2⟩
  case round =>
    clear HS2 B2
    obtain ⟨j, k, xs, rfl, rfl, hxj, hkk, HG, HSR, HB⟩ := hrel
    by_cases hj0 : 0 < j
    · have hji : (0 : Int) < j := by omega
      go_wp2_with (go_at_call 62; refine (HPK.out 8 (by decide) (by decide) k _ (by omega) HSR.out HB.out).mono ?_; rintro e w3 ⟨⟨x, hx0, hx1, rfl⟩, ⟨k3, hk3, hs3⟩, hb3⟩; have HS3 := Lib.hid hs3; have B3 := Lib.hid hb3; clear hs3 hb3; obtain ⟨P, rfl⟩ := Int.eq_ofNat_of_zero_le hx0; have hP8 : P < 8 := (by omega); have hrl := (fun W => run_letter P hP8 W); have hyL := Lib.hid (lts_isL hP8); generalize lts.getD P 0 = y at *; have hcs : ¬ 9223372036854775807 < (strOfNums xs).size + (strOfNums [y]).size := (by rw [strOfNums_size, strOfNums_size, List.length_singleton]; omega))
      exact ⟨⟨j - 1, k3, xs ++ [y], by congr 1; omega, by rw [strOf_append], by rw [List.length_append, List.length_singleton]; omega, by omega, Lib.hid (HG.out.snoc hyL.out), HS3, B3⟩, by simp [intOf]; omega⟩
    · obtain rfl : j = 0 := by omega
      have hok := Lib.hid (goodL_ok HG.out (by omega))
      have HRE := Lib.hid (fun W => l05Reduce_any (strOfNums xs) (by rw [strOfNums_size]; omega) (fun k hk => goodL_at HG.out hk) W)
      generalize strOfNums xs = s at *
      go_upto_if 29 with (go_at_call 109; refine (HON.out k _ (by omega) HSR.out HB.out).mono ?_; rintro e w3 ⟨⟨b, rfl⟩, hb3⟩; have B3 := Lib.hid hb3; clear hb3)
      cases b
      · go_wp2
        go_ret
        exact ⟨⟨_, hok.out, rfl⟩, B3.out⟩
      · go_wp2_with (go_at_call 110; refine (HRE.out _).mono ?_; rintro e w4 ⟨⟨t, ht, rfl⟩, hb4⟩; have HT := Lib.hid ht; have B4 := Lib.hid (B3.out.trans (hb4.mono B3.out.size)); clear ht hb4)
        go_ret
        exact ⟨⟨_, HT.out, rfl⟩, B4.out⟩
set_option maxHeartbeats 1600000 in
theorem A2Word_any (A : Option Addr) (n c : Nat) (l : List Int) (hl : l.length = n) (h255 : is255 l) (hn : n ≤ 1000000) (w : World) (hR : Rd w w.heap.size 1 A n (l.map (.int .u8))) :
    Calls Try.prog 24 #[.slice A n c, .int .i64 4, .int .i64 9] w fun e w' => (∃ t, wOk t = true ∧ e = .returned (.string t)) ∧ Below w.heap.size w w' := by
  have HD := Lib.hid (fun W hs hb => l05Drawn_any w A n c l hl h255 hn hR W hs hb)
  clear hR hl h255
  go_enter Try.func24, Try.ntmps24
  go_wp2_with (first
    | (go_at_call 61; refine (l00FromY_any A n c w).mono ?_; rintro e w1 ⟨rfl, hs1, hb1⟩; have HS1 := Lib.hid hs1; have B1 := Lib.hid hb1; clear hs1 hb1)
    | (go_at_call 65; refine (HD.out _ HS1.out B1.out).mono ?_; rintro e w2 ⟨⟨t, ht, rfl⟩, hb2⟩; have HT := Lib.hid ht; have B2 := Lib.hid hb2; clear ht hb2))
  go_ret
  exact ⟨⟨_, HT.out, rfl⟩, B2.out⟩
end Go.Proofs.Ytmagaapdijapiaa
namespace Go.Proofs.Ytmagaapdijapiaa
open Go.ChangeShapes Go.WideShapes Go.ChangeAt Go.RowKit
set_option maxHeartbeats 1600000 in
theorem isSet_any (M : List Int) (hM : M.length = 16) (h16 : is16 M) (k : Nat) (hk : k < 256) (w : World) :
    Calls Try.prog 132 #[.agg (ivs .u16 M), .int .i64 k] w fun e w' => e = .returned (.bool (bitK M k)) ∧ Below w.heap.size w w' := by
  obtain ⟨u, hu⟩ : ∃ u : Nat, (k : Int) % 16 = u := ⟨k % 16, by omega⟩
  obtain ⟨v, hv⟩ : ∃ v : Nat, (k : Int) / 16 = v := ⟨k / 16, by omega⟩
  have hbk : bitK M k = bitB M u v := by rw [bitK, show k % 16 = u by omega, show k / 16 = v by omega]
  have h0 : Blk (w.alloc (.cells (ivs .u16 M) 76)) w.heap.size 76 (ivs .u16 M) := Blk.newAt rfl rfl
  have hv16 : v < 16 := by omega
  have hu16 : u < 16 := by omega
  have c1 := h0.getAtG (i := v) (by omega)
  obtain ⟨v0, v1⟩ := h16.getD v
  have hb : bitB M u v = decide (M.getD v 0 / 2 ^ u % 2 = 1) := rfl
  rw [hbk, hb]
  generalize M.getD v 0 = z at *
  have hkI : (k : Int) < 256 := by omega
  have hk0 : (0 : Int) ≤ k := by omega
  have hx0 : (0 : Int) ≤ u := by omega
  have hx1 : (u : Int) < 16 := by omega
  have hy0 : (0 : Int) ≤ v := by omega
  have hy1 : (v : Int) < 16 := by omega
  clear h0 hb hbk h16
  go_enter Try.func132, Try.ntmps132
  go_wp2
  go_ret
  rw [bit_eq v0 v1]
  exact ⟨rfl, (Below.refl _ _).alloc (Nat.le_refl _) _⟩
set_option maxRecDepth 20000 in
set_option maxHeartbeats 3200000 in
theorem iPackMask_any (M : List Int) (hM : M.length = 16) (h16 : is16 M) (w : World) :
    Calls Try.prog 94 #[.agg (ivs .u16 M)] w (GivesPk (pmL M) w) := by
  obtain ⟨i0, hi, iz0, iz1, iz2⟩ := info_parts Byte_info
  have h0 : Blk (w.alloc (.cells (ivs .u16 M) 76)) w.heap.size 76 (ivs .u16 M) := Blk.newAt rfl rfl
  have H0 := Lib.hid h0
  clear h0
  go_enter Try.func94, Try.ntmps94
  go_wp2
  go_loopw [3, 4, 5, 8] (fun v q o i wr => ∃ (k : Nat) (O : List Int) (f : Nat) (s : Bool) (r : Nat) (g cc : Nat), k ≤ 256 ∧ v = .slice (some ⟨g, 0, none⟩) O.length cc ∧ o = .bool s ∧ q = .int .i64 f ∧ i = .int .i64 k ∧ Hid (pmTo M k = (O, f, s)) ∧ Hid (f + r = k) ∧ Hid (wr.ownsRow (w.heap.size + 1) 5 1 (.slice (some ⟨g, 0, none⟩) O.length cc) O.length (O.map (.int .u8))) ∧ Hid (Blk wr w.heap.size 76 (ivs .u16 M)) ∧ w.heap.size + 1 ≤ wr.heap.size ∧ Hid (Below w.heap.size w wr)) (fun _ _ _ i _ => 256 - (intOf i).toNat)
  case atStart =>
    refine ⟨0, [], 0, false, 0, _, _, by omega, rfl, rfl, rfl, rfl, Lib.hid rfl, Lib.hid rfl, Lib.hid ?_, Lib.hid (H0.out.alloc _), by simp, Lib.hid (((Below.refl _ _).alloc (Nat.le_refl _) _).alloc (by simp) _)⟩
    have := World.ownsRow_lit (e := 5) (base := w.heap.size + 1) (size := 1) (w.alloc (.cells (ivs .u16 M) 76)) #[] 0 (by simp) (by unfold maxLen; omega) rfl
    rw [size_alloc] at this
    exact this
  case round =>
    clear H0
    obtain ⟨k, O, f, s, r, g, cc, hk, rfl, rfl, rfl, rfl, HP, HF, HO, H0, hz, HB⟩ := hrel
    have hlen := pm_len HP.out
    by_cases hlt : k < 256
    · have hkI : (k : Int) < 256 := by omega
      have hk0 : (0 : Int) ≤ k := by omega
      have hr255 : (r : Int) ≤ 255 := by have := HF.out; omega
      have hr0 : (0 : Int) ≤ r := by omega
      have hkf : (k : Int) - (f : Int) = (r : Int) := by have := HF.out; omega
      have HX := Lib.hid (isSet_any M hM h16 k hlt wr)
      have HSM := Lib.hid (fun h => pm_same HP.out h)
      have HTN := Lib.hid (fun h => pm_turn HP.out HF.out h)
      have HF1 : Hid (f + (r + 1) = k + 1) := Lib.hid (by have := HF.out; omega)
      clear HP HF
      by_cases hbs : bitK M k = s
      · have HS2 := Lib.hid (HSM.out hbs)
        rw [hbs] at HX
        clear HSM HTN hbs
        cases s
        all_goals
          go_wp2_with (first
            | refine wpList_load_row rfl _ _ rfl w.heap.size rfl 76 (ivs .u16 M) (0, 0) _ H0.out Try.underlying76 rfl (by rw [ivs_size, hM]; exact size76) ?_
            | (go_at_call 132; refine HX.out.mono ?_; rintro e w2 ⟨rfl, hb2⟩; have hz2 := hb2.size; have HO2 := Lib.hid (own_below HO.out hb2 (Nat.le_refl _)); have H2 := Lib.hid (H0.out.below hb2 H0.out.lt); have HB2 := Lib.hid (HB.out.trans (hb2.mono (by omega))); clear hb2))
          exact ⟨⟨k + 1, O, f, _, r + 1, g, cc, by omega, rfl, rfl, rfl, by go_num, HS2, HF1, HO2, H2, by omega, HB2⟩, by simp [intOf]; omega⟩
      · have HT2 := Lib.hid (HTN.out hbs)
        have hne : bitK M k = !s := by cases hq : bitK M k <;> cases s <;> first | rfl | exact absurd hq hbs
        rw [hne] at HX
        clear HSM HTN hbs hne HF1
        cases s
        all_goals
          go_wp2_with (first
            | refine wpList_load_row rfl _ _ rfl w.heap.size rfl 76 (ivs .u16 M) (0, 0) _ H0.out Try.underlying76 rfl (by rw [ivs_size, hM]; exact size76) ?_
            | (go_at_call 132; refine HX.out.mono ?_; rintro e w2 ⟨rfl, hb2⟩; have hz2 := hb2.size; have HO2 := Lib.hid (own_below HO.out hb2 (Nat.le_refl _)); have H2 := Lib.hid (H0.out.below hb2 H0.out.lt); have HB2 := Lib.hid (HB.out.trans (hb2.mono (by omega))); clear hb2; have HN2 := Lib.hid (Blk.news (k := .u8) (l := [(r : Int)]) (t := 5) (w := w2.alloc (.cells #[.int .u8 (r : Int)] 5)) (g := w2.heap.size) (Blk.newAt rfl rfl)))
            | (at_builtin; refine wpList_append_own _ rfl _ _ 40 rfl (w.heap.size + 1) 5 i0 _ 1 1 Try.underlying40 hi iz0 iz1 iz2 rfl (by decide) (.slice (some ⟨g, 0, none⟩) O.length cc) O.length _ rfl (HO2.out.alloc _) ⟨w2.heap.size, 0, none⟩ 1 1 ([(r : Int)].map (.int .u8)) rfl rfl HN2.out ints_one (by unfold maxLen; omega) (by omega) (by rw [size_alloc]; omega) ?_; intro v' w3 hown' hgrow _; rw [← List.map_append] at hown'; have HOWN := Lib.hid hown'; have HGR := Lib.hid hgrow; clear hown' hgrow))
          obtain ⟨A1, c1', hve, hOO⟩ := Own.of_row HOWN.out
          obtain ⟨g2, cur1, hA1, _⟩ := hOO.at_ (by omega)
          subst hve hA1
          have hne := fun j e => (HO2.out.lt j e).1
          exact ⟨⟨k + 1, O ++ [(r : Int)], k, _, 1, g2, c1', by omega, by rw [List.length_append]; rfl, rfl, rfl, by go_num, HT2, Lib.hid rfl, Lib.hid (by rw [List.length_append]; exact HOWN.out), Lib.hid ((H2.out.alloc _).grown HGR.out (fun e => by have := hne _ e.symm; omega)), by have := HGR.out.size; rw [size_alloc] at this; omega, Lib.hid ((HB2.out.alloc (by omega) _).grown HGR.out (by rw [size_alloc]; omega) (fun j e => by have := hne j e; omega))⟩, by simp [intOf]; omega⟩
    · obtain rfl : k = 256 := by omega
      have HE : Hid (pmL M = O) := Lib.hid (by rw [pmL, HP.out])
      obtain ⟨A1, c1', hve, hO⟩ := Own.of_row HO.out
      cases hve
      have HOO := Lib.hid hO
      clear hO
      go_wp2
      go_ret
      exact ⟨g, cc, by rw [HE.out]; rfl, by rw [HE.out]; exact HOO.out.less (by omega), HB.out⟩
end Go.Proofs.Ytmagaapdijapiaa
namespace Go.Proofs.Ytmagaapdijapiaa
open Go.ChangeShapes Go.WideShapes Go.ChangeAt Go.RowKit
theorem results_row_tmpY {P : Program} {fn : Func} {p u : Tmp} {ty : TypeId} (h : fn.results = #[.cell p ty, .tmp u]) (tmps : Array Value) (w : World) (g : Nat) (t : TypeId) (cs : Array Value) (fr : Nat × Nat) (d : TypeDesc)
    (hp : tmps.getD p undef = .pointer (some ⟨g, 0, none⟩)) (hg : w.heap[g]? = some (.cells cs t fr))
    (hu : P.underlying ty = some d) (hd : (match d with | .struct _ | .array _ _ => true | _ => false) = true) (hi : (P.info? ty).map (·.size) = some cs.size) :
    (results fn tmps).run P w = .ok (.tuple #[.agg cs, tmps.getD u undef]) w := by
  have hp' : tmps[p]?.getD undef = .pointer (some ⟨g, 0, none⟩) := by simpa using hp
  simp [results, h, hp', asAddr, run_loadVar_row w g t ty cs fr d hg hu hd hi]
/-- a mask and whether it could be read -/
def GivesU (M : List Int) (C : Int) (w : World) (e : Ending) (w' : World) : Prop :=
  e = .returned (.tuple #[.agg (ivs .u16 M), .int .i64 C]) ∧ Below w.heap.size w w'
theorem setK_blk {w : World} {g : Nat} {M : List Int} (h : Blk w g 76 (ivs .u16 M)) (a : Nat) : Blk (w.setCell ⟨g, a / 16, none⟩ (.int .u16 (orF (M.getD (a / 16) 0) (2 ^ (a % 16))))) g 76 (ivs .u16 (setK M a)) := by
  rw [setK, setOr]
  exact h.setI _ _
set_option maxRecDepth 20000 in
set_option maxHeartbeats 3200000 in
theorem sUnpackMask_any (A : Option Addr) (n c : Nat) (D : List Int) (hl : D.length = n) (h255 : is255 D) (hn : n ≤ 256) (w : World) (hR : Rd w w.heap.size 1 A n (D.map (.int .u8))) :
    Calls Try.prog 54 #[.slice A n c] w (GivesU (unM D) (unC D) w) := by
  have HR := Lib.hid hR
  have HL := Lib.hid hl
  have H255 := Lib.hid h255
  clear hR hl h255
  go_enter Try.func54, Try.ntmps54
  go_wp2
  go_loopw [5, 6] (fun a i wr => ∃ k : Nat, k ≤ n ∧ a = .int .i64 ((sumN D k : Nat) : Int) ∧ i = .int .i64 k ∧ sumN D k ≤ 256 ∧ Hid (Blk wr w.heap.size 76 (ivs .u16 zr16)) ∧ Hid (Blk wr (w.heap.size + 1) 76 (ivs .u16 (decK D k))) ∧ Hid (Below w.heap.size w wr)) (fun _ i _ => n - (intOf i).toNat)
  case atStart => refine ⟨0, by omega, by rw [sumN_zero]; rfl, rfl, by rw [sumN_zero]; omega, Lib.hid ((Blk.newAt rfl rfl).alloc _), Lib.hid (by have h := Blk.new (w.alloc (.cells (ivs .u16 zr16) 76)) 76 (ivs .u16 zr16); rw [size_alloc] at h; exact h), Lib.hid (((Below.refl _ _).alloc (Nat.le_refl _) _).alloc (by simp) _)⟩
  case round =>
    obtain ⟨k, hk, rfl, rfl, hs, H0, H1, HB⟩ := hrel
    by_cases hlt : k < n
    · obtain ⟨b, o, hA, hbB, hc⟩ := (HR.out.below HB.out (Nat.le_refl _)).at_ (by omega)
      subst hA
      have hkl : k < D.length := by rw [HL.out]; exact hlt
      have hsm := sumN_succ hkl
      have hx := H255.out _ (List.getElem_mem hkl)
      have hM := decK_ok D k
      have hdk : decK D (k + 1) = if oddB k then fillK (decK D k) (atK D k) (atK D (k + 1) - atK D k) else decK D k := rfl
      have hal : atK D k = sumN D k := by unfold atK; omega
      obtain ⟨x, hxe⟩ : ∃ x : Nat, D[k] = x := ⟨(D[k]).toNat, by omega⟩
      have cb := hc k (.int .u8 x) (by rw [List.getElem?_map, List.getElem?_eq_getElem hkl, ← hxe]; rfl)
      have HX : Hid (D[k]? = some (x : Int)) := Lib.hid (by rw [List.getElem?_eq_getElem hkl, hxe])
      rw [hxe] at hx hsm
      have HSM := Lib.hid hsm
      have HDK := Lib.hid hdk
      have HAL := Lib.hid hal
      have HM := Lib.hid hM
      have hbB2 : b < w.heap.size + 1 := by omega
      clear hc hxe hsm hdk hal hM hkl
      obtain ⟨s, hse⟩ : ∃ s, sumN D k = s := ⟨_, rfl⟩
      rw [hse] at HSM HAL hs ⊢
      have hk0 : (0 : Int) ≤ k := by omega
      have hki : (k : Int) < n := by omega
      go_wp2
      go_loopw [5, 7] (fun a i wi => ∃ j : Nat, j ≤ x ∧ a = .int .i64 ((s + j : Nat) : Int) ∧ i = .int .i64 j ∧ s + j ≤ 256 ∧ Hid (Blk wi w.heap.size 76 (ivs .u16 zr16)) ∧ Hid (Blk wi (w.heap.size + 1) 76 (ivs .u16 (if oddB k then fillK (decK D k) s j else decK D k))) ∧ Hid (Below w.heap.size w wi)) (fun _ i _ => x - (intOf i).toNat)
      case atStart => exact ⟨0, by omega, by rw [Nat.add_zero], rfl, by omega, H0, Lib.hid (by have := H1.out; cases oddB k <;> exact this), HB⟩
      case round =>
        clear H0 H1 HB
        obtain ⟨j, hj, rfl, rfl, hsj, H0, H1, HB⟩ := hrel
        obtain ⟨b', o', hA', hbB', hc'⟩ := (HR.out.below HB.out (Nat.le_refl _)).at_ (by omega)
        cases hA'
        have cb1 := hc' k (.int .u8 x) (by rw [List.getElem?_map, HX.out]; rfl)
        clear hc' hbB'
        have hj0 : (0 : Int) ≤ j := by omega
        have hxi : (x : Int) ≤ 255 := hx.2
        by_cases hjx : j < x
        · have hjxi : (j : Int) < x := by omega
          by_cases h6 : s + j = 256
          · rw [h6]
            have hbad : pmL (decA D) ≠ D := un_long (.inl (by have := sumN_mono D (show k + 1 ≤ D.length by have := HL.out; omega); have := HSM.out; omega))
            have EM : unM D = zr16 := by rw [unM, if_neg hbad]
            have EC : unC D = 5 := by rw [unC, if_neg hbad]
            have HEM := Lib.hid EM
            have HEC := Lib.hid EC
            clear hbad EM EC
            go_wp2_with (refine wpList_store_row rfl _ _ _ rfl w.heap.size (ivs .u16 zr16) rfl rfl 76 _ H0.out (by exact size76) rfl ivs_one ?_)
            exact bodyPost_ret (results_row_tmpY rfl _ _ w.heap.size 76 (ivs .u16 zr16) (0, 0) _ rfl (H0.out.row _) Try.underlying76 rfl (by exact size76)) rfl ⟨by rw [HEM.out, HEC.out]; rfl, below_setRow HB.out (by omega) _⟩
          · have h6i : ¬ ((s : Int) + j) = 256 := by omega
            cases hod : oddB k
            · have hrm : (k : Int) % 2 = 0 := by unfold oddB at hod; simp at hod; omega
              rw [hod] at H1
              go_wp2
              exact ⟨⟨j + 1, by omega, by go_num, by go_num, by omega, H0, H1, HB⟩, by simp [intOf]; omega⟩
            · have hrm : (k : Int) % 2 = 1 := by unfold oddB at hod; simp at hod; omega
              rw [hod, if_pos rfl] at H1
              obtain ⟨m1, m2⟩ := fillK_ok HM.out.1 HM.out.2 s j
              have HM1 := Lib.hid m1
              have HM2 := Lib.hid m2
              have hfl : fillK (decK D k) s (j + 1) = setK (fillK (decK D k) s j) (s + j) := rfl
              have HFL := Lib.hid hfl
              clear m1 m2 hfl
              generalize fillK (decK D k) s j = M at *
              obtain ⟨a, ha⟩ : ∃ a, s + j = a := ⟨_, rfl⟩
              rw [ha] at HFL hsj h6 ⊢
              have H3 := Lib.hid (setK_blk H1.out a)
              have h6a : ¬ (a : Int) = 256 := by omega
              have ha0 : (0 : Int) ≤ a := by omega
              obtain ⟨u, hu⟩ : ∃ u : Nat, (a : Int) % 16 = u := ⟨a % 16, by omega⟩
              obtain ⟨v, hv⟩ : ∃ v : Nat, (a : Int) / 16 = v := ⟨a / 16, by omega⟩
              rw [show a % 16 = u by omega, show a / 16 = v by omega] at H3
              have hv16 : v < 16 := by omega
              have hu16 : u < 16 := by omega
              have c8 := H1.out.getAtG (i := v) (by rw [HM1.out]; exact hv16)
              have f8 := H1.out.frozen v
              generalize M.getD v 0 = m8 at *
              have hvI : (v : Int) < 16 := by omega
              have hv0 : (0 : Int) ≤ v := by omega
              have huI : (u : Int) < 16 := by omega
              have hu0 : (0 : Int) ≤ u := by omega
              have hp16 := pow_16 hu16
              have hwp : IntKind.u16.wrap (2 ^ u) = 2 ^ u := by rw [IntKind.wrap_u16]; omega
              have HA := Lib.hid ha
              clear hp16 ha
              go_wp2
              have H3' : Hid (Blk (wr.setCell ⟨w.heap.size + 1, v, none⟩ (.int .u16 (bits .or .u16 m8 (2 ^ u)))) (w.heap.size + 1) 76 (ivs .u16 (setK M a))) := H3
              exact ⟨⟨j + 1, by omega, by rw [show s + (j + 1) = a + 1 by have := HA.out; omega]; go_num, by go_num, by have := HA.out; omega, Lib.hid (H0.out.far (p := ⟨w.heap.size + 1, v, none⟩) (show w.heap.size ≠ w.heap.size + 1 by omega) _), by rw [HFL.out]; exact H3', Lib.hid (HB.out.setCell (p := ⟨w.heap.size + 1, v, none⟩) (show w.heap.size ≤ w.heap.size + 1 by omega) _)⟩, by simp [intOf]; omega⟩
        · obtain rfl : j = x := by omega
          go_wp2
          exact ⟨⟨k + 1, by omega, by rw [HSM.out]; rfl, by go_num, by rw [HSM.out]; exact hsj, H0, Lib.hid (by
            have h := H1.out
            have e2 : atK D (k + 1) - atK D k = j := by rw [HAL.out, atK, HSM.out]; simp only [Int.toNat_natCast]; omega
            rw [HDK.out, e2, HAL.out]
            exact h), HB⟩, by simp [intOf]; omega⟩
    · obtain rfl : k = n := by omega
      have hM := decK_ok D k
      have hal : atK D k = sumN D k := by unfold atK; omega
      have hda : decA D = if oddB k then fillK (decK D k) (atK D k) (256 - atK D k) else decK D k := by rw [decA, HL.out]
      rw [hal] at hda
      have HM := Lib.hid hM
      have HDA := Lib.hid hda
      clear hM hal hda
      obtain ⟨s, hse⟩ : ∃ s, sumN D k = s := ⟨_, rfl⟩
      rw [hse] at HDA hs ⊢
      generalize decK D k = M0 at *
      go_wp2
      go_loopw [5] (fun a wi => ∃ j : Nat, a = .int .i64 ((s + j : Nat) : Int) ∧ s + j ≤ 256 ∧ (oddB k = false → j = 0) ∧ Hid (Blk wi w.heap.size 76 (ivs .u16 zr16)) ∧ Hid (Blk wi (w.heap.size + 1) 76 (ivs .u16 (fillK M0 s j))) ∧ Hid (Below w.heap.size w wi)) (fun a _ => 256 - (intOf a).toNat)
      case atStart => exact ⟨0, by rw [Nat.add_zero], by omega, fun _ => rfl, H0, H1, HB⟩
      case round =>
        clear H0 H1 HB
        obtain ⟨j, rfl, hsj, hz, H0, H1, HB⟩ := hrel
        have hk0 : (0 : Int) ≤ k := by omega
        have hcs : (oddB k = true ∧ s + j < 256) ∨ ((oddB k = false ∨ (oddB k = true ∧ s + j = 256)) ∧ fillK M0 s j = decA D) := by
          rw [HDA.out]
          cases hod : oddB k
          · obtain rfl := hz hod
            exact .inr ⟨.inl rfl, rfl⟩
          · by_cases h6 : s + j = 256
            · exact .inr ⟨.inr ⟨rfl, h6⟩, by rw [if_pos rfl, show 256 - s = j by omega]⟩
            · exact .inl ⟨rfl, by omega⟩
        rcases hcs with ⟨hod, h6⟩ | ⟨hcs, hdec⟩
        · have hrm : (k : Int) % 2 = 1 := by unfold oddB at hod; simp at hod; omega
          obtain ⟨m1, m2⟩ := fillK_ok HM.out.1 HM.out.2 s j
          have HM1 := Lib.hid m1
          have hfl : fillK M0 s (j + 1) = setK (fillK M0 s j) (s + j) := rfl
          have HFL := Lib.hid hfl
          have HOD := Lib.hid hod
          clear m1 m2 hfl hz hod
          generalize fillK M0 s j = M at *
          obtain ⟨a, ha⟩ : ∃ a, s + j = a := ⟨_, rfl⟩
          rw [ha] at HFL hsj h6 ⊢
          have H3 := Lib.hid (setK_blk H1.out a)
          have h6a : (a : Int) < 256 := by omega
          have ha0 : (0 : Int) ≤ a := by omega
          obtain ⟨u, hu⟩ : ∃ u : Nat, (a : Int) % 16 = u := ⟨a % 16, by omega⟩
          obtain ⟨v, hv⟩ : ∃ v : Nat, (a : Int) / 16 = v := ⟨a / 16, by omega⟩
          rw [show a % 16 = u by omega, show a / 16 = v by omega] at H3
          have hv16 : v < 16 := by omega
          have hu16 : u < 16 := by omega
          have c8 := H1.out.getAtG (i := v) (by rw [HM1.out]; exact hv16)
          have f8 := H1.out.frozen v
          generalize M.getD v 0 = m8 at *
          have hvI : (v : Int) < 16 := by omega
          have hv0 : (0 : Int) ≤ v := by omega
          have huI : (u : Int) < 16 := by omega
          have hu0 : (0 : Int) ≤ u := by omega
          have hp16 := pow_16 hu16
          have hwp : IntKind.u16.wrap (2 ^ u) = 2 ^ u := by rw [IntKind.wrap_u16]; omega
          have HA := Lib.hid ha
          clear hp16 ha
          go_wp2
          have H3' : Hid (Blk (wr.setCell ⟨w.heap.size + 1, v, none⟩ (.int .u16 (bits .or .u16 m8 (2 ^ u)))) (w.heap.size + 1) 76 (ivs .u16 (setK M a))) := H3
          exact ⟨⟨j + 1, by rw [show s + (j + 1) = a + 1 by have := HA.out; omega]; go_num, by have := HA.out; omega, fun h => absurd (HOD.out.symm.trans h) (by decide), Lib.hid (H0.out.far (p := ⟨w.heap.size + 1, v, none⟩) (show w.heap.size ≠ w.heap.size + 1 by omega) _), by rw [HFL.out]; exact H3', Lib.hid (HB.out.setCell (p := ⟨w.heap.size + 1, v, none⟩) (show w.heap.size ≤ w.heap.size + 1 by omega) _)⟩, by simp [intOf]; omega⟩
        · rw [hdec] at H1
          have HPK := Lib.hid (fun W => sPackMask_any (decA D) (decA_ok D).1 (decA_ok D).2 W)
          have HDM := Lib.hid (decA_ok D)
          have hn2 : (s : Int) + j ≤ 256 := by omega
          have hpm : ((oddB k = false) ∧ (k : Int) % 2 = 0) ∨ ((k : Int) % 2 = 1 ∧ (s : Int) + j = 256) := by
            rcases hcs with h | ⟨h, h6⟩
            · exact .inl ⟨h, by unfold oddB at h; simp at h; omega⟩
            · exact .inr ⟨by unfold oddB at h; simp at h; omega, by omega⟩
          have HCS : Hid ((pmL (decA D) = D ∧ (pmL (decA D)).length = k ∧ unM D = decA D ∧ unC D = 0) ∨ (pmL (decA D) ≠ D ∧ unM D = zr16 ∧ unC D = 5)) := Lib.hid (by
            by_cases e : pmL (decA D) = D
            · exact .inl ⟨e, by rw [e]; exact HL.out, by rw [unM, if_pos e], by rw [unC, if_pos e]⟩
            · exact .inr ⟨e, by rw [unM, if_neg e], by rw [unC, if_neg e]⟩)
          clear hcs hz hdec HDA HM
          generalize unM D = RM at *
          generalize unC D = RC at *
          by_cases hln : (pmL (decA D)).length = k
          · generalize hP : pmL (decA D) = P at *
            have HP255 : Hid (is255 P) := Lib.hid (by rw [← hP]; exact pmL_in _)
            have HRR := HR
            rcases hpm with ⟨-, hrm⟩ | ⟨hrm, h6⟩
            all_goals
              go_wp2_with (first
                | refine wpList_load_row rfl _ _ rfl (w.heap.size + 1) rfl 76 (ivs .u16 (decA D)) (0, 0) _ H1.out Try.underlying76 rfl (by rw [ivs_size, HDM.out.1]; exact size76) ?_
                | (go_at_call 45; refine (HPK.out _).mono ?_; rintro e w2 ⟨g2, c2, rfl, hO2, hb2⟩; have HO2 := Lib.hid hO2.rd; have HB2 := Lib.hid (HB.out.trans (hb2.mono HB.out.size)); have R0 := Lib.hid (H0.out.below hb2 (by have := H1.out.lt; omega)); have R1 := Lib.hid (H1.out.below hb2 H1.out.lt); clear hO2 hb2))
              go_loopw [9] (fun i wi => ∃ m : Nat, m ≤ k ∧ i = .int .i64 m ∧ Hid (P.take m = D.take m) ∧ Hid (Rd wi w2.heap.size 1 (some ⟨g2, 0, none⟩) P.length (P.map (.int .u8))) ∧ Hid (Blk wi w.heap.size 76 (ivs .u16 zr16)) ∧ Hid (Blk wi (w.heap.size + 1) 76 (ivs .u16 (decA D))) ∧ Hid (Below w.heap.size w wi)) (fun i _ => k - (intOf i).toNat)
              case atStart => exact ⟨0, by omega, rfl, Lib.hid rfl, HO2, R0, R1, HB2⟩
              case round =>
                clear HO2 R0 R1 HB2
                obtain ⟨m, hm, rfl, HEQ, HO2, R0, R1, HB2⟩ := hrel
                by_cases hmk : m < k
                · have hmi : (m : Int) < k := by omega
                  have hm0 : (0 : Int) ≤ m := by omega
                  have hmP : m < P.length := by omega
                  have hmD : m < D.length := by have := HL.out; omega
                  have hmPi : (m : Int) < (P.length : Int) := by omega
                  obtain ⟨b, o, rfl, hbB, hc⟩ := (HR.out.below HB2.out (Nat.le_refl _)).at_ (by omega)
                  obtain ⟨g9, o9, hA9, hbB9, hc9⟩ := HO2.out.at_ (by omega)
                  cases hA9
                  have c1 := hc m (.int .u8 D[m]) (by rw [List.getElem?_map, List.getElem?_eq_getElem hmD]; rfl)
                  have c2 := hc9 m (.int .u8 P[m]) (by rw [List.getElem?_map, List.getElem?_eq_getElem hmP]; rfl)
                  rw [Nat.zero_add] at c2
                  have hx := H255.out _ (List.getElem_mem hmD)
                  have hy := HP255.out _ (List.getElem_mem hmP)
                  have hst : P[m] = D[m] → P.take (m + 1) = D.take (m + 1) := fun e => by
                    rw [List.take_succ_eq_append_getElem hmP, List.take_succ_eq_append_getElem hmD, HEQ.out, e]
                  have hno : ¬ P[m] = D[m] → P ≠ D := fun h e => h (by subst e; rfl)
                  have HST := Lib.hid hst
                  have HNO := Lib.hid hno
                  clear hst hno hc hc9 hbB hbB9
                  generalize P[m] = y at *
                  generalize D[m] = x at *
                  by_cases hxy : y = x
                  · subst hxy
                    have HS2 := Lib.hid (HST.out rfl)
                    clear HST HNO
                    go_wp2
                    go_quiet (fail)
                    go_wp2
                    exact ⟨⟨m + 1, by omega, by go_num, HS2, Lib.hid (HO2.out.drewN _), Lib.hid (R0.out.drewN _), Lib.hid (R1.out.drewN _), Lib.hid (below_drewN HB2.out _)⟩, by simp [intOf]; omega⟩
                  · have HE : Hid (RM = zr16 ∧ RC = 5) := Lib.hid (by
                      rcases HCS.out with ⟨e, _, _⟩ | ⟨_, e⟩
                      · exact absurd e (HNO.out hxy)
                      · exact e)
                    go_wp2
                    go_quiet (fail)
                    go_wp2_with (refine wpList_store_row rfl _ _ _ rfl w.heap.size (ivs .u16 zr16) rfl rfl 76 _ (R0.out.drewN _) (by exact size76) rfl ivs_one ?_)
                    exact bodyPost_ret (results_row_tmpY rfl _ _ w.heap.size 76 (ivs .u16 zr16) (0, 0) _ rfl ((R0.out.drewN _).row _) Try.underlying76 rfl (by exact size76)) rfl ⟨by rw [HE.out.1, HE.out.2]; rfl, below_setRow (below_drewN HB2.out _) (by omega) _⟩
                · obtain rfl : m = k := by omega
                  have hpd : P = D := by
                    have h1 := HEQ.out
                    rwa [List.take_of_length_le (by omega), List.take_of_length_le (by have := HL.out; omega)] at h1
                  have HE : Hid (RM = decA D ∧ RC = 0) := Lib.hid (by
                    rcases HCS.out with ⟨_, _, e⟩ | ⟨e, _⟩
                    · exact e
                    · exact absurd hpd e)
                  go_wp2_with (first
                    | refine wpList_load_row rfl _ _ rfl (w.heap.size + 1) rfl 76 (ivs .u16 (decA D)) (0, 0) _ R1.out Try.underlying76 rfl (by rw [ivs_size, HDM.out.1]; exact size76) ?_
                    | refine wpList_store_row rfl _ _ _ rfl w.heap.size (ivs .u16 (decA D)) rfl rfl 76 _ R0.out (by rw [ivs_size, HDM.out.1]; exact size76) (by rw [ivs_size, ivs_size, HDM.out.1]; rfl) ivs_one ?_)
                  exact bodyPost_ret (results_row_tmpY rfl _ _ w.heap.size 76 (ivs .u16 (decA D)) (0, 0) _ rfl (R0.out.row _) Try.underlying76 rfl (by rw [ivs_size, HDM.out.1]; exact size76)) rfl ⟨by rw [HE.out.1, HE.out.2]; rfl, below_setRow HB2.out (by omega) _⟩
          · have HE : Hid (RM = zr16 ∧ RC = 5) := Lib.hid (by
              rcases HCS.out with ⟨_, e, _⟩ | ⟨_, e⟩
              · exact absurd e hln
              · exact e)
            have hlni : ¬ ((pmL (decA D)).length : Int) = (k : Int) := by omega
            rcases hpm with ⟨-, hrm⟩ | ⟨hrm, h6⟩
            all_goals
              go_wp2_with (first
                | refine wpList_load_row rfl _ _ rfl (w.heap.size + 1) rfl 76 (ivs .u16 (decA D)) (0, 0) _ H1.out Try.underlying76 rfl (by rw [ivs_size, HDM.out.1]; exact size76) ?_
                | (go_at_call 45; refine (HPK.out _).mono ?_; rintro e w2 ⟨g2, c2, rfl, hO2, hb2⟩; have HB2 := Lib.hid (HB.out.trans (hb2.mono HB.out.size)); have R0 := Lib.hid (H0.out.below hb2 (by have := H1.out.lt; omega)); clear hO2 hb2)
                | refine wpList_store_row rfl _ _ _ rfl w.heap.size (ivs .u16 zr16) rfl rfl 76 _ R0.out (by exact size76) rfl ivs_one ?_)
              exact bodyPost_ret (results_row_tmpY rfl _ _ w.heap.size 76 (ivs .u16 zr16) (0, 0) _ rfl (R0.out.row _) Try.underlying76 rfl (by exact size76)) rfl ⟨by rw [HE.out.1, HE.out.2]; rfl, below_setRow HB2.out (by omega) _⟩
end Go.Proofs.Ytmagaapdijapiaa
namespace Go.Proofs.Ytmagaapdijapiaa
open Go.ChangeShapes Go.WideShapes Go.ChangeAt Go.RowKit
set_option maxRecDepth 20000 in
set_option maxHeartbeats 1600000 in
theorem equalB_any (A A' : Option Addr) (n n' c c' : Nat) (l l' : List Int) (hl : l.length = n) (hl' : l'.length = n') (hn : n ≤ 100000000) (w : World) (hR : Rd w w.heap.size 1 A n (l.map (.int .u8))) (hR' : Rd w w.heap.size 1 A' n' (l'.map (.int .u8))) :
    Calls Try.prog 106 #[.slice A n c, .slice A' n' c'] w fun e w' => e = .returned (.bool (l == l')) ∧ Below w.heap.size w w' := by
  by_cases hnn : n = n'
  · subst hnn
    have HR := Lib.hid hR
    have HR' := Lib.hid hR'
    have Hl := Lib.hid hl
    have Hl' := Lib.hid hl'
    clear hR hR' hl hl'
    go_enter Try.func106, Try.ntmps106
    go_wp2
    go_loopw [5, 13] (fun _ i wr => ∃ k : Nat, k ≤ n ∧ i = .int .i64 k ∧ Hid (l.take k = l'.take k) ∧ Below w.heap.size w wr) (fun _ i _ => n - (intOf i).toNat)
    case atStart => exact ⟨0, by omega, rfl, Lib.hid (by simp), Below.refl _ _⟩
    case round =>
      obtain ⟨k, hk, rfl, htk, hb⟩ := hrel
      by_cases hlt : k < n
      · obtain ⟨b, o, rfl, hbB, hc⟩ := (HR.out.below hb (Nat.le_refl _)).at_ (by omega)
        obtain ⟨b', o', rfl, hbB', hc'⟩ := (HR'.out.below hb (Nat.le_refl _)).at_ (by omega)
        have hkl : k < l.length := by rw [Hl.out]; exact hlt
        have hkl' : k < l'.length := by rw [Hl'.out]; exact hlt
        have c1 := hc k (.int .u8 l[k]) (by rw [List.getElem?_map, List.getElem?_eq_getElem hkl]; rfl)
        have c2 := hc' k (.int .u8 l'[k]) (by rw [List.getElem?_map, List.getElem?_eq_getElem hkl']; rfl)
        by_cases he : l[k] = l'[k]
        · have htk2 := Lib.hid (take_eq_succ hkl hkl' htk.out he)
          rw [← he] at c2
          generalize l[k] = x at *
          have hi1 : (k : Int) < (n : Int) := by omega
          clear hc hbB hc' hbB' he hkl hkl' htk
          go_wp2_with fail
          go_quiet (fail)
          go_wp2
          exact ⟨⟨k + 1, by omega, by go_num, htk2, below_drewN hb _⟩, by simp [intOf]; omega⟩
        · have hfin := Lib.hid (bne_of_at hkl hkl' he)
          generalize l[k] = x at *
          generalize l'[k] = y at *
          have hi1 : (k : Int) < (n : Int) := by omega
          clear hc hbB hc' hbB' hkl hkl' htk
          go_wp2_with fail
          go_quiet (fail)
          go_wp2
          go_ret
          exact ⟨by rw [hfin.out]; rfl, below_drewN hb _⟩
      · have : k = n := by omega
        subst this
        have hfin := Lib.hid (beq_of_takes Hl.out Hl'.out htk.out)
        clear htk
        go_wp2
        go_ret
        exact ⟨by rw [hfin.out]; rfl, hb⟩
  · have hne : (l == l') = false := by
      rw [beq_eq_false_iff_ne]
      rintro rfl
      exact hnn (hl.symm.trans hl')
    rw [hne]
    clear hne hl hl' hR hR'
    go_enter Try.func106, Try.ntmps106
    go_wp2
    go_ret
    exact ⟨rfl, Below.refl _ _⟩
/-- the same of the library's other one -/
theorem bytesEq_any (g g' : Nat) (n n' c c' : Nat) (l l' : List Int) (hl : l.length = n) (hl' : l'.length = n') (h1 : is255 l) (h2 : is255 l') (w : World) (h : w.rangeAt g 0 (l.map (.int .u8))) (h' : w.rangeAt g' 0 (l'.map (.int .u8))) :
    Calls Try.prog 60 #[.slice (some ⟨g, 0, none⟩) n c, .slice (some ⟨g', 0, none⟩) n' c'] w fun e w' => e = .returned (.bool (l == l')) ∧ w = w' := by
  refine (bytesEqual_any g 0 n c g' 0 n' c' _ _ w (conv_bytes hl h) (conv_bytes hl' h')).mono ?_
  rintro e w' ⟨rfl, rfl⟩
  exact ⟨by rw [strOfNums_inj h1 h2], rfl⟩
end Go.Proofs.Ytmagaapdijapiaa
namespace Go.Proofs.Ytmagaapdijapiaa
open Go.ChangeShapes Go.WideShapes Go.ChangeAt Go.RowKit
/-- where the first rounds lead, and what they fill -/
def atE (D : List Int) (n k : Nat) : Nat := if k ≤ n then atK D k else 256
def mkE (D : List Int) (n k : Nat) : List Int := if k ≤ n then decK D k else decA D
theorem mkE_succ {D : List Int} {n k : Nat} (hl : D.length = n) (hk : k ≤ n) : mkE D n (k + 1) = if oddB k then fillK (mkE D n k) (atE D n k) (atE D n (k + 1) - atE D n k) else mkE D n k := by
  rw [mkE, mkE, atE, atE, if_pos hk, if_pos hk]
  by_cases h : k + 1 ≤ n
  · rw [if_pos h, if_pos h]; rfl
  · obtain rfl : k = n := by omega
    rw [if_neg h, if_neg h, decA, hl]
theorem mkE_ok (D : List Int) (n k : Nat) : (mkE D n k).length = 16 ∧ is16 (mkE D n k) := by
  rw [mkE]
  split
  · exact decK_ok _ _
  · exact decA_ok _
theorem atE_le (D : List Int) (n k : Nat) : atE D n k ≤ 256 := by
  rw [atE]
  split
  · exact atK_le _ _
  · exact Nat.le_refl _
theorem atE_mono {D : List Int} {n k : Nat} (hk : k ≤ n) : atE D n k ≤ atE D n (k + 1) := by
  rw [atE, atE, if_pos hk]
  split
  · exact atK_mono _ _
  · exact atK_le _ _
theorem atE_next {D : List Int} {n k : Nat} (hl : D.length = n) (hk : k < n) : atE D n (k + 1) = min 256 (atE D n k + (D[k]'(by omega)).toNat) := by
  have h := sumN_succ (l := D) (k := k) (by omega)
  rw [atE, atE, if_pos (by omega), if_pos (by omega), atK, atK, h]
  omega
set_option maxRecDepth 20000 in
set_option maxHeartbeats 3200000 in
theorem iUnpackMask_any (A : Option Addr) (n c : Nat) (D : List Int) (hl : D.length = n) (h255 : is255 D) (hn : n ≤ 256) (w : World) (hR : Rd w w.heap.size 1 A n (D.map (.int .u8))) :
    Calls Try.prog 58 #[.slice A n c] w (GivesU (unM D) (unC D) w) := by
  have HR := Lib.hid hR
  have HL := Lib.hid hl
  have H255 := Lib.hid h255
  clear hR hl h255
  have hmin : min (n : Int) 256 = n := by omega
  go_enter Try.func58, Try.ntmps58
  go_wp2
  go_loopw [5, 6, 14] (fun a s i wr => ∃ k : Nat, k ≤ n + 1 ∧ a = .int .i64 ((atE D n k : Nat) : Int) ∧ s = .bool (oddB k) ∧ i = .int .i64 k ∧ Hid (Blk wr w.heap.size 76 (ivs .u16 zr16)) ∧ Hid (Blk wr (w.heap.size + 1) 76 (ivs .u16 (mkE D n k))) ∧ Hid (Below w.heap.size w wr)) (fun _ _ i _ => n + 1 - (intOf i).toNat)
  case atStart => exact ⟨0, by omega, by rw [atE, if_pos (Nat.zero_le _)]; rfl, rfl, rfl, Lib.hid ((Blk.newAt rfl rfl).alloc _), Lib.hid (by have h := Blk.new (w.alloc (.cells (ivs .u16 zr16) 76)) 76 (ivs .u16 zr16); rw [size_alloc] at h; rw [mkE, if_pos (Nat.zero_le _)]; exact h), Lib.hid (((Below.refl _ _).alloc (Nat.le_refl _) _).alloc (by simp) _)⟩
  case round =>
    obtain ⟨k, hk, rfl, rfl, rfl, H0, H1, HB⟩ := hrel
    by_cases hlt : k ≤ n
    · have hm := mkE_ok D n k
      have hms := mkE_succ HL.out hlt
      have h1 := atE_le D n k
      have h2 := atE_le D n (k + 1)
      have h3 := atE_mono (D := D) hlt
      have hox : oddB (k + 1) = !oddB k := oddB_succ k
      have HM := Lib.hid hm
      have HMS := Lib.hid hms
      have hcs : (k < n ∧ ∃ x : Nat, x ≤ 255 ∧ D[k]? = some (x : Int) ∧ atE D n (k + 1) = min 256 (atE D n k + x)) ∨ (k = n ∧ atE D n (k + 1) = 256) := by
        by_cases hkn : k < n
        · have hkl : k < D.length := by rw [HL.out]; exact hkn
          have hx := H255.out _ (List.getElem_mem hkl)
          refine .inl ⟨hkn, (D[k]).toNat, by omega, ?_, atE_next HL.out hkn⟩
          rw [List.getElem?_eq_getElem hkl]
          congr 1
          omega
        · exact .inr ⟨by omega, by rw [atE, if_neg (by omega)]⟩
      clear hm hms
      generalize atE D n k = s at *
      generalize mkE D n k = M0 at *
      obtain ⟨e, he⟩ : ∃ e, e = atE D n (k + 1) := ⟨_, rfl⟩
      rw [← he] at HMS h2 h3 hcs
      obtain ⟨M1, hM1⟩ : ∃ M, M = mkE D n (k + 1) := ⟨_, rfl⟩
      rw [← hM1] at HMS
      generalize oddB k = od at *
      have hk0 : (0 : Int) ≤ k := by omega
      have hki : (k : Int) < (n : Int) + 1 := by omega
      have HE : Hid (Hid (e = atE D n (k + 1)) ∧ Hid (M1 = mkE D n (k + 1)) ∧ Hid (oddB (k + 1) = !od)) := Lib.hid ⟨Lib.hid he, Lib.hid hM1, Lib.hid hox⟩
      clear he hM1 hox
      rcases hcs with ⟨hkn, x, hx, hDx, hex⟩ | ⟨hkn, hex⟩
      · obtain ⟨b, o, hA, hbB, hc⟩ := (HR.out.below HB.out (Nat.le_refl _)).at_ (by omega)
        subst hA
        have cb := hc k (.int .u8 x) (by rw [List.getElem?_map, hDx]; rfl)
        have hkn' : (k : Int) < (n : Int) := by omega
        clear hc hbB hDx
        by_cases hsx : s + x < 256
        · have hE : (s : Int) + x = e := by omega
          have hsxi : (s : Int) + x < 256 := by omega
          clear hex
          go_wp2
          go_loopw [5] (fun a wi => ∃ j : Nat, s + j ≤ e ∧ a = .int .i64 ((s + j : Nat) : Int) ∧ Hid (Blk wi w.heap.size 76 (ivs .u16 zr16)) ∧ Hid (Blk wi (w.heap.size + 1) 76 (ivs .u16 (if od then fillK M0 s j else M0))) ∧ Hid (Below w.heap.size w wi)) (fun a _ => e - (intOf a).toNat)
          case atStart => exact ⟨0, by omega, rfl, H0, by cases od <;> exact H1, HB⟩
          case round =>
            clear H0 H1 HB
            obtain ⟨j, hsj, rfl, H0, H1, HB⟩ := hrel
            by_cases hje : s + j < e
            · have hjei : (s : Int) + j < (s : Int) + x := by omega
              cases od
              · rw [if_neg (by decide)] at H1
                go_wp2
                exact ⟨⟨j + 1, by omega, by go_num, H0, H1, HB⟩, by simp [intOf]; omega⟩
              · rw [if_pos rfl] at H1
                obtain ⟨m1, m2⟩ := fillK_ok HM.out.1 HM.out.2 s j
                have HM1 := Lib.hid m1
                have hfl : fillK M0 s (j + 1) = setK (fillK M0 s j) (s + j) := rfl
                have HFL := Lib.hid hfl
                clear m1 m2 hfl
                generalize fillK M0 s j = M at *
                obtain ⟨a, ha⟩ : ∃ a, s + j = a := ⟨_, rfl⟩
                rw [ha] at HFL hsj hje ⊢
                have H3 := Lib.hid (setK_blk H1.out a)
                have h6a : (a : Int) < (s : Int) + x := by omega
                have ha0 : (0 : Int) ≤ a := by omega
                obtain ⟨u, hu⟩ : ∃ u : Nat, (a : Int) % 16 = u := ⟨a % 16, by omega⟩
                obtain ⟨v, hv⟩ : ∃ v : Nat, (a : Int) / 16 = v := ⟨a / 16, by omega⟩
                rw [show a % 16 = u by omega, show a / 16 = v by omega] at H3
                have hv16 : v < 16 := by omega
                have hu16 : u < 16 := by omega
                have c8 := H1.out.getAtG (i := v) (by rw [HM1.out]; exact hv16)
                have f8 := H1.out.frozen v
                generalize M.getD v 0 = m8 at *
                have hvI : (v : Int) < 16 := by omega
                have hv0 : (0 : Int) ≤ v := by omega
                have huI : (u : Int) < 16 := by omega
                have hu0 : (0 : Int) ≤ u := by omega
                have hp16 := pow_16 hu16
                have hwp : IntKind.u16.wrap (2 ^ u) = 2 ^ u := by rw [IntKind.wrap_u16]; omega
                have HA := Lib.hid ha
                clear hp16 ha
                go_wp2
                go_region
                go_wp2
                have H3' : Hid (Blk (wr.setCell ⟨w.heap.size + 1, v, none⟩ (.int .u16 (bits .or .u16 m8 (2 ^ u)))) (w.heap.size + 1) 76 (ivs .u16 (setK M a))) := H3
                exact ⟨⟨j + 1, by have := HA.out; omega, by rw [show s + (j + 1) = a + 1 by have := HA.out; omega]; go_num, Lib.hid ((H0.out.far (p := ⟨w.heap.size + 1, v, none⟩) (show w.heap.size ≠ w.heap.size + 1 by omega) _).drew), by rw [HFL.out]; exact Lib.hid H3'.out.drew, Lib.hid (below_drew (HB.out.setCell (p := ⟨w.heap.size + 1, v, none⟩) (show w.heap.size ≤ w.heap.size + 1 by omega) _))⟩, by simp [intOf]; omega⟩
            · have he2 : e = s + j := by omega
              have he3 : ¬ (s : Int) + j < (s : Int) + x := by omega
              go_wp2
              obtain ⟨e1, e2, e3⟩ := HE.out
              exact ⟨⟨k + 1, by omega, by rw [← e1.out, he2], by rw [e3.out], by go_num, H0, Lib.hid (by
                rw [← e2.out, HMS.out, he2, Nat.add_sub_cancel_left]
                exact H1.out), HB⟩, by simp [intOf]; omega⟩
        · have hE : (256 : Int) = e := by omega
          have hsxi : ¬ (s : Int) + x < 256 := by omega
          have hsxj : (256 : Int) ≤ (s : Int) + x := by omega
          clear hex
          go_wp2
          go_loopw [5] (fun a wi => ∃ j : Nat, s + j ≤ e ∧ a = .int .i64 ((s + j : Nat) : Int) ∧ Hid (Blk wi w.heap.size 76 (ivs .u16 zr16)) ∧ Hid (Blk wi (w.heap.size + 1) 76 (ivs .u16 (if od then fillK M0 s j else M0))) ∧ Hid (Below w.heap.size w wi)) (fun a _ => e - (intOf a).toNat)
          case atStart => exact ⟨0, by omega, rfl, H0, by cases od <;> exact H1, HB⟩
          case round =>
            clear H0 H1 HB
            obtain ⟨j, hsj, rfl, H0, H1, HB⟩ := hrel
            by_cases hje : s + j < e
            · have hjei : (s : Int) + j < 256 := by omega
              cases od
              · rw [if_neg (by decide)] at H1
                go_wp2
                exact ⟨⟨j + 1, by omega, by go_num, H0, H1, HB⟩, by simp [intOf]; omega⟩
              · rw [if_pos rfl] at H1
                obtain ⟨m1, m2⟩ := fillK_ok HM.out.1 HM.out.2 s j
                have HM1 := Lib.hid m1
                have hfl : fillK M0 s (j + 1) = setK (fillK M0 s j) (s + j) := rfl
                have HFL := Lib.hid hfl
                clear m1 m2 hfl
                generalize fillK M0 s j = M at *
                obtain ⟨a, ha⟩ : ∃ a, s + j = a := ⟨_, rfl⟩
                rw [ha] at HFL hsj hje ⊢
                have H3 := Lib.hid (setK_blk H1.out a)
                have h6a : (a : Int) < 256 := by omega
                have ha0 : (0 : Int) ≤ a := by omega
                obtain ⟨u, hu⟩ : ∃ u : Nat, (a : Int) % 16 = u := ⟨a % 16, by omega⟩
                obtain ⟨v, hv⟩ : ∃ v : Nat, (a : Int) / 16 = v := ⟨a / 16, by omega⟩
                rw [show a % 16 = u by omega, show a / 16 = v by omega] at H3
                have hv16 : v < 16 := by omega
                have hu16 : u < 16 := by omega
                have c8 := H1.out.getAtG (i := v) (by rw [HM1.out]; exact hv16)
                have f8 := H1.out.frozen v
                generalize M.getD v 0 = m8 at *
                have hvI : (v : Int) < 16 := by omega
                have hv0 : (0 : Int) ≤ v := by omega
                have huI : (u : Int) < 16 := by omega
                have hu0 : (0 : Int) ≤ u := by omega
                have hp16 := pow_16 hu16
                have hwp : IntKind.u16.wrap (2 ^ u) = 2 ^ u := by rw [IntKind.wrap_u16]; omega
                have HA := Lib.hid ha
                clear hp16 ha
                go_wp2
                go_region
                go_wp2
                have H3' : Hid (Blk (wr.setCell ⟨w.heap.size + 1, v, none⟩ (.int .u16 (bits .or .u16 m8 (2 ^ u)))) (w.heap.size + 1) 76 (ivs .u16 (setK M a))) := H3
                exact ⟨⟨j + 1, by have := HA.out; omega, by rw [show s + (j + 1) = a + 1 by have := HA.out; omega]; go_num, Lib.hid ((H0.out.far (p := ⟨w.heap.size + 1, v, none⟩) (show w.heap.size ≠ w.heap.size + 1 by omega) _).drew), by rw [HFL.out]; exact Lib.hid H3'.out.drew, Lib.hid (below_drew (HB.out.setCell (p := ⟨w.heap.size + 1, v, none⟩) (show w.heap.size ≤ w.heap.size + 1 by omega) _))⟩, by simp [intOf]; omega⟩
            · have he2 : e = s + j := by omega
              have he3 : ¬ (s : Int) + j < 256 := by omega
              go_wp2
              obtain ⟨e1, e2, e3⟩ := HE.out
              exact ⟨⟨k + 1, by omega, by rw [← e1.out, he2], by rw [e3.out], by go_num, H0, Lib.hid (by
                rw [← e2.out, HMS.out, he2, Nat.add_sub_cancel_left]
                exact H1.out), HB⟩, by simp [intOf]; omega⟩
      · have hkn' : ¬ (k : Int) < (n : Int) := by omega
        have hE : (256 : Int) = e := by omega
        clear hex
        go_wp2
        go_loopw [5] (fun a wi => ∃ j : Nat, s + j ≤ e ∧ a = .int .i64 ((s + j : Nat) : Int) ∧ Hid (Blk wi w.heap.size 76 (ivs .u16 zr16)) ∧ Hid (Blk wi (w.heap.size + 1) 76 (ivs .u16 (if od then fillK M0 s j else M0))) ∧ Hid (Below w.heap.size w wi)) (fun a _ => e - (intOf a).toNat)
        case atStart => exact ⟨0, by omega, rfl, H0, by cases od <;> exact H1, HB⟩
        case round =>
          clear H0 H1 HB
          obtain ⟨j, hsj, rfl, H0, H1, HB⟩ := hrel
          by_cases hje : s + j < e
          · have hjei : (s : Int) + j < 256 := by omega
            cases od
            · rw [if_neg (by decide)] at H1
              go_wp2
              exact ⟨⟨j + 1, by omega, by go_num, H0, H1, HB⟩, by simp [intOf]; omega⟩
            · rw [if_pos rfl] at H1
              obtain ⟨m1, m2⟩ := fillK_ok HM.out.1 HM.out.2 s j
              have HM1 := Lib.hid m1
              have hfl : fillK M0 s (j + 1) = setK (fillK M0 s j) (s + j) := rfl
              have HFL := Lib.hid hfl
              clear m1 m2 hfl
              generalize fillK M0 s j = M at *
              obtain ⟨a, ha⟩ : ∃ a, s + j = a := ⟨_, rfl⟩
              rw [ha] at HFL hsj hje ⊢
              have H3 := Lib.hid (setK_blk H1.out a)
              have h6a : (a : Int) < 256 := by omega
              have ha0 : (0 : Int) ≤ a := by omega
              obtain ⟨u, hu⟩ : ∃ u : Nat, (a : Int) % 16 = u := ⟨a % 16, by omega⟩
              obtain ⟨v, hv⟩ : ∃ v : Nat, (a : Int) / 16 = v := ⟨a / 16, by omega⟩
              rw [show a % 16 = u by omega, show a / 16 = v by omega] at H3
              have hv16 : v < 16 := by omega
              have hu16 : u < 16 := by omega
              have c8 := H1.out.getAtG (i := v) (by rw [HM1.out]; exact hv16)
              have f8 := H1.out.frozen v
              generalize M.getD v 0 = m8 at *
              have hvI : (v : Int) < 16 := by omega
              have hv0 : (0 : Int) ≤ v := by omega
              have huI : (u : Int) < 16 := by omega
              have hu0 : (0 : Int) ≤ u := by omega
              have hp16 := pow_16 hu16
              have hwp : IntKind.u16.wrap (2 ^ u) = 2 ^ u := by rw [IntKind.wrap_u16]; omega
              have HA := Lib.hid ha
              clear hp16 ha
              go_wp2
              go_region
              go_wp2
              have H3' : Hid (Blk (wr.setCell ⟨w.heap.size + 1, v, none⟩ (.int .u16 (bits .or .u16 m8 (2 ^ u)))) (w.heap.size + 1) 76 (ivs .u16 (setK M a))) := H3
              exact ⟨⟨j + 1, by have := HA.out; omega, by rw [show s + (j + 1) = a + 1 by have := HA.out; omega]; go_num, Lib.hid ((H0.out.far (p := ⟨w.heap.size + 1, v, none⟩) (show w.heap.size ≠ w.heap.size + 1 by omega) _).drew), by rw [HFL.out]; exact Lib.hid H3'.out.drew, Lib.hid (below_drew (HB.out.setCell (p := ⟨w.heap.size + 1, v, none⟩) (show w.heap.size ≤ w.heap.size + 1 by omega) _))⟩, by simp [intOf]; omega⟩
          · have he2 : e = s + j := by omega
            have he3 : ¬ (s : Int) + j < 256 := by omega
            go_wp2
            obtain ⟨e1, e2, e3⟩ := HE.out
            exact ⟨⟨k + 1, by omega, by rw [← e1.out, he2], by rw [e3.out], by go_num, H0, Lib.hid (by
              rw [← e2.out, HMS.out, he2, Nat.add_sub_cancel_left]
              exact H1.out), HB⟩, by simp [intOf]; omega⟩
    · obtain rfl : k = n + 1 := by omega
      have hM : mkE D n (n + 1) = decA D := by rw [mkE, if_neg (by omega)]
      rw [hM] at H1
      clear hM
      have HPK := Lib.hid (fun W => iPackMask_any (decA D) (decA_ok D).1 (decA_ok D).2 W)
      have HDM := Lib.hid (decA_ok D)
      have HP255 := Lib.hid (pmL_in (decA D))
      have hPl := pmL_length (decA D)
      have HCS : Hid ((pmL (decA D) = D ∧ unM D = decA D ∧ unC D = 0) ∨ (pmL (decA D) ≠ D ∧ unM D = zr16 ∧ unC D = 5)) := Lib.hid (by
        by_cases e : pmL (decA D) = D
        · exact .inl ⟨e, by rw [unM, if_pos e], by rw [unC, if_pos e]⟩
        · exact .inr ⟨e, by rw [unM, if_neg e], by rw [unC, if_neg e]⟩)
      generalize unM D = RM at *
      generalize unC D = RC at *
      generalize hP : pmL (decA D) = P at *
      have hcs : (P == D) = true ∧ Hid (RM = decA D ∧ RC = 0) ∨ (P == D) = false ∧ Hid (RM = zr16 ∧ RC = 5) := by
        rcases HCS.out with ⟨h, e⟩ | ⟨h, e⟩
        · exact .inl ⟨by rw [h]; exact beq_self_eq_true _, Lib.hid e⟩
        · exact .inr ⟨beq_eq_false_iff_ne.2 h, Lib.hid e⟩
      clear HCS hP
      have hni : ¬ ((n : Int) + 1) < (n : Int) + 1 := by omega
      have HEQ := Lib.hid (fun (A1 : Option Addr) (c1 : Nat) (W : World) (h1 : Rd W W.heap.size 1 A1 P.length (P.map (.int .u8))) (h2 : Rd W W.heap.size 1 A n (D.map (.int .u8))) => equalB_any A1 A P.length n c1 c P D rfl HL.out (by omega) W h1 h2)
      rcases hcs with ⟨hpd, HE⟩ | ⟨hpd, HE⟩
      · rw [hpd] at HEQ
        go_wp2_with (first
          | refine wpList_load_row rfl _ _ rfl (w.heap.size + 1) rfl 76 (ivs .u16 (decA D)) (0, 0) _ H1.out Try.underlying76 rfl (by rw [ivs_size, HDM.out.1]; exact size76) ?_
          | (go_at_call 94; refine (HPK.out _).mono ?_; rintro e w2 ⟨g2, c2, rfl, hO2, hb2⟩; have HO2 := Lib.hid hO2.rd; have HB2 := Lib.hid (HB.out.trans (hb2.mono HB.out.size)); have R0 := Lib.hid (H0.out.below hb2 (by have := H1.out.lt; omega)); have R1 := Lib.hid (H1.out.below hb2 H1.out.lt); clear hO2 hb2)
          | (go_at_call 106; refine (HEQ.out _ _ _ HO2.out ((HR.out.below HB2.out (Nat.le_refl _)).more HB2.out.size)).mono ?_; rintro e w3 ⟨rfl, hb3⟩; have HB3 := Lib.hid (HB2.out.trans (hb3.mono HB2.out.size)); have S0 := Lib.hid (R0.out.below hb3 (by have := R1.out.lt; omega)); have S1 := Lib.hid (R1.out.below hb3 R1.out.lt); clear hb3)
          | refine wpList_load_row rfl _ _ rfl (w.heap.size + 1) rfl 76 (ivs .u16 (decA D)) (0, 0) _ S1.out Try.underlying76 rfl (by rw [ivs_size, HDM.out.1]; exact size76) ?_
          | refine wpList_store_row rfl _ _ _ rfl w.heap.size (ivs .u16 (decA D)) rfl rfl 76 _ S0.out (by rw [ivs_size, HDM.out.1]; exact size76) (by rw [ivs_size, ivs_size, HDM.out.1]; rfl) ivs_one ?_)
        exact bodyPost_ret (results_row_tmpY rfl _ _ w.heap.size 76 (ivs .u16 (decA D)) (0, 0) _ rfl (S0.out.row _) Try.underlying76 rfl (by rw [ivs_size, HDM.out.1]; exact size76)) rfl ⟨by rw [HE.out.1, HE.out.2]; rfl, below_setRow HB3.out (by omega) _⟩
      · rw [hpd] at HEQ
        go_wp2_with (first
          | refine wpList_load_row rfl _ _ rfl (w.heap.size + 1) rfl 76 (ivs .u16 (decA D)) (0, 0) _ H1.out Try.underlying76 rfl (by rw [ivs_size, HDM.out.1]; exact size76) ?_
          | (go_at_call 94; refine (HPK.out _).mono ?_; rintro e w2 ⟨g2, c2, rfl, hO2, hb2⟩; have HO2 := Lib.hid hO2.rd; have HB2 := Lib.hid (HB.out.trans (hb2.mono HB.out.size)); have R0 := Lib.hid (H0.out.below hb2 (by have := H1.out.lt; omega)); have R1 := Lib.hid (H1.out.below hb2 H1.out.lt); clear hO2 hb2)
          | (go_at_call 106; refine (HEQ.out _ _ _ HO2.out ((HR.out.below HB2.out (Nat.le_refl _)).more HB2.out.size)).mono ?_; rintro e w3 ⟨rfl, hb3⟩; have HB3 := Lib.hid (HB2.out.trans (hb3.mono HB2.out.size)); have S0 := Lib.hid (R0.out.below hb3 (by have := R1.out.lt; omega)); have S1 := Lib.hid (R1.out.below hb3 R1.out.lt); clear hb3)
          | refine wpList_store_row rfl _ _ _ rfl w.heap.size (ivs .u16 zr16) rfl rfl 76 _ S0.out (by exact size76) rfl ivs_one ?_)
        exact bodyPost_ret (results_row_tmpY rfl _ _ w.heap.size 76 (ivs .u16 zr16) (0, 0) _ rfl (S0.out.row _) Try.underlying76 rfl (by exact size76)) rfl ⟨by rw [HE.out.1, HE.out.2]; rfl, below_setRow HB3.out (by omega) _⟩
end Go.Proofs.Ytmagaapdijapiaa
namespace Go.Proofs.Ytmagaapdijapiaa
open Go.ChangeShapes Go.WideShapes Go.ChangeAt Go.RowKit
theorem addr_add0Y (b j : Nat) : (⟨b, 0, none⟩ : Addr).add j = ⟨b, j, none⟩ := by unfold Addr.add; split <;> simp_all
theorem Own.newsY {w : World} {lo hi g : Nat} {e : TypeId} {size n c : Nat} {xs : List Value} (h : Own w lo hi e size (some ⟨g, 0, none⟩) n c xs) : ∀ j u, xs[j]? = some u → w.cell? ((⟨g, 0, none⟩ : Addr).add j) = some u := fun j u hu => by
  rw [addr_add0Y]
  exact (h.cellV hu).1
theorem own_someY {w : World} {base : Nat} {e : TypeId} {size n : Nat} {v : Value} {xs : List Value} (h : w.ownsRow base e size v n xs) (hn : 0 < n) : ∃ g c, v = .slice (some ⟨g, 0, none⟩) n c := by
  rcases h.2 with ⟨_, rfl⟩ | ⟨g, cap, cur, rfl, _⟩
  · omega
  · exact ⟨g, cap, rfl⟩
theorem rd_cornerY {w : World} {B b o n : Nat} {l : List Bl} (h : Rd w B 18 (some ⟨b, o, none⟩) n (bcs l)) (hl : Bls l) (hn : l.length = n) {k : Nat} (hk : k < l.length) :
    w.cell? ⟨b, o + k * 18, none⟩ = some (.int .i32 ((l[k]).1.getD 0 0)) ∧ w.cell? ⟨b, o + k * 18 + 1, none⟩ = some (.int .i32 ((l[k]).1.getD 1 0)) ∧ w.rangeAt b (o + k * 18 + 2) ((l[k]).2.map (.int .u16)) := by
  have hr := h.block hl (by omega) hk
  have h1 := (hl.at_ hk).1
  refine ⟨?_, ?_, fun j v hv => ?_⟩
  · exact hr 0 _ (by rw [bvs, List.getElem?_append_left (by rw [List.length_map, h1]; omega), List.getElem?_map, List.getD_eq_getElem?_getD, List.getElem?_eq_getElem (by omega)]; rfl)
  · exact hr 1 _ (by rw [bvs, List.getElem?_append_left (by rw [List.length_map, h1]; omega), List.getElem?_map, List.getD_eq_getElem?_getD, List.getElem?_eq_getElem (by omega)]; rfl)
  · rw [Nat.add_assoc (o + k * 18)]
    exact hr (2 + j) v (by rw [bvs, List.getElem?_append_right (by rw [List.length_map, h1]; omega), List.length_map, h1, Nat.add_sub_cancel_left]; exact hv)
theorem append32D (n : Int) (v : Value) (D : List Int) (m : Nat) (B : Nat) (w : World) (hm : D.length = m) (hB : B ≤ w.heap.size) (hown : w.ownsRow B 5 1 v m (D.map (.int .u8))) (hlen : m ≤ 1000000000) :
    Calls Try.prog 93 #[.agg #[], v, .int .u32 n] w fun e w' => ∃ g c, e = .returned (.slice (some ⟨g, 0, none⟩) (m + 4) c) ∧ w'.ownsRow B 5 1 (.slice (some ⟨g, 0, none⟩) (m + 4) c) (m + 4) ((D ++ four n).map (.int .u8)) ∧ w.grownBy w' v.ownBlock := by
  subst hm
  refine (append32_any n v D B w hB hown hlen).mono ?_
  rintro e w' ⟨v', he, ho, hg⟩
  obtain ⟨g, c, rfl⟩ := own_someY ho (by omega)
  exact ⟨g, c, he, by rw [List.map_append]; exact ho, hg⟩
theorem blk_ne {w : World} {base : Nat} {e t : TypeId} {size n c q g : Nat} {xs : List Value} {cs : Array Value} (h : w.ownsRow base e size (.slice (some ⟨q, 0, none⟩) n c) n xs) (hb : Blk w g t cs) (he : e ≠ t) : g ≠ q := fun e2 => by
  subst e2
  rcases h.2 with ⟨h1, _⟩ | ⟨g2, _, cur, h3, _, h4, _⟩
  · cases h1
  · cases h3
    unfold Blk at hb
    rw [hb] at h4
    injection h4 with h4
    injection h4 with _ h4
    exact he h4.symm
theorem four_len (n : Int) : (four n).length = 4 := rfl
def GivesD (D : List Int) (w : World) (e : Ending) (w' : World) : Prop :=
  ∃ g c, e = .returned (.slice (some ⟨g, 0, none⟩) D.length c) ∧ Own w' w.heap.size w'.heap.size 5 1 (some ⟨g, 0, none⟩) D.length c (D.map (.int .u8)) ∧ Below w.heap.size w w'
set_option maxRecDepth 20000 in
set_option maxHeartbeats 6400000 in
theorem pictureData_any (A : Option Addr) (n c : Nat) (l : List Bl) (hl : l.length = n) (hrow : Bls l) (h16 : ∀ b ∈ l, is16 b.2) (hn : n ≤ 1048576) (w : World) (hR : Rd w w.heap.size 18 A n (bcs l)) :
    Calls Try.prog 48 #[.slice A n c] w (GivesD (picD l) w) := by
  obtain ⟨i0, hi, iz0, iz1, iz2⟩ := info_parts Byte_info
  have HR := Lib.hid hR
  have HROW := Lib.hid hrow
  have H16 := Lib.hid h16
  have HL := Lib.hid hl
  have h0 : (w.alloc (.cells #[] 5)).ownsRow w.heap.size 5 1 (.slice (some ⟨w.heap.size, 0, none⟩) 0 0) 0 ((picD (l.take 0)).map (.int .u8)) := World.ownsRow_lit (e := 5) (base := w.heap.size) (size := 1) w #[] 0 (Nat.le_refl _) (by unfold maxLen; omega) rfl
  have H0 := Lib.hid h0
  clear hR hrow h16 hl h0
  go_enter Try.func48, Try.ntmps48
  go_wp2
  go_loopw [3, 10] (fun v i wr => ∃ (k : Nat) (D : List Int) (g cc : Nat), k ≤ n ∧ i = .int .i64 k ∧ v = .slice (some ⟨g, 0, none⟩) D.length cc ∧ Hid (D = picD (l.take k)) ∧ Hid (wr.ownsRow w.heap.size 5 1 (.slice (some ⟨g, 0, none⟩) D.length cc) D.length (D.map (.int .u8))) ∧ Hid (Below w.heap.size w wr)) (fun _ i _ => n - (intOf i).toNat)
  case atStart => exact ⟨0, [], _, _, Nat.zero_le _, rfl, rfl, Lib.hid rfl, H0, Lib.hid ((Below.refl _ _).alloc (Nat.le_refl _) _)⟩
  case round =>
    clear H0
    obtain ⟨k, D, g, cc, hk, rfl, rfl, HD, HO, HB⟩ := hrel
    by_cases hlt : k < n
    · have hkl : k < l.length := by have := HL.out; omega
      have hkI : (k : Int) < n := by omega
      have hk0 : (0 : Int) ≤ k := by omega
      have hRw := HR.out.below HB.out (Nat.le_refl _)
      obtain ⟨b, o, rfl, hbB, hc⟩ := hRw.at_ (by omega)
      have hrg := hRw.block HROW.out (by have := HL.out; omega) hkl
      have hF1 := HROW.out.at_ hkl
      have hF16 := H16.out _ (List.getElem_mem hkl)
      have hsn := picD_snoc hkl
      have hDl : D.length ≤ 277872640 := by
        have h1 := picD_le (l.take k)
        rw [← HD.out, List.length_take] at h1
        omega
      rw [← HD.out] at hsn
      obtain ⟨F, hF⟩ : ∃ F, F = l[k] := ⟨_, rfl⟩
      rw [← hF] at hrg hF1 hF16 hsn
      obtain ⟨C, M⟩ := F
      obtain ⟨X, Y, rfl⟩ : ∃ X Y, C = [X, Y] := ⟨_, _, two_of hF1.1⟩
      have hbd : blkD ([X, Y], M) = four (X % 4294967296) ++ four (Y % 4294967296) ++ [((pmL M).length : Int) % 256] ++ pmL M := rfl
      rw [hbd] at hsn
      have HSN := Lib.hid hsn
      have HRG := Lib.hid hrg
      have HF1 := Lib.hid hF1
      have hpl := pmL_length M
      have HPM := Lib.hid (fun W => iPackMask_any M hF1.2 hF16 W)
      have HGL := Lib.hid (HO.out.lt g rfl)
      have hzw := HB.out.size
      clear hRw hc hbB hrg hF1 hF16 hF hsn hbd HD
      generalize pmL M = PL at *
      go_wp2_with (first
        | refine wpList_load_mid rfl _ _ rfl b (o + k * 18) (by rfl) (bvs ([X, Y], M)) _ HRG.out Try.underlying78 rfl (by rw [bvs_length HF1.out]; exact size78) ?_
        | (refine wpList_store_row rfl _ _ _ rfl wr.heap.size (bav ([X, Y], M)) rfl rfl 78 (bav (zr2, zr16)) (Blk.newAt rfl rfl) (by rw [bav_size HF1.out]; exact size78) (by rw [bav_size HF1.out, bav_size ⟨rfl, rfl⟩]) (bav_one ([X, Y], M)) ?_; generalize hw5 : World.setRow _ _ _ = w5; have G5 : Hid (Blk w5 wr.heap.size 78 (bav ([X, Y], M))) := Lib.hid (by rw [← hw5]; exact (Blk.newAt rfl rfl).row _); have B5r : Hid (Below wr.heap.size wr w5) := Lib.hid (by rw [← hw5]; exact below_setRow ((Below.refl _ _).alloc (Nat.le_refl _) _) (g := wr.heap.size) (Nat.le_refl _) _); have O5 := Lib.hid (own_below HO.out B5r.out (Nat.le_refl _)); have B5 := Lib.hid (HB.out.trans (B5r.out.mono hzw)); have c0 : w5.cell? ⟨wr.heap.size, 0, none⟩ = some (.int .i32 X) := (G5.out.rangeV (bav_at1 HF1.out)) 0 _ rfl; clear hw5)
        | (go_at_call_of 93 Y; refine (append32D (Y % 4294967296) _ (D ++ four (X % 4294967296)) (D.length + 4) w.heap.size _ (by rw [List.length_append, four_len]) B6.out.size O6.out (by omega)).mono ?_; rintro e w7 ⟨g7, c7, rfl, o7, h7⟩; have G7 := Lib.hid (G6.out.grown h7 (fun e => blk_ne O6.out G6.out (by decide) (Option.some.inj e))); have B7 := Lib.hid (B6.out.grown h7 B6.out.size (fun j e => (O6.out.lt j e).1)); have O7 := Lib.hid o7; have RM := Lib.hid (G7.out.rangeV (bav_at2 (b := ([X, Y], M)) HF1.out)); clear o7 h7)
        | (go_at_call_of 93 X; refine (append32D (X % 4294967296) _ D D.length w.heap.size _ rfl B5.out.size O5.out (by omega)).mono ?_; rintro e w6 ⟨g6, c6, rfl, o6, h6⟩; have G6 := Lib.hid (G5.out.grown h6 (fun e => blk_ne O5.out G5.out (by decide) (Option.some.inj e))); have B6 := Lib.hid (B5.out.grown h6 B5.out.size (fun j e => (O5.out.lt j e).1)); have O6 := Lib.hid o6; have c1 : w6.cell? ⟨wr.heap.size, 1, none⟩ = some (.int .i32 Y) := (G6.out.rangeV (bav_at1 HF1.out)) 1 _ rfl; clear o6 h6)
        | refine wpList_load_ivs rfl _ _ rfl wr.heap.size 2 rfl .u16 M _ RM.out Try.underlying76 rfl (by rw [HF1.out.2]; exact size76) ?_
        | (go_at_call 94; refine (HPM.out _).mono ?_; rintro e w8 ⟨g8, c8, rfl, hO8, h8⟩; have O8 := Lib.hid (own_below O7.out h8 (Nat.le_refl _)); have P8 := Lib.hid hO8; have B8 := Lib.hid (B7.out.trans (h8.mono B7.out.size)); have z8 := h8.size; have z7 := B7.out.size; have q7 := (O7.out.lt g7 rfl).2; clear hO8 h8; have HN8 := Lib.hid (Blk.news (k := .u8) (l := [(PL.length : Int) % 256]) (t := 5) (w := w8.alloc (.cells #[.int .u8 ((PL.length : Int) % 256)] 5)) (g := w8.heap.size) (Blk.newAt rfl rfl)))
        | (at_builtin; refine wpList_append_own _ rfl _ _ 40 rfl w.heap.size 5 i0 _ 1 1 Try.underlying40 hi iz0 iz1 iz2 rfl (by decide) (.slice (some ⟨g7, 0, none⟩) (D.length + 4 + 4) c7) (D.length + 4 + 4) _ rfl (O8.out.alloc _) ⟨w8.heap.size, 0, none⟩ 1 1 ([(PL.length : Int) % 256].map (.int .u8)) rfl rfl HN8.out ints_one (by unfold maxLen; omega) (by omega) (by rw [size_alloc]; omega) ?_; intro v9 w9 hown9 hgrow9 _; rw [← List.map_append] at hown9; obtain ⟨g9, c9, rfl⟩ := own_someY hown9 (by omega); have O9 : Hid (w9.ownsRow w.heap.size 5 1 (.slice (some ⟨g9, 0, none⟩) ((D.length + 4 + 4) + 1) c9) ((D.length + 4 + 4) + 1) ((D ++ four (X % 4294967296) ++ four (Y % 4294967296) ++ [(PL.length : Int) % 256]).map (.int .u8))) := Lib.hid hown9; have P9 := Lib.hid ((P8.out.below ((Below.refl w8.heap.size w8).alloc (Nat.le_refl _) (.cells #[.int .u8 ((PL.length : Int) % 256)] 5)) (Nat.le_refl _)).grown hgrow9 (fun j e => by have e2 : g7 = j := Option.some.inj e; exact .inl (by omega))); have B9 := Lib.hid ((B8.out.alloc B8.out.size (.cells #[.int .u8 ((PL.length : Int) % 256)] 5)).grown hgrow9 (by rw [size_alloc]; omega) (fun j e => (O8.out.lt j e).1)); clear hown9 hgrow9)
        | (at_builtin; refine wpList_append_own _ rfl _ _ 40 rfl w.heap.size 5 i0 _ 1 1 Try.underlying40 hi iz0 iz1 iz2 rfl (by decide) (.slice (some ⟨g9, 0, none⟩) ((D.length + 4 + 4) + 1) c9) ((D.length + 4 + 4) + 1) _ rfl O9.out ⟨g8, 0, none⟩ PL.length c8 (PL.map (.int .u8)) rfl (by rw [List.length_map, Nat.mul_one]) P9.out.newsY ints_one (by unfold maxLen; omega) (by omega) (by have := B9.out.size; omega) ?_; intro v10 w10 hown10 hgrow10 _; rw [← List.map_append] at hown10; have O10 := Lib.hid hown10; have B10 := Lib.hid (B9.out.grown hgrow10 B9.out.size (fun j e => (O9.out.lt j e).1)); clear hown10 hgrow10))
      obtain ⟨g10, c10, rfl⟩ := own_someY O10.out (by omega)
      have hfin : (D ++ four (X % 4294967296) ++ four (Y % 4294967296) ++ [(PL.length : Int) % 256]) ++ PL = D ++ (four (X % 4294967296) ++ four (Y % 4294967296) ++ [(PL.length : Int) % 256] ++ PL) := by simp only [List.append_assoc]
      have hlen : (D ++ (four (X % 4294967296) ++ four (Y % 4294967296) ++ [(PL.length : Int) % 256] ++ PL)).length = D.length + 4 + 4 + 1 + PL.length := by rw [← hfin, List.length_append, List.length_append, List.length_append, List.length_append]; rfl
      exact ⟨⟨k + 1, _, g10, c10, by omega, by go_num, by rw [hlen], Lib.hid HSN.out.symm, Lib.hid (by rw [hlen, ← hfin]; exact O10.out), B10⟩, by simp [intOf]; omega⟩
    · obtain rfl : k = n := by omega
      have HE : Hid (picD l = D) := Lib.hid (by rw [HD.out, List.take_of_length_le (by have := HL.out; omega)])
      obtain ⟨A1, c1', hve, hO⟩ := Own.of_row HO.out
      cases hve
      have HOO := Lib.hid hO
      clear hO
      go_wp2
      go_ret
      exact ⟨g, cc, by rw [HE.out]; rfl, by rw [HE.out]; exact HOO.out, HB.out⟩
end Go.Proofs.Ytmagaapdijapiaa
