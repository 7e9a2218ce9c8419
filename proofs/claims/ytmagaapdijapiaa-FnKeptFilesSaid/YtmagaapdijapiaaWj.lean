/- Words out of codes: plain law; the program's walk. -/
import Derived.Test.YtmagaapdijapiaaRows
import Derived.Test.YtmagaapdijapiaaWf
import Derived.Test.YtmagaapdijapiaaWg
import Derived.Test.YtmagaapdijapiaaLd
import Derived.Test.YtmagaapdijapiaaUb
namespace Go.Proofs.Ytmagaapdijapiaa
open Go.ChangeShapes Go.WideShapes Go.ChangeAt Go.RowKit

/-- bit p of a code -/
def cbit (c : List Int) (p : Nat) : Int := bits .and .u8 (c.getD (1 + p / 8) 0 / 2 ^ (7 - p % 8)) 1
theorem and1 : ∀ v : Fin 256, bits .and .u8 (v.val : Int) 1 = (v.val : Int) % 2 := by decide +kernel
theorem cbit_range {c : List Int} (h : is255 c) (p : Nat) : 0 ≤ cbit c p ∧ cbit c p ≤ 1 := by
  have hd := h.getD (1 + p / 8)
  obtain ⟨v, hv⟩ : ∃ v, v = c.getD (1 + p / 8) 0 / 2 ^ (7 - p % 8) := ⟨_, rfl⟩
  have hv0 : 0 ≤ v := by rw [hv]; exact Int.ediv_nonneg hd.1 (by have : (0 : Int) < 2 ^ (7 - p % 8) := Int.pow_pos (by decide); omega)
  have hv1 : v ≤ 255 := by rw [hv]; exact Int.le_trans (Int.ediv_le_self _ hd.1) hd.2
  have := and1 ⟨v.toNat, by omega⟩
  simp only [show ((v.toNat : Nat) : Int) = v by omega] at this
  rw [cbit, ← hv, this]
  omega
theorem wrap3 {P z : Int} (h0 : 0 ≤ P) (h1 : P ≤ 3) (g0 : 0 ≤ z) (g1 : z ≤ 1) : wrap64 (wrap64 (2 * P) + wrap64 z) = 2 * P + z := by
  unfold wrap64
  omega
/-- the place of letter i behind b of its bits -/
def pl (c : List Int) (i : Nat) : Nat → Int
  | 0 => 0
  | b + 1 => 2 * pl c i b + cbit c (3 * i + b)
theorem pl_range {c : List Int} (h : is255 c) (i : Nat) : (0 ≤ pl c i 1 ∧ pl c i 1 ≤ 1) ∧ (0 ≤ pl c i 2 ∧ pl c i 2 ≤ 3) ∧ (0 ≤ pl c i 3 ∧ pl c i 3 ≤ 7) := by
  have h0 := cbit_range h (3 * i + 0)
  have h1 := cbit_range h (3 * i + 1)
  have h2 := cbit_range h (3 * i + 2)
  simp only [pl] at *
  omega
def dl (c : List Int) (n : Nat) : List Int := (List.range n).map fun i => lts.getD (pl c i 3).toNat 0
theorem dl_length (c : List Int) (n : Nat) : (dl c n).length = n := by simp [dl]
theorem dl_succ (c : List Int) (n : Nat) : dl c (n + 1) = dl c n ++ [lts.getD (pl c n 3).toNat 0] := by rw [dl, dl, List.range_succ, List.map_append]; rfl
def dw (c : List Int) : ByteArray := strOfNums (dl c (c.getD 0 0).toNat)
def woOk (c : List Int) : Bool := decide (c.getD 0 0 ≤ 40) && (wcV (dw c) == c)
def woV (c : List Int) : ByteArray := if woOk c then dw c else ⟨#[]⟩
def woC (c : List Int) : Int := if woOk c then 0 else 5

set_option maxRecDepth 20000 in
set_option maxHeartbeats 6400000 in
theorem iWordOfCode_any (c : List Int) (hc : c.length = 16) (h255 : is255 c) (w : World) :
    Calls Try.prog 68 #[.agg (ivs .u8 c)] w fun e w' => e = .returned (.tuple #[.string (woV c), .int .i64 (woC c)]) ∧ Below w.heap.size w w' := by
  obtain ⟨i0, hi, hz0, hz1, hz2⟩ := info_parts Byt_info
  have h1 : Blk (w.alloc (.cells (ivs .u8 c) 103)) w.heap.size 103 (ivs .u8 c) := Blk.newAt rfl rfl
  have b1 : Below w.heap.size w (w.alloc (.cells (ivs .u8 c) 103)) := (Below.refl _ _).alloc (Nat.le_refl _) _
  have hx := h255.getD 0
  obtain ⟨x, hx0⟩ : ∃ x, x = c.getD 0 0 := ⟨_, rfl⟩
  have c0 : (w.alloc (.cells (ivs .u8 c) 103)).cell? ⟨w.heap.size, 0, none⟩ = some (.int .u8 x) := by rw [hx0]; exact h1.getAt (by omega)
  rw [← hx0] at hx
  obtain ⟨x0, x1⟩ := hx
  have H1 := Lib.hid h1
  have B1 := Lib.hid b1
  have HC := Lib.hid hc
  have H255 := Lib.hid h255
  have HX := Lib.hid hx0
  clear h1 b1 hc h255 hx0
  by_cases h40 : x ≤ 40
  · obtain ⟨m, rfl⟩ : ∃ m : Nat, x = (m : Int) := ⟨x.toNat, by omega⟩
    have hm40 : m ≤ 40 := by omega
    have o0 : ((w.alloc (.cells (ivs .u8 c) 103)).alloc (.cells #[] 5)).ownsRow (w.heap.size + 1) 5 1 (.slice (some ⟨w.heap.size + 1, 0, none⟩) 0 0) 0 ((dl c 0).map (.int .u8)) := by
      have := World.ownsRow_lit (e := 5) (base := w.heap.size + 1) (size := 1) (w.alloc (.cells (ivs .u8 c) 103)) #[] 0 (by simp) (by unfold maxLen; omega) rfl
      rw [size_alloc] at this
      exact this
    have O0 := Lib.hid o0
    have H2 := Lib.hid (H1.out.alloc (.cells #[] 5))
    have B2 := Lib.hid (B1.out.alloc (by rw [size_alloc]; omega) (.cells #[] 5))
    have c0b : ((w.alloc (.cells (ivs .u8 c) 103)).alloc (.cells #[] 5)).cell? ⟨w.heap.size, 0, none⟩ = some (.int .u8 m) := cell_alloc _ c0
    clear o0
    go_enter Try.func68, Try.ntmps68
    go_wp2
    go_loopw [4, 5, 6, 7, 8, 18, 21] (fun v _ _ _ _ i _ wr => ∃ k : Nat, k ≤ m ∧ i = .int .i64 k ∧ (∃ g cc, v = .slice (some ⟨g, 0, none⟩) k cc) ∧ wr.ownsRow (w.heap.size + 1) 5 1 v k ((dl c k).map (.int .u8)) ∧ Blk wr w.heap.size 103 (ivs .u8 c) ∧ Below w.heap.size w wr ∧ w.heap.size + 1 ≤ wr.heap.size) (fun _ _ _ _ _ i _ _ => m - (intOf i).toNat)
    case atStart => exact ⟨0, by omega, rfl, ⟨_, _, rfl⟩, O0.out, H2.out, B2.out, by simp⟩
    case round =>
      clear O0 H2 B2 H1 B1 c0 c0b
      obtain ⟨k, hk, rfl, ⟨g, cc, rfl⟩, ho, h2, hb, hz⟩ := hrel
      by_cases hlt : k < m
      · have hlt' : (k : Int) < m := by omega
        have HO := Lib.hid ho
        have HB := Lib.hid hb
        have HZ := Lib.hid hz
        clear ho hb hz
        go_wp2
        obtain ⟨wo, rfl⟩ : ∃ wo : World, wo = wr := ⟨_, rfl⟩
        go_loopw [6, 7, 8, 21] (fun q _ _ j wr => ∃ b : Nat, b ≤ 3 ∧ j = .int .i64 b ∧ q = .int .i64 (pl c k b) ∧ wr = wo) (fun _ _ _ j _ => 3 - (intOf j).toNat)
        case atStart => exact ⟨0, by omega, rfl, rfl, rfl⟩
        case round =>
          obtain ⟨b, hb3, rfl, rfl, rfl⟩ := hrel
          obtain ⟨⟨p10, p11⟩, ⟨p20, p21⟩, ⟨p30, p31⟩⟩ := pl_range H255.out k
          by_cases hlt3 : b < 3
          · rcases (by omega : b = 0 ∨ b = 1 ∨ b = 2) with rfl | rfl | rfl
            · have hi1 : 1 + (3 * (k : Int)) / 8 < 16 := by omega
              have hi0 : 0 ≤ 1 + (3 * (k : Int)) / 8 := by omega
              have c2 := h2.getAt (i := 1 + (3 * k) / 8) (by have := HC.out; omega)
              have hcb : pl c k 1 = 2 * pl c k 0 + bits .and .u8 (c.getD (1 + (3 * k) / 8) 0 / 2 ^ (7 - (3 * k) % 8)) 1 := rfl
              have hcr : 0 ≤ bits .and .u8 (c.getD (1 + (3 * k) / 8) 0 / 2 ^ (7 - (3 * k) % 8)) 1 ∧ bits .and .u8 (c.getD (1 + (3 * k) / 8) 0 / 2 ^ (7 - (3 * k) % 8)) 1 ≤ 1 := cbit_range H255.out (3 * k + 0)
              have hp0 : 0 ≤ pl c k 0 ∧ pl c k 0 ≤ 3 := ⟨Int.le_refl _, by show (0 : Int) ≤ 3; decide⟩
              have hd := H255.out.getD (1 + (3 * k) / 8)
              obtain ⟨d0, d1⟩ := hd
              obtain ⟨y, hy⟩ : ∃ y, y = c.getD (1 + (3 * k) / 8) 0 := ⟨_, rfl⟩
              rw [← hy] at c2 hcb hcr d0 d1
              have hw := wrap3 hp0.1 hp0.2 hcr.1 hcr.2
              rw [← hcb] at hw
              have HW := Lib.hid hw
              clear hy hcb hcr hw hp0 p10 p11 p20 p21 p30 p31
              go_wp2
              exact ⟨⟨1, by omega, by go_num, by rw [HW.out], by first | rfl | trivial⟩, by simp [intOf]⟩
            · have hi1 : 1 + (3 * (k : Int) + 1) / 8 < 16 := by omega
              have hi0 : 0 ≤ 1 + (3 * (k : Int) + 1) / 8 := by omega
              have c2 := h2.getAt (i := 1 + (3 * k + 1) / 8) (by have := HC.out; omega)
              have hcb : pl c k 2 = 2 * pl c k 1 + bits .and .u8 (c.getD (1 + (3 * k + 1) / 8) 0 / 2 ^ (7 - (3 * k + 1) % 8)) 1 := rfl
              have hcr : 0 ≤ bits .and .u8 (c.getD (1 + (3 * k + 1) / 8) 0 / 2 ^ (7 - (3 * k + 1) % 8)) 1 ∧ bits .and .u8 (c.getD (1 + (3 * k + 1) / 8) 0 / 2 ^ (7 - (3 * k + 1) % 8)) 1 ≤ 1 := cbit_range H255.out (3 * k + 1)
              have hp0 : 0 ≤ pl c k 1 ∧ pl c k 1 ≤ 3 := ⟨p10, by omega⟩
              have hd := H255.out.getD (1 + (3 * k + 1) / 8)
              obtain ⟨d0, d1⟩ := hd
              obtain ⟨y, hy⟩ : ∃ y, y = c.getD (1 + (3 * k + 1) / 8) 0 := ⟨_, rfl⟩
              rw [← hy] at c2 hcb hcr d0 d1
              have hw := wrap3 hp0.1 hp0.2 hcr.1 hcr.2
              rw [← hcb] at hw
              have HW := Lib.hid hw
              clear hy hcb hcr hw hp0 p10 p11 p20 p21 p30 p31
              go_wp2
              exact ⟨⟨2, by omega, by go_num, by rw [HW.out], by first | rfl | trivial⟩, by simp [intOf]⟩
            · have hi1 : 1 + (3 * (k : Int) + 2) / 8 < 16 := by omega
              have hi0 : 0 ≤ 1 + (3 * (k : Int) + 2) / 8 := by omega
              have c2 := h2.getAt (i := 1 + (3 * k + 2) / 8) (by have := HC.out; omega)
              have hcb : pl c k 3 = 2 * pl c k 2 + bits .and .u8 (c.getD (1 + (3 * k + 2) / 8) 0 / 2 ^ (7 - (3 * k + 2) % 8)) 1 := rfl
              have hcr : 0 ≤ bits .and .u8 (c.getD (1 + (3 * k + 2) / 8) 0 / 2 ^ (7 - (3 * k + 2) % 8)) 1 ∧ bits .and .u8 (c.getD (1 + (3 * k + 2) / 8) 0 / 2 ^ (7 - (3 * k + 2) % 8)) 1 ≤ 1 := cbit_range H255.out (3 * k + 2)
              have hp0 : 0 ≤ pl c k 2 ∧ pl c k 2 ≤ 3 := ⟨p20, p21⟩
              have hd := H255.out.getD (1 + (3 * k + 2) / 8)
              obtain ⟨d0, d1⟩ := hd
              obtain ⟨y, hy⟩ : ∃ y, y = c.getD (1 + (3 * k + 2) / 8) 0 := ⟨_, rfl⟩
              rw [← hy] at c2 hcb hcr d0 d1
              have hw := wrap3 hp0.1 hp0.2 hcr.1 hcr.2
              rw [← hcb] at hw
              have HW := Lib.hid hw
              clear hy hcb hcr hw hp0 p10 p11 p20 p21 p30 p31
              go_wp2
              exact ⟨⟨3, by omega, by go_num, by rw [HW.out], by first | rfl | trivial⟩, by simp [intOf]⟩
          · obtain rfl : b = 3 := by omega
            obtain ⟨P, hP⟩ : ∃ P : Nat, pl c k 3 = (P : Int) := ⟨(pl c k 3).toNat, by omega⟩
            have hP8 : P < 8 := by omega
            have hr := fun W => run_lts (w := W) P hP8
            have hds := dl_succ c k
            rw [hP, Int.toNat_natCast] at hds
            rw [hP]
            obtain ⟨z, hzz⟩ : ∃ z, z = lts.getD P 0 := ⟨_, rfl⟩
            rw [← hzz] at hds
            have hr2 := hr
            rw [← hzz] at hr2
            have HDS := Lib.hid hds
            have hcell : Blk (wr.alloc (.cells (ivs .u8 [z]) 5)) wr.heap.size 5 (ivs .u8 [z]) := Blk.newAt rfl rfl
            have Hn := Lib.hid hcell.news
            clear hds hcell hzz hr hP p10 p11 p20 p21 p30 p31
            go_wp2_with (at_builtin; refine wpList_append_own _ rfl (.tmp 43) (.tmp 46) 40 rfl (w.heap.size + 1) 5 i0 _ 1 1 Try.underlying40 hi hz0 hz1 hz2 rfl (by decide) (.slice (some ⟨g, 0, none⟩) k cc) k _ rfl (HO.out.alloc _) ⟨wr.heap.size, 0, none⟩ 1 1 ([z].map (.int .u8)) rfl rfl Hn.out ints_one (by unfold maxLen; omega) (by omega) (by rw [size_alloc]; have := HZ.out; omega) ?_; intro v' w1 hown' hgrow _; have HOWN := Lib.hid hown'; have HGR := Lib.hid hgrow; clear hown' hgrow)
            obtain ⟨A1, c1', hve, hOO⟩ := Own.of_row HOWN.out
            obtain ⟨g2, cur1, hA1, _⟩ := hOO.at_ (by omega)
            subst hve hA1
            refine ⟨⟨k + 1, by omega, by go_num, ⟨g2, c1', rfl⟩, ?_, (h2.alloc _).grown HGR.out (fun e => ?_), (HB.out.alloc HB.out.size _).grown HGR.out (by rw [size_alloc]; have := HB.out.size; omega) (fun j e => by have := (HO.out.lt _ e).1; omega), by have := HGR.out.size; rw [size_alloc] at this; have := HZ.out; omega⟩, by simp [intOf]; omega⟩
            · rw [HDS.out, List.map_append]
              exact HOWN.out
            · have := (HO.out.lt _ e.symm).1
              omega
      · obtain rfl : k = m := by omega
        obtain ⟨A1, c1', hve, hO⟩ := Own.of_row ho
        cases hve
        have HB := Lib.hid hb
        have HZ := Lib.hid hz
        have H2 := Lib.hid h2
        have hcc : ∀ i, i < k → wr.cell? ⟨g, 0 + i, none⟩ = some (.int .u8 ((dl c k).getD i 0)) := fun i hi => by
          obtain ⟨b', o', hA', _, hcc⟩ := hO.rd.at_ (by omega)
          cases hA'
          refine hcc i _ ?_
          rw [List.getElem?_map, List.getElem?_eq_getElem (by rw [dl_length]; exact hi), List.getD_eq_getElem?_getD, List.getElem?_eq_getElem (by rw [dl_length]; exact hi)]
          rfl
        have hcv := run_convert_bytes_arg (P := Try.prog) wr 40 5 Try.underlying40 Try.underlying5 g 0 k cc (dl c k) (dl_length _ _) hcc 9 Try.underlying9
        have hdw : dw c = strOfNums (dl c k) := by rw [dw, ← HX.out, Int.toNat_natCast]
        obtain ⟨s, hs⟩ : ∃ s, s = strOfNums (dl c k) := ⟨_, rfl⟩
        have hsz : s.size ≤ 1048576 := by rw [hs, strOfNums_size, dl_length]; omega
        have hcd := fun W => iCodeOfWord_any s hsz W
        obtain ⟨V, hV⟩ : ∃ V, V = wcV s := ⟨_, rfl⟩
        have hVl : V.length = 16 := by rw [hV]; exact wcV_length s
        have hwo : woOk c = (V == c) := by
          rw [woOk, hdw, ← hs, ← hV, ← HX.out]
          rw [decide_eq_true (by omega), Bool.true_and]
        have hwv : woOk c = true → woV c = s := fun h => by rw [woV, if_pos h, hdw, hs]
        obtain ⟨j0, hj0, -, -, -⟩ := info_parts uint8_info
        have heq : ∀ W : World, (Op.equalIn 10000 103 (.agg (ivs .u8 V)) (.agg (ivs .u8 c))).run Try.prog W = .ok (V == c) W := fun W => run_eql_arr W Try.underlying103 Try.underlying5 hj0 (by kernel_rfl) hVl HC.out
        rw [← hwo] at heq
        rw [← hs] at hcv
        rw [← hV] at hcd
        have hcv3 : ∀ (w2 : World) (X : Array Value), Below wr.heap.size wr w2 → (convert 40 9 (.slice (some ⟨g, 0, none⟩) k cc)).run Try.prog ((w2.alloc (.cells #[.int .u8 0, .int .u8 0, .int .u8 0, .int .u8 0, .int .u8 0, .int .u8 0, .int .u8 0, .int .u8 0, .int .u8 0, .int .u8 0, .int .u8 0, .int .u8 0, .int .u8 0, .int .u8 0, .int .u8 0, .int .u8 0] 103)).setRow w2.heap.size X) = .ok (.string s) ((w2.alloc (.cells #[.int .u8 0, .int .u8 0, .int .u8 0, .int .u8 0, .int .u8 0, .int .u8 0, .int .u8 0, .int .u8 0, .int .u8 0, .int .u8 0, .int .u8 0, .int .u8 0, .int .u8 0, .int .u8 0, .int .u8 0, .int .u8 0] 103)).setRow w2.heap.size X) := fun w2 X hb2 => by
          rw [hs]
          refine run_convert_bytes_arg (P := Try.prog) _ 40 5 Try.underlying40 Try.underlying5 g 0 k cc (dl c k) (dl_length _ _) (fun i hi => ?_) 9 Try.underlying9
          have hgl : g < wr.heap.size := World.block_lt_of_cell? _ _ (hcc i hi)
          have := below_setRow (hb2.alloc hb2.size (.cells #[.int .u8 0, .int .u8 0, .int .u8 0, .int .u8 0, .int .u8 0, .int .u8 0, .int .u8 0, .int .u8 0, .int .u8 0, .int .u8 0, .int .u8 0, .int .u8 0, .int .u8 0, .int .u8 0, .int .u8 0, .int .u8 0] 103)) (g := w2.heap.size) hb2.size X
          rw [(bcell this).1 _ _ hgl]
          exact hcc i hi
        have HCV3 := Lib.hid hcv3
        have HCD := Lib.hid hcd
        have HVL := Lib.hid hVl
        have HWV := Lib.hid hwv
        clear hcv3 hcd hVl hwv hwo hV hcc ho hO hb hz h2 hdw hs
        have hcodes : woC c = if woOk c then 0 else 5 := rfl
        have hvals : woV c = if woOk c then dw c else ⟨#[]⟩ := rfl
        have HCO := Lib.hid hcodes
        have HVA := Lib.hid hvals
        clear hcodes hvals
        rcases hok : woOk c with _ | _
        · rw [hok] at heq HCO HVA
          clear hok
          go_wp2_with (first
            | (go_at_call 66; refine (HCD.out _).mono ?_; rintro e w2 ⟨rfl, hb2⟩; have HB2 := Lib.hid hb2; have hs3 := HCV3.out w2 (ivs .u8 V) hb2; have HR2 := Lib.hid ((Blk.newAt (w := w2) (cs := (ivs .u8 (List.replicate 16 0))) (t := 103) rfl rfl).row (ivs .u8 V)); have HR1 := Lib.hid (((H2.out.below hb2 H2.out.lt).alloc (.cells #[.int .u8 0, .int .u8 0, .int .u8 0, .int .u8 0, .int .u8 0, .int .u8 0, .int .u8 0, .int .u8 0, .int .u8 0, .int .u8 0, .int .u8 0, .int .u8 0, .int .u8 0, .int .u8 0, .int .u8 0, .int .u8 0] 103)).rowFar (g' := w2.heap.size) (by have := H2.out.lt; have := hb2.size; omega) (ivs .u8 V)); clear hb2)
            | refine wpList_store_row rfl _ _ _ rfl w2.heap.size (ivs .u8 V) rfl rfl 103 (ivs .u8 (List.replicate 16 0)) (Blk.newAt rfl rfl) (by rw [ivs_size, HVL.out]; exact size103) (by simp [ivs_size, HVL.out]) ivs_one ?_
            | refine wpList_load_row rfl _ _ rfl w2.heap.size rfl 103 (ivs .u8 V) (0, 0) _ HR2.out Try.underlying103 rfl (by rw [ivs_size, HVL.out]; exact size103) ?_
            | refine wpList_load_row rfl _ _ rfl w.heap.size rfl 103 (ivs .u8 c) (0, 0) _ HR1.out Try.underlying103 rfl (by rw [ivs_size, HC.out]; exact size103) ?_)
          go_ret2
          exact ⟨by rw [HCO.out, HVA.out]; rfl, below_setRow ((HB.out.trans (HB2.out.mono HB.out.size)).alloc (by have := HB.out.size; have := HB2.out.size; omega) _) (by have := HB.out.size; have := HB2.out.size; omega) _⟩
        · have hwv := HWV.out hok
          rw [hok] at heq HCO
          have HWV2 := Lib.hid hwv
          clear hok hwv HWV
          go_wp2_with (first
            | (go_at_call 66; refine (HCD.out _).mono ?_; rintro e w2 ⟨rfl, hb2⟩; have HB2 := Lib.hid hb2; have hs3 := HCV3.out w2 (ivs .u8 V) hb2; have HR2 := Lib.hid ((Blk.newAt (w := w2) (cs := (ivs .u8 (List.replicate 16 0))) (t := 103) rfl rfl).row (ivs .u8 V)); have HR1 := Lib.hid (((H2.out.below hb2 H2.out.lt).alloc (.cells #[.int .u8 0, .int .u8 0, .int .u8 0, .int .u8 0, .int .u8 0, .int .u8 0, .int .u8 0, .int .u8 0, .int .u8 0, .int .u8 0, .int .u8 0, .int .u8 0, .int .u8 0, .int .u8 0, .int .u8 0, .int .u8 0] 103)).rowFar (g' := w2.heap.size) (by have := H2.out.lt; have := hb2.size; omega) (ivs .u8 V)); clear hb2)
            | refine wpList_store_row rfl _ _ _ rfl w2.heap.size (ivs .u8 V) rfl rfl 103 (ivs .u8 (List.replicate 16 0)) (Blk.newAt rfl rfl) (by rw [ivs_size, HVL.out]; exact size103) (by simp [ivs_size, HVL.out]) ivs_one ?_
            | refine wpList_load_row rfl _ _ rfl w2.heap.size rfl 103 (ivs .u8 V) (0, 0) _ HR2.out Try.underlying103 rfl (by rw [ivs_size, HVL.out]; exact size103) ?_
            | refine wpList_load_row rfl _ _ rfl w.heap.size rfl 103 (ivs .u8 c) (0, 0) _ HR1.out Try.underlying103 rfl (by rw [ivs_size, HC.out]; exact size103) ?_)
          go_ret2
          exact ⟨by rw [HCO.out, HWV2.out]; rfl, below_setRow ((HB.out.trans (HB2.out.mono HB.out.size)).alloc (by have := HB.out.size; have := HB2.out.size; omega) _) (by have := HB.out.size; have := HB2.out.size; omega) _⟩
  · have e0 : woOk c = false := by rw [woOk, decide_eq_false (by rw [← HX.out]; exact h40)]; rfl
    have e1 : woC c = 5 := by rw [woC, e0]; rfl
    have e2 : woV c = ⟨#[]⟩ := by rw [woV, e0]; rfl
    rw [e1, e2]
    clear e0 e1 e2
    go_enter Try.func68, Try.ntmps68
    go_wp2
    go_ret2
    exact ⟨rfl, B1.out⟩
end Go.Proofs.Ytmagaapdijapiaa
