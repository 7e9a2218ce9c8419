/- Whether a picture has a cell: the reference, and the program. -/
import Derived.Test.YthicgmdkipgkaaaRows
import Derived.Test.YthicgmdkipgkaaaMq
import Derived.Test.YthicgmdkipgkaaaCj
namespace Go.Proofs.Ythicgmdkipgkaaa
open Go.ChangeShapes Go.WideShapes Go.ChangeAt Go.RowKit
theorem maskAt_no {l : List Bl} {key : List Int} (h : ∀ b ∈ l, key ≠ b.1) : maskAt l key = zr16 := by
  rw [maskAt, List.find?_eq_none.2 (fun b hb => by rw [beq_iff_eq]; exact h b hb)]
theorem maskAt_take {l : List Bl} {key : List Int} {k : Nat} (hk : k < l.length) (h : ∀ b ∈ l.take k, key ≠ b.1) (he : key = l[k].1) : maskAt l key = l[k].2 := by
  have hf : l.find? (fun b => key == b.1) = some l[k] := by
    rw [List.find?_eq_some_iff_getElem]
    refine ⟨by rw [beq_iff_eq]; exact he, k, hk, rfl, fun j hj => ?_⟩
    have := h l[j] (by rw [List.mem_take_iff_getElem]; exact ⟨j, by omega, rfl⟩)
    simpa using this
  rw [maskAt, hf]
section
attribute [local go_sem ↓] exec_ldCorner
attribute [local go_sem] run_ldCorner
set_option maxRecDepth 20000 in
set_option maxHeartbeats 3200000 in
theorem l07Find_any (A : Option Addr) (n c : Nat) (l : List Bl) (hl : l.length = n) (hrow : Bls l) (X Y : Int) (w : World) (hn : n ≤ 1048576) (hR : Rd w w.heap.size 18 A n (bcs l)) :
    Calls Try.prog 66 #[.slice A n c, .agg #[.int .i32 X, .int .i32 Y]] w fun e w' => e = .returned (.agg (ivs .u16 (maskAt l [X, Y]))) ∧ Below w.heap.size w w' := by
  have HR := Lib.hid hR
  have HROW := Lib.hid hrow
  clear hR hrow
  go_enter Try.func66, Try.ntmps66
  go_wp2
  go_loopw [5] (fun i wr => ∃ k : Nat, k ≤ n ∧ i = .int .i64 k ∧ Hid (∀ b ∈ l.take k, [X, Y] ≠ b.1) ∧ Blk wr w.heap.size 43 #[.int .i32 X, .int .i32 Y] ∧ Blk wr (w.heap.size + 1) 53 (ivs .u16 zr16) ∧ Below w.heap.size w wr) (fun i _ => n - (intOf i).toNat)
  case atStart => exact ⟨0, by omega, rfl, Lib.hid (by simp), (Blk.newAt rfl rfl).alloc _, Blk.newAt (by simp) rfl, ((Below.refl _ _).alloc (Nat.le_refl _) _).alloc (by simp) _⟩
  case round =>
    obtain ⟨k, hk, rfl, hno, h1, h2, hb⟩ := hrel
    by_cases hlt : k < n
    · have hkl : k < l.length := by omega
      have hz := hb.size
      have hRw := HR.out.below hb (Nat.le_refl _)
      obtain ⟨b, o, rfl, hbB, hc⟩ := hRw.at_ (by omega)
      have hrg := hRw.block HROW.out (by omega) hkl
      obtain ⟨hb1, hb2⟩ := HROW.out.at_ hkl
      have hmt := fun h he => maskAt_take (key := [X, Y]) hkl h he
      have htk : l.take (k + 1) = l.take k ++ [l[k]] := List.take_succ_eq_append_getElem hkl
      obtain ⟨F, hF⟩ : ∃ F, F = l[k] := ⟨_, rfl⟩
      rw [← hF] at hrg hb1 hb2 hmt htk
      have hM : wr.rangeAt b (o + k * 18 + 2) (F.2.map (.int .u16)) := fun j v hv => by
        rw [Nat.add_assoc (o + k * 18)]
        exact hrg (2 + j) v (by rw [bvs, List.getElem?_append_right (by rw [List.length_map, hb1]; omega), List.length_map, hb1, Nat.add_sub_cancel_left]; exact hv)
      have hA : wr.rangeAt b (o + k * 18) (F.1.map (.int .i32)) := fun q v hq => hrg q v (by
        rw [bvs, List.getElem?_append_left (by exact (List.getElem?_eq_some_iff.1 hq).1)]
        exact hq)
      have heq := fun W : World => run_equal_corner F.1 [X, Y] hb1 rfl W
      rw [two_eq hb1] at hA heq hmt
      have hbe : ([F.1.getD 0 0, F.1.getD 1 0] == [X, Y]) = decide ([X, Y] = [F.1.getD 0 0, F.1.getD 1 0]) := by
        rw [Bool.eq_iff_iff, beq_iff_eq, decide_eq_true_iff]
        exact eq_comm
      rw [hbe] at heq
      have hne : ∀ b ∈ l.take (k + 1), ¬ [X, Y] = [F.1.getD 0 0, F.1.getD 1 0] → [X, Y] ≠ b.1 := fun b hbm hn => by
        rw [htk, List.mem_append, List.mem_singleton] at hbm
        rcases hbm with hbm | rfl
        · exact hno.out b hbm
        · rw [two_eq hb1]; exact hn
      have HNE := Lib.hid hne
      have HMT := Lib.hid (hmt hno.out)
      have HM := Lib.hid hM
      have HB2 := Lib.hid hb2
      clear hc hRw hb1 hno hmt htk hbe hne hrg hM hF hb2
      obtain ⟨r1, r3⟩ : rowAt wr.drew b (o + k * 18) 2 = #[.int .i32 (F.1.getD 0 0), .int .i32 (F.1.getD 1 0)] ∧ hasRow wr.drew b (o + k * 18) 2 = true := rowAt_vals (W := wr.drew) hA
      obtain ⟨r2, r4⟩ : rowAt wr.drew w.heap.size 0 2 = #[.int .i32 X, .int .i32 Y] ∧ hasRow wr.drew w.heap.size 0 2 = true := rowAt_vals (W := wr.drew) (vs := [.int .i32 X, .int .i32 Y]) (h1.rangeV (o := 0) (vs := [.int .i32 X, .int .i32 Y]) (fun j u hu => by rw [Nat.zero_add]; rw [← List.getElem?_toArray] at hu; exact hu))
      have H1 := Lib.hid h1
      have H2 := Lib.hid h2
      have HB := Lib.hid hb
      have hlt' : (k : Int) < n := by omega
      have hk0 : (0 : Int) ≤ k := by omega
      clear h1 h2 hb hA
      generalize F.1.getD 0 0 = P at *
      generalize F.1.getD 1 0 = Q at *
      by_cases he : [X, Y] = [P, Q]
      · have HR5 := Lib.hid (HMT.out he)
        have heq' : ∀ W : World, (Op.equalIn 10000 43 (.agg #[.int .i32 P, .int .i32 Q]) (.agg #[.int .i32 X, .int .i32 Y])).run Try.prog W = .ok true W := fun W => by rw [← decide_eq_true he]; exact heq W
        clear heq
        go_wp2_with fail
        go_region_law (go_simp)
        all_goals
          go_wp2_with (first
            | refine wpList_load_ivs rfl _ _ rfl b (o + k * 18 + 2) rfl .u16 F.2 _ HM.out Try.underlying53 rfl (by rw [HB2.out]; exact size53) ?_
            | refine wpList_store_row rfl _ _ _ rfl (w.heap.size + 1) (ivs .u16 F.2) rfl rfl 53 _ H2.out (by rw [ivs_size, HB2.out]; exact size53) (by simp [ivs_size, HB2.out, zr16]) ivs_one ?_)
          exact bodyPost_ret (results_cell_row rfl _ _ (w.heap.size + 1) 53 (ivs .u16 F.2) (0, 0) _ rfl (H2.out.row _) Try.underlying53 rfl (by rw [ivs_size, HB2.out]; exact size53)) rfl ⟨by rw [HR5.out], below_setRow (below_drew HB.out) (by omega) _⟩
      · have heq' : ∀ W : World, (Op.equalIn 10000 43 (.agg #[.int .i32 P, .int .i32 Q]) (.agg #[.int .i32 X, .int .i32 Y])).run Try.prog W = .ok false W := fun W => by rw [← decide_eq_false he]; exact heq W
        have HN5 : Hid (∀ b ∈ l.take (k + 1), [X, Y] ≠ b.1) := Lib.hid fun b hb => HNE.out b hb he
        clear heq
        go_wp2_with fail
        go_region_law (go_simp)
        all_goals
          go_wp2
          exact ⟨⟨k + 1, by omega, by go_num, HN5, H1.out, H2.out, below_drew HB.out⟩, by simp [intOf]; omega⟩
    · obtain rfl : k = n := by omega
      have hmn := maskAt_no (l := l) (key := [X, Y]) (by have := hno.out; rwa [List.take_of_length_le (by omega)] at this)
      have HMN := Lib.hid hmn
      have H2 := Lib.hid h2
      have HB := Lib.hid hb
      clear h1 h2 hb hno hmn
      go_wp2_with (refine wpList_store_row rfl _ _ _ rfl (w.heap.size + 1) (ivs .u16 zr16) rfl rfl 53 _ H2.out (by exact size53) rfl ivs_one ?_)
      exact bodyPost_ret (results_cell_row rfl _ _ (w.heap.size + 1) 53 (ivs .u16 zr16) (0, 0) _ rfl (H2.out.row _) Try.underlying53 rfl (by exact size53)) rfl ⟨by rw [HMN.out], below_setRow HB.out (by omega) _⟩
end
def holdsB (l : List Bl) (x y : Int) : Bool := cellB x y && hasB l x y
theorem cellB_in {x y : Int} (h : cellB x y = true) : (-1000000 ≤ x ∧ x ≤ 1000000) ∧ (-1000000 ≤ y ∧ y ≤ 1000000) := by
  simp only [cellB, inB, Bool.and_eq_true, decide_eq_true_iff] at h
  exact h
set_option maxRecDepth 20000 in
set_option maxHeartbeats 3200000 in
theorem l07Holds_any (A : Option Addr) (n c : Nat) (l : List Bl) (hl : l.length = n) (hrow : Bls l) (h16 : ∀ b ∈ l, is16 b.2) (x y : Int) (w : World) (hn : n ≤ 1048576) (hR : Rd w w.heap.size 18 A n (bcs l)) :
    Calls Try.prog 51 #[.slice A n c, .int .i64 x, .int .i64 y] w fun e w' => e = .returned (.bool (holdsB l x y)) ∧ Below w.heap.size w w' := by
  have hc := fun W => l07Cell_any x y W
  rw [holdsB]
  cases hxy : cellB x y with
  | false =>
    rw [hxy] at hc
    clear hxy
    go_enter Try.func51, Try.ntmps51
    go_wp2_with (first | (go_at_call 50; refine (hc _).mono ?_; rintro e w1 ⟨rfl, rfl⟩))
    go_ret
    exact ⟨rfl, Below.refl _ _⟩
  | true =>
    rw [hxy] at hc
    obtain ⟨hx, hy⟩ := cellB_in hxy
    clear hxy
    have hlx := fun W => l07Low_any x (by omega) W
    have hly := fun W => l07Low_any y (by omega) W
    have hco := fun W => l07Corner_any x y (by omega) (by omega) W
    have hfi := fun W h => l07Find_any A n c l hl hrow (x / 16) (y / 16) W hn h
    obtain ⟨u, hu⟩ : ∃ u : Nat, (u : Int) = x % 16 := ⟨(x % 16).toNat, by omega⟩
    obtain ⟨v, hv⟩ : ∃ v : Nat, (v : Int) = y % 16 := ⟨(y % 16).toNat, by omega⟩
    obtain ⟨hm1, hm2⟩ := maskAt_mem hrow h16 [x / 16, y / 16]
    have hh : hasB l x y = bitB (maskAt l [x / 16, y / 16]) u v := by rw [hasB, ← hu, ← hv]; rfl
    rw [hh]
    generalize maskAt l [x / 16, y / 16] = M at *
    have hha := fun g W h => l07Has_any g M hm1 hm2 u v (by omega) (by omega) W h
    have HFI := Lib.hid hfi
    have HCO := Lib.hid hco
    have HR := Lib.hid hR
    have HM1 := Lib.hid hm1
    have hxu : x - 16 * (x / 16) = u := by omega
    have hyv : y - 16 * (y / 16) = v := by omega
    have HXU := Lib.hid hxu
    have HYV := Lib.hid hyv
    clear hfi hco hR hm1 hm2 hh hu hv hxu hyv hrow h16 hl
    go_enter Try.func51, Try.ntmps51
    go_wp2_with (first
      | (go_at_call 50; refine (hc _).mono ?_; rintro e w1 ⟨rfl, rfl⟩)
      | (go_at_call 84; first | (refine (hlx _).mono ?_; rintro e w1 ⟨rfl, rfl⟩) | (refine (hly _).mono ?_; rintro e w1 ⟨rfl, rfl⟩))
      | (go_at_call 82; refine (HCO.out _).mono ?_; rintro e w1 ⟨rfl, b1⟩; have B1 := Lib.hid b1; clear b1)
      | (go_at_call 66; refine (HFI.out _ ((HR.out.below B1.out (Nat.le_refl _)).more B1.out.size)).mono ?_; rintro e w2 ⟨rfl, b2⟩; have B2 := Lib.hid b2; clear b2)
      | (refine wpList_store_row rfl _ _ _ rfl w2.heap.size (ivs .u16 M) rfl rfl 53 (ivs .u16 zr16) (Blk.newAt rfl rfl) (by rw [ivs_size, HM1.out]; exact size53) (by rw [ivs_size, ivs_size, HM1.out]; rfl) ivs_one ?_; generalize hw5 : World.setRow _ _ _ = w5; have G5 : Hid (Blk w5 w2.heap.size 53 (ivs .u16 M)) := Lib.hid (by rw [← hw5]; exact (Blk.newAt rfl rfl).row _); have B5 : Hid (Below w2.heap.size w2 w5) := Lib.hid (by rw [← hw5]; exact below_setRow ((Below.refl _ _).alloc (Nat.le_refl _) _) (Nat.le_refl _) _); clear hw5)
      | (go_at_call 83; rw [HXU.out, HYV.out]; refine (hha _ _ G5.out).mono ?_; rintro e w6 ⟨rfl, b6⟩; have B6 := Lib.hid b6; clear b6))
    go_ret
    have z1 := B1.out.size
    have z2 := B2.out.size
    have z5 := B5.out.size
    exact ⟨rfl, ((B1.out.trans (B2.out.mono (by omega))).trans (B5.out.mono (by omega))).trans (B6.out.mono (by omega))⟩
/-- corners in order -/
def ltC (a b : Bl) : Prop := a.1.getD 1 0 < b.1.getD 1 0 ∨ (a.1.getD 1 0 = b.1.getD 1 0 ∧ a.1.getD 0 0 < b.1.getD 0 0)
theorem befB_iff (a b : Bl) : befB a b = true ↔ ltC a b := by
  rw [befB, cmpC_lt, ltC]
  split
  · exact ⟨fun _ => .inl (by assumption), fun _ => rfl⟩
  · split
    · rw [decide_eq_true_iff]
      omega
    · exact ⟨fun h => absurd h (by decide), fun h => by omega⟩
theorem ltC_trans {a b c : Bl} (h1 : ltC a b) (h2 : ltC b c) : ltC a c := by
  unfold ltC at *
  omega
def Rising (l : List Bl) : Prop := l.Pairwise ltC
theorem rising_of_vpB {l : List Bl} (h : vpB l = true) : Rising l := by
  have hs : ∀ k (hk : k + 1 < l.length), ltC l[k] l[k + 1] := fun k hk => by
    rw [vpB, Bool.and_eq_true, vpTo, List.all_eq_true] at h
    have := h.1 (k + 1) (List.mem_range.2 hk)
    rw [blkAt, Bool.and_eq_true, Nat.add_sub_cancel, getD_at hk, getD_at (show k < l.length by omega)] at this
    rw [← befB_iff]
    simpa using this.1
  rw [Rising, List.pairwise_iff_getElem]
  intro i j hi hj hij
  obtain ⟨d, rfl⟩ : ∃ d, j = i + 1 + d := ⟨j - i - 1, by omega⟩
  clear hij
  induction d with
  | zero => exact hs i hj
  | succ d ih => exact ltC_trans (ih (by omega)) (hs (i + 1 + d) hj)
theorem apart_of_rising {l : List Bl} (h : Rising l) : Apart l := List.Pairwise.imp (fun {a b} hab e => by
  rw [ltC, e] at hab
  omega) h
/-- what is told of a cell -/
def hasV (l : List Bl) (x y : Int) : Bool × Int := if vpB l then (if cellB x y then (hasB l x y, 0) else (false, 2)) else (false, 1)
theorem sPictureHas_any (A : Option Addr) (n c : Nat) (l : List Bl) (hl : l.length = n) (hrow : Bls l) (h16 : ∀ b ∈ l, is16 b.2) (h32 : ∀ b ∈ l, ∀ x ∈ b.1, -2147483648 ≤ x ∧ x ≤ 2147483647) (x y : Int) (hn : n ≤ 1048576) (w : World) (hR : Rd w w.heap.size 18 A n (bcs l)) :
    Calls Try.prog 17 #[.slice A n c, .int .i64 x, .int .i64 y] w fun e w' => e = .returned (.tuple #[.bool (hasV l x y).1, .int .i64 (hasV l x y).2]) ∧ Below w.heap.size w w' := by
  have ho := fun W h => l07Ok_any A n c l hl hrow h16 h32 hn W h
  have hc := fun W => l07Cell_any x y W
  have hh := fun W h => l07Holds_any A n c l hl hrow h16 x y W hn h
  rw [hasV]
  have hhe : cellB x y = true → holdsB l x y = hasB l x y := fun h => by rw [holdsB, h]; rfl
  clear hl hrow h16 h32
  generalize vpB l = ok at *
  generalize cellB x y = ce at *
  generalize holdsB l x y = q at *
  generalize hasB l x y = r at *
  cases ok
  · clear hhe hh
    go_enter Try.func17, Try.ntmps17
    go_wp2_with (first
      | (go_at_call 41; refine (ho _ (hR.more (by first | exact Nat.le_refl _ | omega))).mono ?_; rintro e w1 ⟨rfl, b1⟩))
    go_ret2
    exact ⟨rfl, b1⟩
  · cases ce
    · clear hhe hh
      go_enter Try.func17, Try.ntmps17
      go_wp2_with (first
        | (go_at_call 41; refine (ho _ (hR.more (by first | exact Nat.le_refl _ | omega))).mono ?_; rintro e w1 ⟨rfl, b1⟩)
        | (go_at_call 50; refine (hc _).mono ?_; rintro e w1 ⟨rfl, rfl⟩))
      go_ret2
      exact ⟨rfl, b1⟩
    · obtain rfl := hhe rfl
      go_enter Try.func17, Try.ntmps17
      go_wp2_with (first
        | (go_at_call 41; refine (ho _ (hR.more (by first | exact Nat.le_refl _ | omega))).mono ?_; rintro e w1 ⟨rfl, b1⟩)
        | (go_at_call 50; refine (hc _).mono ?_; rintro e w1 ⟨rfl, rfl⟩)
        | (go_at_call 51; refine (hh _ ((hR.below b1 (Nat.le_refl _)).more b1.size)).mono ?_; rintro e w2 ⟨rfl, b2⟩))
      go_ret2
      exact ⟨rfl, b1.trans (b2.mono b1.size)⟩
theorem iPictureHas_any (A : Option Addr) (n c : Nat) (l : List Bl) (hl : l.length = n) (hrow : Bls l) (h16 : ∀ b ∈ l, is16 b.2) (h32 : ∀ b ∈ l, ∀ x ∈ b.1, -2147483648 ≤ x ∧ x ≤ 2147483647) (x y : Int) (hn : n ≤ 1048576) (w : World) (hR : Rd w w.heap.size 18 A n (bcs l)) :
    Calls Try.prog 18 #[.slice A n c, .int .i64 x, .int .i64 y] w fun e w' => e = .returned (.tuple #[.bool (hasV l x y).1, .int .i64 (hasV l x y).2]) ∧ Below w.heap.size w w' := by
  have ho := fun W h => iValidPicture_any A n c l hl hrow h16 h32 hn W h
  have hc := fun W => isCell_any x y W
  have hap : vpB l = true → Apart l := fun h => apart_of_rising (rising_of_vpB h)
  have hm := fun h W hR => masksOf_any A n c l hl hrow (hap h) hn W hR
  have hh := fun (h : cellB x y = true) g c W h1 h2 => has_any g l hrow h16 x y (by have := (cellB_in h).1; omega) (by have := (cellB_in h).2; omega) c W h1 h2
  rw [hasV]
  clear hap hl hrow h16 h32
  generalize vpB l = ok at *
  generalize cellB x y = ce at *
  generalize hasB l x y = r at *
  cases ok
  · clear hh hm
    go_enter Try.func18, Try.ntmps18
    go_wp2_with (first
      | (go_at_call 15; refine (ho _ (hR.more (by first | exact Nat.le_refl _ | omega))).mono ?_; rintro e w1 ⟨rfl, b1⟩))
    go_ret2
    exact ⟨rfl, b1⟩
  · cases ce
    · clear hh hm
      go_enter Try.func18, Try.ntmps18
      go_wp2_with (first
        | (go_at_call 15; refine (ho _ (hR.more (by first | exact Nat.le_refl _ | omega))).mono ?_; rintro e w1 ⟨rfl, b1⟩)
        | (go_at_call 48; refine (hc _).mono ?_; rintro e w1 ⟨rfl, rfl⟩))
      go_ret2
      exact ⟨rfl, b1⟩
    · have hm' := hm rfl
      have hh' := hh rfl
      clear hm hh
      go_enter Try.func18, Try.ntmps18
      go_wp2_with (first
        | (go_at_call 15; refine (ho _ (hR.more (by first | exact Nat.le_refl _ | omega))).mono ?_; rintro e w1 ⟨rfl, b1⟩)
        | (go_at_call 48; refine (hc _).mono ?_; rintro e w1 ⟨rfl, rfl⟩)
        | (go_at_call 53; refine (hm' _ ((hR.below b1 (Nat.le_refl _)).more b1.size)).mono ?_; rintro e w2 ⟨g, rfl, hg1, hg2, hg3, b2⟩)
        | (go_at_call 52; refine (hh' _ _ _ hg3 hg2).mono ?_; rintro e w3 ⟨rfl, b3⟩))
      go_ret2
      exact ⟨rfl, (b1.trans (b2.mono b1.size)).trans (b3.mono (Nat.le_trans b1.size b2.size))⟩
end Go.Proofs.Ythicgmdkipgkaaa
