/- Valid pictures: the reference's walk. -/
import Derived.Test.YtmagaapdijapiaaDoorRows
import Derived.Test.YtmagaapdijapiaaDoorCh
namespace Go.Proofs.YtmagaapdijapiaaDoor
open Go.ChangeShapes Go.WideShapes Go.ChangeAt Go.RowKit
/-! ### where a mask is not empty, its cells tell that the corner is near -/
theorem log_bit {n : Nat} (h : n ≠ 0) : n / 2 ^ n.log2 % 2 = 1 := by
  have h1 : 2 ^ n.log2 ≤ n := Nat.log2_self_le h
  have h2 : n < 2 ^ (n.log2 + 1) := Nat.lt_log2_self
  have h3 : n / 2 ^ n.log2 = 1 := by
    apply Nat.le_antisymm
    · have : n / 2 ^ n.log2 < 2 := by
        rw [Nat.div_lt_iff_lt_mul (Nat.two_pow_pos _), Nat.mul_comm, ← Nat.pow_succ]
        exact h2
      omega
    · exact (Nat.le_div_iff_mul_le (Nat.two_pow_pos _)).2 (by omega)
  rw [h3]
theorem bit_exists {v : Int} (h0 : 0 ≤ v) (h1 : v < 65536) (hv : v ≠ 0) : ∃ x, x < 16 ∧ v / 2 ^ x % 2 = 1 := by
  obtain ⟨n, rfl⟩ := Int.eq_ofNat_of_zero_le h0
  have hn : n ≠ 0 := by omega
  refine ⟨n.log2, (Nat.log2_lt hn).2 (by omega), ?_⟩
  have := log_bit hn
  have h2 : ((n / 2 ^ n.log2 % 2 : Nat) : Int) = (1 : Nat) := by rw [this]
  simpa using h2
theorem mCells_some {M : List Int} (hM : M.length = 16) (h16 : is16 M) (hne : emptyM M = false) : mCells M ≠ [] := by
  have hex : ∃ y, y < 16 ∧ M.getD y 0 ≠ 0 := by
    apply Classical.byContradiction
    intro hno
    have hz : M = zr16 := by
      apply List.ext_getElem (by rw [hM]; rfl)
      intro i h1 h2
      have hi : ¬ M.getD i 0 ≠ 0 := fun e => hno ⟨i, by omega, e⟩
      have h3 : M.getD i 0 = 0 := Classical.byContradiction hi
      rw [List.getD_eq_getElem?_getD, List.getElem?_eq_getElem h1] at h3
      rw [show M[i] = 0 from h3]
      exact (List.getElem_replicate (n := 16) (a := (0 : Int)) (i := i) (by exact h2)).symm
    rw [emptyM, hz] at hne
    simp at hne
  obtain ⟨y, hy, hv⟩ := hex
  obtain ⟨v0, v1⟩ := h16.getD y
  obtain ⟨x, hx, hb⟩ := bit_exists v0 v1 hv
  intro he
  have hmem : [((x : Nat) : Int), (y : Int)] ∈ mCells M := by
    refine List.mem_map.2 ⟨16 * y + x, List.mem_filter.2 ⟨List.mem_range.2 (by omega), ?_⟩, ?_⟩
    · rw [show (16 * y + x) % 16 = x by omega, show (16 * y + x) / 16 = y by omega, bitB, decide_eq_true_eq]
      exact hb
    · rw [show (16 * y + x) % 16 = x by omega, show (16 * y + x) / 16 = y by omega]
  rw [he] at hmem
  cases hmem
theorem far_of_cells {b : Bl} (hM : b.2.length = 16) (h16 : is16 b.2) (hne : emptyM b.2 = false) (h : okCells (bCells b) = true) : farB b = true := by
  have h1 := mCells_some hM h16 hne
  have hl : 0 < (mCells b.2).length := List.length_pos_iff.2 h1
  obtain ⟨x, y, hx, hy, e⟩ := mCells_at hl
  have hm : mv (b.1.getD 0 0) (b.1.getD 1 0) (mCells b.2)[0] ∈ bCells b := List.mem_map.2 ⟨_, List.getElem_mem hl, rfl⟩
  have h2 := List.all_eq_true.1 h _ hm
  rw [e] at h2
  have h3 : cellB ((x : Int) + 16 * b.1.getD 0 0) ((y : Int) + 16 * b.1.getD 1 0) = true := h2
  simp only [cellB, inB, Bool.and_eq_true, decide_eq_true_eq] at h3
  rw [farB, inB, inB, decide_eq_true (show (-62501 : Int) ≤ b.1.getD 0 0 by omega), decide_eq_true (show b.1.getD 0 0 ≤ 62501 by omega), decide_eq_true (show (-62501 : Int) ≤ b.1.getD 1 0 by omega), decide_eq_true (show b.1.getD 1 0 ≤ 62501 by omega)]
  rfl
theorem blkOk_plain {b : Bl} (hM : b.2.length = 16) (h16 : is16 b.2) : blkOk b = (!emptyM b.2 && okCells (bCells b)) := by
  rw [blkOk]
  cases he : emptyM b.2
  · cases ho : okCells (bCells b)
    · simp
    · rw [far_of_cells hM h16 he ho]; rfl
  · rfl
set_option maxHeartbeats 800000 in
theorem l07Empty_any (g o : Nat) (M : List Int) (hM : M.length = 16) (w : World) (h : w.rangeAt g o (M.map (.int .u16))) :
    Calls Tryd.prog 63 #[.pointer (some ⟨g, o, none⟩)] w fun e w' => e = .returned (.bool (emptyM M)) ∧ w = w' := by
  obtain ⟨iu, hiu, hu0, hu1, hu2⟩ := info_parts U16_info
  have heq : ∀ W : World, (Op.equalIn 10000 44 (.agg (M.map (Value.int .u16)).toArray) (.agg #[.int .u16 0, .int .u16 0, .int .u16 0, .int .u16 0, .int .u16 0, .int .u16 0, .int .u16 0, .int .u16 0, .int .u16 0, .int .u16 0, .int .u16 0, .int .u16 0, .int .u16 0, .int .u16 0, .int .u16 0, .int .u16 0])).run Tryd.prog W = .ok (emptyM M) W := fun W => run_eql_arr (a := M) (b := zr16) W Tryd.underlying44 Tryd.underlying42 hiu (by kernel_rfl) hM rfl
  have HH := Lib.hid h
  clear h hiu
  go_enter Tryd.func63, Tryd.ntmps63
  go_wp2_with (refine wpList_load_mid rfl _ _ rfl g o (by rfl) (M.map (.int .u16)) _ HH.out Tryd.underlying44 rfl (by rw [List.length_map, hM]; exact size44) ?_)
  go_ret
  exact ⟨rfl, rfl⟩
theorem cmpC_lt (a0 a1 b0 b1 : Int) : decide (cmpC a0 a1 b0 b1 < 0) = if a1 < b1 then true else if a1 = b1 then decide (a0 < b0) else false := by
  rw [cmpC, cmpI]
  by_cases h : a1 < b1
  · rw [if_pos h, if_pos h]; rfl
  · rw [if_neg h, if_neg h]
    by_cases h2 : b1 < a1
    · rw [if_pos h2, if_neg (by omega)]; rfl
    · rw [if_neg h2, if_pos (by omega)]
      rw [orI, if_pos rfl, cmpI]
      by_cases h3 : a0 < b0
      · rw [if_pos h3, decide_eq_true h3]; rfl
      · rw [if_neg h3, decide_eq_false h3]
        split <;> rfl
set_option maxHeartbeats 800000 in
theorem l07Before_any (a0 a1 b0 b1 : Int) (w : World) :
    Calls Tryd.prog 65 #[.agg #[.int .i32 a0, .int .i32 a1], .agg #[.int .i32 b0, .int .i32 b1]] w fun e w' => e = .returned (.bool (decide (cmpC a0 a1 b0 b1 < 0))) ∧ Below w.heap.size w w' := by
  have hc := cmpC_lt a0 a1 b0 b1
  have hB : Below w.heap.size w ((w.alloc (.cells #[.int .i32 a0, .int .i32 a1] 63)).alloc (.cells #[.int .i32 b0, .int .i32 b1] 63)) := ((Below.refl _ _).alloc (Nat.le_refl _) _).alloc (by simp) _
  have HB := Lib.hid hB
  clear hB
  by_cases h1 : a1 < b1
  · rw [if_pos h1] at hc
    rw [hc]
    clear hc
    go_enter Tryd.func65, Tryd.ntmps65
    go_wp2
    all_goals (go_ret; exact ⟨rfl, HB.out⟩)
  · by_cases h2 : a1 = b1
    · rw [if_neg h1, if_pos h2] at hc
      rw [hc]
      subst h2
      clear hc
      go_enter Tryd.func65, Tryd.ntmps65
      go_wp2
      all_goals (go_ret; exact ⟨rfl, HB.out⟩)
    · rw [if_neg h1, if_neg h2] at hc
      rw [hc]
      clear hc
      go_enter Tryd.func65, Tryd.ntmps65
      go_wp2
      all_goals (go_ret; exact ⟨rfl, HB.out⟩)
set_option maxRecDepth 20000 in
set_option maxHeartbeats 3200000 in
theorem l07Fits_any (g o : Nat) (b : Bl) (hb : b.1.length = 2 ∧ b.2.length = 16) (h16 : is16 b.2) (h32 : ∀ x ∈ b.1, -2147483648 ≤ x ∧ x ≤ 2147483647) (w : World) (hg : g < w.heap.size) (h : w.rangeAt g o (bvs b)) :
    Calls Tryd.prog 74 #[.pointer (some ⟨g, o, none⟩)] w fun e w' => e = .returned (.bool (okCells (bCells b))) ∧ Below w.heap.size w w' := by
  have hM : w.rangeAt g (o + 2) (b.2.map (.int .u16)) := fun j v hv => by
    rw [Nat.add_assoc]
    exact h (2 + j) v (by rw [bvs, List.getElem?_append_right (by rw [List.length_map, hb.1]; omega), List.length_map, hb.1, Nat.add_sub_cancel_left]; exact hv)
  obtain ⟨X, hX⟩ : ∃ X, X = b.1.getD 0 0 := ⟨_, rfl⟩
  obtain ⟨Y, hY⟩ : ∃ Y, Y = b.1.getD 1 0 := ⟨_, rfl⟩
  have cX : w.cell? ⟨g, o, none⟩ = some (.int .i32 X) := by
    have := h 0 (.int .i32 X) (by rw [bvs, two_eq hb.1, ← hX]; rfl)
    rwa [Nat.add_zero] at this
  have cY : w.cell? ⟨g, o + 1, none⟩ = some (.int .i32 Y) := h 1 (.int .i32 Y) (by rw [bvs, two_eq hb.1, ← hY]; rfl)
  have bX : -2147483648 ≤ X ∧ X ≤ 2147483647 := h32 X (by rw [hX, List.getD_eq_getElem?_getD, List.getElem?_eq_getElem (by omega)]; exact List.getElem_mem _)
  have bY : -2147483648 ≤ Y ∧ Y ≤ 2147483647 := h32 Y (by rw [hY, List.getD_eq_getElem?_getD, List.getElem?_eq_getElem (by omega)]; exact List.getElem_mem _)
  have HM := Lib.hid hM
  have HC := Lib.hid (sCellsOf_any b.2 hb.2 h16)
  have HBC : Hid (okCells (bCells b) = (mCells b.2).all fun f => cellB (16 * X + f.getD 0 0) (16 * Y + f.getD 1 0)) := Lib.hid (by
    rw [bCells, okCells, List.all_map, hX, hY]
    congr 1
    funext f
    show cellB (f.getD 0 0 + 16 * _) (f.getD 1 0 + 16 * _) = _
    rw [Int.add_comm, Int.add_comm (f.getD 1 0)])
  have HAT := Lib.hid (fun k h => mCells_at (M := b.2) (k := k) h)
  have hrow : Rows_ 2 (mCells b.2) := cellsTo_rows _ _
  have hll : (mCells b.2).length ≤ 256 := cellsTo_length _ _
  have HROW := Lib.hid hrow
  have CX := Lib.hid cX
  have CY := Lib.hid cY
  clear hM h cX cY hrow hX hY
  generalize okCells (bCells b) = OK at *
  go_enter Tryd.func74, Tryd.ntmps74
  go_wp2_with (first
    | refine wpList_load_ivs rfl _ _ rfl g (o + 2) rfl .u16 b.2 _ HM.out Tryd.underlying44 rfl (by rw [hb.2]; exact size44) ?_
    | (go_at_call 85; refine (HC.out _).mono ?_; rintro e w2 ⟨g2, c2, rfl, hO, hb2⟩; have hR := Lib.hid hO.rd; have HB2 := Lib.hid hb2; have z2 := hb2.size; clear hO hb2))
  have D2 : Hid (w2.cell? ⟨g, o, none⟩ = some (.int .i32 X) ∧ w2.cell? ⟨g, o + 1, none⟩ = some (.int .i32 Y)) := Lib.hid ⟨(HB2.out.cell (p := ⟨g, o, none⟩) hg).trans CX.out, (HB2.out.cell (p := ⟨g, o + 1, none⟩) hg).trans CY.out⟩
  have hg2 : g < w2.heap.size := by omega
  clear HM HC CX CY h16
  generalize mCells b.2 = L at *
  go_loopw [4] (fun i wr => ∃ k : Nat, k ≤ L.length ∧ i = .int .i64 k ∧ Hid ((L.take k).all (fun f => cellB (16 * X + f.getD 0 0) (16 * Y + f.getD 1 0)) = true) ∧ Below w2.heap.size w2 wr) (fun i _ => L.length - (intOf i).toNat)
  case atStart => exact ⟨0, by omega, rfl, Lib.hid rfl, Below.refl _ _⟩
  case round =>
    obtain ⟨k, hk, rfl, hv, hbr⟩ := hrel
    by_cases hlt : k < L.length
    · have hlt' : (k : Int) < L.length := by omega
      have hk0 : (0 : Int) ≤ k := by omega
      obtain ⟨x, y, hx, hy, hxy⟩ := HAT.out k hlt
      have hgw : g < wr.heap.size := by have := hbr.size; omega
      have dX := (hbr.cell (p := ⟨g, o, none⟩) hg2).trans D2.out.1
      have dY := (hbr.cell (p := ⟨g, o + 1, none⟩) hg2).trans D2.out.2
      have g0 := pvs_get HROW.out (k := k) (j := 0) hlt (by omega)
      have g1 := pvs_get HROW.out (k := k) (j := 1) hlt (by omega)
      rw [hxy] at g0 g1
      obtain ⟨b', o', e', hlb, hc⟩ := (hR.out.below hbr (Nat.le_refl _)).at_ (by omega)
      cases e'
      have c0 := hc _ _ g0
      have c1 := hc _ _ g1
      rw [Nat.zero_add] at c0 c1
      have hg2w : g2 < wr.heap.size := by have := hbr.size; omega
      have tX : ∀ t : After wr, t.to.cell? ⟨g, o, none⟩ = some (.int .i32 X) := fun t => (t.cell hgw).trans dX
      have tY : ∀ t : After wr, t.to.cell? ⟨g, o + 1, none⟩ = some (.int .i32 Y) := fun t => (t.cell hgw).trans dY
      have t0 : ∀ t : After wr, t.to.cell? ⟨g2, k * 2, none⟩ = some (.int .i32 x) := fun t => (t.cell hg2w).trans c0
      have t1 : ∀ t : After wr, t.to.cell? ⟨g2, k * 2 + 1, none⟩ = some (.int .i32 y) := fun t => (t.cell hg2w).trans c1
      have w1 : IntKind.i64.wrap (16 * X) = 16 * X := by rw [IntKind.wrap_i64]; omega
      have w2' : IntKind.i64.wrap (16 * Y) = 16 * Y := by rw [IntKind.wrap_i64]; omega
      have w3 : IntKind.i64.wrap (16 * X + x) = 16 * X + x := by rw [IntKind.wrap_i64]; omega
      have w4 : IntKind.i64.wrap (16 * Y + y) = 16 * Y + y := by rw [IntKind.wrap_i64]; omega
      have hcl := fun W => l07Cell_any (16 * X + x) (16 * Y + y) W
      have hsn : (L.take (k + 1)).all (fun f => cellB (16 * X + f.getD 0 0) (16 * Y + f.getD 1 0)) = ((L.take k).all (fun f => cellB (16 * X + f.getD 0 0) (16 * Y + f.getD 1 0)) && cellB (16 * X + x) (16 * Y + y)) := by
        rw [List.take_succ_eq_append_getElem hlt, List.all_append, hxy]
        simp
      have hno : cellB (16 * X + x) (16 * Y + y) = false → OK = false := fun e => by
        rw [HBC.out, List.all_eq_false]
        exact ⟨L[k], List.getElem_mem hlt, by rw [hxy]; show ¬ cellB (16 * X + x) (16 * Y + y) = true; rw [e]; decide⟩
      have HSN := Lib.hid hsn
      have HNO := Lib.hid hno
      have HBR := Lib.hid hbr
      clear g0 g1 c0 c1 dX dY hc hxy hsn hno hbr hlb
      rcases hcb : cellB (16 * X + x) (16 * Y + y) with _ | _
      · rw [hcb] at hcl
        have HF := Lib.hid (HNO.out hcb)
        clear hcb HNO HSN
        go_wp2
        refine region_after (by kernel_rfl) (by kernel_rfl) ?_
        repeat (go_big_quiet_step ((go_at_call 86; exact After.same _ (hcl _))))
        refine wpQuiet_nil ?_
        rintro _ ⟨t, rfl⟩
        go_wp2
        go_ret
        exact ⟨by rw [HF.out]; rfl, (HB2.out.trans (HBR.out.mono z2)).trans (t.h.mono (by have := HBR.out.size; omega))⟩
      · rw [hcb] at hcl HSN
        clear hcb HNO
        go_wp2
        refine region_after (by kernel_rfl) (by kernel_rfl) ?_
        repeat (go_big_quiet_step ((go_at_call 86; exact After.same _ (hcl _))))
        refine wpQuiet_nil ?_
        rintro _ ⟨t, rfl⟩
        go_wp2
        exact ⟨⟨k + 1, by omega, by go_num, Lib.hid (by rw [HSN.out, hv.out]; rfl), HBR.out.trans (t.h.mono HBR.out.size)⟩, by simp [intOf]; omega⟩
    · obtain rfl : k = L.length := by omega
      have hok : OK = true := by rw [HBC.out]; have := hv.out; rwa [List.take_length] at this
      have HOK := Lib.hid hok
      have HBR := Lib.hid hbr
      clear hok hv hbr
      go_wp2
      go_ret
      exact ⟨by rw [HOK.out]; rfl, HB2.out.trans (HBR.out.mono z2)⟩
end Go.Proofs.YtmagaapdijapiaaDoor
