/- Masks joined, met, taken away: the walks. -/
import Derived.Test.YtmagaapdijapiaaRows
import Derived.Test.YtmagaapdijapiaaMd
import Derived.Deep.RegionWith
namespace Go.Proofs.Ytmagaapdijapiaa
open Go.ChangeShapes Go.WideShapes Go.ChangeAt Go.RowKit
/-- the first rows are those of c -/
def partM (c a : List Int) (y : Nat) : List Int := c.take y ++ a.drop y
theorem partM_zero (c a : List Int) : partM c a 0 = a := rfl
theorem partM_length {c a : List Int} (h : c.length = a.length) (y : Nat) : (partM c a y).length = a.length := by
  rw [partM, List.length_append, List.length_take, List.length_drop]
  omega
theorem partM_all {c a : List Int} {y : Nat} (h : c.length = a.length) (hy : y = a.length) : partM c a y = c := by
  rw [partM, List.drop_eq_nil_of_le (by omega), List.take_of_length_le (by omega), List.append_nil]
theorem partM_at {c a : List Int} (h : c.length = a.length) {y : Nat} (hy : y < a.length) : (partM c a y)[y]'(by rw [partM_length h]; exact hy) = a[y] := by
  have hl : (c.take y).length = y := by rw [List.length_take]; omega
  simp only [partM]
  rw [List.getElem_append_right (by omega), List.getElem_drop]
  congr 1
  omega
theorem partM_set {c a : List Int} (h : c.length = a.length) {y : Nat} (hy : y < a.length) : (partM c a y).set y (c[y]'(by omega)) = partM c a (y + 1) := by
  have hl : (c.take y).length = y := by rw [List.length_take]; omega
  rw [partM, List.set_append_right _ _ (by omega), hl, Nat.sub_self, List.drop_eq_getElem_cons hy, List.set_cons_zero, partM, List.take_succ_eq_append_getElem (by omega), List.append_assoc]
  rfl
theorem partM_getD {c a : List Int} (h : c.length = a.length) {y : Nat} (hy : y < a.length) : (partM c a y).getD y 0 = a.getD y 0 := by
  rw [List.getD_eq_getElem?_getD, List.getElem?_eq_getElem (by rw [partM_length h]; exact hy), partM_at h hy, List.getD_eq_getElem?_getD, List.getElem?_eq_getElem hy]
theorem opM_part {f : Int → Int → Int} {a b : List Int} (ha : a.length = 16) (hb : b.length = 16) {y : Nat} (hy : y < 16) : (partM (opM f a b) a y).set y (f (a.getD y 0) (b.getD y 0)) = partM (opM f a b) a (y + 1) := by
  have hl := opM_length (f := f) ha hb
  rw [← partM_set (by omega) (by omega)]
  congr 1
  simp only [opM, List.getElem_zipWith]
  rw [List.getD_eq_getElem?_getD, List.getElem?_eq_getElem (by omega), List.getD_eq_getElem?_getD, List.getElem?_eq_getElem (by omega)]
  rfl
set_option maxRecDepth 20000 in
theorem sJoinMasks_any (a b : List Int) (ha : a.length = 16) (hb : b.length = 16) (w : World) :
    Calls Try.prog 108 #[.agg (ivs .u16 a), .agg (ivs .u16 b)] w fun e w' => e = .returned (.agg (ivs .u16 (opM orF a b))) ∧ Below w.heap.size w w' := by
  have hcl : (opM orF a b).length = a.length := by rw [opM_length ha hb, ha]
  have hat := fun y (hy : y < 16) => opM_part (f := orF) ha hb hy
  have h0 : Blk (((w.alloc (.cells (ivs .u16 a) 76)).alloc (.cells (ivs .u16 b) 76)).alloc (.cells (ivs .u16 zr16) 76)) w.heap.size 76 (ivs .u16 (partM (opM orF a b) a 0)) := ((Blk.newAt rfl rfl).alloc _).alloc _
  have h1 : Blk (((w.alloc (.cells (ivs .u16 a) 76)).alloc (.cells (ivs .u16 b) 76)).alloc (.cells (ivs .u16 zr16) 76)) (w.heap.size + 1) 76 (ivs .u16 b) := (Blk.newAt (by simp) rfl).alloc _
  have h2 : Blk (((w.alloc (.cells (ivs .u16 a) 76)).alloc (.cells (ivs .u16 b) 76)).alloc (.cells (ivs .u16 zr16) 76)) (w.heap.size + 1 + 1) 76 (ivs .u16 zr16) := Blk.newAt (by simp) rfl
  have hB : Below w.heap.size w (((w.alloc (.cells (ivs .u16 a) 76)).alloc (.cells (ivs .u16 b) 76)).alloc (.cells (ivs .u16 zr16) 76)) := (((Below.refl _ _).alloc (Nat.le_refl _) _).alloc (by simp) _).alloc (by simp; omega) _
  have K := Lib.hid (And.intro h0 (And.intro h1 (And.intro h2 hB)))
  have HAT := Lib.hid hat
  have HCL := Lib.hid hcl
  clear h0 h1 h2 hB hat hcl
  generalize opM orF a b = c at *
  go_enter Try.func108, Try.ntmps108
  go_wp2
  go_loopw [5] (fun i wr => ∃ y : Nat, y ≤ 16 ∧ i = .int .i64 y ∧ Blk wr w.heap.size 76 (ivs .u16 (partM c a y)) ∧ Blk wr (w.heap.size + 1) 76 (ivs .u16 b) ∧ Blk wr (w.heap.size + 1 + 1) 76 (ivs .u16 zr16) ∧ Below w.heap.size w wr) (fun i _ => 16 - (intOf i).toNat)
  case atStart => exact ⟨0, by omega, rfl, K.out.1, K.out.2.1, K.out.2.2.1, K.out.2.2.2⟩
  case round =>
    clear K
    obtain ⟨y, hy, rfl, h0, h1, h2, hbl⟩ := hrel
    by_cases hlt : y < 16
    · have hlt' : (y : Int) < 16 := by omega
      have hya : y < a.length := by omega
      have c0 := h0.getAtG (i := y) (by rw [partM_length HCL.out]; exact hya)
      rw [partM_getD HCL.out hya] at c0
      have c1 := h1.getAtG (i := y) (by omega)
      have f0 := h0.frozen y
      have HS := Lib.hid (HAT.out y hlt)
      obtain ⟨u, hu⟩ : ∃ u, u = a.getD y 0 := ⟨_, rfl⟩
      obtain ⟨v, hv⟩ : ∃ v, v = b.getD y 0 := ⟨_, rfl⟩
      rw [← hu, ← hv] at HS
      rw [← hu] at c0
      rw [← hv] at c1
      have H0 := Lib.hid h0
      have H1 := Lib.hid h1
      have H2 := Lib.hid h2
      have HB := Lib.hid hbl
      clear h0 h1 h2 hbl hu hv
      go_wp2
      go_region
      go_wp2
      refine ⟨⟨y + 1, by omega, by go_num, ?_, ((H1.out.far (p := ⟨w.heap.size, y, none⟩) (show w.heap.size + 1 ≠ w.heap.size by omega) _).drew), ((H2.out.far (p := ⟨w.heap.size, y, none⟩) (show w.heap.size + 1 + 1 ≠ w.heap.size by omega) _).drew), below_drew (HB.out.setCell (p := ⟨w.heap.size, y, none⟩) (Nat.le_refl _) _)⟩, by simp [intOf]; omega⟩
      rw [← HS.out]
      exact (H0.out.setI y (orF u v)).drew
    · obtain rfl : y = 16 := by omega
      rw [partM_all HCL.out ha.symm] at h0
      have hc16 : c.length = 16 := by rw [HCL.out, ha]
      have H0 := Lib.hid h0
      have H2 := Lib.hid h2
      have HB := Lib.hid hbl
      have HC := Lib.hid hc16
      clear h0 h1 h2 hbl hc16 HCL HAT
      go_wp2_with (first
        | refine wpList_load_row rfl _ _ rfl w.heap.size rfl 76 (ivs .u16 c) (0, 0) _ H0.out Try.underlying76 rfl (by rw [ivs_size, HC.out]; exact size76) ?_
        | refine wpList_store_row rfl _ _ _ rfl (w.heap.size + 1 + 1) (ivs .u16 c) rfl rfl 76 _ H2.out (by rw [ivs_size, HC.out]; exact size76) (by rw [ivs_size, ivs_size, HC.out]; rfl) ivs_one ?_)
      exact bodyPost_ret (results_cell_row rfl _ _ (w.heap.size + 1 + 1) 76 (ivs .u16 c) (0, 0) _ rfl (H2.out.row _) Try.underlying76 rfl (by rw [ivs_size, HC.out]; exact size76)) rfl ⟨rfl, below_setRow HB.out (by omega) _⟩
theorem cJoinMasks_any (x y : Int) (w : World) : Calls Try.prog 126 #[.int .u16 x, .int .u16 y] w fun e w' => e = .returned (.int .u16 (orF x y)) ∧ w = w' := by
  go_enter Try.func126, Try.ntmps126
  go_wp2
  go_ret
  exact ⟨rfl, rfl⟩
set_option maxRecDepth 20000 in
theorem bJoinMasks_any (a b : List Int) (ha : a.length = 16) (hb : b.length = 16) (w : World) :
    Calls Try.prog 125 #[.agg (ivs .u16 a), .agg (ivs .u16 b), .func (.func 126) #[] #[]] w fun e w' => e = .returned (.agg (ivs .u16 (opM orF a b))) ∧ Below w.heap.size w w' := by
  have hcl : (opM orF a b).length = a.length := by rw [opM_length ha hb, ha]
  have hat := fun y (hy : y < 16) => opM_part (f := orF) ha hb hy
  have hca := fun x y W => cJoinMasks_any x y W
  have h0 : Blk (((w.alloc (.cells (ivs .u16 a) 76)).alloc (.cells (ivs .u16 b) 76)).alloc (.cells (ivs .u16 zr16) 76)) w.heap.size 76 (ivs .u16 (partM (opM orF a b) a 0)) := ((Blk.newAt rfl rfl).alloc _).alloc _
  have h1 : Blk (((w.alloc (.cells (ivs .u16 a) 76)).alloc (.cells (ivs .u16 b) 76)).alloc (.cells (ivs .u16 zr16) 76)) (w.heap.size + 1) 76 (ivs .u16 b) := (Blk.newAt (by simp) rfl).alloc _
  have h2 : Blk (((w.alloc (.cells (ivs .u16 a) 76)).alloc (.cells (ivs .u16 b) 76)).alloc (.cells (ivs .u16 zr16) 76)) (w.heap.size + 1 + 1) 76 (ivs .u16 zr16) := Blk.newAt (by simp) rfl
  have hB : Below w.heap.size w (((w.alloc (.cells (ivs .u16 a) 76)).alloc (.cells (ivs .u16 b) 76)).alloc (.cells (ivs .u16 zr16) 76)) := (((Below.refl _ _).alloc (Nat.le_refl _) _).alloc (by simp) _).alloc (by simp; omega) _
  have K := Lib.hid (And.intro h0 (And.intro h1 (And.intro h2 hB)))
  have HAT := Lib.hid hat
  have HCL := Lib.hid hcl
  have HCA := Lib.hid hca
  clear h0 h1 h2 hB hat hcl hca
  generalize opM orF a b = c at *
  go_enter Try.func125, Try.ntmps125
  go_wp2
  go_loopw [8] (fun i wr => ∃ y : Nat, y ≤ 16 ∧ i = .int .i64 y ∧ Blk wr w.heap.size 76 (ivs .u16 (partM c a y)) ∧ Blk wr (w.heap.size + 1) 76 (ivs .u16 b) ∧ Blk wr (w.heap.size + 1 + 1) 76 (ivs .u16 zr16) ∧ Below w.heap.size w wr) (fun i _ => 16 - (intOf i).toNat)
  case atStart => exact ⟨0, by omega, rfl, K.out.1, K.out.2.1, K.out.2.2.1, K.out.2.2.2⟩
  case round =>
    clear K
    obtain ⟨y, hy, rfl, h0, h1, h2, hbl⟩ := hrel
    by_cases hlt : y < 16
    · have hlt' : (y : Int) < 16 := by omega
      have hya : y < a.length := by omega
      have c0 := h0.getAtG (i := y) (by rw [partM_length HCL.out]; exact hya)
      rw [partM_getD HCL.out hya] at c0
      have c1 := h1.getAtG (i := y) (by omega)
      have f0 := h0.frozen y
      have HS := Lib.hid (HAT.out y hlt)
      obtain ⟨u, hu⟩ : ∃ u, u = a.getD y 0 := ⟨_, rfl⟩
      obtain ⟨v, hv⟩ : ∃ v, v = b.getD y 0 := ⟨_, rfl⟩
      rw [← hu, ← hv] at HS
      rw [← hu] at c0
      rw [← hv] at c1
      have H0 := Lib.hid h0
      have H1 := Lib.hid h1
      have H2 := Lib.hid h2
      have HB := Lib.hid hbl
      clear h0 h1 h2 hbl hu hv
      go_wp2
      go_region_with (go_at_call 126; refine (HCA.out _ _ _).mono ?_; rintro e w2 ⟨rfl, rfl⟩)
      all_goals go_wp2
      all_goals refine ⟨⟨y + 1, by omega, by go_num, ?_, ((H1.out.far (p := ⟨w.heap.size, y, none⟩) (show w.heap.size + 1 ≠ w.heap.size by omega) _).drew), ((H2.out.far (p := ⟨w.heap.size, y, none⟩) (show w.heap.size + 1 + 1 ≠ w.heap.size by omega) _).drew), below_drew (HB.out.setCell (p := ⟨w.heap.size, y, none⟩) (Nat.le_refl _) _)⟩, by simp [intOf]; omega⟩
      all_goals rw [← HS.out]
      all_goals exact (H0.out.setI y (orF u v)).drew
    · obtain rfl : y = 16 := by omega
      rw [partM_all HCL.out ha.symm] at h0
      have hc16 : c.length = 16 := by rw [HCL.out, ha]
      have H0 := Lib.hid h0
      have H2 := Lib.hid h2
      have HB := Lib.hid hbl
      have HC := Lib.hid hc16
      clear h0 h1 h2 hbl hc16 HCL HAT HCA
      go_wp2_with (first
        | refine wpList_load_row rfl _ _ rfl w.heap.size rfl 76 (ivs .u16 c) (0, 0) _ H0.out Try.underlying76 rfl (by rw [ivs_size, HC.out]; exact size76) ?_
        | refine wpList_store_row rfl _ _ _ rfl (w.heap.size + 1 + 1) (ivs .u16 c) rfl rfl 76 _ H2.out (by rw [ivs_size, HC.out]; exact size76) (by rw [ivs_size, ivs_size, HC.out]; rfl) ivs_one ?_)
      exact bodyPost_ret (results_cell_row rfl _ _ (w.heap.size + 1 + 1) 76 (ivs .u16 c) (0, 0) _ rfl (H2.out.row _) Try.underlying76 rfl (by rw [ivs_size, HC.out]; exact size76)) rfl ⟨rfl, below_setRow HB.out (by omega) _⟩
theorem iJoinMasks_any (a b : List Int) (ha : a.length = 16) (hb : b.length = 16) (w : World) :
    Calls Try.prog 83 #[.agg (ivs .u16 a), .agg (ivs .u16 b)] w fun e w' => e = .returned (.agg (ivs .u16 (opM orF a b))) ∧ Below w.heap.size w w' := by
  have h0 : Blk (((w.alloc (.cells (ivs .u16 a) 76)).alloc (.cells (ivs .u16 b) 76)).alloc (.cells (ivs .u16 zr16) 76)) w.heap.size 76 (ivs .u16 a) := ((Blk.newAt rfl rfl).alloc _).alloc _
  have h1 : Blk (((w.alloc (.cells (ivs .u16 a) 76)).alloc (.cells (ivs .u16 b) 76)).alloc (.cells (ivs .u16 zr16) 76)) (w.heap.size + 1) 76 (ivs .u16 b) := (Blk.newAt (by simp) rfl).alloc _
  have h2 : Blk (((w.alloc (.cells (ivs .u16 a) 76)).alloc (.cells (ivs .u16 b) 76)).alloc (.cells (ivs .u16 zr16) 76)) (w.heap.size + 1 + 1) 76 (ivs .u16 zr16) := Blk.newAt (by simp) rfl
  have hB : Below w.heap.size w (((w.alloc (.cells (ivs .u16 a) 76)).alloc (.cells (ivs .u16 b) 76)).alloc (.cells (ivs .u16 zr16) 76)) := (((Below.refl _ _).alloc (Nat.le_refl _) _).alloc (by simp) _).alloc (by simp; omega) _
  have HC := Lib.hid (opM_length (f := orF) ha hb)
  have H0 := Lib.hid h0
  have H1 := Lib.hid h1
  have H2 := Lib.hid h2
  have HB := Lib.hid hB
  have HM := Lib.hid (bJoinMasks_any a b ha hb)
  clear h0 h1 h2 hB
  generalize opM orF a b = c at *
  go_enter Try.func83, Try.ntmps83
  go_wp2_with (first
    | refine wpList_load_row rfl _ _ rfl w.heap.size rfl 76 (ivs .u16 a) (0, 0) _ H0.out Try.underlying76 rfl (by rw [ivs_size, ha]; exact size76) ?_
    | refine wpList_load_row rfl _ _ rfl (w.heap.size + 1) rfl 76 (ivs .u16 b) (0, 0) _ H1.out Try.underlying76 rfl (by rw [ivs_size, hb]; exact size76) ?_
    | (go_at_call 125; refine (HM.out _).mono ?_; rintro e w2 ⟨rfl, hb2⟩; have H22 := Lib.hid (H2.out.below hb2 H2.out.lt); have HB2 := Lib.hid (HB.out.trans (hb2.mono (by simp only [size_alloc]; omega))); clear hb2)
    | refine wpList_store_row rfl _ _ _ rfl (w.heap.size + 1 + 1) (ivs .u16 c) rfl rfl 76 _ H22.out (by rw [ivs_size, HC.out]; exact size76) (by rw [ivs_size, ivs_size, HC.out]; rfl) ivs_one ?_)
  exact bodyPost_ret (results_cell_row rfl _ _ (w.heap.size + 1 + 1) 76 (ivs .u16 c) (0, 0) _ rfl (H22.out.row _) Try.underlying76 rfl (by rw [ivs_size, HC.out]; exact size76)) rfl ⟨rfl, below_setRow HB2.out (by omega) _⟩
theorem cMeetMasks_any (x y : Int) (w : World) : Calls Try.prog 127 #[.int .u16 x, .int .u16 y] w fun e w' => e = .returned (.int .u16 (andF x y)) ∧ w = w' := by
  go_enter Try.func127, Try.ntmps127
  go_wp2
  go_ret
  exact ⟨rfl, rfl⟩
set_option maxRecDepth 20000 in
theorem bMeetMasks_any (a b : List Int) (ha : a.length = 16) (hb : b.length = 16) (w : World) :
    Calls Try.prog 125 #[.agg (ivs .u16 a), .agg (ivs .u16 b), .func (.func 127) #[] #[]] w fun e w' => e = .returned (.agg (ivs .u16 (opM andF a b))) ∧ Below w.heap.size w w' := by
  have hcl : (opM andF a b).length = a.length := by rw [opM_length ha hb, ha]
  have hat := fun y (hy : y < 16) => opM_part (f := andF) ha hb hy
  have hca := fun x y W => cMeetMasks_any x y W
  have h0 : Blk (((w.alloc (.cells (ivs .u16 a) 76)).alloc (.cells (ivs .u16 b) 76)).alloc (.cells (ivs .u16 zr16) 76)) w.heap.size 76 (ivs .u16 (partM (opM andF a b) a 0)) := ((Blk.newAt rfl rfl).alloc _).alloc _
  have h1 : Blk (((w.alloc (.cells (ivs .u16 a) 76)).alloc (.cells (ivs .u16 b) 76)).alloc (.cells (ivs .u16 zr16) 76)) (w.heap.size + 1) 76 (ivs .u16 b) := (Blk.newAt (by simp) rfl).alloc _
  have h2 : Blk (((w.alloc (.cells (ivs .u16 a) 76)).alloc (.cells (ivs .u16 b) 76)).alloc (.cells (ivs .u16 zr16) 76)) (w.heap.size + 1 + 1) 76 (ivs .u16 zr16) := Blk.newAt (by simp) rfl
  have hB : Below w.heap.size w (((w.alloc (.cells (ivs .u16 a) 76)).alloc (.cells (ivs .u16 b) 76)).alloc (.cells (ivs .u16 zr16) 76)) := (((Below.refl _ _).alloc (Nat.le_refl _) _).alloc (by simp) _).alloc (by simp; omega) _
  have K := Lib.hid (And.intro h0 (And.intro h1 (And.intro h2 hB)))
  have HAT := Lib.hid hat
  have HCL := Lib.hid hcl
  have HCA := Lib.hid hca
  clear h0 h1 h2 hB hat hcl hca
  generalize opM andF a b = c at *
  go_enter Try.func125, Try.ntmps125
  go_wp2
  go_loopw [8] (fun i wr => ∃ y : Nat, y ≤ 16 ∧ i = .int .i64 y ∧ Blk wr w.heap.size 76 (ivs .u16 (partM c a y)) ∧ Blk wr (w.heap.size + 1) 76 (ivs .u16 b) ∧ Blk wr (w.heap.size + 1 + 1) 76 (ivs .u16 zr16) ∧ Below w.heap.size w wr) (fun i _ => 16 - (intOf i).toNat)
  case atStart => exact ⟨0, by omega, rfl, K.out.1, K.out.2.1, K.out.2.2.1, K.out.2.2.2⟩
  case round =>
    clear K
    obtain ⟨y, hy, rfl, h0, h1, h2, hbl⟩ := hrel
    by_cases hlt : y < 16
    · have hlt' : (y : Int) < 16 := by omega
      have hya : y < a.length := by omega
      have c0 := h0.getAtG (i := y) (by rw [partM_length HCL.out]; exact hya)
      rw [partM_getD HCL.out hya] at c0
      have c1 := h1.getAtG (i := y) (by omega)
      have f0 := h0.frozen y
      have HS := Lib.hid (HAT.out y hlt)
      obtain ⟨u, hu⟩ : ∃ u, u = a.getD y 0 := ⟨_, rfl⟩
      obtain ⟨v, hv⟩ : ∃ v, v = b.getD y 0 := ⟨_, rfl⟩
      rw [← hu, ← hv] at HS
      rw [← hu] at c0
      rw [← hv] at c1
      have H0 := Lib.hid h0
      have H1 := Lib.hid h1
      have H2 := Lib.hid h2
      have HB := Lib.hid hbl
      clear h0 h1 h2 hbl hu hv
      go_wp2
      go_region_with (go_at_call 127; refine (HCA.out _ _ _).mono ?_; rintro e w2 ⟨rfl, rfl⟩)
      all_goals go_wp2
      all_goals refine ⟨⟨y + 1, by omega, by go_num, ?_, ((H1.out.far (p := ⟨w.heap.size, y, none⟩) (show w.heap.size + 1 ≠ w.heap.size by omega) _).drew), ((H2.out.far (p := ⟨w.heap.size, y, none⟩) (show w.heap.size + 1 + 1 ≠ w.heap.size by omega) _).drew), below_drew (HB.out.setCell (p := ⟨w.heap.size, y, none⟩) (Nat.le_refl _) _)⟩, by simp [intOf]; omega⟩
      all_goals rw [← HS.out]
      all_goals exact (H0.out.setI y (andF u v)).drew
    · obtain rfl : y = 16 := by omega
      rw [partM_all HCL.out ha.symm] at h0
      have hc16 : c.length = 16 := by rw [HCL.out, ha]
      have H0 := Lib.hid h0
      have H2 := Lib.hid h2
      have HB := Lib.hid hbl
      have HC := Lib.hid hc16
      clear h0 h1 h2 hbl hc16 HCL HAT HCA
      go_wp2_with (first
        | refine wpList_load_row rfl _ _ rfl w.heap.size rfl 76 (ivs .u16 c) (0, 0) _ H0.out Try.underlying76 rfl (by rw [ivs_size, HC.out]; exact size76) ?_
        | refine wpList_store_row rfl _ _ _ rfl (w.heap.size + 1 + 1) (ivs .u16 c) rfl rfl 76 _ H2.out (by rw [ivs_size, HC.out]; exact size76) (by rw [ivs_size, ivs_size, HC.out]; rfl) ivs_one ?_)
      exact bodyPost_ret (results_cell_row rfl _ _ (w.heap.size + 1 + 1) 76 (ivs .u16 c) (0, 0) _ rfl (H2.out.row _) Try.underlying76 rfl (by rw [ivs_size, HC.out]; exact size76)) rfl ⟨rfl, below_setRow HB.out (by omega) _⟩
theorem iMeetMasks_any (a b : List Int) (ha : a.length = 16) (hb : b.length = 16) (w : World) :
    Calls Try.prog 84 #[.agg (ivs .u16 a), .agg (ivs .u16 b)] w fun e w' => e = .returned (.agg (ivs .u16 (opM andF a b))) ∧ Below w.heap.size w w' := by
  have h0 : Blk (((w.alloc (.cells (ivs .u16 a) 76)).alloc (.cells (ivs .u16 b) 76)).alloc (.cells (ivs .u16 zr16) 76)) w.heap.size 76 (ivs .u16 a) := ((Blk.newAt rfl rfl).alloc _).alloc _
  have h1 : Blk (((w.alloc (.cells (ivs .u16 a) 76)).alloc (.cells (ivs .u16 b) 76)).alloc (.cells (ivs .u16 zr16) 76)) (w.heap.size + 1) 76 (ivs .u16 b) := (Blk.newAt (by simp) rfl).alloc _
  have h2 : Blk (((w.alloc (.cells (ivs .u16 a) 76)).alloc (.cells (ivs .u16 b) 76)).alloc (.cells (ivs .u16 zr16) 76)) (w.heap.size + 1 + 1) 76 (ivs .u16 zr16) := Blk.newAt (by simp) rfl
  have hB : Below w.heap.size w (((w.alloc (.cells (ivs .u16 a) 76)).alloc (.cells (ivs .u16 b) 76)).alloc (.cells (ivs .u16 zr16) 76)) := (((Below.refl _ _).alloc (Nat.le_refl _) _).alloc (by simp) _).alloc (by simp; omega) _
  have HC := Lib.hid (opM_length (f := andF) ha hb)
  have H0 := Lib.hid h0
  have H1 := Lib.hid h1
  have H2 := Lib.hid h2
  have HB := Lib.hid hB
  have HM := Lib.hid (bMeetMasks_any a b ha hb)
  clear h0 h1 h2 hB
  generalize opM andF a b = c at *
  go_enter Try.func84, Try.ntmps84
  go_wp2_with (first
    | refine wpList_load_row rfl _ _ rfl w.heap.size rfl 76 (ivs .u16 a) (0, 0) _ H0.out Try.underlying76 rfl (by rw [ivs_size, ha]; exact size76) ?_
    | refine wpList_load_row rfl _ _ rfl (w.heap.size + 1) rfl 76 (ivs .u16 b) (0, 0) _ H1.out Try.underlying76 rfl (by rw [ivs_size, hb]; exact size76) ?_
    | (go_at_call 125; refine (HM.out _).mono ?_; rintro e w2 ⟨rfl, hb2⟩; have H22 := Lib.hid (H2.out.below hb2 H2.out.lt); have HB2 := Lib.hid (HB.out.trans (hb2.mono (by simp only [size_alloc]; omega))); clear hb2)
    | refine wpList_store_row rfl _ _ _ rfl (w.heap.size + 1 + 1) (ivs .u16 c) rfl rfl 76 _ H22.out (by rw [ivs_size, HC.out]; exact size76) (by rw [ivs_size, ivs_size, HC.out]; rfl) ivs_one ?_)
  exact bodyPost_ret (results_cell_row rfl _ _ (w.heap.size + 1 + 1) 76 (ivs .u16 c) (0, 0) _ rfl (H22.out.row _) Try.underlying76 rfl (by rw [ivs_size, HC.out]; exact size76)) rfl ⟨rfl, below_setRow HB2.out (by omega) _⟩
theorem cMinusMasks_any (x y : Int) (w : World) : Calls Try.prog 128 #[.int .u16 x, .int .u16 y] w fun e w' => e = .returned (.int .u16 (notF x y)) ∧ w = w' := by
  go_enter Try.func128, Try.ntmps128
  go_wp2
  go_ret
  exact ⟨rfl, rfl⟩
set_option maxRecDepth 20000 in
theorem bMinusMasks_any (a b : List Int) (ha : a.length = 16) (hb : b.length = 16) (w : World) :
    Calls Try.prog 125 #[.agg (ivs .u16 a), .agg (ivs .u16 b), .func (.func 128) #[] #[]] w fun e w' => e = .returned (.agg (ivs .u16 (opM notF a b))) ∧ Below w.heap.size w w' := by
  have hcl : (opM notF a b).length = a.length := by rw [opM_length ha hb, ha]
  have hat := fun y (hy : y < 16) => opM_part (f := notF) ha hb hy
  have hca := fun x y W => cMinusMasks_any x y W
  have h0 : Blk (((w.alloc (.cells (ivs .u16 a) 76)).alloc (.cells (ivs .u16 b) 76)).alloc (.cells (ivs .u16 zr16) 76)) w.heap.size 76 (ivs .u16 (partM (opM notF a b) a 0)) := ((Blk.newAt rfl rfl).alloc _).alloc _
  have h1 : Blk (((w.alloc (.cells (ivs .u16 a) 76)).alloc (.cells (ivs .u16 b) 76)).alloc (.cells (ivs .u16 zr16) 76)) (w.heap.size + 1) 76 (ivs .u16 b) := (Blk.newAt (by simp) rfl).alloc _
  have h2 : Blk (((w.alloc (.cells (ivs .u16 a) 76)).alloc (.cells (ivs .u16 b) 76)).alloc (.cells (ivs .u16 zr16) 76)) (w.heap.size + 1 + 1) 76 (ivs .u16 zr16) := Blk.newAt (by simp) rfl
  have hB : Below w.heap.size w (((w.alloc (.cells (ivs .u16 a) 76)).alloc (.cells (ivs .u16 b) 76)).alloc (.cells (ivs .u16 zr16) 76)) := (((Below.refl _ _).alloc (Nat.le_refl _) _).alloc (by simp) _).alloc (by simp; omega) _
  have K := Lib.hid (And.intro h0 (And.intro h1 (And.intro h2 hB)))
  have HAT := Lib.hid hat
  have HCL := Lib.hid hcl
  have HCA := Lib.hid hca
  clear h0 h1 h2 hB hat hcl hca
  generalize opM notF a b = c at *
  go_enter Try.func125, Try.ntmps125
  go_wp2
  go_loopw [8] (fun i wr => ∃ y : Nat, y ≤ 16 ∧ i = .int .i64 y ∧ Blk wr w.heap.size 76 (ivs .u16 (partM c a y)) ∧ Blk wr (w.heap.size + 1) 76 (ivs .u16 b) ∧ Blk wr (w.heap.size + 1 + 1) 76 (ivs .u16 zr16) ∧ Below w.heap.size w wr) (fun i _ => 16 - (intOf i).toNat)
  case atStart => exact ⟨0, by omega, rfl, K.out.1, K.out.2.1, K.out.2.2.1, K.out.2.2.2⟩
  case round =>
    clear K
    obtain ⟨y, hy, rfl, h0, h1, h2, hbl⟩ := hrel
    by_cases hlt : y < 16
    · have hlt' : (y : Int) < 16 := by omega
      have hya : y < a.length := by omega
      have c0 := h0.getAtG (i := y) (by rw [partM_length HCL.out]; exact hya)
      rw [partM_getD HCL.out hya] at c0
      have c1 := h1.getAtG (i := y) (by omega)
      have f0 := h0.frozen y
      have HS := Lib.hid (HAT.out y hlt)
      obtain ⟨u, hu⟩ : ∃ u, u = a.getD y 0 := ⟨_, rfl⟩
      obtain ⟨v, hv⟩ : ∃ v, v = b.getD y 0 := ⟨_, rfl⟩
      rw [← hu, ← hv] at HS
      rw [← hu] at c0
      rw [← hv] at c1
      have H0 := Lib.hid h0
      have H1 := Lib.hid h1
      have H2 := Lib.hid h2
      have HB := Lib.hid hbl
      clear h0 h1 h2 hbl hu hv
      go_wp2
      go_region_with (go_at_call 128; refine (HCA.out _ _ _).mono ?_; rintro e w2 ⟨rfl, rfl⟩)
      all_goals go_wp2
      all_goals refine ⟨⟨y + 1, by omega, by go_num, ?_, ((H1.out.far (p := ⟨w.heap.size, y, none⟩) (show w.heap.size + 1 ≠ w.heap.size by omega) _).drew), ((H2.out.far (p := ⟨w.heap.size, y, none⟩) (show w.heap.size + 1 + 1 ≠ w.heap.size by omega) _).drew), below_drew (HB.out.setCell (p := ⟨w.heap.size, y, none⟩) (Nat.le_refl _) _)⟩, by simp [intOf]; omega⟩
      all_goals rw [← HS.out]
      all_goals exact (H0.out.setI y (notF u v)).drew
    · obtain rfl : y = 16 := by omega
      rw [partM_all HCL.out ha.symm] at h0
      have hc16 : c.length = 16 := by rw [HCL.out, ha]
      have H0 := Lib.hid h0
      have H2 := Lib.hid h2
      have HB := Lib.hid hbl
      have HC := Lib.hid hc16
      clear h0 h1 h2 hbl hc16 HCL HAT HCA
      go_wp2_with (first
        | refine wpList_load_row rfl _ _ rfl w.heap.size rfl 76 (ivs .u16 c) (0, 0) _ H0.out Try.underlying76 rfl (by rw [ivs_size, HC.out]; exact size76) ?_
        | refine wpList_store_row rfl _ _ _ rfl (w.heap.size + 1 + 1) (ivs .u16 c) rfl rfl 76 _ H2.out (by rw [ivs_size, HC.out]; exact size76) (by rw [ivs_size, ivs_size, HC.out]; rfl) ivs_one ?_)
      exact bodyPost_ret (results_cell_row rfl _ _ (w.heap.size + 1 + 1) 76 (ivs .u16 c) (0, 0) _ rfl (H2.out.row _) Try.underlying76 rfl (by rw [ivs_size, HC.out]; exact size76)) rfl ⟨rfl, below_setRow HB.out (by omega) _⟩
theorem iMinusMasks_any (a b : List Int) (ha : a.length = 16) (hb : b.length = 16) (w : World) :
    Calls Try.prog 85 #[.agg (ivs .u16 a), .agg (ivs .u16 b)] w fun e w' => e = .returned (.agg (ivs .u16 (opM notF a b))) ∧ Below w.heap.size w w' := by
  have h0 : Blk (((w.alloc (.cells (ivs .u16 a) 76)).alloc (.cells (ivs .u16 b) 76)).alloc (.cells (ivs .u16 zr16) 76)) w.heap.size 76 (ivs .u16 a) := ((Blk.newAt rfl rfl).alloc _).alloc _
  have h1 : Blk (((w.alloc (.cells (ivs .u16 a) 76)).alloc (.cells (ivs .u16 b) 76)).alloc (.cells (ivs .u16 zr16) 76)) (w.heap.size + 1) 76 (ivs .u16 b) := (Blk.newAt (by simp) rfl).alloc _
  have h2 : Blk (((w.alloc (.cells (ivs .u16 a) 76)).alloc (.cells (ivs .u16 b) 76)).alloc (.cells (ivs .u16 zr16) 76)) (w.heap.size + 1 + 1) 76 (ivs .u16 zr16) := Blk.newAt (by simp) rfl
  have hB : Below w.heap.size w (((w.alloc (.cells (ivs .u16 a) 76)).alloc (.cells (ivs .u16 b) 76)).alloc (.cells (ivs .u16 zr16) 76)) := (((Below.refl _ _).alloc (Nat.le_refl _) _).alloc (by simp) _).alloc (by simp; omega) _
  have HC := Lib.hid (opM_length (f := notF) ha hb)
  have H0 := Lib.hid h0
  have H1 := Lib.hid h1
  have H2 := Lib.hid h2
  have HB := Lib.hid hB
  have HM := Lib.hid (bMinusMasks_any a b ha hb)
  clear h0 h1 h2 hB
  generalize opM notF a b = c at *
  go_enter Try.func85, Try.ntmps85
  go_wp2_with (first
    | refine wpList_load_row rfl _ _ rfl w.heap.size rfl 76 (ivs .u16 a) (0, 0) _ H0.out Try.underlying76 rfl (by rw [ivs_size, ha]; exact size76) ?_
    | refine wpList_load_row rfl _ _ rfl (w.heap.size + 1) rfl 76 (ivs .u16 b) (0, 0) _ H1.out Try.underlying76 rfl (by rw [ivs_size, hb]; exact size76) ?_
    | (go_at_call 125; refine (HM.out _).mono ?_; rintro e w2 ⟨rfl, hb2⟩; have H22 := Lib.hid (H2.out.below hb2 H2.out.lt); have HB2 := Lib.hid (HB.out.trans (hb2.mono (by simp only [size_alloc]; omega))); clear hb2)
    | refine wpList_store_row rfl _ _ _ rfl (w.heap.size + 1 + 1) (ivs .u16 c) rfl rfl 76 _ H22.out (by rw [ivs_size, HC.out]; exact size76) (by rw [ivs_size, ivs_size, HC.out]; rfl) ivs_one ?_)
  exact bodyPost_ret (results_cell_row rfl _ _ (w.heap.size + 1 + 1) 76 (ivs .u16 c) (0, 0) _ rfl (H22.out.row _) Try.underlying76 rfl (by rw [ivs_size, HC.out]; exact size76)) rfl ⟨rfl, below_setRow HB2.out (by omega) _⟩
end Go.Proofs.Ytmagaapdijapiaa
