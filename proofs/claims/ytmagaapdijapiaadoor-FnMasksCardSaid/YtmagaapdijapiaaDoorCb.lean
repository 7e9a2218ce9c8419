/- The cells of a mask: the program's walk. -/
import Derived.Test.YtmagaapdijapiaaDoorRows
import Derived.Test.YtmagaapdijapiaaDoorCa
import Derived.Test.YtmagaapdijapiaaDoorEqA
namespace Go.Proofs.YtmagaapdijapiaaDoor
open Go.ChangeShapes Go.WideShapes Go.ChangeAt Go.RowKit
theorem U16_info : (Tryd.prog.info? 42).map (fun i => (i.zero, i.size, i.bytes)) = some (some (.int .u16 0), 1, 2) := by kernel_rfl
set_option maxRecDepth 20000 in
set_option maxHeartbeats 3200000 in
theorem iCellsOf_any (M : List Int) (hM : M.length = 16) (h16 : is16 M) (w : World) :
    Calls Tryd.prog 21 #[.agg (ivs .u16 M)] w (GivesCells (mCells M) w) := by
  obtain ⟨i0, hi, hz0, hz1, hzb⟩ := info_parts Pair_info
  have h0 : Blk (w.alloc (.cells (ivs .u16 M) 44)) w.heap.size 44 (ivs .u16 M) := Blk.newAt rfl rfl
  have H0 := Lib.hid h0
  clear h0
  go_enter Tryd.func21, Tryd.ntmps21
  go_wp2_with (refine wpList_load_row rfl _ _ rfl w.heap.size rfl 44 (ivs .u16 M) (0, 0) _ (H0.out.alloc _) Tryd.underlying44 rfl (by rw [ivs_size, hM]; exact size44) ?_)
  go_loopw [3, 9] (fun v i wr => ∃ y : Nat, y ≤ 16 ∧ i = .int .i64 y ∧ (∃ g cc, v = .slice (some ⟨g, 0, none⟩) (cellsTo M (16 * y)).length cc) ∧ wr.ownsRow (w.heap.size + 1) 35 2 v (cellsTo M (16 * y)).length (pvs (cellsTo M (16 * y))) ∧ Blk wr w.heap.size 44 (ivs .u16 M) ∧ w.heap.size + 1 ≤ wr.heap.size ∧ Below w.heap.size w wr) (fun _ i _ => 16 - (intOf i).toNat)
  case atStart =>
    refine ⟨0, by omega, rfl, ⟨_, _, rfl⟩, ?_, H0.out.alloc _, by simp, ((Below.refl _ _).alloc (Nat.le_refl _) _).alloc (by simp) _⟩
    have := World.ownsRow_lit (e := 35) (base := w.heap.size + 1) (size := 2) (w.alloc (.cells (ivs .u16 M) 44)) #[] 0 (by simp) (by unfold maxLen; omega) rfl
    rw [size_alloc] at this
    exact this
  case round =>
    clear H0
    obtain ⟨y, hy, rfl, ⟨g, cc, rfl⟩, ho, h0, hz, hb⟩ := hrel
    obtain ⟨wy, rfl⟩ : ∃ wy : World, wy = wr := ⟨_, rfl⟩
    by_cases hlt : y < 16
    · have hlt' : (y : Int) < 16 := by omega
      have HO := Lib.hid ho
      have H0 := Lib.hid h0
      have HB := Lib.hid hb
      obtain ⟨iu, hiu, hu0, hu1, hu2⟩ := info_parts U16_info
      have hix : ∀ W : World, (Instr.index 44 (.agg (ivs .u16 M)) (.int .i64 (y : Nat))).run Tryd.prog W = .ok (.int .u16 (M[y]'(by omega))) W := fun W => run_index_ivs W Tryd.underlying44 Tryd.underlying42 hiu (by kernel_rfl) hM hlt
      have hvd : M.getD y 0 = M[y]'(by omega) := by rw [List.getD_eq_getElem?_getD, List.getElem?_eq_getElem (by omega)]; rfl
      obtain ⟨v0, v1⟩ := h16.getD y
      rw [hvd] at v0 v1
      obtain ⟨vy, hvy⟩ : ∃ vy, vy = M[y]'(by omega) := ⟨_, rfl⟩
      rw [← hvy] at hix hvd v0 v1
      have HVD := Lib.hid hvd
      clear ho h0 hb hiu hu0 hu1 hu2 hvy hvd
      go_wp2
      go_loopw [3, 13] (fun v i wr => ∃ x : Nat, x ≤ 16 ∧ i = .int .i64 x ∧ (∃ g cc, v = .slice (some ⟨g, 0, none⟩) (cellsTo M (16 * y + x)).length cc) ∧ wr.ownsRow (w.heap.size + 1) 35 2 v (cellsTo M (16 * y + x)).length (pvs (cellsTo M (16 * y + x))) ∧ Blk wr w.heap.size 44 (ivs .u16 M) ∧ w.heap.size + 1 ≤ wr.heap.size ∧ Below w.heap.size w wr) (fun _ i _ => 16 - (intOf i).toNat)
      case atStart => exact ⟨0, by omega, rfl, ⟨_, _, rfl⟩, HO.out, H0.out, hz, HB.out⟩
      case round =>
        clear HO H0 HB
        obtain ⟨x, hx, rfl, ⟨g, cc, rfl⟩, ho, h0, hz, hb⟩ := hrel
        have hlen := cellsTo_length M (16 * y + x)
        by_cases hx16 : x < 16
        · have hx' : (x : Int) < 16 := by omega
          have hx0 : (0 : Int) ≤ x := by omega
          have hbe : (bits .and .u16 (vy / 2 ^ x) 1 == 1) = bitB M x y := by rw [bit_eq v0 v1, bitB, HVD.out]
          have hyes := fun h => cellsTo_yes (M := M) (y := y) hx16 h
          have hno := fun h => cellsTo_no (M := M) (y := y) hx16 h
          have HO := Lib.hid ho
          have H0 := Lib.hid h0
          have HB := Lib.hid hb
          obtain ⟨L, hL⟩ : ∃ L, L = cellsTo M (16 * y + x) := ⟨_, rfl⟩
          rw [← hL] at HO hlen hyes hno ⊢
          have hLl : L.length ≤ 256 := by omega
          have hLrow := Lib.hid hL
          clear ho h0 hb hL hlen
          cases hbt : bitB M x y
          · have HN := Lib.hid (hno hbt)
            rw [hbt] at hbe
            clear hbt hyes hno
            go_wp2
            exact ⟨⟨x + 1, by omega, by go_num, ⟨g, cc, by rw [show 16 * y + (x + 1) = 16 * y + x + 1 from rfl, HN.out]⟩, by rw [show 16 * y + (x + 1) = 16 * y + x + 1 from rfl, HN.out]; exact HO.out, H0.out, by omega, HB.out⟩, by simp [intOf]; omega⟩
          · have HY := Lib.hid (hyes hbt)
            rw [hbt] at hbe
            clear hbt hyes hno
            have hrw : Rows_ 2 L := by rw [hLrow.out]; exact cellsTo_rows _ _
            have hpl : (pvs L).length = L.length * 2 := by rw [pvs, List.length_map, flat_length hrw]
            clear hrw hLrow
            have HN2 := Lib.hid (pair_news wr x y)
            go_wp2_with (at_builtin; refine wpList_append_own _ rfl _ _ 26 rfl (w.heap.size + 1) 35 i0 _ 2 8 Tryd.underlying26 hi hz0 hz1 hzb rfl (by decide) (.slice (some ⟨g, 0, none⟩) L.length cc) L.length _ rfl (HO.out.alloc _) ⟨wr.heap.size, 0, none⟩ 1 1 (pvs [[(x : Int), (y : Int)]]) rfl rfl HN2.out pvs_one (by unfold maxLen; omega) (by omega) (by rw [size_alloc]; omega) ?_; intro v' w3 hown' hgrow _; rw [← pvs_append] at hown'; have HOWN := Lib.hid hown'; have HGR := Lib.hid hgrow; clear hown' hgrow)
            obtain ⟨A1, c1', hve, hOO⟩ := Own.of_row HOWN.out
            obtain ⟨g2, cur1, hA1, _⟩ := hOO.at_ (by omega)
            subst hve hA1
            have hne := fun j e => (HO.out.lt j e).1
            have hle : (cellsTo M (16 * y + (x + 1))).length = L.length + 1 := by rw [show 16 * y + (x + 1) = 16 * y + x + 1 from rfl, HY.out]; simp
            refine ⟨⟨x + 1, by omega, by go_num, ⟨g2, c1', by rw [hle]⟩, ?_, (H0.out.alloc _).grown HGR.out (fun e => by have := hne _ e.symm; omega), by have := HGR.out.size; rw [size_alloc] at this; omega, (HB.out.alloc (by omega) _).grown HGR.out (by rw [size_alloc]; omega) (fun j e => by have := hne j e; omega)⟩, by simp [intOf]; omega⟩
            rw [hle, show 16 * y + (x + 1) = 16 * y + x + 1 from rfl, HY.out]
            exact HOWN.out
        · obtain rfl : x = 16 := by omega
          have HO := Lib.hid ho
          have H0 := Lib.hid h0
          have HB := Lib.hid hb
          clear ho h0 hb
          go_wp2
          exact ⟨⟨y + 1, by omega, by go_num, ⟨g, cc, rfl⟩, HO.out, H0.out, hz, HB.out⟩, by simp [intOf]; omega⟩
    · obtain rfl : y = 16 := by omega
      obtain ⟨A1, c1', hve, hO⟩ := Own.of_row ho
      cases hve
      have HO := Lib.hid hO
      have HB := Lib.hid hb
      clear ho h0 hb hO
      go_wp2
      go_ret
      exact ⟨g, cc, rfl, HO.out.less (by omega), HB.out⟩
end Go.Proofs.YtmagaapdijapiaaDoor
