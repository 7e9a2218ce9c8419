/- Yd, Gm, Gp, Ej, El, Lq, Sj0, Pf in one text. -/
import Derived.Test.YtmagaapdijapiaaDoorRows
import Derived.Test.YtmagaapdijapiaaDoorGx2
import Derived.Test.YtmagaapdijapiaaDoorBm
import Derived.Deep.RegionWith
import Derived.Deep.CutRange
import Derived.Deep.CutBlock
import Derived.Test.YtmagaapdijapiaaDoorGx1
import Derived.Test.YtmagaapdijapiaaDoorAd
import Derived.Test.YtmagaapdijapiaaDoorLd
import Derived.Test.YtmagaapdijapiaaDoorEi
import Derived.Lib.LaidTab
import Derived.Test.YtmagaapdijapiaaDoorPu
import Derived.Test.YtmagaapdijapiaaDoorCo
import Derived.Test.YtmagaapdijapiaaDoorPw
namespace Go.Proofs.YtmagaapdijapiaaDoor
open Go.ChangeShapes Go.WideShapes Go.ChangeAt Go.RowKit
def GivesPk (D : List Int) (w : World) (e : Ending) (w' : World) : Prop :=
  ∃ g c, e = .returned (.slice (some ⟨g, 0, none⟩) D.length c) ∧ Own w' w.heap.size w'.heap.size 5 1 (some ⟨g, 0, none⟩) D.length c (D.map (.int .u8)) ∧ Below w.heap.size w w'
theorem pm_same {M : List Int} {k : Nat} {O : List Int} {f : Nat} {s : Bool} (h : pmTo M k = (O, f, s)) (hb : bitK M k = s) : pmTo M (k + 1) = (O, f, s) := by rw [pmTo_same (by rw [h]; exact hb), h]
theorem pm_turn {M : List Int} {k r : Nat} {O : List Int} {f : Nat} {s : Bool} (h : pmTo M k = (O, f, s)) (hr : f + r = k) (hb : ¬ bitK M k = s) : pmTo M (k + 1) = (O ++ [(r : Int)], k, !s) := by
  rw [pmTo_turn (by rw [h]; exact hb), h]
  show (O ++ [((k - f : Nat) : Int)], k, !s) = _
  rw [show k - f = r by omega]
theorem pm_len {M : List Int} {k : Nat} {O : List Int} {f : Nat} {s : Bool} (h : pmTo M k = (O, f, s)) : O.length ≤ k := by
  have := pmTo_length M k
  rw [h] at this
  exact this
end Go.Proofs.YtmagaapdijapiaaDoor
namespace Go.Proofs.YtmagaapdijapiaaDoor
open Go.ChangeShapes Go.WideShapes Go.ChangeAt Go.RowKit
theorem only_setNew {a w : World} {row : Option Nat} (h : a.grownBy w row) {p : Addr} (hp : a.heap.size ≤ p.block) (u : Value) : a.grownBy (w.setCell p u) row :=
  ⟨h.os, h.tape, h.output, by simpa [World.setCell] using h.size, fun i hi hne => (Below.heap_setCell w p u i (by omega)).trans (h.block i hi hne)⟩
theorem Src.drew {W : World} {g : Nat} {A : Option Addr} {n c k : Nat} (h : Src W g A n c k) : Src W.drew g A n c k := by
  obtain ⟨s, h0, h1, hb⟩ := h
  exact ⟨s, h0, h1, hb.drew⟩
theorem Src.other {W W' : World} {g : Nat} {A : Option Addr} {n c k : Nat} (h : Src W g A n c k) (hb : W'.heap[g]? = W.heap[g]?) : Src W' g A n c k := by
  obtain ⟨s, h0, h1, hs⟩ := h
  exact ⟨s, h0, h1, hb.trans hs⟩
set_option maxHeartbeats 1600000 in
theorem pickB_any (g : Nat) (A : Option Addr) (n c : Nat) (l : List Int) (hl : l.length = n) (h255 : is255 l) (k : Nat) (hk : k < 900000000) (hn : n ≤ 1000000000) (w : World) (hs : Src w g A n c k) (hR : Rd w g 1 A n (l.map (.int .u8))) :
    Calls Tryd.prog 33 #[.pointer (some ⟨g, 0, none⟩), .int .i64 65536] w fun e w' => (∃ v : Int, 0 ≤ v ∧ v < 65536 ∧ e = .returned (.int .i64 v)) ∧ Gone w g A n c k 2 w' := by
  have hx := next_any g A n c l hl h255 k (by omega) hn w hs hR
  have HX := Lib.hid hx
  have HR := Lib.hid hR
  have hgl := hs.lt
  clear hx hs hR
  go_enter Tryd.func33, Tryd.ntmps33
  go_wp2_with fail
  refine HX.out.mono ?_
  rintro e w2 ⟨⟨v, hv0, hv1, rfl⟩, hs2, hg2⟩
  have hz2 := hg2.size
  have hR2 := HR.out.grown hg2 (by omega) (fun g' e => by cases e; omega)
  have HY := Lib.hid (next_any g A n c l hl h255 (k + 1) (by omega) hn w2 hs2 hR2)
  have HG2 := Lib.hid hg2
  clear hs2 hg2 hR2 HX HR
  go_wp2_with fail
  refine HY.out.mono ?_
  rintro e w3 ⟨⟨y, hy0, hy1, rfl⟩, hs3, hg3⟩
  have HS3 := Lib.hid hs3
  have HG3 := Lib.hid hg3
  clear hs3 hg3 HY
  go_wp2
  go_ret
  exact ⟨⟨_, Int.emod_nonneg _ (by omega), Int.emod_lt_of_pos _ (by omega), rfl⟩, ⟨⟨k + 2, by omega, HS3.out⟩, HG2.out.trans HG3.out⟩⟩
/-- the masks' blocks and the source, as they stand while a mask is made -/
structure MkR (w : World) (g : Nat) (A : Option Addr) (n c : Nat) (M : List Int) (k : Nat) (wx : World) : Prop where
  len : M.length = 16
  m16 : is16 M
  res : Blk wx w.heap.size 44 (ivs .u16 zr16)
  blk : Blk wx (w.heap.size + 1) 44 (ivs .u16 M)
  src : Src wx g A n c k
  gro : w.grownBy wx (some g)
  lt : g < w.heap.size
section
variable {w wx w2 : World} {g n c k : Nat} {A : Option Addr} {M : List Int}
theorem MkR.drew (h : MkR w g A n c M k wx) : MkR w g A n c M k wx.drew := ⟨h.len, h.m16, h.res.drew, h.blk.drew, h.src.drew, only_drew h.gro, h.lt⟩
theorem MkR.gone (h : MkR w g A n c M k wx) {d : Nat} (h2 : Gone wx g A n c k d w2) : ∃ k2, k2 ≤ k + d ∧ MkR w g A n c M k2 w2 := by
  obtain ⟨⟨k2, hk2, hs2⟩, hg2⟩ := h2
  have := h.lt
  exact ⟨k2, hk2, h.len, h.m16, h.res.grown hg2 (fun e => by cases e; omega), h.blk.grown hg2 (fun e => by cases e; omega), hs2, h.gro.trans hg2, h.lt⟩
theorem MkR.set (h : MkR w g A n c M k wx) (v : Nat) {x : Int} (h0 : 0 ≤ x) (h1 : x < 65536) : MkR w g A n c (M.set v x) k (wx.setCell ⟨w.heap.size + 1, v, none⟩ (.int .u16 x)) := by
  have := h.lt
  refine ⟨by rw [List.length_set]; exact h.len, fun y hy => ?_, h.res.far (show w.heap.size ≠ w.heap.size + 1 by omega) _, h.blk.setI _ _, ?_, only_setNew h.gro (show w.heap.size ≤ w.heap.size + 1 by omega) _, h.lt⟩
  · rcases List.mem_or_eq_of_mem_set hy with hy | rfl
    · exact h.m16 y hy
    · exact ⟨h0, h1⟩
  · exact h.src.other (Below.heap_setCell _ _ _ _ (show g ≠ w.heap.size + 1 by omega))
theorem MkR.cell (h : MkR w g A n c M k wx) {v : Nat} (hv : v < 16) : wx.cell? ⟨w.heap.size + 1, v, none⟩ = some (.int .u16 (M.getD v 0)) := h.blk.getAtG (i := v) (by rw [h.len]; exact hv)
theorem MkR.free (h : MkR w g A n c M k wx) (v : Nat) : wx.frozen? ⟨w.heap.size + 1, v, none⟩ = false := h.blk.frozen v
end
theorem or16 (a b : Int) : 0 ≤ bits .or .u16 a b ∧ bits .or .u16 a b < 65536 := wrap16 _
set_option maxRecDepth 20000 in
set_option maxHeartbeats 6400000 in
theorem l07Mask_any (g : Nat) (A : Option Addr) (n c : Nat) (l : List Int) (hl : l.length = n) (h255 : is255 l) (k : Nat) (hk : k < 700000000) (hn : n ≤ 1000000000) (w : World) (hs : Src w g A n c k) (hR : Rd w g 1 A n (l.map (.int .u8))) :
    Calls Tryd.prog 35 #[.pointer (some ⟨g, 0, none⟩)] w fun e w' => (∃ M : List Int, M.length = 16 ∧ is16 M ∧ e = .returned (.agg (ivs .u16 M))) ∧ Gone w g A n c k 40 w' := by
  have hgl := hs.lt
  have HP : Hid (∀ (m : Int), 2 ≤ m → m ≤ 200 → ∀ (M : List Int) (k' : Nat) (W : World), k' ≤ k + 40 → MkR w g A n c M k' W → Calls Tryd.prog 33 #[.pointer (some ⟨g, 0, none⟩), .int .i64 m] W fun e w' => (∃ v : Int, 0 ≤ v ∧ v < m ∧ e = .returned (.int .i64 v)) ∧ Gone W g A n c k' 1 w') := Lib.hid (fun m h1 h2 _ k' W hk' h' => pick_any m h1 h2 g A n c l hl h255 k' (by omega) hn W h'.src (hR.grown h'.gro (by omega) (fun g' e => by cases e; omega)))
  have HB : Hid (∀ (M : List Int) (k' : Nat) (W : World), k' ≤ k + 40 → MkR w g A n c M k' W → Calls Tryd.prog 33 #[.pointer (some ⟨g, 0, none⟩), .int .i64 65536] W fun e w' => (∃ v : Int, 0 ≤ v ∧ v < 65536 ∧ e = .returned (.int .i64 v)) ∧ Gone W g A n c k' 2 w') := Lib.hid (fun _ k' W hk' h' => pickB_any g A n c l hl h255 k' (by omega) hn W h'.src (hR.grown h'.gro (by omega) (fun g' e => by cases e; omega)))
  have HO : Hid (∀ (M : List Int) (k' : Nat) (W : World), k' ≤ k + 40 → MkR w g A n c M k' W → Calls Tryd.prog 66 #[.pointer (some ⟨g, 0, none⟩), .int .i64 3] W fun e w' => (∃ b : Bool, e = .returned (.bool b)) ∧ Gone W g A n c k' 1 w') := Lib.hid (fun _ k' W hk' h' => one_any 3 (by decide) (by decide) g A n c l hl h255 k' (by omega) hn W h'.src (hR.grown h'.gro (by omega) (fun g' e => by cases e; omega)))
  have h0 : MkR w g A n c zr16 k ((w.alloc (.cells (ivs .u16 zr16) 44)).alloc (.cells (ivs .u16 zr16) 44)) :=
    ⟨rfl, zr16_16, (Blk.newAt rfl rfl).alloc _, Blk.newAt (by simp) rfl, hs.other (((Below.heap_alloc _ _ _ (by simp; omega)).trans (Below.heap_alloc _ _ _ hgl))), only_alloc (only_alloc (World.grownBy.refl _ _) _) _, hgl⟩
  have H0 := Lib.hid h0
  clear h0 hR hs
  go_enter Tryd.func35, Tryd.ntmps35
  go_upto_block 0 with (go_at_call 33; refine (HP.out 4 (by decide) (by decide) _ _ _ (by omega) H0.out).mono ?_; rintro e w2 ⟨⟨r, hr0, hr1, rfl⟩, hg2⟩; obtain ⟨k2, hk2, h2⟩ := H0.out.gone hg2; have H2 := Lib.hid h2; clear h2 hg2)
  clear H0
  go_cut [4, 5, 6, 7, 8] from 12 to 65 (fun _ _ _ _ _ wx => ∃ (M : List Int) (k' : Nat), k' ≤ k + 40 ∧ Hid (MkR w g A n c M k' wx))
  case first =>
    have hcs : r = 0 ∨ r = 1 ∨ r = 2 ∨ r = 3 := by omega
    rcases hcs with rfl | rfl | rfl | rfl
    · go_wp2_with (go_at_call 33; refine (HP.out 6 (by decide) (by decide) _ _ _ (by omega) H2.out).mono ?_; rintro e w3 ⟨⟨q, hq0, hq1, rfl⟩, hg3⟩; obtain ⟨k3, hk3, h3⟩ := H2.out.gone hg3; have H3 := Lib.hid h3; clear h3 hg3)
      obtain ⟨q', rfl⟩ := Int.eq_ofNat_of_zero_le hq0
      clear H2 hq0
      go_loopw [4] (fun v wr => ∃ (j : Nat) (M : List Int) (k' : Nat), j ≤ 5 ∧ v = .int .i64 j ∧ k' + 2 * j ≤ k + 12 ∧ Hid (MkR w g A n c M k' wr)) (fun v _ => (intOf v).toNat)
      case atStart => exact ⟨q', zr16, k3, by omega, rfl, by omega, H3⟩
      case round =>
        clear H3
        obtain ⟨j, M, k', hj, rfl, hkk, HM⟩ := hrel
        by_cases hj0 : 0 < j
        · have hji : (0 : Int) < j := by omega
          go_upto_block 2 with fail
          go_cut [4] from 20 to 29 (fun v wx => v = .int .i64 j ∧ ∃ (M : List Int) (k2 : Nat), k2 ≤ k' + 2 ∧ Hid (MkR w g A n c M k2 wx))
          case first =>
            go_wp2_with fail
            go_region_with (first
              | (go_at_call 33; refine (HP.out 16 (by decide) (by decide) M k5 w5 (by omega) H5.out).mono ?_; rintro e w6 ⟨⟨u, hu0, hu1, rfl⟩, hg6⟩; obtain ⟨k6, hk6, h6⟩ := H5.out.gone hg6; obtain ⟨u', rfl⟩ := Int.eq_ofNat_of_zero_le hu0; have c6 := h6.cell (v := v') (by omega); have f6 := h6.free v'; have hwu : IntKind.u64.wrap (u' : Int) = u' := (by have h : IntKind.u64.wrap (u' : Int) = (u' : Int) % 18446744073709551616 := rfl; omega); have H6 := Lib.hid h6; clear h6 hg6)
              | (go_at_call 33; refine (HP.out 16 (by decide) (by decide) M k' wr.drew (by omega) HM.out.drew).mono ?_; rintro e w5 ⟨⟨v, hv0, hv1, rfl⟩, hg5⟩; obtain ⟨k5, hk5, h5⟩ := HM.out.drew.gone hg5; obtain ⟨v', rfl⟩ := Int.eq_ofNat_of_zero_le hv0; have c5 := h5.cell (v := v') (by omega); have f5 := h5.free v'; have H5 := Lib.hid h5; clear h5 hg5))
            all_goals
              go_wp2_with fail
              go_meet
              exact ⟨rfl, _, k6, by omega, Lib.hid (H6.out.set v' (or16 _ _).1 (or16 _ _).2)⟩
          case rest =>
            obtain ⟨rfl, M2, k2, hk2', HM2⟩ := hcut
            go_wp2
            exact ⟨⟨j - 1, M2, k2, by omega, by go_num, by omega, HM2⟩, by simp [intOf]; omega⟩
        · obtain rfl : j = 0 := by omega
          go_wp2_with fail
          go_meet
          exact ⟨M, k', by omega, HM⟩
    · go_wp2_with fail
      go_loopw [5] (fun v wr => ∃ (y : Nat) (M : List Int) (k' : Nat), y ≤ 16 ∧ v = .int .i64 y ∧ k' ≤ k + 1 + 2 * y ∧ Hid (MkR w g A n c M k' wr)) (fun v _ => 16 - (intOf v).toNat)
      case atStart => exact ⟨0, zr16, k2, by omega, rfl, by omega, H2⟩
      case round =>
        clear H2
        obtain ⟨y, M, k', hy, rfl, hkk, HM⟩ := hrel
        by_cases hy0 : y < 16
        · have hyi : (y : Int) < 16 := by omega
          go_wp2_with (go_at_call 33; refine (HB.out M k' _ (by omega) HM.out).mono ?_; rintro e w5 ⟨⟨v, hv0, hv1, rfl⟩, hg5⟩; obtain ⟨k5, hk5, h5⟩ := HM.out.gone hg5; have c5 := h5.cell (v := y) (by omega); have f5 := h5.free y; have hwv : IntKind.u16.wrap v = v := (by rw [IntKind.wrap_u16]; omega); have H5 := Lib.hid h5; clear h5 hg5)
          exact ⟨⟨y + 1, _, k5, by omega, by go_num, by omega, Lib.hid (H5.out.set y hv0 hv1)⟩, by simp [intOf]; omega⟩
        · obtain rfl : y = 16 := by omega
          go_wp2_with fail
          go_meet
          exact ⟨M, k', by omega, HM⟩
    · go_wp2_with (first
        | (go_at_call 33; refine (HP.out 8 (by decide) (by decide) _ k3 w3 (by omega) H3.out).mono ?_; rintro e w4 ⟨⟨y, hy0, hy1, rfl⟩, hg4⟩; obtain ⟨k4, hk4, h4⟩ := H3.out.gone hg4; have H4 := Lib.hid h4; clear h4 hg4)
        | (go_at_call 33; refine (HP.out 10 (by decide) (by decide) _ k2 w2 (by omega) H2.out).mono ?_; rintro e w3 ⟨⟨x, hx0, hx1, rfl⟩, hg3⟩; obtain ⟨k3, hk3, h3⟩ := H2.out.gone hg3; have hwx : IntKind.u64.wrap x = x := (by have h : IntKind.u64.wrap x = x % 18446744073709551616 := rfl; omega); have H3 := Lib.hid h3; clear h3 hg3))
      obtain ⟨x', rfl⟩ := Int.eq_ofNat_of_zero_le hx0
      obtain ⟨y', rfl⟩ := Int.eq_ofNat_of_zero_le hy0
      clear H2 H3
      go_loopw [7] (fun v wr => ∃ (y : Nat) (M : List Int), y ≤ 16 ∧ v = .int .i64 y ∧ Hid (MkR w g A n c M k4 wr)) (fun v _ => 16 - (intOf v).toNat)
      case atStart => exact ⟨y', zr16, by omega, rfl, H4⟩
      case round =>
        clear H4
        obtain ⟨y, M, hy, rfl, HM⟩ := hrel
        by_cases hyl : y < 16
        · have hyi : (y : Int) < 16 := by omega
          have c5 := HM.out.cell (v := y) hyl
          have f5 := HM.out.free y
          go_wp2
          exact ⟨⟨y + 1, _, by omega, by go_num, Lib.hid (HM.out.set y (wrap16 _).1 (wrap16 _).2)⟩, by simp [intOf]; omega⟩
        · obtain rfl : y = 16 := by omega
          go_wp2_with fail
          go_meet
          exact ⟨M, k4, by omega, HM⟩
    · go_wp2_with (go_at_call 66; refine (HO.out _ k2 w2 (by omega) H2.out).mono ?_; rintro e w3 ⟨⟨b, rfl⟩, hg3⟩; obtain ⟨k3, hk3, h3⟩ := H2.out.gone hg3; have H3 := Lib.hid h3; clear h3 hg3; cases b)
      · go_wp2_with fail
        go_meet
        exact ⟨_, k3, by omega, H3⟩
      · go_wp2_with fail
        clear H2
        go_loopw [8] (fun v wr => ∃ (y : Nat) (M : List Int), y ≤ 16 ∧ v = .int .i64 y ∧ Hid (MkR w g A n c M k3 wr)) (fun v _ => 16 - (intOf v).toNat)
        case atStart => exact ⟨0, zr16, by omega, rfl, H3⟩
        case round =>
          clear H3
          obtain ⟨y, M, hy, rfl, HM⟩ := hrel
          by_cases hyl : y < 16
          · have hyi : (y : Int) < 16 := by omega
            have c5 := HM.out.cell (v := y) hyl
            have f5 := HM.out.free y
            go_wp2
            exact ⟨⟨y + 1, _, by omega, by go_num, Lib.hid (HM.out.set y (by decide) (by decide))⟩, by simp [intOf]; omega⟩
          · obtain rfl : y = 16 := by omega
            go_wp2_with fail
            go_meet
            exact ⟨M, k3, by omega, HM⟩
  case rest =>
    obtain ⟨M, k', hk', HM⟩ := hcut
    have hM := HM.out.len
    go_wp2_with (first
      | refine wpList_load_row rfl _ _ rfl (w.heap.size + 1) rfl 44 (ivs .u16 M) (0, 0) _ HM.out.blk Tryd.underlying44 rfl (by rw [ivs_size, hM]; exact size44) ?_
      | refine wpList_store_row rfl _ _ _ rfl w.heap.size (ivs .u16 M) rfl rfl 44 (ivs .u16 zr16) HM.out.res (by rw [ivs_size, hM]; exact size44) (by first | (rw [ivs_size, ivs_size, hM]; rfl) | rw [ivs_size, ivs_size, hM]) ivs_one ?_)
    refine bodyPost_ret (results_cell_row rfl _ _ w.heap.size 44 (ivs .u16 M) (0, 0) _ rfl (HM.out.res.row _) Tryd.underlying44 rfl (by rw [ivs_size, hM]; exact size44)) rfl ⟨⟨M, hM, HM.out.m16, rfl⟩, ⟨k', by omega, HM.out.src.other ?_⟩, ?_⟩
    · exact setRow_other _ _ _ _ (by have := HM.out.lt; omega)
    · exact ⟨HM.out.gro.os, HM.out.gro.tape, HM.out.gro.output, by rw [size_setRow]; exact HM.out.gro.size, fun i hi hne => (setRow_other _ _ _ _ (by omega)).trans (HM.out.gro.block i hi hne)⟩
end Go.Proofs.YtmagaapdijapiaaDoor
namespace Go.Proofs.YtmagaapdijapiaaDoor
open Go.ChangeShapes Go.WideShapes Go.ChangeAt Go.RowKit
theorem l00FromY_any (A : Option Addr) (n c : Nat) (w : World) :
    Calls Tryd.prog 32 #[.slice A n c] w fun e w' => e = .returned (.pointer (some ⟨w.heap.size, 0, none⟩)) ∧ Src w' w.heap.size A n c 0 ∧ Below w.heap.size w w' := by
  go_enter Tryd.func32, Tryd.ntmps32
  go_wp2
  go_ret
  exact ⟨rfl, ⟨0, by omega, by omega, Blk.newAt rfl rfl⟩, (Below.refl _ _).alloc (Nat.le_refl _) _⟩
theorem near_added {l l' : List Bl} {X Y : Int} {M : List Int} (hl : Small l) (hf : l.length ≤ 2) (hX : -1 ≤ X ∧ X ≤ 1) (hY : -1 ≤ Y ∧ Y ≤ 1) (h : Added l [X, Y] M l') : Small l' ∧ l'.length ≤ l.length + 1 := by
  obtain ⟨h1, h2, h3⟩ := h
  refine ⟨⟨h1, by omega, fun b hb => ?_⟩, h2⟩
  have hm := maskAt_of_mem h1.apart hb
  rw [h3] at hm
  by_cases e : b.1 = [X, Y]
  · rw [e]
    exact ⟨hX, hY⟩
  · rw [if_neg e] at hm
    have hne : maskAt l b.1 ≠ zr16 := by rw [hm]; exact h1.noVoid b hb
    have hmem := mem_of_maskAt hne
    have := hl.near _ hmem
    exact this
section
attribute [local go_sem ↓] exec_ldCorner
attribute [local go_sem] run_ldCorner
set_option maxRecDepth 20000 in
set_option maxHeartbeats 6400000 in
theorem A2Picture_any (A : Option Addr) (n c : Nat) (l : List Int) (hl : l.length = n) (h255 : is255 l) (hn : n ≤ 1000000) (w : World) (hR : Rd w w.heap.size 1 A n (l.map (.int .u8))) :
    Calls Tryd.prog 6 #[.slice A n c] w fun e w' => ∃ (P : List Bl) (A' : Option Addr) (c' : Nat), Small P ∧ e = .returned (.slice A' P.length c') ∧ Own w' w.heap.size w'.heap.size 95 18 A' P.length c' (bcs P) ∧ Below w.heap.size w w' := by
  have HR := Lib.hid hR
  have HPK : Hid (∀ (m : Int), 2 ≤ m → m ≤ 200 → ∀ (k : Nat) (W : World), k ≤ 1000 → Src W w.heap.size A n c k → Below w.heap.size w W → Calls Tryd.prog 33 #[.pointer (some ⟨w.heap.size, 0, none⟩), .int .i64 m] W fun e w' => (∃ v : Int, 0 ≤ v ∧ v < m ∧ e = .returned (.int .i64 v)) ∧ Gone W w.heap.size A n c k 1 w') := Lib.hid (fun m h1 h2 k W hk hs hb => pick_any m h1 h2 w.heap.size A n c l hl h255 k (by omega) (by omega) W hs (hR.below hb (Nat.le_refl _)))
  have HMK : Hid (∀ (k : Nat) (W : World), k ≤ 1000 → Src W w.heap.size A n c k → Below w.heap.size w W → Calls Tryd.prog 35 #[.pointer (some ⟨w.heap.size, 0, none⟩)] W fun e w' => (∃ M : List Int, M.length = 16 ∧ is16 M ∧ e = .returned (.agg (ivs .u16 M))) ∧ Gone W w.heap.size A n c k 40 w') := Lib.hid (fun k W hk hs hb => l07Mask_any w.heap.size A n c l hl h255 k (by omega) (by omega) W hs (hR.below hb (Nat.le_refl _)))
  clear hR hl h255
  go_enter Tryd.func6, Tryd.ntmps6
  go_wp2_with (first
    | (go_at_call 32; refine (l00FromY_any A n c w).mono ?_; rintro e w1 ⟨rfl, hs1, hb1⟩; have hz1 := hs1.lt; have HS1 := Lib.hid (hs1.other (W' := w1.alloc (.cells #[] 95)) (Below.heap_alloc _ _ _ hs1.lt)); have B1 := Lib.hid (hb1.alloc (show w.heap.size ≤ w1.heap.size by omega) (.cells #[] 95)); have O1 : Hid (Own (w1.alloc (.cells #[] 95)) (w.heap.size + 1) (w1.alloc (.cells #[] 95)).heap.size 95 18 (some ⟨w1.heap.size, 0, none⟩) 0 0 (bcs [])) := Lib.hid ⟨rfl, .inr ⟨w1.heap.size, #[], rfl, by omega, by rw [size_alloc]; omega, Blk.newAt rfl rfl, Nat.le_refl _, by unfold maxLen; omega, rfl, rfl⟩⟩; clear hs1 hb1)
    | (go_at_call 33; refine (HPK.out 4 (by decide) (by decide) 0 _ (by omega) HS1.out B1.out).mono ?_; rintro e w2 ⟨⟨q, hq0, hq1, rfl⟩, ⟨⟨k2, hk2, hs2⟩, hg2⟩⟩; have HS2 := Lib.hid hs2; have HG2 := Lib.hid hg2; clear hs2 hg2))
  obtain ⟨q', rfl⟩ := Int.eq_ofNat_of_zero_le hq0
  have hzz := HG2.out.size
  have B2 : Hid (Below w.heap.size w w2) := Lib.hid (B1.out.grown HG2.out (by rw [size_alloc]; omega) (fun g e => by cases e; omega))
  have O2 : Hid (Own w2 (w.heap.size + 1) w2.heap.size 95 18 (some ⟨w1.heap.size, 0, none⟩) 0 0 (bcs [])) := Lib.hid ((O1.out.grown HG2.out (fun g e => by cases e; omega)).more hzz)
  clear HS1 B1 O1 HG2 hzz
  go_loopw [4, 5] (fun v i wr => ∃ (j k : Nat) (P : List Bl) (A' : Option Addr) (m c' : Nat), j ≤ 3 ∧ i = .int .i64 j ∧ v = .slice A' m c' ∧ m = P.length ∧ P.length + j ≤ 3 ∧ k + 50 * j ≤ 200 ∧ Hid (Small P) ∧ Hid (Own wr (w.heap.size + 1) wr.heap.size 95 18 A' m c' (bcs P)) ∧ Hid (Src wr w.heap.size A n c k) ∧ Hid (Below w.heap.size w wr)) (fun _ i _ => (intOf i).toNat)
  case atStart => exact ⟨q', k2, [], _, 0, 0, by omega, rfl, rfl, rfl, by simp; omega, by omega, Lib.hid Small.nil, O2, HS2, B2⟩
  case round =>
    clear O2 HS2 B2
    obtain ⟨j, k, P, A', m, c', hj, rfl, rfl, rfl, hPj, hkk, HS, HO, HSR, HB⟩ := hrel
    by_cases hj0 : 0 < j
    · have hji : (0 : Int) < j := by omega
      go_upto_block 1 with fail
      go_cut [4, 6] from 16 to 29 (fun v _ wx => ∃ (k2 : Nat) (P2 : List Bl) (A2 : Option Addr) (m2 c2 : Nat), v = .slice A2 m2 c2 ∧ m2 = P2.length ∧ P2.length + j ≤ 4 ∧ k2 ≤ k + 50 ∧ Hid (Small P2) ∧ Hid (Own wx (w.heap.size + 1) wx.heap.size 95 18 A2 m2 c2 (bcs P2)) ∧ Hid (Src wx w.heap.size A n c k2) ∧ Hid (Below w.heap.size w wx))
      case first =>
        have hwlt := HSR.out.lt
        go_upto_region 7 with (first
          | (go_at_call 33; refine (HPK.out 3 (by decide) (by decide) k3 w3 (by omega) HS3.out B3.out).mono ?_; rintro e w4 ⟨⟨y, hy0, hy1, rfl⟩, ⟨⟨k4, hk4, hs4⟩, hg4⟩⟩; have z4 := hg4.size; have HS4 := Lib.hid hs4; have B4 := Lib.hid (B3.out.grown hg4 (by omega) (fun g e => by cases e; omega)); have O4 := Lib.hid ((O3.out.grown hg4 (fun g e => by cases e; omega)).more z4); have hwy : IntKind.i32.wrap y = y := (by rw [IntKind.wrap_i32]; omega); have hwy1 : IntKind.i32.wrap (y - 1) = y - 1 := (by rw [IntKind.wrap_i32]; omega); clear hs4 hg4)
          | (go_at_call 33; refine (HPK.out 3 (by decide) (by decide) k wr (by omega) HSR.out HB.out).mono ?_; rintro e w3 ⟨⟨x, hx0, hx1, rfl⟩, ⟨⟨k3, hk3, hs3⟩, hg3⟩⟩; have z3 := hg3.size; have HS3 := Lib.hid hs3; have B3 := Lib.hid (HB.out.grown hg3 (by omega) (fun g e => by cases e; omega)); have O3 := Lib.hid ((HO.out.grown hg3 (fun g e => by cases e; omega)).more z3); have hwx : IntKind.i32.wrap x = x := (by rw [IntKind.wrap_i32]; omega); have hwx1 : IntKind.i32.wrap (x - 1) = x - 1 := (by rw [IntKind.wrap_i32]; omega); clear hs3 hg3))
        have hX : -1 ≤ x - 1 ∧ x - 1 ≤ 1 := by omega
        have hY : -1 ≤ y - 1 ∧ y - 1 ≤ 1 := by omega
        have HXY := Lib.hid (And.intro hX hY)
        clear hX hY HO HSR HB HS3 B3 O3 hwx hwy hwx1 hwy1
        generalize x - 1 = X at *
        generalize y - 1 = Y at *
        have K7 : Hid (Blk (w4.alloc (.cells #[.int .i32 X, .int .i32 Y] 63)) w4.heap.size 63 (ivs .i32 [X, Y])) := Lib.hid (Blk.newAt rfl rfl)
        have S7 := Lib.hid (HS4.out.other (W' := w4.alloc (.cells #[.int .i32 X, .int .i32 Y] 63)) (Below.heap_alloc _ _ _ HS4.out.lt))
        have B7 := Lib.hid (B4.out.alloc B4.out.size (.cells #[.int .i32 X, .int .i32 Y] 63))
        have O7 : Hid (Own (w4.alloc (.cells #[.int .i32 X, .int .i32 Y] 63)) (w.heap.size + 1) (w4.alloc (.cells #[.int .i32 X, .int .i32 Y] 63)).heap.size 95 18 A' P.length c' (bcs P)) := Lib.hid ((O4.out.below ((Below.refl _ _).alloc (Nat.le_refl _) _) (Nat.le_refl _)).more (by rw [size_alloc]; omega))
        have z7 : w4.heap.size < (w4.alloc (.cells #[.int .i32 X, .int .i32 Y] 63)).heap.size := by rw [size_alloc]; omega
        have hw4 := B4.out.size
        have hl4 := HS4.out.lt
        clear HS4 B4 O4
        generalize w4.alloc (.cells #[.int .i32 X, .int .i32 Y] 63) = w7 at *
        have r1 : rowAt w7.drew w4.heap.size 0 2 = #[.int .i32 X, .int .i32 Y] := K7.out.drew.rowAt_eq rfl
        have r2 : hasRow w7.drew w4.heap.size 0 2 = true := K7.out.drew.hasRow_eq rfl
        go_region_law (go_simp; first
          | (go_at_call 34; refine (l07Add_own A' P.length c' P rfl HS.out.pic (by omega) X Y M hM h16 (w.heap.size + 1) w8 (by omega) O8.out).mono ?_; rintro e w9 ⟨A9, c9, l9, rfl, hadd, hO9, hb9⟩; have HADD := Lib.hid hadd; have O9 := Lib.hid hO9; have S9 := Lib.hid (S8.out.other (hb9.block _ S8.out.lt)); have B9 := Lib.hid (B8.out.trans (hb9.mono (by omega))); clear hadd hO9 hb9)
          | (go_at_call 35; refine (HMK.out k4 w7.drew (by omega) S7.out.drew (below_drew B7.out)).mono ?_; rintro e w8 ⟨⟨M, hM, h16, rfl⟩, ⟨⟨k8, hk8, hs8⟩, hg8⟩⟩; have z8 : w7.heap.size ≤ w8.heap.size := hg8.size; have K8 := K7.out.drew.grown hg8 (fun e => by have := Option.some.inj e; omega); have r5 : rowAt w8 w4.heap.size 0 2 = #[.int .i32 X, .int .i32 Y] := K8.rowAt_eq rfl; have r6 : hasRow w8 w4.heap.size 0 2 = true := K8.hasRow_eq rfl; have S8 := Lib.hid hs8; have B8 := Lib.hid ((below_drew B7.out).grown hg8 (by show w.heap.size ≤ w7.heap.size; omega) (fun g e => by have := Option.some.inj e; omega)); have O8 := Lib.hid ((O7.out.drew.grown hg8 (fun g e => by have := Option.some.inj e; omega)).more z8); clear hs8 hg8 K8))
        all_goals
          go_wp2_with fail
          go_meet
          obtain ⟨n1, n2⟩ := near_added HS.out (by omega) HXY.out.1 HXY.out.2 HADD.out
          exact ⟨k8, l9, A9, l9.length, c9, rfl, rfl, by omega, by omega, Lib.hid n1, O9, S9, B9⟩
      case rest =>
        obtain ⟨k2, P2, A2, m2, c2, rfl, rfl, hp2, hk2', HS2, HO2, HSR2, HB2⟩ := hcut
        go_wp2
        exact ⟨⟨j - 1, k2, P2, A2, _, c2, by omega, by go_num, rfl, rfl, by omega, by omega, HS2, HO2, HSR2, HB2⟩, by simp [intOf]; omega⟩
    · obtain rfl : j = 0 := by omega
      go_wp2
      go_ret
      exact ⟨P, A', c', HS.out, rfl, HO.out.less (by omega), HB.out⟩
end
end Go.Proofs.YtmagaapdijapiaaDoor
namespace Go.Proofs.YtmagaapdijapiaaDoor
open Go.ChangeShapes Go.WideShapes Go.ChangeAt Go.RowKit
set_option maxRecDepth 20000 in
set_option maxHeartbeats 6400000 in
theorem iEdgeOf_any (A : Option Addr) (n c : Nat) (l : List Bl) (hl : l.length = n) (hrow : Bls l) (h16 : ∀ b ∈ l, is16 b.2) (h32 : ∀ b ∈ l, ∀ x ∈ b.1, -2147483648 ≤ x ∧ x ≤ 2147483647) (hn : n ≤ 1048576) (w : World) (hst : Laid8 w) (hR : Rd w w.heap.size 18 A n (bcs l)) :
    Calls Tryd.prog 10 #[.slice A n c] w (GivesToldB (edgL l) (edgK l) w) := by
  have ho := fun W h => iValidPicture_any A n c l hl hrow h16 h32 hn W h
  have hv := fun h => vpic_of hrow h16 h
  have hm := fun (h : vpB l = true) W hR => masksOf_any A n c l hl hrow (apart_of_rising (rising_of_vpB h)) hn W hR
  rw [edgL, edgK]
  cases hok : vpB l
  · rw [hok] at ho
    clear hm hv hok hrow h16 h32 hl hst
    go_enter Tryd.func10, Tryd.ntmps10
    go_wp2_with (go_at_call 36; refine (ho _ (hR.more (by first | exact Nat.le_refl _ | omega))).mono ?_; rintro e w1 ⟨rfl, b1⟩)
    go_ret2
    exact GivesToldB.nil b1
  · rw [hok] at ho
    have hV := hv hok
    have HV := Lib.hid hV
    have HMO := Lib.hid (hm hok)
    have HCS := Lib.hid (fun W h => cellsOf_any A n c l hl hV W h)
    have HHAS := Lib.hid (fun g X Y hx hy cc W h hg => has_any g l hV.pic.bls hV.pic.m16 X Y hx hy cc W h hg)
    have HO := Lib.hid ho
    have HR := Lib.hid hR
    have HST := Lib.hid hst
    have hcnt := hV.count
    clear ho hv hm hok hrow h16 h32 hl hV hR hst
    simp only [if_true]
    go_enter Tryd.func10, Tryd.ntmps10
    go_wp2_with (first
      | (go_at_call 36; refine (HO.out _ HR.out).mono ?_; rintro e w1 ⟨rfl, b1⟩; have BC := Lib.hid b1; clear b1)
      | (go_at_call 40; refine (HMO.out _ ((HR.out.below BC.out (Nat.le_refl _)).more BC.out.size)).mono ?_; rintro e w2 ⟨g1, rfl, k1, k2, k3, b2⟩; have K := Lib.hid (And.intro k1 k3); have BM := Lib.hid b2; have BC := Lib.hid (BC.out.trans (b2.mono BC.out.size)); clear b2 k1 k2 k3)
      | (go_at_call 37; refine (HCS.out _ ((HR.out.below BC.out (Nat.le_refl _)).more BC.out.size)).mono ?_; rintro e w2 ⟨g, cc, rfl, hO2, b2⟩; have HCL := Lib.hid hO2.rd; have HGB := Lib.hid hO2.blk_; have BQ := Lib.hid b2; have BC := Lib.hid (BC.out.trans (b2.mono BC.out.size)); clear hO2 b2))
    rename_i B0 wa ga Ka BMa BCa wb BCb KK aa
    have hga : ga < wa.heap.size := heap_lt Ka.out.2
    have hgb : g1 < wb.heap.size := heap_lt K.out.2
    have hdist : ga ≠ g1 ∧ g ≠ g1 ∧ w.heap.size ≤ g1 ∧ g1 ≠ 0 := by
      have h1 := K.out.1
      have h2 := HGB.out.1
      have h3 := BCa.out.size
      have h4 := HST.out.pos
      omega
    have M1 : Hid (w2.heap[ga]? = some (.map (ents l 0).toArray l.length)) := Lib.hid (heap_below BQ.out (heap_below BM.out Ka.out.2))
    have M2 : Hid (w2.heap[g1]? = some (.map (ents l 0).toArray l.length)) := Lib.hid (heap_below BQ.out K.out.2)
    have HD := Lib.hid hdist
    have HGL : Hid (g < w2.heap.size) := Lib.hid HGB.out.2
    have HLN : Hid (l.length ≤ 64) := Lib.hid HV.out.few
    clear hga hgb hdist B0 BMa BCa BCb BM BQ K Ka HMO HCS HO HGB HR
    go_loopw [25] (fun i wr => ∃ k : Nat, k ≤ (specC l).length ∧ i = .int .i64 k ∧ ∃ lo, Hid (EdgeI l k lo) ∧ Hid (wr.heap[ga]? = some (.map (ents l 0).toArray l.length)) ∧ Hid (wr.heap[g1]? = some (.map (ents lo 0).toArray lo.length)) ∧ Hid (wr.heap[g]? = w2.heap[g]?) ∧ Hid (Below w.heap.size w wr)) (fun i _ => (specC l).length - (intOf i).toNat)
    case atStart => exact ⟨0, by omega, rfl, l, Lib.hid (edgeI_zero HV.out.pic), M1, M2, Lib.hid rfl, BC⟩
    case round =>
      clear M1 M2 BC
      obtain ⟨k, hk, rfl, lo, HE, M1, M2, MG, HB⟩ := hrel
      by_cases hlt : k < (specC l).length
      · have hkI : (k : Int) < (specC l).length := by omega
        have hk0 : (0 : Int) ≤ k := by omega
        obtain ⟨x, y, hxy⟩ : ∃ x y, (specC l)[k] = [x, y] := ⟨_, _, two_of ((specC_rows l).at_ hlt)⟩
        have hmem : hasB l x y = true := ((spec_mem HV.out.pic.apart HV.out.pic.bls [x, y]).1 (by rw [← hxy]; exact List.getElem_mem hlt)).2
        obtain ⟨⟨hx2, hx3⟩, ⟨hy2, hy3⟩⟩ := cellB_in (HV.out.cells hmem)
        have hrg := pvs_row2 (specC_rows l) hlt HCL.out rfl
        rw [hxy] at hrg
        rw [Nat.zero_add] at hrg
        have hrg' : wr.rangeAt g (k * 2) [.int .i32 x, .int .i32 y] := fun j v hv => (World.cell?_of_block (a := ⟨g, k * 2 + j, none⟩) MG.out).trans (hrg j v hv)
        have HRG := Lib.hid hrg'
        have HNO := Lib.hid (fun h => edgeI_no hlt HE.out hxy h)
        have HYES := Lib.hid (fun h => edgeI_yes hlt HE.out hxy h)
        have HALL : Hid (inTo (hasB l) x y 4 = insideB (hasB l) x y) := Lib.hid (inTo_all _ _ _)
        clear hrg hrg' hmem hxy
        go_wp2_with (first
          | fail
            | refine wpList_load_mid rfl _ _ rfl g (k * 2) (by rfl) [.int .i32 x, .int .i32 y] _ HRG.out Tryd.underlying35 rfl (by exact size35) ?_
            | (refine wpList_store_row rfl _ _ _ rfl wr.heap.size (ivs .i32 [x, y]) rfl rfl 35 #[.int .i32 0, .int .i32 0] (Blk.newAt rfl rfl) (by exact size35) rfl ivs_one ?_; generalize hw5 : World.setRow _ _ _ = w5; have G5 : Hid (Blk w5 wr.heap.size 35 (ivs .i32 [x, y])) := Lib.hid (by rw [← hw5]; exact (Blk.newAt rfl rfl).row _); have B5 : Hid (Below wr.heap.size wr w5) := Lib.hid (by rw [← hw5]; exact below_setRow ((Below.refl _ _).alloc (Nat.le_refl _) _) (g := wr.heap.size) (Nat.le_refl _) _); clear hw5)
          | (go_at_call 42; refine (steps_any false _).mono ?_; rintro e w6 ⟨rfl, rfl⟩))
        have N1 := Lib.hid (heap_below B5.out M1.out)
        have N2 := Lib.hid (heap_below B5.out M2.out)
        have NB := Lib.hid (HB.out.trans (B5.out.mono HB.out.size))
        have hgw : wr.heap.size < w5.heap.size := G5.out.lt
        have HGW := Lib.hid hgw
        clear hgw HRG
        obtain ⟨wo, rfl⟩ : ∃ wo : World, wo = wr := ⟨_, rfl⟩
        go_loopw [8, 31] (fun b i wr => ∃ j : Nat, j ≤ 4 ∧ i = .int .i64 j ∧ b = .bool (inTo (hasB l) x y j) ∧ Hid (Below w5.heap.size w5 wr)) (fun _ i _ => 4 - (intOf i).toNat)
        case atStart => exact ⟨0, by omega, rfl, rfl, Lib.hid (Below.refl _ _)⟩
        case round =>
          obtain ⟨j, hj, rfl, rfl, HB2⟩ := hrel
          have c0 : wr.cell? ⟨wo.heap.size, 0, none⟩ = some (.int .i32 x) := (G5.out.below HB2.out HGW.out).cellI (i := 0) (by simp)
          have c1 : wr.cell? ⟨wo.heap.size, 1, none⟩ = some (.int .i32 y) := (G5.out.below HB2.out HGW.out).cellI (i := 1) (by simp)
          by_cases hj4 : j < 4
          · have hjI : (j : Int) < 4 := by omega
            have hj0 : (0 : Int) ≤ j := by omega
            have hs := Lib.hid (((HST.out.below NB.out).below HB2.out).at_ (j := j) (by omega))
            obtain ⟨si1, si2, si3, si4⟩ := step_in j
            have hit : inTo (hasB l) x y (j + 1) = (inTo (hasB l) x y j && hasB l (x + stepX j) (y + stepY j)) := rfl
            have HIT := Lib.hid hit
            have N1' := Lib.hid (heap_below HB2.out N1.out)
            have BQ : Hid (Below wr.heap.size wr wr) := Lib.hid (Below.refl _ _)
            clear hit
            generalize stepX j = sx at *
            generalize stepY j = sy at *
            have hhas := fun W h => HHAS.out ga (x + sx) (y + sy) (by omega) (by omega) l.length W h (heap_lt h)
            have HHS := Lib.hid hhas
            have G5c := Lib.hid ((G5.out.below HB2.out HGW.out))
            have HGC : Hid (wo.heap.size < wr.heap.size) := Lib.hid (G5c.out.lt)
            clear hhas
            cases hin : inTo (hasB l) x y j
            · rw [hin] at HIT
              go_wp2_with (first
                | refine wpList_load_mid rfl _ _ rfl 0 (j * 2) (by rfl) [.int .i32 sx, .int .i32 sy] _ hs.out Tryd.underlying35 rfl (by exact size35) ?_
                | (refine wpList_store_row rfl _ _ _ rfl wr.heap.size (ivs .i32 [sx, sy]) rfl rfl 35 #[.int .i32 0, .int .i32 0] (Blk.newAt rfl rfl) (by exact size35) rfl ivs_one ?_; generalize hw6 : World.setRow _ _ _ = w6; have G6 : Hid (Blk w6 wr.heap.size 35 (ivs .i32 [sx, sy])) := Lib.hid (by rw [← hw6]; exact (Blk.newAt rfl rfl).row _); have B6 : Hid (Below wr.heap.size wr w6) := Lib.hid (by rw [← hw6]; exact below_setRow ((Below.refl _ _).alloc (Nat.le_refl _) _) (g := wr.heap.size) (Nat.le_refl _) _); clear hw6))
              exact ⟨⟨j + 1, by omega, by go_num, by rw [HIT.out]; rfl, Lib.hid (HB2.out.trans (B6.out.mono HB2.out.size))⟩, by simp [intOf]; omega⟩
            · rw [hin, Bool.true_and] at HIT
              go_wp2_with (first
                | refine wpList_load_mid rfl _ _ rfl 0 (j * 2) (by rfl) [.int .i32 sx, .int .i32 sy] _ hs.out Tryd.underlying35 rfl (by exact size35) ?_
                | (refine wpList_store_row rfl _ _ _ rfl wr.heap.size (ivs .i32 [sx, sy]) rfl rfl 35 #[.int .i32 0, .int .i32 0] (Blk.newAt rfl rfl) (by exact size35) rfl ivs_one ?_; generalize hw6 : World.setRow _ _ _ = w6; have G6 : Hid (Blk w6 wr.heap.size 35 (ivs .i32 [sx, sy])) := Lib.hid (by rw [← hw6]; exact (Blk.newAt rfl rfl).row _); have B6 : Hid (Below wr.heap.size wr w6) := Lib.hid (by rw [← hw6]; exact below_setRow ((Below.refl _ _).alloc (Nat.le_refl _) _) (g := wr.heap.size) (Nat.le_refl _) _); have s0 : w6.cell? ⟨wr.heap.size, 0, none⟩ = some (.int .i32 sx) := G6.out.cellI (i := 0) (by simp); have s1 : w6.cell? ⟨wr.heap.size, 1, none⟩ = some (.int .i32 sy) := G6.out.cellI (i := 1) (by simp); have p0 : w6.cell? ⟨wo.heap.size, 0, none⟩ = some (.int .i32 x) := (G5c.out.below B6.out HGC.out).cellI (i := 0) (by simp); have p1 : w6.cell? ⟨wo.heap.size, 1, none⟩ = some (.int .i32 y) := (G5c.out.below B6.out HGC.out).cellI (i := 1) (by simp); clear hw6)
                | (go_at_call 43; refine (HHS.out _ (heap_below B6.out N1'.out)).mono ?_; rintro e w7 ⟨rfl, b7⟩; have B7 := Lib.hid (B6.out.trans (b7.mono B6.out.size)); clear b7))
              exact ⟨⟨j + 1, by omega, by go_num, by rw [HIT.out], Lib.hid (HB2.out.trans (B7.out.mono HB2.out.size))⟩, by simp [intOf]; omega⟩
          · have hnI : ¬ ((j : Int) < 4) := by omega
            have hj4e : j = 4 := by omega
            have hin4 : inTo (hasB l) x y j = insideB (hasB l) x y := by rw [hj4e]; exact HALL.out
            rw [hin4]
            have hgwo : g < wo.heap.size := by
              rcases Nat.lt_or_ge g wo.heap.size with h | h
              · exact h
              · have h2 := MG.out
                rw [Array.getElem?_eq_none h, Array.getElem?_eq_getElem HGL.out] at h2
                cases h2
            have N1' := Lib.hid (heap_below HB2.out N1.out)
            have N2' := Lib.hid (heap_below HB2.out N2.out)
            have MG' : Hid (wr.heap[g]? = w2.heap[g]?) := Lib.hid ((HB2.out.block g (Nat.lt_trans hgwo HGW.out |> fun h => by have := B5.out.size; omega)).trans ((B5.out.block g hgwo).trans MG.out))
            have NB2 := Lib.hid (NB.out.trans (HB2.out.mono NB.out.size))
            have HGW2 : Hid (g < wr.heap.size) := Lib.hid (by have := B5.out.size; have := HB2.out.size; omega)
            clear hin4 hgwo hj4e hj HALL HHAS N1 N2 NB
            cases hin : insideB (hasB l) x y
            · have HE2 := Lib.hid (HNO.out hin)
              clear HYES HNO hin
              go_wp2
              exact ⟨⟨k + 1, by omega, by go_num, lo, HE2, N1', N2', MG', NB2⟩, by simp [intOf]; omega⟩
            · have HE2 := Lib.hid (HYES.out hin)
              clear HYES HNO hin
              obtain ⟨u, hu⟩ : ∃ u : Nat, (u : Int) = x % 16 := ⟨(x % 16).toNat, by omega⟩
              obtain ⟨v, hv⟩ : ∃ v : Nat, (v : Int) = y % 16 := ⟨(y % 16).toNat, by omega⟩
              have hba := fun W => blockAt_any x y (by omega) (by omega) W
              rw [← hu, ← hv] at hba
              have HT := HE.out.tab
              obtain ⟨hM1, hM2⟩ := HT.mask [x / 16, y / 16]
              have hstr : strike lo x y = putB lo [x / 16, y / 16] (setNot (maskAt lo [x / 16, y / 16]) v u) := by
                rw [strike, ← hu, ← hv]
                rfl
              rw [hstr] at HE2
              have hlkk := fun W h => run_lookupMask g1 lo HT.bls (x / 16) (y / 16) lo.length W h
              have hpp := fun M W h => run_putAny g1 lo HT.bls (x / 16) (y / 16) M W h
              have HBA := Lib.hid hba
              have HLK := Lib.hid hlkk
              have HPP := Lib.hid hpp
              have hu16 : u < 16 := by omega
              have hv16 : v < 16 := by omega
              clear hstr hba hlkk hpp HT HE
              generalize maskAt lo [x / 16, y / 16] = M at *
              have HM1 := Lib.hid hM1
              have HM2 := Lib.hid hM2
              obtain ⟨X, hX⟩ : ∃ X, X = x / 16 := ⟨_, rfl⟩
              obtain ⟨Y, hY⟩ : ∃ Y, Y = y / 16 := ⟨_, rfl⟩
              rw [← hX, ← hY] at HBA HLK HPP HE2
              clear hM1 hM2 hX hY hu hv
              have HG := N2'
              go_wp2_with (first
                | (go_at_call 44; refine (HBA.out _).mono ?_; rintro e w6 ⟨rfl, b6⟩; have B6r := Lib.hid b6; clear b6)
                | (refine wpList_store_row rfl _ _ _ rfl w6.heap.size (ivs .i32 [X, Y]) rfl rfl 63 #[.int .i32 0, .int .i32 0] (Blk.newAt rfl rfl) (by exact size63) rfl ivs_one ?_; generalize hw7 : World.setRow _ _ _ = w7; have G7 : Hid (Blk w7 w6.heap.size 63 (ivs .i32 [X, Y])) := Lib.hid (by rw [← hw7]; exact (Blk.newAt rfl rfl).row _); have B7r : Hid (Below wr.heap.size wr w7) := Lib.hid (by rw [← hw7]; exact below_setRow (B6r.out.alloc B6r.out.size _) (g := w6.heap.size) B6r.out.size _); have hlk : (Instr.lookup 68 (.map (some g1)) (.agg (ivs .i32 [X, Y])) false).run Tryd.prog w7 = .ok (.agg (ivs .u16 M)) w7 := HLK.out w7 ((B7r.out.block _ (heap_lt HG.out)).trans HG.out); clear hw7)
                | refine wpList_load_row rfl _ _ rfl w6.heap.size rfl 63 (ivs .i32 [X, Y]) (0, 0) _ G7.out Tryd.underlying63 rfl (by exact size63) ?_
                | (refine wpList_store_row rfl _ _ _ rfl w7.heap.size (ivs .u16 M) rfl rfl 44 (ivs .u16 zr16) (Blk.newAt rfl rfl) (by rw [ivs_size, HM1.out]; exact size44) (by rw [ivs_size, ivs_size, HM1.out]; rfl) ivs_one ?_; generalize hw8 : World.setRow _ _ _ = w8; have G8m : Hid (Blk w8 w7.heap.size 44 (ivs .u16 M)) := Lib.hid (by rw [← hw8]; exact (Blk.newAt rfl rfl).row _); have G8 : Hid (Blk w8 w6.heap.size 63 (ivs .i32 [X, Y])) := Lib.hid (by rw [← hw8]; exact (G7.out.alloc _).rowFar (by have := G7.out.lt; omega) _); have B8r : Hid (Below wr.heap.size wr w8) := Lib.hid (by rw [← hw8]; exact below_setRow (B7r.out.alloc B7r.out.size _) (g := w7.heap.size) B7r.out.size _); clear hw8))
              have c8 := G8m.out.getAtG (i := v) (by rw [HM1.out]; exact hv16)
              have f8 := G8m.out.frozen v
              have hvI : (v : Int) < 16 := by omega
              have hv0 : (0 : Int) ≤ v := by omega
              have huI : (u : Int) < 16 := by omega
              have hu0 : (0 : Int) ≤ u := by omega
              obtain ⟨m8, hm8⟩ : ∃ m8, m8 = M.getD v 0 := ⟨_, rfl⟩
              rw [← hm8] at c8
              have hp16 := pow_16 hu16
              have hwp : IntKind.u16.wrap (2 ^ u) = 2 ^ u := by rw [IntKind.wrap_u16]; omega
              have hso : setNot M v u = M.set v (notF m8 (2 ^ u)) := by rw [setNot, hm8]
              have g9 : Blk (w8.setCell ⟨w7.heap.size, v, none⟩ (.int .u16 (notF m8 (2 ^ u)))).drew w7.heap.size 44 (ivs .u16 (setNot M v u)) := by rw [hso]; exact (G8m.out.setI v _).drew
              have G9m := Lib.hid g9
              have G9 : Hid (Blk (w8.setCell ⟨w7.heap.size, v, none⟩ (.int .u16 (notF m8 (2 ^ u)))).drew w6.heap.size 63 (ivs .i32 [X, Y])) := Lib.hid ((G8.out.far (p := ⟨w7.heap.size, v, none⟩) (show w6.heap.size ≠ w7.heap.size by have := G7.out.lt; omega) _).drew)
              have B9r : Hid (Below wr.heap.size wr (w8.setCell ⟨w7.heap.size, v, none⟩ (.int .u16 (notF m8 (2 ^ u)))).drew) := Lib.hid (below_drew (B8r.out.setCell (p := ⟨w7.heap.size, v, none⟩) (show wr.heap.size ≤ w7.heap.size by have := B7r.out.size; omega) _))
              have HSL : Hid ((setNot M v u).length = 16) := Lib.hid (setNot_length HM1.out v u)
              have HPP2 := Lib.hid (fun W h => HPP.out (setNot M v u) W h)
              clear hm8 hso g9 hp16 HPP HM2
              generalize setNot M v u = S at *
              go_region
              have hob : notF m8 (2 ^ u) = bits .andNot .u16 m8 (2 ^ u) := rfl
              rw [← hob]
              generalize (w8.setCell ⟨w7.heap.size, v, none⟩ (.int .u16 (notF m8 (2 ^ u)))).drew = w9 at *
              have hmu : (Instr.mapUpdate 68 (.map (some g1)) (.agg (ivs .i32 [X, Y])) (.agg (ivs .u16 S))).run Tryd.prog w9 = .ok () (ChangeMaps.setBlock w9 g1 (.map (ents (putB lo [X, Y] S) 0).toArray (putB lo [X, Y] S).length)) := HPP2.out w9 ((B9r.out.block _ (heap_lt HG.out)).trans HG.out)
              go_wp2_with (first
                | refine wpList_load_row rfl _ _ rfl w6.heap.size rfl 63 (ivs .i32 [X, Y]) (0, 0) _ G9.out Tryd.underlying63 rfl (by exact size63) ?_
                | refine wpList_load_row rfl _ _ rfl w7.heap.size rfl 44 (ivs .u16 S) (0, 0) _ G9m.out Tryd.underlying44 rfl (by rw [ivs_size, HSL.out]; exact size44) ?_)
              have hd := HD.out
              refine ⟨⟨k + 1, by omega, by go_num, putB lo [X, Y] S, HE2, Lib.hid ((setBlock_far _ _ _ _ hd.1).trans (heap_below B9r.out N1'.out)), Lib.hid (setBlock_at _ _ _ (by have h1 := heap_lt HG.out; have h2 := B9r.out.size; omega)), Lib.hid ((setBlock_far _ _ _ _ hd.2.1).trans ((B9r.out.block g HGW2.out).trans MG'.out)), Lib.hid (below_setBlock (NB2.out.trans (B9r.out.mono NB2.out.size)) hd.2.2.1 _)⟩, by simp [intOf]; omega⟩
      · obtain rfl : k = (specC l).length := by omega
        have hH := edgeI_all HV.out.pic HE.out
        obtain ⟨m, hm1, hm2⟩ := sorted_exists (solid lo)
        obtain ⟨hm3, hm4⟩ := pic_sorted HE.out.tab hm1 hm2
        have hmh : ∀ U V, hasB m U V = edgeB (hasB l) U V := fun U V => by
          rw [← hH, hasB, hasB, hm4]
        have hpo : picOf (maskAt lo) = picHas (edgeB (hasB l)) := by
          rw [picHas_eq hm3 hmh]
          exact picOf_has hm3 hmh HE.out.tab.bls HE.out.tab.m16 hH
        have hfew : (picHas (edgeB (hasB l))).length ≤ 64 := by
          rw [picHas_eq hm3 hmh]
          refine Nat.le_trans (pic_sub_length hm3 HV.out.pic fun U V h => ?_) HLN.out
          rw [hmh, edgeB, Bool.and_eq_true] at h
          exact h.1
        have hcs : (specC l).length ≤ 100000 := by omega
        have HP := Lib.hid (pictureOf_any g1 lo HE.out.tab (by have := HE.out.few; have := HLN.out; omega) wr M2.out (heap_lt M2.out))
        rw [hpo, picR, picK, if_pos hfew, if_pos hfew] at HP
        clear hpo hfew hmh hm4 hm3 hm2 hm1 hH HE
        go_wp2_with (go_at_call 45; refine HP.out.mono ?_; rintro e w9 ⟨A9, c9, rfl, o9, b9⟩; have HO9 := Lib.hid o9; have HB9 := Lib.hid (HB.out.trans (b9.mono HB.out.size)); clear o9 b9)
        go_ret2
        exact ⟨A9, c9, rfl, HO9.out.less HB.out.size, HB9.out⟩
end Go.Proofs.YtmagaapdijapiaaDoor
namespace Go.Proofs.YtmagaapdijapiaaDoor
open Go.ChangeShapes Go.WideShapes Go.ChangeAt Go.RowKit
structure L8 (w : World) : Prop where
  at_ : Laid8 w
theorem L8.pos {w : World} (h : L8 w) : 0 < w.heap.size := h.at_.pos
theorem L8.below {w w' : World} (h : L8 w) (hb : Below w.heap.size w w') (_ : 0 ≤ 1) : L8 w' := ⟨h.at_.below hb⟩
theorem L8.grown {w w' : World} {row : Option Nat} (h : L8 w) (hg : w.grownBy w' row) (hr : ∀ g, row = some g → 1 ≤ g) : L8 w' :=
  ⟨range_below h.at_ ((Below.refl 1 w).grown hg h.pos hr) (Nat.lt_succ_self 0)⟩
theorem edgL_length {l : List Bl} (hrow : Bls l) (h16 : ∀ b ∈ l, is16 b.2) : (edgL l).length ≤ 64 := by
  rw [edgL]
  split
  · rename_i h
    have hv := vpic_of hrow h16 h
    rw [picHas]
    split
    · rename_i h2
      have hc := h2.choose_spec
      refine Nat.le_trans (pic_sub_length hc.1 hv.pic fun U V hx => ?_) hv.few
      rw [hc.2, edgeB, Bool.and_eq_true] at hx
      exact hx.1
    · exact Nat.zero_le _
  · exact Nat.zero_le _
/-- an array of pairs that reads as the rows holds them, cell for cell -/
theorem cells_of_rows {H : Type} {enc : TypeId × Value → H} {P : Program} {w : World} {base : Nat} {sp : Nat → Bool} {held : Bool} {fuel : Nat} {t e ee : TypeId} {n : Nat} {k : IntKind} {cs : List Value} {rows : List (List Int)} {p : List MemPlace}
    (ht : P.underlying t = some (.array n e)) (he : P.underlying e = some (.array 2 ee)) (hee : P.underlying ee = some (.int k)) (hce : P.cellsOf ee = 1) (hc2 : P.cellsOf e = 2) (_hrows : Rows_ 2 rows)
    (h : DataW.trod enc P w base sp held fuel t cs = some (.agg (rows.map (Go.Lib.tabData k)), p)) : rows.length = n ∧ ∀ i, (hi : i < n) → ∀ hi2 : i < rows.length, (cs.drop (i * 2)).take 2 = (rows[i]).map (Value.int k) := by
  cases fuel with
  | zero => simp [DataW.trod] at h
  | succ fuel =>
    simp only [DataW.trod, ht, hc2] at h
    split at h
    · rename_i hl
      obtain ⟨xs, hm, hx⟩ := Option.map_eq_some_iff.1 h
      have hxs : xs.map (·.1) = rows.map (Go.Lib.tabData k) := by
        have := congrArg Prod.fst hx
        simpa using this
      have hxl : xs.length = n := by simpa using Go.Lib.mapM_length hm
      have hzl : rows.length = n := by
        have := congrArg List.length hxs
        simp at this
        omega
      refine ⟨hzl, fun i hi hi2 => ?_⟩
      obtain ⟨b, hb, hf⟩ := Go.Lib.mapM_at hm i i (by simp [hi])
      have h2 : (xs.map (·.1))[i]? = some b.1 := by simp [hb]
      rw [hxs, List.getElem?_map, List.getElem?_eq_getElem hi2] at h2
      have h3 : b.1 = Go.Lib.tabData k rows[i] := by simpa using h2.symm
      obtain ⟨b1, b2⟩ := b
      cases h3
      exact Go.Lib.cells_of_tab he hee hce hc2 hf
    · cases h
theorem Laid8.of_cells {w : World} {cs : List Value} (hc : ∀ i, w.cell? ⟨0, i, none⟩ = cs[i]?) (h : ∀ i, (hi : i < 8) → (cs.drop (i * 2)).take 2 = (stepsL[i]'hi).map (Value.int .i32)) : Laid8 w := by
  intro j v hv
  have hj : j < 16 := by
    have := (List.getElem?_eq_some_iff.1 hv).1
    simpa [pvs, stepsL] using this
  have h2 := h (j / 2) (by omega)
  have h3 := flat_row steps_rows (i := j / 2) (show j / 2 < 8 by omega)
  have e : j = j / 2 * 2 + j % 2 := by omega
  have h4 : ((pvs stepsL).drop (j / 2 * 2)).take 2 = (cs.drop (j / 2 * 2)).take 2 := by
    rw [pvs, ← List.map_drop, ← List.map_take, h3, h2]
  have h5 := congrArg (fun l => l[j % 2]?) h4
  simp only [List.getElem?_take, List.getElem?_drop] at h5
  rw [if_pos (by omega), if_pos (by omega), ← e] at h5
  rw [show (⟨0, 0 + j, none⟩ : Addr) = ⟨0, j, none⟩ by rw [Nat.zero_add], hc, ← h5]
  exact hv
end Go.Proofs.YtmagaapdijapiaaDoor
namespace Go.Proofs.YtmagaapdijapiaaDoor
open Go.ChangeShapes Go.WideShapes Go.ChangeAt Go.RowKit
theorem spot_has {x y : Int} {P : List Bl} (h : SpotTo [[x, y]] 1 P) (U V : Int) : hasB P U V = decide ([U, V] ∈ [[x, y]]) := by
  have h0 : toldM (([[x, y]] : List (List Int)).take 0) = fun _ => zr16 := rfl
  rw [hasB, h.2.2, toldM_succ [[x, y]] (by simp : 0 < 1), h0]
  show bitB (if [U / 16, V / 16] = [x / 16, y / 16] then putC zr16 [x, y] else zr16) (U % 16).toNat (V % 16).toNat = _
  by_cases e : [U / 16, V / 16] = [x / 16, y / 16]
  · have e2 := pair_eq.1 e
    rw [if_pos e]
    show bitB (setOr zr16 (y % 16).toNat (x % 16).toNat) (U % 16).toNat (V % 16).toNat = _
    rw [setOr_bit rfl zr16_16 (a := (x % 16).toNat) (b := (y % 16).toNat) (by omega) (by omega), zr16_bit, Bool.false_or, Bool.eq_iff_iff, Bool.and_eq_true, decide_eq_true_iff, decide_eq_true_iff, decide_eq_true_iff, List.mem_singleton, pair_eq]
    omega
  · rw [if_neg e, zr16_bit]
    have : ¬ [U, V] ∈ [[x, y]] := fun h => e (by rw [List.mem_singleton, pair_eq] at h; rw [h.1, h.2])
    simp [this]
structure PS (l : List Bl) (cn : Bool) (x y : Int) (L : List (List Int)) (i : Nat) (done : Int → Int → Prop) (P : List Bl) : Prop where
  part : Part (hasB l) cn x y L i done
  pic : Pic P
  few : P.length ≤ L.length
  has : ∀ U V, hasB P U V = decide ([U, V] ∈ L)
section
variable {l P P' : List Bl} {cn : Bool} {x y : Int} {L : List (List Int)} {i : Nat} {done done' : Int → Int → Prop}
theorem PS.weak (h : PS l cn x y L i done P) (hd : ∀ a b, done' a b → adjB cn a b = true → done a b) : PS l cn x y L i done' P := ⟨h.part.weak hd, h.pic, h.few, h.has⟩
theorem PS.next (h : PS l cn x y L i done P) (hd : ∀ a b, adjB cn a b = true → done a b) : PS l cn x y L (i + 1) (fun _ _ => False) P := ⟨h.part.next hd, h.pic, h.few, h.has⟩
/-- not beside, or not there, or taken already -/
theorem PS.same (h : PS l cn x y L i done P) (hi : i < L.length) {du dv : Int} (hn : (adjB cn du dv && (hasB l ((L[i]).getD 0 0 + du) ((L[i]).getD 1 0 + dv) && !hasB P ((L[i]).getD 0 0 + du) ((L[i]).getD 1 0 + dv))) = false) : PS l cn x y L i (fun a b => done a b ∨ (a = du ∧ b = dv)) P :=
  ⟨h.part.same fun _ ha hh => by
    rw [ha, hh, Bool.true_and, Bool.true_and, Bool.not_eq_false', h.has, decide_eq_true_iff] at hn
    exact hn, h.pic, h.few, h.has⟩
theorem PS.add (h : PS l cn x y L i done P) (hi : i < L.length) {du dv : Int} (hn : (adjB cn du dv && (hasB l ((L[i]).getD 0 0 + du) ((L[i]).getD 1 0 + dv) && !hasB P ((L[i]).getD 0 0 + du) ((L[i]).getD 1 0 + dv))) = true)
    (h2 : Pic P' ∧ P'.length ≤ P.length + 1 ∧ ∀ U V, hasB P' U V = (hasB P U V || (decide (U = (L[i]).getD 0 0 + du) && decide (V = (L[i]).getD 1 0 + dv)))) : PS l cn x y (L ++ [[(L[i]).getD 0 0 + du, (L[i]).getD 1 0 + dv]]) i (fun a b => done a b ∨ (a = du ∧ b = dv)) P' := by
  rw [Bool.and_eq_true, Bool.and_eq_true, Bool.not_eq_true', h.has, decide_eq_false_iff_not] at hn
  refine ⟨h.part.add hi hn.1 hn.2.1 hn.2.2, h2.1, ?_, fun U V => ?_⟩
  · have := h2.2.1
    have := h.few
    rw [List.length_append, List.length_singleton]
    omega
  · rw [h2.2.2, h.has, Bool.eq_iff_iff, Bool.or_eq_true, decide_eq_true_iff, decide_eq_true_iff, Bool.and_eq_true, decide_eq_true_iff, decide_eq_true_iff, List.mem_append, List.mem_singleton, pair_eq]
end
/-- the beginning -/
theorem ps_one {l P : List Bl} {cn : Bool} {x y : Int} (h : hasB l x y = true) (hP : SpotTo [[x, y]] 1 P) : PS l cn x y [[x, y]] 0 (fun _ _ => False) P :=
  ⟨Part.one h, hP.1, hP.2.1, spot_has hP⟩
/-- the cells beside, row by row -/
def sqTo (dy dx : Int) (a b : Int) : Prop := (-1 ≤ a ∧ a ≤ 1 ∧ -1 ≤ b ∧ b ≤ 1) ∧ (b < dy ∨ (b = dy ∧ a < dx))
theorem sqTo_succ (dy dx a b : Int) (h : sqTo dy (dx + 1) a b) : sqTo dy dx a b ∨ (a = dx ∧ b = dy) := by
  unfold sqTo at *
  omega
theorem sqTo_line (dy a b : Int) (h : sqTo (dy + 1) (-1) a b) : sqTo dy 2 a b := by
  unfold sqTo at *
  omega
theorem sqTo_all {cn : Bool} (a b : Int) (h : adjB cn a b = true) : sqTo 2 (-1) a b := by
  have := adj_in h
  unfold sqTo
  omega
theorem sqTo_none (a b : Int) : ¬ sqTo (-1) (-1) a b := by
  unfold sqTo
  omega
end Go.Proofs.YtmagaapdijapiaaDoor
namespace Go.Proofs.YtmagaapdijapiaaDoor
open Go.ChangeShapes Go.WideShapes Go.ChangeAt Go.RowKit
/-- the corner and the mask of a block of a list, whole, wherever the world has gone -/
theorem rd_rows {w W : World} {b o n : Nat} {l : List Bl} (h : Rd w w.heap.size 18 (some ⟨b, o, none⟩) n (bcs l)) (hl : Bls l) (hn : l.length = n) {k : Nat} (hk : k < l.length) (hb : Below w.heap.size w W) {X Y : Int} {M : List Int} (he : l[k] = ([X, Y], M)) (hM : M.length = 16) :
    (rowAt W b (o + k * 18) 2 = #[.int .i32 X, .int .i32 Y] ∧ hasRow W b (o + k * 18) 2 = true) ∧ (rowAt W b (o + k * 18 + 2) 16 = ivs .u16 M ∧ hasRow W b (o + k * 18 + 2) 16 = true) := by
  have hr := (h.below hb (Nat.le_refl _)).block hl (by omega) hk
  have h3 := (rd_corner (h.below hb (Nat.le_refl _)) hl hn hk).2.2
  rw [he] at hr h3
  have r2 : W.rangeAt b (o + k * 18) [.int .i32 X, .int .i32 Y] := fun q v hq => hr q v (by
    rw [bvs, List.getElem?_append_left (by exact (List.getElem?_eq_some_iff.1 hq).1)]
    exact hq)
  refine ⟨rowAt_vals r2, ?_⟩
  have := rowAt_vals h3
  rwa [List.length_map, hM] at this
end Go.Proofs.YtmagaapdijapiaaDoor
namespace Go.Proofs.YtmagaapdijapiaaDoor
open Go.ChangeShapes Go.WideShapes Go.ChangeAt Go.RowKit
/-- what is told of some cells -/
noncomputable def pofL (cs : List (List Int)) : List Bl := if 1024 < cs.length then [] else if okCells cs then picR (picOf (toldM cs)) else []
noncomputable def pofK (cs : List (List Int)) : Int := if 1024 < cs.length then 3 else if okCells cs then picK (picOf (toldM cs)) else 2
def okC (f : List Int) : Bool := cellB (f.getD 0 0) (f.getD 1 0)
theorem okCells_no {cs : List (List Int)} {k : Nat} (hk : k < cs.length) (h : okC cs[k] = false) : okCells cs = false := by
  rw [okCells, List.all_eq_false]
  exact ⟨cs[k], List.getElem_mem hk, by rw [show cellB ((cs[k]).getD 0 0) ((cs[k]).getD 1 0) = okC cs[k] from rfl, h]; decide⟩
theorem okCells_all {cs : List (List Int)} (h : ∀ f ∈ cs, okC f = true) : okCells cs = true := by
  rw [okCells, List.all_eq_true]
  exact h
theorem toldT_succ {cs : List (List Int)} {lo : List Bl} {k : Nat} (hk : k < cs.length) (hm : ∀ key, maskAt lo key = toldM (cs.take k) key) {M : List Int} (hM : M = putC (maskAt lo (cornerL cs[k])) cs[k]) (key : List Int) : maskAt (putB lo (cornerL cs[k]) M) key = toldM (cs.take (k + 1)) key := by
  rw [putB_mask, toldM_succ cs hk, hm]
  by_cases e : key = cornerL cs[k]
  · rw [if_pos e, if_pos e, hM, hm, e]
  · rw [if_neg e, if_neg e]
theorem pvs_row {l : List (List Int)} (h : Rows_ 2 l) {k : Nat} (hk : k < l.length) {w : World} {B b o n : Nat} (hR : Rd w B 2 (some ⟨b, o, none⟩) n (pvs l)) (hn : n = l.length) : w.rangeAt b (o + k * 2) ((l[k]).map (.int .i32)) := by
  obtain ⟨b', o', he, hb, hc⟩ := hR.at_ (by omega)
  cases he
  have h2 := Rd.rangeAt (i := k * 2) (s := 2) hc
  rw [pvs, ← List.map_drop, ← List.map_take, flat_row h hk] at h2
  exact h2
end Go.Proofs.YtmagaapdijapiaaDoor
