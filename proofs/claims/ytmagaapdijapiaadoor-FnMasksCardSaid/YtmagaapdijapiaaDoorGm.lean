/- The source of choices: masks. -/
import Derived.Test.YtmagaapdijapiaaDoorRows
import Derived.Test.YtmagaapdijapiaaDoorNa
import Derived.Test.YtmagaapdijapiaaDoorYd
import Derived.Test.YtmagaapdijapiaaDoorBm
import Derived.Deep.RegionWith
import Derived.Deep.CutRange
import Derived.Deep.CutBlock
namespace Go.Proofs.YtmagaapdijapiaaDoor
open Go.ChangeShapes Go.WideShapes Go.ChangeAt Go.RowKit
theorem only_setNew {a w : World} {row : Option Nat} (h : a.grownBy w row) {p : Addr} (hp : a.heap.size ≤ p.block) (u : Value) : a.grownBy (w.setCell p u) row :=
  ⟨h.os, h.tape, h.output, by simpa [World.setCell] using h.size, fun i hi hne => (Below.heap_setCell w p u i (by omega)).trans (h.block i hi hne)⟩
theorem Src.drew {W : World} {g : Nat} {A : Option Addr} {n c k : Nat} (h : Src W g A n c k) : Src W.drew g A n c k := by
  obtain ⟨s, h0, h1, hb⟩ := h
  exact ⟨s, h0, h1, hb.drew⟩
theorem Src.other {W W' : World} {g : Nat} {A : Option Addr} {n c k : Nat} (h : Src W g A n c k) (hb : W'.heap[g]? = W.heap[g]?) : Src W' g A n c k := by
  obtain ⟨s, h0, h1, hs⟩ := h
  exact ⟨s, h0, h1, hb.trans hs⟩
set_option maxHeartbeats 1600000 in
theorem pickB_any (g : Nat) (A : Option Addr) (n c : Nat) (l : List Int) (hl : l.length = n) (h255 : is255 l) (k : Nat) (hk : k < 900000000) (hn : n ≤ 1000000000) (w : World) (hs : Src w g A n c k) (hR : Rd w g 1 A n (l.map (.int .u8))) :
    Calls Tryd.prog 33 #[.pointer (some ⟨g, 0, none⟩), .int .i64 65536] w fun e w' => (∃ v : Int, 0 ≤ v ∧ v < 65536 ∧ e = .returned (.int .i64 v)) ∧ Gone w g A n c k 2 w' := by
  have hx := next_any g A n c l hl h255 k (by omega) hn w hs hR
  have HX := Lib.hid hx
  have HR := Lib.hid hR
  have hgl := hs.lt
  clear hx hs hR
  go_enter Tryd.func33, Tryd.ntmps33
  go_wp2_with fail
  refine HX.out.mono ?_
  rintro e w2 ⟨⟨v, hv0, hv1, rfl⟩, hs2, hg2⟩
  have hz2 := hg2.size
  have hR2 := HR.out.grown hg2 (by omega) (fun g' e => by cases e; omega)
  have HY := Lib.hid (next_any g A n c l hl h255 (k + 1) (by omega) hn w2 hs2 hR2)
  have HG2 := Lib.hid hg2
  clear hs2 hg2 hR2 HX HR
  go_wp2_with fail
  refine HY.out.mono ?_
  rintro e w3 ⟨⟨y, hy0, hy1, rfl⟩, hs3, hg3⟩
  have HS3 := Lib.hid hs3
  have HG3 := Lib.hid hg3
  clear hs3 hg3 HY
  go_wp2
  go_ret
  exact ⟨⟨_, Int.emod_nonneg _ (by omega), Int.emod_lt_of_pos _ (by omega), rfl⟩, ⟨⟨k + 2, by omega, HS3.out⟩, HG2.out.trans HG3.out⟩⟩
/-- the masks' blocks and the source, as they stand while a mask is made -/
structure MkR (w : World) (g : Nat) (A : Option Addr) (n c : Nat) (M : List Int) (k : Nat) (wx : World) : Prop where
  len : M.length = 16
  m16 : is16 M
  res : Blk wx w.heap.size 44 (ivs .u16 zr16)
  blk : Blk wx (w.heap.size + 1) 44 (ivs .u16 M)
  src : Src wx g A n c k
  gro : w.grownBy wx (some g)
  lt : g < w.heap.size
section
variable {w wx w2 : World} {g n c k : Nat} {A : Option Addr} {M : List Int}
theorem MkR.drew (h : MkR w g A n c M k wx) : MkR w g A n c M k wx.drew := ⟨h.len, h.m16, h.res.drew, h.blk.drew, h.src.drew, only_drew h.gro, h.lt⟩
theorem MkR.gone (h : MkR w g A n c M k wx) {d : Nat} (h2 : Gone wx g A n c k d w2) : ∃ k2, k2 ≤ k + d ∧ MkR w g A n c M k2 w2 := by
  obtain ⟨⟨k2, hk2, hs2⟩, hg2⟩ := h2
  have := h.lt
  exact ⟨k2, hk2, h.len, h.m16, h.res.grown hg2 (fun e => by cases e; omega), h.blk.grown hg2 (fun e => by cases e; omega), hs2, h.gro.trans hg2, h.lt⟩
theorem MkR.set (h : MkR w g A n c M k wx) (v : Nat) {x : Int} (h0 : 0 ≤ x) (h1 : x < 65536) : MkR w g A n c (M.set v x) k (wx.setCell ⟨w.heap.size + 1, v, none⟩ (.int .u16 x)) := by
  have := h.lt
  refine ⟨by rw [List.length_set]; exact h.len, fun y hy => ?_, h.res.far (show w.heap.size ≠ w.heap.size + 1 by omega) _, h.blk.setI _ _, ?_, only_setNew h.gro (show w.heap.size ≤ w.heap.size + 1 by omega) _, h.lt⟩
  · rcases List.mem_or_eq_of_mem_set hy with hy | rfl
    · exact h.m16 y hy
    · exact ⟨h0, h1⟩
  · exact h.src.other (Below.heap_setCell _ _ _ _ (show g ≠ w.heap.size + 1 by omega))
theorem MkR.cell (h : MkR w g A n c M k wx) {v : Nat} (hv : v < 16) : wx.cell? ⟨w.heap.size + 1, v, none⟩ = some (.int .u16 (M.getD v 0)) := h.blk.getAtG (i := v) (by rw [h.len]; exact hv)
theorem MkR.free (h : MkR w g A n c M k wx) (v : Nat) : wx.frozen? ⟨w.heap.size + 1, v, none⟩ = false := h.blk.frozen v
end
theorem or16 (a b : Int) : 0 ≤ bits .or .u16 a b ∧ bits .or .u16 a b < 65536 := wrap16 _
set_option maxRecDepth 20000 in
set_option maxHeartbeats 6400000 in
theorem l07Mask_any (g : Nat) (A : Option Addr) (n c : Nat) (l : List Int) (hl : l.length = n) (h255 : is255 l) (k : Nat) (hk : k < 700000000) (hn : n ≤ 1000000000) (w : World) (hs : Src w g A n c k) (hR : Rd w g 1 A n (l.map (.int .u8))) :
    Calls Tryd.prog 35 #[.pointer (some ⟨g, 0, none⟩)] w fun e w' => (∃ M : List Int, M.length = 16 ∧ is16 M ∧ e = .returned (.agg (ivs .u16 M))) ∧ Gone w g A n c k 40 w' := by
  have hgl := hs.lt
  have HP : Hid (∀ (m : Int), 2 ≤ m → m ≤ 200 → ∀ (M : List Int) (k' : Nat) (W : World), k' ≤ k + 40 → MkR w g A n c M k' W → Calls Tryd.prog 33 #[.pointer (some ⟨g, 0, none⟩), .int .i64 m] W fun e w' => (∃ v : Int, 0 ≤ v ∧ v < m ∧ e = .returned (.int .i64 v)) ∧ Gone W g A n c k' 1 w') := Lib.hid (fun m h1 h2 _ k' W hk' h' => pick_any m h1 h2 g A n c l hl h255 k' (by omega) hn W h'.src (hR.grown h'.gro (by omega) (fun g' e => by cases e; omega)))
  have HB : Hid (∀ (M : List Int) (k' : Nat) (W : World), k' ≤ k + 40 → MkR w g A n c M k' W → Calls Tryd.prog 33 #[.pointer (some ⟨g, 0, none⟩), .int .i64 65536] W fun e w' => (∃ v : Int, 0 ≤ v ∧ v < 65536 ∧ e = .returned (.int .i64 v)) ∧ Gone W g A n c k' 2 w') := Lib.hid (fun _ k' W hk' h' => pickB_any g A n c l hl h255 k' (by omega) hn W h'.src (hR.grown h'.gro (by omega) (fun g' e => by cases e; omega)))
  have HO : Hid (∀ (M : List Int) (k' : Nat) (W : World), k' ≤ k + 40 → MkR w g A n c M k' W → Calls Tryd.prog 66 #[.pointer (some ⟨g, 0, none⟩), .int .i64 3] W fun e w' => (∃ b : Bool, e = .returned (.bool b)) ∧ Gone W g A n c k' 1 w') := Lib.hid (fun _ k' W hk' h' => one_any 3 (by decide) (by decide) g A n c l hl h255 k' (by omega) hn W h'.src (hR.grown h'.gro (by omega) (fun g' e => by cases e; omega)))
  have h0 : MkR w g A n c zr16 k ((w.alloc (.cells (ivs .u16 zr16) 44)).alloc (.cells (ivs .u16 zr16) 44)) :=
    ⟨rfl, zr16_16, (Blk.newAt rfl rfl).alloc _, Blk.newAt (by simp) rfl, hs.other (((Below.heap_alloc _ _ _ (by simp; omega)).trans (Below.heap_alloc _ _ _ hgl))), only_alloc (only_alloc (World.grownBy.refl _ _) _) _, hgl⟩
  have H0 := Lib.hid h0
  clear h0 hR hs
  go_enter Tryd.func35, Tryd.ntmps35
  go_upto_block 0 with (go_at_call 33; refine (HP.out 4 (by decide) (by decide) _ _ _ (by omega) H0.out).mono ?_; rintro e w2 ⟨⟨r, hr0, hr1, rfl⟩, hg2⟩; obtain ⟨k2, hk2, h2⟩ := H0.out.gone hg2; have H2 := Lib.hid h2; clear h2 hg2)
  clear H0
  go_cut [4, 5, 6, 7, 8] from 12 to 65 (fun _ _ _ _ _ wx => ∃ (M : List Int) (k' : Nat), k' ≤ k + 40 ∧ Hid (MkR w g A n c M k' wx))
  case first =>
    have hcs : r = 0 ∨ r = 1 ∨ r = 2 ∨ r = 3 := by omega
    rcases hcs with rfl | rfl | rfl | rfl
    · go_wp2_with (go_at_call 33; refine (HP.out 6 (by decide) (by decide) _ _ _ (by omega) H2.out).mono ?_; rintro e w3 ⟨⟨q, hq0, hq1, rfl⟩, hg3⟩; obtain ⟨k3, hk3, h3⟩ := H2.out.gone hg3; have H3 := Lib.hid h3; clear h3 hg3)
      obtain ⟨q', rfl⟩ := Int.eq_ofNat_of_zero_le hq0
      clear H2 hq0
      go_loopw [4] (fun v wr => ∃ (j : Nat) (M : List Int) (k' : Nat), j ≤ 5 ∧ v = .int .i64 j ∧ k' + 2 * j ≤ k + 12 ∧ Hid (MkR w g A n c M k' wr)) (fun v _ => (intOf v).toNat)
      case atStart => exact ⟨q', zr16, k3, by omega, rfl, by omega, H3⟩
      case round =>
        clear H3
        obtain ⟨j, M, k', hj, rfl, hkk, HM⟩ := hrel
        by_cases hj0 : 0 < j
        · have hji : (0 : Int) < j := by omega
          go_upto_block 2 with fail
          go_cut [4] from 20 to 29 (fun v wx => v = .int .i64 j ∧ ∃ (M : List Int) (k2 : Nat), k2 ≤ k' + 2 ∧ Hid (MkR w g A n c M k2 wx))
          case first =>
            go_wp2_with fail
            go_region_with (first
              | (go_at_call 33; refine (HP.out 16 (by decide) (by decide) M k5 w5 (by omega) H5.out).mono ?_; rintro e w6 ⟨⟨u, hu0, hu1, rfl⟩, hg6⟩; obtain ⟨k6, hk6, h6⟩ := H5.out.gone hg6; obtain ⟨u', rfl⟩ := Int.eq_ofNat_of_zero_le hu0; have c6 := h6.cell (v := v') (by omega); have f6 := h6.free v'; have hwu : IntKind.u64.wrap (u' : Int) = u' := (by have h : IntKind.u64.wrap (u' : Int) = (u' : Int) % 18446744073709551616 := rfl; omega); have H6 := Lib.hid h6; clear h6 hg6)
              | (go_at_call 33; refine (HP.out 16 (by decide) (by decide) M k' wr.drew (by omega) HM.out.drew).mono ?_; rintro e w5 ⟨⟨v, hv0, hv1, rfl⟩, hg5⟩; obtain ⟨k5, hk5, h5⟩ := HM.out.drew.gone hg5; obtain ⟨v', rfl⟩ := Int.eq_ofNat_of_zero_le hv0; have c5 := h5.cell (v := v') (by omega); have f5 := h5.free v'; have H5 := Lib.hid h5; clear h5 hg5))
            all_goals
              go_wp2_with fail
              go_meet
              exact ⟨rfl, _, k6, by omega, Lib.hid (H6.out.set v' (or16 _ _).1 (or16 _ _).2)⟩
          case rest =>
            obtain ⟨rfl, M2, k2, hk2', HM2⟩ := hcut
            go_wp2
            exact ⟨⟨j - 1, M2, k2, by omega, by go_num, by omega, HM2⟩, by simp [intOf]; omega⟩
        · obtain rfl : j = 0 := by omega
          go_wp2_with fail
          go_meet
          exact ⟨M, k', by omega, HM⟩
    · go_wp2_with fail
      go_loopw [5] (fun v wr => ∃ (y : Nat) (M : List Int) (k' : Nat), y ≤ 16 ∧ v = .int .i64 y ∧ k' ≤ k + 1 + 2 * y ∧ Hid (MkR w g A n c M k' wr)) (fun v _ => 16 - (intOf v).toNat)
      case atStart => exact ⟨0, zr16, k2, by omega, rfl, by omega, H2⟩
      case round =>
        clear H2
        obtain ⟨y, M, k', hy, rfl, hkk, HM⟩ := hrel
        by_cases hy0 : y < 16
        · have hyi : (y : Int) < 16 := by omega
          go_wp2_with (go_at_call 33; refine (HB.out M k' _ (by omega) HM.out).mono ?_; rintro e w5 ⟨⟨v, hv0, hv1, rfl⟩, hg5⟩; obtain ⟨k5, hk5, h5⟩ := HM.out.gone hg5; have c5 := h5.cell (v := y) (by omega); have f5 := h5.free y; have hwv : IntKind.u16.wrap v = v := (by rw [IntKind.wrap_u16]; omega); have H5 := Lib.hid h5; clear h5 hg5)
          exact ⟨⟨y + 1, _, k5, by omega, by go_num, by omega, Lib.hid (H5.out.set y hv0 hv1)⟩, by simp [intOf]; omega⟩
        · obtain rfl : y = 16 := by omega
          go_wp2_with fail
          go_meet
          exact ⟨M, k', by omega, HM⟩
    · go_wp2_with (first
        | (go_at_call 33; refine (HP.out 8 (by decide) (by decide) _ k3 w3 (by omega) H3.out).mono ?_; rintro e w4 ⟨⟨y, hy0, hy1, rfl⟩, hg4⟩; obtain ⟨k4, hk4, h4⟩ := H3.out.gone hg4; have H4 := Lib.hid h4; clear h4 hg4)
        | (go_at_call 33; refine (HP.out 10 (by decide) (by decide) _ k2 w2 (by omega) H2.out).mono ?_; rintro e w3 ⟨⟨x, hx0, hx1, rfl⟩, hg3⟩; obtain ⟨k3, hk3, h3⟩ := H2.out.gone hg3; have hwx : IntKind.u64.wrap x = x := (by have h : IntKind.u64.wrap x = x % 18446744073709551616 := rfl; omega); have H3 := Lib.hid h3; clear h3 hg3))
      obtain ⟨x', rfl⟩ := Int.eq_ofNat_of_zero_le hx0
      obtain ⟨y', rfl⟩ := Int.eq_ofNat_of_zero_le hy0
      clear H2 H3
      go_loopw [7] (fun v wr => ∃ (y : Nat) (M : List Int), y ≤ 16 ∧ v = .int .i64 y ∧ Hid (MkR w g A n c M k4 wr)) (fun v _ => 16 - (intOf v).toNat)
      case atStart => exact ⟨y', zr16, by omega, rfl, H4⟩
      case round =>
        clear H4
        obtain ⟨y, M, hy, rfl, HM⟩ := hrel
        by_cases hyl : y < 16
        · have hyi : (y : Int) < 16 := by omega
          have c5 := HM.out.cell (v := y) hyl
          have f5 := HM.out.free y
          go_wp2
          exact ⟨⟨y + 1, _, by omega, by go_num, Lib.hid (HM.out.set y (wrap16 _).1 (wrap16 _).2)⟩, by simp [intOf]; omega⟩
        · obtain rfl : y = 16 := by omega
          go_wp2_with fail
          go_meet
          exact ⟨M, k4, by omega, HM⟩
    · go_wp2_with (go_at_call 66; refine (HO.out _ k2 w2 (by omega) H2.out).mono ?_; rintro e w3 ⟨⟨b, rfl⟩, hg3⟩; obtain ⟨k3, hk3, h3⟩ := H2.out.gone hg3; have H3 := Lib.hid h3; clear h3 hg3; cases b)
      · go_wp2_with fail
        go_meet
        exact ⟨_, k3, by omega, H3⟩
      · go_wp2_with fail
        clear H2
        go_loopw [8] (fun v wr => ∃ (y : Nat) (M : List Int), y ≤ 16 ∧ v = .int .i64 y ∧ Hid (MkR w g A n c M k3 wr)) (fun v _ => 16 - (intOf v).toNat)
        case atStart => exact ⟨0, zr16, by omega, rfl, H3⟩
        case round =>
          clear H3
          obtain ⟨y, M, hy, rfl, HM⟩ := hrel
          by_cases hyl : y < 16
          · have hyi : (y : Int) < 16 := by omega
            have c5 := HM.out.cell (v := y) hyl
            have f5 := HM.out.free y
            go_wp2
            exact ⟨⟨y + 1, _, by omega, by go_num, Lib.hid (HM.out.set y (by decide) (by decide))⟩, by simp [intOf]; omega⟩
          · obtain rfl : y = 16 := by omega
            go_wp2_with fail
            go_meet
            exact ⟨M, k3, by omega, HM⟩
  case rest =>
    obtain ⟨M, k', hk', HM⟩ := hcut
    have hM := HM.out.len
    go_wp2_with (first
      | refine wpList_load_row rfl _ _ rfl (w.heap.size + 1) rfl 44 (ivs .u16 M) (0, 0) _ HM.out.blk Tryd.underlying44 rfl (by rw [ivs_size, hM]; exact size44) ?_
      | refine wpList_store_row rfl _ _ _ rfl w.heap.size (ivs .u16 M) rfl rfl 44 (ivs .u16 zr16) HM.out.res (by rw [ivs_size, hM]; exact size44) (by first | (rw [ivs_size, ivs_size, hM]; rfl) | rw [ivs_size, ivs_size, hM]) ivs_one ?_)
    refine bodyPost_ret (results_cell_row rfl _ _ w.heap.size 44 (ivs .u16 M) (0, 0) _ rfl (HM.out.res.row _) Tryd.underlying44 rfl (by rw [ivs_size, hM]; exact size44)) rfl ⟨⟨M, hM, HM.out.m16, rfl⟩, ⟨k', by omega, HM.out.src.other ?_⟩, ?_⟩
    · exact setRow_other _ _ _ _ (by have := HM.out.lt; omega)
    · exact ⟨HM.out.gro.os, HM.out.gro.tape, HM.out.gro.output, by rw [size_setRow]; exact HM.out.gro.size, fun i hi hne => (setRow_other _ _ _ _ (by omega)).trans (HM.out.gro.block i hi hne)⟩
end Go.Proofs.YtmagaapdijapiaaDoor
