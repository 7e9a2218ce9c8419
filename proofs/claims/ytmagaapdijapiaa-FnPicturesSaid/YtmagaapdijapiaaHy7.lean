/- Gy in one text. -/
import Derived.Test.YtmagaapdijapiaaRows
import Derived.Test.YtmagaapdijapiaaHy1
import Derived.Test.YtmagaapdijapiaaHy2
import Derived.Test.YtmagaapdijapiaaCh
import Derived.Test.YtmagaapdijapiaaHy3
import Derived.Test.YtmagaapdijapiaaHy4
import Derived.Test.YtmagaapdijapiaaHy5
import Derived.Test.YtmagaapdijapiaaHy6
import Derived.Test.YtmagaapdijapiaaMr
import Derived.Deep.CutRange
import Derived.Deep.CutBlock
import Derived.Deep.QuietTactic
import Derived.BigQuiet
import Derived.IntWalk
namespace Go.Proofs.Ytmagaapdijapiaa
open Go.ChangeShapes Go.WideShapes Go.ChangeAt Go.RowKit

set_option maxRecDepth 100000 in
set_option maxHeartbeats 25600000 in
theorem lawPictures_in (A : Option Addr) (n c : Nat) (l : List Int) (hl : l.length = n) (h255 : is255 l) (A2 : Option Addr) (n2 c2 : Nat) (l2 : List Int) (hl2 : l2.length = n2) (h255' : is255 l2) (hn : n ≤ 3000) (hn2 : n2 ≤ 3000) (w : World) (RA : Rd w w.heap.size 1 A n (l.map (.int .u8))) (RB : Rd w w.heap.size 1 A2 n2 (l2.map (.int .u8))) :
    Calls Try.prog 6 #[.slice A n c, .slice A2 n2 c2] w fun e w' => e = .returned (.bool true) ∧ Below w.heap.size w w' := by
  obtain ⟨i0, hi, hz0, hz1, hzb⟩ := info_parts Pair_info
  have B0 : Below w.heap.size w w := Below.refl _ _
  go_enter Try.func6, Try.ntmps6
  go_wp2_with fail
  refine (a2Long_in A A2 n c n2 c2 hn hn2 w).mono ?_
  rintro e wx ⟨rfl, rfl⟩
  go_wp2_with fail
  refine (A2Picture_any A n c l hl h255 (by omega) _ RA).mono ?_
  rintro e w1 ⟨P, AP, cP, hS, rfl, OP, hb1⟩
  have z1 := hb1.size
  have RB_1 := RB.below hb1 (by omega)
  have B1 := B0.trans (hb1.mono (by omega))
  clear RB hb1 B0
  go_wp2_with fail
  refine (A2Picture_any A2 n2 c2 l2 hl2 h255' (by omega) _ (RB_1.more (by omega))).mono ?_
  rintro e w2 ⟨Q, AQ, cQ, hS2, rfl, OQ, hb2⟩
  have z2 := hb2.size
  have OP_2 := OP.below hb2 (by omega)
  have B2 := B1.trans (hb2.mono (by omega))
  clear OP hb2 B1
  have hf := hS.few
  have hf2 := hS2.few
  have hnP : P.length ≤ 1048576 := by omega
  have hnQ : Q.length ≤ 1048576 := by omega
  have hCn := hS.count
  have hCq := hS2.count
  obtain ⟨t1, t2⟩ := told_of hS.vp (show (specC P).length ≤ 1024 by omega)
  have IC : Hid (∀ A c W, Rd W W.heap.size 18 A P.length (bcs P) → Calls Try.prog 32 #[.slice A P.length c] W (GivesToldC (specC P) 0 W)) := Lib.hid (fun A c W hW => by have h := iCellsOfPicture_any A P.length c P rfl hS.pic.bls hS.pic.m16 hS.i32 hnP W hW; rw [t1, t2] at h; exact h)
  have IV : Hid (∀ A c W, Rd W W.heap.size 18 A P.length (bcs P) → Calls Try.prog 33 #[.slice A P.length c] W fun e w' => e = .returned (.bool true) ∧ Below W.heap.size W w') := Lib.hid (fun A c W hW => by have h := iValidPicture_any A P.length c P rfl hS.pic.bls hS.pic.m16 hS.i32 hnP W hW; rw [hS.vp] at h; exact h)
  have HS := Lib.hid hS
  have HS2 := Lib.hid hS2
  have HRW := Lib.hid (specC_rows P)
  clear hS hS2 t1 t2 hl h255 hl2 h255'
  go_wp2_with fail
  refine (IC.out AP cP _ (OP_2.rd.more (by omega))).mono ?_
  rintro e w3 ⟨AC, cC, rfl, OC, hb3⟩
  have z3 := hb3.size
  have OP_3 := OP_2.below hb3 (by omega)
  have OQ_3 := OQ.below hb3 (by omega)
  have B3 := B2.trans (hb3.mono (by omega))
  clear OP_2 OQ hb3 B2
  go_wp2_with fail
  refine (IV.out AP cP _ (OP_3.rd.more (by omega))).mono ?_
  rintro e w4 ⟨rfl, hb4⟩
  have z4 := hb4.size
  have OP_4 := OP_3.below hb4 (by omega)
  have OQ_4 := OQ_3.below hb4 (by omega)
  have OC_4 := OC.below hb4 (by omega)
  have B4 := B3.trans (hb4.mono (by omega))
  clear OP_3 OQ_3 OC hb4 B3
  have HOP := Lib.hid OP_4
  have HOQ := Lib.hid OQ_4
  have HOC := Lib.hid OC_4
  have HB0 := Lib.hid B4
  have hwz := HB0.out.size
  obtain ⟨wp, rfl⟩ : ∃ W : World, W = w4 := ⟨_, rfl⟩
  have HRP : Hid (∀ W, Below wp.heap.size wp W → Rd W W.heap.size 18 AP P.length (bcs P)) := Lib.hid (fun W hb => ((HOP.out.below hb (by omega)).rd.more (by have := hb.size; omega)))
  have HRQ : Hid (∀ W, Below wp.heap.size wp W → Rd W W.heap.size 18 AQ Q.length (bcs Q)) := Lib.hid (fun W hb => ((HOQ.out.below hb (by omega)).rd.more (by have := hb.size; omega)))
  have HRC : Hid (∀ W, Below wp.heap.size wp W → Rd W wp.heap.size 2 AC (specC P).length (pvs (specC P))) := Lib.hid (fun W hb => ((HOC.out.below hb (by omega)).rd.more (by omega)))
  clear OP_4 OQ_4 OC_4 B4 HOP HOQ HOC IC IV
  obtain ⟨C, hC⟩ : ∃ C, C = specC P := ⟨_, rfl⟩
  rw [← hC] at HRC HRW hCn ⊢
  have HCP := Lib.hid hC
  have HCL : Hid (∀ k (hk : k < C.length), ∃ x y, C[k] = [x, y] ∧ hasV P x y = (true, 0) ∧ cellB x y = true) := Lib.hid (fun k hk => by subst hC; exact cell_small HS.out hk)
  have HLT : Hid (∀ k (hk : k + 1 < C.length), ltL (C[k]'(by omega)) C[k + 1]) := Lib.hid (fun k hk => by subst hC; exact rows_small HS.out hk)
  clear hC
  go_upto_block 0 with fail
  have h0 : (wp.alloc (.cells #[] 60)).ownsRow wp.heap.size 60 2 (.slice (some ⟨wp.heap.size, 0, none⟩) 0 0) 0 (pvs []) := World.ownsRow_lit (e := 60) (base := wp.heap.size) (size := 2) wp #[] 0 (Nat.le_refl _) (by unfold maxLen; omega) rfl
  have H0 := Lib.hid h0
  clear h0
  go_cut [9, 10, 11, 12, 13, 14, 15, 16, 17] from 65 to 187 (fun v _ _ _ _ _ _ _ _ wx => ∃ g cc : Nat, v = .slice (some ⟨g, 0, none⟩) C.length cc ∧ Hid (wx.ownsRow wp.heap.size 60 2 (.slice (some ⟨g, 0, none⟩) C.length cc) C.length (pvs C.reverse)) ∧ Hid (Below wp.heap.size wp wx))
  case first =>
    as_aux_lemma =>
      go_wp2_with fail
      go_loopw [9, 10, 11, 12, 13, 14, 15, 16, 17] (fun v i _ _ _ _ _ _ _ wr => ∃ (k m g cc : Nat) (q : Int), k ≤ C.length ∧ i = .int .i64 q ∧ q = (k : Int) - 1 ∧ m + k = C.length ∧ v = .slice (some ⟨g, 0, none⟩) m cc ∧ Hid (wr.ownsRow wp.heap.size 60 2 (.slice (some ⟨g, 0, none⟩) m cc) m (pvs (C.drop k).reverse)) ∧ Hid (Below wp.heap.size wp wr)) (fun _ i _ _ _ _ _ _ _ _ => (intOf i + 1).toNat)
      case atStart => exact ⟨C.length, 0, _, _, _, Nat.le_refl _, by go_num, by omega, by omega, rfl, Lib.hid (by rw [List.drop_length]; exact H0.out), Lib.hid ((Below.refl _ _).alloc (Nat.le_refl _) _)⟩
      case round =>
        clear H0
        obtain ⟨k, m, g, cc, q, hk, rfl, hq, hmk, rfl, HO, HB⟩ := hrel
        by_cases hk0 : k = 0
        · subst hk0
          obtain rfl : m = C.length := by omega
          have hq1 : q < 0 := by omega
          clear hq
          go_wp2_with fail
          go_meet
          exact ⟨g, cc, rfl, by have h := HO.out; rw [List.drop_zero] at h; exact Lib.hid h, HB⟩
        · obtain ⟨j, rfl⟩ : ∃ j, k = j + 1 := ⟨k - 1, by omega⟩
          obtain rfl : q = (j : Int) := by omega
          clear hq hk0
          have hjl : j < C.length := by omega
          have hji : (j : Int) < C.length := by omega
          have hj0 : (0 : Int) ≤ j := by omega
          have HBw := Lib.hid HB.out.size
          obtain ⟨x, y, hxy, hhas, hcell⟩ := HCL.out j hjl
          have JB : Hid (∀ W, Calls Try.prog 35 #[.int .i64 x, .int .i64 y] W fun e w' => e = .returned (.tuple #[.agg #[.int .i32 (x / 16), .int .i32 (y / 16)], .int .i64 (x % 16), .int .i64 (y % 16), .int .i64 0]) ∧ Below W.heap.size W w') := Lib.hid (fun W => iBlockAt_in x y hcell W)
          have JH : Hid (∀ W, Below wp.heap.size wp W → Calls Try.prog 34 #[.slice AP P.length cP, .int .i64 x, .int .i64 y] W fun e w' => e = .returned (.tuple #[.bool true, .int .i64 0]) ∧ Below W.heap.size W w') := Lib.hid (fun W hb => by have h := iPictureHas_any AP P.length cP P rfl HS.out.pic.bls HS.out.pic.m16 HS.out.i32 x y hnP W (HRP.out W hb); rw [hhas] at h; exact h)
          simp only [cellB, inB, Bool.and_eq_true, decide_eq_true_iff] at hcell
          have hx0 := hcell.1.1
          have hx1 := hcell.1.2
          have hy0 := hcell.2.1
          have hy1 := hcell.2.2
          obtain ⟨gC, oC, hAC, hgC, hcC⟩ := (HRC.out wr HB.out).at_ (by omega)
          have hrow : ∀ i (hi : i < C.length), wr.rangeAt gC (oC + i * 2) ((C[i]).map (.int .i32)) := fun i hi => by
            have h2 := Rd.rangeAt (i := i * 2) (s := 2) hcC
            rw [pvs, ← List.map_drop, ← List.map_take, flat_row HRW.out hi] at h2
            exact h2
          have hrg := hrow j hjl
          rw [hxy] at hrg
          have HRG := Lib.hid hrg
          have HNX : Hid ((j + 1 = C.length) ∨ (j + 1 < C.length ∧ ∃ x2 y2, (y < y2 ∨ (y = y2 ∧ x < x2)) ∧ wr.rangeAt gC (oC + (j + 1) * 2) ([x2, y2].map (.int .i32)))) := Lib.hid (by
            by_cases h : j + 1 = C.length
            · exact .inl h
            · have hl := HLT.out j (by omega)
              obtain ⟨x2, y2, h2, _, _⟩ := HCL.out (j + 1) (by omega)
              have hr2 := hrow (j + 1) (by omega)
              rw [h2] at hr2 hl
              rw [hxy] at hl
              exact .inr ⟨by omega, x2, y2, hl, hr2⟩)
          have HDR : Hid ((C.drop (j + 1)).reverse ++ [[x, y]] = (C.drop j).reverse) := Lib.hid (by
            rw [List.drop_eq_getElem_cons hjl, List.reverse_cons, hxy])
          have hgl : gC < wr.heap.size := by have := HB.out.size; omega
          subst hAC
          clear hcC hrow hrg hxy hhas hcell hgC hk
          go_upto_region 13 with (first
            | refine wpList_load_ivs rfl _ _ rfl gC (oC + j * 2) rfl .i32 [x, y] _ HRG.out Try.underlying60 rfl (by exact size60) ?_
            | (refine wpList_store_row rfl _ _ _ rfl wr.heap.size (ivs .i32 [x, y]) rfl rfl 60 (ivs .i32 [0, 0]) (Blk.newAt rfl rfl) (by exact size60) rfl ivs_one ?_; generalize hw3 : World.setRow _ _ _ = w3; have K3 : Hid (Blk w3 wr.heap.size 60 (ivs .i32 [x, y])) := Lib.hid (by rw [← hw3]; exact (Blk.newAt rfl rfl).row _); have B3 : Hid (Below wr.heap.size wr w3) := Lib.hid (by rw [← hw3]; exact below_setRow ((Below.refl _ _).alloc (Nat.le_refl _) _) (Nat.le_refl _) _); clear hw3; have d0 : w3.cell? ⟨wr.heap.size, 0, none⟩ = some (.int .i32 x) := K3.out.cell 0; have d1 : w3.cell? ⟨wr.heap.size, 1, none⟩ = some (.int .i32 y) := K3.out.cell 1))
          rw [put_none]
          go_cut [10, 110] from 73 to 110 (fun v v2 wx => v = .int .i64 j ∧ v2 = .bool false ∧ Hid (Blk wx wr.heap.size 60 (ivs .i32 [x, y])) ∧ Hid (Below wr.heap.size wr wx))
          case first =>
            have u1 : IntKind.i64.wrap ((j : Int) + 1) = (j : Int) + 1 := IntWalk.i64_in _ (by omega)
            have u2 : (0 : Int) ≤ (j : Int) + 1 := by omega
            have u3 : ((j : Int) + 1).toNat = j + 1 := by omega
            rcases HNX.out with hlast | ⟨hnl, x2, y2, hord, hr2⟩
            · have hd : decide ((j : Int) + 1 < (C.length : Int)) = false := by simp; omega
              have hd2 : ¬ (j : Int) + 1 < (C.length : Int) := by omega
              clear HNX
              go_wp2_with fail
              go_quiet (fail)
              go_wp2_with fail
              go_meet
              exact ⟨rfl, rfl, Lib.hid (K3.out.drewN _), Lib.hid (below_drewN B3.out _)⟩
            · have hd : decide ((j : Int) + 1 < (C.length : Int)) = true := by simp; omega
              have hd2 : (j : Int) + 1 < (C.length : Int) := by omega
              have f0 : w3.cell? ⟨gC, oC + (j + 1) * 2, none⟩ = some (.int .i32 x2) := by
                have := hr2 0 (.int .i32 x2) rfl
                rw [Nat.add_zero] at this
                exact (B3.out.cell (p := ⟨gC, oC + (j + 1) * 2, none⟩) hgl).trans this
              have f1 : w3.cell? ⟨gC, oC + (j + 1) * 2 + 1, none⟩ = some (.int .i32 y2) := (B3.out.cell (p := ⟨gC, oC + (j + 1) * 2 + 1, none⟩) hgl).trans (hr2 1 (.int .i32 y2) rfl)
              clear HNX hr2
              rcases hord with ho | ⟨rfl, ho⟩
              · have o1 : decide (y2 < y) = false := by simp; omega
                have o2 : ¬ y2 < y := by omega
                have o3 : ¬ y = y2 := by omega
                have o4 : decide (y = y2) = false := by simp; omega
                have o5 : (y == y2) = false := by simp; omega
                go_wp2_with fail
                go_quiet (fail)
                go_wp2_with fail
                go_meet
                exact ⟨rfl, rfl, Lib.hid (K3.out.drewN _), Lib.hid (below_drewN B3.out _)⟩
              · have o1 : ¬ y < y := by omega
                have o2 : ¬ x2 ≤ x := by omega
                have o3 : decide (x2 ≤ x) = false := by simp; omega
                go_wp2_with fail
                go_quiet (fail)
                go_wp2_with fail
                go_meet
                exact ⟨rfl, rfl, Lib.hid (K3.out.drewN _), Lib.hid (below_drewN B3.out _)⟩
          case rest =>
            obtain ⟨rfl, rfl, K3', B3'⟩ := hcut
            have hwr := HB.out.size
            have hwc := B3'.out.size
            have HO3 := Lib.hid (own_below HO.out B3'.out (Nat.le_refl _))
            have HN3 := Lib.hid (pair_news wc x y)
            have hgw : g < wr.heap.size := (HO.out.lt g rfl).2
            have hgp : wp.heap.size ≤ g := (HO.out.lt g rfl).1
            obtain ⟨a, ha⟩ : ∃ a, a = x / 16 := ⟨_, rfl⟩
            obtain ⟨b, hb⟩ : ∃ b, b = x % 16 := ⟨_, rfl⟩
            obtain ⟨c', hc'⟩ : ∃ a, a = y / 16 := ⟨_, rfl⟩
            obtain ⟨d, hd⟩ : ∃ b, b = y % 16 := ⟨_, rfl⟩
            rw [← ha, ← hb, ← hc', ← hd] at JB
            have q1 : a * 16 + b = x := by omega
            have q2 : c' * 16 + d = y := by omega
            have q3 : 0 ≤ b := by omega
            have q4 : b ≤ 15 := by omega
            have q5 : 0 ≤ d := by omega
            have q6 : d ≤ 15 := by omega
            have q7 : -70000 ≤ a ∧ a ≤ 70000 := by omega
            have q8 : -70000 ≤ c' ∧ c' ≤ 70000 := by omega
            obtain ⟨q7a, q7b⟩ := q7
            obtain ⟨q8a, q8b⟩ := q8
            have HB3 := Lib.hid (HB.out.trans (B3'.out.mono hwr))
            clear ha hb hc' hd HRG HNX HO B3' HB
            go_wp2_with (first
              | refine wpList_load_row rfl _ _ rfl wr.heap.size rfl 60 #[.int .i32 x, .int .i32 y] (0, 0) _ K3'.out Try.underlying60 rfl (by exact size60) ?_
              | (at_builtin; refine wpList_append_own _ rfl _ _ 56 rfl wp.heap.size 60 i0 _ 2 8 Try.underlying56 hi hz0 hz1 hzb rfl (by decide) (.slice (some ⟨g, 0, none⟩) m cc) m _ rfl (HO3.out.alloc _) ⟨wc.heap.size, 0, none⟩ 1 1 (pvs [[x, y]]) rfl rfl HN3.out pvs_one (by unfold maxLen; omega) (by omega) (by rw [size_alloc]; omega) ?_; intro v6 w6 hown6 hgrow6 _; rw [← pvs_append, HDR.out] at hown6; obtain ⟨g6, c6, rfl⟩ := own_some hown6 (by omega); have HO6 := Lib.hid hown6; have y6 := hgrow6.size; rw [size_alloc] at y6; have B6 := Lib.hid ((HB3.out.alloc (by omega) (.cells #[.int .i32 x, .int .i32 y] 60)).grown hgrow6 (by rw [size_alloc]; omega) (fun j e => (HO3.out.lt j e).1)); have K6 := Lib.hid ((K3'.out.alloc (.cells #[.int .i32 x, .int .i32 y] 60)).grown hgrow6 (fun e => by have e2 : wr.heap.size = g := Option.some.inj e; omega)); have e0 : w6.cell? ⟨wr.heap.size, 0, none⟩ = some (.int .i32 x) := K6.out.cell 0; have e1 : w6.cell? ⟨wr.heap.size, 1, none⟩ = some (.int .i32 y) := K6.out.cell 1; clear hown6 hgrow6)
              | (go_at_call 34; refine (JH.out w6 B6.out).mono ?_; rintro e w7 ⟨rfl, hb7⟩; have y7 := hb7.size; have K7 := Lib.hid (K6.out.below hb7 K6.out.lt); have B7 := Lib.hid (B6.out.trans (hb7.mono (by omega))); have HO7 := Lib.hid (own_below HO6.out hb7 (Nat.le_refl _)); have f0 : w7.cell? ⟨wr.heap.size, 0, none⟩ = some (.int .i32 x) := K7.out.cell 0; have f1 : w7.cell? ⟨wr.heap.size, 1, none⟩ = some (.int .i32 y) := K7.out.cell 1; clear hb7 e0 e1)
              | (go_at_call 35; refine (JB.out w7).mono ?_; rintro e w8 ⟨rfl, hb8⟩; have y8 := hb8.size; have K8 := Lib.hid (K7.out.below hb8 K7.out.lt); have B8 := Lib.hid (B7.out.trans (hb8.mono (by omega))); have HO8 := Lib.hid (own_below HO7.out hb8 (Nat.le_refl _)); have k0 := cell_alloc (.cells #[.int .i32 a, .int .i32 c'] 63) (show w8.cell? ⟨wr.heap.size, 0, none⟩ = some (.int .i32 x) from K8.out.cell 0); have k1 := cell_alloc (.cells #[.int .i32 a, .int .i32 c'] 63) (show w8.cell? ⟨wr.heap.size, 1, none⟩ = some (.int .i32 y) from K8.out.cell 1); clear hb8 f0 f1))
            exact ⟨⟨j, m + 1, g6, c6, _, by omega, rfl, by go_num, by omega, rfl, Lib.hid (own_below HO8.out ((Below.refl _ _).alloc (Nat.le_refl _) _) (Nat.le_refl _)), Lib.hid (B8.out.alloc B8.out.size _)⟩, by first | (simp [intOf]; done) | (simp [intOf]; omega)⟩
  case rest =>
    obtain ⟨g, cc, rfl, HO, HB⟩ := hcut
    have hwr := HB.out.size
    have HLL : Hid (Rows_ 2 (C.reverse ++ C)) := Lib.hid (fun f hf => by
      rcases List.mem_append.1 hf with h | h
      · exact HRW.out f (List.mem_reverse.1 h)
      · exact HRW.out f h)
    have H32 : Hid (∀ f ∈ C.reverse ++ C, ∀ x ∈ f, -2147483648 ≤ x ∧ x ≤ 2147483647) := Lib.hid (fun f hf => by
      have hm : f ∈ C := by
        rcases List.mem_append.1 hf with h | h
        · exact List.mem_reverse.1 h
        · exact h
      obtain ⟨k, hk, rfl⟩ := List.getElem_of_mem hm
      obtain ⟨x, y, e, _, hc⟩ := HCL.out k hk
      simp only [cellB, inB, Bool.and_eq_true, decide_eq_true_iff] at hc
      rw [e]
      intro z hz
      simp only [List.mem_cons, List.not_mem_nil, or_false] at hz
      rcases hz with rfl | rfl <;> omega)
    have HPO : Hid (∀ A c W, Rd W W.heap.size 2 A (C.length + C.length) (pvs (C.reverse ++ C)) → Calls Try.prog 36 #[.slice A (C.length + C.length) c] W (GivesToldB (pofL (C.reverse ++ C)) (pofK (C.reverse ++ C)) W)) := Lib.hid (fun A c W hW => iPictureOf_any A (C.length + C.length) c (C.reverse ++ C) (by rw [List.length_append, List.length_reverse]) HLL.out H32.out (by omega) W hW)
    have HAG : Hid (C.length ≤ 512 → pofL (C.reverse ++ C) = P ∧ pofK (C.reverse ++ C) = 0) := Lib.hid (fun h => by have e := HCP.out; subst e; exact again_small HS.out h)
    clear HLL H32
    generalize pofL (C.reverse ++ C) = R at *
    generalize pofK (C.reverse ++ C) = KR at *
    go_upto_region 20 with fail
    go_cut [18, 19] from 188 to 194 (fun v k wx => ∃ (A : Option Addr) (c : Nat), v = .slice A R.length c ∧ k = .int .i64 KR ∧ Hid (Own wx wp.heap.size wx.heap.size 78 18 A R.length c (bcs R)) ∧ Hid (Below wp.heap.size wp wx))
    case first =>
      by_cases h0 : C.length = 0
      · have hC0 : C = [] := List.eq_nil_of_length_eq_zero h0
        subst hC0
        obtain ⟨A7, c7, e7, hO7⟩ := Own.of_row HO.out
        cases e7
        have hx := fun W hW => HPO.out (some ⟨g, 0, none⟩) cc W hW
        have HX := Lib.hid (hx wc hO7.rd)
        clear HLT HCL HCP HAG HPO hx
        rcases AC with _ | gC
        · go_wp2_with (go_at_call 36; refine HX.out.mono ?_; rintro e w8 ⟨A8, c8, rfl, hO8, hb8⟩; have HO8 := Lib.hid (hO8.less (show wp.heap.size ≤ wc.heap.size by omega)); have B8 := Lib.hid (HB.out.trans (hb8.mono (show wp.heap.size ≤ wc.heap.size by omega))); clear hO8 hb8)
          go_meet
          exact ⟨A8, c8, rfl, rfl, HO8, B8⟩
        · go_wp2_with (go_at_call 36; refine HX.out.mono ?_; rintro e w8 ⟨A8, c8, rfl, hO8, hb8⟩; have HO8 := Lib.hid (hO8.less (show wp.heap.size ≤ wc.heap.size by omega)); have B8 := Lib.hid (HB.out.trans (hb8.mono (show wp.heap.size ≤ wc.heap.size by omega))); clear hO8 hb8)
          go_meet
          exact ⟨A8, c8, rfl, rfl, HO8, B8⟩
      · obtain ⟨gC, oC, hAC, hgC, hcC⟩ := (HRC.out wc HB.out).at_ (by omega)
        subst hAC
        have HNC : Hid (∀ j u, (pvs C)[j]? = some u → wc.cell? ((⟨gC, oC, none⟩ : Addr).add j) = some u) := Lib.hid (fun j u hu => by
          have := hcC j u hu
          rw [Addr.add]
          split
          · simp_all
          · exact this)
        clear hcC
        go_wp2_with (first
          | (at_builtin; refine wpList_append_own _ rfl _ _ 56 rfl wp.heap.size 60 i0 _ 2 8 Try.underlying56 hi hz0 hz1 hzb rfl (by decide) (.slice (some ⟨g, 0, none⟩) C.length cc) C.length _ rfl HO.out ⟨gC, oC, none⟩ C.length cC (pvs C) rfl (by rw [pvs, List.length_map, flat_length HRW.out]) HNC.out pvs_one (by unfold maxLen; omega) (by omega) hwr ?_; intro v6 w6 hown6 hgrow6 _; rw [← pvs_append] at hown6; obtain ⟨g6, c6, rfl⟩ := own_some hown6 (by omega); have HO6 := Lib.hid hown6; have y6 := hgrow6.size; have B6 := Lib.hid (HB.out.grown hgrow6 hwr (fun j e => (HO.out.lt j e).1)); clear hown6 hgrow6)
          | (go_at_call 36; obtain ⟨A7, c7, e7, hO7⟩ := Own.of_row HO6.out; cases e7; refine (HPO.out _ _ w6 hO7.rd).mono ?_; rintro e w8 ⟨A8, c8, rfl, hO8, hb8⟩; have HO8 := Lib.hid (hO8.less (show wp.heap.size ≤ w6.heap.size by omega)); have B8 := Lib.hid (B6.out.trans (hb8.mono (show wp.heap.size ≤ w6.heap.size by omega))); clear hO8 hb8))
        go_meet
        exact ⟨A8, c8, rfl, rfl, HO8, B8⟩
    case rest =>
      obtain ⟨AR, cR, rfl, rfl, HOR, HBR⟩ := hcut
      go_upto_region 21 with fail
      go_cut [18, 213] from 195 to 213 (fun v v2 wx => v = .slice AR R.length cR ∧ v2 = .bool false ∧ Hid (Below wp.heap.size wp wx))
      case first =>
        by_cases h5 : C.length ≤ 512
        · obtain ⟨e1, e2⟩ := HAG.out h5
          have h5i : (C.length : Int) ≤ 512 := by omega
          have hzr := HBR.out.size
          have HS1 : Hid (∀ W, Below wc.heap.size wc W → Calls Try.prog 28 #[.slice AR P.length cR, .slice AP P.length cP] W fun e w' => e = .returned (.bool true) ∧ Below W.heap.size W w') := Lib.hid (fun W hb => sSamePicture_same AR AP P.length cR cP P rfl HS.out.pic.bls (by omega) W (by have h := (HOR.out.below hb (Nat.le_refl _)).rd.more hb.size; rw [e1] at h; exact h) (HRP.out W (HBR.out.trans (hb.mono hzr))))
          have HS3 : Hid (∀ W, Below wc.heap.size wc W → Calls Try.prog 37 #[.slice AR P.length cR, .slice AP P.length cP] W fun e w' => e = .returned (.bool true) ∧ Below W.heap.size W w') := Lib.hid (fun W hb => iSamePicture_same AR AP P.length cR cP P rfl HS.out.pic.bls (by omega) W (by have h := (HOR.out.below hb (Nat.le_refl _)).rd.more hb.size; rw [e1] at h; exact h) (HRP.out W (HBR.out.trans (hb.mono hzr))))
          subst e2
          subst e1
          go_wp2_with (first
            | (go_at_call 28; refine (HS1.out wc (Below.refl _ _)).mono ?_; rintro e w2 ⟨rfl, hb2⟩; have B2 := Lib.hid hb2; clear hb2)
            | (go_at_call 37; refine (HS3.out w2 B2.out).mono ?_; rintro e w3 ⟨rfl, hb3⟩; have B3 := Lib.hid (B2.out.trans (hb3.mono B2.out.size)); clear hb3))
          go_meet
          exact ⟨rfl, rfl, Lib.hid (HBR.out.trans (B3.out.mono hzr))⟩
        · have h5i : ¬ (C.length : Int) ≤ 512 := by omega
          go_wp2_with fail
          go_meet
          exact ⟨rfl, rfl, HBR⟩
      case rest =>
        obtain ⟨rfl, rfl, HB5⟩ := hcut
        obtain ⟨⟨j1, j2⟩, ⟨m1, m2⟩, ⟨d1, d2⟩, s1, s2⟩ := mix_small HS.out HS2.out
        have hSv := HS.out
        have hQv := HS2.out
        have JJ : Hid (∀ W, Below wp.heap.size wp W → Calls Try.prog 38 #[.slice AP P.length cP, .slice AQ Q.length cQ] W (GivesToldB (cmbL orF P Q) 0 W)) := Lib.hid (fun W hb => by have h := iJoinPictures_any AP P.length cP P rfl hSv.pic.bls hSv.pic.m16 hSv.i32 AQ Q.length cQ Q rfl hQv.pic.bls hQv.pic.m16 hQv.i32 hnP hnQ W (HRP.out W hb) (HRQ.out W hb); rw [j1] at h; exact h)
        have JM : Hid (∀ W, Below wp.heap.size wp W → Calls Try.prog 39 #[.slice AP P.length cP, .slice AQ Q.length cQ] W (GivesToldB (cmbL andF P Q) 0 W)) := Lib.hid (fun W hb => by have h := iMeetPictures_any AP P.length cP P rfl hSv.pic.bls hSv.pic.m16 hSv.i32 AQ Q.length cQ Q rfl hQv.pic.bls hQv.pic.m16 hQv.i32 hnP hnQ W (HRP.out W hb) (HRQ.out W hb); rw [m1] at h; exact h)
        have JD : Hid (∀ W, Below wp.heap.size wp W → Calls Try.prog 40 #[.slice AP P.length cP, .slice AQ Q.length cQ] W (GivesToldB (cmbL notF P Q) 0 W)) := Lib.hid (fun W hb => by have h := iMinusPictures_any AP P.length cP P rfl hSv.pic.bls hSv.pic.m16 hSv.i32 AQ Q.length cQ Q rfl hQv.pic.bls hQv.pic.m16 hQv.i32 hnP hnQ W (HRP.out W hb) (HRQ.out W hb); rw [d1] at h; exact h)
        have CP : Hid (∀ W, Below wp.heap.size wp W → Calls Try.prog 41 #[.slice AP P.length cP] W fun e w' => e = .returned (.tuple #[.int .i64 (C.length : Int), .int .i64 0]) ∧ Below W.heap.size W w') := Lib.hid (fun W hb => by have h := iCountPicture_any AP P.length cP P rfl hSv.pic.bls hSv.pic.m16 hSv.i32 hnP W (HRP.out W hb); rw [count_small hSv, ← HCP.out] at h; exact h)
        have CQ : Hid (∀ W, Below wp.heap.size wp W → Calls Try.prog 41 #[.slice AQ Q.length cQ] W fun e w' => e = .returned (.tuple #[.int .i64 ((specC Q).length : Int), .int .i64 0]) ∧ Below W.heap.size W w') := Lib.hid (fun W hb => by have h := iCountPicture_any AQ Q.length cQ Q rfl hQv.pic.bls hQv.pic.m16 hQv.i32 hnQ W (HRQ.out W hb); rw [count_small hQv] at h; exact h)
        have CV : Hid (∀ X, VPic X → ∀ A c W, Rd W W.heap.size 18 A X.length (bcs X) → Calls Try.prog 41 #[.slice A X.length c] W fun e w' => e = .returned (.tuple #[.int .i64 ((specC X).length : Int), .int .i64 0]) ∧ Below W.heap.size W w') := Lib.hid (fun X hX A c W hW => by have h := iCountPicture_any A X.length c X rfl hX.pic.bls hX.pic.m16 hX.i32 (by have := hX.few; omega) W hW; rw [hX.cnt] at h; exact h)
        obtain ⟨fk, fl⟩ := frame_small hSv
        rw [← HCP.out] at fk fl s1 s2
        obtain ⟨lx, ly, hL⟩ : ∃ lx ly, frmL P = [lx, ly] := ⟨_, _, two_of (frmL_length P)⟩
        obtain ⟨hx, hy, hH⟩ : ∃ hx hy, frmH P = [hx, hy] := ⟨_, _, two_of (frmH_length P)⟩
        have IF : Hid (∀ W, Below wp.heap.size wp W → Calls Try.prog 42 #[.slice AP P.length cP] W fun e w' => e = .returned (.tuple #[.agg #[.int .i32 lx, .int .i32 ly], .agg #[.int .i32 hx, .int .i32 hy], .int .i64 (if C.length = 0 then 6 else 0)]) ∧ Below W.heap.size W w') := Lib.hid (fun W hb => by have h := iFrameOf_any AP P.length cP P rfl hSv.pic.bls hSv.pic.m16 hSv.i32 hnP W (HRP.out W hb); unfold GivesFrame at h; rw [fk, hL, hH] at h; exact h)
        have HFR : Hid (0 < C.length → lx = loN C 0 C.length ∧ ly = loN C 1 C.length ∧ hx = hiN C 0 C.length ∧ hy = hiN C 1 C.length) := Lib.hid (fun h => by
          obtain ⟨e1, e2⟩ := fl h
          rw [hL] at e1
          rw [hH] at e2
          simp only [List.cons.injEq, and_true] at e1 e2
          exact ⟨e1.1, e1.2, e2.1, e2.2⟩)
        have HJ2 := Lib.hid j2
        have HM2 := Lib.hid m2
        have HD2 := Lib.hid d2
        have cj := j2.count
        have cm := m2.count
        have cd := d2.count
        clear j1 j2 m1 m2 d1 d2 hSv hQv fk fl hL hH
        generalize cmbL orF P Q = J at *
        generalize cmbL andF P Q = M at *
        generalize cmbL notF P Q = D at *
        generalize hnQ2 : (specC Q).length = nQ at *
        generalize hnJ : (specC J).length = nJ at *
        generalize hnM : (specC M).length = nM at *
        generalize hnD : (specC D).length = nD at *
        have HNJ := Lib.hid hnJ
        have HNM := Lib.hid hnM
        have HND := Lib.hid hnD
        clear hnQ2 hnJ hnM hnD HPO HAG
        have x5 := HB5.out.size
        go_wp2_with fail
        refine (JJ.out wc HB5.out).mono ?_
        rintro e v1 ⟨A1, c1, rfl, OJ, hb1⟩
        have x6 := hb1.size
        have B1 := Lib.hid (HB5.out.trans (hb1.mono x5))
        have OJ1 := Lib.hid OJ
        clear OJ hb1 JJ
        go_wp2_with fail
        refine (JM.out v1 B1.out).mono ?_
        rintro e v2 ⟨A3, c3, rfl, OM, hb2⟩
        have x7 := hb2.size
        have B2 := Lib.hid (B1.out.trans (hb2.mono (by omega)))
        have OJ2 := Lib.hid (OJ1.out.below hb2 (by omega))
        have OM2 := Lib.hid OM
        clear OM hb2 JM OJ1
        go_wp2_with fail
        refine (JD.out v2 B2.out).mono ?_
        rintro e v3 ⟨A4, c4, rfl, OD, hb3⟩
        have x8 := hb3.size
        have B3 := Lib.hid (B2.out.trans (hb3.mono (by omega)))
        have OJ3 := Lib.hid (OJ2.out.below hb3 (by omega))
        have OM3 := Lib.hid (OM2.out.below hb3 (by omega))
        have OD3 := Lib.hid OD
        clear OD hb3 JD OJ2 OM2
        go_wp2_with fail
        refine (CP.out v3 B3.out).mono ?_
        rintro e v4 ⟨rfl, hb4⟩
        have x9 := hb4.size
        have B4 := Lib.hid (B3.out.trans (hb4.mono (by omega)))
        have OJ4 := Lib.hid (OJ3.out.below hb4 (by omega))
        have OM4 := Lib.hid (OM3.out.below hb4 (by omega))
        have OD4 := Lib.hid (OD3.out.below hb4 (by omega))
        clear hb4 CP OJ3 OM3 OD3
        go_wp2_with fail
        refine (CQ.out v4 B4.out).mono ?_
        rintro e v5 ⟨rfl, hb5⟩
        have x10 := hb5.size
        have B5 := Lib.hid (B4.out.trans (hb5.mono (by omega)))
        have OJ5 := Lib.hid (OJ4.out.below hb5 (by omega))
        have OM5 := Lib.hid (OM4.out.below hb5 (by omega))
        have OD5 := Lib.hid (OD4.out.below hb5 (by omega))
        clear hb5 CQ OJ4 OM4 OD4
        go_wp2_with fail
        refine (CV.out J HJ2.out A1 c1 v5 (OJ5.out.rd.more (by omega))).mono ?_
        rw [HNJ.out]
        rintro e v6 ⟨rfl, hb6⟩
        have x11 := hb6.size
        have B6 := Lib.hid (B5.out.trans (hb6.mono (by omega)))
        have OM6 := Lib.hid (OM5.out.below hb6 (by omega))
        have OD6 := Lib.hid (OD5.out.below hb6 (by omega))
        clear hb6 OJ5 OM5 OD5
        go_wp2_with fail
        refine (CV.out M HM2.out A3 c3 v6 (OM6.out.rd.more (by omega))).mono ?_
        rw [HNM.out]
        rintro e v7 ⟨rfl, hb7⟩
        have x12 := hb7.size
        have B7 := Lib.hid (B6.out.trans (hb7.mono (by omega)))
        have OD7 := Lib.hid (OD6.out.below hb7 (by omega))
        clear hb7 OM6 OD6
        go_wp2_with fail
        refine (CV.out D HD2.out A4 c4 v7 (OD7.out.rd.more (by omega))).mono ?_
        rw [HND.out]
        rintro e v8 ⟨rfl, hb8⟩
        have x13 := hb8.size
        have B8 := Lib.hid (B7.out.trans (hb8.mono (by omega)))
        have r1 : (nJ : Int) + nM = C.length + nQ := by omega
        have r2 : (C.length : Int) - nM = nD := by omega
        clear hb8 OD7 CV HNJ HNM HND HJ2 HM2 HD2 s1 s2
        go_wp2_with fail
        refine (IF.out v8 B8.out).mono ?_
        rintro e v9 ⟨rfl, hb9⟩
        have x14 := hb9.size
        have B9 := Lib.hid (B8.out.trans (hb9.mono (by omega)))
        clear hb9 IF r1 r2
        as_aux_lemma =>
          go_upto_if 317 with fail
          have K6 : Hid (Blk ((v9.alloc (.cells #[.int .i32 lx, .int .i32 ly] 63)).alloc (.cells #[.int .i32 hx, .int .i32 hy] 63)) v9.heap.size 63 (ivs .i32 [lx, ly])) := Lib.hid ((Blk.newAt rfl rfl).alloc _)
          have K7 : Hid (Blk ((v9.alloc (.cells #[.int .i32 lx, .int .i32 ly] 63)).alloc (.cells #[.int .i32 hx, .int .i32 hy] 63)) (v9.heap.size + 1) 63 (ivs .i32 [hx, hy])) := Lib.hid (Blk.newAt (by simp) rfl)
          have BL := Lib.hid ((B9.out.alloc (by omega) (.cells #[.int .i32 lx, .int .i32 ly] 63)).alloc (by rw [size_alloc]; omega) (.cells #[.int .i32 hx, .int .i32 hy] 63))
          generalize (v9.alloc (.cells #[.int .i32 lx, .int .i32 ly] 63)).alloc (.cells #[.int .i32 hx, .int .i32 hy] 63) = wl at *
          clear B1 B2 B3 B4 B5 B6 B7 B8 B9 HB HB5 HBR HOR HO HRP HRQ HS2
          by_cases h0 : C.length = 0
          · have hC0 : C = [] := List.eq_nil_of_length_eq_zero h0
            subst hC0
            clear HLT HCL HCP HFR
            go_wp2
            go_ret
            exact ⟨rfl, HB0.out.trans (BL.out.mono hwz)⟩
          · have hC0 : ¬ C = [] := fun e => h0 (by rw [e]; rfl)
            have hpos : 0 < C.length := by omega
            have h0i : ¬ (C.length : Int) = 0 := by omega
            obtain ⟨f1, f2, f3, f4⟩ := HFR.out hpos
            have HF : Hid (∀ k (hk : k < C.length) x y, C[k] = [x, y] → lx ≤ x ∧ x ≤ hx ∧ ly ≤ y ∧ y ≤ hy) := Lib.hid (fun k hk x y e => by
              have c0 : crd C k 0 = x := by rw [crd, getD_nil hk, e]; rfl
              have c1 : crd C k 1 = y := by rw [crd, getD_nil hk, e]; rfl
              have g1 := loN_le C 0 C.length k hk
              have g2 := hiN_ge C 0 C.length k hk
              have g3 := loN_le C 1 C.length k hk
              have g4 := hiN_ge C 1 C.length k hk
              rw [c0, ← f1] at g1
              rw [c0, ← f3] at g2
              rw [c1, ← f2] at g3
              rw [c1, ← f4] at g4
              exact ⟨g1, g2, g3, g4⟩)
            have HP1 : Hid (∃ j, j < C.length ∧ crd C j 0 = lx) := Lib.hid (by rw [f1]; exact loN_met C 0 C.length hpos)
            have HP2 : Hid (∃ j, j < C.length ∧ crd C j 0 = hx) := Lib.hid (by rw [f3]; exact hiN_met C 0 C.length hpos)
            have HP3 : Hid (crd C 0 1 = ly) := Lib.hid (by
              have e := HCP.out
              subst e
              rw [f2]; exact low_row HS.out.pic.rising hpos)
            have HP4 : Hid (crd C (C.length - 1) 1 = hy) := Lib.hid (by
              have e := HCP.out
              subst e
              rw [f4]; exact high_row HS.out.pic.rising hpos)
            have HST : Hid (∀ (p : Bool) (k : Nat) (x v : Int), crd C k 0 = x → (p = true ↔ ∃ j, j < k ∧ crd C j 0 = v) → ((p || (x == v)) = true ↔ ∃ j, j < k + 1 ∧ crd C j 0 = v)) := Lib.hid (fun p k x v hx hp => by
              rw [Bool.or_eq_true, beq_iff_eq, hp]
              constructor
              · rintro (⟨j, hj, e⟩ | rfl)
                · exact ⟨j, by omega, e⟩
                · exact ⟨k, by omega, hx⟩
              · rintro ⟨j, hj, e⟩
                by_cases h : j = k
                · subst h
                  exact .inr (hx.symm.trans e)
                · exact .inl ⟨j, by omega, e⟩)
            have hlz := BL.out.size
            obtain ⟨gC, oC, hAC, hgC, hcC⟩ := (HRC.out wl BL.out).at_ (by omega)
            have hrow : ∀ i (hi : i < C.length), wl.rangeAt gC (oC + i * 2) ((C[i]).map (.int .i32)) := fun i hi => by
              have h2 := Rd.rangeAt (i := i * 2) (s := 2) hcC
              rw [pvs, ← List.map_drop, ← List.map_take, flat_row HRW.out hi] at h2
              exact h2
            have HCW : Hid (∀ W, Below wl.heap.size wl W → (∀ i (hi : i < C.length), W.cell? ⟨gC, oC + i * 2, none⟩ = some (.int .i32 (crd C i 0)) ∧ W.cell? ⟨gC, oC + i * 2 + 1, none⟩ = some (.int .i32 (crd C i 1))) ∧ W.cell? ⟨v9.heap.size, 0, none⟩ = some (.int .i32 lx) ∧ W.cell? ⟨v9.heap.size, 1, none⟩ = some (.int .i32 ly) ∧ W.cell? ⟨v9.heap.size + 1, 0, none⟩ = some (.int .i32 hx) ∧ W.cell? ⟨v9.heap.size + 1, 1, none⟩ = some (.int .i32 hy)) := Lib.hid (fun W hb => by
              refine ⟨fun i hi => ?_, (hb.block _ K6.out.lt).trans K6.out |> fun h => (show Blk W v9.heap.size _ (ivs .i32 [lx, ly]) from h).cell 0, (hb.block _ K6.out.lt).trans K6.out |> fun h => (show Blk W v9.heap.size _ (ivs .i32 [lx, ly]) from h).cell 1, (hb.block _ K7.out.lt).trans K7.out |> fun h => (show Blk W (v9.heap.size + 1) _ (ivs .i32 [hx, hy]) from h).cell 0, (hb.block _ K7.out.lt).trans K7.out |> fun h => (show Blk W (v9.heap.size + 1) _ (ivs .i32 [hx, hy]) from h).cell 1⟩
              have h1 := hrow i hi
              obtain ⟨x, y, e, _, _⟩ := HCL.out i hi
              rw [e] at h1
              have c0 : crd C i 0 = x := by rw [crd, getD_nil hi, e]; rfl
              have c1 : crd C i 1 = y := by rw [crd, getD_nil hi, e]; rfl
              rw [c0, c1]
              have a0 := h1 0 (.int .i32 x) rfl
              have a1 := h1 1 (.int .i32 y) rfl
              rw [Nat.add_zero] at a0
              exact ⟨(hb.cell (p := ⟨gC, oC + i * 2, none⟩) (show gC < wl.heap.size by omega)).trans a0, (hb.cell (p := ⟨gC, oC + i * 2 + 1, none⟩) (show gC < wl.heap.size by omega)).trans a1⟩)
            subst hAC
            clear hrow hcC f1 f2 f3 f4 HFR
            go_wp2
            go_loopw [39, 40, 41] (fun a b i wr => ∃ (k : Nat) (p q : Bool), k ≤ C.length ∧ i = .int .i64 k ∧ a = .bool p ∧ b = .bool q ∧ Hid (p = true ↔ ∃ j, j < k ∧ crd C j 0 = lx) ∧ Hid (q = true ↔ ∃ j, j < k ∧ crd C j 0 = hx) ∧ Hid (Below wl.heap.size wl wr)) (fun _ _ i _ => C.length - (intOf i).toNat)
            case atStart => exact ⟨0, false, false, Nat.zero_le _, rfl, rfl, rfl, Lib.hid ⟨fun h => (nomatch h), fun ⟨j, hj, _⟩ => by omega⟩, Lib.hid ⟨fun h => (nomatch h), fun ⟨j, hj, _⟩ => by omega⟩, Lib.hid (Below.refl _ _)⟩
            case round =>
              obtain ⟨k, p, q, hk, rfl, rfl, rfl, HPP, HQQ, HBw⟩ := hrel
              obtain ⟨hcell, l0, l1, e0, e1⟩ := HCW.out wr HBw.out
              by_cases hlt : k < C.length
              · have hki : (k : Int) < C.length := by omega
                obtain ⟨c0, c1⟩ := hcell k hlt
                obtain ⟨x, y, hxy, _, _⟩ := HCL.out k hlt
                have g0 : crd C k 0 = x := by rw [crd, getD_nil hlt, hxy]; rfl
                have g1 : crd C k 1 = y := by rw [crd, getD_nil hlt, hxy]; rfl
                obtain ⟨b1, b2, b3, b4⟩ := HF.out k hlt x y hxy
                have HN1 := Lib.hid (HST.out p k x lx g0 HPP.out)
                have HN2 := Lib.hid (HST.out q k x hx g0 HQQ.out)
                rw [g0] at c0
                rw [g1] at c1
                have n1 : ¬ x < lx := by omega
                have n2 : ¬ hx < x := by omega
                have n3 : ¬ y < ly := by omega
                have n4 : ¬ hy < y := by omega
                have m1 : decide (x < lx) = false := by simp; omega
                have m2 : decide (hx < x) = false := by simp; omega
                have m3 : decide (y < ly) = false := by simp; omega
                have m4 : decide (hy < y) = false := by simp; omega
                clear hcell hxy g0 g1 b1 b2 b3 b4 HPP HQQ
                cases p
                all_goals cases q
                all_goals
                  go_wp2_with fail
                  go_quiet (fail)
                  go_wp2
                  go_quiet (fail)
                  go_wp2
                  go_quiet (fail)
                  go_wp2
                  exact ⟨⟨k + 1, _, _, by omega, by go_num, rfl, rfl, HN1, HN2, Lib.hid (below_drewN HBw.out _)⟩, by simp [intOf]; omega⟩
              · obtain rfl : k = C.length := by omega
                obtain rfl : p = true := HPP.out.2 HP1.out
                obtain rfl : q = true := HQQ.out.2 HP2.out
                have a1 := (hcell 0 hpos).2
                have a2 := (hcell (C.length - 1) (by omega)).2
                rw [HP3.out] at a1
                rw [HP4.out] at a2
                rw [Nat.zero_mul, Nat.add_zero] at a1
                have u1 : IntKind.i64.wrap ((C.length : Int) - 1) = (C.length : Int) - 1 := IntWalk.i64_in _ (by omega)
                have u2 : (0 : Int) ≤ (C.length : Int) - 1 := by omega
                have u3 : ((C.length : Int) - 1).toNat = C.length - 1 := by omega
                have u4 : (C.length : Int) - 1 < (C.length : Int) := by omega
                have u5 : (0 : Int) < (C.length : Int) := by omega
                clear hcell HPP HQQ
                go_wp2_with fail
                go_quiet (fail)
                go_wp2
                go_ret
                exact ⟨rfl, HB0.out.trans ((BL.out.trans (below_drewN (HBw.out.mono hlz) _)).mono hwz)⟩
set_option maxRecDepth 100000 in
set_option maxHeartbeats 400000 in
theorem lawPictures_any (A : Option Addr) (n c : Nat) (l : List Int) (hl : l.length = n) (h255 : is255 l) (A2 : Option Addr) (n2 c2 : Nat) (l2 : List Int) (hl2 : l2.length = n2) (h255' : is255 l2) (w : World) (RA : Rd w w.heap.size 1 A n (l.map (.int .u8))) (RB : Rd w w.heap.size 1 A2 n2 (l2.map (.int .u8))) :
    Calls Try.prog 6 #[.slice A n c, .slice A2 n2 c2] w fun e w' => e = .returned (.bool true) ∧ Below w.heap.size w w' := by
  by_cases h3 : n ≤ 3000 ∧ n2 ≤ 3000
  · exact lawPictures_in A n c l hl h255 A2 n2 c2 l2 hl2 h255' h3.1 h3.2 w RA RB
  · have h3 : 3000 < n ∨ 3000 < n2 := by omega
    clear RA RB hl hl2 h255 h255'
    go_enter Try.func6, Try.ntmps6
    go_wp2_with fail
    refine (a2Long_out A A2 n c n2 c2 h3 w).mono ?_
    rintro e w0 ⟨rfl, rfl⟩
    go_wp2
    go_ret
    exact ⟨rfl, Below.refl _ _⟩
end Go.Proofs.Ytmagaapdijapiaa
