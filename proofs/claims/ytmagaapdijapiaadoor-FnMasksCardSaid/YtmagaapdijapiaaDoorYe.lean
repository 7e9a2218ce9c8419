/- Masks packed into bytes: the program's walk. -/
import Derived.Test.YtmagaapdijapiaaDoorRows
import Derived.Test.YtmagaapdijapiaaDoorYd
namespace Go.Proofs.YtmagaapdijapiaaDoor
open Go.ChangeShapes Go.WideShapes Go.ChangeAt Go.RowKit
set_option maxHeartbeats 1600000 in
theorem isSet_any (M : List Int) (hM : M.length = 16) (h16 : is16 M) (k : Nat) (hk : k < 256) (w : World) :
    Calls Tryd.prog 50 #[.agg (ivs .u16 M), .int .i64 k] w fun e w' => e = .returned (.bool (bitK M k)) ∧ Below w.heap.size w w' := by
  obtain ⟨u, hu⟩ : ∃ u : Nat, (k : Int) % 16 = u := ⟨k % 16, by omega⟩
  obtain ⟨v, hv⟩ : ∃ v : Nat, (k : Int) / 16 = v := ⟨k / 16, by omega⟩
  have hbk : bitK M k = bitB M u v := by rw [bitK, show k % 16 = u by omega, show k / 16 = v by omega]
  have h0 : Blk (w.alloc (.cells (ivs .u16 M) 44)) w.heap.size 44 (ivs .u16 M) := Blk.newAt rfl rfl
  have hv16 : v < 16 := by omega
  have hu16 : u < 16 := by omega
  have c1 := h0.getAtG (i := v) (by omega)
  obtain ⟨v0, v1⟩ := h16.getD v
  have hb : bitB M u v = decide (M.getD v 0 / 2 ^ u % 2 = 1) := rfl
  rw [hbk, hb]
  generalize M.getD v 0 = z at *
  have hkI : (k : Int) < 256 := by omega
  have hk0 : (0 : Int) ≤ k := by omega
  have hx0 : (0 : Int) ≤ u := by omega
  have hx1 : (u : Int) < 16 := by omega
  have hy0 : (0 : Int) ≤ v := by omega
  have hy1 : (v : Int) < 16 := by omega
  clear h0 hb hbk h16
  go_enter Tryd.func50, Tryd.ntmps50
  go_wp2
  go_ret
  rw [bit_eq v0 v1]
  exact ⟨rfl, (Below.refl _ _).alloc (Nat.le_refl _) _⟩
set_option maxRecDepth 20000 in
set_option maxHeartbeats 3200000 in
theorem iPackMask_any (M : List Int) (hM : M.length = 16) (h16 : is16 M) (w : World) :
    Calls Tryd.prog 20 #[.agg (ivs .u16 M)] w (GivesPk (pmL M) w) := by
  obtain ⟨i0, hi, iz0, iz1, iz2⟩ := info_parts Byte_info
  have h0 : Blk (w.alloc (.cells (ivs .u16 M) 44)) w.heap.size 44 (ivs .u16 M) := Blk.newAt rfl rfl
  have H0 := Lib.hid h0
  clear h0
  go_enter Tryd.func20, Tryd.ntmps20
  go_wp2
  go_loopw [3, 4, 5, 8] (fun v q o i wr => ∃ (k : Nat) (O : List Int) (f : Nat) (s : Bool) (r : Nat) (g cc : Nat), k ≤ 256 ∧ v = .slice (some ⟨g, 0, none⟩) O.length cc ∧ o = .bool s ∧ q = .int .i64 f ∧ i = .int .i64 k ∧ Hid (pmTo M k = (O, f, s)) ∧ Hid (f + r = k) ∧ Hid (wr.ownsRow (w.heap.size + 1) 5 1 (.slice (some ⟨g, 0, none⟩) O.length cc) O.length (O.map (.int .u8))) ∧ Hid (Blk wr w.heap.size 44 (ivs .u16 M)) ∧ w.heap.size + 1 ≤ wr.heap.size ∧ Hid (Below w.heap.size w wr)) (fun _ _ _ i _ => 256 - (intOf i).toNat)
  case atStart =>
    refine ⟨0, [], 0, false, 0, _, _, by omega, rfl, rfl, rfl, rfl, Lib.hid rfl, Lib.hid rfl, Lib.hid ?_, Lib.hid (H0.out.alloc _), by simp, Lib.hid (((Below.refl _ _).alloc (Nat.le_refl _) _).alloc (by simp) _)⟩
    have := World.ownsRow_lit (e := 5) (base := w.heap.size + 1) (size := 1) (w.alloc (.cells (ivs .u16 M) 44)) #[] 0 (by simp) (by unfold maxLen; omega) rfl
    rw [size_alloc] at this
    exact this
  case round =>
    clear H0
    obtain ⟨k, O, f, s, r, g, cc, hk, rfl, rfl, rfl, rfl, HP, HF, HO, H0, hz, HB⟩ := hrel
    have hlen := pm_len HP.out
    by_cases hlt : k < 256
    · have hkI : (k : Int) < 256 := by omega
      have hk0 : (0 : Int) ≤ k := by omega
      have hr255 : (r : Int) ≤ 255 := by have := HF.out; omega
      have hr0 : (0 : Int) ≤ r := by omega
      have hkf : (k : Int) - (f : Int) = (r : Int) := by have := HF.out; omega
      have HX := Lib.hid (isSet_any M hM h16 k hlt wr)
      have HSM := Lib.hid (fun h => pm_same HP.out h)
      have HTN := Lib.hid (fun h => pm_turn HP.out HF.out h)
      have HF1 : Hid (f + (r + 1) = k + 1) := Lib.hid (by have := HF.out; omega)
      clear HP HF
      by_cases hbs : bitK M k = s
      · have HS2 := Lib.hid (HSM.out hbs)
        rw [hbs] at HX
        clear HSM HTN hbs
        cases s
        all_goals
          go_wp2_with (first
            | refine wpList_load_row rfl _ _ rfl w.heap.size rfl 44 (ivs .u16 M) (0, 0) _ H0.out Tryd.underlying44 rfl (by rw [ivs_size, hM]; exact size44) ?_
            | (go_at_call 50; refine HX.out.mono ?_; rintro e w2 ⟨rfl, hb2⟩; have hz2 := hb2.size; have HO2 := Lib.hid (own_below HO.out hb2 (Nat.le_refl _)); have H2 := Lib.hid (H0.out.below hb2 H0.out.lt); have HB2 := Lib.hid (HB.out.trans (hb2.mono (by omega))); clear hb2))
          exact ⟨⟨k + 1, O, f, _, r + 1, g, cc, by omega, rfl, rfl, rfl, by go_num, HS2, HF1, HO2, H2, by omega, HB2⟩, by simp [intOf]; omega⟩
      · have HT2 := Lib.hid (HTN.out hbs)
        have hne : bitK M k = !s := by cases hq : bitK M k <;> cases s <;> first | rfl | exact absurd hq hbs
        rw [hne] at HX
        clear HSM HTN hbs hne HF1
        cases s
        all_goals
          go_wp2_with (first
            | refine wpList_load_row rfl _ _ rfl w.heap.size rfl 44 (ivs .u16 M) (0, 0) _ H0.out Tryd.underlying44 rfl (by rw [ivs_size, hM]; exact size44) ?_
            | (go_at_call 50; refine HX.out.mono ?_; rintro e w2 ⟨rfl, hb2⟩; have hz2 := hb2.size; have HO2 := Lib.hid (own_below HO.out hb2 (Nat.le_refl _)); have H2 := Lib.hid (H0.out.below hb2 H0.out.lt); have HB2 := Lib.hid (HB.out.trans (hb2.mono (by omega))); clear hb2; have HN2 := Lib.hid (Blk.news (k := .u8) (l := [(r : Int)]) (t := 5) (w := w2.alloc (.cells #[.int .u8 (r : Int)] 5)) (g := w2.heap.size) (Blk.newAt rfl rfl)))
            | (at_builtin; refine wpList_append_own _ rfl _ _ 22 rfl (w.heap.size + 1) 5 i0 _ 1 1 Tryd.underlying22 hi iz0 iz1 iz2 rfl (by decide) (.slice (some ⟨g, 0, none⟩) O.length cc) O.length _ rfl (HO2.out.alloc _) ⟨w2.heap.size, 0, none⟩ 1 1 ([(r : Int)].map (.int .u8)) rfl rfl HN2.out ints_one (by unfold maxLen; omega) (by omega) (by rw [size_alloc]; omega) ?_; intro v' w3 hown' hgrow _; rw [← List.map_append] at hown'; have HOWN := Lib.hid hown'; have HGR := Lib.hid hgrow; clear hown' hgrow))
          obtain ⟨A1, c1', hve, hOO⟩ := Own.of_row HOWN.out
          obtain ⟨g2, cur1, hA1, _⟩ := hOO.at_ (by omega)
          subst hve hA1
          have hne := fun j e => (HO2.out.lt j e).1
          exact ⟨⟨k + 1, O ++ [(r : Int)], k, _, 1, g2, c1', by omega, by rw [List.length_append]; rfl, rfl, rfl, by go_num, HT2, Lib.hid rfl, Lib.hid (by rw [List.length_append]; exact HOWN.out), Lib.hid ((H2.out.alloc _).grown HGR.out (fun e => by have := hne _ e.symm; omega)), by have := HGR.out.size; rw [size_alloc] at this; omega, Lib.hid ((HB2.out.alloc (by omega) _).grown HGR.out (by rw [size_alloc]; omega) (fun j e => by have := hne j e; omega))⟩, by simp [intOf]; omega⟩
    · obtain rfl : k = 256 := by omega
      have HE : Hid (pmL M = O) := Lib.hid (by rw [pmL, HP.out])
      obtain ⟨A1, c1', hve, hO⟩ := Own.of_row HO.out
      cases hve
      have HOO := Lib.hid hO
      clear hO
      go_wp2
      go_ret
      exact ⟨g, cc, by rw [HE.out]; rfl, by rw [HE.out]; exact HOO.out.less (by omega), HB.out⟩
end Go.Proofs.YtmagaapdijapiaaDoor
