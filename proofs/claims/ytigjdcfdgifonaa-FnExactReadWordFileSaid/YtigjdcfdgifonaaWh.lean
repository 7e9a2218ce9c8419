/- The file of words: the reference's walk. -/
import Derived.Test.YtigjdcfdgifonaaRows
import Derived.Test.YtigjdcfdgifonaaWg
namespace Go.Proofs.Ytigjdcfdgifonaa
open Go.ChangeShapes Go.WideShapes Go.ChangeAt Go.RowKit
set_option maxRecDepth 20000 in
set_option maxHeartbeats 6400000 in
theorem sWordFile_any (A : Option Addr) (n c : Nat) (l : List ByteArray) (hl : l.length = n) (hn : n ≤ 1048576) (hz : ∀ s ∈ l, s.size ≤ 1048576) (w : World) (hR : Rd w w.heap.size 1 A n (strs l)) :
    Calls Try.prog 29 #[.slice A n c] w (GivesF2 (wfF l) (wfC l) w) := by
  obtain ⟨i0, hi, hz0, hz1, hz2⟩ := info_parts Byt_info
  have h0 : (w.alloc (.cells #[] 5)).ownsRow w.heap.size 5 1 (.slice (some ⟨w.heap.size, 0, none⟩) 0 0) 0 ((wData (l.take (min 0 256))).map (.int .u8)) := World.ownsRow_lit (e := 5) (base := w.heap.size) (size := 1) w #[] 0 (Nat.le_refl _) (by unfold maxLen; omega) rfl
  have H0 := Lib.hid h0
  have HR := Lib.hid hR
  have HZ := Lib.hid hz
  have Hl := Lib.hid hl
  clear h0 hR hz hl
  go_enter Try.func29, Try.ntmps29
  go_wp2
  go_loopw [4, 5, 6, 7, 8] (fun v i _ _ _ wr => ∃ k : Nat, k ≤ n ∧ i = .int .i64 k ∧ Hid (∀ j (h : j < l.length), j < k → wOk l[j] = true) ∧ (∃ g cc, v = .slice (some ⟨g, 0, none⟩) (min k 256 * 16) cc) ∧ wr.ownsRow w.heap.size 5 1 v (min k 256 * 16) ((wData (l.take (min k 256))).map (.int .u8)) ∧ Below w.heap.size w wr) (fun _ i _ _ _ _ => n - (intOf i).toNat)
  case atStart => exact ⟨0, by omega, rfl, Lib.hid (fun j h hj => by omega), ⟨_, _, rfl⟩, H0.out, (Below.refl _ _).alloc (Nat.le_refl _) _⟩
  case round =>
    clear H0
    obtain ⟨k, hk, rfl, hv, ⟨g, cc, rfl⟩, ho, hb⟩ := hrel
    by_cases hlt : k < n
    · have hkl : k < l.length := by rw [Hl.out]; exact hlt
      obtain ⟨b, o, rfl, hbB, hc⟩ := (HR.out.below hb (Nat.le_refl _)).at_ (by omega)
      have c1 := hc k _ (strs_at hkl)
      have hcd := fun W => sCodeOfWord_any l[k] (HZ.out _ (List.getElem_mem _)) W
      have hwl := wcV_length l[k]
      have hlt' : (k : Int) < n := by omega
      have HO := Lib.hid ho
      have HB := Lib.hid hb
      have HS := Lib.hid (wData_snoc hkl)
      have hno := fun h => wOks_no (k := k) hkl h
      have hv2 : wOk l[k] = true → Hid (∀ j (h : j < l.length), j < k + 1 → wOk l[j] = true) := fun h => Lib.hid (fun j hj hjk => by
        by_cases e : j = k
        · subst e; exact h
        · exact hv.out j hj (by omega))
      have HNO := Lib.hid hno
      have HV := Lib.hid hv2
      have hcode : wcC l[k] = if wOk l[k] then 0 else 1 := rfl
      have HC := Lib.hid hcode
      have HWL := Lib.hid hwl
      have hks : (min k 256 * 16 + 16 : Nat) ≤ 8192 := by omega
      have HKS := Lib.hid hks
      clear hc hbB ho hb hno hv2 hwl hcode hv hks
      generalize l[k] = s at *
      rcases hok : wOk s with _ | _
      · rw [hok] at HC
        have hcd1 := hcd
        rw [HC.out] at hcd1
        have HCD := Lib.hid hcd1
        have hf : wOks l = false := HNO.out hok
        have e1 : wfC l = 1 := by rw [wfC, hf]; rfl
        have e2 : wfF l = [] := by rw [wfF, hf]; rfl
        have E1 := Lib.hid e1
        have E2 := Lib.hid e2
        clear hcd hcd1 hf e1 e2 hok
        generalize wcV s = V at *
        go_wp2_with (first
          | (go_at_call 59; refine (HCD.out _).mono ?_; rintro e w2 ⟨rfl, hb2⟩; have HB2 := Lib.hid hb2; clear hb2)
          | refine wpList_store_row rfl _ _ _ rfl w2.heap.size (ivs .u8 V) rfl rfl 76 (ivs .u8 (List.replicate 16 0)) (Blk.newAt rfl rfl) (by rw [ivs_size, HWL.out]; exact size76) (by simp [ivs_size, HWL.out]) ivs_one ?_)
        go_ret2
        have B2 := HB.out.trans (HB2.out.mono HB.out.size)
        have B3 := below_setRow (B2.alloc B2.size (.cells #[.int .u8 0, .int .u8 0, .int .u8 0, .int .u8 0, .int .u8 0, .int .u8 0, .int .u8 0, .int .u8 0, .int .u8 0, .int .u8 0, .int .u8 0, .int .u8 0, .int .u8 0, .int .u8 0, .int .u8 0, .int .u8 0] 76)) (g := w2.heap.size) B2.size (ivs .u8 V)
        have hz3 : ((w2.alloc (.cells #[.int .u8 0, .int .u8 0, .int .u8 0, .int .u8 0, .int .u8 0, .int .u8 0, .int .u8 0, .int .u8 0, .int .u8 0, .int .u8 0, .int .u8 0, .int .u8 0, .int .u8 0, .int .u8 0, .int .u8 0, .int .u8 0] 76)).setRow w2.heap.size (ivs .u8 V)).heap.size = w2.heap.size + 1 := by rw [size_setRow, size_alloc]
        refine ⟨some ⟨w2.heap.size + 1, 0, none⟩, 0, ?_, ?_, B3.alloc B3.size (.cells #[] 65)⟩
        · rw [E1.out, E2.out]; rfl
        · rw [E2.out]; exact ⟨rfl, .inr ⟨_, #[], rfl, by rw [← hz3]; exact B3.size, by rw [size_alloc, hz3]; omega, Blk.newAt (by rw [size_setRow, size_alloc]) rfl, Nat.le_refl _, by unfold maxLen; omega, rfl, rfl⟩⟩
      · rw [hok] at HC
        have hcd1 := hcd
        rw [HC.out] at hcd1
        have HCD := Lib.hid hcd1
        have HV2 := HV.out hok
        clear hcd hcd1 hok HNO HV
        generalize wcV s = V at *
        go_wp2_with (first
          | (go_at_call 59; refine (HCD.out _).mono ?_; rintro e w2 ⟨rfl, hb2⟩; have HB2 := Lib.hid hb2; have HS2 : Hid (Below w2.heap.size w2 ((w2.alloc (.cells #[.int .u8 0, .int .u8 0, .int .u8 0, .int .u8 0, .int .u8 0, .int .u8 0, .int .u8 0, .int .u8 0, .int .u8 0, .int .u8 0, .int .u8 0, .int .u8 0, .int .u8 0, .int .u8 0, .int .u8 0, .int .u8 0] 76)).setRow w2.heap.size (ivs .u8 V))) := Lib.hid (below_setRow ((Below.refl _ _).alloc (Nat.le_refl _) _) (Nat.le_refl _) _); have HO3 := Lib.hid (own_below (own_below HO.out hb2 (Nat.le_refl _)) HS2.out (Nat.le_refl _)); have HR2 := Lib.hid ((Blk.newAt (w := w2) (cs := (ivs .u8 (List.replicate 16 0))) (t := 76) rfl rfl).row (ivs .u8 V)); clear hb2)
          | refine wpList_store_row rfl _ _ _ rfl w2.heap.size (ivs .u8 V) rfl rfl 76 (ivs .u8 (List.replicate 16 0)) (Blk.newAt rfl rfl) (by rw [ivs_size, HWL.out]; exact size76) (by simp [ivs_size, HWL.out]) ivs_one ?_)
        have hB4 : Below w.heap.size w ((w2.alloc (.cells #[.int .u8 0, .int .u8 0, .int .u8 0, .int .u8 0, .int .u8 0, .int .u8 0, .int .u8 0, .int .u8 0, .int .u8 0, .int .u8 0, .int .u8 0, .int .u8 0, .int .u8 0, .int .u8 0, .int .u8 0, .int .u8 0] 76)).setRow w2.heap.size (ivs .u8 V)) := HB.out.trans ((HB2.out.mono HB.out.size).trans (HS2.out.mono (by have := HB2.out.size; have := HB.out.size; omega)))
        have HB4 := Lib.hid hB4
        have HZ2 : Hid (w.heap.size ≤ w2.heap.size) := Lib.hid (by have := HB2.out.size; have := HB.out.size; omega)
        clear hB4
        obtain ⟨wo, rfl⟩ : ∃ wo : World, wo = wr := ⟨_, rfl⟩
        go_loopw [4, 8] (fun v j wr => ∃ q : Nat, q ≤ 16 ∧ (256 ≤ k → q = 0) ∧ j = .int .i64 q ∧ (∃ g cc, v = .slice (some ⟨g, 0, none⟩) (min k 256 * 16 + q) cc) ∧ wr.ownsRow w.heap.size 5 1 v (min k 256 * 16 + q) ((wData (l.take (min k 256)) ++ V.take q).map (.int .u8)) ∧ Blk wr w2.heap.size 76 (ivs .u8 V) ∧ Below w.heap.size w wr) (fun _ j _ => 16 - (intOf j).toNat)
        case atStart => exact ⟨0, by omega, fun _ => rfl, rfl, ⟨_, _, rfl⟩, by rw [List.take_zero, List.append_nil]; exact HO3.out, HR2.out, HB4.out⟩
        case round =>
          clear HO3 HR2 HB4 HO HS2 HCD c1 HC
          obtain ⟨q, hq, hq0, rfl, ⟨g1, c1, rfl⟩, ho, h2, hb⟩ := hrel
          have HO := Lib.hid ho
          have HBr := Lib.hid hb
          have H2 := Lib.hid h2
          clear ho hb
          by_cases hq16 : q < 16
          · have hq16' : (q : Int) < 16 := by omega
            by_cases h256 : k < 256
            · have h256' : (k : Int) < 256 := by omega
              have hqV : q < V.length := by rw [HWL.out]; exact hq16
              have c2 := h2.cellI (i := q) hqV
              have htk : V.take (q + 1) = V.take q ++ [V[q]] := List.take_succ_eq_append_getElem hqV
              have HTK := Lib.hid htk
              obtain ⟨x, hx⟩ : ∃ x, x = V[q] := ⟨_, rfl⟩
              rw [← hx] at c2 HTK
              have hcell : Blk (wr.alloc (.cells (ivs .u8 [x]) 5)) wr.heap.size 5 (ivs .u8 [x]) := Blk.newAt rfl rfl
              have Hn := Lib.hid hcell.news
              clear hcell hx h2 htk
              go_wp2_with (at_builtin; refine wpList_append_own _ rfl (.tmp 35) (.tmp 39) 52 rfl w.heap.size 5 i0 _ 1 1 Try.underlying52 hi hz0 hz1 hz2 rfl (by decide) (.slice (some ⟨g1, 0, none⟩) (min k 256 * 16 + q) c1) (min k 256 * 16 + q) _ rfl (HO.out.alloc _) ⟨wr.heap.size, 0, none⟩ 1 1 ([x].map (.int .u8)) rfl rfl Hn.out ints_one (by unfold maxLen; have := HKS.out; omega) (by omega) (by rw [size_alloc]; have := HBr.out.size; omega) ?_; intro v' w1 hown' hgrow _; have HOWN := Lib.hid hown'; have HGR := Lib.hid hgrow; clear hown' hgrow)
              obtain ⟨A1, c1', hve, hOO⟩ := Own.of_row HOWN.out
              obtain ⟨g2, cur1, hA1, _⟩ := hOO.at_ (by omega)
              subst hve hA1
              refine ⟨⟨q + 1, by omega, fun h => by omega, by go_num, ⟨g2, c1', rfl⟩, ?_, (H2.out.alloc _).grown HGR.out (fun e => ?_), (HBr.out.alloc HBr.out.size _).grown HGR.out (by rw [size_alloc]; have := HBr.out.size; omega) (fun j e => (HO.out.lt _ e).1)⟩, by simp [intOf]; omega⟩
              · rw [HTK.out, ← List.append_assoc, List.map_append]
                exact HOWN.out
              · have hg3 : some w2.heap.size = some g1 := e
                have hg4 : w2.heap.size = g1 := Option.some.inj hg3
                obtain ⟨A3, c3, hv3, hO3⟩ := Own.of_row HO.out
                cases hv3
                rcases hO3.2 with ⟨h, _⟩ | ⟨g3, cur3, h3, _, _, hB3, _⟩
                · cases h
                · cases h3
                  have h76 := H2.out
                  rw [hg4] at h76
                  have := Option.some.inj (h76.symm.trans hB3)
                  simp at this
            · have h256' : ¬ (k : Int) < 256 := by omega
              obtain rfl : q = 0 := hq0 (by omega)
              have e256 : min (k + 1) 256 = min k 256 := by omega
              clear h2
              go_wp2
              refine ⟨⟨k + 1, by omega, by go_num, HV2, ⟨g1, c1, by rw [e256]; rfl⟩, ?_, HBr.out⟩, by simp [intOf]; omega⟩
              have := HO.out
              rw [List.take_zero, List.append_nil] at this
              rw [e256]
              exact this
          · obtain rfl : q = 16 := by omega
            have hk256 : k < 256 := by
              rcases Nat.lt_or_ge k 256 with h | h
              · exact h
              · have := hq0 h; omega
            have e256 : min (k + 1) 256 = k + 1 := by omega
            have e257 : min k 256 = k := by omega
            have HWW := Lib.hid e257
            clear h2
            go_wp2
            refine ⟨⟨k + 1, by omega, by go_num, HV2, ⟨g1, c1, ?_⟩, ?_, HBr.out⟩, by simp [intOf]; omega⟩
            · rw [e256, HWW.out, Nat.add_mul, Nat.one_mul]
            · have := HO.out
              rw [HWW.out, show V.take 16 = V from List.take_of_length_le (by rw [HWL.out]; exact Nat.le_refl _)] at this
              rw [e256, HS.out, HWW.out, Nat.add_mul, Nat.one_mul]
              exact this
    · obtain rfl : k = n := by omega
      have hall : wOks l = true := wOks_yes (fun j hj => hv.out j hj (by rw [← Hl.out]; exact hj))
      have HB := Lib.hid hb
      by_cases h256 : k ≤ 256
      · have e256 : min k 256 = k := by omega
        rw [e256, List.take_of_length_le (by rw [Hl.out]; exact Nat.le_refl _)] at ho
        rw [e256]
        obtain ⟨A1, c1', hve, hO⟩ := Own.of_row ho
        cases hve
        have HO := Lib.hid hO
        have e1 : wfC l = 0 := by rw [wfC, hall, Hl.out, if_pos rfl, if_pos h256]
        have e2 : wfF l = packOf 3 k (wData l) := by rw [wfF, if_pos ⟨hall, by rw [Hl.out]; exact h256⟩, Hl.out]
        have E1 := Lib.hid e1
        have E2 := Lib.hid e2
        have h256' : (k : Int) ≤ 256 := by omega
        have hpk := l09Pack_any g 0 (k * 16) cc 3 k (by omega) (by omega) (by omega) (by omega) (wData l) (by rw [wData_length, Hl.out]) (by omega) wr (HO.out.rd.more (Nat.le_refl _))
        have HP := Lib.hid hpk
        clear hpk hall e1 e2 hv ho hO hb e256
        go_wp2_with (go_at_call 60; refine HP.out.mono ?_; rintro e w2 ⟨A2, c2, rfl, hO2, hb2⟩; have HO2 := Lib.hid hO2; have HB2 := Lib.hid hb2; clear hO2 hb2)
        go_ret2
        refine ⟨A2, c2, ?_, ?_, HB.out.trans (HB2.out.mono HB.out.size)⟩
        · rw [E1.out, E2.out]; rfl
        · rw [E2.out]; exact HO2.out.less HB.out.size
      · have e1 : wfC l = 3 := by rw [wfC, hall, Hl.out, if_pos rfl, if_neg h256]
        have e2 : wfF l = [] := by rw [wfF, if_neg (fun h => h256 (by rw [← Hl.out]; exact h.2))]
        have E1 := Lib.hid e1
        have E2 := Lib.hid e2
        have h256' : ¬ (k : Int) ≤ 256 := by omega
        clear hall e1 e2 hv ho hb
        go_wp2
        go_ret2
        refine ⟨some ⟨wr.heap.size, 0, none⟩, 0, ?_, ?_, HB.out.alloc HB.out.size (.cells #[] 65)⟩
        · rw [E1.out, E2.out]; rfl
        · rw [E2.out]; exact ⟨rfl, .inr ⟨_, #[], rfl, HB.out.size, by rw [size_alloc]; omega, Blk.newAt rfl rfl, Nat.le_refl _, by unfold maxLen; omega, rfl, rfl⟩⟩
end Go.Proofs.Ytigjdcfdgifonaa
