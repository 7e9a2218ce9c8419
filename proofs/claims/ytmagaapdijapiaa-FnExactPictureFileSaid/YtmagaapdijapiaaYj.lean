/- The file of a picture: the reference's walk. -/
import Derived.Test.YtmagaapdijapiaaRows
import Derived.Test.YtmagaapdijapiaaYi
namespace Go.Proofs.Ytmagaapdijapiaa
open Go.ChangeShapes Go.WideShapes Go.ChangeAt Go.RowKit
theorem four_news (W : World) (n : Int) : ∀ j u, ((four n).map (Value.int .u8))[j]? = some u → (W.alloc (.cells (ivs .u8 (four n)) 5)).cell? ((⟨W.heap.size, 0, none⟩ : Addr).add j) = some u := Blk.news (k := .u8) (l := four n) (t := 5) (Blk.newAt rfl rfl)
set_option maxRecDepth 20000 in
set_option maxHeartbeats 6400000 in
theorem sPictureFile_any (A : Option Addr) (n c : Nat) (l : List Bl) (hl : l.length = n) (hrow : Bls l) (h16 : ∀ b ∈ l, is16 b.2) (h32 : ∀ b ∈ l, ∀ x ∈ b.1, -2147483648 ≤ x ∧ x ≤ 2147483647) (hn : n ≤ 1048576) (w : World) (hR : Rd w w.heap.size 18 A n (bcs l)) :
    Calls Try.prog 8 #[.slice A n c] w (GivesFp (pfF l) (pfC l) w) := by
  obtain ⟨i0, hi, iz0, iz1, iz2⟩ := info_parts Byte_info
  have ho := fun W h => l07Ok_any A n c l hl hrow h16 h32 hn W h
  cases hok : vpB l
  · have e1 : pfF l = [] := by rw [pfF, hok, if_neg (by simp)]
    have e2 : pfC l = 1 := by rw [pfC, hok]; rfl
    rw [e1, e2]
    rw [hok] at ho
    clear hok hrow h16 h32 hl e1 e2
    go_enter Try.func8, Try.ntmps8
    go_wp2_with (go_at_call 43; refine (ho _ (hR.more (by first | exact Nat.le_refl _ | omega))).mono ?_; rintro e w1 ⟨rfl, b1⟩)
    go_ret2
    exact GivesFp.lit b1
  · rw [hok] at ho
    have hfew := hok
    rw [vpB, Bool.and_eq_true, decide_eq_true_iff] at hfew
    have hn64 : n ≤ 64 := by have := hfew.2; omega
    have HO := Lib.hid ho
    have HR := Lib.hid hR
    have HROW := Lib.hid hrow
    have H16 := Lib.hid h16
    have HL := Lib.hid hl
    have HOK := Lib.hid hok
    clear ho hR hrow h16 h32 hl hok hfew
    go_enter Try.func8, Try.ntmps8
    go_wp2_with (go_at_call 43; refine (HO.out _ HR.out).mono ?_; rintro e w1 ⟨rfl, b1⟩; have B1 := Lib.hid b1; clear b1)
    have h0 : (w1.alloc (.cells #[] 5)).ownsRow w.heap.size 5 1 (.slice (some ⟨w1.heap.size, 0, none⟩) 0 0) 0 ((picD (l.take 0)).map (.int .u8)) := World.ownsRow_lit (e := 5) (base := w.heap.size) (size := 1) w1 #[] 0 B1.out.size (by unfold maxLen; omega) rfl
    have H0 := Lib.hid h0
    clear h0
    go_loopw [4, 5] (fun v i wr => ∃ (k : Nat) (D : List Int) (g cc : Nat), k ≤ n ∧ i = .int .i64 k ∧ v = .slice (some ⟨g, 0, none⟩) D.length cc ∧ Hid (D = picD (l.take k)) ∧ Hid (wr.ownsRow w.heap.size 5 1 (.slice (some ⟨g, 0, none⟩) D.length cc) D.length (D.map (.int .u8))) ∧ Hid (Below w.heap.size w wr)) (fun _ i _ => n - (intOf i).toNat)
    case atStart => exact ⟨0, [], _, _, Nat.zero_le _, rfl, rfl, Lib.hid rfl, H0, Lib.hid (B1.out.alloc B1.out.size _)⟩
    case round =>
      clear H0
      obtain ⟨k, D, g, cc, hk, rfl, rfl, HD, HOW, HB⟩ := hrel
      have hDl : D.length ≤ 277872640 := by
        have h1 := picD_le (l.take k)
        rw [← HD.out, List.length_take] at h1
        omega
      by_cases hlt : k < n
      · have hkl : k < l.length := by have := HL.out; omega
        have hkI : (k : Int) < n := by omega
        have hk0 : (0 : Int) ≤ k := by omega
        obtain ⟨b, o, rfl, hbB, hc⟩ := HR.out.at_ (by omega)
        have hco := fun (W : World) (hb : Below w.heap.size w W) => rd_cornerY (HR.out.below hb (Nat.le_refl _)) HROW.out HL.out hkl
        have hF1 := HROW.out.at_ hkl
        have hF16 := H16.out _ (List.getElem_mem hkl)
        have hsn := picD_snoc hkl
        rw [← HD.out] at hsn
        obtain ⟨F, hF⟩ : ∃ F, F = l[k] := ⟨_, rfl⟩
        rw [← hF] at hco hF1 hF16 hsn
        obtain ⟨C, M⟩ := F
        obtain ⟨X, Y, rfl⟩ : ∃ X Y, C = [X, Y] := ⟨_, _, two_of hF1.1⟩
        have hbd : blkD ([X, Y], M) = four (X % 4294967296) ++ four (Y % 4294967296) ++ [((pmL M).length : Int) % 256] ++ pmL M := rfl
        rw [hbd] at hsn
        have HCO : Hid (∀ (W : World), Below w.heap.size w W → W.cell? ⟨b, o + k * 18, none⟩ = some (.int .i32 X) ∧ W.cell? ⟨b, o + k * 18 + 1, none⟩ = some (.int .i32 Y) ∧ W.rangeAt b (o + k * 18 + 2) (M.map (.int .u16))) := Lib.hid hco
        have HSN := Lib.hid hsn
        have HF1 := Lib.hid hF1
        have hpl := pmL_length M
        have HPM := Lib.hid (fun W => sPackMask_any M hF1.2 hF16 W)
        have hzw := HB.out.size
        obtain ⟨d0, _, _⟩ := HCO.out wr HB.out
        have HN5 := Lib.hid (four_news wr (X % 4294967296))
        clear hc hbB hco hF1 hF16 hF hsn hbd HD
        generalize pmL M = PL at *
        go_wp2_with (first
          | (go_at_call_of 44 X; refine (l09Four_any (X % 4294967296) _).mono ?_; rintro e w5 ⟨rfl, rfl⟩)
          | (go_at_call_of 44 Y; refine (l09Four_any (Y % 4294967296) _).mono ?_; rintro e w5 ⟨rfl, rfl⟩)
          | (at_builtin; refine wpList_append_own _ rfl _ _ 40 rfl w.heap.size 5 i0 _ 1 1 Try.underlying40 hi iz0 iz1 iz2 rfl (by decide) (.slice (some ⟨g, 0, none⟩) D.length cc) D.length _ rfl (HOW.out.alloc _) ⟨wr.heap.size, 0, none⟩ 4 4 ((four (X % 4294967296)).map (.int .u8)) rfl rfl HN5.out ints_one (by unfold maxLen; omega) (by omega) (by rw [size_alloc]; omega) ?_; intro v6 w6 hown6 hgrow6 _; rw [← List.map_append] at hown6; obtain ⟨g6, c6, rfl⟩ := own_someY hown6 (by omega); have O6 := Lib.hid hown6; have B6 := Lib.hid ((HB.out.alloc HB.out.size _).grown hgrow6 (by rw [size_alloc]; omega) (fun j e => (HOW.out.lt j e).1)); clear hown6 hgrow6; obtain ⟨_, d1, _⟩ := HCO.out w6 B6.out; have HN6 := Lib.hid (four_news w6 (Y % 4294967296)))
          | (at_builtin; refine wpList_append_own _ rfl _ _ 40 rfl w.heap.size 5 i0 _ 1 1 Try.underlying40 hi iz0 iz1 iz2 rfl (by decide) (.slice (some ⟨g6, 0, none⟩) (D.length + 4) c6) (D.length + 4) _ rfl (O6.out.alloc _) ⟨w6.heap.size, 0, none⟩ 4 4 ((four (Y % 4294967296)).map (.int .u8)) rfl rfl HN6.out ints_one (by unfold maxLen; omega) (by omega) (by have := B6.out.size; rw [size_alloc]; omega) ?_; intro v7 w7 hown7 hgrow7 _; rw [← List.map_append] at hown7; obtain ⟨g7, c7, rfl⟩ := own_someY hown7 (by omega); have O7 := Lib.hid hown7; have B7 := Lib.hid ((B6.out.alloc B6.out.size _).grown hgrow7 (by have := B6.out.size; rw [size_alloc]; omega) (fun j e => (O6.out.lt j e).1)); clear hown7 hgrow7; have RM := Lib.hid (HCO.out w7 B7.out).2.2)
          | refine wpList_load_ivs rfl _ _ rfl b (o + k * 18 + 2) rfl .u16 M _ RM.out Try.underlying76 rfl (by rw [HF1.out.2]; exact size76) ?_
          | (go_at_call 45; refine (HPM.out _).mono ?_; rintro e w8 ⟨g8, c8, rfl, hO8, h8⟩; have O8 := Lib.hid (own_below O7.out h8 (Nat.le_refl _)); have P8 := Lib.hid hO8; have B8 := Lib.hid (B7.out.trans (h8.mono B7.out.size)); have z8 := h8.size; have z7 := B7.out.size; have q7 := (O7.out.lt g7 rfl).2; clear hO8 h8; have HN8 := Lib.hid (Blk.news (k := .u8) (l := [(PL.length : Int) % 256]) (t := 5) (w := w8.alloc (.cells #[.int .u8 ((PL.length : Int) % 256)] 5)) (g := w8.heap.size) (Blk.newAt rfl rfl)))
          | (at_builtin; refine wpList_append_own _ rfl _ _ 40 rfl w.heap.size 5 i0 _ 1 1 Try.underlying40 hi iz0 iz1 iz2 rfl (by decide) (.slice (some ⟨g7, 0, none⟩) (D.length + 4 + 4) c7) (D.length + 4 + 4) _ rfl (O8.out.alloc _) ⟨w8.heap.size, 0, none⟩ 1 1 ([(PL.length : Int) % 256].map (.int .u8)) rfl rfl HN8.out ints_one (by unfold maxLen; omega) (by omega) (by rw [size_alloc]; omega) ?_; intro v9 w9 hown9 hgrow9 _; rw [← List.map_append] at hown9; obtain ⟨g9, c9, rfl⟩ := own_someY hown9 (by omega); have O9 := Lib.hid hown9; have P9 := Lib.hid ((P8.out.below ((Below.refl w8.heap.size w8).alloc (Nat.le_refl _) (.cells #[.int .u8 ((PL.length : Int) % 256)] 5)) (Nat.le_refl _)).grown hgrow9 (fun j e => by have e2 : g7 = j := Option.some.inj e; exact .inl (by omega))); have B9 := Lib.hid ((B8.out.alloc B8.out.size (.cells #[.int .u8 ((PL.length : Int) % 256)] 5)).grown hgrow9 (by rw [size_alloc]; omega) (fun j e => (O8.out.lt j e).1)); clear hown9 hgrow9)
          | (at_builtin; refine wpList_append_own _ rfl _ _ 40 rfl w.heap.size 5 i0 _ 1 1 Try.underlying40 hi iz0 iz1 iz2 rfl (by decide) (.slice (some ⟨g9, 0, none⟩) (D.length + 4 + 4 + 1) c9) (D.length + 4 + 4 + 1) _ rfl O9.out ⟨g8, 0, none⟩ PL.length c8 (PL.map (.int .u8)) rfl (by rw [List.length_map, Nat.mul_one]) P9.out.newsY ints_one (by unfold maxLen; omega) (by omega) (by have := B9.out.size; omega) ?_; intro v10 w10 hown10 hgrow10 _; rw [← List.map_append] at hown10; have O10 := Lib.hid hown10; have B10 := Lib.hid (B9.out.grown hgrow10 B9.out.size (fun j e => (O9.out.lt j e).1)); clear hown10 hgrow10))
        obtain ⟨g10, c10, rfl⟩ := own_someY O10.out (by omega)
        have hfin : (D ++ four (X % 4294967296) ++ four (Y % 4294967296) ++ [(PL.length : Int) % 256]) ++ PL = D ++ (four (X % 4294967296) ++ four (Y % 4294967296) ++ [(PL.length : Int) % 256] ++ PL) := by simp only [List.append_assoc]
        have hlen : (D ++ (four (X % 4294967296) ++ four (Y % 4294967296) ++ [(PL.length : Int) % 256] ++ PL)).length = D.length + 4 + 4 + 1 + PL.length := by rw [← hfin, List.length_append, List.length_append, List.length_append, List.length_append]; rfl
        exact ⟨⟨k + 1, _, g10, c10, by omega, by go_num, by rw [hlen], Lib.hid HSN.out.symm, Lib.hid (by rw [hlen, ← hfin]; exact O10.out), B10⟩, by simp [intOf]; omega⟩
      · obtain rfl : k = n := by omega
        have hE : picD l = D := by rw [HD.out, List.take_of_length_le (by have := HL.out; omega)]
        obtain ⟨A1, c1', hve, hO⟩ := Own.of_row HOW.out
        cases hve
        have HOO := Lib.hid hO
        clear hO HOW
        by_cases h8 : D.length ≤ 8192
        · have e1 : pfF l = packOf 2 k D := by rw [pfF, hE, if_pos ⟨HOK.out, h8⟩, HL.out]
          have e2 : pfC l = 0 := by rw [pfC, HOK.out, if_pos rfl, hE, if_pos h8]
          have E1 := Lib.hid e1
          have E2 := Lib.hid e2
          have h8I : (D.length : Int) ≤ 8192 := by omega
          clear e1 e2 hE HD
          go_wp2_with (first
            | (go_at_call 46; refine (l09Pack_any g 0 D.length cc 2 k (by omega) (by omega) (by omega) (by omega) D rfl h8 _ HOO.out.rd).mono ?_; rintro e w3 ⟨A3, c3, rfl, hO3, b3⟩; have HO3 := Lib.hid hO3; have B3 := Lib.hid (HB.out.trans (b3.mono HB.out.size)); clear hO3 b3))
          go_ret2
          exact ⟨A3, c3, by rw [E1.out, E2.out]; rfl, by rw [E1.out]; exact HO3.out.less HB.out.size, B3.out⟩
        · have e1 : pfF l = [] := by rw [pfF, if_neg (fun h => h8 (hE ▸ h.2))]
          have e2 : pfC l = 3 := by rw [pfC, HOK.out, if_pos rfl, hE, if_neg h8]
          have E1 := Lib.hid e1
          have E2 := Lib.hid e2
          have h8I : (8192 : Int) < (D.length : Int) := by omega
          clear e1 e2 hE HD
          go_wp2
          go_ret2
          rw [E1.out, E2.out]
          exact GivesFp.lit HB.out
end Go.Proofs.Ytmagaapdijapiaa
