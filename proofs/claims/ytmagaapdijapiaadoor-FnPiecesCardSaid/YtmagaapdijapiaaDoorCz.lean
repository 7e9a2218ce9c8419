/- All cells of a picture: the reference's loops. -/
import Derived.Test.YtmagaapdijapiaaDoorRows
import Derived.Test.YtmagaapdijapiaaDoorCv
namespace Go.Proofs.YtmagaapdijapiaaDoor
open Go.ChangeShapes Go.WideShapes Go.ChangeAt Go.RowKit
set_option maxRecDepth 20000 in
set_option maxHeartbeats 6400000 in
theorem l07Cells_any (A : Option Addr) (n c : Nat) (l : List Bl) (hl : l.length = n) (hv : VPic l) (w : World) (hR : Rd w w.heap.size 18 A n (bcs l)) :
    Calls Tryd.prog 39 #[.slice A n c] w (GivesCells (specC l) w) := by
  obtain ⟨i0, hi, hz0, hz1, hzb⟩ := info_parts Pair_info
  have hn64 : n ≤ 64 := by have := hv.few; omega
  have HR := Lib.hid hR
  have HV := Lib.hid hv
  have HL := Lib.hid hl
  have h0 : Told w (w.alloc (.cells #[] 35)) (.slice (some ⟨w.heap.size, 0, none⟩) 0 0) [] := by
    have := World.ownsRow_lit (e := 35) (base := w.heap.size) (size := 2) w #[] 0 (Nat.le_refl _) (by unfold maxLen; omega) rfl
    exact ⟨⟨_, _, rfl⟩, this, (Below.refl w.heap.size w).alloc (Nat.le_refl _) (.cells #[] 35)⟩
  have H0 := Lib.hid h0
  have hs0 : [] ++ specC (l.drop 0) = specC l := rfl
  have HS0 := Lib.hid hs0
  have HCNT := Lib.hid hv.count
  clear hR hv h0 hl hs0
  go_enter Tryd.func39, Tryd.ntmps39
  go_wp2
  go_loopw [3, 4] (fun v i wr => ∃ k : Nat, k ≤ n ∧ i = .int .i64 k ∧ ∃ P, Hid (P ++ specC (l.drop k) = specC l) ∧ Told w wr v P) (fun _ i _ => n - (intOf i).toNat)
  case atStart => exact ⟨0, by omega, rfl, [], HS0, H0.out⟩
  case round =>
    clear H0 HS0
    obtain ⟨k, hk, rfl, P, HP, ht⟩ := hrel
    obtain ⟨wo, rfl⟩ : ∃ wo : World, wo = wr := ⟨_, rfl⟩
    by_cases hlt : k < n
    · have hlt' : (k : Int) < n := by omega
      have HT := Lib.hid ht
      clear ht
      obtain ⟨b, o, rfl, hbB, _⟩ := HR.out.at_ (by omega)
      have hkl : k < l.length := by have := HL.out; omega
      have HCO : Hid (∀ wr, Below w.heap.size w wr → ∀ q (hq : q < l.length), wr.cell? ⟨b, o + q * 18, none⟩ = some (.int .i32 ((l[q]).1.getD 0 0)) ∧ wr.cell? ⟨b, o + q * 18 + 1, none⟩ = some (.int .i32 ((l[q]).1.getD 1 0)) ∧ wr.rangeAt b (o + q * 18 + 2) ((l[q]).2.map (.int .u16))) := Lib.hid fun wr hb q hq => rd_corner (HR.out.below hb (Nat.le_refl _)) HV.out.pic.bls HL.out hq
      go_wp2
      go_loopw [5] (fun i wr => ∃ q : Nat, k ≤ q ∧ q ≤ n ∧ i = .int .i64 q ∧ Hid (∀ j (h : j < l.length), k ≤ j → j < q → (l[j]).1.getD 1 0 = (l[k]'(by have := HL.out; omega)).1.getD 1 0) ∧ Hid (Told w wr u3 P)) (fun i _ => n - (intOf i).toNat)
      case atStart => exact ⟨k, Nat.le_refl _, hk, rfl, Lib.hid fun j h h1 h2 => (by omega), HT⟩
      case round =>
        clear HT
        obtain ⟨q, hkq, hqn, rfl, HROW, HT⟩ := hrel
        have ck := (HCO.out wr HT.out.2.2 k hkl).2.1
        by_cases hq : q < n
        · have hql : q < l.length := by have := HL.out; omega
          have cq := (HCO.out wr HT.out.2.2 q hql).2.1
          have hqI : (q : Int) < n := by omega
          have hq0 : (0 : Int) ≤ q := by omega
          have hk0 : (0 : Int) ≤ k := by omega
          have HY : Hid (∀ h : (l[q]).1.getD 1 0 = (l[k]).1.getD 1 0, ∀ j (h : j < l.length), k ≤ j → j < q + 1 → (l[j]).1.getD 1 0 = (l[k]).1.getD 1 0) := Lib.hid fun h j hj h1 h2 => by
            by_cases e : j = q
            · subst e; exact h
            · exact HROW.out j hj h1 (by omega)
          have HQK : Hid ((l[q]).1.getD 1 0 ≠ (l[k]).1.getD 1 0 → k < q) := Lib.hid fun h => by
            rcases Nat.lt_or_ge k q with h' | h'
            · exact h'
            · have : q = k := by omega
              subst this
              exact absurd rfl h
          have HST0 : Hid ((l[q]).1.getD 1 0 ≠ (l[k]).1.getD 1 0 → specC (l.drop k) = grpC (gap l k q) ++ specC (l.drop q)) := Lib.hid fun h => specC_step hkl (HQK.out h) (by have := HL.out; omega) HROW.out (fun _ => h)
          generalize (l[q]).1.getD 1 0 = yq at *
          generalize (l[k]).1.getD 1 0 = yk at *
          by_cases he : yq = yk
          · have HY2 := Lib.hid (HY.out he)
            subst he
            clear HY HQK HST0
            go_wp2_with fail
            go_quiet (fail)
            go_wp2
            exact ⟨⟨q + 1, by omega, by omega, by go_num, HY2, Lib.hid (HT.out.drewN _)⟩, by simp [intOf]; omega⟩
          · have HSTOP : Hid (k < q ∧ q ≤ n) := Lib.hid ⟨HQK.out he, hqn⟩
            have HST : Hid (specC (l.drop k) = grpC (gap l k q) ++ specC (l.drop q)) := Lib.hid (HST0.out he)
            clear HY HQK HST0
            go_wp2_with fail
            go_quiet (fail)
            go_wp2
            obtain ⟨hkq2, _⟩ := HSTOP.out
            have HT2 := Lib.hid (HT.out.drewN nq)
            clear HT ck
            generalize wr.drewN nq = w1 at *
            have HEND : Hid (P ++ grpC (gap l k q) ++ specC (l.drop q) = specC l) := Lib.hid (by rw [List.append_assoc, ← HST.out]; exact HP.out)
            have HGA : Hid (∀ j (h1 : k ≤ j) (h2 : j < q), ∃ h : j - k < (gap l k q).length, ∃ h' : j < l.length, (gap l k q)[j - k] = l[j]) := Lib.hid fun j h1 h2 => ⟨by rw [gap_length hkq (by have := HL.out; omega)]; omega, by have := HL.out; omega, gap_at h1 h2 (by have := HL.out; omega)⟩
            have HGL : Hid ((gap l k q).length = q - k) := Lib.hid (gap_length hkq (by have := HL.out; omega))
            have HPR : Hid (Rows_ 2 (P ++ grpC (gap l k q))) := Lib.hid (rows_of_told HEND.out)
            have HLEN : Hid ((P ++ grpC (gap l k q)).length ≤ 16384) := Lib.hid (by
              have h1 := HCNT.out
              have h2 := congrArg List.length HEND.out
              rw [List.length_append] at h2
              omega)
            clear HST HROW
            generalize gap l k q = G at *
            go_wp2
            go_loopw [3, 6] (fun v i wr => ∃ y : Nat, y ≤ 16 ∧ i = .int .i64 y ∧ Hid (Told w wr v (P ++ grpTo G y))) (fun _ i _ => 16 - (intOf i).toNat)
            case atStart => exact ⟨0, by omega, rfl, Lib.hid (by rw [grpTo]; simpa using HT2.out)⟩
            case round =>
              clear HT2
              obtain ⟨y, hy, rfl, HT⟩ := hrel
              obtain ⟨wy, rfl⟩ : ∃ wy : World, wy = wr := ⟨_, rfl⟩
              by_cases hy16 : y < 16
              · have hyI : (y : Int) < 16 := by omega
                go_wp2
                go_loopw [3, 7] (fun v i wr => ∃ j : Nat, k ≤ j ∧ j ≤ q ∧ i = .int .i64 j ∧ Hid (Told w wr v (P ++ grpTo G y ++ (G.take (j - k)).flatMap (rowC · y)))) (fun _ i _ => q - (intOf i).toNat)
                case atStart => exact ⟨k, Nat.le_refl _, by omega, rfl, Lib.hid (by rw [Nat.sub_self]; simpa using HT.out)⟩
                case round =>
                  clear HT
                  obtain ⟨j, hkj, hjq, rfl, HT⟩ := hrel
                  obtain ⟨wj, rfl⟩ : ∃ wj : World, wj = wr := ⟨_, rfl⟩
                  by_cases hj : j < q
                  · have hjI : (j : Int) < q := by omega
                    obtain ⟨hjg, hjl, hge⟩ := HGA.out j hkj hj
                    have hts := take_row G y hjg
                    have hbd := fun x (hx : x ≤ 16) => told_bound P G hy16 hjg hx
                    obtain ⟨F, hF⟩ : ∃ F, F = l[j] := ⟨_, rfl⟩
                    rw [hge, ← hF] at hts
                    simp only [hge, ← hF] at hbd
                    have HTS := Lib.hid hts
                    have HBD := Lib.hid hbd
                    have HF1 := Lib.hid (HV.out.pic.bls.at_ hjl)
                    have HF2 := Lib.hid (HV.out.far _ (List.getElem_mem hjl))
                    have HF3 := Lib.hid (HV.out.pic.m16 _ (List.getElem_mem hjl))
                    have HCJ := Lib.hid (fun wr hb => HCO.out wr hb j hjl)
                    rw [← hF] at HF1 HF2 HF3 HCJ
                    clear hts hbd hF hge
                    go_wp2
                    go_loopw [3, 8] (fun v i wr => ∃ x : Nat, x ≤ 16 ∧ i = .int .i64 x ∧ Hid (Told w wr v (P ++ grpTo G y ++ (G.take (j - k)).flatMap (rowC · y) ++ rowTo F y x))) (fun _ i _ => 16 - (intOf i).toNat)
                    case atStart => exact ⟨0, by omega, rfl, Lib.hid (by simpa [rowTo] using HT.out)⟩
                    case round =>
                      clear HT
                      obtain ⟨x, hx, rfl, HT⟩ := hrel
                      by_cases hx16 : x < 16
                      · have hxI : (x : Int) < 16 := by omega
                        have hx0 : (0 : Int) ≤ x := by omega
                        have hy0 : (0 : Int) ≤ y := by omega
                        have hj0 : (0 : Int) ≤ j := by omega
                        have hjn : (j : Int) < n := by omega
                        obtain ⟨cX, cY, hM⟩ := HCJ.out wr HT.out.2.2
                        have HX := Lib.hid (l07HasAt_any b (o + j * 18 + 2) F.2 HF1.out.2 HF3.out x y hx16 hy16 wr hM)
                        have hlen := HBD.out x hx
                        have hlen2 := HLEN.out
                        have hyes := fun h => rowTo_yes (b := F) (y := y) (x := x) h
                        have hno := fun h => rowTo_no (b := F) (y := y) (x := x) h
                        have hcl : cellL F y x = [16 * F.1.getD 0 0 + x, 16 * F.1.getD 1 0 + y] := rfl
                        rw [hcl] at hyes
                        have hfx := HF2.out.1
                        have hfy := HF2.out.2
                        obtain ⟨⟨g, cc, rfl⟩, ho, hb⟩ := HT.out
                        obtain ⟨L, hL⟩ : ∃ L, L = P ++ grpTo G y ++ (G.take (j - k)).flatMap (rowC · y) ++ rowTo F y x := ⟨_, rfl⟩
                        rw [← hL] at ho hlen ⊢
                        have HO := Lib.hid ho
                        have HB := Lib.hid hb
                        have HLL := Lib.hid hL
                        clear hL ho hb hM hcl HT
                        cases hbt : bitB F.2 x y
                        · have HN := Lib.hid (hno hbt)
                          rw [hbt] at HX
                          clear hbt hyes hno cX cY hfx hfy
                          go_wp2_with (go_at_call 75; refine HX.out.mono ?_; rintro e w2 ⟨rfl, rfl⟩)
                          refine ⟨⟨x + 1, by omega, by go_num, Lib.hid ?_⟩, by simp [intOf]; omega⟩
                          rw [HN.out, ← HLL.out]
                          exact ⟨⟨_, _, rfl⟩, HO.out, HB.out⟩
                        · have HY := Lib.hid (hyes hbt)
                          rw [hbt] at HX
                          clear hbt hyes hno
                          generalize F.1.getD 0 0 = X at *
                          generalize F.1.getD 1 0 = Y at *
                          have hX1 := hfx.1
                          have hX2 := hfx.2
                          have hY1 := hfy.1
                          have hY2 := hfy.2
                          clear hfx hfy
                          have hw1 : IntKind.i32.wrap (16 * X) = 16 * X := by rw [IntKind.wrap_i32]; omega
                          have hw2 : IntKind.i32.wrap (16 * Y) = 16 * Y := by rw [IntKind.wrap_i32]; omega
                          have hw3 : IntKind.i32.wrap ((x : Int)) = (x : Int) := by rw [IntKind.wrap_i32]; omega
                          have hw4 : IntKind.i32.wrap ((y : Int)) = (y : Int) := by rw [IntKind.wrap_i32]; omega
                          have hw5 : IntKind.i32.wrap (16 * X + (x : Int)) = 16 * X + (x : Int) := by rw [IntKind.wrap_i32]; omega
                          have hw6 : IntKind.i32.wrap (16 * Y + (y : Int)) = 16 * Y + (y : Int) := by rw [IntKind.wrap_i32]; omega
                          have HN2 : Hid (∀ j u, (pvs [[16 * X + (x : Int), 16 * Y + (y : Int)]])[j]? = some u → (wr.alloc (.cells #[.int .i32 (16 * X + x), .int .i32 (16 * Y + y)] 35)).drew.cell? ((⟨wr.heap.size, 0, none⟩ : Addr).add j) = some u) := Lib.hid (pair_news wr (16 * X + x) (16 * Y + y))
                          have HO2 : Hid ((wr.alloc (.cells #[.int .i32 (16 * X + x), .int .i32 (16 * Y + y)] 35)).drew.ownsRow w.heap.size 35 2 (.slice (some ⟨g, 0, none⟩) L.length cc) L.length (pvs L)) := Lib.hid (HO.out.alloc _)
                          have HB2 : Hid (Below w.heap.size w (wr.alloc (.cells #[.int .i32 (16 * X + x), .int .i32 (16 * Y + y)] 35)).drew) := Lib.hid (below_drew (HB.out.alloc HB.out.size _))
                          go_wp2_with (go_at_call 75; refine HX.out.mono ?_; rintro e w2 ⟨rfl, rfl⟩)
                          go_region_law (first
                            | (refine step_append_own rfl (.tmp 57) (.tmp 79) 26 rfl w.heap.size 35 i0 _ 2 8 Tryd.underlying26 hi hz0 hz1 hzb rfl (by decide) (.slice (some ⟨g, 0, none⟩) L.length cc) L.length _ (by simp [Act.eval]) HO2.out ⟨wr.heap.size, 0, none⟩ 1 1 (pvs [[16 * X + (x : Int), 16 * Y + (y : Int)]]) (by simp [Act.eval]) rfl HN2.out pvs_one (by unfold maxLen; omega) (by omega) HB2.out.size ?_; intro v6 w6 hown6 hgrow6; rw [← pvs_append] at hown6; have HO6 := Lib.hid hown6; have HB6 := Lib.hid (HB2.out.grown hgrow6 HB2.out.size (fun j e => (HO2.out.lt _ e).1)); clear hown6 hgrow6)
                            | fail)
                          all_goals
                            obtain ⟨A6, c6, hv6, hO6⟩ := Own.of_row HO6.out
                            obtain ⟨g6, cur6, hA6, _⟩ := hO6.at_ (by omega)
                            subst hv6 hA6
                            clear hO6
                            go_wp2
                            refine ⟨⟨x + 1, by omega, by go_num, Lib.hid ?_⟩, by simp [intOf]; omega⟩
                            rw [HY.out, ← List.append_assoc, ← HLL.out]
                            exact ⟨⟨_, _, by rw [List.length_append]; rfl⟩, by rw [List.length_append]; exact HO6.out, HB6.out⟩
                      · have hxe : x = 16 := by omega
                        have hxn : ¬ (x : Int) < 16 := by omega
                        go_wp2
                        refine ⟨⟨j + 1, by omega, by omega, by go_num, Lib.hid ?_⟩, by simp [intOf]; omega⟩
                        rw [show j + 1 - k = j - k + 1 by omega, HTS.out, ← hxe]
                        have h := HT.out
                        simp only [List.append_assoc] at h ⊢
                        exact h
                  · obtain rfl : j = q := by omega
                    go_wp2
                    refine ⟨⟨y + 1, by omega, by go_num, Lib.hid ?_⟩, by simp [intOf]; omega⟩
                    have h1 := HT.out
                    rw [List.take_of_length_le (by rw [HGL.out]; exact Nat.le_refl _), List.append_assoc, ← grpTo_succ] at h1
                    exact h1
              · have hye : y = 16 := by omega
                have hyn : ¬ (y : Int) < 16 := by omega
                go_wp2
                exact ⟨⟨q, hqn, by go_num, P ++ grpC G, HEND, by have h := HT.out; rw [hye] at h; exact h⟩, by simp [intOf]; omega⟩
        · have HSTOP : Hid (k < q ∧ q ≤ n) := Lib.hid ⟨by omega, hqn⟩
          have HST : Hid (specC (l.drop k) = grpC (gap l k q) ++ specC (l.drop q)) := Lib.hid (specC_step hkl (by omega) (by have := HL.out; omega) HROW.out (fun h => by have := HL.out; omega))
          have hqe : q = n := by omega
          go_wp2_with fail
          go_quiet (fail)
          go_wp2
          obtain ⟨hkq2, _⟩ := HSTOP.out
          have HT2 := Lib.hid (HT.out.drewN nq)
          clear HT ck
          generalize wr.drewN nq = w1 at *
          have HEND : Hid (P ++ grpC (gap l k q) ++ specC (l.drop q) = specC l) := Lib.hid (by rw [List.append_assoc, ← HST.out]; exact HP.out)
          have HGA : Hid (∀ j (h1 : k ≤ j) (h2 : j < q), ∃ h : j - k < (gap l k q).length, ∃ h' : j < l.length, (gap l k q)[j - k] = l[j]) := Lib.hid fun j h1 h2 => ⟨by rw [gap_length hkq (by have := HL.out; omega)]; omega, by have := HL.out; omega, gap_at h1 h2 (by have := HL.out; omega)⟩
          have HGL : Hid ((gap l k q).length = q - k) := Lib.hid (gap_length hkq (by have := HL.out; omega))
          have HPR : Hid (Rows_ 2 (P ++ grpC (gap l k q))) := Lib.hid (rows_of_told HEND.out)
          have HLEN : Hid ((P ++ grpC (gap l k q)).length ≤ 16384) := Lib.hid (by
            have h1 := HCNT.out
            have h2 := congrArg List.length HEND.out
            rw [List.length_append] at h2
            omega)
          clear HST HROW
          generalize gap l k q = G at *
          go_wp2
          go_loopw [3, 6] (fun v i wr => ∃ y : Nat, y ≤ 16 ∧ i = .int .i64 y ∧ Hid (Told w wr v (P ++ grpTo G y))) (fun _ i _ => 16 - (intOf i).toNat)
          case atStart => exact ⟨0, by omega, rfl, Lib.hid (by rw [grpTo]; simpa using HT2.out)⟩
          case round =>
            clear HT2
            obtain ⟨y, hy, rfl, HT⟩ := hrel
            obtain ⟨wy, rfl⟩ : ∃ wy : World, wy = wr := ⟨_, rfl⟩
            by_cases hy16 : y < 16
            · have hyI : (y : Int) < 16 := by omega
              go_wp2
              go_loopw [3, 7] (fun v i wr => ∃ j : Nat, k ≤ j ∧ j ≤ q ∧ i = .int .i64 j ∧ Hid (Told w wr v (P ++ grpTo G y ++ (G.take (j - k)).flatMap (rowC · y)))) (fun _ i _ => q - (intOf i).toNat)
              case atStart => exact ⟨k, Nat.le_refl _, by omega, rfl, Lib.hid (by rw [Nat.sub_self]; simpa using HT.out)⟩
              case round =>
                clear HT
                obtain ⟨j, hkj, hjq, rfl, HT⟩ := hrel
                obtain ⟨wj, rfl⟩ : ∃ wj : World, wj = wr := ⟨_, rfl⟩
                by_cases hj : j < q
                · have hjI : (j : Int) < q := by omega
                  obtain ⟨hjg, hjl, hge⟩ := HGA.out j hkj hj
                  have hts := take_row G y hjg
                  have hbd := fun x (hx : x ≤ 16) => told_bound P G hy16 hjg hx
                  obtain ⟨F, hF⟩ : ∃ F, F = l[j] := ⟨_, rfl⟩
                  rw [hge, ← hF] at hts
                  simp only [hge, ← hF] at hbd
                  have HTS := Lib.hid hts
                  have HBD := Lib.hid hbd
                  have HF1 := Lib.hid (HV.out.pic.bls.at_ hjl)
                  have HF2 := Lib.hid (HV.out.far _ (List.getElem_mem hjl))
                  have HF3 := Lib.hid (HV.out.pic.m16 _ (List.getElem_mem hjl))
                  have HCJ := Lib.hid (fun wr hb => HCO.out wr hb j hjl)
                  rw [← hF] at HF1 HF2 HF3 HCJ
                  clear hts hbd hF hge
                  go_wp2
                  go_loopw [3, 8] (fun v i wr => ∃ x : Nat, x ≤ 16 ∧ i = .int .i64 x ∧ Hid (Told w wr v (P ++ grpTo G y ++ (G.take (j - k)).flatMap (rowC · y) ++ rowTo F y x))) (fun _ i _ => 16 - (intOf i).toNat)
                  case atStart => exact ⟨0, by omega, rfl, Lib.hid (by simpa [rowTo] using HT.out)⟩
                  case round =>
                    clear HT
                    obtain ⟨x, hx, rfl, HT⟩ := hrel
                    by_cases hx16 : x < 16
                    · have hxI : (x : Int) < 16 := by omega
                      have hx0 : (0 : Int) ≤ x := by omega
                      have hy0 : (0 : Int) ≤ y := by omega
                      have hj0 : (0 : Int) ≤ j := by omega
                      have hjn : (j : Int) < n := by omega
                      obtain ⟨cX, cY, hM⟩ := HCJ.out wr HT.out.2.2
                      have HX := Lib.hid (l07HasAt_any b (o + j * 18 + 2) F.2 HF1.out.2 HF3.out x y hx16 hy16 wr hM)
                      have hlen := HBD.out x hx
                      have hlen2 := HLEN.out
                      have hyes := fun h => rowTo_yes (b := F) (y := y) (x := x) h
                      have hno := fun h => rowTo_no (b := F) (y := y) (x := x) h
                      have hcl : cellL F y x = [16 * F.1.getD 0 0 + x, 16 * F.1.getD 1 0 + y] := rfl
                      rw [hcl] at hyes
                      have hfx := HF2.out.1
                      have hfy := HF2.out.2
                      obtain ⟨⟨g, cc, rfl⟩, ho, hb⟩ := HT.out
                      obtain ⟨L, hL⟩ : ∃ L, L = P ++ grpTo G y ++ (G.take (j - k)).flatMap (rowC · y) ++ rowTo F y x := ⟨_, rfl⟩
                      rw [← hL] at ho hlen ⊢
                      have HO := Lib.hid ho
                      have HB := Lib.hid hb
                      have HLL := Lib.hid hL
                      clear hL ho hb hM hcl HT
                      cases hbt : bitB F.2 x y
                      · have HN := Lib.hid (hno hbt)
                        rw [hbt] at HX
                        clear hbt hyes hno cX cY hfx hfy
                        go_wp2_with (go_at_call 75; refine HX.out.mono ?_; rintro e w2 ⟨rfl, rfl⟩)
                        refine ⟨⟨x + 1, by omega, by go_num, Lib.hid ?_⟩, by simp [intOf]; omega⟩
                        rw [HN.out, ← HLL.out]
                        exact ⟨⟨_, _, rfl⟩, HO.out, HB.out⟩
                      · have HY := Lib.hid (hyes hbt)
                        rw [hbt] at HX
                        clear hbt hyes hno
                        generalize F.1.getD 0 0 = X at *
                        generalize F.1.getD 1 0 = Y at *
                        have hX1 := hfx.1
                        have hX2 := hfx.2
                        have hY1 := hfy.1
                        have hY2 := hfy.2
                        clear hfx hfy
                        have hw1 : IntKind.i32.wrap (16 * X) = 16 * X := by rw [IntKind.wrap_i32]; omega
                        have hw2 : IntKind.i32.wrap (16 * Y) = 16 * Y := by rw [IntKind.wrap_i32]; omega
                        have hw3 : IntKind.i32.wrap ((x : Int)) = (x : Int) := by rw [IntKind.wrap_i32]; omega
                        have hw4 : IntKind.i32.wrap ((y : Int)) = (y : Int) := by rw [IntKind.wrap_i32]; omega
                        have hw5 : IntKind.i32.wrap (16 * X + (x : Int)) = 16 * X + (x : Int) := by rw [IntKind.wrap_i32]; omega
                        have hw6 : IntKind.i32.wrap (16 * Y + (y : Int)) = 16 * Y + (y : Int) := by rw [IntKind.wrap_i32]; omega
                        have HN2 : Hid (∀ j u, (pvs [[16 * X + (x : Int), 16 * Y + (y : Int)]])[j]? = some u → (wr.alloc (.cells #[.int .i32 (16 * X + x), .int .i32 (16 * Y + y)] 35)).drew.cell? ((⟨wr.heap.size, 0, none⟩ : Addr).add j) = some u) := Lib.hid (pair_news wr (16 * X + x) (16 * Y + y))
                        have HO2 : Hid ((wr.alloc (.cells #[.int .i32 (16 * X + x), .int .i32 (16 * Y + y)] 35)).drew.ownsRow w.heap.size 35 2 (.slice (some ⟨g, 0, none⟩) L.length cc) L.length (pvs L)) := Lib.hid (HO.out.alloc _)
                        have HB2 : Hid (Below w.heap.size w (wr.alloc (.cells #[.int .i32 (16 * X + x), .int .i32 (16 * Y + y)] 35)).drew) := Lib.hid (below_drew (HB.out.alloc HB.out.size _))
                        go_wp2_with (go_at_call 75; refine HX.out.mono ?_; rintro e w2 ⟨rfl, rfl⟩)
                        go_region_law (first
                          | (refine step_append_own rfl (.tmp 57) (.tmp 79) 26 rfl w.heap.size 35 i0 _ 2 8 Tryd.underlying26 hi hz0 hz1 hzb rfl (by decide) (.slice (some ⟨g, 0, none⟩) L.length cc) L.length _ (by simp [Act.eval]) HO2.out ⟨wr.heap.size, 0, none⟩ 1 1 (pvs [[16 * X + (x : Int), 16 * Y + (y : Int)]]) (by simp [Act.eval]) rfl HN2.out pvs_one (by unfold maxLen; omega) (by omega) HB2.out.size ?_; intro v6 w6 hown6 hgrow6; rw [← pvs_append] at hown6; have HO6 := Lib.hid hown6; have HB6 := Lib.hid (HB2.out.grown hgrow6 HB2.out.size (fun j e => (HO2.out.lt _ e).1)); clear hown6 hgrow6)
                          | fail)
                        all_goals
                          obtain ⟨A6, c6, hv6, hO6⟩ := Own.of_row HO6.out
                          obtain ⟨g6, cur6, hA6, _⟩ := hO6.at_ (by omega)
                          subst hv6 hA6
                          clear hO6
                          go_wp2
                          refine ⟨⟨x + 1, by omega, by go_num, Lib.hid ?_⟩, by simp [intOf]; omega⟩
                          rw [HY.out, ← List.append_assoc, ← HLL.out]
                          exact ⟨⟨_, _, by rw [List.length_append]; rfl⟩, by rw [List.length_append]; exact HO6.out, HB6.out⟩
                    · have hxe : x = 16 := by omega
                      have hxn : ¬ (x : Int) < 16 := by omega
                      go_wp2
                      refine ⟨⟨j + 1, by omega, by omega, by go_num, Lib.hid ?_⟩, by simp [intOf]; omega⟩
                      rw [show j + 1 - k = j - k + 1 by omega, HTS.out, ← hxe]
                      have h := HT.out
                      simp only [List.append_assoc] at h ⊢
                      exact h
                · obtain rfl : j = q := by omega
                  go_wp2
                  refine ⟨⟨y + 1, by omega, by go_num, Lib.hid ?_⟩, by simp [intOf]; omega⟩
                  have h1 := HT.out
                  rw [List.take_of_length_le (by rw [HGL.out]; exact Nat.le_refl _), List.append_assoc, ← grpTo_succ] at h1
                  exact h1
            · have hye : y = 16 := by omega
              have hyn : ¬ (y : Int) < 16 := by omega
              go_wp2
              exact ⟨⟨q, hqn, by go_num, P ++ grpC G, HEND, by have h := HT.out; rw [hye] at h; exact h⟩, by simp [intOf]; omega⟩
    · obtain rfl : k = n := by omega
      have hP : P = specC l := by
        have := HP.out
        rw [List.drop_of_length_le (by have := HL.out; omega), specC_nil, List.append_nil] at this
        exact this
      obtain ⟨⟨g, cc, rfl⟩, ho, hb⟩ := ht
      obtain ⟨A1, c1, hve, hOO⟩ := Own.of_row ho
      cases hve
      have HO := Lib.hid hOO
      have HB := Lib.hid hb
      subst hP
      clear ho hb hOO
      go_wp2
      go_ret
      exact ⟨g, cc, rfl, HO.out, HB.out⟩
end Go.Proofs.YtmagaapdijapiaaDoor
