/- Cm3, Jn3 in one text. -/
import Derived.Test.YtmagaapdijapiaaRows
import Derived.Test.YtmagaapdijapiaaCo
import Derived.StillTailTactics
namespace Go.Proofs.Ytmagaapdijapiaa
open Go.ChangeShapes Go.WideShapes Go.ChangeAt Go.RowKit
section
attribute [local go_sem ↓] exec_ldCorner exec_ldMask
attribute [local go_sem] run_ldCorner run_ldMask
set_option maxRecDepth 20000 in
set_option maxHeartbeats 6400000 in
theorem combMinusMasks_any (A : Option Addr) (n c : Nat) (l : List Bl) (hl : l.length = n) (hrow : Bls l) (h16 : ∀ b ∈ l, is16 b.2) (h32 : ∀ b ∈ l, ∀ x ∈ b.1, -2147483648 ≤ x ∧ x ≤ 2147483647) (A2 : Option Addr) (n2 c2 : Nat) (l2 : List Bl) (hl2 : l2.length = n2) (hrow2 : Bls l2) (h162 : ∀ b ∈ l2, is16 b.2) (h322 : ∀ b ∈ l2, ∀ x ∈ b.1, -2147483648 ≤ x ∧ x ≤ 2147483647) (hn : n ≤ 1048576) (hn2 : n2 ≤ 1048576) (w : World) (hR : Rd w w.heap.size 18 A n (bcs l)) (hR2 : Rd w w.heap.size 18 A2 n2 (bcs l2)) :
    Calls Try.prog 82 #[.slice A n c, .slice A2 n2 c2, .func (.func 85) #[] #[]] w (GivesToldB (cmbL notF l l2) (cmbK notF l l2) w) := by
  have ho := fun W h => iValidPicture_any A n c l hl hrow h16 h32 hn W h
  have ho2 := fun W h => iValidPicture_any A2 n2 c2 l2 hl2 hrow2 h162 h322 hn2 W h
  have hm := fun (h : vpB l = true) W hR => masksOf_any A n c l hl hrow (apart_of_rising (rising_of_vpB h)) hn W hR
  have hm2 := fun (h : vpB l2 = true) W hR => masksOf_any A2 n2 c2 l2 hl2 hrow2 (apart_of_rising (rising_of_vpB h)) hn2 W hR
  have hv := fun h => vpic_of hrow h16 h
  have hv2 := fun h => vpic_of hrow2 h162 h
  have HL := Lib.hid hl
  have HL2 := Lib.hid hl2
  rw [cmbL, cmbK]
  clear hrow h16 h32 hrow2 h162 h322 hl hl2
  generalize vpB l = ok at *
  generalize vpB l2 = ok2 at *
  cases ok
  · clear hm hm2 hv hv2
    go_enter Try.func82, Try.ntmps82
    go_wp2_with (go_at_call 33; refine (ho _ (hR.more (by first | exact Nat.le_refl _ | omega))).mono ?_; rintro e w1 ⟨rfl, b1⟩)
    go_ret2
    exact GivesToldB.nil b1
  · cases ok2
    · clear hm hm2 hv hv2
      have HO := Lib.hid ho
      have HO2 := Lib.hid ho2
      clear ho ho2
      go_enter Try.func82, Try.ntmps82
      go_wp2_with (first
        | (go_at_call_of 33 (Value.slice A n c); refine (HO.out _ (hR.more (by first | exact Nat.le_refl _ | omega))).mono ?_; rintro e w1 ⟨rfl, b1⟩; have B1 := Lib.hid b1; clear b1)
        | (go_at_call_of 33 (Value.slice A2 n2 c2); refine (HO2.out _ ((hR2.below B1.out (Nat.le_refl _)).more B1.out.size)).mono ?_; rintro e w2 ⟨rfl, b2⟩; have B2 := Lib.hid (B1.out.trans (b2.mono B1.out.size)); clear b2))
      go_ret2
      exact GivesToldB.nil B2.out
    · have HO := Lib.hid ho
      have HO2 := Lib.hid ho2
      have HV := Lib.hid (hv rfl)
      have HV2 := Lib.hid (hv2 rfl)
      have HMO := Lib.hid (hm rfl)
      have HMO2 := Lib.hid (hm2 rfl)
      have HR := Lib.hid hR
      have HR2 := Lib.hid hR2
      have hmk : ∀ W : World, (Instr.makeMap 124 none).run Try.prog W = .ok (.map (some W.heap.size)) (W.alloc (.map #[] 0)) := fun _ => rfl
      clear ho ho2 hv hv2 hm hm2 hR hR2
      simp only [Bool.and_self, if_true]
      go_enter Try.func82, Try.ntmps82
      go_wp2_with (first
        | (go_at_call_of 33 (Value.slice A n c); refine (HO.out _ HR.out).mono ?_; rintro e w1 ⟨rfl, b1⟩; have B1 := Lib.hid b1; clear b1)
        | (go_at_call_of 33 (Value.slice A2 n2 c2); refine (HO2.out _ ((HR2.out.below B1.out (Nat.le_refl _)).more B1.out.size)).mono ?_; rintro e w2 ⟨rfl, b2⟩; have B2 := Lib.hid (B1.out.trans (b2.mono B1.out.size)); clear b2)
        | (go_at_call_of 78 (Value.slice A n c); refine (HMO.out _ ((HR.out.below B2.out (Nat.le_refl _)).more B2.out.size)).mono ?_; rintro e w3 ⟨g1, rfl, k1, k2, k3, b3⟩; have B3 := Lib.hid (B2.out.trans (b3.mono B2.out.size)); have K3 := Lib.hid (And.intro (Nat.le_trans B2.out.size k1) (And.intro k2 k3)); clear b3 k1 k2 k3)
        | (go_at_call_of 78 (Value.slice A2 n2 c2); refine (HMO2.out _ ((HR2.out.below B3.out (Nat.le_refl _)).more B3.out.size)).mono ?_; rintro e w4 ⟨g2, rfl, k1, k2, k3, b4⟩; have B4 := Lib.hid (B3.out.trans (b4.mono B3.out.size)); have K4 := Lib.hid (And.intro k1 (And.intro k2 k3)); have K34 := Lib.hid (heap_below b4 K3.out.2.2); have Z4 := Lib.hid b4.size; clear b4 k1 k2 k3; have T5 : Hid (Three w ((w4.alloc (.map #[] 0)).alloc (.mapIter (some g1) l.length #[] l.length)) g1 g2 w4.heap.size (w4.heap.size + 1) g1 l l2 l [] notF []) := Lib.hid (by have h := Three.start (w := w) (W := w4.alloc (.map #[] 0)) (g1 := g1) (g2 := g2) (go := w4.heap.size) (a := l) (b := l2) (it := l) (gi := g1) (f := notF) (ks := []) ((Below.heap_alloc w4 _ g1 (heap_lt K34.out)).trans K34.out) ((Below.heap_alloc w4 _ g2 (heap_lt K4.out.2.2)).trans K4.out.2.2) ⟨[], Tab.nil, Nat.le_refl _, heap_alloc_new w4 _, fun key => rfl⟩ (B4.out.alloc B4.out.size _); rwa [size_alloc] at h); have hrange : (Instr.range 124 (.map (some g1))).run Try.prog (w4.alloc (.map #[] 0)) = .ok (.pointer (some ⟨w4.heap.size + 1, 0, none⟩)) ((w4.alloc (.map #[] 0)).alloc (.mapIter (some g1) l.length #[] l.length)) := (by have h := range_at (w := w4.alloc (.map #[] 0)) (g := g1) (l := l) ((Below.heap_alloc w4 _ g1 (heap_lt K34.out)).trans K34.out); rwa [size_alloc] at h)))
      have hd1 : g1 < w4.heap.size ∧ g2 < w4.heap.size ∧ w.heap.size ≤ w4.heap.size ∧ g1 ≠ g2 := ⟨heap_lt K34.out, heap_lt K4.out.2.2, B4.out.size, by have h1 := K3.out.2.1; have h2 := K4.out.1; omega⟩
      have HD1 := Lib.hid hd1
      clear hd1 hmk
      go_loopw [11] (fun _ wr => ∃ seen : List Nat, Hid (Three w wr g1 g2 w4.heap.size (w4.heap.size + 1) g1 l l2 l seen notF (keysL l seen))) (fun _ wr => l.length - (wr.iterSeen (w4.heap.size + 1)).size)
      case atStart => exact ⟨[], T5⟩
      case round =>
        clear T5 hrange
        obtain ⟨seen, HT⟩ := hrel
        rcases next_step l wr 0 (w4.heap.size + 1) g1 seen HT.out.one HT.out.iter with ⟨hperm, hnext⟩ | ⟨i, hil, hns, wn, hnext, hentry, hit2, hsz2, hgr2⟩
        · have hrange2 := range_at HT.out.two
          have hks1 := keysL_all hperm
          have hsl : seen.length = l.length := by rw [hperm.length_eq, List.length_range]
          have T6 : Hid (Three w (wr.alloc (.mapIter (some g2) l2.length #[] l2.length)) g1 g2 w4.heap.size wr.heap.size g2 l l2 l2 [] notF (keysL l seen ++ keysL l2 [])) := Lib.hid (by
            have h := Three.start (it := l2) (gi := g2) HT.out.one HT.out.two HT.out.out HT.out.below
            have e : keysL l seen ++ keysL l2 [] = keysL l seen := by rw [show keysL l2 [] = [] from rfl, List.append_nil]
            rw [e]
            exact h)
          have hrl : w4.heap.size + 1 < wr.heap.size := HT.out.iter.lt
          have HKS := Lib.hid hks1
          have HSL := Lib.hid hsl
          have HRL := Lib.hid hrl
          have HFW := Lib.hid HV.out.few
          have HFW2 := Lib.hid HV2.out.few
          clear hperm hks1 hsl hrl HT
          go_wp2_with fail
          obtain ⟨wo, rfl⟩ : ∃ wo : World, wo = wr := ⟨_, rfl⟩
          go_loopw [13] (fun _ wr => ∃ seen2 : List Nat, Hid (Three w wr g1 g2 w4.heap.size wo.heap.size g2 l l2 l2 seen2 notF (keysL l seen ++ keysL l2 seen2))) (fun _ wr => l2.length - (wr.iterSeen wo.heap.size).size)
          case atStart => exact ⟨[], T6⟩
          case round =>
            clear T6 hrange2 hnext
            obtain ⟨seen2, HT⟩ := hrel
            rcases next_step l2 wr 0 wo.heap.size g2 seen2 HT.out.two HT.out.iter with ⟨hperm, hnext⟩ | ⟨i, hil, hns, wn, hnext, hentry, hit2, hsz2, hgr2⟩
            · obtain ⟨lo, htab, hlen, hout, hmask⟩ := HT.out.out
              have hs2 : seen2.length = l2.length := by rw [hperm.length_eq, List.length_range]
              have hlo : lo.length ≤ 1000000 := by
                have h1 : (keysL l seen ++ keysL l2 seen2).length = l.length + l2.length := by rw [List.length_append, keysL, keysL, List.length_map, List.length_map, seenL, seenL, List.length_map, List.length_map, HSL.out, hs2]
                have h2 := HFW.out
                have h3 := HFW2.out
                omega
              have hfe : maskAt lo = mixF notF l l2 := funext fun key => mixT_all notF_way hmask (fun c hc => List.mem_append_left _ (HKS.out c hc)) (fun c hc => List.mem_append_right _ (keysL_all hperm c hc)) key
              have HP := Lib.hid (pictureOf_any w4.heap.size lo htab hlo wr hout (heap_lt hout))
              rw [hfe] at HP
              have HB := Lib.hid HT.out.below
              clear htab hlen hout hmask hs2 hlo hfe hperm HT
              go_wp2_with (go_at_call 80; refine HP.out.mono ?_; rintro e w9 ⟨A9, c9, rfl, o9, b9⟩; have HO9 := Lib.hid o9; have HB9 := Lib.hid (HB.out.trans (b9.mono HB.out.size)); clear o9 b9)
              go_ret2
              exact ⟨A9, c9, rfl, HO9.out.less HB.out.size, HB9.out⟩
            · have hF1 := HV2.out.pic.bls.at_ hil
              have hFa := maskAt_of_mem HV2.out.pic.apart (List.getElem_mem hil)
              have hFk := keysL_snoc l2 seen2 hil
              obtain ⟨hM2, hM216⟩ := maskAt_ok HV.out.pic.bls HV.out.pic.m16 (l2[i]).1
              have hme := HV2.out.pic.m16 _ (List.getElem_mem hil)
              obtain ⟨⟨C, Mm⟩, hF⟩ : ∃ F, F = l2[i] := ⟨_, rfl⟩
              rw [← hF] at hF1 hFa hFk hM2 hM216 hnext hentry hme
              obtain ⟨X, Y, rfl⟩ : ∃ X Y, C = [X, Y] := ⟨_, _, two_of hF1.1⟩
              have hM16 : Mm.length = 16 := hF1.2
              have hmeas : (wr.iterSeen wo.heap.size).size = seen2.length ∧ seen2.length < l2.length := by
                refine ⟨HT.out.iter.seen_eq, ?_⟩
                have := hit2.bound
                rw [List.length_append] at this
                exact this
              obtain ⟨lo, htab, hlen, hout, hmask⟩ := HT.out.out
              have hgw : w4.heap.size < wn.heap.size ∧ g1 < wn.heap.size ∧ g2 < wn.heap.size ∧ wo.heap.size < wn.heap.size := by
                have h1 := heap_lt HT.out.one
                have h2 := heap_lt HT.out.two
                have h3 := heap_lt hout
                have h4 := hit2.lt
                rw [hsz2]
                omega
              have hgo2 : wn.heap[w4.heap.size]? = some (.map (ents lo 0).toArray lo.length) := heap_grown hgr2 hout (fun e => by injection e with e; have := HRL.out; omega)
              have hgl2 : wn.heap[g1]? = some (.map (ents l 0).toArray l.length) := heap_grown hgr2 HT.out.one (fun e => by injection e with e; have := HRL.out; have := HD1.out.1; omega)
              obtain ⟨M2, hM2e⟩ : ∃ M2, M2 = maskAt l [X, Y] := ⟨_, rfl⟩
              rw [← hM2e] at hM2 hM216
              have hFa2 : maskAt l2 [X, Y] = Mm := hFa
              have hmix : opM notF M2 Mm = mixF notF l l2 [X, Y] := by rw [mixF, ← hM2e, hFa2]
              have HSTEP : Hid (∀ w7 : World, Below wn.heap.size wn w7 → Three w (ChangeMaps.setBlock w7 w4.heap.size (.map (ents (putB lo [X, Y] (opM notF M2 Mm)) 0).toArray (putB lo [X, Y] (opM notF M2 Mm)).length)) g1 g2 w4.heap.size wo.heap.size g2 l l2 l2 (seen2 ++ [i]) notF (keysL l seen ++ keysL l2 (seen2 ++ [i]))) := Lib.hid fun w7 hb7 => by
                have hd := HD1.out
                rw [hFk, ← List.append_assoc]
                have hrl := HRL.out
                exact HT.out.step (by omega) (by omega) (by omega) (by omega) (by omega) (by omega) (by omega) htab hlen hout hmask hgr2 hit2 hb7 (by omega) rfl (opM_length hM2 hM16) (opM_16 notF_way _ _) hmix
              have HOF := Lib.hid (fun W => iMinusMasks_any M2 Mm hM2 hM16 W)
              have HLK := Lib.hid (fun W h => run_lookupMask g1 l HV.out.pic.bls X Y l.length W h)
              rw [← hM2e] at HLK
              have HPUT := Lib.hid (fun W h => run_putAny w4.heap.size lo htab.bls X Y (opM notF M2 Mm) W h)
              have HGO2 := Lib.hid hgo2
              have HGL2 := Lib.hid hgl2
              have HM3 := Lib.hid hM16
              have HME := Lib.hid hmeas
              have HGW := Lib.hid hgw
              clear hF1 hFa hFk hF hM216 hme hM16 hM2 hmeas htab hlen hout hmask hgo2 hgl2 hM2e hmix hit2 hsz2 hgr2 hns hgw
              generalize opM notF M2 Mm = R at *
              go_wp2_with (first
                | (refine wpList_store_row rfl _ _ _ rfl wn.heap.size (ivs .i32 [X, Y]) rfl rfl 63 #[.int .i32 0, .int .i32 0] ((Blk.newAt rfl rfl).alloc _) (by exact size63) rfl ivs_one ?_; generalize hw5 : World.setRow _ _ _ = w5; have G5 : Hid (Blk w5 wn.heap.size 63 (ivs .i32 [X, Y])) := Lib.hid (by rw [← hw5]; exact ((Blk.newAt rfl rfl).alloc _).row _); have G5m : Hid (Blk w5 (wn.heap.size + 1) 76 (ivs .u16 zr16)) := Lib.hid (by rw [← hw5]; exact (Blk.newAt (by simp) rfl).rowFar (by omega) _); have B5 : Hid (Below wn.heap.size wn w5) := Lib.hid (by rw [← hw5]; exact below_setRow (((Below.refl _ _).alloc (Nat.le_refl _) _).alloc (by simp) _) (Nat.le_refl _) _); clear hw5)
                | (refine wpList_store_row rfl _ _ _ rfl (wn.heap.size + 1) (ivs .u16 Mm) rfl rfl 76 (ivs .u16 zr16) G5m.out (by rw [ivs_size, HM3.out]; exact size76) (by rw [ivs_size, ivs_size, HM3.out]; rfl) ivs_one ?_; generalize hw6 : World.setRow _ _ _ = w6; have G6 : Hid (Blk w6 wn.heap.size 63 (ivs .i32 [X, Y])) := Lib.hid (by rw [← hw6]; exact G5.out.rowFar (by omega) _); have G6m : Hid (Blk w6 (wn.heap.size + 1) 76 (ivs .u16 Mm)) := Lib.hid (by rw [← hw6]; exact G5m.out.row _); have B6 : Hid (Below wn.heap.size wn w6) := Lib.hid (by rw [← hw6]; exact below_setRow B5.out (by omega) _); clear hw6))
              have K7 : Hid (Blk w6.drew wn.heap.size 63 (ivs .i32 [X, Y]) ∧ Blk w6.drew (wn.heap.size + 1) 76 (ivs .u16 Mm) ∧ Below wn.heap.size wn w6.drew) := Lib.hid ⟨G6.out.drew, G6m.out.drew, below_drew B6.out⟩
              obtain ⟨r1, r3⟩ : rowAt w6.drew wn.heap.size 0 2 = #[.int .i32 X, .int .i32 Y] ∧ hasRow w6.drew wn.heap.size 0 2 = true := ⟨K7.out.1.rowAt_eq rfl, K7.out.1.hasRow_eq rfl⟩
              have r2 := K7.out.2.1.rowAt_eq HM3.out
              have r4 := K7.out.2.1.hasRow_eq HM3.out
              have hlk := HLK.out w6.drew ((K7.out.2.2.block _ (heap_lt HGL2.out)).trans HGL2.out)
              have HG7 := Lib.hid ((K7.out.2.2.block _ HGW.out.1).trans HGO2.out)
              clear HLK
              go_region_law (go_simp; go_at_call 85; refine (HOF.out _).mono ?_; rintro e w8 ⟨rfl, b8⟩; have hmu := HPUT.out w8 (heap_below b8 HG7.out); have B8 := Lib.hid (K7.out.2.2.trans (b8.mono K7.out.2.2.size)); have q1 : rowAt w8 wn.heap.size 0 2 = #[.int .i32 X, .int .i32 Y] := (K7.out.1.below b8 K7.out.1.lt).rowAt_eq rfl; have q3 : hasRow w8 wn.heap.size 0 2 = true := (K7.out.1.below b8 K7.out.1.lt).hasRow_eq rfl; clear b8)
              all_goals
                go_wp2
                have h8 := HSTEP.out w8 B8.out
                refine ⟨⟨_, Lib.hid h8⟩, ?_⟩
                have h9 := h8.iter.seen_eq
                have h10 := HME.out
                rw [List.length_append, List.length_singleton] at h9
                rw [h9]
                omega
        · have hF1 := HV.out.pic.bls.at_ hil
          have hFa := maskAt_of_mem HV.out.pic.apart (List.getElem_mem hil)
          have hFk := keysL_snoc l seen hil
          obtain ⟨hM2, hM216⟩ := maskAt_ok HV2.out.pic.bls HV2.out.pic.m16 (l[i]).1
          have hme := HV.out.pic.m16 _ (List.getElem_mem hil)
          obtain ⟨⟨C, Mm⟩, hF⟩ : ∃ F, F = l[i] := ⟨_, rfl⟩
          rw [← hF] at hF1 hFa hFk hM2 hM216 hnext hentry hme
          obtain ⟨X, Y, rfl⟩ : ∃ X Y, C = [X, Y] := ⟨_, _, two_of hF1.1⟩
          have hM16 : Mm.length = 16 := hF1.2
          have hmeas : (wr.iterSeen (w4.heap.size + 1)).size = seen.length ∧ seen.length < l.length := by
            refine ⟨HT.out.iter.seen_eq, ?_⟩
            have := hit2.bound
            rw [List.length_append] at this
            exact this
          obtain ⟨lo, htab, hlen, hout, hmask⟩ := HT.out.out
          have hgw : w4.heap.size < wn.heap.size ∧ g1 < wn.heap.size ∧ g2 < wn.heap.size ∧ (w4.heap.size + 1) < wn.heap.size := by
            have h1 := heap_lt HT.out.one
            have h2 := heap_lt HT.out.two
            have h3 := heap_lt hout
            have h4 := hit2.lt
            rw [hsz2]
            omega
          have hgo2 : wn.heap[w4.heap.size]? = some (.map (ents lo 0).toArray lo.length) := heap_grown hgr2 hout (fun e => by injection e with e; omega)
          have hgl2 : wn.heap[g2]? = some (.map (ents l2 0).toArray l2.length) := heap_grown hgr2 HT.out.two (fun e => by injection e with e; have := HD1.out.2.1; omega)
          obtain ⟨M2, hM2e⟩ : ∃ M2, M2 = maskAt l2 [X, Y] := ⟨_, rfl⟩
          rw [← hM2e] at hM2 hM216
          have hFa2 : maskAt l [X, Y] = Mm := hFa
          have hmix : opM notF Mm M2 = mixF notF l l2 [X, Y] := by rw [mixF, ← hM2e, hFa2]
          have HSTEP : Hid (∀ w7 : World, Below wn.heap.size wn w7 → Three w (ChangeMaps.setBlock w7 w4.heap.size (.map (ents (putB lo [X, Y] (opM notF Mm M2)) 0).toArray (putB lo [X, Y] (opM notF Mm M2)).length)) g1 g2 w4.heap.size (w4.heap.size + 1) g1 l l2 l (seen ++ [i]) notF (keysL l (seen ++ [i]))) := Lib.hid fun w7 hb7 => by
            have hd := HD1.out
            rw [hFk]
            skip
            exact HT.out.step (by omega) (by omega) (by omega) (by omega) (by omega) (by omega) (by omega) htab hlen hout hmask hgr2 hit2 hb7 (by omega) rfl (opM_length hM16 hM2) (opM_16 notF_way _ _) hmix
          have HOF := Lib.hid (fun W => iMinusMasks_any Mm M2 hM16 hM2 W)
          have HLK := Lib.hid (fun W h => run_lookupMask g2 l2 HV2.out.pic.bls X Y l2.length W h)
          rw [← hM2e] at HLK
          have HPUT := Lib.hid (fun W h => run_putAny w4.heap.size lo htab.bls X Y (opM notF Mm M2) W h)
          have HGO2 := Lib.hid hgo2
          have HGL2 := Lib.hid hgl2
          have HM3 := Lib.hid hM16
          have HME := Lib.hid hmeas
          have HGW := Lib.hid hgw
          clear hF1 hFa hFk hF hM216 hme hM16 hM2 hmeas htab hlen hout hmask hgo2 hgl2 hM2e hmix hit2 hsz2 hgr2 hns hgw
          generalize opM notF Mm M2 = R at *
          go_wp2_with (first
            | (refine wpList_store_row rfl _ _ _ rfl wn.heap.size (ivs .i32 [X, Y]) rfl rfl 63 #[.int .i32 0, .int .i32 0] ((Blk.newAt rfl rfl).alloc _) (by exact size63) rfl ivs_one ?_; generalize hw5 : World.setRow _ _ _ = w5; have G5 : Hid (Blk w5 wn.heap.size 63 (ivs .i32 [X, Y])) := Lib.hid (by rw [← hw5]; exact ((Blk.newAt rfl rfl).alloc _).row _); have G5m : Hid (Blk w5 (wn.heap.size + 1) 76 (ivs .u16 zr16)) := Lib.hid (by rw [← hw5]; exact (Blk.newAt (by simp) rfl).rowFar (by omega) _); have B5 : Hid (Below wn.heap.size wn w5) := Lib.hid (by rw [← hw5]; exact below_setRow (((Below.refl _ _).alloc (Nat.le_refl _) _).alloc (by simp) _) (Nat.le_refl _) _); clear hw5)
            | (refine wpList_store_row rfl _ _ _ rfl (wn.heap.size + 1) (ivs .u16 Mm) rfl rfl 76 (ivs .u16 zr16) G5m.out (by rw [ivs_size, HM3.out]; exact size76) (by rw [ivs_size, ivs_size, HM3.out]; rfl) ivs_one ?_; generalize hw6 : World.setRow _ _ _ = w6; have G6 : Hid (Blk w6 wn.heap.size 63 (ivs .i32 [X, Y])) := Lib.hid (by rw [← hw6]; exact G5.out.rowFar (by omega) _); have G6m : Hid (Blk w6 (wn.heap.size + 1) 76 (ivs .u16 Mm)) := Lib.hid (by rw [← hw6]; exact G5m.out.row _); have B6 : Hid (Below wn.heap.size wn w6) := Lib.hid (by rw [← hw6]; exact below_setRow B5.out (by omega) _); clear hw6))
          have K7 : Hid (Blk w6.drew wn.heap.size 63 (ivs .i32 [X, Y]) ∧ Blk w6.drew (wn.heap.size + 1) 76 (ivs .u16 Mm) ∧ Below wn.heap.size wn w6.drew) := Lib.hid ⟨G6.out.drew, G6m.out.drew, below_drew B6.out⟩
          obtain ⟨r1, r3⟩ : rowAt w6.drew wn.heap.size 0 2 = #[.int .i32 X, .int .i32 Y] ∧ hasRow w6.drew wn.heap.size 0 2 = true := ⟨K7.out.1.rowAt_eq rfl, K7.out.1.hasRow_eq rfl⟩
          have r2 := K7.out.2.1.rowAt_eq HM3.out
          have r4 := K7.out.2.1.hasRow_eq HM3.out
          have hlk := HLK.out w6.drew ((K7.out.2.2.block _ (heap_lt HGL2.out)).trans HGL2.out)
          have HG7 := Lib.hid ((K7.out.2.2.block _ HGW.out.1).trans HGO2.out)
          clear HLK
          go_region_law (go_simp; go_at_call 85; refine (HOF.out _).mono ?_; rintro e w8 ⟨rfl, b8⟩; have hmu := HPUT.out w8 (heap_below b8 HG7.out); have B8 := Lib.hid (K7.out.2.2.trans (b8.mono K7.out.2.2.size)); have q1 : rowAt w8 wn.heap.size 0 2 = #[.int .i32 X, .int .i32 Y] := (K7.out.1.below b8 K7.out.1.lt).rowAt_eq rfl; have q3 : hasRow w8 wn.heap.size 0 2 = true := (K7.out.1.below b8 K7.out.1.lt).hasRow_eq rfl; clear b8)
          all_goals
            go_wp2
            have h8 := HSTEP.out w8 B8.out
            refine ⟨⟨_, Lib.hid h8⟩, ?_⟩
            have h9 := h8.iter.seen_eq
            have h10 := HME.out
            rw [List.length_append, List.length_singleton] at h9
            rw [h9]
            omega
end
end Go.Proofs.Ytmagaapdijapiaa
namespace Go.Proofs.Ytmagaapdijapiaa
open Go.ChangeShapes Go.WideShapes Go.ChangeAt Go.RowKit
theorem iMinusPictures_any (A : Option Addr) (n c : Nat) (l : List Bl) (hl : l.length = n) (hrow : Bls l) (h16 : ∀ b ∈ l, is16 b.2) (h32 : ∀ b ∈ l, ∀ x ∈ b.1, -2147483648 ≤ x ∧ x ≤ 2147483647) (A2 : Option Addr) (n2 c2 : Nat) (l2 : List Bl) (hl2 : l2.length = n2) (hrow2 : Bls l2) (h162 : ∀ b ∈ l2, is16 b.2) (h322 : ∀ b ∈ l2, ∀ x ∈ b.1, -2147483648 ≤ x ∧ x ≤ 2147483647) (hn : n ≤ 1048576) (hn2 : n2 ≤ 1048576) (w : World) (hR : Rd w w.heap.size 18 A n (bcs l)) (hR2 : Rd w w.heap.size 18 A2 n2 (bcs l2)) :
    Calls Try.prog 40 #[.slice A n c, .slice A2 n2 c2] w (GivesToldB (cmbL notF l l2) (cmbK notF l l2) w) := by
  have HC := Lib.hid (combMinusMasks_any A n c l hl hrow h16 h32 A2 n2 c2 l2 hl2 hrow2 h162 h322 hn hn2 w hR hR2)
  clear hl hrow h16 h32 hl2 hrow2 h162 h322 hR hR2
  generalize cmbL notF l l2 = L at *
  generalize cmbK notF l l2 = K at *
  go_enter Try.func40, Try.ntmps40
  go_wp2_with (go_at_call 82; refine HC.out.mono ?_; rintro e w9 ⟨A9, c9, rfl, o9, b9⟩; have HO9 := Lib.hid o9; have HB9 := Lib.hid b9; clear o9 b9)
  go_ret2
  exact ⟨A9, c9, rfl, HO9.out, HB9.out⟩
end Go.Proofs.Ytmagaapdijapiaa
