/- The deed with a text: the program's walk. -/
import Derived.Test.YtfjfiljgbkhblaaDoorRows
import Derived.Test.YtfjfiljgbkhblaaDoorNo
namespace Go.Proofs.YtfjfiljgbkhblaaDoor
open Go.ChangeShapes Go.WideShapes Go.ChangeAt Go.RowKit

attribute [local go_sem ↓] exec_ldDeed
attribute [local go_sem] run_ldDeed
set_option maxRecDepth 20000 in
set_option maxHeartbeats 6400000 in
theorem iReadDeed_any (t : ByteArray) (ht : t.size ≤ 1048576) (mx : Int) (w : World) (hm : w.cell? ⟨3, 0, none⟩ = some (.int .i64 mx)) (htab : Tab w)
    (Te : TypeId) (ve : Value) (hr : w.cell? ⟨2, 0, none⟩ = some (.iface Te ve)) (Ts : TypeId) (vs : Value) (hsy : w.cell? ⟨1, 0, none⟩ = some (.iface Ts vs)) :
    Calls Tryd.prog 15 #[.string t] w fun e w' => (∃ k a b c, Told t k a b c ∧ e = .returned (DeedV k a b c)) ∧ Below w.heap.size w w' := by
  have b1 : Below w.heap.size w (w.alloc (.cells #[.int .i64 0, .int .i64 0, .int .i64 0] 31)) := (Below.refl _ _).alloc (Nat.le_refl _) _
  have r1 : Blk (w.alloc (.cells #[.int .i64 0, .int .i64 0, .int .i64 0] 31)) w.heap.size 31 (ivs .i64 [0, 0, 0]) := Blk.newAt rfl rfl
  have lM : 3 < w.heap.size := World.block_lt_of_cell? _ _ hm
  have lR : 2 < w.heap.size := World.block_lt_of_cell? _ _ hr
  have lS : 1 < w.heap.size := World.block_lt_of_cell? _ _ hsy
  have HSP := Lib.hid (split_told t ht mx _ (by rw [(bcell b1).1 _ 0 lM]; exact hm))
  have HPN : Hid (∀ (s : ByteArray) (W : World), s.size ≤ 1048576 → okW s.data.toList = false → Below w.heap.size w W → Calls Tryd.prog 34 #[.string s, .int .i64 10, .int .i64 64] W fun e w' => (∃ x T p, e = .returned (.tuple #[.int .i64 x, .iface T p])) ∧ Below W.heap.size W w') :=
    Lib.hid (fun s W hs h hb => parse_no s hs h W Te ve (by rw [(bcell hb).1 _ 0 lR]; exact hr) Ts vs (by rw [(bcell hb).1 _ 0 lS]; exact hsy))
  have HTB : Hid (∀ W, Below w.heap.size w W → Tab W) := Lib.hid (fun W hb => htab.below hb htab.lt)
  have hlen := pcs_len 32 t.data.toList
  have hszt := Lib.size_eq t
  have HLEN : Hid (∀ p ∈ pcs 32 t.data.toList, p.length ≤ 1048576) := Lib.hid (fun p hp => by have := hlen p hp; omega)
  have B1 := Lib.hid b1
  have R1 := Lib.hid r1
  clear hm hr hsy htab lM lR lS hlen hszt b1 r1
  go_enter Tryd.func15, Tryd.ntmps15
  go_wp2_with fail
  refine HSP.out.mono ?_
  rintro e w2 ⟨S, m, hSl, hSd, rfl, hSb, hb2, hz2⟩
  have hw1 : (w.alloc (.cells #[.int .i64 0, .int .i64 0, .int .i64 0] 31)).heap.size = w.heap.size + 1 := size_alloc _ _
  have R2 := Lib.hid (R1.out.below hb2 (by rw [hw1]; omega))
  have B2 := Lib.hid (B1.out.trans (hb2.mono B1.out.size))
  rw [hw1] at hSb hz2 ⊢
  have HSB := Lib.hid hSb
  have HZ2 := Lib.hid hz2
  clear hSb hb2 hz2 hw1 HSP R1 B1
  have r3 : Blk (w2.alloc (.cells #[.int .i64 0, .int .i64 0] 63)) w2.heap.size 63 (ivs .i64 [0, 0]) := Blk.newAt rfl rfl
  have b3 : Below w2.heap.size w2 (w2.alloc (.cells #[.int .i64 0, .int .i64 0] 63)) := (Below.refl _ _).alloc (Nat.le_refl _) _
  have K3 := Lib.hid (r3.row (ivs .i64 [0, 0]))
  have B3 := Lib.hid (below_setRow b3 (g := w2.heap.size) (Nat.le_refl _) (ivs .i64 [0, 0]))
  have hm1 : (1 : Int) ≤ (m : Int) + 1 := by omega
  -- BODY
  obtain ⟨ws, hws⟩ : ∃ ws, ws = (pcs 32 t.data.toList).tail := ⟨_, rfl⟩
  have hwl : ws.length = m := by
    rw [hws, List.length_tail, ← hSd, List.length_map, hSl]; omega
  rcases Nat.eq_zero_or_pos m with rfl | hmp
  · go_wp2_with (refine wpList_store_row rfl _ _ _ rfl w2.heap.size (ivs .i64 [0, 0]) rfl rfl 63 _ r3 (by rw [ivs_size]; exact size63) (by simp [ivs_size]) ivs_one ?_)
    generalize ((w2.alloc (.cells #[.int .i64 0, .int .i64 0] 63)).setRow w2.heap.size (ivs .i64 [0, 0])) = w3 at *
    clear r3 b3
    have KX : Hid (Blk w3 w2.heap.size 63 (ivs .i64 [0, 0])) := K3
    have RX := Lib.hid (R2.out.below B3.out R2.out.lt)
    have BX := Lib.hid (B2.out.trans (B3.out.mono B2.out.size))
    have HGD : Hid (∀ k a b, Found t k a b → 0 = a ∧ 0 = b) := Lib.hid (fun k a b h => by
      have h2 := (i_found h).2.2
      rw [← hws, List.eq_nil_of_length_eq_zero hwl] at h2
      exact h2)
    obtain ⟨x, hx⟩ : ∃ x : Int, x = 0 := ⟨_, rfl⟩
    obtain ⟨y, hy⟩ : ∃ y : Int, y = 0 := ⟨_, rfl⟩
    have KX : Hid (Blk w3 w2.heap.size 63 (ivs .i64 [x, y])) := by rw [hx, hy]; exact KX
    have HGD : Hid (∀ k a b, Found t k a b → x = a ∧ y = b) := by rw [hx, hy]; exact HGD
    clear hx hy K3 hws hwl hSl hSd hm1
    go_loopw [6, 7, 8, 9, 18] (fun _ _ _ _ ctr wr => ctr = .int .i64 0 ∧ wr = w3) (fun _ _ _ _ _ _ => 0)
    case atStart => exact ⟨rfl, rfl⟩
    case round =>
      obtain ⟨rfl, rfl⟩ := hrel
      go_wp2_with fail
      go_loopw [10, 11] (fun kv _ wr => ∃ k : Nat, 1 ≤ k ∧ k ≤ 10 ∧ kv = .int .i64 k ∧ Hid (∀ j : Nat, 1 ≤ j → j < k → ¬ Found t j x y) ∧ Blk wr w.heap.size 31 (ivs .i64 [0, 0, 0]) ∧ Blk wr w2.heap.size 63 (ivs .i64 [x, y]) ∧ Below w.heap.size w wr) (fun kv _ _ => 11 - (intOf kv).toNat)
      case atStart => exact ⟨1, by omega, by omega, rfl, Lib.hid (fun j h1 h2 => by omega), RX.out, KX.out, BX.out⟩
      case round =>
        obtain ⟨k, hk1, hk, rfl, hno, hR, hK, hbr⟩ := hrel
        have HR := Lib.hid hR
        have HK := Lib.hid hK
        have HBr := Lib.hid hbr
        have hRw : w.heap.size < wr.heap.size := hR.lt
        have hNw : w2.heap.size < wr.heap.size := hK.lt
        have cx : wr.cell? ⟨w2.heap.size, 0, none⟩ = some (.int .i64 x) := hK.cell 0
        have cy : wr.cell? ⟨w2.heap.size, 1, none⟩ = some (.int .i64 y) := hK.cell 1
        clear hR hK hbr
        by_cases hlt : k ≤ 9
        · have hlt' : (k : Int) ≤ 9 := by omega
          have r8 : Blk (wr.alloc (.cells #[.int .i64 0, .int .i64 0, .int .i64 0] 31)) wr.heap.size 31 (ivs .i64 [0, 0, 0]) := Blk.newAt rfl rfl
          have b8 : Below wr.heap.size wr (wr.alloc (.cells #[.int .i64 0, .int .i64 0, .int .i64 0] 31)) := (Below.refl _ _).alloc (Nat.le_refl _) _
          have KA := Lib.hid (r8.row (ivs .i64 [(k : Int), x, y]))
          have BA := Lib.hid (below_setRow b8 (g := wr.heap.size) (Nat.le_refl _) (ivs .i64 [(k : Int), x, y]))
          have ta1 : rowAt _ wr.heap.size 0 3 = ivs .i64 [(k : Int), x, y] := KA.out.rowAt_eq rfl
          have ta2 : hasRow _ wr.heap.size 0 3 = true := KA.out.hasRow_eq rfl
          have hv : ∀ W, Calls Tryd.prog 28 #[.agg (ivs .i64 [(k : Int), x, y])] W fun e w' => e = .returned (.bool (deedB (k : Int) x y)) ∧ Below W.heap.size W w' := fun W => iValidDeed_any (k : Int) x y W
          have hd : ∀ W, Tab W → Calls Tryd.prog 13 #[.agg (ivs .i64 [(k : Int), x, y])] W fun e w' => e = .returned (.string (dtext (k : Int) x y)) ∧ Below W.heap.size W w' := fun W h => iDeedText_any (k : Int) x y W h
          have hfd : Found t (k : Int) x y ↔ deedB (k : Int) x y = true ∧ dtext (k : Int) x y = t := Iff.rfl
          have HFD := Lib.hid hfd
          clear hfd
          have hB2w : ∀ W, Below wr.heap.size wr W → Below w.heap.size w W := fun W h => HBr.out.trans (h.mono HBr.out.size)
          have HB2W := Lib.hid hB2w
          clear hB2w
          cases hdb : deedB (k : Int) x y
          · rw [hdb] at hv
            have HV := Lib.hid hv
            have hno2 : Hid (∀ j : Nat, 1 ≤ j → j < k + 1 → ¬ Found t j x y) := Lib.hid (fun j h1 h2 h => by
              by_cases e : j = k
              · subst e; have := (HFD.out.1 h).1; rw [hdb] at this; cases this
              · exact hno.out j h1 (by omega) h)
            clear hv hd hdb hno
            go_wp2_with (first
              | refine wpList_store_row rfl _ _ _ rfl wr.heap.size (ivs .i64 [(k : Int), x, y]) rfl rfl 31 _ r8 (by rw [ivs_size]; exact size31) (by simp [ivs_size]) ivs_one ?_
              | (go_at_call 28; refine (HV.out _).mono ?_; rintro e w5 ⟨rfl, hb5⟩; have H5 := Lib.hid (BA.out.trans (hb5.mono BA.out.size)); clear hb5))
            exact ⟨⟨k + 1, by omega, by omega, by go_num, hno2, HR.out.below H5.out hRw, HK.out.below H5.out hNw, HB2W.out _ H5.out⟩, by simp [intOf]; omega⟩
          · rw [hdb] at hv
            have HV := Lib.hid hv
            by_cases hy : dtext (k : Int) x y = t
            · have hF := Lib.hid (HFD.out.2 ⟨hdb, hy⟩)
              rw [hy] at hd
              have HD := Lib.hid hd
              clear hv hd hdb hno hy
              go_wp2_with (first
                | refine wpList_store_row rfl _ _ _ rfl wr.heap.size (ivs .i64 [(k : Int), x, y]) rfl rfl 31 _ r8 (by rw [ivs_size]; exact size31) (by simp [ivs_size]) ivs_one ?_
                | (go_at_call 28; refine (HV.out _).mono ?_; rintro e w5 ⟨rfl, hb5⟩; have H5 := Lib.hid (BA.out.trans (hb5.mono BA.out.size)); have K5 := Lib.hid (KA.out.below hb5 KA.out.lt); have t51 := K5.out.rowAt_eq (n := 3) rfl; have t52 := K5.out.hasRow_eq (n := 3) rfl; clear hb5)
                | (go_at_call 13; refine (HD.out _ (HTB.out _ (HB2W.out _ H5.out))).mono ?_; rintro e w6 ⟨rfl, hb6⟩; have H6 := Lib.hid (H5.out.trans (hb6.mono H5.out.size)); have K6 := Lib.hid (K5.out.below hb6 K5.out.lt); have R6 := Lib.hid (HR.out.below H6.out hRw); have t61 := K6.out.rowAt_eq (n := 3) rfl; have t62 := K6.out.hasRow_eq (n := 3) rfl; clear hb6)
                | refine wpList_store_row rfl _ _ _ rfl w.heap.size (ivs .i64 [(k : Int), x, y]) rfl rfl 31 _ R6.out (by rw [ivs_size]; exact size31) (by simp [ivs_size]) ivs_one ?_)
              exact bodyPost_ret (results_row_tmpD rfl _ _ w.heap.size 31 (ivs .i64 [(k : Int), x, y]) (0, 0) _ rfl (R6.out.row _) Tryd.underlying31 rfl (by rw [ivs_size]; exact size31)) rfl ⟨⟨_, _, _, 0, .inl ⟨hF.out, rfl⟩, rfl⟩, below_setRow (HB2W.out _ H6.out) (Nat.le_refl _) _⟩
            · have hno2 : Hid (∀ j : Nat, 1 ≤ j → j < k + 1 → ¬ Found t j x y) := Lib.hid (fun j h1 h2 h => by
                by_cases e : j = k
                · subst e; exact hy (HFD.out.1 h).2
                · exact hno.out j h1 (by omega) h)
              have hyb : ((dtext (k : Int) x y).toList == t.toList) = false := beq_eq_false_iff_ne.2 fun e => hy (ba_inj e)
              clear hdb hno hy HFD
              generalize dtext (k : Int) x y = dtx at *
              have HD := Lib.hid hd
              clear hv hd
              go_wp2_with (first
                | refine wpList_store_row rfl _ _ _ rfl wr.heap.size (ivs .i64 [(k : Int), x, y]) rfl rfl 31 _ r8 (by rw [ivs_size]; exact size31) (by simp [ivs_size]) ivs_one ?_
                | (go_at_call 28; refine (HV.out _).mono ?_; rintro e w5 ⟨rfl, hb5⟩; have H5 := Lib.hid (BA.out.trans (hb5.mono BA.out.size)); have K5 := Lib.hid (KA.out.below hb5 KA.out.lt); have t51 := K5.out.rowAt_eq (n := 3) rfl; have t52 := K5.out.hasRow_eq (n := 3) rfl; clear hb5)
                | (go_at_call 13; refine (HD.out _ (HTB.out _ (HB2W.out _ H5.out))).mono ?_; rintro e w6 ⟨rfl, hb6⟩; have H6 := Lib.hid (H5.out.trans (hb6.mono H5.out.size)); clear hb6))
              exact ⟨⟨k + 1, by omega, by omega, by go_num, hno2, HR.out.below H6.out hRw, HK.out.below H6.out hNw, HB2W.out _ H6.out⟩, by simp [intOf]; omega⟩
        · obtain rfl : k = 10 := by omega
          have hnone : Hid (∀ a b c : Int, ¬ Found t a b c) := Lib.hid (fun a b c h => by
            obtain ⟨⟨k1, k9⟩, _⟩ := deedB_parts h.1
            obtain ⟨e1, e2⟩ := HGD.out a b c h
            have := hno.out a.toNat (by omega) (by omega)
            rw [show ((a.toNat : Nat) : Int) = a by omega, e1, e2] at this
            exact this h)
          clear cx cy
          go_wp2_with (refine wpList_store_row rfl _ _ _ rfl w.heap.size (ivs .i64 [0, 0, 0]) rfl rfl 31 _ HR.out (by rw [ivs_size]; exact size31) (by simp [ivs_size]) ivs_one ?_)
          exact bodyPost_ret (results_row_tmpD rfl _ _ w.heap.size 31 (ivs .i64 [0, 0, 0]) (0, 0) _ rfl (HR.out.row _) Tryd.underlying31 rfl (by rw [ivs_size]; exact size31)) rfl ⟨⟨0, 0, 0, 5, .inr ⟨hnone.out, rfl, rfl, rfl, rfl⟩, rfl⟩, below_setRow HBr.out (Nat.le_refl _) _⟩
  · have hm0 : ¬ m = 0 := by omega
    have hmi : ¬ (m : Int) = 0 := by omega
    go_wp2_with (refine wpList_store_row rfl _ _ _ rfl w2.heap.size (ivs .i64 [0, 0]) rfl rfl 63 _ r3 (by rw [ivs_size]; exact size63) (by simp [ivs_size]) ivs_one ?_)
    generalize ((w2.alloc (.cells #[.int .i64 0, .int .i64 0] 63)).setRow w2.heap.size (ivs .i64 [0, 0])) = w3 at *
    clear r3 b3
    have R3 := Lib.hid (R2.out.below B3.out R2.out.lt)
    have S3 := Lib.hid (HSB.out.below B3.out HSB.out.lt)
    have BW3 := Lib.hid (B2.out.trans (B3.out.mono B2.out.size))
    have hword : ∀ j, j < m → ∃ p : ByteArray, (strs S).toArray[1 + j]? = some (.string p) ∧ ∃ hj : j < ws.length, p.data.toList = ws[j] := fun j hj => by
      have hSj : 1 + j < S.length := by omega
      have hjw : j < ws.length := by omega
      refine ⟨S[1 + j], by rw [List.getElem?_toArray]; exact strs_at hSj, hjw, ?_⟩
      have e : ws[j]? = some (S[1 + j].data.toList) := by
        generalize hq : S[1 + j] = q
        rw [hws, List.getElem?_tail, ← hSd, List.getElem?_map, Nat.add_comm j 1, List.getElem?_eq_getElem hSj, hq]; rfl
      rw [List.getElem?_eq_getElem (by omega)] at e
      exact (Option.some.inj e).symm
    have HWORD := Lib.hid hword
    have HMEM : Hid (∀ p ∈ ws, p.length ≤ 1048576) := Lib.hid (fun p hp => HLEN.out p (by rw [hws] at hp; exact List.mem_of_mem_tail hp))
    have HIF : Hid (∀ k a b, Found t k a b → ws.length ≤ 2 ∧ (∀ p ∈ ws, okW p = true) ∧ iN ws 0 = a ∧ iN ws 1 = b) := Lib.hid (fun k a b h => by rw [hws]; exact i_found h)
    have HWL := Lib.hid hwl
    clear hword hws hSl hSd hm1 hwl hmp
    go_loopw [6, 7, 8, 9, 18] (fun _ _ _ _ ctr wr => ∃ j : Nat, j ≤ m ∧ j ≤ 2 ∧ ctr = .int .i64 j ∧ Blk wr w.heap.size 31 (ivs .i64 [0, 0, 0]) ∧ Blk wr w2.heap.size 63 (ivs .i64 (stN ws j)) ∧ Blk wr (w.heap.size + 1) 9 (strs S).toArray ∧ Below w.heap.size w wr) (fun _ _ _ _ ctr _ => m - (intOf ctr).toNat)
    case atStart => exact ⟨0, by omega, by omega, rfl, R3.out, K3.out, S3.out, BW3.out⟩
    case round =>
      obtain ⟨j, hjm, hj2, rfl, hR, hK, hS, hbr⟩ := hrel
      have HR := Lib.hid hR
      have HK := Lib.hid hK
      have HS := Lib.hid hS
      have HBr := Lib.hid hbr
      have hRw := hR.lt
      have hNw := hK.lt
      have hSw := hS.lt
      clear hR hK hS hbr
      by_cases hlt : j < m
      · have hlt' : (j : Int) < m := by omega
        obtain ⟨p, hp, hjl, hpd⟩ := HWORD.out j hlt
        have hc : wr.cell? ⟨w.heap.size + 1, 1 + j, none⟩ = some (.string p) := (HS.out.cell (1 + j)).trans hp
        have hps : p.size ≤ 1048576 := by rw [Lib.size_eq, hpd]; exact HMEM.out _ (List.getElem_mem hjl)
        have hpz : (p.size : Int) ≤ 1048576 := by omega
        cases hok : okW p.data.toList
        · have HPX := Lib.hid (HPN.out p wr hps hok HBr.out)
          have hneq := fun (T : TypeId) (x : Value) (W : World) => neq_iface T x W
          have hnone : Hid (∀ a b c : Int, ¬ Found t a b c) := Lib.hid (fun a b c h => by
            have := (HIF.out a b c h).2.1 ws[j] (List.getElem_mem hjl)
            rw [← hpd, hok] at this
            cases this)
          clear hp hps hpd hok
          by_cases hj1 : (1 : Int) < j
          · go_wp2_with (first
              | (go_at_call 34; refine HPX.out.mono ?_; rintro e w5 ⟨⟨x5, T5, p5, rfl⟩, hb5⟩; have R5 := Lib.hid (HR.out.below hb5 hRw); have B5 := Lib.hid (HBr.out.trans (hb5.mono HBr.out.size)); clear hb5)
              | refine wpList_store_row rfl _ _ _ rfl w.heap.size (ivs .i64 [0, 0, 0]) rfl rfl 31 _ R5.out (by rw [ivs_size]; exact size31) (by simp [ivs_size]) ivs_one ?_)
            exact bodyPost_ret (results_row_tmpD rfl _ _ w.heap.size 31 (ivs .i64 [0, 0, 0]) (0, 0) _ rfl (R5.out.row _) Tryd.underlying31 rfl (by rw [ivs_size]; exact size31)) rfl ⟨⟨0, 0, 0, 5, .inr ⟨hnone.out, rfl, rfl, rfl, rfl⟩, rfl⟩, below_setRow B5.out (Nat.le_refl _) _⟩
          · go_wp2_with (first
              | (go_at_call 34; refine HPX.out.mono ?_; rintro e w5 ⟨⟨x5, T5, p5, rfl⟩, hb5⟩; have R5 := Lib.hid (HR.out.below hb5 hRw); have B5 := Lib.hid (HBr.out.trans (hb5.mono HBr.out.size)); clear hb5)
              | refine wpList_store_row rfl _ _ _ rfl w.heap.size (ivs .i64 [0, 0, 0]) rfl rfl 31 _ R5.out (by rw [ivs_size]; exact size31) (by simp [ivs_size]) ivs_one ?_)
            exact bodyPost_ret (results_row_tmpD rfl _ _ w.heap.size 31 (ivs .i64 [0, 0, 0]) (0, 0) _ rfl (R5.out.row _) Tryd.underlying31 rfl (by rw [ivs_size]; exact size31)) rfl ⟨⟨0, 0, 0, 5, .inr ⟨hnone.out, rfl, rfl, rfl, rfl⟩, rfl⟩, below_setRow B5.out (Nat.le_refl _) _⟩
        · obtain ⟨v, hv⟩ : ∃ v, Lib.parseIntB 64 p.data.toList = .ok v := by
            unfold okW at hok
            cases e : Lib.parseIntB 64 p.data.toList
            · exact ⟨_, rfl⟩
            · rw [e] at hok; cases hok
            · rw [e] at hok; cases hok
          have HPX := Lib.hid (parse_ok p hps v hv wr)
          by_cases hj1 : j < 2
          · have hj1' : ¬ (1 : Int) < j := by omega
            have hj2' : (j : Int) < 2 := by omega
            rw [hpd] at hv
            have hst := stN_step hjl hj1 hv
            have HST := Lib.hid hst
            have hlen : (stN ws j).length = 2 := rfl
            have HL2 := Lib.hid hlen
            clear hp hps hpd hok hv hst hlen
            go_wp2_with (first
              | (go_at_call 34; refine HPX.out.mono ?_; rintro e w5 ⟨rfl, hb5⟩; have R5 := Lib.hid (HR.out.below hb5 hRw); have K5 := Lib.hid (HK.out.below hb5 hNw); have S5 := Lib.hid (HS.out.below hb5 hSw); have B5 := Lib.hid (HBr.out.trans (hb5.mono HBr.out.size)); obtain ⟨u5, c5⟩ := K5.out.some_ (i := j) (by rw [HL2.out]; exact hj1); have f5 := K5.out.frozen j; clear hb5))
            have K6 := K5.out.setI j v
            rw [HST.out] at K6
            have hN1 : w.heap.size ≠ w2.heap.size := by have := HZ2.out; omega
            have hN2 : w.heap.size + 1 ≠ w2.heap.size := by have := HZ2.out; omega
            exact ⟨⟨j + 1, by omega, by omega, by go_num, R5.out.far hN1 _, K6, S5.out.far hN2 _, B5.out.setCell (by have := HZ2.out; show w.heap.size ≤ w2.heap.size; omega) _⟩, by simp [intOf]; omega⟩
          · have hj1' : (1 : Int) < j := by omega
            have hnone : Hid (∀ a b c : Int, ¬ Found t a b c) := Lib.hid (fun a b c h => by
              have := (HIF.out a b c h).1
              omega)
            clear hp hps hpd hok hv
            go_wp2_with (first
              | (go_at_call 34; refine HPX.out.mono ?_; rintro e w5 ⟨rfl, hb5⟩; have R5 := Lib.hid (HR.out.below hb5 hRw); have B5 := Lib.hid (HBr.out.trans (hb5.mono HBr.out.size)); clear hb5)
              | refine wpList_store_row rfl _ _ _ rfl w.heap.size (ivs .i64 [0, 0, 0]) rfl rfl 31 _ R5.out (by rw [ivs_size]; exact size31) (by simp [ivs_size]) ivs_one ?_)
            exact bodyPost_ret (results_row_tmpD rfl _ _ w.heap.size 31 (ivs .i64 [0, 0, 0]) (0, 0) _ rfl (R5.out.row _) Tryd.underlying31 rfl (by rw [ivs_size]; exact size31)) rfl ⟨⟨0, 0, 0, 5, .inr ⟨hnone.out, rfl, rfl, rfl, rfl⟩, rfl⟩, below_setRow B5.out (Nat.le_refl _) _⟩
      · obtain rfl : j = m := by omega
        have hend := stN_end (ws := ws) (by rw [HWL.out]; exact hj2)
        rw [HWL.out] at hend
        have KX0 := HK.out
        rw [hend] at KX0
        have KX1 := Lib.hid KX0
        have HGD0 : Hid (∀ k a b, Found t k a b → iN ws 0 = a ∧ iN ws 1 = b) := Lib.hid (fun k a b h => (HIF.out k a b h).2.2)
        generalize iN ws 0 = x at *
        generalize iN ws 1 = y at *
        have KX := KX1
        have HGD := HGD0
        have RX := HR
        have BX := HBr
        clear KX0 hend HK HIF HMEM HWORD K3 R3 S3 BW3
        obtain ⟨w4, rfl⟩ : ∃ w4 : World, w4 = wr := ⟨_, rfl⟩
        go_wp2_with fail
        go_loopw [10, 11] (fun kv _ wr => ∃ k : Nat, 1 ≤ k ∧ k ≤ 10 ∧ kv = .int .i64 k ∧ Hid (∀ j : Nat, 1 ≤ j → j < k → ¬ Found t j x y) ∧ Blk wr w.heap.size 31 (ivs .i64 [0, 0, 0]) ∧ Blk wr w2.heap.size 63 (ivs .i64 [x, y]) ∧ Below w.heap.size w wr) (fun kv _ _ => 11 - (intOf kv).toNat)
        case atStart => exact ⟨1, by omega, by omega, rfl, Lib.hid (fun j h1 h2 => by omega), RX.out, KX.out, BX.out⟩
        case round =>
          obtain ⟨k, hk1, hk, rfl, hno, hR, hK, hbr⟩ := hrel
          have HR := Lib.hid hR
          have HK := Lib.hid hK
          have HBr := Lib.hid hbr
          have hRw : w.heap.size < wr.heap.size := hR.lt
          have hNw : w2.heap.size < wr.heap.size := hK.lt
          have cx : wr.cell? ⟨w2.heap.size, 0, none⟩ = some (.int .i64 x) := hK.cell 0
          have cy : wr.cell? ⟨w2.heap.size, 1, none⟩ = some (.int .i64 y) := hK.cell 1
          clear hR hK hbr
          by_cases hlt : k ≤ 9
          · have hlt' : (k : Int) ≤ 9 := by omega
            have r8 : Blk (wr.alloc (.cells #[.int .i64 0, .int .i64 0, .int .i64 0] 31)) wr.heap.size 31 (ivs .i64 [0, 0, 0]) := Blk.newAt rfl rfl
            have b8 : Below wr.heap.size wr (wr.alloc (.cells #[.int .i64 0, .int .i64 0, .int .i64 0] 31)) := (Below.refl _ _).alloc (Nat.le_refl _) _
            have KA := Lib.hid (r8.row (ivs .i64 [(k : Int), x, y]))
            have BA := Lib.hid (below_setRow b8 (g := wr.heap.size) (Nat.le_refl _) (ivs .i64 [(k : Int), x, y]))
            have ta1 : rowAt _ wr.heap.size 0 3 = ivs .i64 [(k : Int), x, y] := KA.out.rowAt_eq rfl
            have ta2 : hasRow _ wr.heap.size 0 3 = true := KA.out.hasRow_eq rfl
            have hv : ∀ W, Calls Tryd.prog 28 #[.agg (ivs .i64 [(k : Int), x, y])] W fun e w' => e = .returned (.bool (deedB (k : Int) x y)) ∧ Below W.heap.size W w' := fun W => iValidDeed_any (k : Int) x y W
            have hd : ∀ W, Tab W → Calls Tryd.prog 13 #[.agg (ivs .i64 [(k : Int), x, y])] W fun e w' => e = .returned (.string (dtext (k : Int) x y)) ∧ Below W.heap.size W w' := fun W h => iDeedText_any (k : Int) x y W h
            have hfd : Found t (k : Int) x y ↔ deedB (k : Int) x y = true ∧ dtext (k : Int) x y = t := Iff.rfl
            have HFD := Lib.hid hfd
            clear hfd
            have hB2w : ∀ W, Below wr.heap.size wr W → Below w.heap.size w W := fun W h => HBr.out.trans (h.mono HBr.out.size)
            have HB2W := Lib.hid hB2w
            clear hB2w
            cases hdb : deedB (k : Int) x y
            · rw [hdb] at hv
              have HV := Lib.hid hv
              have hno2 : Hid (∀ j : Nat, 1 ≤ j → j < k + 1 → ¬ Found t j x y) := Lib.hid (fun j h1 h2 h => by
                by_cases e : j = k
                · subst e; have := (HFD.out.1 h).1; rw [hdb] at this; cases this
                · exact hno.out j h1 (by omega) h)
              clear hv hd hdb hno
              go_wp2_with (first
                | refine wpList_store_row rfl _ _ _ rfl wr.heap.size (ivs .i64 [(k : Int), x, y]) rfl rfl 31 _ r8 (by rw [ivs_size]; exact size31) (by simp [ivs_size]) ivs_one ?_
                | (go_at_call 28; refine (HV.out _).mono ?_; rintro e w5 ⟨rfl, hb5⟩; have H5 := Lib.hid (BA.out.trans (hb5.mono BA.out.size)); clear hb5))
              exact ⟨⟨k + 1, by omega, by omega, by go_num, hno2, HR.out.below H5.out hRw, HK.out.below H5.out hNw, HB2W.out _ H5.out⟩, by simp [intOf]; omega⟩
            · rw [hdb] at hv
              have HV := Lib.hid hv
              by_cases hy : dtext (k : Int) x y = t
              · have hF := Lib.hid (HFD.out.2 ⟨hdb, hy⟩)
                rw [hy] at hd
                have HD := Lib.hid hd
                clear hv hd hdb hno hy
                go_wp2_with (first
                  | refine wpList_store_row rfl _ _ _ rfl wr.heap.size (ivs .i64 [(k : Int), x, y]) rfl rfl 31 _ r8 (by rw [ivs_size]; exact size31) (by simp [ivs_size]) ivs_one ?_
                  | (go_at_call 28; refine (HV.out _).mono ?_; rintro e w5 ⟨rfl, hb5⟩; have H5 := Lib.hid (BA.out.trans (hb5.mono BA.out.size)); have K5 := Lib.hid (KA.out.below hb5 KA.out.lt); have t51 := K5.out.rowAt_eq (n := 3) rfl; have t52 := K5.out.hasRow_eq (n := 3) rfl; clear hb5)
                  | (go_at_call 13; refine (HD.out _ (HTB.out _ (HB2W.out _ H5.out))).mono ?_; rintro e w6 ⟨rfl, hb6⟩; have H6 := Lib.hid (H5.out.trans (hb6.mono H5.out.size)); have K6 := Lib.hid (K5.out.below hb6 K5.out.lt); have R6 := Lib.hid (HR.out.below H6.out hRw); have t61 := K6.out.rowAt_eq (n := 3) rfl; have t62 := K6.out.hasRow_eq (n := 3) rfl; clear hb6)
                  | refine wpList_store_row rfl _ _ _ rfl w.heap.size (ivs .i64 [(k : Int), x, y]) rfl rfl 31 _ R6.out (by rw [ivs_size]; exact size31) (by simp [ivs_size]) ivs_one ?_)
                exact bodyPost_ret (results_row_tmpD rfl _ _ w.heap.size 31 (ivs .i64 [(k : Int), x, y]) (0, 0) _ rfl (R6.out.row _) Tryd.underlying31 rfl (by rw [ivs_size]; exact size31)) rfl ⟨⟨_, _, _, 0, .inl ⟨hF.out, rfl⟩, rfl⟩, below_setRow (HB2W.out _ H6.out) (Nat.le_refl _) _⟩
              · have hno2 : Hid (∀ j : Nat, 1 ≤ j → j < k + 1 → ¬ Found t j x y) := Lib.hid (fun j h1 h2 h => by
                  by_cases e : j = k
                  · subst e; exact hy (HFD.out.1 h).2
                  · exact hno.out j h1 (by omega) h)
                have hyb : ((dtext (k : Int) x y).toList == t.toList) = false := beq_eq_false_iff_ne.2 fun e => hy (ba_inj e)
                clear hdb hno hy HFD
                generalize dtext (k : Int) x y = dtx at *
                have HD := Lib.hid hd
                clear hv hd
                go_wp2_with (first
                  | refine wpList_store_row rfl _ _ _ rfl wr.heap.size (ivs .i64 [(k : Int), x, y]) rfl rfl 31 _ r8 (by rw [ivs_size]; exact size31) (by simp [ivs_size]) ivs_one ?_
                  | (go_at_call 28; refine (HV.out _).mono ?_; rintro e w5 ⟨rfl, hb5⟩; have H5 := Lib.hid (BA.out.trans (hb5.mono BA.out.size)); have K5 := Lib.hid (KA.out.below hb5 KA.out.lt); have t51 := K5.out.rowAt_eq (n := 3) rfl; have t52 := K5.out.hasRow_eq (n := 3) rfl; clear hb5)
                  | (go_at_call 13; refine (HD.out _ (HTB.out _ (HB2W.out _ H5.out))).mono ?_; rintro e w6 ⟨rfl, hb6⟩; have H6 := Lib.hid (H5.out.trans (hb6.mono H5.out.size)); clear hb6))
                exact ⟨⟨k + 1, by omega, by omega, by go_num, hno2, HR.out.below H6.out hRw, HK.out.below H6.out hNw, HB2W.out _ H6.out⟩, by simp [intOf]; omega⟩
          · obtain rfl : k = 10 := by omega
            have hnone : Hid (∀ a b c : Int, ¬ Found t a b c) := Lib.hid (fun a b c h => by
              obtain ⟨⟨k1, k9⟩, _⟩ := deedB_parts h.1
              obtain ⟨e1, e2⟩ := HGD.out a b c h
              have := hno.out a.toNat (by omega) (by omega)
              rw [show ((a.toNat : Nat) : Int) = a by omega, e1, e2] at this
              exact this h)
            clear cx cy
            go_wp2_with (refine wpList_store_row rfl _ _ _ rfl w.heap.size (ivs .i64 [0, 0, 0]) rfl rfl 31 _ HR.out (by rw [ivs_size]; exact size31) (by simp [ivs_size]) ivs_one ?_)
            exact bodyPost_ret (results_row_tmpD rfl _ _ w.heap.size 31 (ivs .i64 [0, 0, 0]) (0, 0) _ rfl (HR.out.row _) Tryd.underlying31 rfl (by rw [ivs_size]; exact size31)) rfl ⟨⟨0, 0, 0, 5, .inr ⟨hnone.out, rfl, rfl, rfl, rfl⟩, rfl⟩, below_setRow HBr.out (Nat.le_refl _) _⟩
end Go.Proofs.YtfjfiljgbkhblaaDoor
