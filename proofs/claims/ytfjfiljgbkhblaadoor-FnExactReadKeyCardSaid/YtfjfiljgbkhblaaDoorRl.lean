/- ReadKey: the program's walk; the law's walk. -/
import Derived.Test.YtfjfiljgbkhblaaDoorRows
import Derived.Test.YtfjfiljgbkhblaaDoorHk
import Derived.Test.YtfjfiljgbkhblaaDoorRk
import Derived.Test.YtfjfiljgbkhblaaDoorSha
import Derived.Test.YtfjfiljgbkhblaaDoorLg
import Derived.Laws.Cover3
import Derived.LaidEql
namespace Go.Proofs.YtfjfiljgbkhblaaDoor
open Go.ChangeShapes Go.WideShapes Go.ChangeAt Go.RowKit

theorem strOf_nums (l : List UInt8) : strOfNums (nums l) = ⟨l.toArray⟩ := by
  unfold strOfNums nums
  rw [List.map_map]
  congr 2
  conv => rhs; rw [← List.map_id l]
  refine List.map_congr_left fun b _ => ?_
  show UInt8.ofNat ((b.toNat : Int)).toNat = b
  simp
theorem nums_inj {l : List UInt8} {X : List Int} (h : strOfNums X = ⟨l.toArray⟩) (hX : ∀ x ∈ X, 0 ≤ x ∧ x ≤ 255) : nums l = X := by
  have h1 : (strOfNums X).data.toList = l := by rw [h]
  rw [strOfNums_data] at h1
  rw [← h1, nums, List.map_map]
  conv => rhs; rw [← List.map_id X]
  refine List.map_congr_left fun x hx => ?_
  have := hX x hx
  show (((UInt8.ofNat x.toNat).toNat : Nat) : Int) = x
  rw [UInt8.toNat_ofNat']
  omega
theorem hexs_255 {l : List Int} (h : ∀ x ∈ l, 0 ≤ x ∧ x ≤ 255) : ∀ x ∈ hexs l, 0 ≤ x ∧ x ≤ 255 := fun x hx => by
  have := hexs_v h x hx
  simp only [vHex, Bool.or_eq_true, Bool.and_eq_true, decide_eq_true_eq] at this
  omega
theorem nums_255 (l : List UInt8) : ∀ x ∈ nums l, 0 ≤ x ∧ x ≤ 255 := fun x hx => by
  simp only [nums, List.mem_map] at hx
  obtain ⟨b, _, rfl⟩ := hx
  have := b.toNat_lt
  omega
theorem dec_yes (l : List UInt8) (h : rkOk (nums l) = true) : (Lib.Hx.decode l).2 = .ok ∧ (Lib.Hx.decode l).1.length = 16 ∧ nums (Lib.Hx.decode l).1 = rkTo (nums l) 32 ∧ strOfNums (hexs (nums (Lib.Hx.decode l).1)) = ⟨l.toArray⟩ := by
  rw [rkOk, Bool.and_eq_true, decide_eq_true_eq, List.all_eq_true] at h
  obtain ⟨h1, h2⟩ := h
  have hl : l.length = 32 := by rw [nums, List.length_map] at h1; exact h1
  obtain ⟨e1, e2⟩ := decode_ok (l := l) (by omega) h2
  have hlen : (nums (Lib.Hx.decode l).1).length = 16 := by rw [e2, pairs_length, h1]
  refine ⟨e1, by rw [nums, List.length_map] at hlen; exact hlen, by rw [e2, rkTo_pairs h1], ?_⟩
  rw [e2, hexs_pairs (by omega) h2, strOf_nums]
theorem dec_no (l : List UInt8) (h : rkOk (nums l) = false) (h1 : (Lib.Hx.decode l).1.length = 16) : strOfNums (hexs (nums (Lib.Hx.decode l).1)) ≠ ⟨l.toArray⟩ := fun e => by
  have hb := nums_255 (Lib.Hx.decode l).1
  have := nums_inj e (hexs_255 hb)
  rw [rkOk, this, hexs_length, nums, List.length_map, h1] at h
  have hv : (hexs (nums (Lib.Hx.decode l).1)).all vHex = true := List.all_eq_true.2 (hexs_v hb)
  rw [nums] at hv
  rw [hv] at h
  cases h

theorem rangeAt_below {w w' : World} {b o : Nat} {xs : List Value} (h : w.rangeAt b o xs) (hb : Below w.heap.size w w') (hlt : b < w.heap.size) : w'.rangeAt b o xs := fun j v hv => by
  rw [(bcell hb).1 b _ hlt]
  exact h j v hv
theorem neq_iface_nil (T : TypeId) (x : Value) (W : World) : (binOp .neq 49 (.iface T x) .nilIface).run Tryd.prog W = .ok (.bool true) W := by kernel_rfl

set_option maxRecDepth 20000 in
set_option maxHeartbeats 3200000 in
theorem iReadKey_any (s : ByteArray) (hs : s.size ≤ 1048576) (w : World) (Te : TypeId) (ve : Value) (hE : w.cell? ⟨0, 0, none⟩ = some (.iface Te ve)) :
    Calls Tryd.prog 9 #[.string s] w fun e w' => e = .returned (.tuple #[.agg (ivs .u8 (rkV (nums s.data.toList))), .int .i64 (rkC (nums s.data.toList))]) ∧ Below w.heap.size w w' := by
  obtain ⟨D, hD⟩ : ∃ D, D = Lib.Hx.decode s.data.toList := ⟨_, rfl⟩
  obtain ⟨t, ht⟩ : ∃ t, t = nums s.data.toList := ⟨_, rfl⟩
  have hdec := Tryd.hex_DecodeString s (w.alloc (.cells #[.int .u8 0, .int .u8 0, .int .u8 0, .int .u8 0, .int .u8 0, .int .u8 0, .int .u8 0, .int .u8 0, .int .u8 0, .int .u8 0, .int .u8 0, .int .u8 0, .int .u8 0, .int .u8 0, .int .u8 0, .int .u8 0] 23)) (.iface Te ve) (by rw [← hE]; exact World.cell?_alloc_some _ _ _ (by rw [hE]; rfl)) (by omega)
  rw [← hD, size_alloc] at hdec
  have hbyt := nums_255 D.1
  have hyes := dec_yes s.data.toList
  have hno := dec_no s.data.toList
  rw [← hD, ← ht] at hyes hno
  rw [← ht]
  have r1 : Blk (w.alloc (.cells #[.int .u8 0, .int .u8 0, .int .u8 0, .int .u8 0, .int .u8 0, .int .u8 0, .int .u8 0, .int .u8 0, .int .u8 0, .int .u8 0, .int .u8 0, .int .u8 0, .int .u8 0, .int .u8 0, .int .u8 0, .int .u8 0] 23)) w.heap.size 23 (ivs .u8 (List.replicate 16 0)) := Blk.newAt rfl rfl
  have b1 : Below w.heap.size w (w.alloc (.cells #[.int .u8 0, .int .u8 0, .int .u8 0, .int .u8 0, .int .u8 0, .int .u8 0, .int .u8 0, .int .u8 0, .int .u8 0, .int .u8 0, .int .u8 0, .int .u8 0, .int .u8 0, .int .u8 0, .int .u8 0, .int .u8 0] 23)) := (Below.refl _ _).alloc (Nat.le_refl _) _
  have R1 := Lib.hid r1
  have B1 := Lib.hid b1
  have hfail : rkOk t = false → rkV t = List.replicate 16 0 ∧ rkC t = 5 := fun e => ⟨by rw [rkV, e]; rfl, by rw [rkC, e]; rfl⟩
  have hgood : rkOk t = true → rkV t = rkTo t 32 ∧ rkC t = 0 := fun e => ⟨by rw [rkV, e]; rfl, by rw [rkC, e]; rfl⟩
  have HF := Lib.hid hfail
  have HG := Lib.hid hgood
  have HY := Lib.hid hyes
  have HN := Lib.hid hno
  have hsz : w.heap.size < (w.alloc (.cells #[.int .u8 0, .int .u8 0, .int .u8 0, .int .u8 0, .int .u8 0, .int .u8 0, .int .u8 0, .int .u8 0, .int .u8 0, .int .u8 0, .int .u8 0, .int .u8 0, .int .u8 0, .int .u8 0, .int .u8 0, .int .u8 0] 23)).heap.size := by rw [size_alloc]; omega
  clear hfail hgood hyes hno
  rcases hr : D.2 with _ | c | _
  · rw [hr] at hdec
    simp only [Lib.Hx.errVal] at hdec
    by_cases hl : D.1.length = 16
    · have hlM : (nums D.1).length = 16 := by rw [nums, List.length_map, hl]
      have hcond : (rkOk t = true ∧ strOfNums (hexs (nums D.1)) = s ∧ nums D.1 = rkTo t 32) ∨ (rkOk t = false ∧ strOfNums (hexs (nums D.1)) ≠ s) := by
        rcases hk : rkOk t with _ | _
        · exact .inr ⟨rfl, HN.out hk hl⟩
        · exact .inl ⟨rfl, (HY.out hk).2.2.2, (HY.out hk).2.2.1⟩
      have HDEC := Lib.hid hdec
      have HLM := Lib.hid hlM
      have HBYT := Lib.hid hbyt
      have hkt := fun W => iKeyText_any (nums D.1) hlM hbyt W
      have HKT := Lib.hid hkt
      have hcells : ∀ w2 : World, w2.rowIs (w.heap.size + 1) 5 (s.size / 2) (Lib.Hx.rowP (fun _ => .int .u8 0) 0 D.1) → 16 ≤ s.size / 2 → w2.rangeAt (w.heap.size + 1) 0 ((nums D.1).map (.int .u8)) := fun w2 hrow h16 j v hv => by
        have hj : j < 16 := by
          rcases Nat.lt_or_ge j 16 with h | h
          · exact h
          · rw [List.getElem?_eq_none (by rw [List.length_map, HLM.out]; exact h)] at hv; cases hv
        rw [Nat.zero_add, hrow.cell (by omega)]
        rw [nums, List.map_map, List.getElem?_map, List.getElem?_eq_getElem (by omega)] at hv
        rw [← hv]
        unfold Lib.Hx.rowP
        rw [if_pos ⟨by omega, by omega⟩, Nat.sub_zero, List.getElem?_eq_getElem (by omega)]
        rfl
      have HC := Lib.hid hcells
      have harr := fun (a : Option Addr) (c : Nat) (x : World) => run_arrayAt (P := Tryd.prog) (w := x) 23 5 16 a 16 c Tryd.underlying23 (by omega)
      have hlz : (D.1.length : Int) = 16 := by omega
      have hlen : 16 ≤ s.size / 2 := by have := Lib.Hx.decode_len s.data.toList; rw [← hD, hl, ← Lib.size_eq] at this; exact this
      clear hdec HY HN hE hbyt hD r1 b1 ht hr hlM hkt hcells
      rcases hcond with ⟨hk, hst, htn⟩ | ⟨hk, hst⟩
      · have E2 := Lib.hid (HG.out hk).1
        have E3 := Lib.hid (HG.out hk).2
        have HTN := Lib.hid htn
        have hkt2 := HKT.out
        rw [keyText, hst] at hkt2
        clear HKT
        have HKT := Lib.hid hkt2
        clear HG HF hk hst htn hkt2
        have h16 : 16 ≤ s.size / 2 := by have := hlen; omega
        have HDL := Lib.hid h16
        clear h16 hlen
        go_enter Tryd.func9, Tryd.ntmps9
        go_wp2_with (first
          | (go_at_call 23; refine HDEC.out.mono ?_; rintro e w2 ⟨rfl, hrow, hb2⟩; have HB2 := Lib.hid hb2; have HROW := Lib.hid hrow.lt; have HR2 := Lib.hid (HC.out w2 hrow HDL.out); clear hb2 hrow)
          | refine wpList_load_ivs_c rfl _ _ rfl (w.heap.size + 1) 0 (by rfl) .u8 (nums D.1) _ HR2.out Tryd.underlying23 rfl (by rw [HLM.out]; exact size23) ?_
          | (go_at_call 24; refine (HKT.out w2).mono ?_; rintro e w3 ⟨rfl, hb3⟩; have HR3 := Lib.hid (rangeAt_below HR2.out hb3 HROW.out); have HB3 := Lib.hid hb3; have R3 := Lib.hid ((R1.out.below HB2.out (by omega)).below hb3 (by have := HROW.out; omega)); clear hb3)
          | refine wpList_load_ivs rfl _ _ rfl (w.heap.size + 1) 0 (by rfl) .u8 (nums D.1) _ HR3.out Tryd.underlying23 rfl (by rw [HLM.out]; exact size23) ?_
          | refine wpList_store_row rfl _ _ _ rfl w.heap.size (ivs .u8 (nums D.1)) rfl rfl 23 _ R3.out (by rw [ivs_size, HLM.out]; exact size23) (by simp [ivs_size, HLM.out]) ivs_one ?_)
        exact bodyPost_ret (results_row_tmp rfl _ _ w.heap.size 23 (ivs .u8 (nums D.1)) (0, 0) _ rfl (R3.out.row _) Tryd.underlying23 rfl (by rw [ivs_size, HLM.out]; exact size23)) rfl ⟨by rw [E2.out, E3.out, ← HTN.out]; rfl, below_setRow ((B1.out.trans (HB2.out.mono (by omega))).trans (HB3.out.mono (by have := HROW.out; omega))) (by omega) _⟩
      · have E2 := Lib.hid (HF.out hk).1
        have E3 := Lib.hid (HF.out hk).2
        have h16 : 16 ≤ s.size / 2 := by have := hlen; omega
        have HDL := Lib.hid h16
        have hkt2 := HKT.out
        obtain ⟨z, hz⟩ : ∃ z, z = keyText (nums D.1) := ⟨_, rfl⟩
        have hzs : (z.toList == s.toList) = false := by
          rw [Lib.toList_data, Lib.toList_data, beq_eq_false_iff_ne]
          intro e
          exact hst ((show strOfNums (hexs (nums D.1)) = z from hz.symm).trans (WideShapes.bytes_inj e))
        rw [← hz] at hkt2
        clear HKT
        have HKT := Lib.hid hkt2
        clear HG HF hk hst h16 hlen hz hkt2
        go_enter Tryd.func9, Tryd.ntmps9
        go_wp2_with (first
          | (go_at_call 23; refine HDEC.out.mono ?_; rintro e w2 ⟨rfl, hrow, hb2⟩; have HB2 := Lib.hid hb2; have HROW := Lib.hid hrow.lt; have HR2 := Lib.hid (HC.out w2 hrow HDL.out); clear hb2 hrow)
          | refine wpList_load_ivs_c rfl _ _ rfl (w.heap.size + 1) 0 (by rfl) .u8 (nums D.1) _ HR2.out Tryd.underlying23 rfl (by rw [HLM.out]; exact size23) ?_
          | (go_at_call 24; refine (HKT.out w2).mono ?_; rintro e w3 ⟨rfl, hb3⟩; have HR3 := Lib.hid (rangeAt_below HR2.out hb3 HROW.out); have HB3 := Lib.hid hb3; have R3 := Lib.hid ((R1.out.below HB2.out (by omega)).below hb3 (by have := HROW.out; omega)); clear hb3)
          | refine wpList_store_row rfl _ _ _ rfl w.heap.size (ivs .u8 (List.replicate 16 0)) rfl rfl 23 _ R3.out (by rw [ivs_size]; exact size23) (by simp [ivs_size]) ivs_one ?_)
        exact bodyPost_ret (results_row_tmp rfl _ _ w.heap.size 23 (ivs .u8 (List.replicate 16 0)) (0, 0) _ rfl (R3.out.row _) Tryd.underlying23 rfl (by rw [ivs_size]; exact size23)) rfl ⟨by rw [E2.out, E3.out]; rfl, below_setRow ((B1.out.trans (HB2.out.mono (by omega))).trans (HB3.out.mono (by have := HROW.out; omega))) (by omega) _⟩
    · have hl' : ¬ (D.1.length : Int) = 16 := by omega
      have HLN := Lib.hid hl
      clear hl
      have HDEC := Lib.hid hdec
      have e1 : rkOk t = false := Bool.eq_false_iff.2 fun hk => HLN.out (HY.out hk).2.1
      have E2 := Lib.hid (HF.out e1).1
      have E3 := Lib.hid (HF.out e1).2
      clear HLN hdec HY HN HF HG hE hbyt hD r1 b1 e1 ht hr
      go_enter Tryd.func9, Tryd.ntmps9
      go_wp2_with (first | (go_at_call 23; refine HDEC.out.mono ?_; rintro e w2 ⟨rfl, hrow, hb2⟩; have HB2 := Lib.hid hb2; clear hb2 hrow) | refine wpList_store_row rfl _ _ _ rfl w.heap.size (ivs .u8 (List.replicate 16 0)) rfl rfl 23 _ (R1.out.below HB2.out (by omega)) (by rw [ivs_size]; exact size23) (by simp [ivs_size]) ivs_one ?_)
      exact bodyPost_ret (results_row_tmp rfl _ _ w.heap.size 23 (ivs .u8 (List.replicate 16 0)) (0, 0) _ rfl ((R1.out.below HB2.out (by omega)).row _) Tryd.underlying23 rfl (by rw [ivs_size]; exact size23)) rfl ⟨by rw [E2.out, E3.out]; rfl, below_setRow (B1.out.trans (HB2.out.mono (by omega))) (by omega) _⟩
  · rw [hr] at hdec
    simp only [Lib.Hx.errVal] at hdec
    have hneq := fun W => neq_iface_nil 90 (.int .u8 (c.toNat : Int)) W
    have HDEC := Lib.hid hdec
    have e1 : rkOk t = false := Bool.eq_false_iff.2 fun hk => by have := (HY.out hk).1; rw [hr] at this; cases this
    have E2 := Lib.hid (HF.out e1).1
    have E3 := Lib.hid (HF.out e1).2
    clear hdec HY HN HF HG hE hbyt hD r1 b1 e1 ht hr
    go_enter Tryd.func9, Tryd.ntmps9
    go_wp2_with (first | (go_at_call 23; refine HDEC.out.mono ?_; rintro e w2 ⟨rfl, hrow, hb2⟩; have HB2 := Lib.hid hb2; clear hb2 hrow) | refine wpList_store_row rfl _ _ _ rfl w.heap.size (ivs .u8 (List.replicate 16 0)) rfl rfl 23 _ (R1.out.below HB2.out (by omega)) (by rw [ivs_size]; exact size23) (by simp [ivs_size]) ivs_one ?_)
    exact bodyPost_ret (results_row_tmp rfl _ _ w.heap.size 23 (ivs .u8 (List.replicate 16 0)) (0, 0) _ rfl ((R1.out.below HB2.out (by omega)).row _) Tryd.underlying23 rfl (by rw [ivs_size]; exact size23)) rfl ⟨by rw [E2.out, E3.out]; rfl, below_setRow (B1.out.trans (HB2.out.mono (by omega))) (by omega) _⟩
  · rw [hr] at hdec
    simp only [Lib.Hx.errVal] at hdec
    have hneq := fun W => neq_iface_nil Te ve W
    have HDEC := Lib.hid hdec
    have e1 : rkOk t = false := Bool.eq_false_iff.2 fun hk => by have := (HY.out hk).1; rw [hr] at this; cases this
    have E2 := Lib.hid (HF.out e1).1
    have E3 := Lib.hid (HF.out e1).2
    clear hdec HY HN HF HG hE hbyt hD r1 b1 e1 ht hr
    go_enter Tryd.func9, Tryd.ntmps9
    go_wp2_with (first | (go_at_call 23; refine HDEC.out.mono ?_; rintro e w2 ⟨rfl, hrow, hb2⟩; have HB2 := Lib.hid hb2; clear hb2 hrow) | refine wpList_store_row rfl _ _ _ rfl w.heap.size (ivs .u8 (List.replicate 16 0)) rfl rfl 23 _ (R1.out.below HB2.out (by omega)) (by rw [ivs_size]; exact size23) (by simp [ivs_size]) ivs_one ?_)
    exact bodyPost_ret (results_row_tmp rfl _ _ w.heap.size 23 (ivs .u8 (List.replicate 16 0)) (0, 0) _ rfl ((R1.out.below HB2.out (by omega)).row _) Tryd.underlying23 rfl (by rw [ivs_size]; exact size23)) rfl ⟨by rw [E2.out, E3.out]; rfl, below_setRow (B1.out.trans (HB2.out.mono (by omega))) (by omega) _⟩
end Go.Proofs.YtfjfiljgbkhblaaDoor
