/- Valid pictures: the reference's walk. -/
import Derived.Test.YtmagaapdijapiaaDoorRows
import Derived.Test.YtmagaapdijapiaaDoorCi
namespace Go.Proofs.YtmagaapdijapiaaDoor
open Go.ChangeShapes Go.WideShapes Go.ChangeAt Go.RowKit
theorem vpB_long {l : List Bl} (h : 64 < l.length) : vpB l = false := by
  rw [vpB, decide_eq_false (show ¬ l.length ≤ 64 by omega), Bool.and_false]
section
attribute [local go_sem ↓] exec_ldCorner
attribute [local go_sem] run_ldCorner
set_option maxRecDepth 20000 in
set_option maxHeartbeats 3200000 in
theorem l07Ok_any (A : Option Addr) (n c : Nat) (l : List Bl) (hl : l.length = n) (hrow : Bls l) (h16 : ∀ b ∈ l, is16 b.2) (h32 : ∀ b ∈ l, ∀ x ∈ b.1, -2147483648 ≤ x ∧ x ≤ 2147483647) (hn : n ≤ 1048576) (w : World) (hR : Rd w w.heap.size 18 A n (bcs l)) :
    Calls Tryd.prog 38 #[.slice A n c] w fun e w' => e = .returned (.bool (vpB l)) ∧ Below w.heap.size w w' := by
  by_cases h64 : 64 < n
  · have hv := vpB_long (l := l) (by omega)
    rw [hv]
    have h64' : (64 : Int) < n := by omega
    clear hv hR
    go_enter Tryd.func38, Tryd.ntmps38
    go_wp2
    go_ret
    exact ⟨rfl, Below.refl _ _⟩
  have h64' : ¬ (64 : Int) < n := by omega
  have HR := Lib.hid hR
  have HROW := Lib.hid hrow
  clear hR hrow
  go_enter Tryd.func38, Tryd.ntmps38
  go_wp2
  go_loopw [3] (fun i wr => ∃ k : Nat, k ≤ n ∧ i = .int .i64 k ∧ Hid (vpTo l k = true) ∧ Below w.heap.size w wr) (fun i _ => n - (intOf i).toNat)
  case atStart => exact ⟨0, by omega, rfl, Lib.hid rfl, Below.refl _ _⟩
  case round =>
    obtain ⟨k, hk, rfl, hv, hb⟩ := hrel
    by_cases hlt : k < n
    · have hkl : k < l.length := by omega
      have hz := hb.size
      have hRw := HR.out.below hb (Nat.le_refl _)
      obtain ⟨b, o, rfl, hbB, hc⟩ := hRw.at_ (by omega)
      have hrg := hRw.block HROW.out (by omega) hkl
      have hbw : b < wr.heap.size := by omega
      obtain ⟨hb1, hb2⟩ := HROW.out.at_ hkl
      obtain ⟨F, hF⟩ : ∃ F, F = l[k] := ⟨_, rfl⟩
      have hM16 := h16 _ (List.getElem_mem hkl)
      have hX32 := h32 _ (List.getElem_mem hkl)
      rw [← hF] at hrg hb1 hb2 hM16 hX32
      have hM : wr.rangeAt b (o + k * 18 + 2) (F.2.map (.int .u16)) := fun j v hv => by
        rw [Nat.add_assoc (o + k * 18)]
        exact hrg (2 + j) v (by rw [bvs, List.getElem?_append_right (by rw [List.length_map, hb1]; omega), List.length_map, hb1, Nat.add_sub_cancel_left]; exact hv)
      have hA : wr.rangeAt b (o + k * 18) (F.1.map (.int .i32)) := fun q v hq => hrg q v (by
        rw [bvs, List.getElem?_append_left (by exact (List.getElem?_eq_some_iff.1 hq).1)]
        exact hq)
      have hE : ∀ t : After wr, Calls Tryd.prog 63 #[.pointer (some ⟨b, o + k * 18 + 2, none⟩)] t.to fun e w' => e = .returned (.bool (emptyM F.2)) ∧ t.to = w' := fun t => l07Empty_any b _ F.2 hb2 t.to (range_of_below hM t.h hbw)
      have hFt : ∀ t : After wr, Calls Tryd.prog 74 #[.pointer (some ⟨b, o + k * 18, none⟩)] t.to fun e w' => e = .returned (.bool (okCells (bCells F))) ∧ Below t.to.heap.size t.to w' := fun t => l07Fits_any b _ F ⟨hb1, hb2⟩ hM16 hX32 t.to (by have := t.h.size; omega) (range_of_below hrg t.h hbw)
      have hplain := blkOk_plain (b := F) hb2 hM16
      rw [two_eq hb1] at hA
      have hlt' : (k : Int) < n := by omega
      have hk0 : (0 : Int) ≤ k := by omega
      have HFE := Lib.hid hF
      have HPL := Lib.hid hplain
      have HB := Lib.hid hb
      clear hF hplain hb hrg hM hc hRw hb2 hM16 hX32 hb1
      rcases hem : emptyM F.2 with _ | _
      · rw [hem] at hE HPL
        rcases hft : okCells (bCells F) with _ | _
        · rw [hft] at hFt HPL
          have hno : blkAt l k = false := by rw [blkAt, getDB_at hkl, ← HFE.out, HPL.out]; simp
          clear hem hft
          go_wp2
          refine region_after (by kernel_rfl) (by kernel_rfl) ?_
          repeat (go_big_quiet_step ((first | (go_at_call 63; exact After.same _ (hE _)) | (go_at_call 74; exact After.call _ (hFt _)))))
          refine wpQuiet_nil ?_
          rintro _ ⟨t, rfl⟩
          go_wp2
          go_ret
          exact ⟨by rw [vpB_no hkl hno]; rfl, HB.out.trans (t.h.mono hz)⟩
        · rw [hft] at hFt HPL
          have hbk : blkOk F = true := HPL.out
          clear hem hft
          by_cases hk0' : k = 0
          · have HVN : Hid (vpTo l (k + 1) = true) := Lib.hid (by rw [vpTo_succ, hv.out, blkAt, getDB_at hkl, ← HFE.out, hbk, hk0']; rfl)
            subst hk0'
            go_wp2
            refine region_after (by kernel_rfl) (by kernel_rfl) ?_
            repeat (go_big_quiet_step ((first | (go_at_call 63; exact After.same _ (hE _)) | (go_at_call 74; exact After.call _ (hFt _)))))
            refine wpQuiet_nil ?_
            rintro _ ⟨t, rfl⟩
            go_wp2
            exact ⟨⟨1, by omega, by go_num, HVN, HB.out.trans (t.h.mono hz)⟩, by simp [intOf]; omega⟩
          · obtain ⟨j, rfl⟩ : ∃ j, k = j + 1 := ⟨k - 1, by omega⟩
            have hjl : j < l.length := by omega
            obtain ⟨hp1, hp2⟩ := HROW.out.at_ hjl
            have hpg : wr.rangeAt b (o + j * 18) (l[j].1.map (.int .i32)) := fun q v hq => (HR.out.below HB.out (Nat.le_refl _)).block HROW.out (by omega) hjl q v (by
              rw [bvs, List.getElem?_append_left (by exact (List.getElem?_eq_some_iff.1 hq).1)]
              exact hq)
            rw [two_eq hp1] at hpg
            have hat : blkAt l (j + 1) = (befB l[j] F && blkOk F) := by rw [blkAt, getDB_at hkl, ← HFE.out, Nat.add_sub_cancel, getDB_at hjl]; rfl
            have hbf : befB l[j] F = decide (cmpC (l[j].1.getD 0 0) (l[j].1.getD 1 0) (F.1.getD 0 0) (F.1.getD 1 0) < 0) := rfl
            rw [hbf, hbk, Bool.and_true] at hat
            have HAT := Lib.hid hat
            clear hat hbf hp1 hp2
            generalize l[j].1.getD 0 0 = px at *
            generalize l[j].1.getD 1 0 = py at *
            generalize F.1.getD 0 0 = X at *
            generalize F.1.getD 1 0 = Y at *
            have hpg' : wr.rangeAt b (o + j * 18) [.int .i32 px, .int .i32 py] := hpg
            have hA' : wr.rangeAt b (o + (j + 1) * 18) [.int .i32 X, .int .i32 Y] := hA
            have tP : ∀ t : After wr, rowAt t.to b (o + j * 18) 2 = #[.int .i32 px, .int .i32 py] ∧ hasRow t.to b (o + j * 18) 2 = true := fun t => t.row hbw hpg'
            have tA : ∀ t : After wr, rowAt t.to b (o + (j + 1) * 18) 2 = #[.int .i32 X, .int .i32 Y] ∧ hasRow t.to b (o + (j + 1) * 18) 2 = true := fun t => t.row hbw hA'
            have tP1 := fun t => (tP t).1
            have tP2 := fun t => (tP t).2
            have tA1 := fun t => (tA t).1
            have tA2 := fun t => (tA t).2
            have hbfr := fun W => l07Before_any px py X Y W
            have hj0 : (0 : Int) ≤ j := by omega
            have hj1 : (j : Int) < n := by omega
            clear tP tA hpg hpg' hA hA' hbk
            generalize decide (cmpC px py X Y < 0) = bb at *
            cases bb
            · have HNO := Lib.hid (vpB_no hkl HAT.out)
              go_wp2
              refine region_after (by kernel_rfl) (by kernel_rfl) ?_
              repeat (go_big_quiet_step ((first | (go_at_call 63; exact After.same _ (hE _)) | (go_at_call 74; exact After.call _ (hFt _)) | (go_at_call 65; exact After.call _ (hbfr _)))))
              refine wpQuiet_nil ?_
              rintro _ ⟨t, rfl⟩
              go_wp2
              go_ret
              exact ⟨by rw [HNO.out]; rfl, HB.out.trans (t.h.mono hz)⟩
            · have HVN : Hid (vpTo l (j + 1 + 1) = true) := Lib.hid (by rw [vpTo_succ, hv.out, HAT.out]; rfl)
              go_wp2
              refine region_after (by kernel_rfl) (by kernel_rfl) ?_
              repeat (go_big_quiet_step ((first | (go_at_call 63; exact After.same _ (hE _)) | (go_at_call 74; exact After.call _ (hFt _)) | (go_at_call 65; exact After.call _ (hbfr _)))))
              refine wpQuiet_nil ?_
              rintro _ ⟨t, rfl⟩
              go_wp2
              exact ⟨⟨j + 1 + 1, by omega, by go_num, HVN, HB.out.trans (t.h.mono hz)⟩, by simp [intOf]; omega⟩
      · rw [hem] at hE HPL
        have hno : blkAt l k = false := by rw [blkAt, getDB_at hkl, ← HFE.out, HPL.out]; simp
        clear hem
        go_wp2
        refine region_after (by kernel_rfl) (by kernel_rfl) ?_
        repeat (go_big_quiet_step ((go_at_call 63; exact After.same _ (hE _))))
        refine wpQuiet_nil ?_
        rintro _ ⟨t, rfl⟩
        go_wp2
        go_ret
        exact ⟨by rw [vpB_no hkl hno]; rfl, HB.out.trans (t.h.mono hz)⟩
    · obtain rfl : k = n := by omega
      have hvl : vpB l = true := by
        have := hv.out
        rw [vpB, hl, this, Bool.true_and]
        exact decide_eq_true (by omega)
      have HVL := Lib.hid hvl
      have HB := Lib.hid hb
      clear hvl hv hb
      go_wp2
      go_ret
      exact ⟨by rw [HVL.out]; rfl, HB.out⟩
end
end Go.Proofs.YtmagaapdijapiaaDoor
