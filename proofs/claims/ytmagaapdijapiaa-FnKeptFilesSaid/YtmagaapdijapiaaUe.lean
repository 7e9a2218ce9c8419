/- UnpackFrames: what a file opens to; the reference's walk. -/
import Derived.Test.YtmagaapdijapiaaRows
import Derived.Test.YtmagaapdijapiaaUc
import Derived.Test.YtmagaapdijapiaaUd
import Derived.Test.YtmagaapdijapiaaHc
import Derived.Test.YtmagaapdijapiaaPq
namespace Go.Proofs.Ytmagaapdijapiaa
open Go.ChangeShapes Go.WideShapes Go.ChangeAt Go.RowKit

def opHead (l : List (List Int)) : List Int := l.headD []
def opGood (l : List (List Int)) : Bool :=
  hdOk (opHead l) && (packOk (hdKind (opHead l)) (numAt (opHead l) 4) && (decide (numAt (opHead l) 8 ≤ 8192) && (decide (numAt (opHead l) 8 ≤ ((dataOf l).length : Int)) && (packOf (hdKind (opHead l)) (numAt (opHead l) 4) ((dataOf l).take (numAt (opHead l) 8).toNat) == l))))
def opCode (l : List (List Int)) : Int := if l.length ≤ 700 then (if brokenTo l l.length = [] then (if l = [] then 5 else (if opGood l then 0 else 5)) else 8) else 3
def opKind (l : List (List Int)) : Int := if opCode l = 0 then hdKind (opHead l) else 0
def opCount (l : List (List Int)) : Int := if opCode l = 0 then numAt (opHead l) 4 else 0
def opData (l : List (List Int)) : List Int := if opCode l = 0 then (dataOf l).take (numAt (opHead l) 8).toNat else []
theorem opData_length (l : List (List Int)) (h : Rows_ 16 l) : (opData l).length ≤ 8400 := by
  unfold opData
  split
  · rename_i hc
    have h7 : l.length ≤ 700 := by
      unfold opCode at hc
      split at hc
      · assumption
      · cases hc
    have := dataOf_length h
    rw [List.length_take]
    omega
  · simp
/-- what UnpackFrames gives -/
def GivesOpen (k n : Int) (d : List Int) (code : Int) (w : World) (e : Ending) (w' : World) : Prop :=
  ∃ A c, e = .returned (.tuple #[.int .i64 k, .int .i64 n, .slice A d.length c, .int .i64 code]) ∧ Own w' w.heap.size w'.heap.size 5 1 A d.length c (d.map (.int .u8)) ∧ Below w.heap.size w w'

theorem Own.cut {w : World} {lo hi : Nat} {e : TypeId} {size : Nat} {A : Option Addr} {n c m : Nat} {xs : List Value} (h : Own w lo hi e size A n c xs) (hm : m ≤ n) : Own w lo hi e size A m c (xs.take (m * size)) := by
  obtain ⟨hl, h⟩ := h
  have hms : m * size ≤ n * size := Nat.mul_le_mul_right _ hm
  refine ⟨by rw [List.length_take]; omega, ?_⟩
  rcases h with ⟨rfl, rfl, rfl⟩ | ⟨g, cur, h1, h2, h3, h4, h5, h6, h7, h8⟩
  · exact .inl ⟨rfl, by omega, rfl⟩
  · exact .inr ⟨g, cur, h1, h2, h3, h4, by omega, h6, h7, by rw [← h8, List.take_take, Nat.min_eq_left hms]⟩
theorem opHead_eq {l : List (List Int)} (h : 0 < l.length) : l[0] = opHead l := by
  cases l with
  | nil => simp at h
  | cons f l => rfl
theorem packCd_cases (k n : Int) (m : Nat) : packCd k n m = 0 ∨ packCd k n m = 2 ∨ packCd k n m = 3 := by
  unfold packCd
  split
  · split
    · exact .inl rfl
    · exact .inr (.inr rfl)
  · exact .inr (.inl rfl)
theorem packFs_same {k n : Int} {d : List Int} {l : List (List Int)} (hk : packOk k n = true) (hd : d.length ≤ 8192) : (packFs k n d == l) = (packOf k n d == l) := by
  rw [packFs, hk, show decide (d.length ≤ 8192) = true by simpa using hd]
  rfl

set_option maxRecDepth 20000 in
set_option maxHeartbeats 3200000 in
theorem l09Open_in (A : Option Addr) (n c : Nat) (l : List (List Int)) (hl : l.length = n) (hrow : Rows_ 16 l) (h255 : ∀ f ∈ l, is255 f) (hn : n ≤ 1048576) (w : World) (hR : Rd w w.heap.size 16 A n (l.flatten.map (.int .u8))) :
    Calls Try.prog 52 #[.slice A n c] w (GivesOpen (opKind l) (opCount l) (opData l) (opCode l) w) := by
  have hsz : (Try.prog.info? 87).map (·.size) = some 16 := by kernel_rfl
  by_cases h7 : n ≤ 700
  · have ec : opCode l = if brokenTo l n = [] then (if l = [] then 5 else (if opGood l then 0 else 5)) else 8 := by rw [opCode, if_pos (by omega), hl]
    have hbk := l09Broken_any A n c l hl hrow h7 w hR
    by_cases hB : brokenTo l n = []
    · rw [if_pos hB] at ec
      rw [hB] at hbk
      by_cases h0 : n = 0
      · have : l = [] := List.eq_nil_of_length_eq_zero (by omega)
        rw [if_pos this] at ec
        rw [opKind, opCount, opData, ec]
        simp only [show (5 : Int) = 0 ↔ False from ⟨by decide, False.elim⟩, if_false]
        subst h0
        have HB := Lib.hid hbk
        clear hl hrow hR hB ec hbk this
        go_enter Try.func52, Try.ntmps52
        go_wp2_with fail
        refine (HB.out).mono ?_
        rintro e w1 ⟨AB, cB, rfl, hO, hb⟩
        have hz := hb.size
        go_wp2
        refine bodyPost_ret (results_tmp4 rfl _ _ _) rfl ?_
        exact ⟨some ⟨w1.heap.size, 0, none⟩, 0, rfl, ⟨rfl, .inr ⟨w1.heap.size, #[], rfl, hz, by rw [size_alloc]; omega, Blk.newAt rfl rfl, Nat.le_refl _, by unfold maxLen; omega, rfl, rfl⟩⟩, hb.alloc hz _⟩
      · have hne : l ≠ [] := by rintro rfl; exact h0 hl.symm
        rw [if_neg hne] at ec
        have hn1 : 0 < l.length := by omega
        have hF0 : l[0] = opHead l := opHead_eq hn1
        have hFl : (opHead l).length = 16 := by rw [← hF0]; exact hrow.at_ hn1
        have hFw : is255 (opHead l) := by rw [← hF0]; exact h255 _ (List.getElem_mem hn1)
        obtain ⟨b, o, rfl, hbB, hc⟩ := hR.at_ (by omega)
        have hrg : w.rangeAt b o ((opHead l).map (.int .u8)) := by
          have := Rd.rangeAt (i := 0 * 16) (s := 16) hc
          rw [← List.map_drop, ← List.map_take, flat_row hrow hn1, hF0] at this
          simpa using this
        have hgood : opGood l = (hdOk (opHead l) && (packOk (hdKind (opHead l)) (numAt (opHead l) 4) && (decide (numAt (opHead l) 8 ≤ 8192) && (decide (numAt (opHead l) 8 ≤ ((dataOf l).length : Int)) && (packOf (hdKind (opHead l)) (numAt (opHead l) 4) ((dataOf l).take (numAt (opHead l) 8).toNat) == l))))) := rfl
        have hh := fun W => l09Head_any (opHead l) hFl hFw W
        have hDl := dataOf_length hrow
        have hdat := fun (W : World) (hW : Rd W W.heap.size 16 (some ⟨b, o, none⟩) n (l.flatten.map (.int .u8))) => l09Data_any (some ⟨b, o, none⟩) n c l hl hrow (by omega) hn W hW
        rw [opKind, opCount, opData, ec]
        obtain ⟨s0, s1⟩ := numAt_range hFw 8
        obtain ⟨m, hm⟩ : ∃ m : Nat, numAt (opHead l) 8 = (m : Int) := ⟨_, (Int.toNat_of_nonneg s0).symm⟩
        rw [hm] at hh hgood s1 ⊢
        rw [Int.toNat_natCast] at hgood ⊢
        obtain ⟨kd, hkd⟩ : ∃ k, k = hdKind (opHead l) := ⟨_, rfl⟩
        obtain ⟨cn, hcn⟩ : ∃ k, k = numAt (opHead l) 4 := ⟨_, rfl⟩
        rw [← hkd, ← hcn] at hh hgood
        rw [← hkd, ← hcn]
        obtain ⟨F, hF⟩ : ∃ F, F = opHead l := ⟨_, rfl⟩
        rw [← hF] at hh hgood hFl hrg
        obtain ⟨D, hD⟩ : ∃ D, D = dataOf l := ⟨_, rfl⟩
        rw [← hD] at hgood hDl hdat ⊢
        have hDn : D.length ≤ 8400 := by omega
        have HR := Lib.hid hR
        have HB := Lib.hid hbk
        have HRG := Lib.hid hrg
        have HbB := Lib.hid hbB
        have HFl := Lib.hid hFl
        have HD := Lib.hid hdat
        have HROW := Lib.hid hrow
        have Hl := Lib.hid hl
        clear hl hrow h255 hR hbk hrg hbB hFl hFw hdat hF0 hkd hcn hm hF hD hc hB ec hDl s0 hn1
        cases q1 : hdOk F
        · have hg : opGood l = false := by rw [hgood, q1]; rfl
          rw [hg]
          simp only [Bool.false_eq_true, if_false, show (5 : Int) = 0 ↔ False from ⟨by decide, False.elim⟩]
          rw [q1] at hh
          have HH := Lib.hid hh
          clear hh hgood hg q1
          go_enter Try.func52, Try.ntmps52
          go_wp2_with fail
          refine (HB.out).mono ?_
          rintro e w1 ⟨AB, cB, rfl, -, hb1⟩
          have z1 := hb1.size
          have HRG1 := Lib.hid (range_below HRG.out hb1 HbB.out)
          go_wp2_with (refine wpList_load_ivs rfl _ _ rfl b o (by rfl) .u8 F _ HRG1.out Try.underlying87 rfl (by rw [HFl.out]; exact hsz) ?_)
          refine (HH.out _).mono ?_
          rintro e w2 ⟨rfl, hb2⟩
          have z2 := hb2.size
          have B2 := hb1.trans (hb2.mono z1)
          have HR2 := Lib.hid ((HR.out.below B2 (Nat.le_refl _)).more (show w.heap.size ≤ w2.heap.size by omega))
          go_wp2_with fail
          refine (HD.out _ HR2.out).mono ?_
          rintro e w3 ⟨gD, cD, rfl, OD, hb3⟩
          have z3 := hb3.size
          have B3 := B2.trans (hb3.mono (by omega))
          have z3' := B3.size
          have hlc := OD.len
          have HOD := Lib.hid OD
          clear hb1 hb2 hb3 OD
          go_wp2
          refine bodyPost_ret (results_tmp4 rfl _ _ _) rfl ?_
          exact ⟨some ⟨w3.heap.size, 0, none⟩, 0, rfl, ⟨rfl, .inr ⟨w3.heap.size, #[], rfl, B3.size, by rw [size_alloc]; omega, Blk.newAt rfl rfl, Nat.le_refl _, by unfold maxLen; omega, rfl, rfl⟩⟩, B3.alloc B3.size _⟩
        · rw [q1] at hh hgood
          have HH := Lib.hid hh
          clear hh q1
          by_cases q2 : m ≤ D.length
          · have hp := fun (W : World) (gD cD : Nat) (hW : Rd W W.heap.size 1 (some ⟨gD, 0, none⟩) m ((D.take m).map (.int .u8))) => sPackFrames_any kd cn gD 0 m cD (D.take m) (by rw [List.length_take]; omega) (by omega) W hW
            have e2 : decide ((m : Int) ≤ (D.length : Int)) = true := by rw [decide_eq_true_eq]; omega
            rw [e2, Bool.true_and] at hgood
            clear e2
            have hcd := packCd_cases kd cn m
            by_cases q3 : packOk kd cn = true ∧ m ≤ 8192
            · have e3 : decide ((m : Int) ≤ 8192) = true := by rw [decide_eq_true_eq]; omega
              rw [q3.1, e3, Bool.true_and, Bool.true_and, Bool.true_and] at hgood
              have hcd0 : packCd kd cn m = 0 := by rw [packCd, if_pos q3.1, if_pos q3.2]
              have hpf : packFs kd cn (D.take m) = packOf kd cn (D.take m) := by rw [packFs, if_pos]; rw [q3.1, Bool.true_and, decide_eq_true_eq, List.length_take]; omega
              rw [hcd0] at hp
              have hfr := packFs_rows kd cn (D.take m)
              have hfn := packFs_length kd cn (D.take m)
              rw [hpf] at hp hfr hfn
              obtain ⟨G, hG⟩ : ∃ G, G = packOf kd cn (D.take m) := ⟨_, rfl⟩
              rw [← hG] at hp hfr hfn hgood
              have HP := Lib.hid hp
              have HFR := Lib.hid hfr
              clear hcd hp hfr hcd0 hpf hG e3
              cases q4 : (G == l)
              · have hg : opGood l = false := by rw [hgood, q4]
                rw [hg]
                simp only [Bool.false_eq_true, if_false, show (5 : Int) = 0 ↔ False from ⟨by decide, False.elim⟩]
                clear hgood hg q3
                go_enter Try.func52, Try.ntmps52
                go_wp2_with fail
                refine (HB.out).mono ?_
                rintro e w1 ⟨AB, cB, rfl, -, hb1⟩
                have z1 := hb1.size
                have HRG1 := Lib.hid (range_below HRG.out hb1 HbB.out)
                go_wp2_with (refine wpList_load_ivs rfl _ _ rfl b o (by rfl) .u8 F _ HRG1.out Try.underlying87 rfl (by rw [HFl.out]; exact hsz) ?_)
                refine (HH.out _).mono ?_
                rintro e w2 ⟨rfl, hb2⟩
                have z2 := hb2.size
                have B2 := hb1.trans (hb2.mono z1)
                have HR2 := Lib.hid ((HR.out.below B2 (Nat.le_refl _)).more (show w.heap.size ≤ w2.heap.size by omega))
                go_wp2_with fail
                refine (HD.out _ HR2.out).mono ?_
                rintro e w3 ⟨gD, cD, rfl, OD, hb3⟩
                have z3 := hb3.size
                have B3 := B2.trans (hb3.mono (by omega))
                have z3' := B3.size
                have hlc := OD.len
                have HOD := Lib.hid OD
                clear hb1 hb2 hb3 OD
                have HO3 := Lib.hid (HOD.out.cut q2)
                rw [← List.map_take, Nat.mul_one] at HO3
                have HRd := Lib.hid (HO3.out.rd)
                go_wp2_with fail
                refine (HP.out w3 gD cD HRd.out).mono ?_
                rintro e w4 ⟨AP, cP, rfl, OP, hb4⟩
                have z4 := hb4.size
                have B4 := B3.trans (hb4.mono (by omega))
                have z4' := B4.size
                have HR4 := Lib.hid ((HR.out.below B4 (Nat.le_refl _)).more (show w.heap.size ≤ w4.heap.size by omega))
                have HOP := Lib.hid (OP.rd)
                have hsm := l09Same_any AP (some ⟨b, o, none⟩) G.length n cP c G l rfl Hl.out HFR.out HROW.out (by omega) w4 HOP.out HR4.out
                rw [q4] at hsm
                have HSM := Lib.hid hsm
                have HB4 := Lib.hid hb4
                clear hsm OP hb4 q4
                go_wp2_with fail
                refine (HSM.out).mono ?_
                rintro e w5 ⟨rfl, hb5⟩
                have z5 := hb5.size
                have B5 := B4.trans (hb5.mono (by omega))
                go_wp2
                refine bodyPost_ret (results_tmp4 rfl _ _ _) rfl ?_
                exact ⟨some ⟨w5.heap.size, 0, none⟩, 0, rfl, ⟨rfl, .inr ⟨w5.heap.size, #[], rfl, B5.size, by rw [size_alloc]; omega, Blk.newAt rfl rfl, Nat.le_refl _, by unfold maxLen; omega, rfl, rfl⟩⟩, B5.alloc B5.size _⟩
              · have hg : opGood l = true := by rw [hgood, q4]
                rw [hg]
                simp only [if_true]
                have hdl : (D.take m).length = m := by rw [List.length_take]; omega
                have HDL := Lib.hid hdl
                clear hgood hg q3 hdl
                go_enter Try.func52, Try.ntmps52
                go_wp2_with fail
                refine (HB.out).mono ?_
                rintro e w1 ⟨AB, cB, rfl, -, hb1⟩
                have z1 := hb1.size
                have HRG1 := Lib.hid (range_below HRG.out hb1 HbB.out)
                go_wp2_with (refine wpList_load_ivs rfl _ _ rfl b o (by rfl) .u8 F _ HRG1.out Try.underlying87 rfl (by rw [HFl.out]; exact hsz) ?_)
                refine (HH.out _).mono ?_
                rintro e w2 ⟨rfl, hb2⟩
                have z2 := hb2.size
                have B2 := hb1.trans (hb2.mono z1)
                have HR2 := Lib.hid ((HR.out.below B2 (Nat.le_refl _)).more (show w.heap.size ≤ w2.heap.size by omega))
                go_wp2_with fail
                refine (HD.out _ HR2.out).mono ?_
                rintro e w3 ⟨gD, cD, rfl, OD, hb3⟩
                have z3 := hb3.size
                have B3 := B2.trans (hb3.mono (by omega))
                have z3' := B3.size
                have hlc := OD.len
                have HOD := Lib.hid OD
                clear hb1 hb2 hb3 OD
                have HO3 := Lib.hid (HOD.out.cut q2)
                rw [← List.map_take, Nat.mul_one] at HO3
                have HRd := Lib.hid (HO3.out.rd)
                go_wp2_with fail
                refine (HP.out w3 gD cD HRd.out).mono ?_
                rintro e w4 ⟨AP, cP, rfl, OP, hb4⟩
                have z4 := hb4.size
                have B4 := B3.trans (hb4.mono (by omega))
                have z4' := B4.size
                have HR4 := Lib.hid ((HR.out.below B4 (Nat.le_refl _)).more (show w.heap.size ≤ w4.heap.size by omega))
                have HOP := Lib.hid (OP.rd)
                have hsm := l09Same_any AP (some ⟨b, o, none⟩) G.length n cP c G l rfl Hl.out HFR.out HROW.out (by omega) w4 HOP.out HR4.out
                rw [q4] at hsm
                have HSM := Lib.hid hsm
                have HB4 := Lib.hid hb4
                clear hsm OP hb4 q4
                go_wp2_with fail
                refine (HSM.out).mono ?_
                rintro e w5 ⟨rfl, hb5⟩
                have z5 := hb5.size
                have B5 := B4.trans (hb5.mono (by omega))
                go_wp2
                refine bodyPost_ret (results_tmp4 rfl _ _ _) rfl ?_
                refine ⟨_, cD, by rw [HDL.out]; rfl, ?_, B5⟩
                rw [HDL.out]
                exact (((HO3.out).below HB4.out (Nat.le_refl _)).below hb5 (by omega)).more (by omega) |>.less (by omega)
            · have hg : opGood l = false := by
                rw [hgood]
                cases p1 : packOk kd cn
                · rfl
                · have : ¬ m ≤ 8192 := fun h => q3 ⟨p1, h⟩
                  rw [decide_eq_false (show ¬ ((m : Int) ≤ 8192) by omega)]
                  rfl
              rw [hg]
              simp only [Bool.false_eq_true, if_false, show (5 : Int) = 0 ↔ False from ⟨by decide, False.elim⟩]
              rcases hcd with hcd | hcd | hcd
              · exfalso
                refine q3 ?_
                unfold packCd at hcd
                split at hcd
                · split at hcd
                  · exact ⟨‹_›, ‹_›⟩
                  · cases hcd
                · cases hcd
              all_goals
                rw [hcd] at hp
                have HP := Lib.hid hp
                clear hp hcd hgood hg q3
                go_enter Try.func52, Try.ntmps52
                go_wp2_with fail
                refine (HB.out).mono ?_
                rintro e w1 ⟨AB, cB, rfl, -, hb1⟩
                have z1 := hb1.size
                have HRG1 := Lib.hid (range_below HRG.out hb1 HbB.out)
                go_wp2_with (refine wpList_load_ivs rfl _ _ rfl b o (by rfl) .u8 F _ HRG1.out Try.underlying87 rfl (by rw [HFl.out]; exact hsz) ?_)
                refine (HH.out _).mono ?_
                rintro e w2 ⟨rfl, hb2⟩
                have z2 := hb2.size
                have B2 := hb1.trans (hb2.mono z1)
                have HR2 := Lib.hid ((HR.out.below B2 (Nat.le_refl _)).more (show w.heap.size ≤ w2.heap.size by omega))
                go_wp2_with fail
                refine (HD.out _ HR2.out).mono ?_
                rintro e w3 ⟨gD, cD, rfl, OD, hb3⟩
                have z3 := hb3.size
                have B3 := B2.trans (hb3.mono (by omega))
                have z3' := B3.size
                have hlc := OD.len
                have HOD := Lib.hid OD
                clear hb1 hb2 hb3 OD
                have HO3 := Lib.hid (HOD.out.cut q2)
                rw [← List.map_take, Nat.mul_one] at HO3
                have HRd := Lib.hid (HO3.out.rd)
                go_wp2_with fail
                refine (HP.out w3 gD cD HRd.out).mono ?_
                rintro e w4 ⟨AP, cP, rfl, OP, hb4⟩
                have z4 := hb4.size
                have B4 := B3.trans (hb4.mono (by omega))
                have z4' := B4.size
                go_wp2
                refine bodyPost_ret (results_tmp4 rfl _ _ _) rfl ?_
                exact ⟨some ⟨w4.heap.size, 0, none⟩, 0, rfl, ⟨rfl, .inr ⟨w4.heap.size, #[], rfl, B4.size, by rw [size_alloc]; omega, Blk.newAt rfl rfl, Nat.le_refl _, by unfold maxLen; omega, rfl, rfl⟩⟩, B4.alloc B4.size _⟩
          · have hg : opGood l = false := by
              rw [hgood, decide_eq_false (show ¬ ((m : Int) ≤ (D.length : Int)) by omega)]
              simp
            rw [hg]
            simp only [Bool.false_eq_true, if_false, show (5 : Int) = 0 ↔ False from ⟨by decide, False.elim⟩]
            have q2' : D.length < m := by omega
            clear hgood hg q2
            go_enter Try.func52, Try.ntmps52
            go_wp2_with fail
            refine (HB.out).mono ?_
            rintro e w1 ⟨AB, cB, rfl, -, hb1⟩
            have z1 := hb1.size
            have HRG1 := Lib.hid (range_below HRG.out hb1 HbB.out)
            go_wp2_with (refine wpList_load_ivs rfl _ _ rfl b o (by rfl) .u8 F _ HRG1.out Try.underlying87 rfl (by rw [HFl.out]; exact hsz) ?_)
            refine (HH.out _).mono ?_
            rintro e w2 ⟨rfl, hb2⟩
            have z2 := hb2.size
            have B2 := hb1.trans (hb2.mono z1)
            have HR2 := Lib.hid ((HR.out.below B2 (Nat.le_refl _)).more (show w.heap.size ≤ w2.heap.size by omega))
            go_wp2_with fail
            refine (HD.out _ HR2.out).mono ?_
            rintro e w3 ⟨gD, cD, rfl, OD, hb3⟩
            have z3 := hb3.size
            have B3 := B2.trans (hb3.mono (by omega))
            have z3' := B3.size
            have hlc := OD.len
            have HOD := Lib.hid OD
            clear hb1 hb2 hb3 OD
            go_wp2
            refine bodyPost_ret (results_tmp4 rfl _ _ _) rfl ?_
            exact ⟨some ⟨w3.heap.size, 0, none⟩, 0, rfl, ⟨rfl, .inr ⟨w3.heap.size, #[], rfl, B3.size, by rw [size_alloc]; omega, Blk.newAt rfl rfl, Nat.le_refl _, by unfold maxLen; omega, rfl, rfl⟩⟩, B3.alloc B3.size _⟩
    · rw [if_neg hB] at ec
      rw [opKind, opCount, opData, ec]
      simp only [show (8 : Int) = 0 ↔ False from ⟨by decide, False.elim⟩, if_false]
      have hB1 : 1 ≤ (brokenTo l n).length := by
        cases hq : brokenTo l n with
        | nil => exact absurd hq hB
        | cons _ _ => simp
      have hBl := brokenTo_length l n
      obtain ⟨m, hm⟩ : ∃ m, m = brokenTo l n := ⟨_, rfl⟩
      rw [← hm] at hbk hB1 hBl
      have HB := Lib.hid hbk
      clear hl hrow hR hB ec hbk hm
      go_enter Try.func52, Try.ntmps52
      go_wp2_with fail
      refine (HB.out).mono ?_
      rintro e w1 ⟨AB, cB, rfl, hO, hb⟩
      have hz := hb.size
      go_wp2
      refine bodyPost_ret (results_tmp4 rfl _ _ _) rfl ?_
      exact ⟨some ⟨w1.heap.size, 0, none⟩, 0, rfl, ⟨rfl, .inr ⟨w1.heap.size, #[], rfl, hz, by rw [size_alloc]; omega, Blk.newAt rfl rfl, Nat.le_refl _, by unfold maxLen; omega, rfl, rfl⟩⟩, hb.alloc hz _⟩
  · have ec : opCode l = 3 := by rw [opCode, if_neg (by omega)]
    rw [opKind, opCount, opData, ec]
    simp only [show (3 : Int) = 0 ↔ False from ⟨by decide, False.elim⟩, if_false]
    clear hl hrow hR ec
    go_enter Try.func52, Try.ntmps52
    go_wp2
    refine bodyPost_ret (results_tmp4 rfl _ _ _) rfl ?_
    exact ⟨some ⟨w.heap.size, 0, none⟩, 0, rfl, ⟨rfl, .inr ⟨w.heap.size, #[], rfl, Nat.le_refl _, by rw [size_alloc]; omega, Blk.newAt rfl rfl, Nat.le_refl _, by unfold maxLen; omega, rfl, rfl⟩⟩, (Below.refl _ _).alloc (Nat.le_refl _) _⟩
end Go.Proofs.Ytmagaapdijapiaa
