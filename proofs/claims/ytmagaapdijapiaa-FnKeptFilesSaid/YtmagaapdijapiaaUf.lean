/- UnpackFrames: the program's walk. -/
import Derived.Test.YtmagaapdijapiaaRows
import Derived.Test.YtmagaapdijapiaaUe
import Derived.Test.YtmagaapdijapiaaHa
import Derived.Test.YtmagaapdijapiaaOpen
import Derived.RangeFuncBox
namespace Go.Proofs.Ytmagaapdijapiaa
open Go.ChangeShapes Go.WideShapes Go.ChangeAt Go.RowKit

def packCdI (kind count m : Int) : Int := if packOk kind count then (if m ≤ 8192 then 0 else 3) else 2
theorem packCdI_nat (k n : Int) (m : Nat) : packCdI k n m = packCd k n m := by
  unfold packCdI packCd
  split
  · by_cases h : m ≤ 8192
    · rw [if_pos h, if_pos (by omega)]
    · rw [if_neg h, if_neg (by omega)]
  · rfl
set_option maxRecDepth 20000 in
set_option maxHeartbeats 800000 in
theorem packCodeI_any (kind count m : Int) (h0 : 0 ≤ m) (h1 : m ≤ 4294967295) (w : World) :
    Calls Try.prog 104 #[.int .i64 kind, .int .i64 count, .int .i64 m] w fun e w' => e = .returned (.int .i64 (packCdI kind count m)) ∧ w = w' := by
  have e1 := fun W : World => inRange_any kind 1 3 W
  have e2 := fun W : World => inRange_any count 0 256 W
  cases q1 : inB kind 1 3
  · rw [q1] at e1
    have E1 := Lib.hid e1
    have hv : packCdI kind count m = 2 := by simp [packCdI, packOk, q1]
    rw [hv]
    clear e1 e2 q1 hv
    go_enter Try.func104, Try.ntmps104
    go_wp2_with fail
    refine (E1.out _).mono ?_
    rintro e wx ⟨rfl, rfl⟩
    go_wp2
    go_ret
    exact ⟨rfl, rfl⟩
  · rw [q1] at e1
    have E1 := Lib.hid e1
    cases q2 : inB count 0 256
    · rw [q2] at e2
      have E2 := Lib.hid e2
      have hv : packCdI kind count m = 2 := by simp [packCdI, packOk, q1, q2]
      rw [hv]
      clear e1 e2 q1 q2 hv
      go_enter Try.func104, Try.ntmps104
      go_wp2_with fail
      refine (E1.out _).mono ?_
      rintro e wx ⟨rfl, rfl⟩
      go_wp2_with fail
      refine (E2.out _).mono ?_
      rintro e wx ⟨rfl, rfl⟩
      go_wp2
      go_ret
      exact ⟨rfl, rfl⟩
    · rw [q2] at e2
      have E2 := Lib.hid e2
      have hv : packCdI kind count m = if m ≤ 8192 then 0 else 3 := by simp [packCdI, packOk, q1, q2]
      rw [hv]
      clear e1 e2 q1 q2 hv
      by_cases h : m ≤ 8192
      all_goals
        first | rw [if_pos h] | rw [if_neg h]
        go_enter Try.func104, Try.ntmps104
        go_wp2_with fail
        refine (E1.out _).mono ?_
        rintro e wx ⟨rfl, rfl⟩
        go_wp2_with fail
        refine (E2.out _).mono ?_
        rintro e wx ⟨rfl, rfl⟩
        go_wp2
        go_ret
        exact ⟨rfl, rfl⟩

theorem Own.capLe {w : World} {lo hi : Nat} {e : TypeId} {size : Nat} {A : Option Addr} {n c : Nat} {xs : List Value} (h : Own w lo hi e size A n c xs) : c ≤ 9223372036854775807 := by
  rcases h.2 with ⟨_, _, rfl⟩ | ⟨g, cur, h1, h2, h3, h4, h5, h6, _⟩
  · omega
  · unfold maxLen at h6; exact h6
def GOpenL (l : List (List Int)) : World → Ending → World → Prop := GivesOpen (opKind l) (opCount l) (opData l) (opCode l)

theorem dataOf_step (l : List (List Int)) (k : Nat) (h : k + 1 < l.length) : dataOf (l.take (k + 1 + 1)) = dataOf (l.take (k + 1)) ++ (l[k + 1]).take 12 := dataOf_succ (by omega) h

set_option maxRecDepth 20000 in
set_option maxHeartbeats 6400000 in
theorem iUnpackFrames_any (A : Option Addr) (n c : Nat) (l : List (List Int)) (hl : l.length = n) (hrow : Rows_ 16 l) (h255 : ∀ f ∈ l, is255 f) (hn : n ≤ 1048576) (hnc : n ≤ c) (hc63 : c ≤ 9223372036854775807) (w : World) (hR : Rd w w.heap.size 16 A n (l.flatten.map (.int .u8))) :
    Calls Try.prog 57 #[.slice A n c] w (GOpenL l w) := by
  obtain ⟨i0, hi, hz0, hz1, hz2⟩ := info_parts Byte_info
  have hsz : (Try.prog.info? 87).map (·.size) = some 16 := by kernel_rfl
  have hbr := iBrokenFrames_any A n c l hl hrow hn hnc hc63 w hR
  by_cases h7 : n ≤ 700
  · have ec : opCode l = if brokenTo l n = [] then (if l = [] then 5 else (if opGood l then 0 else 5)) else 8 := by rw [opCode, if_pos (by omega), hl]
    have e1 : brokenOf l = brokenTo l n := by simp [brokenOf, hl, h7]
    have e2 : limitOf n = 0 := by simp [limitOf, h7]
    rw [e1, e2] at hbr
    clear e1 e2
    by_cases hB : brokenTo l n = []
    · rw [if_pos hB] at ec
      rw [hB] at hbr
      by_cases h0 : n = 0
      · have : l = [] := List.eq_nil_of_length_eq_zero (by omega)
        rw [if_pos this] at ec
        rw [GOpenL, opKind, opCount, opData, ec]
        simp only [show (5 : Int) = 0 ↔ False from ⟨by decide, False.elim⟩, if_false]
        subst h0
        have HB := Lib.hid hbr
        clear hl hrow hR hB ec hbr this h255
        go_enter Try.func57, Try.ntmps57
        go_wp2_with fail
        refine (HB.out).mono ?_
        rintro e w1 ⟨AB, cB, rfl, -, hb⟩
        go_wp2
        refine bodyPost_ret (results_tmp4 rfl _ _ _) rfl ?_
        exact ⟨none, 0, rfl, ⟨rfl, .inl ⟨rfl, rfl, rfl⟩⟩, hb⟩
      · have hne : l ≠ [] := by rintro rfl; exact h0 hl.symm
        rw [if_neg hne] at ec
        have hn1 : 0 < l.length := by omega
        have hF0 : l[0] = opHead l := opHead_eq hn1
        have hFl : (opHead l).length = 16 := by rw [← hF0]; exact hrow.at_ hn1
        have hFw : is255 (opHead l) := by rw [← hF0]; exact h255 _ (List.getElem_mem hn1)
        obtain ⟨b, o, rfl, hbB, hc⟩ := hR.at_ (by omega)
        have hrg : w.rangeAt b o ((opHead l).map (.int .u8)) := by
          have := Rd.rangeAt (i := 0 * 16) (s := 16) hc
          rw [← List.map_drop, ← List.map_take, flat_row hrow hn1, hF0] at this
          simpa using this
        have hgood : opGood l = (hdOk (opHead l) && (packOk (hdKind (opHead l)) (numAt (opHead l) 4) && (decide (numAt (opHead l) 8 ≤ 8192) && (decide (numAt (opHead l) 8 ≤ ((dataOf l).length : Int)) && (packOf (hdKind (opHead l)) (numAt (opHead l) 4) ((dataOf l).take (numAt (opHead l) 8).toNat) == l))))) := rfl
        have hh := fun W => headOf_any (opHead l) hFl hFw W
        have hDl := dataOf_length hrow
        have hfin : GOpenL l = GivesOpen (if (if opGood l = true then (0 : Int) else 5) = 0 then hdKind (opHead l) else 0) (if (if opGood l = true then (0 : Int) else 5) = 0 then numAt (opHead l) 4 else 0) (if (if opGood l = true then (0 : Int) else 5) = 0 then (dataOf l).take (numAt (opHead l) 8).toNat else []) (if opGood l = true then 0 else 5) := by rw [GOpenL, opKind, opCount, opData, ec]
        obtain ⟨s0, s1⟩ := numAt_range hFw 8
        obtain ⟨m, hm⟩ : ∃ m : Nat, numAt (opHead l) 8 = (m : Int) := ⟨_, (Int.toNat_of_nonneg s0).symm⟩
        rw [hm] at hh hgood s1 hfin
        rw [Int.toNat_natCast] at hgood hfin
        obtain ⟨kd, hkd⟩ : ∃ k, k = hdKind (opHead l) := ⟨_, rfl⟩
        obtain ⟨cn, hcn⟩ : ∃ k, k = numAt (opHead l) 4 := ⟨_, rfl⟩
        rw [← hkd, ← hcn] at hh hgood
        rw [← hkd, ← hcn] at hfin
        obtain ⟨F, hF⟩ : ∃ F, F = opHead l := ⟨_, rfl⟩
        rw [← hF] at hh hgood hFl hrg
        obtain ⟨D, hD⟩ : ∃ D, D = dataOf l := ⟨_, rfl⟩
        rw [← hD] at hgood hDl hfin
        have hDn : D.length ≤ 8400 := by omega
        have HR := Lib.hid hR
        have HB := Lib.hid hbr
        have HRG := Lib.hid hrg
        have HbB := Lib.hid hbB
        have HFl := Lib.hid hFl
        have hbad : opGood l = false → GOpenL l = GivesOpen 0 0 [] 5 := fun h => by rw [hfin, h]; simp only [Bool.false_eq_true, if_false, show (5 : Int) = 0 ↔ False from ⟨by decide, False.elim⟩]
        have hok : opGood l = true → GOpenL l = GivesOpen kd cn (D.take m) 0 := fun h => by rw [hfin, h]; simp only [if_true]
        have HBAD := Lib.hid hbad
        have HOK := Lib.hid hok
        clear hbad hok hfin
        have HROW := Lib.hid hrow
        have Hl := Lib.hid hl
        clear hl hrow h255 hR hbr hrg hbB hFl hFw hF0 hkd hcn hm hF hc hB ec s0 hn1
        have HDe := Lib.hid hD
        have HDl := Lib.hid hDl
        clear hD hDl
        obtain ⟨bq, hbq⟩ : ∃ b, b = hdOk F := ⟨_, rfl⟩
        rw [← hbq] at hh hgood
        have HH := Lib.hid hh
        have HG := Lib.hid hgood
        clear hh hgood hbq
        have hsl : ∃ o' c', n - 1 ≤ c' ∧ c' ≤ 9223372036854775807 ∧ (2 ≤ n → o' = o + 16) ∧ ∀ W : World, (Instr.slice 24 (.slice (some ⟨b, o, none⟩) n c) (some (.int .i64 1)) none none).run Try.prog W = .ok (.slice (some ⟨b, o', none⟩) (n - 1) c') W := by
          obtain ⟨j0, hj, hj0, hj1, hj2⟩ := info_parts Frame_info
          refine ⟨if c = 1 then o else o + 16, c - 1, by omega, by omega, fun h => by rw [if_neg (by omega)], fun W => ?_⟩
          rw [run_slice_l (P := Try.prog) W 24 (some ⟨b, o, none⟩) n c (by kernel_rfl) .i64 1 (by omega) (by omega), run_sizeOf W (show Try.prog.info? (Try.prog.elem 24) = some j0 from hj), Result.andThen_ok, show Try.prog.cellsOf (Try.prog.elem 24) = 16 from by kernel_rfl, sliced]
          by_cases h1 : c = 1
          · subst h1
            simp
          · rw [if_neg (by simpa using h1), if_neg h1, Option.map_some, addr_add]
            rfl
        obtain ⟨o', c', hs1, hs2, hs3, hsl⟩ := hsl
        have Hs3 := Lib.hid hs3
        clear hs3
        go_enter Try.func57, Try.ntmps57
        go_wp2_with fail
        refine (HB.out).mono ?_
        rintro e w1 ⟨AB, cB, rfl, -, hb1⟩
        have z1 := hb1.size
        have HRG1 := Lib.hid (range_below HRG.out hb1 HbB.out)
        go_wp2_with (refine wpList_load_ivs rfl _ _ rfl b o (by rfl) .u8 F _ HRG1.out Try.underlying87 rfl (by rw [HFl.out]; exact hsz) ?_)
        refine (HH.out _).mono ?_
        rintro e w2 ⟨rfl, hb2⟩
        have z2 := hb2.size
        have B2 := hb1.trans (hb2.mono z1)
        clear hb1 hb2
        have z2' := B2.size
        have hls : l.drop (n - 1 + 1) = [] := List.drop_eq_nil_of_le (by rw [Hl.out]; omega)
        clear hls
        go_wp2
        go_loopw [12, 14, 45] (fun v _ i wr => ∃ k g cp : Nat, k + 1 ≤ n ∧ i = .int .i64 k ∧ v = .slice (some ⟨g, 0, none⟩) (k * 12) cp ∧ Own wr w.heap.size wr.heap.size 5 1 (some ⟨g, 0, none⟩) (k * 12) cp ((dataOf (l.take (k + 1))).map (.int .u8)) ∧ Below w.heap.size w wr) (fun _ _ i _ => n - (intOf i).toNat)
        case atStart =>
          refine ⟨0, w2.heap.size, 0, by omega, rfl, by rw [Nat.zero_mul], ?_, B2.alloc z2' _⟩
          have e1 : dataOf (l.take (0 + 1)) = [] := by
            unfold dataOf
            rw [List.drop_eq_nil_of_le (by rw [List.length_take]; omega)]
            rfl
          rw [e1, Nat.zero_mul]
          exact ⟨rfl, .inr ⟨w2.heap.size, #[], rfl, z2', by rw [size_alloc]; omega, Blk.newAt rfl rfl, Nat.le_refl _, by unfold maxLen; omega, rfl, rfl⟩⟩
        case round =>
          clear B2 HRG1 z1 z2 z2'
          obtain ⟨k, g, cp, hk, rfl, rfl, hown, hb⟩ := hrel
          by_cases hlt : k + 1 < n
          · obtain ⟨b', o1, hA, hbB, hc⟩ := (HR.out.below hb (Nat.le_refl _)).at_ (by omega)
            cases hA
            have ho1 := Hs3.out (by omega)
            subst ho1
            have hkl : k + 1 < l.length := by rw [Hl.out]; exact hlt
            have hrg : wr.rangeAt b (o + 16 + k * 16) ((l[k + 1]'hkl).map (.int .u8)) := by
              have := Rd.rangeAt (i := (k + 1) * 16) (s := 16) hc
              rw [← List.map_drop, ← List.map_take, flat_row HROW.out hkl, show o + (k + 1) * 16 = o + 16 + k * 16 by omega] at this
              exact this
            have hFl : (l[k + 1]'hkl).length = 16 := HROW.out.at_ _
            have hds := dataOf_step l k hkl
            obtain ⟨E, hE⟩ : ∃ E, E = l[k + 1]'hkl := ⟨_, rfl⟩
            rw [← hE] at hrg hFl hds
            have r1 : Blk (wr.alloc (.cells #[.int .u8 0, .int .u8 0, .int .u8 0, .int .u8 0, .int .u8 0, .int .u8 0, .int .u8 0, .int .u8 0, .int .u8 0, .int .u8 0, .int .u8 0, .int .u8 0, .int .u8 0, .int .u8 0, .int .u8 0, .int .u8 0] 87)) wr.heap.size 87 (ivs .u8 (List.replicate 16 0)) := Blk.newAt rfl rfl
            have s1 : Blk ((wr.alloc (.cells #[.int .u8 0, .int .u8 0, .int .u8 0, .int .u8 0, .int .u8 0, .int .u8 0, .int .u8 0, .int .u8 0, .int .u8 0, .int .u8 0, .int .u8 0, .int .u8 0, .int .u8 0, .int .u8 0, .int .u8 0, .int .u8 0] 87)).setRow wr.heap.size (ivs .u8 E)) wr.heap.size 87 (ivs .u8 E) := r1.row _
            have s2 : Below wr.heap.size wr ((wr.alloc (.cells #[.int .u8 0, .int .u8 0, .int .u8 0, .int .u8 0, .int .u8 0, .int .u8 0, .int .u8 0, .int .u8 0, .int .u8 0, .int .u8 0, .int .u8 0, .int .u8 0, .int .u8 0, .int .u8 0, .int .u8 0, .int .u8 0] 87)).setRow wr.heap.size (ivs .u8 E)) := below_setRow ((Below.refl _ _).alloc (Nat.le_refl _) _) (Nat.le_refl _) _
            have s3 := own_below hown.row s2 (Nat.le_refl _)
            have s4 := s2.size
            have hn12 : ∀ j u, ((E.take 12).map (Value.int .u8))[j]? = some u → ((wr.alloc (.cells #[.int .u8 0, .int .u8 0, .int .u8 0, .int .u8 0, .int .u8 0, .int .u8 0, .int .u8 0, .int .u8 0, .int .u8 0, .int .u8 0, .int .u8 0, .int .u8 0, .int .u8 0, .int .u8 0, .int .u8 0, .int .u8 0] 87)).setRow wr.heap.size (ivs .u8 E)).cell? ((⟨wr.heap.size, 0, none⟩ : Addr).add j) = some u := fun j u hu => s1.news j u (by
              rw [List.map_take, List.getElem?_take] at hu
              split at hu
              · exact hu
              · cases hu)
            have Hn := Lib.hid hn12
            have HEl := Lib.hid hFl
            have Hds := Lib.hid hds
            have Hrg := Lib.hid hrg
            have HO := Lib.hid hown.row
            have HO3 := Lib.hid s3
            have Hs2 := Lib.hid s2
            have Hs4 := Lib.hid s4
            have Hb := Lib.hid hbB
            have hl12 : ((E.take 12).map (Value.int .u8)).length = 12 := by rw [List.length_map, List.length_take, hFl]; omega
            have HL12 := Lib.hid hl12
            have b1 : (k : Int) < ((n - 1 : Nat) : Int) := by omega
            have hz := hb.size
            clear hc hrg hFl hE hown hbB hds s1 s2 s3 s4 hn12 hl12 hkl HFl
            go_wp2_with (first
              | refine wpList_load_ivs rfl _ _ rfl b (o + 16 + k * 16) (by rfl) .u8 E _ Hrg.out Try.underlying87 rfl (by rw [HEl.out]; exact hsz) ?_
              | refine wpList_store_row rfl _ _ _ rfl wr.heap.size (ivs .u8 E) rfl rfl 87 _ r1 (by rw [ivs_size, HEl.out]; exact hsz) (by simp [ivs_size, HEl.out]) ivs_one ?_
              | (at_builtin; refine wpList_append_own _ rfl (.tmp 49) (.tmp 50) 40 rfl w.heap.size 5 i0 _ 1 1 Try.underlying40 hi hz0 hz1 hz2 rfl (by decide) (.slice (some ⟨g, 0, none⟩) (k * 12) cp) (k * 12) _ rfl HO3.out ⟨wr.heap.size, 0, none⟩ 12 16 ((E.take 12).map (.int .u8)) rfl (by rw [HL12.out]) Hn.out ints_one (by unfold maxLen; omega) (by omega) (by have := Hs4.out; omega) ?_; intro v' w1 hown' hgrow _))
            obtain ⟨g2, cp2, cur2, rfl, -⟩ := own_lt hown' (by omega)
            refine ⟨⟨k + 1, g2, cp2, by omega, by go_num, by rw [Nat.add_mul, Nat.one_mul], ?_, (hb.trans (Hs2.out.mono hz)).grown hgrow (by have := Hs4.out; omega) (fun j e => (HO.out.lt _ e).1)⟩, by simp [intOf]; omega⟩
            obtain ⟨A3, c3, hA3, hO3⟩ := Own.of_row hown'
            cases hA3
            rw [Hds.out, List.map_append, Nat.add_mul, Nat.one_mul]
            exact hO3
          · have hkn : k + 1 = n := by omega
            have e3 : l.take (k + 1) = l := List.take_of_length_le (by rw [Hl.out]; omega)
            rw [e3, ← HDe.out] at hown
            have hDk : D.length = k * 12 := by rw [HDl.out, Hl.out]; omega
            rw [← hDk] at hown ⊢
            have e4 : ((n - 1 : Nat) : Int) = (k : Int) := by omega
            have hlc := hown.len
            have z1 := hb.size
            have HOD := Lib.hid hown
            have hge : ((n - 1 : Nat) : Int) ≤ (k : Int) := by omega
            clear hlt e3 hown HDe HDl HH HRG hDk e4 hsl Hs3
            cases bq
            · have hg : opGood l = false := by rw [HG.out]; rfl
              have HGB := Lib.hid (HBAD.out hg)
              clear HG HBAD HOK hg
              go_wp2
              refine bodyPost_ret (results_tmp4 rfl _ _ _) rfl ?_
              show GOpenL l w _ _
              rw [HGB.out]
              exact ⟨none, 0, rfl, ⟨rfl, .inl ⟨rfl, rfl, rfl⟩⟩, hb⟩
            · have hg0 := HG.out
              rw [Bool.true_and] at hg0
              have HG2 := Lib.hid hg0
              clear HG hg0
              have hpc := fun W => packCodeI_any kd cn m (by omega) s1 W
              rw [packCdI_nat] at hpc
              have hcd := packCd_cases kd cn m
              by_cases q3 : packOk kd cn = true ∧ m ≤ 8192
              · have hcd0 : packCd kd cn m = 0 := by rw [packCd, if_pos q3.1, if_pos q3.2]
                rw [hcd0] at hpc
                have HPC := Lib.hid hpc
                clear hpc hcd hcd0
                by_cases q2 : m ≤ D.length
                · have hg0 := HG2.out
                  rw [q3.1, show decide ((m : Int) ≤ 8192) = true from decide_eq_true (by omega), show decide ((m : Int) ≤ (D.length : Int)) = true from decide_eq_true (by omega), Bool.true_and, Bool.true_and, Bool.true_and] at hg0
                  have k1 := inB_true (Bool.and_eq_true _ _ ▸ q3.1).1
                  have k2 := inB_true (Bool.and_eq_true _ _ ▸ q3.1).2
                  have HK1 := Lib.hid k1
                  have HK2 := Lib.hid k2
                  have HO3 := Lib.hid (HOD.out.cut q2)
                  rw [← List.map_take, Nat.mul_one] at HO3
                  have HRd := Lib.hid (HO3.out.rd)
                  have hp := packFrames_any g 0 m cp kd cn k1.1 k1.2 k2.1 k2.2 (D.take m) (by rw [List.length_take]; omega) q3.2 (by omega) (by have hmx := HOD.out.capLe; omega) wr HRd.out
                  have hfr := packOf_rows kd cn (D.take m)
                  have hfn : (packOf kd cn (D.take m)).length ≤ 700 := by rw [packOf, packTo_length, packMany, List.length_take]; omega
                  obtain ⟨G, hG⟩ : ∃ G, G = packOf kd cn (D.take m) := ⟨_, rfl⟩
                  rw [← hG] at hp hfr hfn hg0
                  have HP := Lib.hid hp
                  have HFR := Lib.hid hfr
                  clear hp hfr hG k1 k2 HG2 q3
                  cases q4 : (G == l)
                  · have hg : opGood l = false := by rw [hg0, q4]
                    have HGB := Lib.hid (HBAD.out hg)
                    clear hg0 hg HBAD HOK
                    go_wp2_with fail
                    refine (HPC.out _).mono ?_
                    rintro e w3 ⟨rfl, rfl⟩
                    go_wp2_with fail
                    refine (HP.out).mono ?_
                    rintro e w4 ⟨AP, cP, rfl, OP, hb4⟩
                    have z4 := hb4.size
                    have B4 := hb.trans (hb4.mono z1)
                    have z4' := B4.size
                    have HR4 := Lib.hid ((HR.out.below B4 (Nat.le_refl _)).more (show w.heap.size ≤ w4.heap.size by omega))
                    have HOP := Lib.hid (OP.rd)
                    have HB4 := Lib.hid hb4
                    have hsm := equalFs_any AP (some ⟨b, o, none⟩) G.length n cP c G l rfl Hl.out HFR.out HROW.out (by omega) w4 HOP.out HR4.out
                    rw [q4] at hsm
                    have HSM := Lib.hid hsm
                    clear hsm OP hb4 q4
                    go_wp2_with fail
                    refine (HSM.out).mono ?_
                    rintro e w5 ⟨rfl, hb5⟩
                    have z5 := hb5.size
                    have B5 := B4.trans (hb5.mono (by omega))
                    go_wp2
                    refine bodyPost_ret (results_tmp4 rfl _ _ _) rfl ?_
                    show GOpenL l w _ _
                    rw [HGB.out]
                    exact ⟨none, 0, rfl, ⟨rfl, .inl ⟨rfl, rfl, rfl⟩⟩, B5⟩
                  · have hg : opGood l = true := by rw [hg0, q4]
                    have HGB := Lib.hid (HOK.out hg)
                    have hdl : (D.take m).length = m := by rw [List.length_take]; omega
                    have HDL := Lib.hid hdl
                    clear hg0 hg HBAD HOK hdl
                    go_wp2_with fail
                    refine (HPC.out _).mono ?_
                    rintro e w3 ⟨rfl, rfl⟩
                    go_wp2_with fail
                    refine (HP.out).mono ?_
                    rintro e w4 ⟨AP, cP, rfl, OP, hb4⟩
                    have z4 := hb4.size
                    have B4 := hb.trans (hb4.mono z1)
                    have z4' := B4.size
                    have HR4 := Lib.hid ((HR.out.below B4 (Nat.le_refl _)).more (show w.heap.size ≤ w4.heap.size by omega))
                    have HOP := Lib.hid (OP.rd)
                    have HB4 := Lib.hid hb4
                    have hsm := equalFs_any AP (some ⟨b, o, none⟩) G.length n cP c G l rfl Hl.out HFR.out HROW.out (by omega) w4 HOP.out HR4.out
                    rw [q4] at hsm
                    have HSM := Lib.hid hsm
                    clear hsm OP hb4 q4
                    go_wp2_with fail
                    refine (HSM.out).mono ?_
                    rintro e w5 ⟨rfl, hb5⟩
                    have z5 := hb5.size
                    have B5 := B4.trans (hb5.mono (by omega))
                    go_wp2
                    go_quiet (fail)
                    go_wp2
                    refine bodyPost_ret (results_tmp4 rfl _ _ _) rfl ?_
                    show GOpenL l w _ _
                    rw [HGB.out]
                    refine ⟨_, cp, by rw [HDL.out]; rfl, ?_, below_drewN B5 _⟩
                    rw [HDL.out]
                    exact ((((HO3.out).below HB4.out (Nat.le_refl _)).below hb5 (by omega)).more (show wr.heap.size ≤ w5.heap.size by omega)).drewN _
                · have hg : opGood l = false := by
                    rw [HG2.out, show decide ((m : Int) ≤ (D.length : Int)) = false from decide_eq_false (by omega)]
                    simp
                  have HGB := Lib.hid (HBAD.out hg)
                  have q2' : D.length < m := by omega
                  clear HG2 HBAD HOK hg q2 q3
                  go_wp2_with fail
                  refine (HPC.out _).mono ?_
                  rintro e w3 ⟨rfl, rfl⟩
                  go_wp2
                  refine bodyPost_ret (results_tmp4 rfl _ _ _) rfl ?_
                  show GOpenL l w _ _
                  rw [HGB.out]
                  exact ⟨none, 0, rfl, ⟨rfl, .inl ⟨rfl, rfl, rfl⟩⟩, hb⟩
              · have hg : opGood l = false := by
                  rw [HG2.out]
                  cases p1 : packOk kd cn
                  · rfl
                  · have : ¬ m ≤ 8192 := fun h => q3 ⟨p1, h⟩
                    rw [decide_eq_false (show ¬ ((m : Int) ≤ 8192) by omega)]
                    rfl
                have HGB := Lib.hid (HBAD.out hg)
                have hcd2 : packCd kd cn m = 2 ∨ packCd kd cn m = 3 := by
                  rcases hcd with hcd | hcd
                  · exfalso
                    refine q3 ?_
                    unfold packCd at hcd
                    split at hcd
                    · split at hcd
                      · exact ⟨‹_›, ‹_›⟩
                      · cases hcd
                    · cases hcd
                  · exact hcd
                clear HG2 HBAD HOK hg hcd q3
                rcases hcd2 with hcd | hcd
                all_goals
                  rw [hcd] at hpc
                  have HPC := Lib.hid hpc
                  clear hpc hcd
                  go_wp2_with fail
                  refine (HPC.out _).mono ?_
                  rintro e w3 ⟨rfl, rfl⟩
                  go_wp2
                  refine bodyPost_ret (results_tmp4 rfl _ _ _) rfl ?_
                  show GOpenL l w _ _
                  rw [HGB.out]
                  exact ⟨none, 0, rfl, ⟨rfl, .inl ⟨rfl, rfl, rfl⟩⟩, hb⟩
    · rw [if_neg hB] at ec
      rw [GOpenL, opKind, opCount, opData, ec]
      simp only [show (8 : Int) = 0 ↔ False from ⟨by decide, False.elim⟩, if_false]
      have hB1 : 1 ≤ (brokenTo l n).length := by
        cases hq : brokenTo l n with
        | nil => exact absurd hq hB
        | cons _ _ => simp
      have hBl := brokenTo_length l n
      obtain ⟨m, hm⟩ : ∃ m, m = brokenTo l n := ⟨_, rfl⟩
      rw [← hm] at hbr hB1 hBl
      have HB := Lib.hid hbr
      clear hl hrow hR hB ec hbr hm h255
      go_enter Try.func57, Try.ntmps57
      go_wp2_with fail
      refine (HB.out).mono ?_
      rintro e w1 ⟨AB, cB, rfl, -, hb⟩
      go_wp2
      refine bodyPost_ret (results_tmp4 rfl _ _ _) rfl ?_
      exact ⟨none, 0, rfl, ⟨rfl, .inl ⟨rfl, rfl, rfl⟩⟩, hb⟩
  · have ec : opCode l = 3 := by rw [opCode, if_neg (by omega)]
    have e1 : brokenOf l = [] := by simp [brokenOf, hl, h7]
    have e2 : limitOf n = 3 := by simp [limitOf, h7]
    rw [e1, e2] at hbr
    rw [GOpenL, opKind, opCount, opData, ec]
    simp only [show (3 : Int) = 0 ↔ False from ⟨by decide, False.elim⟩, if_false]
    have HB := Lib.hid hbr
    clear hl hrow hR ec hbr e1 e2 h255
    go_enter Try.func57, Try.ntmps57
    go_wp2_with fail
    refine (HB.out).mono ?_
    rintro e w1 ⟨AB, cB, rfl, -, hb⟩
    go_wp2
    refine bodyPost_ret (results_tmp4 rfl _ _ _) rfl ?_
    exact ⟨none, 0, rfl, ⟨rfl, .inl ⟨rfl, rfl, rfl⟩⟩, hb⟩

theorem iUnpackFrames_any' (A : Option Addr) (n c : Nat) (l : List (List Int)) (hl : l.length = n) (hrow : Rows_ 16 l) (hn : n ≤ 1048576) (hnc : n ≤ c) (hc63 : c ≤ 9223372036854775807) (h255 : ∀ f ∈ l, is255 f) (w : World) (hR : Rd w w.heap.size 16 A n (l.flatten.map (.int .u8))) :
    Calls Try.prog 57 #[.slice A n c] w (GivesOpen (opKind l) (opCount l) (opData l) (opCode l) w) := iUnpackFrames_any A n c l hl hrow h255 hn hnc hc63 w hR
end Go.Proofs.Ytmagaapdijapiaa
