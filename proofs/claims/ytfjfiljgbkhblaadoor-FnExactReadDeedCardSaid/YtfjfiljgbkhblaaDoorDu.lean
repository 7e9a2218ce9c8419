/- The text of a deed: the program's walk. -/
import Derived.Test.YtfjfiljgbkhblaaDoorRows
import Derived.Test.YtfjfiljgbkhblaaDoorDt
import Derived.Test.YtfjfiljgbkhblaaDoorShb
import Derived.Lib.LaidTab
namespace Go.Proofs.YtfjfiljgbkhblaaDoor
open Go.ChangeShapes Go.WideShapes Go.ChangeAt Go.RowKit

def Tab (w : World) : Prop := Lib.TabIs Tryd.prog w "internal/strconv.uint64pow10" .u64 Lib.pow10Tab
theorem gTab : Tryd.prog.globalNamed "internal/strconv.uint64pow10" = some 4 := by kernel_rfl
theorem Tab.below {B : Nat} {w w' : World} (h : Tab w) (hb : Below B w w') (hB : 4 < B) : Tab w' := by
  unfold Tab Lib.TabIs World.var? at h ⊢
  simp only [gTab, Option.bind_some] at h ⊢
  rw [hb.block _ hB]
  exact h
theorem Tab.lt {w : World} (h : Tab w) : 4 < w.heap.size := World.block_lt_of_cell? _ _ (Lib.TabIs.cell h gTab 0 (by decide))
theorem below_growN (w : World) (k : Nat) (os : Array Obj) : Below w.heap.size w (Sort.grow (w.drewN k) os) :=
  ⟨rfl, rfl, rfl, by show w.heap.size ≤ (w.heap ++ os).size; rw [Array.size_append]; omega, fun i hi => by
    show (w.heap ++ os)[i]? = w.heap[i]?
    rw [Array.getElem?_append_left hi]⟩
set_option maxRecDepth 20000 in
theorem iDecimal_any (n : Nat) (hn : n < 10000000) (w : World) (ht : Tab w) : Calls Tryd.prog 30 #[.int .i64 n] w fun e w' => e = .returned (.string (dec n)) ∧ Below w.heap.size w w' := by
  have hf := Tryd.strconv_FormatInt_10 n (by omega) (by omega) w ht
  have e : Lib.itoa n = Lib.decDigits n := by rw [Lib.itoa, if_neg (by omega)]; rfl
  rw [e] at hf
  have HF := Lib.hid hf
  clear hf e ht
  go_enter Tryd.func30, Tryd.ntmps30
  go_wp2_with (go_at_call 48; refine HF.out.mono ?_; rintro e w2 ⟨rfl, k, os, rfl⟩)
  go_ret
  exact ⟨rfl, below_growN _ _ _⟩
set_option maxRecDepth 20000 in
set_option maxHeartbeats 3200000 in
theorem iDeedText_any (k a b : Int) (w : World) (ht : Tab w) : Calls Tryd.prog 13 #[.agg #[.int .i64 k, .int .i64 a, .int .i64 b]] w fun e w' => e = .returned (.string (dtext k a b)) ∧ Below w.heap.size w w' := by
  have h1 : Blk (w.alloc (.cells #[.int .i64 k, .int .i64 a, .int .i64 b] 31)) w.heap.size 31 #[.int .i64 k, .int .i64 a, .int .i64 b] := Blk.newAt rfl rfl
  have b1 : Below w.heap.size w (w.alloc (.cells #[.int .i64 k, .int .i64 a, .int .i64 b] 31)) := (Below.refl _ _).alloc (Nat.le_refl _) _
  have hv := iValidDeed_any k a b
  cases hd : deedB k a b
  · rw [hd] at hv
    have e0 : dtext k a b = ⟨#[]⟩ := by rw [dtext, hd]; rfl
    rw [e0]
    have HV := Lib.hid hv
    clear hv e0
    go_enter Tryd.func13, Tryd.ntmps13
    go_wp2_with (go_at_call 28; refine (HV.out _).mono ?_; rintro e w2 ⟨rfl, hb⟩; have HB := Lib.hid hb; clear hb)
    go_ret
    exact ⟨rfl, b1.trans (HB.out.mono (by rw [size_alloc]; omega))⟩
  · rw [hd] at hv
    have e0 : dtext k a b = dpre k a b (numsK k).toNat := by rw [dtext, hd]; rfl
    rw [e0]
    have hd' := hd
    simp only [deedB, Bool.and_eq_true] at hd'
    obtain ⟨⟨⟨⟨hk, ha⟩, hb⟩, _⟩, _⟩ := hd'
    have hk := inB_true hk
    have ha := inB_true ha
    have hb := inB_true hb
    obtain ⟨x, rfl⟩ : ∃ x : Nat, a = (x : Int) := ⟨a.toNat, by omega⟩
    obtain ⟨y, rfl⟩ : ∃ y : Nat, b = (y : Int) := ⟨b.toNat, by omega⟩
    have hA := iDecimal_any x (by omega)
    have hB := iDecimal_any y (by omega)
    have hs := dec_size (n := x) (by omega)
    have hs' := dec_size (n := y) (by omega)
    have hws := word_size k
    have hc := nums_cases k
    have hM := deedWord_any k
    have d0 : dpre k x y 0 = word k := rfl
    have d1 : dpre k x y 1 = word k ++ (sp ++ dec x) := rfl
    have d2 : dpre k x y 2 = word k ++ (sp ++ dec x) ++ (sp ++ dec y) := rfl
    have hx1 : ¬ 9223372036854775807 < 1 + (dec x).size := by omega
    have hx2 : ¬ 9223372036854775807 < (word k).size + (1 + (dec x).size) := by omega
    have hy1 : ¬ 9223372036854775807 < 1 + (dec y).size := by omega
    have hy2 : ¬ 9223372036854775807 < (word k).size + (1 + (dec x).size) + (1 + (dec y).size) := by omega
    obtain ⟨q, hq, hq2⟩ : ∃ q : Nat, numsK k = (q : Int) ∧ q ≤ 2 := by
      rcases hc with e | e | e
      · exact ⟨0, e, by omega⟩
      · exact ⟨1, e, by omega⟩
      · exact ⟨2, e, by omega⟩
    rw [hq] at hM ⊢
    simp only [Int.toNat_natCast]
    generalize word k = W at *
    generalize dec x = X at *
    generalize dec y = Y at *
    generalize dpre k x y = F at *
    have h4 := ht.lt
    have HV := Lib.hid hv
    have HA := Lib.hid hA
    have HB := Lib.hid hB
    have HM := Lib.hid hM
    have H1 := Lib.hid h1
    have B1 := Lib.hid b1
    have HT := Lib.hid ht
    have D0 := Lib.hid d0
    have D1 := Lib.hid d1
    have D2 := Lib.hid d2
    clear hv hA hB hM hd e0 ha hb hk h1 b1 ht d0 d1 d2 hq hc
    have hq3 : (q : Int) ≤ 2 := by omega
    go_enter Tryd.func13, Tryd.ntmps13
    go_wp2_with (first
      | (go_at_call 28; refine (HV.out _).mono ?_; rintro e w2 ⟨rfl, hb⟩; have HB2 := Lib.hid hb; have H2 := Lib.hid (H1.out.below hb (by rw [size_alloc]; omega)); have c0 := H2.out.cell 0; have c1 := H2.out.cell 1; have c2 := H2.out.cell 2; simp only [List.getElem?_toArray, List.getElem?_cons_zero, List.getElem?_cons_succ] at c0 c1 c2; clear hb)
      | (go_at_call 29; refine (HM.out _).mono ?_; rintro e w' ⟨rfl, rfl⟩))
    have r2 : Blk (w2.alloc (.cells #[.int .i64 x, .int .i64 y] 2)) w2.heap.size 2 #[.int .i64 x, .int .i64 y] := Blk.newAt rfl rfl
    have B2 : Below w.heap.size w w2 := B1.out.trans (HB2.out.mono (by rw [size_alloc]; omega))
    have B3 : Below w.heap.size w (w2.alloc (.cells #[.int .i64 x, .int .i64 y] 2)) := B2.alloc B2.size _
    have hz2 := B2.size
    have HZ2 := Lib.hid hz2
    clear B2 HB2 c0 c1 c2 H2 hz2
    go_loopw [3, 6, 24] (fun out _ i wr => ∃ j : Nat, j ≤ q ∧ i = .int .i64 j ∧ out = .string (F j) ∧ Blk wr w2.heap.size 2 #[.int .i64 x, .int .i64 y] ∧ Below w.heap.size w wr) (fun _ _ i _ => q - (intOf i).toNat)
    case atStart => exact ⟨0, by omega, rfl, by rw [D0.out], r2, B3⟩
    case round =>
      clear r2 B3
      obtain ⟨j, hj, rfl, rfl, h2, hb⟩ := hrel
      have HW := Lib.hid (HT.out.below hb h4)
      have HL := Lib.hid h2.lt
      have H2 := Lib.hid h2
      have HB3 := Lib.hid hb
      clear hb
      by_cases hlt : j < q
      · have hji : (j : Int) < q := by omega
        have c0 := h2.cell 0
        have c1 := h2.cell 1
        simp only [List.getElem?_toArray, List.getElem?_cons_zero, List.getElem?_cons_succ] at c0 c1
        clear h2
        rcases (by omega : j = 0 ∨ j = 1) with rfl | rfl
        · have e0 := D0.out
          have e1 := D1.out
          rw [e0]
          go_wp2_with (go_at_call 30; refine (HA.out _ HW.out).mono ?_; rintro e w4 ⟨rfl, hb4⟩; have HB4 := Lib.hid hb4; clear hb4)
          refine ⟨⟨1, by omega, by go_num, by rw [e1]; rfl, H2.out.below HB4.out HL.out, HB3.out.trans (HB4.out.mono HB3.out.size)⟩, by simp [intOf]; omega⟩
        · have e1 := D1.out
          have e2 := D2.out
          rw [e1]
          go_wp2_with (go_at_call 30; refine (HB.out _ HW.out).mono ?_; rintro e w4 ⟨rfl, hb4⟩; have HB4 := Lib.hid hb4; clear hb4)
          refine ⟨⟨2, by omega, by go_num, by rw [e2]; rfl, H2.out.below HB4.out HL.out, HB3.out.trans (HB4.out.mono HB3.out.size)⟩, by simp [intOf]; omega⟩
      · obtain rfl : j = q := by omega
        clear h2
        go_wp2
        go_ret
        exact ⟨rfl, HB3.out⟩
end Go.Proofs.YtfjfiljgbkhblaaDoor
