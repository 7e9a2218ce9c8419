/- The text of a deed: decimal numerals; plain law. -/
import Derived.Test.YtfjfiljgbkhblaaDoorRows
import Derived.Test.YtfjfiljgbkhblaaDoorDs
import Derived.Test.YtfjfiljgbkhblaaDoorSl
import Derived.Laws.BytesArg
import Derived.Laws.Concat
import Derived.Lib.ItoaNum
import Derived.Deep.RegionHeld3
import Derived.Deep.RegionWith
namespace Go.Proofs.YtfjfiljgbkhblaaDoor
open Go.ChangeShapes Go.WideShapes Go.ChangeAt Go.RowKit

def dec (n : Nat) : ByteArray := ⟨(Lib.decDigits n).toArray⟩
theorem nDigits_le : ∀ n : Nat, n < 10000000 → Lib.nDigits n ≤ 7 := fun n h => by
  rw [Lib.nDigits]; split
  · omega
  rw [Lib.nDigits]; split
  · omega
  rw [Lib.nDigits]; split
  · omega
  rw [Lib.nDigits]; split
  · omega
  rw [Lib.nDigits]; split
  · omega
  rw [Lib.nDigits]; split
  · omega
  rw [Lib.nDigits, dif_pos (by omega)]
  decide
theorem dec_size {n : Nat} (h : n < 10000000) : (dec n).size ≤ 7 := by
  have : (dec n).size = (Lib.decDigits n).length := by simp [dec, ByteArray.size]
  rw [this, Lib.decDigits_length]
  exact nDigits_le n h
theorem dec_one {n : Nat} (h : n < 10) : dec n = strOfNums [48 + (n : Int)] := by
  rw [dec, Lib.decDigits_one h]
  unfold strOfNums
  simp only [List.map_cons, List.map_nil]
  rw [show (48 + (n : Int)).toNat = 48 + n by omega]
theorem dec_more {n : Nat} (h : ¬ n < 10) : dec n = dec (n / 10) ++ strOfNums [48 + ((n % 10 : Nat) : Int)] := by
  rw [dec, Lib.decDigits, dif_neg h, dec]
  unfold strOfNums
  simp only [List.map_cons, List.map_nil]
  rw [show (48 + ((n % 10 : Nat) : Int)).toNat = 48 + n % 10 by omega]
  exact (ByteArray.mk_append_mk _ _).symm
theorem run_conv1 (W : World) (b : Nat) (v : Int) (h : W.cell? ⟨b, 0, none⟩ = some (.int .u8 v)) : (convert 42 9 (.slice (some ⟨b, 0, none⟩) 1 1)).run Tryd.prog W = .ok (.string (strOfNums [v])) W :=
  run_convert_bytes_arg (P := Tryd.prog) W 42 5 Tryd.underlying42 Tryd.underlying5 b 0 1 1 [v] rfl (fun i hi => by
    obtain rfl : i = 0 := by omega
    exact h) 9 Tryd.underlying9

section
attribute [local go_sem] run_conv1
set_option maxHeartbeats 1600000 in
set_option maxRecDepth 20000 in
theorem sDecimal_any (n : Nat) (hn : n < 10000000) : ∀ w : World, Calls Tryd.prog 22 #[.int .i64 n] w fun e w' => e = .returned (.string (dec n)) ∧ Below w.heap.size w w' := by
  induction n using Nat.strongRecOn with
  | _ n ih =>
    intro w
    by_cases h : n < 10
    · rw [dec_one h]
      have h0 : (n : Int) < 10 := by omega
      clear ih h
      go_enter Tryd.func22, Tryd.ntmps22
      go_wp2
      go_ret
      exact ⟨rfl, (Below.refl _ _).alloc (Nat.le_refl _) _⟩
    · have ih2 := ih (n / 10) (by omega) (by omega)
      have hz := dec_size (n := n / 10) (by omega)
      rw [dec_more h, show ((n % 10 : Nat) : Int) = (n : Int) % 10 by omega]
      rw [show ((n / 10 : Nat) : Int) = (n : Int) / 10 by omega] at ih2
      generalize dec (n / 10) = s at *
      have hw1 : IntKind.i64.wrap ((n : Int) / 10) = (n : Int) / 10 := by rw [IntKind.wrap_i64]; omega
      have hw2 : IntKind.u8.wrap (IntKind.i64.wrap (48 + (n : Int).tmod 10)) = 48 + (n : Int) % 10 := by rw [Int.tmod_eq_emod_of_nonneg (by omega), IntKind.wrap_i64, IntKind.wrap_u8']; omega
      have HW1 := Lib.hid hw1
      have hlt : ¬ 9223372036854775807 < s.size + (strOfNums [48 + (n : Int) % 10]).size := by rw [strOfNums_size]; simp; omega
      have h0 : ¬ (n : Int) < 10 := by omega
      have h1 : 0 ≤ (n : Int) / 10 := by omega
      have IH := Lib.hid ih2
      clear ih ih2 h hw1
      go_enter Tryd.func22, Tryd.ntmps22
      go_wp2
      go_region_with (go_at_call 22; rw [HW1.out]; refine (IH.out _).mono ?_; rintro e w' ⟨rfl, hb⟩; have hq := (bcell hb).1)
      all_goals go_wp2
      all_goals go_ret
      all_goals refine ⟨rfl, ?_⟩
      · have h2 : Below w.heap.size w w' := (below_drew (Below.refl _ _)).trans (hb.mono (Nat.le_refl _))
        exact h2.alloc h2.size _
      all_goals exact (below_drew ((Below.refl w.heap.size w).alloc (Nat.le_refl _) _)).trans (hb.mono (by show w.heap.size ≤ (w.alloc _).heap.size; rw [size_alloc]; omega))
end

theorem word_at {k : Nat} (h0 : 1 ≤ k) (h : k ≤ 9) : (#[.string { data := #[] }, .string { data := #[103, 105, 118, 101] }, .string { data := #[119, 111, 114, 107] }, .string { data := #[100, 101, 108, 105, 118, 101, 114] }, .string { data := #[99, 111, 112, 121] }, .string { data := #[100, 114, 111, 112] }, .string { data := #[115, 112, 111, 105, 108] }, .string { data := #[115, 121, 110, 99] }, .string { data := #[99, 114, 97, 115, 104] }, .string { data := #[113, 117, 105, 116] }] : Array Value)[k]? = some (.string (word k)) := by
  rcases (by omega : k = 1 ∨ k = 2 ∨ k = 3 ∨ k = 4 ∨ k = 5 ∨ k = 6 ∨ k = 7 ∨ k = 8 ∨ k = 9) with rfl | rfl | rfl | rfl | rfl | rfl | rfl | rfl | rfl <;> rfl
theorem word_size (k : Int) : (word k).size ≤ 7 := by
  unfold word
  repeat' split
  all_goals exact of_decide_eq_true (by kernel_rfl)
theorem l10Names_any (k : Nat) (h0 : 1 ≤ k) (h : k ≤ 9) (w : World) : Calls Tryd.prog 26 #[] w fun e w' => e = .returned (.slice (some ⟨w.heap.size, 0, none⟩) 10 10) ∧ w'.cell? ⟨w.heap.size, k, none⟩ = some (.string (word k)) ∧ w'.heap.size = w.heap.size + 1 ∧ Below w.heap.size w w' := by
  have hw := word_at h0 h
  go_enter Tryd.func26, Tryd.ntmps26
  go_wp2
  go_ret
  refine ⟨rfl, ?_, by simp, (Below.refl _ _).alloc (Nat.le_refl _) _⟩
  rw [World.cell?_alloc_at _ _ _ _ rfl]
  exact hw

def sp : ByteArray := ⟨#[32]⟩
/-- the text of a deed's first i numbers -/
def dpre (k a b : Int) : Nat → ByteArray
  | 0 => word k
  | 1 => word k ++ (sp ++ dec a.toNat)
  | _ => word k ++ (sp ++ dec a.toNat) ++ (sp ++ dec b.toNat)
def dtext (k a b : Int) : ByteArray := if deedB k a b then dpre k a b (numsK k).toNat else ⟨#[]⟩
theorem numsS_any (k : Int) (h : 1 ≤ k ∧ k ≤ 9) (w : World) : Calls Tryd.prog 27 #[.int .i64 k] w fun e w' => e = .returned (.int .i64 (numsK k)) ∧ w = w' := by
  rw [← nums_eq h.1 h.2]
  exact l10Numbers_any k w

set_option maxRecDepth 20000 in
set_option maxHeartbeats 3200000 in
theorem sDeedText_any (k a b : Int) (w : World) : Calls Tryd.prog 11 #[.agg #[.int .i64 k, .int .i64 a, .int .i64 b]] w fun e w' => e = .returned (.string (dtext k a b)) ∧ Below w.heap.size w w' := by
  have h1 : Blk (w.alloc (.cells #[.int .i64 k, .int .i64 a, .int .i64 b] 31)) w.heap.size 31 #[.int .i64 k, .int .i64 a, .int .i64 b] := Blk.newAt rfl rfl
  have b1 : Below w.heap.size w (w.alloc (.cells #[.int .i64 k, .int .i64 a, .int .i64 b] 31)) := (Below.refl _ _).alloc (Nat.le_refl _) _
  have hv := sValidDeed_any k a b
  cases hd : deedB k a b
  · rw [hd] at hv
    have e0 : dtext k a b = ⟨#[]⟩ := by rw [dtext, hd]; rfl
    rw [e0]
    have HV := Lib.hid hv
    clear hv e0
    go_enter Tryd.func11, Tryd.ntmps11
    go_wp2_with (go_at_call 25; refine (HV.out _).mono ?_; rintro e w2 ⟨rfl, hb⟩; have HB := Lib.hid hb; clear hb)
    go_ret
    exact ⟨rfl, b1.trans (HB.out.mono (by rw [size_alloc]; omega))⟩
  · rw [hd] at hv
    have e0 : dtext k a b = dpre k a b (numsK k).toNat := by rw [dtext, hd]; rfl
    rw [e0]
    have hd' := hd
    simp only [deedB, Bool.and_eq_true] at hd'
    obtain ⟨⟨⟨⟨hk, ha⟩, hb⟩, _⟩, _⟩ := hd'
    have hk := inB_true hk
    have ha := inB_true ha
    have hb := inB_true hb
    obtain ⟨m, rfl⟩ : ∃ m : Nat, k = (m : Int) := ⟨k.toNat, by omega⟩
    obtain ⟨x, rfl⟩ : ∃ x : Nat, a = (x : Int) := ⟨a.toNat, by omega⟩
    obtain ⟨y, rfl⟩ : ∃ y : Nat, b = (y : Int) := ⟨b.toNat, by omega⟩
    have hN := l10Names_any m (by omega) (by omega)
    have hA := sDecimal_any x (by omega)
    have hB := sDecimal_any y (by omega)
    have hM := numsS_any m hk
    have hs := dec_size (n := x) (by omega)
    have hs' := dec_size (n := y) (by omega)
    have hws := word_size m
    have hc := nums_cases m
    have d0 : dpre m x y (0 : Int).toNat = word m := rfl
    have d1 : dpre m x y (1 : Int).toNat = word m ++ (sp ++ dec x) := rfl
    have d2 : dpre m x y (2 : Int).toNat = word m ++ (sp ++ dec x) ++ (sp ++ dec y) := rfl
    have m1 : 1 ≤ m := by omega
    have m9 : (m : Int) < 10 := by omega
    have hx1 : ¬ 9223372036854775807 < 1 + (dec x).size := by omega
    have hx2 : ¬ 9223372036854775807 < (word m).size + (1 + (dec x).size) := by omega
    have hy1 : ¬ 9223372036854775807 < 1 + (dec y).size := by omega
    have hy2 : ¬ 9223372036854775807 < (word m).size + (1 + (dec x).size) + (1 + (dec y).size) := by omega
    generalize numsK m = q at *
    generalize word m = W at *
    generalize dec x = X at *
    generalize dec y = Y at *
    have HV := Lib.hid hv
    have HN := Lib.hid hN
    have HA := Lib.hid hA
    have HB := Lib.hid hB
    have HM := Lib.hid hM
    have H1 := Lib.hid h1
    have B1 := Lib.hid b1
    clear hv hN hA hB hM hd e0 ha hb hk h1 b1
    rcases hc with rfl | rfl | rfl
    · rw [d0]
      clear d0 d1 d2
      go_enter Tryd.func11, Tryd.ntmps11
      go_wp2_with (go_at_call 25; refine (HV.out _).mono ?_; rintro e w2 ⟨rfl, hb⟩; have HB2 := Lib.hid hb; have H2 := Lib.hid (H1.out.below hb (by rw [size_alloc]; omega)); clear hb)
      have c0 := H2.out.cell (i := 0)
      have c1 := H2.out.cell (i := 1)
      have c2 := H2.out.cell (i := 2)
      simp only [List.getElem?_toArray, List.getElem?_cons_zero, List.getElem?_cons_succ] at c0 c1 c2
      have hl2 : w.heap.size < w2.heap.size := H2.out.lt
      go_region_with (go_at_call 26; refine (HN.out _).mono ?_; rintro e w3 ⟨rfl, hcw, hz3, hb3⟩; have hq := (bcell hb3).1; have q0 : w3.cell? ⟨w.heap.size, 0, none⟩ = some (.int .i64 m) := (hq _ _ hl2).trans c0; have q1 : w3.cell? ⟨w.heap.size, 1, none⟩ = some (.int .i64 x) := (hq _ _ hl2).trans c1; have q2 : w3.cell? ⟨w.heap.size, 2, none⟩ = some (.int .i64 y) := (hq _ _ hl2).trans c2; have hcw2 : w3.cell? ⟨w2.heap.size, m, none⟩ = some (.string W) := hcw; have HB3 : Hid (Below w2.heap.size w2 w3) := Lib.hid ((below_drew (Below.refl w2.heap.size w2)).trans (hb3.mono (Nat.le_refl _))); clear hb3 hq hcw hz3)
      all_goals
        go_wp2_with (first
        | (go_at_call 27; refine (HM.out _).mono ?_; rintro e w' ⟨rfl, rfl⟩))
        go_ret
        exact ⟨rfl, (B1.out.trans (HB2.out.mono (by rw [size_alloc]; omega))).trans (HB3.out.mono (Nat.le_of_lt hl2))⟩
    · rw [d1]
      clear d0 d1 d2
      go_enter Tryd.func11, Tryd.ntmps11
      go_wp2_with (go_at_call 25; refine (HV.out _).mono ?_; rintro e w2 ⟨rfl, hb⟩; have HB2 := Lib.hid hb; have H2 := Lib.hid (H1.out.below hb (by rw [size_alloc]; omega)); clear hb)
      have c0 := H2.out.cell (i := 0)
      have c1 := H2.out.cell (i := 1)
      have c2 := H2.out.cell (i := 2)
      simp only [List.getElem?_toArray, List.getElem?_cons_zero, List.getElem?_cons_succ] at c0 c1 c2
      have hl2 : w.heap.size < w2.heap.size := H2.out.lt
      go_region_with (go_at_call 26; refine (HN.out _).mono ?_; rintro e w3 ⟨rfl, hcw, hz3, hb3⟩; have hq := (bcell hb3).1; have q0 : w3.cell? ⟨w.heap.size, 0, none⟩ = some (.int .i64 m) := (hq _ _ hl2).trans c0; have q1 : w3.cell? ⟨w.heap.size, 1, none⟩ = some (.int .i64 x) := (hq _ _ hl2).trans c1; have q2 : w3.cell? ⟨w.heap.size, 2, none⟩ = some (.int .i64 y) := (hq _ _ hl2).trans c2; have hcw2 : w3.cell? ⟨w2.heap.size, m, none⟩ = some (.string W) := hcw; have HB3 : Hid (Below w2.heap.size w2 w3) := Lib.hid ((below_drew (Below.refl w2.heap.size w2)).trans (hb3.mono (Nat.le_refl _))); clear hb3 hq hcw hz3)
      all_goals
        go_wp2_with (first
        | (go_at_call 27; refine (HM.out _).mono ?_; rintro e w' ⟨rfl, rfl⟩)
        | (go_at_call 22; refine (HA.out _).mono ?_; rintro e w4 ⟨rfl, hb4⟩; have q4 : w4.cell? ⟨w.heap.size, 0, none⟩ = some (.int .i64 m) := ((bcell hb4).1 _ _ (by have := HB3.out.size; omega)).trans q0; have HB4 := Lib.hid hb4; clear hb4))
        go_ret
        exact ⟨rfl, ((B1.out.trans (HB2.out.mono (by rw [size_alloc]; omega))).trans (HB3.out.mono (Nat.le_of_lt hl2))).trans (HB4.out.mono (by have := HB3.out.size; omega))⟩
    · rw [d2]
      clear d0 d1 d2
      go_enter Tryd.func11, Tryd.ntmps11
      go_wp2_with (go_at_call 25; refine (HV.out _).mono ?_; rintro e w2 ⟨rfl, hb⟩; have HB2 := Lib.hid hb; have H2 := Lib.hid (H1.out.below hb (by rw [size_alloc]; omega)); clear hb)
      have c0 := H2.out.cell (i := 0)
      have c1 := H2.out.cell (i := 1)
      have c2 := H2.out.cell (i := 2)
      simp only [List.getElem?_toArray, List.getElem?_cons_zero, List.getElem?_cons_succ] at c0 c1 c2
      have hl2 : w.heap.size < w2.heap.size := H2.out.lt
      go_region_with (go_at_call 26; refine (HN.out _).mono ?_; rintro e w3 ⟨rfl, hcw, hz3, hb3⟩; have hq := (bcell hb3).1; have q0 : w3.cell? ⟨w.heap.size, 0, none⟩ = some (.int .i64 m) := (hq _ _ hl2).trans c0; have q1 : w3.cell? ⟨w.heap.size, 1, none⟩ = some (.int .i64 x) := (hq _ _ hl2).trans c1; have q2 : w3.cell? ⟨w.heap.size, 2, none⟩ = some (.int .i64 y) := (hq _ _ hl2).trans c2; have hcw2 : w3.cell? ⟨w2.heap.size, m, none⟩ = some (.string W) := hcw; have HB3 : Hid (Below w2.heap.size w2 w3) := Lib.hid ((below_drew (Below.refl w2.heap.size w2)).trans (hb3.mono (Nat.le_refl _))); clear hb3 hq hcw hz3)
      all_goals
        go_wp2_with (first
        | (go_at_call 27; refine (HM.out _).mono ?_; rintro e w' ⟨rfl, rfl⟩)
        | (go_at_call_of 22 x; refine (HA.out w3).mono ?_; rintro e w4 ⟨rfl, hb4⟩; have q4 : w4.cell? ⟨w.heap.size, 0, none⟩ = some (.int .i64 m) := ((bcell hb4).1 _ _ (by have := HB3.out.size; omega)).trans q0; have q5 : w4.cell? ⟨w.heap.size, 2, none⟩ = some (.int .i64 y) := ((bcell hb4).1 _ _ (by have := HB3.out.size; omega)).trans q2; have HB4 := Lib.hid hb4; clear hb4)
        | (go_at_call_of 22 y; refine (HB.out w4).mono ?_; rintro e w5 ⟨rfl, hb5⟩; have HB5 := Lib.hid hb5; clear hb5))
        go_ret
        exact ⟨rfl, (((B1.out.trans (HB2.out.mono (by rw [size_alloc]; omega))).trans (HB3.out.mono (Nat.le_of_lt hl2))).trans (HB4.out.mono (by have := HB3.out.size; omega))).trans (HB5.out.mono (by have := HB3.out.size; have := HB4.out.size; omega))⟩
end Go.Proofs.YtfjfiljgbkhblaaDoor
