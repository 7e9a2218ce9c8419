/- Marks of texts in laws. -/
import Derived.Test.YtigjdcfdgifonaaRows
import Derived.Test.YtigjdcfdgifonaaSs
import Derived.Lib.ItoaNum
namespace Go.Proofs.Ytigjdcfdgifonaa
open Go.ChangeShapes Go.WideShapes Go.ChangeAt Go.RowKit

def dec (n : Nat) : ByteArray := ⟨(Lib.decDigits n).toArray⟩
theorem nDigits_le : ∀ n : Nat, n < 10000000 → Lib.nDigits n ≤ 7 := fun n h => by
  rw [Lib.nDigits]; split
  · omega
  rw [Lib.nDigits]; split
  · omega
  rw [Lib.nDigits]; split
  · omega
  rw [Lib.nDigits]; split
  · omega
  rw [Lib.nDigits]; split
  · omega
  rw [Lib.nDigits]; split
  · omega
  rw [Lib.nDigits, dif_pos (by omega)]
  decide
theorem dec_size {n : Nat} (h : n < 10000000) : (dec n).size ≤ 7 := by
  have : (dec n).size = (Lib.decDigits n).length := by simp [dec, ByteArray.size]
  rw [this, Lib.decDigits_length]
  exact nDigits_le n h
theorem dec_one {n : Nat} (h : n < 10) : dec n = strOfNums [48 + (n : Int)] := by
  rw [dec, Lib.decDigits_one h]
  unfold strOfNums
  simp only [List.map_cons, List.map_nil]
  rw [show (48 + (n : Int)).toNat = 48 + n by omega]
theorem dec_more {n : Nat} (h : ¬ n < 10) : dec n = dec (n / 10) ++ strOfNums [48 + ((n % 10 : Nat) : Int)] := by
  rw [dec, Lib.decDigits, dif_neg h, dec]
  unfold strOfNums
  simp only [List.map_cons, List.map_nil]
  rw [show (48 + ((n % 10 : Nat) : Int)).toNat = 48 + n % 10 by omega]
  exact (ByteArray.mk_append_mk _ _).symm
theorem run_conv1 (W : World) (b : Nat) (v : Int) (h : W.cell? ⟨b, 0, none⟩ = some (.int .u8 v)) : (convert 52 9 (.slice (some ⟨b, 0, none⟩) 1 1)).run Try.prog W = .ok (.string (strOfNums [v])) W :=
  run_convert_bytes_arg (P := Try.prog) W 52 5 Try.underlying52 Try.underlying5 b 0 1 1 [v] rfl (fun i hi => by
    obtain rfl : i = 0 := by omega
    exact h) 9 Try.underlying9

theorem ba_assoc (a b c : ByteArray) : a ++ b ++ c = a ++ (b ++ c) := ByteArray.append_assoc
def markT (k : Nat) : ByteArray := ⟨#[109]⟩ ++ dec k
section
attribute [local go_sem] run_conv1
set_option maxRecDepth 20000 in
set_option maxHeartbeats 800000 in
theorem markText_any (k : Nat) (h0 : 0 < k) (h1 : k < 10000000) (w : World) : Calls Try.prog 51 #[.int .i64 k] w fun e w' => e = .returned (.string (markT k)) ∧ Below w.heap.size w w' := by
  have hsz := dec_size h1
  have HK := Lib.hid h1
  have hk0 : ¬ (k : Int) ≤ 0 := by omega
  go_enter Try.func51, Try.ntmps51
  go_wp2
  go_loopw [0, 3] (fun x out wr => ∃ (j : Nat) (o : ByteArray), j ≤ k ∧ x = .int .i64 j ∧ out = .string o ∧ o.size ≤ 7 ∧ Hid ((0 < j ∧ dec j ++ o = dec k) ∨ (j = 0 ∧ o = dec k)) ∧ Below w.heap.size w wr) (fun x _ _ => (intOf x).toNat)
  case atStart => exact ⟨k, ⟨#[]⟩, Nat.le_refl _, rfl, rfl, by show (0 : Nat) ≤ 7; omega, Lib.hid (.inl ⟨h0, ByteArray.append_empty⟩), Below.refl _ _⟩
  case round =>
    obtain ⟨j, o, hj, rfl, rfl, hos, hv, hb⟩ := hrel
    by_cases hlt : 0 < j
    · have e1 : dec j ++ o = dec k := by
        rcases hv.out with h | h
        · exact h.2
        · omega
      have hnew : Hid ((0 < j / 10 ∧ dec (j / 10) ++ (strOfNums [48 + ((j : Int) % 10)] ++ o) = dec k) ∨ (j / 10 = 0 ∧ strOfNums [48 + ((j : Int) % 10)] ++ o = dec k)) := Lib.hid (by
        by_cases h10 : j < 10
        · refine .inr ⟨by omega, ?_⟩
          rw [← e1, dec_one h10, show (j : Int) % 10 = j by omega]
        · refine .inl ⟨by omega, ?_⟩
          rw [← e1, dec_more h10, show ((j % 10 : Nat) : Int) = (j : Int) % 10 by omega, ba_assoc])
      have hos2 : (strOfNums [48 + ((j : Int) % 10)] ++ o).size ≤ 7 := by
        have := hnew.out
        have hd := hsz
        rcases this with ⟨_, e⟩ | ⟨_, e⟩
        · rw [← e, ByteArray.size_append] at hd; omega
        · rw [← e] at hd; exact hd
      have hlz : ¬ 9223372036854775807 < (strOfNums [48 + (j : Int) % 10]).size + o.size := by rw [strOfNums_size]; simp; omega
      have hlt' : 0 < (j : Int) := by omega
      clear e1 hv
      go_wp2
      exact ⟨⟨j / 10, _, by omega, by go_num, rfl, hos2, hnew, hb.alloc hb.size _⟩, by simp [intOf]; omega⟩
    · obtain rfl : j = 0 := by omega
      have e1 : o = dec k := by
        rcases hv.out with h | h
        · omega
        · exact h.2
      have hlz : ¬ 9223372036854775807 < 1 + o.size := by omega
      clear hv
      go_wp2
      go_ret
      refine ⟨?_, hb⟩
      rw [markT, ← e1]
      rfl
end

/-- the first j marks from k on, then what was there -/
def marksT (k j : Nat) : List Value := (List.range j).map fun i => Value.string (markT (k + i))
theorem marksT_length (k j : Nat) : (marksT k j).length = j := by simp [marksT]
theorem marksT_at {k j i : Nat} (h : i < j) : (marksT k j)[i]? = some (.string (markT (k + i))) := by rw [marksT, List.getElem?_map, List.getElem?_range h]; rfl
theorem marksT_step {k j : Nat} {xs : List Value} (h : j < xs.length) : (marksT k j ++ xs.drop j).set j (.string (markT (k + j))) = marksT k (j + 1) ++ xs.drop (j + 1) := by
  rw [List.set_append_right _ _ (by rw [marksT_length]; omega), marksT_length, Nat.sub_self, List.drop_eq_getElem_cons h, List.set_cons_zero, marksT, marksT, List.range_succ, List.map_append, List.append_assoc]
  rfl
set_option maxHeartbeats 800000 in
theorem markStringS_any (lo hi : Nat) (A : Option Addr) (n c : Nat) (xs : List Value) (k : Nat) (h0 : 0 < k) (h1 : k + n < 10000000) (w : World) (hhi : hi ≤ w.heap.size) (hO : Own w lo hi 9 1 A n c xs) :
    Calls Try.prog 20 #[.slice A n c, .int .i64 k] w fun e w' => e = .returned (.int .i64 ((k + n : Nat) : Int)) ∧ Own w' lo hi 9 1 A n c (marksT k n) ∧ w.grownBy w' (A.map (·.block)) := by
  have hxl : xs.length = n := by have := hO.1; omega
  have o0 : Own w lo hi 9 1 A n c (marksT k 0 ++ xs.drop 0) := hO
  have HO0 := Lib.hid o0
  clear o0 hO
  go_enter Try.func20, Try.ntmps20
  go_wp2_with fail
  go_loopw [1, 5] (fun q i wr => ∃ j : Nat, j ≤ n ∧ q = .int .i64 ((k + j : Nat) : Int) ∧ i = .int .i64 j ∧ Own wr lo hi 9 1 A n c (marksT k j ++ xs.drop j) ∧ w.grownBy wr (A.map (·.block))) (fun _ i _ => n - (intOf i).toNat)
  case atStart => exact ⟨0, by omega, rfl, rfl, HO0.out, World.grownBy.refl _ _⟩
  case round =>
    clear HO0
    obtain ⟨j, hj, rfl, rfl, hO, hg⟩ := hrel
    by_cases hlt : j < n
    · obtain ⟨g, cur, rfl, hg1, hg2, _, _, _, _, _⟩ := hO.at_ (by omega)
      have hm := fun W => markText_any (k + j) (by omega) (by omega) W
      have HM := Lib.hid hm
      have hst := marksT_step (k := k) (j := j) (xs := xs) (by omega)
      have HST := Lib.hid hst
      have HO := Lib.hid hO
      have HG := Lib.hid hg
      have hlt' : (j : Int) < n := by omega
      have HLT := Lib.hid hlt
      have hgz := hg.size
      clear hm hst hO hg
      go_wp2_with (go_at_call 51; refine (HM.out _).mono ?_; rintro e w2 ⟨rfl, hb2⟩; have HO2 := Lib.hid (HO.out.below hb2 (by omega)); have HB2 := Lib.hid hb2; have hcc := (HO2.out.cell_ HLT.out); obtain ⟨⟨u2, c2⟩, f2⟩ := hcc; clear hb2)
      refine ⟨⟨j + 1, by omega, by go_num, by go_num, ?_, ?_⟩, by simp [intOf]; omega⟩
      · rw [← HST.out]; exact HO2.out.setCell _ _
      · refine only_setCell (g := g) (p := ⟨g, j, none⟩) (HG.out.trans ⟨HB2.out.os, HB2.out.tape, HB2.out.output, HB2.out.size, fun b hb' _ => HB2.out.block b hb'⟩) rfl _
    · obtain rfl : j = n := by omega
      rw [List.drop_of_length_le (by omega), List.append_nil] at hO
      have HO := Lib.hid hO
      clear hO
      go_wp2
      go_ret
      exact ⟨rfl, HO.out, hg⟩
end Go.Proofs.Ytigjdcfdgifonaa
