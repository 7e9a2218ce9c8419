/- The number with a text: what the reference reads. -/
import Derived.Test.YtfjfiljgbkhblaaDoorRows
import Derived.Test.YtfjfiljgbkhblaaDoorNw
namespace Go.Proofs.YtfjfiljgbkhblaaDoor
open Go.ChangeShapes Go.WideShapes Go.ChangeAt Go.RowKit

theorem sign_at (s : ByteArray) : signOf s.data.toList = true ↔ 0 < s.size ∧ bAt s 0 = 45 := by
  have hz := Lib.size_eq s
  unfold signOf
  rw [beq_iff_eq]
  constructor
  · intro h
    have h0 : 0 < s.size := by
      cases e : s.data.toList with
      | nil => rw [e] at h; cases h
      | cons x r => rw [hz, e]; simp
    refine ⟨h0, (bAt_eq h0 45).2 ?_⟩
    rw [← List.head?_eq_getElem?]; exact h
  · rintro ⟨h0, h⟩
    rw [List.head?_eq_getElem?]
    exact (bAt_eq h0 45).1 h
def tailOf (s : ByteArray) : ByteArray := if signOf s.data.toList then s.extract 1 s.size else s
theorem tailOf_data (s : ByteArray) : (tailOf s).data.toList = bodyOf s.data.toList := by
  unfold tailOf bodyOf
  split
  · rw [Lib.extract_data, ← List.drop_one, List.take_of_length_le]
    rw [List.length_drop, Lib.size_eq]; omega
  · rfl
theorem tailOf_size (s : ByteArray) : (tailOf s).size ≤ s.size := by
  unfold tailOf
  split
  · rw [ByteArray.size_extract]; omega
  · exact Nat.le_refl _
theorem getD_data (P : List ByteArray) (k : Nat) : (P.getD k ⟨#[]⟩).data.toList = (P.map (·.data.toList)).getD k [] := by
  rw [List.getD_eq_getElem?_getD, List.getD_eq_getElem?_getD, List.getElem?_map]
  cases P[k]? <;> rfl
theorem parts_total (s : ByteArray) (c : UInt8) : (partsOf s c.toNat).length = (pcs c s.data.toList).length := by rw [← parts_pcs, List.length_map]
theorem cut_le (c : UInt8) : ∀ l : List UInt8, (Lib.cut l [c]).1.length ≤ l.length ∧ (Lib.cut l [c]).2.1.length ≤ l.length
  | [] => by rw [cut_nil]; simp
  | x :: r => by
    have ih := cut_le c r
    by_cases h : x = c
    · subst h; rw [cut_same]; simp
    · rw [cut_other h]; simp only [List.length_cons]; omega
theorem pcs_le (c : UInt8) : ∀ l : List UInt8, (pcs c l).length ≤ l.length + 1
  | [] => Nat.le_refl _
  | x :: r => by
    have ih := pcs_le c r
    by_cases h : x = c
    · rw [pcs, if_pos h]; simp only [List.length_cons]; omega
    · rw [pcs, if_neg h]; simp only [List.length_cons, List.length_tail]; omega
/-- the number before the slash, -1 where there is none -/
def sixI (a : List UInt8) : Int := match sixV a with | some m => (m : Int) | none => -1
theorem num_out (l : List UInt8) (n : Nat) (p1 : ByteArray) (hn : n = (pcs 47 (bodyOf l)).length) (hp : p1.data.toList = (pcs 47 (bodyOf l)).getD 1 []) :
    outB (signOf l) (sixI (Lib.cut (bodyOf l) [47]).1) n p1 = numB l ∧ (!(badW (sixI (Lib.cut (bodyOf l) [47]).1) n p1)) = (numV l).isSome := by
  have hc := pcs_cut 47 (bodyOf l)
  have hnot := cut_not 47 (Lib.cut (bodyOf l) [47]).2.1
  have hc2 := pcs_cut 47 (Lib.cut (bodyOf l) [47]).2.1
  have hsl := @powEx_slash (Lib.cut (bodyOf l) [47]).2.1
  unfold numB numV sixI
  cases h6 : sixV (Lib.cut (bodyOf l) [47]).1 with
  | none =>
    have hb : badW (-1) n p1 = true := by simp [badW]
    simp only [outB, hb]
    exact ⟨rfl, rfl⟩
  | some m =>
    have m0 : ¬ (m : Int) < 0 := by omega
    cases hf : (Lib.cut (bodyOf l) [47]).2.2 with
    | false =>
      rw [hf] at hc
      rw [hc] at hn
      have hn1 : n = 1 := by rw [hn]; rfl
      subst hn1
      have hb : badW (m : Int) 1 p1 = false := by simp [badW, byW]
      simp only [outB, hb]
      exact ⟨rfl, rfl⟩
    | true =>
      rw [hf, if_pos rfl] at hc
      rw [hc] at hn hp
      cases hb : (Lib.cut (bodyOf l) [47]).2.1.contains 47 with
      | true =>
        rw [hb] at hnot
        rw [hnot, if_pos rfl] at hc2
        have hn3 : 2 < n := by
          rw [hn, hc2, List.length_cons, List.length_cons, pcs_cons, List.length_cons]; omega
        have hbad : badW (m : Int) n p1 = true := by simp [badW, hn3]
        have h0 := hsl hb
        simp only [outB, hbad, h0]
        exact ⟨rfl, rfl⟩
      | false =>
        have hpb := pcs_none hb
        rw [hpb] at hn hp
        have hn2 : n = 2 := by rw [hn]; rfl
        have hp1 : p1.data.toList = (Lib.cut (bodyOf l) [47]).2.1 := by rw [hp]; rfl
        subst hn2
        rw [← hp1] at *
        by_cases h0 : powEx p1.data.toList 10 = 0
        · have hbad : badW (m : Int) 2 p1 = true := by simp [badW, byW, h0]
          simp only [outB, hbad, h0]
          exact ⟨rfl, rfl⟩
        · have hpos : ¬ ((2 ^ powEx p1.data.toList 10 : Nat) : Int) = 0 := by have := Nat.two_pow_pos (powEx p1.data.toList 10); omega
          have hbad : badW (m : Int) 2 p1 = false := by
            have hw : byW 2 p1 = ((2 ^ powEx p1.data.toList 10 : Nat) : Int) := by rw [byW, if_pos rfl, if_neg h0]
            simp only [badW, hw, Bool.or_eq_false_iff, decide_eq_false_iff_not]
            omega
          simp only [outB, hbad, if_neg h0]
          exact ⟨rfl, rfl⟩
theorem l08Number_any (s : ByteArray) (hs : s.size ≤ 1048576) (w : World) :
    Calls Tryd.prog 35 #[.string s] w fun e w' => e = .returned (.tuple #[.float .f32 (numB s.data.toList), .bool (numV s.data.toList).isSome]) ∧ Below w.heap.size w w' := by
  have ht : (tailOf s).size ≤ 1048576 := by have := tailOf_size s; omega
  have hP := parts_pcs (tailOf s) 47
  have hL := parts_total (tailOf s) 47
  rw [tailOf_data] at hP hL
  have hP0 : ((partsOf (tailOf s) 47).getD 0 ⟨#[]⟩).data.toList = (Lib.cut (bodyOf s.data.toList) [47]).1 := by
    rw [getD_data]
    show (List.map (fun x => x.data.toList) (partsOf (tailOf s) (47 : UInt8).toNat)).getD 0 [] = _
    rw [hP, pcs_cut]; rfl
  have hP1 : ((partsOf (tailOf s) 47).getD 1 ⟨#[]⟩).data.toList = (pcs 47 (bodyOf s.data.toList)).getD 1 [] := by
    rw [getD_data]
    show (List.map (fun x => x.data.toList) (partsOf (tailOf s) (47 : UInt8).toNat)).getD 1 [] = _
    rw [hP]
  have hlen : (bodyOf s.data.toList).length ≤ 1048576 := by rw [← tailOf_data, ← Lib.size_eq]; exact ht
  obtain ⟨o1, o2⟩ := num_out s.data.toList (partsOf (tailOf s) 47).length _ hL hP1
  rw [← o1, ← o2]
  have hp0z : ((partsOf (tailOf s) 47).getD 0 ⟨#[]⟩).size = (Lib.cut (bodyOf s.data.toList) [47]).1.length := by rw [Lib.size_eq, hP0]
  refine l08Number_core s (tailOf s) (signOf s.data.toList) ?_ hs _ ((partsOf (tailOf s) 47).getD 0 ⟨#[]⟩) _ _ ?_ ?_ ?_ ?_ ?_ (fun W => splits_any (tailOf s) ht W) w
  · by_cases h : signOf s.data.toList = true
    · obtain ⟨h1, h2⟩ := (sign_at s).1 h
      exact .inl ⟨h, h1, h2, by rw [tailOf, if_pos h]⟩
    · refine .inr ⟨by simpa using h, by rw [tailOf, if_neg h], ?_⟩
      by_cases hz : s.size = 0
      · exact .inl hz
      · exact .inr ⟨by omega, fun e => h ((sign_at s).2 ⟨by omega, e⟩)⟩
  · exact parts_pos (tailOf s) 47
  · have := pcs_le 47 (bodyOf s.data.toList)
    have hL' : (partsOf (tailOf s) 47).length = _ := hL
    rw [hL']; omega
  · unfold sixI
    cases h : sixV (Lib.cut (bodyOf s.data.toList) [47]).1 with
    | none => simp
    | some m => have := sixV_lt h; simp only; omega
  · intro h6 W
    have := l01Small_any ((partsOf (tailOf s) 47).getD 0 ⟨#[]⟩) (by omega) W
    rw [six_small h6, hP0] at this
    exact this
  · intro h6
    have := six_none h6
    rw [hP0] at this
    rw [sixI, this]
theorem sReadNumber_any (s : ByteArray) (hs : s.size ≤ 1048576) (w : World) :
    Calls Tryd.prog 17 #[.string s] w fun e w' => e = .returned (.tuple #[.float .f32 (numB s.data.toList), .int .i64 (numC s.data.toList)]) ∧ Below w.heap.size w w' := by
  have h := l08Number_any s hs w
  have hb : numV s.data.toList = none → numB s.data.toList = 0 := fun h => by rw [numB, h]
  have hc : numC s.data.toList = if (numV s.data.toList).isSome then 0 else 5 := by unfold numC; cases numV s.data.toList <;> rfl
  have HB : Hid ((numV s.data.toList).isSome = false → numB s.data.toList = 0) := Lib.hid fun h => hb (by simpa using h)
  clear hb
  generalize numB s.data.toList = B at *
  generalize numC s.data.toList = C at *
  generalize (numV s.data.toList).isSome = ok at *
  have H := Lib.hid h
  clear h
  cases ok
  · obtain rfl := HB.out rfl
    obtain rfl := hc
    go_enter Tryd.func17, Tryd.ntmps17
    go_wp2_with (go_at_call 35; refine H.out.mono ?_; rintro e w2 ⟨rfl, hb⟩; have HBW := Lib.hid hb; clear hb)
    go_ret2
    exact ⟨rfl, HBW.out⟩
  · obtain rfl := hc
    go_enter Tryd.func17, Tryd.ntmps17
    go_wp2_with (go_at_call 35; refine H.out.mono ?_; rintro e w2 ⟨rfl, hb⟩; have HBW := Lib.hid hb; clear hb)
    go_ret2
    exact ⟨rfl, HBW.out⟩
end Go.Proofs.YtfjfiljgbkhblaaDoor
