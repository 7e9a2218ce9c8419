/- The number with a text: the law's walk. -/
import Derived.Test.YtfjfiljgbkhblaaDoorRows
import Derived.Test.YtfjfiljgbkhblaaDoorNy
import Derived.Test.YtfjfiljgbkhblaaDoorSe
import Derived.Laws.FloatArith
namespace Go.Proofs.YtfjfiljgbkhblaaDoor
open Go.ChangeShapes Go.WideShapes Go.ChangeAt Go.RowKit

theorem iReadNumber_any (s : ByteArray) (hs : s.size ≤ 1048576) (mx : Int) (w : World) (hm : w.cell? ⟨3, 0, none⟩ = some (.int .i64 mx)) (ht : Tab w) :
    Calls Tryd.prog 18 #[.string s] w fun e w' => e = .returned (.tuple #[.float .f32 (numB s.data.toList), .int .i64 (numC s.data.toList)]) ∧ Below w.heap.size w w' := by
  obtain ⟨l, hl⟩ : ∃ l, l = s.data.toList := ⟨_, rfl⟩
  have hz := Lib.size_eq s
  rw [← hl] at hz ⊢
  obtain ⟨k1, k2, k3⟩ := cut_sign l
  have hle := cut_le 47 (bodyOf l)
  have hbl : (bodyOf l).length ≤ l.length := by unfold bodyOf; split <;> simp
  have hV : numV l = match sixV (Lib.cut (bodyOf l) [47]).1 with
    | none => none
    | some m =>
      if (Lib.cut (bodyOf l) [47]).2.2 then
        (if powEx (Lib.cut (bodyOf l) [47]).2.1 10 = 0 then none else some (if signOf l then -(m : Int) else m, powEx (Lib.cut (bodyOf l) [47]).2.1 10))
      else some (if signOf l then -(m : Int) else m, 0) := rfl
  have hcut := fun (W : World) (h : W.cell? ⟨3, 0, none⟩ = some (.int .i64 mx)) => Tryd.strings_Cut s { data := #[47] } mx W (by omega) h
  have hpre := fun (W : World) => Tryd.strings_CutPrefix ⟨(Lib.cut l [47]).1.toArray⟩ { data := #[45] } W
  have e45 : ({ data := #[45] } : ByteArray).data.toList = [45] := rfl
  have e47 : ({ data := #[47] } : ByteArray).data.toList = [47] := rfl
  rw [e47, ← hl, k3] at hcut
  rw [e45] at hpre
  simp only at hpre
  rw [k1, k2] at hpre
  have hB : numB l = match numV l with | some (n, k) => qv n k | none => 0 := rfl
  have hC : numC l = match numV l with | some _ => 0 | none => 5 := rfl
  obtain ⟨d, hd⟩ : ∃ d, d = (Lib.cut (bodyOf l) [47]).1 := ⟨_, rfl⟩
  obtain ⟨p, hp⟩ : ∃ p, p = (Lib.cut (bodyOf l) [47]).2.1 := ⟨_, rfl⟩
  obtain ⟨F, hF⟩ : ∃ F, F = (Lib.cut (bodyOf l) [47]).2.2 := ⟨_, rfl⟩
  rw [← hd, ← hp, ← hF] at hV
  rw [← hd, ← hp] at hle
  rw [← hp, ← hF] at hcut
  rw [← hd] at hpre
  refine iReadNumber_core s _ ⟨d.toArray⟩ ⟨p.toArray⟩ F (signOf l) (sixI d) (numB l) (numC l) (sixV d).isSome mx ?_ hcut hpre rfl ?_ ?_ ?_ ?_ ?_ w hm ht
  · rw [str_size]; omega
  · intro h
    cases e : sixV d with
    | none => rw [e] at h; cases h
    | some m =>
      have hm6 := sixV_lt e
      obtain ⟨dn, d6⟩ := six_dn e
      have e1 : sixI d = (m : Int) := by rw [sixI, e]
      rw [e1]
      exact ⟨by omega, by omega, fun W => Tryd.strconv_Atoi ⟨d.toArray⟩ m (by rw [str_size]; omega) (atoi_of dn) W⟩
  · intro h
    have e : sixV d = none := by simpa using h
    rw [e] at hV
    rw [hB, hC, hV]
    exact ⟨rfl, rfl⟩
  · intro h hFf
    cases e : sixV d with
    | none => rw [e] at h; cases h
    | some m =>
      have hm6 := sixV_lt e
      have e1 : sixI d = (m : Int) := by rw [sixI, e]
      rw [e, hFf] at hV
      simp only [Bool.false_eq_true, if_false] at hV
      rw [e1, hB, hC, hV]
      exact ⟨qv_one (by split <;> omega), rfl⟩
  · intro h hFt q q1 q10 hP
    cases e : sixV d with
    | none => rw [e] at h; cases h
    | some m =>
      have e1 : sixI d = (m : Int) := by rw [sixI, e]
      have hp1 : p = Lib.decDigits (2 ^ q) := (dec_eq ⟨p.toArray⟩ _).1 hP
      have hpx := powEx_of q1 hp1 10 q10 (Nat.le_refl _)
      rw [e, hFt] at hV
      simp only [if_true] at hV
      rw [hpx, if_neg (by omega)] at hV
      rw [e1, hB, hC, hV]
      exact ⟨rfl, rfl⟩
  · intro h hFt hno
    cases e : sixV d with
    | none => rw [e] at h; cases h
    | some m =>
      have hpx : powEx p 10 = 0 := powEx_none 10 fun j j1 j10 hj => hno j j1 j10 ((dec_eq ⟨p.toArray⟩ _).2 hj)
      rw [e, hFt] at hV
      simp only [if_true] at hV
      rw [if_pos hpx] at hV
      rw [hB, hC, hV]
      exact ⟨rfl, rfl⟩
/-- what is told is a number -/
theorem num_nan (l : List UInt8) : (FloatKind.decode .f32 (numB l)).isNaN = false := by
  unfold numB
  cases h : numV l with
  | none => decide +kernel
  | some p =>
    obtain ⟨n, k⟩ := p
    obtain ⟨h1, h2⟩ := numV_range h
    have hm := (qv_form h1 h2).2
    show (FloatKind.decode .f32 (qv n k)).isNaN = false
    cases e : FloatKind.decode .f32 (qv n k) with
    | nan s f =>
      have hm' : ((FloatKind.decode .f32 (qv n k)).product (FloatKind.decode .f32 (floatOfInt .f32 ((2 ^ k : Nat) : Int)))).map Ieee.single.write = some (floatOfInt .f32 n) := hm
      rw [e] at hm'
      cases hm'
    | infinity s => rfl
    | number s m i => rfl
theorem widen_some {x : Nat} (h : (FloatKind.decode .f32 x).isNaN = false) : ∃ r, floatToFloatBits .f32 x .f64 = some r ∧ alike r r := by
  unfold floatToFloatBits
  rw [if_neg (by decide)]
  cases e : FloatKind.decode .f32 x with
  | nan s f => rw [e] at h; cases h
  | infinity s => exact ⟨_, rfl, .inl ⟨rfl, inf_nan s⟩⟩
  | number s m i =>
    obtain ⟨h1, h2, h3⟩ := f32_read e
    obtain ⟨r, hr, he⟩ := widen_rung (s := s) h1 h2 h3
    obtain ⟨g1, g2⟩ := f64_word_fin s hr
    refine ⟨FloatKind.encode .f64 (.number s m i), ?_, .inl ⟨rfl, ?_⟩⟩
    · simp only
      rw [he, if_neg (by rw [g1]; decide)]
    · rw [he]; exact g2
set_option maxRecDepth 20000 in
set_option maxHeartbeats 3200000 in
theorem lawReadNumber_any (s : ByteArray) (mx : Int) (w : World) (hm : w.cell? ⟨3, 0, none⟩ = some (.int .i64 mx)) (ht : Tab w) :
    Calls Tryd.prog 6 #[.string s] w fun e w' => e = .returned (.bool true) ∧ Below w.heap.size w w' := by
  by_cases hs : s.size ≤ 1048576
  · have hs' : ¬ (1048576 : Int) < s.size := by omega
    have hS := Lib.hid (sReadNumber_any s hs w)
    have hltM : 3 < w.heap.size := World.block_lt_of_cell? _ _ hm
    have hI := Lib.hid (fun (W : World) (hb : Below w.heap.size w W) => iReadNumber_any s hs mx W (by rw [(bcell hb).1 _ 0 hltM]; exact hm) (ht.below hb ht.lt))
    obtain ⟨r, hr, ha⟩ := widen_some (num_nan s.data.toList)
    generalize numB s.data.toList = B at *
    generalize numC s.data.toList = C at *
    have hcv : ∀ W, (convert 37 41 (.float .f32 B)).run Tryd.prog W = .ok (.float .f64 r) W := fun W => run_convert_float_float W _ _ .f32 .f64 B r (by kernel_rfl) Tryd.underlying41 hr
    have hSF := Lib.hid (fun W => sameFloat_alike r r ha W)
    clear hr ha hm ht
    go_enter Tryd.func6, Tryd.ntmps6
    go_wp2_with (first
      | (go_at_call 17; refine hS.out.mono ?_; rintro e w2 ⟨rfl, hb⟩; have HB := Lib.hid hb; clear hb)
      | (go_at_call 18; refine (hI.out _ HB.out).mono ?_; rintro e w3 ⟨rfl, hb⟩; have HB3 := Lib.hid (HB.out.trans (hb.mono HB.out.size)); clear hb)
      | (go_at_call 19; refine (hSF.out _).mono ?_; rintro e w4 ⟨rfl, rfl⟩))
    go_ret
    exact ⟨rfl, HB3.out⟩
  · have hs' : (1048576 : Int) < s.size := by omega
    clear hm ht
    go_enter Tryd.func6, Tryd.ntmps6
    go_wp2
    go_ret
    exact ⟨rfl, Below.refl _ _⟩
end Go.Proofs.YtfjfiljgbkhblaaDoor
