/- The number with a text: the program's walk. -/
import Derived.Test.YtfjfiljgbkhblaaDoorRows
import Derived.Test.YtfjfiljgbkhblaaDoorNx
import Derived.Test.YtfjfiljgbkhblaaDoorShn
import Derived.Test.YtfjfiljgbkhblaaDoorDu
import Derived.Lib.AtoiErrMem
namespace Go.Proofs.YtfjfiljgbkhblaaDoor
open Go.ChangeShapes Go.WideShapes Go.ChangeAt Go.RowKit

theorem dn_digit {b : UInt8} {r : List UInt8} {m : Nat} (h : Lib.decNat (b :: r) = some m) : 48 ≤ b.toNat ∧ b.toNat ≤ 57 := by
  rw [Lib.decNat] at h
  split at h
  · cases h
  · obtain ⟨d, hd⟩ := Lib.digit_of_decFrom _ _ _ h 0 b rfl
    unfold Lib.digitVal at hd
    split at hd
    · assumption
    · cases hd
theorem atoi_of {a : List UInt8} {m : Nat} (h : Lib.decNat a = some m) : Lib.atoi a = some (m : Int) := by
  cases a with
  | nil => cases h
  | cons b r =>
    have hb := dn_digit h
    have h45 : ¬ (b == 45) = true := fun e => by rw [beq_iff_eq] at e; subst e; exact absurd hb.1 (by decide)
    have h43 : ¬ (b == 43) = true := fun e => by rw [beq_iff_eq] at e; subst e; exact absurd hb.1 (by decide)
    rw [Lib.atoi, if_neg h45, if_neg h43, h]
    rfl
theorem six_dn {a : List UInt8} {m : Nat} (h : sixV a = some m) : Lib.decNat a = some m ∧ a.length ≤ 6 := by
  unfold sixV at h
  split at h
  · exact ⟨h, by assumption⟩
  · cases h
theorem cut_sign (l : List UInt8) : Lib.hasPrefix (Lib.cut l [47]).1 [45] = signOf l ∧ Lib.trimPrefix (Lib.cut l [47]).1 [45] = (Lib.cut (bodyOf l) [47]).1 ∧ (Lib.cut l [47]).2 = (Lib.cut (bodyOf l) [47]).2 := by
  cases l with
  | nil => rw [cut_nil]; exact ⟨rfl, rfl, rfl⟩
  | cons x r =>
    by_cases h : x = 45
    · subst h
      have hb : bodyOf (45 :: r) = r := rfl
      rw [hb, cut_other (by decide)]
      refine ⟨rfl, ?_, rfl⟩
      show Lib.trimPrefix (45 :: (Lib.cut r [47]).1) [45] = _
      rw [Lib.trimPrefix, if_pos (show Lib.hasPrefix (45 :: (Lib.cut r [47]).1) [45] = true from rfl)]; rfl
    · have hs : signOf (x :: r) = false := by
        unfold signOf
        rw [List.head?_cons]
        exact beq_eq_false_iff_ne.2 fun e => h (Option.some.inj e)
      have hb : bodyOf (x :: r) = x :: r := by rw [bodyOf, if_neg (by rw [hs]; decide)]
      have hp : Lib.hasPrefix (Lib.cut (x :: r) [47]).1 [45] = false := by
        by_cases h2 : x = 47
        · subst h2; rw [cut_same]; rfl
        · rw [cut_other h2]
          simp [Lib.hasPrefix, List.isPrefixOf, Ne.symm h]
      rw [hb]
      refine ⟨by rw [hp, hs], ?_, rfl⟩
      rw [Lib.trimPrefix, if_neg (by rw [hp]; decide)]
theorem inRangeI_any (n lo hi : Int) (w : World) : Calls Tryd.prog 54 #[.int .i64 n, .int .i64 lo, .int .i64 hi] w fun e w' => e = .returned (.bool (inB n lo hi)) ∧ w = w' := by
  go_enter Tryd.func54, Tryd.ntmps54
  by_cases h : lo ≤ n
  · go_wp2
    go_ret
    exact ⟨by rw [inB, decide_eq_true h]; simp, rfl⟩
  · go_wp2
    go_ret
    exact ⟨by rw [inB, decide_eq_false (by omega)]; rfl, rfl⟩
theorem six_some {s : ByteArray} {n : Nat} (h : Lib.decFrom 0 (s.data.toList.take s.size) = some n) : inB (s.size : Int) 1 6 = (sixV s.data.toList).isSome := by
  have hz := Lib.size_eq s
  unfold sixV inB
  by_cases h1 : 1 ≤ s.size
  · rw [dig_all h1 h, ← hz, decide_eq_true (show (1 : Int) ≤ s.size by omega), Bool.true_and]
    by_cases h6 : s.size ≤ 6
    · rw [if_pos h6, decide_eq_true (by omega)]; rfl
    · rw [if_neg h6, decide_eq_false (by omega)]; rfl
  · have : s.data.toList = [] := List.eq_nil_of_length_eq_zero (by omega)
    rw [this, decide_eq_false (by omega)]
    rfl
theorem six_no {s : ByteArray} {k : Nat} (hk : k < s.size) (h : bAt s k < 48 ∨ 57 < bAt s k) : (sixV s.data.toList).isSome = false := by
  unfold sixV
  rw [dig_none hk h]
  split <;> rfl
set_option maxRecDepth 20000 in
set_option maxHeartbeats 3200000 in
theorem isDigits_any (s : ByteArray) (hs : s.size ≤ 1048576) (w : World) : Calls Tryd.prog 38 #[.string s, .int .i64 6] w fun e w' => e = .returned (.bool (sixV s.data.toList).isSome) ∧ w = w' := by
  go_enter Tryd.func38, Tryd.ntmps38
  go_wp2
  go_loopw [5, 8] (fun _ i wr => ∃ k n : Nat, k ≤ s.size ∧ i = .int .i64 k ∧ Hid (Lib.decFrom 0 (s.data.toList.take k) = some n) ∧ w = wr) (fun _ i _ => s.size - (intOf i).toNat)
  case atStart => exact ⟨0, 0, by omega, rfl, Lib.hid rfl, rfl⟩
  case round =>
    obtain ⟨k, n, hk, rfl, hd, rfl⟩ := hrel
    by_cases hlt : k < s.size
    · have hr := fun W => run_bAt (w := W) s k hlt
      have hlt' : (k : Int) < s.size := by omega
      have hR := bAt_range s k
      by_cases hx : 48 ≤ bAt s k ∧ bAt s k ≤ 57
      · have hd2 := Lib.hid (dig_step hlt hd.out hx.1 hx.2)
        obtain ⟨x0, x1⟩ := hx
        have y0 : ¬ bAt s k < 48 := by omega
        have y1 : ¬ 57 < bAt s k := by omega
        generalize bAt s k = x at *
        go_wp2
        exact ⟨⟨k + 1, n * 10 + (x - 48).toNat, by omega, by go_num, hd2, by first | rfl | trivial⟩, by simp [intOf]; omega⟩
      · have hv : Hid ((sixV s.data.toList).isSome = false) := Lib.hid (six_no hlt (by omega))
        have hx2 : bAt s k < 48 ∨ 57 < bAt s k := by omega
        clear hx hd
        generalize bAt s k = x at *
        rcases hx2 with h | h
        · go_wp2
          go_ret
          exact ⟨by rw [hv.out]; rfl, rfl⟩
        · have h' : ¬ x < 48 := by omega
          go_wp2
          go_ret
          exact ⟨by rw [hv.out]; rfl, rfl⟩
    · obtain rfl : k = s.size := by omega
      have hv := six_some hd.out
      have HI := Lib.hid (fun W => inRangeI_any (s.size : Int) 1 6 W)
      rw [hv] at HI
      clear hd hv
      go_wp2_with (go_at_call 54; refine (HI.out _).mono ?_; rintro e w' ⟨rfl, rfl⟩)
      go_ret
      exact ⟨rfl, rfl⟩
theorem below_bw (w : World) (n : Nat) (e : TypeId) (t : ByteArray) : Below w.heap.size w (Lib.bytesWorld (w.drewN n) e t) := (below_drewN (Below.refl _ _) n).trans (Lib.bytesWorld_below (w.drewN n) e t)
theorem pow_wrap (q : Nat) (h : q ≤ 9) : wrap64 (((2 ^ (q + 1) : Nat) : Int) * 2) = ((2 ^ (q + 1 + 1) : Nat) : Int) := by
  rcases (by omega : q = 0 ∨ q = 1 ∨ q = 2 ∨ q = 3 ∨ q = 4 ∨ q = 5 ∨ q = 6 ∨ q = 7 ∨ q = 8 ∨ q = 9) with rfl | rfl | rfl | rfl | rfl | rfl | rfl | rfl | rfl | rfl <;> decide +kernel
theorem str_toList (l : List UInt8) : (⟨l.toArray⟩ : ByteArray).data.toList = l := rfl
theorem str_size (l : List UInt8) : (⟨l.toArray⟩ : ByteArray).size = l.length := by simp [ByteArray.size]
set_option maxRecDepth 20000 in
set_option maxHeartbeats 6400000 in
theorem iReadNumber_core (s A D P : ByteArray) (F neg : Bool) (n0 : Int) (B : Nat) (C : Int) (ok : Bool) (mx : Int)
    (hD : D.size ≤ 1048576)
    (hcut : ∀ w : World, w.cell? ⟨3, 0, none⟩ = some (.int .i64 mx) → Calls Tryd.prog 36 #[.string s, .string { data := #[47] }] w fun e w' => e = .returned (.tuple #[.string A, .string P, .bool F]) ∧ ∃ n, w' = w.drewN n)
    (hpre : ∀ w : World, Calls Tryd.prog 37 #[.string A, .string { data := #[45] }] w fun e w' => e = .returned (.tuple #[.string D, .bool neg]) ∧ w' = w)
    (hok : (sixV D.data.toList).isSome = ok)
    (hat : ok = true → 0 ≤ n0 ∧ n0 < 1000000 ∧ ∀ w : World, Calls Tryd.prog 39 #[.string D] w fun e w' => e = .returned (.tuple #[.int .i64 n0, .nilIface]) ∧ ∃ t, w' = Lib.bytesWorld w 5 t)
    (h1 : ok = false → B = 0 ∧ C = 5)
    (h2 : ok = true → F = false → B = floatOfInt .f32 (if neg then -n0 else n0) ∧ C = 0)
    (h3 : ok = true → F = true → ∀ q, 1 ≤ q → q ≤ 10 → P = dec (2 ^ q) → B = qv (if neg then -n0 else n0) q ∧ C = 0)
    (h4 : ok = true → F = true → (∀ q, 1 ≤ q → q ≤ 10 → ¬ P = dec (2 ^ q)) → B = 0 ∧ C = 5)
    (w : World) (hm : w.cell? ⟨3, 0, none⟩ = some (.int .i64 mx)) (ht : Tab w) :
    Calls Tryd.prog 18 #[.string s] w fun e w' => e = .returned (.tuple #[.float .f32 B, .int .i64 C]) ∧ Below w.heap.size w w' := by
  have HC := Lib.hid (hcut w hm)
  have HP := Lib.hid hpre
  have HDG := Lib.hid (fun W => isDigits_any D hD W)
  rw [hok] at HDG
  have HT := Lib.hid ht
  have hlt := ht.lt
  clear hcut hpre hok hm ht
  cases ok
  · obtain ⟨rfl, rfl⟩ := h1 rfl
    clear hat h2 h3 h4
    go_enter Tryd.func18, Tryd.ntmps18
    go_wp2_with (first
      | (go_at_call 36; refine HC.out.mono ?_; rintro e w2 ⟨rfl, nn, rfl⟩)
      | (go_at_call 37; refine (HP.out _).mono ?_; rintro e w3 ⟨rfl, rfl⟩)
      | (go_at_call 38; refine (HDG.out _).mono ?_; rintro e w3 ⟨rfl, rfl⟩))
    go_ret2
    exact ⟨rfl, below_drewN (Below.refl _ _) _⟩
  · obtain ⟨m0, m1, hA⟩ := hat rfl
    have HA := Lib.hid hA
    have hqf : Hid (∀ (N : Int) (k : Nat), N.natAbs < 16777216 → k ≤ 10 → ∀ (W : World) t, (binOp .quo t (.float .f32 (floatOfInt .f32 N)) (.float .f32 (floatOfInt .f32 ((2 ^ k : Nat) : Int)))).run Tryd.prog W = .ok (.float .f32 (qv N k)) W) :=
      Lib.hid (fun N k h1 h2 W t => run_float_arith W .quo t .f32 _ _ _ (qv_form h1 h2).1)
    clear hA h1 hat
    have H2 := h2 rfl
    have H3 := Lib.hid (h3 rfl)
    have H4 := Lib.hid (h4 rfl)
    clear h2 h3 h4
    cases F
    · obtain ⟨hB, rfl⟩ := H2 rfl
      clear H2 H3 H4
      have HB := Lib.hid hB
      clear hB
      cases neg
      all_goals
        have hB := HB.out
        simp only [if_true, Bool.false_eq_true, if_false] at hB
        rw [hB]
        clear HB hB
        go_enter Tryd.func18, Tryd.ntmps18
        go_wp2_with (first
          | (go_at_call 36; refine HC.out.mono ?_; rintro e w2 ⟨rfl, nn, rfl⟩)
          | (go_at_call 37; refine (HP.out _).mono ?_; rintro e w3 ⟨rfl, rfl⟩)
          | (go_at_call 38; refine (HDG.out _).mono ?_; rintro e w3 ⟨rfl, rfl⟩)
          | (go_at_call 39; refine (HA.out _).mono ?_; rintro e w4 ⟨rfl, tt, rfl⟩))
        generalize floatOfInt .f32 _ = Z
        go_ret2
        exact ⟨rfl, below_bw _ _ _ _⟩
    · clear H2
      cases neg
      · have H3n : Hid (∀ q, 1 ≤ q → q ≤ 10 → P = dec (2 ^ q) → B = qv (n0) q ∧ C = 0) := Lib.hid (by have := H3.out rfl; simpa using this)
        have H4n : Hid ((∀ q, 1 ≤ q → q ≤ 10 → ¬ P = dec (2 ^ q)) → B = 0 ∧ C = 5) := Lib.hid (H4.out rfl)
        clear H3 H4
        go_enter Tryd.func18, Tryd.ntmps18
        go_wp2_with (first
          | (go_at_call 36; refine HC.out.mono ?_; rintro e w2 ⟨rfl, nn, rfl⟩)
          | (go_at_call 37; refine (HP.out _).mono ?_; rintro e w3 ⟨rfl, rfl⟩)
          | (go_at_call 38; refine (HDG.out _).mono ?_; rintro e w3 ⟨rfl, rfl⟩)
          | (go_at_call 39; refine (HA.out _).mono ?_; rintro e w4 ⟨rfl, tt, rfl⟩))
        have b4 : Below w.heap.size w (Lib.bytesWorld (w.drewN nn) 5 tt) := below_bw _ _ _ _
        generalize Lib.bytesWorld (w.drewN nn) 5 tt = w4 at *
        have B4 := Lib.hid b4
        clear b4
        go_loopw [11] (fun b wr => ∃ q : Nat, q ≤ 10 ∧ b = .int .i64 ((2 ^ (q + 1) : Nat) : Int) ∧ Hid (∀ j, 1 ≤ j → j ≤ q → ¬ P = dec (2 ^ j)) ∧ Below w.heap.size w wr) (fun b _ => 2048 - (intOf b).toNat)
        case atStart => exact ⟨0, by omega, rfl, Lib.hid (fun j h1 h2 => by omega), B4.out⟩
        case round =>
          obtain ⟨q, hq, rfl, hno, hbr⟩ := hrel
          have HBr := Lib.hid hbr
          clear hbr B4
          by_cases hlt2 : q < 10
          · have hpw := pow_int (q + 1) (by omega)
            have hle : ((2 ^ (q + 1) : Nat) : Int) ≤ 1024 := by omega
            have hge : 2 ≤ ((2 ^ (q + 1) : Nat) : Int) := by have := Nat.pow_le_pow_right (show 0 < 2 by decide) (show 1 ≤ q + 1 by omega); omega
            have hit := Tryd.strconv_Itoa ((2 ^ (q + 1) : Nat) : Int) (by omega) (by omega)
            have hdg : (⟨(Lib.itoa ((2 ^ (q + 1) : Nat) : Int)).toArray⟩ : ByteArray) = dec (2 ^ (q + 1)) := by rw [Lib.itoa, if_neg (by omega)]; rfl
            rw [hdg] at hit
            have HIT := Lib.hid (fun W (h : Tab W) => hit W h)
            have HTr := Lib.hid (HT.out.below HBr.out hlt)
            have hq3 := hqf.out (n0) (q + 1) (by omega) (by omega)
            by_cases hx : P = dec (2 ^ (q + 1))
            · obtain ⟨hB, rfl⟩ := H3n.out (q + 1) (by omega) (by omega) hx
              rw [← hB] at hq3
              generalize dec (2 ^ (q + 1)) = DD at *
              generalize ((2 ^ (q + 1) : Nat) : Int) = B2 at *
              subst hx
              clear hpw hdg hit H3n H4n hB
              go_wp2_with (go_at_call 40; refine (HIT.out _ HTr.out).mono ?_; rintro e w5 ⟨rfl, k5, os5, rfl⟩)
              go_ret2
              exact ⟨rfl, HBr.out.trans ((below_growN _ _ _).mono HBr.out.size)⟩
            · have hxb : (P.toList == (dec (2 ^ (q + 1))).toList) = false := beq_eq_false_iff_ne.2 fun e => hx (ba_inj e)
              have hno2 : Hid (∀ j, 1 ≤ j → j ≤ q + 1 → ¬ P = dec (2 ^ j)) := Lib.hid (fun j h1 h2 => by
                by_cases e : j = q + 1
                · rw [e]; exact hx
                · exact hno.out j h1 (by omega))
              have hpp : Hid (((2 ^ (q + 1) : Nat) : Int) * 2 = ((2 ^ (q + 1 + 1) : Nat) : Int)) := Lib.hid (by have := Nat.pow_succ 2 (q + 1); omega)
              generalize dec (2 ^ (q + 1)) = DD at *
              clear hq3 hpw hdg hit hno hx
              generalize ((2 ^ (q + 1) : Nat) : Int) = B2 at *
              go_wp2_with (go_at_call 40; refine (HIT.out _ HTr.out).mono ?_; rintro e w5 ⟨rfl, k5, os5, rfl⟩)
              exact ⟨⟨q + 1, by omega, by rw [← hpp.out], hno2, HBr.out.trans ((below_growN _ _ _).mono HBr.out.size)⟩, by simp [intOf]; omega⟩
          · obtain rfl : q = 10 := by omega
            obtain ⟨rfl, rfl⟩ := H4n.out hno.out
            clear H3n H4n hno
            go_wp2
            go_ret2
            exact ⟨rfl, HBr.out⟩
      · have H3n : Hid (∀ q, 1 ≤ q → q ≤ 10 → P = dec (2 ^ q) → B = qv (-n0) q ∧ C = 0) := Lib.hid (by have := H3.out rfl; simpa using this)
        have H4n : Hid ((∀ q, 1 ≤ q → q ≤ 10 → ¬ P = dec (2 ^ q)) → B = 0 ∧ C = 5) := Lib.hid (H4.out rfl)
        clear H3 H4
        go_enter Tryd.func18, Tryd.ntmps18
        go_wp2_with (first
          | (go_at_call 36; refine HC.out.mono ?_; rintro e w2 ⟨rfl, nn, rfl⟩)
          | (go_at_call 37; refine (HP.out _).mono ?_; rintro e w3 ⟨rfl, rfl⟩)
          | (go_at_call 38; refine (HDG.out _).mono ?_; rintro e w3 ⟨rfl, rfl⟩)
          | (go_at_call 39; refine (HA.out _).mono ?_; rintro e w4 ⟨rfl, tt, rfl⟩))
        have b4 : Below w.heap.size w (Lib.bytesWorld (w.drewN nn) 5 tt) := below_bw _ _ _ _
        generalize Lib.bytesWorld (w.drewN nn) 5 tt = w4 at *
        have B4 := Lib.hid b4
        clear b4
        go_loopw [11] (fun b wr => ∃ q : Nat, q ≤ 10 ∧ b = .int .i64 ((2 ^ (q + 1) : Nat) : Int) ∧ Hid (∀ j, 1 ≤ j → j ≤ q → ¬ P = dec (2 ^ j)) ∧ Below w.heap.size w wr) (fun b _ => 2048 - (intOf b).toNat)
        case atStart => exact ⟨0, by omega, rfl, Lib.hid (fun j h1 h2 => by omega), B4.out⟩
        case round =>
          obtain ⟨q, hq, rfl, hno, hbr⟩ := hrel
          have HBr := Lib.hid hbr
          clear hbr B4
          by_cases hlt2 : q < 10
          · have hpw := pow_int (q + 1) (by omega)
            have hle : ((2 ^ (q + 1) : Nat) : Int) ≤ 1024 := by omega
            have hge : 2 ≤ ((2 ^ (q + 1) : Nat) : Int) := by have := Nat.pow_le_pow_right (show 0 < 2 by decide) (show 1 ≤ q + 1 by omega); omega
            have hit := Tryd.strconv_Itoa ((2 ^ (q + 1) : Nat) : Int) (by omega) (by omega)
            have hdg : (⟨(Lib.itoa ((2 ^ (q + 1) : Nat) : Int)).toArray⟩ : ByteArray) = dec (2 ^ (q + 1)) := by rw [Lib.itoa, if_neg (by omega)]; rfl
            rw [hdg] at hit
            have HIT := Lib.hid (fun W (h : Tab W) => hit W h)
            have HTr := Lib.hid (HT.out.below HBr.out hlt)
            have hq3 := hqf.out (-n0) (q + 1) (by omega) (by omega)
            by_cases hx : P = dec (2 ^ (q + 1))
            · obtain ⟨hB, rfl⟩ := H3n.out (q + 1) (by omega) (by omega) hx
              rw [← hB] at hq3
              generalize dec (2 ^ (q + 1)) = DD at *
              generalize ((2 ^ (q + 1) : Nat) : Int) = B2 at *
              subst hx
              clear hpw hdg hit H3n H4n hB
              go_wp2_with (go_at_call 40; refine (HIT.out _ HTr.out).mono ?_; rintro e w5 ⟨rfl, k5, os5, rfl⟩)
              go_ret2
              exact ⟨rfl, HBr.out.trans ((below_growN _ _ _).mono HBr.out.size)⟩
            · have hxb : (P.toList == (dec (2 ^ (q + 1))).toList) = false := beq_eq_false_iff_ne.2 fun e => hx (ba_inj e)
              have hno2 : Hid (∀ j, 1 ≤ j → j ≤ q + 1 → ¬ P = dec (2 ^ j)) := Lib.hid (fun j h1 h2 => by
                by_cases e : j = q + 1
                · rw [e]; exact hx
                · exact hno.out j h1 (by omega))
              have hpp : Hid (((2 ^ (q + 1) : Nat) : Int) * 2 = ((2 ^ (q + 1 + 1) : Nat) : Int)) := Lib.hid (by have := Nat.pow_succ 2 (q + 1); omega)
              generalize dec (2 ^ (q + 1)) = DD at *
              clear hq3 hpw hdg hit hno hx
              generalize ((2 ^ (q + 1) : Nat) : Int) = B2 at *
              go_wp2_with (go_at_call 40; refine (HIT.out _ HTr.out).mono ?_; rintro e w5 ⟨rfl, k5, os5, rfl⟩)
              exact ⟨⟨q + 1, by omega, by rw [← hpp.out], hno2, HBr.out.trans ((below_growN _ _ _).mono HBr.out.size)⟩, by simp [intOf]; omega⟩
          · obtain rfl : q = 10 := by omega
            obtain ⟨rfl, rfl⟩ := H4n.out hno.out
            clear H3n H4n hno
            go_wp2
            go_ret2
            exact ⟨rfl, HBr.out⟩
end Go.Proofs.YtfjfiljgbkhblaaDoor
