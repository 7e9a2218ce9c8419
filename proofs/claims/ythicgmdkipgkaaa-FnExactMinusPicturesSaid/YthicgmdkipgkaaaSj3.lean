/- Two pictures less one another: the reference's walk. -/
import Derived.Test.YthicgmdkipgkaaaRows
import Derived.Test.YthicgmdkipgkaaaSj0
namespace Go.Proofs.Ythicgmdkipgkaaa
open Go.ChangeShapes Go.WideShapes Go.ChangeAt Go.RowKit
section
attribute [local go_sem ↓] exec_ldCorner exec_ldMask
attribute [local go_sem] run_ldCorner run_ldMask
set_option maxRecDepth 20000 in
set_option maxHeartbeats 6400000 in
theorem sMinusPictures_any (A : Option Addr) (n c : Nat) (l : List Bl) (hl : l.length = n) (hrow : Bls l) (h16 : ∀ b ∈ l, is16 b.2) (h32 : ∀ b ∈ l, ∀ x ∈ b.1, -2147483648 ≤ x ∧ x ≤ 2147483647) (A2 : Option Addr) (n2 c2 : Nat) (l2 : List Bl) (hl2 : l2.length = n2) (hrow2 : Bls l2) (h162 : ∀ b ∈ l2, is16 b.2) (h322 : ∀ b ∈ l2, ∀ x ∈ b.1, -2147483648 ≤ x ∧ x ≤ 2147483647) (hn : n ≤ 1048576) (hn2 : n2 ≤ 1048576) (w : World) (hR : Rd w w.heap.size 18 A n (bcs l)) (hR2 : Rd w w.heap.size 18 A2 n2 (bcs l2)) :
    Calls Try.prog 39 #[.slice A n c, .slice A2 n2 c2] w (GivesToldB (cmbL notF l l2) (cmbK notF l l2) w) := by
  obtain ⟨i0, hi, hz0, hz1, hz2⟩ := info_parts Block_info
  have ho := fun W h => l07Ok_any A n c l hl hrow h16 h32 hn W h
  have ho2 := fun W h => l07Ok_any A2 n2 c2 l2 hl2 hrow2 h162 h322 hn2 W h
  have hv := fun h => vpic_of hrow h16 h
  have hv2 := fun h => vpic_of hrow2 h162 h
  have HL := Lib.hid hl
  have HL2 := Lib.hid hl2
  rw [cmbL, cmbK]
  clear hrow h16 h32 hrow2 h162 h322 hl hl2
  generalize vpB l = ok at *
  generalize vpB l2 = ok2 at *
  have HO := Lib.hid ho
  have HO2 := Lib.hid ho2
  clear ho ho2
  cases ok
  · clear hv hv2
    go_enter Try.func39, Try.ntmps39
    go_wp2_with (go_at_call 41; refine (HO.out _ (hR.more (by first | exact Nat.le_refl _ | omega))).mono ?_; rintro e w1 ⟨rfl, b1⟩)
    go_ret2
    exact GivesToldB.lit b1
  · cases ok2
    · clear hv hv2
      go_enter Try.func39, Try.ntmps39
      go_wp2_with (first
        | (go_at_call_of 41 (Value.slice A n c); refine (HO.out _ (hR.more (by first | exact Nat.le_refl _ | omega))).mono ?_; rintro e w1 ⟨rfl, b1⟩; have B1 := Lib.hid b1; clear b1)
        | (go_at_call_of 41 (Value.slice A2 n2 c2); refine (HO2.out _ ((hR2.below B1.out (Nat.le_refl _)).more B1.out.size)).mono ?_; rintro e w2 ⟨rfl, b2⟩; have B2 := Lib.hid (B1.out.trans (b2.mono B1.out.size)); clear b2))
      go_ret2
      exact GivesToldB.lit B2.out
    · have HV := Lib.hid (hv rfl)
      have HV2 := Lib.hid (hv2 rfl)
      have HR := Lib.hid hR
      have HR2 := Lib.hid hR2
      clear hv hv2 hR hR2
      simp only [Bool.and_self, if_true]
      go_enter Try.func39, Try.ntmps39
      go_wp2_with (first
        | (go_at_call_of 41 (Value.slice A n c); refine (HO.out _ HR.out).mono ?_; rintro e w1 ⟨rfl, b1⟩; have B1 := Lib.hid b1; clear b1)
        | (go_at_call_of 41 (Value.slice A2 n2 c2); refine (HO2.out _ ((HR2.out.below B1.out (Nat.le_refl _)).more B1.out.size)).mono ?_; rintro e w2 ⟨rfl, b2⟩; have B2 := Lib.hid (B1.out.trans (b2.mono B1.out.size)); clear b2; have how := (by have h := World.ownsRow_lit (e := 55) (base := w.heap.size) (size := 18) w2 #[] 0 B2.out.size (by unfold maxLen; omega) rfl; exact h); have HOW0 := Lib.hid how; clear how))
      have b7 : Below w.heap.size w (w2.alloc (.cells #[] 55)) := B2.out.alloc B2.out.size _
      obtain ⟨A7, c7, hve, o7⟩ := Own.of_row HOW0.out
      cases hve
      have HL0 := Lib.hid (And.intro o7 b7)
      clear HOW0 o7 b7
      go_loopw [6, 7] (fun v i wr => ∃ k : Nat, k ≤ n ∧ i = .int .i64 k ∧ ∃ L, Hid (MixTo notF l l2 k L) ∧ ∃ A' c', v = .slice A' L.length c' ∧ Hid (Own wr w.heap.size wr.heap.size 55 18 A' L.length c' (bcs L)) ∧ Hid (Below w.heap.size w wr)) (fun _ i _ => n - (intOf i).toNat)
      case atStart => exact ⟨0, by omega, rfl, [], Lib.hid (mixTo_zero notF l l2), _, _, rfl, Lib.hid HL0.out.1, Lib.hid HL0.out.2⟩
      case round =>
        clear HL0
        obtain ⟨k, hk, rfl, L, HJ, A', c', rfl, HOW, HB⟩ := hrel
        have hLn : L.length ≤ 1048576 := by have h1 := HJ.out.2.1; omega
        by_cases hlt : k < n
        · have hkl : k < l.length := by have := HL.out; omega
          have hkI : (k : Int) < n := by omega
          have hk0 : (0 : Int) ≤ k := by omega
          obtain ⟨b, o, rfl, hbB, _⟩ := HR.out.at_ (by omega)
          have hF1 := HV.out.pic.bls.at_ hkl
          obtain ⟨hM2, hM216⟩ := maskAt_ok HV2.out.pic.bls HV2.out.pic.m16 (l[k]).1
          have hjs := fun L' => mixTo_succ (f := notF) (out' := L') notF_way HV.out.pic.bls HV.out.pic.apart HV2.out.pic.bls hkl HV2.out.pic.m16 HJ.out
          have hrw := fun W (hb : Below w.heap.size w W) X Y M he hM => rd_rows (W := W) (X := X) (Y := Y) (M := M) HR.out HV.out.pic.bls HL.out hkl hb he hM
          obtain ⟨⟨C, Mm⟩, hF⟩ : ∃ F, F = l[k] := ⟨_, rfl⟩
          rw [← hF] at hF1 hM2 hM216 hjs hrw
          obtain ⟨X, Y, rfl⟩ : ∃ X Y, C = [X, Y] := ⟨_, _, two_of hF1.1⟩
          have hM16 : Mm.length = 16 := hF1.2
          have hrw2 := fun W (hb : Below w.heap.size w W) => hrw W hb X Y Mm rfl hM16
          obtain ⟨⟨r1, r3⟩, ⟨r2, r4⟩⟩ := hrw2 wr.drew (below_drew HB.out)
          have HFI := Lib.hid (fun W (hb : Below w.heap.size w W) => l07Find_any A2 n2 c2 l2 HL2.out HV2.out.pic.bls X Y W hn2 ((HR2.out.below hb (Nat.le_refl _)).more hb.size))
          have HME := Lib.hid (fun W => sMinusMasks_any Mm (maskAt l2 [X, Y]) hM16 hM2 W)
          have HADD := Lib.hid (fun W (h : w.heap.size ≤ W.heap.size) hO => l07Add_own A' L.length c' L rfl HJ.out.1 hLn X Y (opM notF Mm (maskAt l2 [X, Y])) (opM_length hM16 hM2) (opM_16 notF_way _ _) w.heap.size W h hO)
          have HJS := Lib.hid hjs
          have HRW := Lib.hid hrw2
          clear hF1 hjs hrw hrw2 hF hM2 hM216
          have HJS2 : Hid (∀ L', Added L [X, Y] (opM notF Mm (maskAt l2 [X, Y])) L' → MixTo notF l l2 (k + 1) L') := HJS
          clear HJS
          generalize opM notF Mm (maskAt l2 [X, Y]) = R at *
          generalize maskAt l2 [X, Y] = M2 at *
          go_wp2_with fail
          go_region_law (first
            | (go_simp; go_at_call 66; refine (HFI.out _ (below_drew HB.out)).mono ?_; rintro e w8 ⟨rfl, b8⟩; have B8 := Lib.hid ((below_drew HB.out).trans (b8.mono HB.out.size)); have O8 := Lib.hid ((HOW.out.drew.below b8 (Nat.le_refl _)).more b8.size); have q1 := (HRW.out w8 B8.out).1.1; have q3 := (HRW.out w8 B8.out).1.2; have q2 := (HRW.out w8 B8.out).2.1; have q4 := (HRW.out w8 B8.out).2.2; clear b8)
            | (go_simp; go_at_call 68; refine (HME.out _).mono ?_; rintro e w9 ⟨rfl, b9⟩; have B9 := Lib.hid (B8.out.trans (b9.mono B8.out.size)); have O9 := Lib.hid ((O8.out.below b9 (Nat.le_refl _)).more b9.size); have p1 := (HRW.out w9 B9.out).1.1; have p3 := (HRW.out w9 B9.out).1.2; clear b9)
            | (go_simp; go_at_call 62; refine (HADD.out _ B9.out.size O9.out).mono ?_; rintro e w10 ⟨A8, c8, L8, rfl, ha8, o8, b10⟩; have HA8 := Lib.hid (HJS2.out L8 ha8); have HO8 := Lib.hid o8; have HB8 := Lib.hid (B9.out.trans (b10.mono B9.out.size)); clear ha8 o8 b10))
          all_goals
            go_wp2
            exact ⟨⟨k + 1, by omega, by go_num, L8, HA8, A8, c8, rfl, HO8, HB8⟩, by simp [intOf]; omega⟩
        · obtain rfl : k = n := by omega
          have HE : Hid (picOf (mixF notF l l2) = L) := Lib.hid (picOf_eq HJ.out.1 (fun key => by rw [HJ.out.2.2, List.take_of_length_le (by have := HL.out; omega), maskAt_mix (fun m h1 h2 => notM_zl h1 h2) l HV2.out.pic.bls HV2.out.pic.m16]; rfl))
          have HN := Lib.hid hLn
          go_wp2_with (go_at_call 56; refine (l07Told_any _ _ _ L rfl HN.out w.heap.size wr HB.out.size HOW.out).mono ?_; rintro e w9 ⟨A9, c9, rfl, o9, b9⟩; have HO9 := Lib.hid o9; have HB9 := Lib.hid (HB.out.trans (b9.mono HB.out.size)); clear o9 b9)
          go_ret2
          exact ⟨A9, c9, by rw [HE.out]; rfl, by rw [HE.out]; exact HO9.out, HB9.out⟩
end
end Go.Proofs.Ythicgmdkipgkaaa
