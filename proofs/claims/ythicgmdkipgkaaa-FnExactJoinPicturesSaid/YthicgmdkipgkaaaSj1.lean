/- Two pictures joined: the reference's walk. -/
import Derived.Test.YthicgmdkipgkaaaRows
import Derived.Test.YthicgmdkipgkaaaSj0
namespace Go.Proofs.Ythicgmdkipgkaaa
open Go.ChangeShapes Go.WideShapes Go.ChangeAt Go.RowKit
section
attribute [local go_sem ↓] exec_ldCorner exec_ldMask
attribute [local go_sem] run_ldCorner run_ldMask
set_option maxRecDepth 20000 in
set_option maxHeartbeats 6400000 in
theorem sJoinPictures_any (A : Option Addr) (n c : Nat) (l : List Bl) (hl : l.length = n) (hrow : Bls l) (h16 : ∀ b ∈ l, is16 b.2) (h32 : ∀ b ∈ l, ∀ x ∈ b.1, -2147483648 ≤ x ∧ x ≤ 2147483647) (A2 : Option Addr) (n2 c2 : Nat) (l2 : List Bl) (hl2 : l2.length = n2) (hrow2 : Bls l2) (h162 : ∀ b ∈ l2, is16 b.2) (h322 : ∀ b ∈ l2, ∀ x ∈ b.1, -2147483648 ≤ x ∧ x ≤ 2147483647) (hn : n ≤ 1048576) (hn2 : n2 ≤ 1048576) (w : World) (hR : Rd w w.heap.size 18 A n (bcs l)) (hR2 : Rd w w.heap.size 18 A2 n2 (bcs l2)) :
    Calls Try.prog 35 #[.slice A n c, .slice A2 n2 c2] w (GivesToldB (cmbL orF l l2) (cmbK orF l l2) w) := by
  obtain ⟨i0, hi, hz0, hz1, hz2⟩ := info_parts Block_info
  have ho := fun W h => l07Ok_any A n c l hl hrow h16 h32 hn W h
  have ho2 := fun W h => l07Ok_any A2 n2 c2 l2 hl2 hrow2 h162 h322 hn2 W h
  have hv := fun h => vpic_of hrow h16 h
  have hv2 := fun h => vpic_of hrow2 h162 h
  have HL := Lib.hid hl
  have HL2 := Lib.hid hl2
  rw [cmbL, cmbK]
  clear hrow h16 h32 hrow2 h162 h322 hl hl2
  generalize vpB l = ok at *
  generalize vpB l2 = ok2 at *
  have HO := Lib.hid ho
  have HO2 := Lib.hid ho2
  clear ho ho2
  cases ok
  · clear hv hv2
    go_enter Try.func35, Try.ntmps35
    go_wp2_with (go_at_call 41; refine (HO.out _ (hR.more (by first | exact Nat.le_refl _ | omega))).mono ?_; rintro e w1 ⟨rfl, b1⟩)
    go_ret2
    exact GivesToldB.lit b1
  · cases ok2
    · clear hv hv2
      go_enter Try.func35, Try.ntmps35
      go_wp2_with (first
        | (go_at_call_of 41 (Value.slice A n c); refine (HO.out _ (hR.more (by first | exact Nat.le_refl _ | omega))).mono ?_; rintro e w1 ⟨rfl, b1⟩; have B1 := Lib.hid b1; clear b1)
        | (go_at_call_of 41 (Value.slice A2 n2 c2); refine (HO2.out _ ((hR2.below B1.out (Nat.le_refl _)).more B1.out.size)).mono ?_; rintro e w2 ⟨rfl, b2⟩; have B2 := Lib.hid (B1.out.trans (b2.mono B1.out.size)); clear b2))
      go_ret2
      exact GivesToldB.lit B2.out
    · have HV := Lib.hid (hv rfl)
      have HV2 := Lib.hid (hv2 rfl)
      have HR := Lib.hid hR
      have HR2 := Lib.hid hR2
      clear hv hv2 hR hR2
      simp only [Bool.and_self, if_true]
      go_enter Try.func35, Try.ntmps35
      go_wp2_with (first
        | (go_at_call_of 41 (Value.slice A n c); refine (HO.out _ HR.out).mono ?_; rintro e w1 ⟨rfl, b1⟩; have B1 := Lib.hid b1; clear b1)
        | (go_at_call_of 41 (Value.slice A2 n2 c2); refine (HO2.out _ ((HR2.out.below B1.out (Nat.le_refl _)).more B1.out.size)).mono ?_; rintro e w2 ⟨rfl, b2⟩; have B2 := Lib.hid (B1.out.trans (b2.mono B1.out.size)); clear b2; have how := (by have h := World.ownsRow_lit (e := 55) (base := w.heap.size) (size := 18) w2 #[] 0 B2.out.size (by unfold maxLen; omega) rfl; exact h); have HOW0 := Lib.hid how; clear how)
        | (at_builtin; refine wpList_append_copy rfl _ _ 25 rfl w.heap.size 55 i0 _ 18 40 Try.underlying25 hi hz0 hz1 hz2 rfl (by decide) w2.heap.size 0 rfl HOW0.out A n c w.heap.size (bcs l) rfl ((HR.out.below B2.out (Nat.le_refl _)).alloc B2.out.size _) (bcs_one l) (by unfold maxLen; omega) (by omega) (by have := B2.out.size; rw [size_alloc]; omega) ?_; intro g cc w7 hown7 hgrow7; have O7 := Lib.hid hown7; have G7 := Lib.hid hgrow7; clear hown7 hgrow7))
      have b7 : Below w.heap.size w w7 := (B2.out.alloc B2.out.size _).grown G7.out (by have := B2.out.size; rw [size_alloc]; omega) (fun j e => by injection e with e; have := B2.out.size; omega)
      obtain ⟨A7, c7, hve, o7⟩ := Own.of_row O7.out
      cases hve
      have HL0 := Lib.hid (And.intro o7 b7)
      clear O7 G7 HOW0 o7 b7
      go_loopw [6, 7] (fun v i wr => ∃ k : Nat, k ≤ n2 ∧ i = .int .i64 k ∧ ∃ L, Hid (JoinTo l l2 k L) ∧ ∃ A' c', v = .slice A' L.length c' ∧ Hid (Own wr w.heap.size wr.heap.size 55 18 A' L.length c' (bcs L)) ∧ Hid (Below w.heap.size w wr)) (fun _ i _ => n2 - (intOf i).toNat)
      case atStart => exact ⟨0, by omega, rfl, l, Lib.hid (joinTo_zero l2 HV.out.pic), _, _, by rw [HL.out], Lib.hid (by rw [HL.out]; exact HL0.out.1), Lib.hid HL0.out.2⟩
      case round =>
        clear HL0
        obtain ⟨k, hk, rfl, L, HJ, A', c', rfl, HOW, HB⟩ := hrel
        have hLn : L.length ≤ 1048576 := by
          have h1 := HJ.out.2.1
          have h2 := HV.out.few
          have h3 := HV2.out.few
          have h4 := HL2.out
          omega
        by_cases hlt : k < n2
        · have hkl : k < l2.length := by have := HL2.out; omega
          have hkI : (k : Int) < n2 := by omega
          have hk0 : (0 : Int) ≤ k := by omega
          obtain ⟨b, o, rfl, hbB, _⟩ := HR2.out.at_ (by omega)
          have hF1 := HV2.out.pic.bls.at_ hkl
          have hF16 := HV2.out.pic.m16 _ (List.getElem_mem hkl)
          have hjs := fun L' => joinTo_succ (out' := L') HV.out.pic HV2.out.pic.apart hkl HJ.out
          have hrw := fun W (hb : Below w.heap.size w W) X Y M he hM => rd_rows (W := W) (X := X) (Y := Y) (M := M) HR2.out HV2.out.pic.bls HL2.out hkl hb he hM
          obtain ⟨⟨C, Mm⟩, hF⟩ : ∃ F, F = l2[k] := ⟨_, rfl⟩
          rw [← hF] at hF1 hF16 hjs hrw
          obtain ⟨X, Y, rfl⟩ : ∃ X Y, C = [X, Y] := ⟨_, _, two_of hF1.1⟩
          have hM16 : Mm.length = 16 := hF1.2
          obtain ⟨⟨r1, r3⟩, ⟨r2, r4⟩⟩ := hrw wr.drew (below_drew HB.out) X Y Mm rfl hM16
          have HADD := Lib.hid (fun W (h : w.heap.size ≤ W.heap.size) hO => l07Add_own A' L.length c' L rfl HJ.out.1 hLn X Y Mm hM16 hF16 w.heap.size W h hO)
          have HJS := Lib.hid hjs
          clear hF1 hF16 hjs hrw hF
          go_wp2_with fail
          go_region_law (go_simp; go_at_call 62; refine (HADD.out _ (by have := HB.out.size; exact this) HOW.out.drew).mono ?_; rintro e w8 ⟨A8, c8, L8, rfl, ha8, o8, b8⟩; have HA8 := Lib.hid (HJS.out L8 ha8); have HO8 := Lib.hid o8; have HB8 := Lib.hid ((below_drew HB.out).trans (b8.mono HB.out.size)); clear ha8 o8 b8)
          all_goals
            go_wp2
            exact ⟨⟨k + 1, by omega, by go_num, L8, HA8, A8, c8, rfl, HO8, HB8⟩, by simp [intOf]; omega⟩
        · obtain rfl : k = n2 := by omega
          have HE : Hid (picOf (mixF orF l l2) = L) := Lib.hid (picOf_eq HJ.out.1 (fun key => by rw [HJ.out.2.2, List.take_of_length_le (by have := HL2.out; omega)]; rfl))
          have HN := Lib.hid hLn
          go_wp2_with (go_at_call 56; refine (l07Told_any _ _ _ L rfl HN.out w.heap.size wr HB.out.size HOW.out).mono ?_; rintro e w9 ⟨A9, c9, rfl, o9, b9⟩; have HO9 := Lib.hid o9; have HB9 := Lib.hid (HB.out.trans (b9.mono HB.out.size)); clear o9 b9)
          go_ret2
          exact ⟨A9, c9, by rw [HE.out]; rfl, by rw [HE.out]; exact HO9.out, HB9.out⟩
end
end Go.Proofs.Ythicgmdkipgkaaa
