/- Qd, Qe in one text. -/
import Derived.Test.YthicgmdkipgkaaaDoorRows
import Derived.Test.YthicgmdkipgkaaaDoorZs3
import Derived.Test.YthicgmdkipgkaaaDoorZs2
import Derived.Test.YthicgmdkipgkaaaDoorEs
import Derived.Test.YthicgmdkipgkaaaDoorZs1
namespace Go.Proofs.YthicgmdkipgkaaaDoor
open Go.ChangeShapes Go.WideShapes Go.ChangeAt Go.RowKit
section
attribute [local go_sem ↓] exec_ldCorner exec_ldMask
attribute [local go_sem] run_ldCorner run_ldMask
set_option maxRecDepth 20000 in
set_option maxHeartbeats 6400000 in
theorem sPiecesOf_any (A : Option Addr) (n c : Nat) (l : List Bl) (hl : l.length = n) (hrow : Bls l) (h16 : ∀ b ∈ l, is16 b.2) (h32 : ∀ b ∈ l, ∀ x ∈ b.1, -2147483648 ≤ x ∧ x ≤ 2147483647) (cn : Bool) (hn : n ≤ 1048576) (w : World) (hR : Rd w w.heap.size 18 A n (bcs l)) :
    Calls Tryd.prog 15 #[.slice A n c, .bool cn] w (GivesToldI (psL l cn) (psK l) w) := by
  obtain ⟨i0, hi, hz0, hz1, hz2⟩ := info_parts Int64_info
  have ho := fun W h => l07Ok_any A n c l hl hrow h16 h32 hn W h
  have hv := fun h => vpic_of hrow h16 h
  rw [psL, psK]
  cases hok : vpB l
  · rw [hok] at ho
    clear hv hok hrow h16 h32 hl
    go_enter Tryd.func15, Tryd.ntmps15
    go_wp2_with (go_at_call 20; refine (ho _ (hR.more (by first | exact Nat.le_refl _ | omega))).mono ?_; rintro e w1 ⟨rfl, b1⟩)
    go_ret2
    exact GivesToldI.lit b1
  · rw [hok] at ho
    have hV := hv hok
    have HV := Lib.hid hV
    have HCS := Lib.hid (fun W h => l07Cells_any A n c l hl hV W h)
    have HPC := Lib.hid (fun x y (hh : hasB l x y = true) W h => l07Piece_any A n c l hl hrow hV x y hh cn W h)
    have HO := Lib.hid ho
    have HR := Lib.hid hR
    have hcnt := hV.count
    have hfew := hV.few
    clear ho hv hok hrow h16 h32 hl hV hR
    simp only [if_true]
    go_enter Tryd.func15, Tryd.ntmps15
    go_wp2_with (first
      | (go_at_call 20; refine (HO.out _ HR.out).mono ?_; rintro e w1 ⟨rfl, b1⟩; have B1 := Lib.hid b1; clear b1)
      | (go_at_call 21; refine (HCS.out _ ((HR.out.below B1.out (Nat.le_refl _)).more B1.out.size)).mono ?_; rintro e w2 ⟨g, cc, rfl, hO2, b2⟩; have HCL := Lib.hid hO2.rd; have B2 := Lib.hid (B1.out.trans (b2.mono B1.out.size)); clear hO2 b2))
    have hs0 := World.ownsRow_lit (e := 50) (base := w.heap.size) (size := 18) w2 #[] 0 B2.out.size (by unfold maxLen; omega) rfl
    obtain ⟨A0, c0, hv0, ho0⟩ := Own.of_row hs0
    cases hv0
    have hi0 := World.ownsRow_lit (e := 2) (base := w2.heap.size) (size := 1) (w2.alloc (.cells #[] 50)) #[] 0 (by rw [size_alloc]; omega) (by unfold maxLen; omega) rfl
    rw [size_alloc] at hi0
    have hba : Below w2.heap.size w2 ((w2.alloc (.cells #[] 50)).alloc (.cells #[] 2)) := ((Below.refl w2.heap.size w2).alloc (Nat.le_refl _) _).alloc (by simp) _
    have L0 := Lib.hid (And.intro ((ho0.below ((Below.refl (w2.alloc (.cells #[] 50)).heap.size (w2.alloc (.cells #[] 50))).alloc (Nat.le_refl _) (.cells #[] 2)) (Nat.le_refl _)).more (show (w2.alloc (.cells #[] 50)).heap.size ≤ ((w2.alloc (.cells #[] 50)).alloc (.cells #[] 2)).heap.size by simp)) (And.intro hi0 hba))
    clear hs0 ho0 hi0 hba
    go_loopw [7, 8, 9] (fun s o i wr => ∃ (k : Nat) (S : List Bl) (A' : Option Addr) (c' : Nat) (N : List Int) (q cq : Nat), k ≤ (specC l).length ∧ i = .int .i64 k ∧ s = .slice A' S.length c' ∧ o = .slice (some ⟨q, 0, none⟩) N.length cq ∧ Hid (SeenS l cn k S) ∧ Hid (N = sizesTo (hasB l) cn (specC l) k) ∧ Hid (Own wr w.heap.size wr.heap.size 50 18 A' S.length c' (bcs S)) ∧ Hid (wr.ownsRow w2.heap.size 2 1 (.slice (some ⟨q, 0, none⟩) N.length cq) N.length (N.map (.int .i64))) ∧ Hid (Below w2.heap.size w2 wr)) (fun _ _ i _ => (specC l).length - (intOf i).toNat)
    case atStart => exact ⟨0, [], _, _, [], _, _, Nat.zero_le _, rfl, rfl, rfl, Lib.hid (seen_zero l cn), Lib.hid rfl, Lib.hid L0.out.1, Lib.hid L0.out.2.1, Lib.hid L0.out.2.2⟩
    case round =>
      clear L0
      obtain ⟨k, S, A', c', N, q, cq, hk, rfl, rfl, rfl, HS, HN, HOW, HI, HB⟩ := hrel
      by_cases hlt : k < (specC l).length
      · have hkI : (k : Int) < (specC l).length := by omega
        have hk0 : (0 : Int) ≤ k := by omega
        have hrows := specC_rows l
        obtain ⟨x, y, hxy⟩ : ∃ x y, (specC l)[k] = [x, y] := ⟨_, _, two_of (hrows.at_ hlt)⟩
        have hmem : hasB l x y = true := by
          have h := (spec_mem HV.out.pic.apart HV.out.pic.bls [x, y]).1 (by rw [← hxy]; exact List.getElem_mem hlt)
          exact h.2
        have hcb := HV.out.cells hmem
        obtain ⟨⟨hx2, hx3⟩, ⟨hy2, hy3⟩⟩ := cellB_in hcb
        have hcl := HCL.out.below HB.out (Nat.le_refl _)
        obtain ⟨d0, d1⟩ := pvs_cells hrows hlt hcl rfl hxy
        simp only [Nat.zero_add] at d0 d1
        have hS2 : S.length ≤ 64 := by have := HS.out.few HV.out.pic; omega
        have hSn : S.length ≤ 1048576 := by omega
        have HH : Hid (∀ W, Rd W W.heap.size 18 A' S.length (bcs S) → Calls Tryd.prog 22 #[.slice A' S.length c', .int .i64 x, .int .i64 y] W fun e w' => e = .returned (.bool (hasB S x y)) ∧ Below W.heap.size W w') := Lib.hid fun W h => by
          have := l07Holds_any A' S.length c' S rfl HS.out.pic.bls HS.out.pic.m16 x y W hSn h
          rwa [holdsB, hcb, Bool.true_and] at this
        have hNk : N.length ≤ k := by rw [HN.out]; exact sizes_length _ _ _ _
        have HPX := Lib.hid (HPC.out x y hmem)
        cases hsx : hasB S x y
        · have HNEW := Lib.hid (fun L P S' (h1 : PieceL (hasB l) cn x y L) (h2 : Pic P) h3 h4 => HS.out.new (L := L) (P := P) (S' := S') hlt hxy hsx h1 h2 h3 h4)
          have HSP := Lib.hid HS.out.pic
          rw [hsx] at HH
          clear hcl hrows hmem hcb hxy hsx HS
          go_wp2_with (first
            | (go_at_call 22; refine (HH.out _ HOW.out.rd).mono ?_; rintro e w5 ⟨rfl, b5⟩; have B5 := Lib.hid b5; clear b5)
            | (go_at_call 34; refine (HPX.out _ ((HR.out.below (B2.out.trans ((HB.out.trans (B5.out.mono HB.out.size)).mono B2.out.size)) (Nat.le_refl _)).more (B2.out.trans ((HB.out.trans (B5.out.mono HB.out.size)).mono B2.out.size)).size)).mono ?_; rintro e w6 ⟨A6, c6, L6, P6, rfl, hL6, hP6, hm6, hO6, b6⟩; have HL6 := Lib.hid hL6; have HP6 := Lib.hid hP6; have HM6 := Lib.hid hm6; have HO6 := Lib.hid (hO6.less (show w.heap.size ≤ w5.heap.size from Nat.le_trans B2.out.size (Nat.le_trans HB.out.size B5.out.size))); have HVP : Hid (VPic P6) := Lib.hid (VPic.sub hP6 HV.out fun U V h => by rw [hm6, decide_eq_true_iff, hL6.iff] at h; exact h.has); have B6 := Lib.hid (B5.out.trans (b6.mono B5.out.size)); clear hL6 hP6 hm6 hO6 b6)
            | (go_at_call 21; refine (l07Cells_any A6 P6.length c6 P6 rfl HVP.out _ HO6.out.rd).mono ?_; rintro e w7 ⟨g7, c7, rfl, hO7, b7⟩; have HC7 := Lib.hid (piece_count HL6.out HP6.out HM6.out); have hl7 : (specC P6).length ≤ 16384 := HVP.out.count; have B7 := Lib.hid (B6.out.trans (b7.mono B6.out.size)); have HO7 := Lib.hid ((HO6.out.below b7 (Nat.le_refl _)).more b7.size); have HI7 := Lib.hid (own_below HI.out B7.out (Nat.le_refl _)); have HOW7 := Lib.hid ((HOW.out.below B7.out (Nat.le_refl _)).more B7.out.size); clear hO7 b7; have HN7 := Lib.hid (Blk.news (k := .i64) (l := [((specC P6).length : Int)]) (t := 2) (w := w7.alloc (.cells #[.int .i64 ((specC P6).length : Int)] 2)) (g := w7.heap.size) (Blk.newAt rfl rfl)))
            | (at_builtin; refine wpList_append_own _ rfl _ _ 33 rfl w2.heap.size 2 i0 _ 1 8 Tryd.underlying33 hi hz0 hz1 hz2 rfl (by decide) (.slice (some ⟨q, 0, none⟩) N.length cq) N.length _ rfl (HI7.out.alloc _) ⟨w7.heap.size, 0, none⟩ 1 1 ([((specC P6).length : Int)].map (.int .i64)) rfl rfl HN7.out ints_one (by unfold maxLen; omega) (by omega) (by have h1 := B7.out.size; have h2 := HB.out.size; rw [size_alloc]; omega) ?_; intro v' w9 hown' hgrow _; rw [← List.map_append] at hown'; have HOWN := Lib.hid hown'; have HGR := Lib.hid hgrow; clear hown' hgrow))
          obtain ⟨q9, cq9, rfl⟩ := own_some HOWN.out (by omega)
          have hzw : w.heap.size ≤ w7.heap.size := Nat.le_trans B2.out.size (Nat.le_trans HB.out.size B7.out.size)
          have hb9 : Below w2.heap.size w2 w9 := (HB.out.trans ((B7.out.alloc (by have := B7.out.size; exact this) (.cells #[.int .i64 ((specC P6).length : Int)] 2)).mono HB.out.size)).grown HGR.out (by have h1 := B7.out.size; have h2 := HB.out.size; rw [size_alloc]; omega) (fun j e => (HI7.out.lt j e).1)
          have hal : Below w7.heap.size w7 (w7.alloc (.cells #[.int .i64 ((specC P6).length : Int)] 2)) := (Below.refl w7.heap.size w7).alloc (Nat.le_refl _) _
          have hzl : w7.heap.size ≤ (w7.alloc (.cells #[.int .i64 ((specC P6).length : Int)] 2)).heap.size := by simp
          have OS9 := Lib.hid ((own_other ((HOW7.out.below hal (Nat.le_refl _)).more hzl) (HI7.out.alloc _) (by decide) HGR.out).more HGR.out.size)
          have OP9 := Lib.hid ((own_other ((HO7.out.below hal (Nat.le_refl _)).more hzl) (HI7.out.alloc _) (by decide) HGR.out).more HGR.out.size).rd
          have HB9 := Lib.hid hb9
          have hP64 : P6.length ≤ 64 := HVP.out.few
          have HP16 := Lib.hid HVP.out.pic.m16
          have HPB := Lib.hid HVP.out.pic.bls
          have HPA := Lib.hid HVP.out.pic.apart
          have hzw9 : w.heap.size ≤ w9.heap.size := by have h1 := hb9.size; have h2 := B2.out.size; omega
          have J0 := Lib.hid (joinTo_zero P6 HSP.out)
          clear hb9 hal hzl hzw HGR HOW7 HO7 HI7 HN7 B5 B6 B7 HOW HI HB HO6 hl7 d0 d1
          obtain ⟨wo, rfl⟩ : ∃ wo : World, wo = wr := ⟨_, rfl⟩
          go_loopw [7, 13] (fun v i wr => ∃ (m : Nat) (S' : List Bl) (A1 : Option Addr) (c1 : Nat), m ≤ P6.length ∧ i = .int .i64 m ∧ v = .slice A1 S'.length c1 ∧ Hid (JoinTo S P6 m S') ∧ Hid (Own wr w.heap.size wr.heap.size 50 18 A1 S'.length c1 (bcs S')) ∧ Hid (Below w9.heap.size w9 wr)) (fun _ i _ => P6.length - (intOf i).toNat)
          case atStart => exact ⟨0, S, A', c', Nat.zero_le _, rfl, rfl, J0, OS9, Lib.hid (Below.refl _ _)⟩
          case round =>
            clear J0 OS9
            obtain ⟨m, S', A1, c1, hm, rfl, rfl, HJ, HOS, HBJ⟩ := hrel
            have hSn' : S'.length ≤ 1048576 := by have := HJ.out.2.1; omega
            by_cases hml : m < P6.length
            · have hmI : (m : Int) < P6.length := by omega
              have hm0 : (0 : Int) ≤ m := by omega
              obtain ⟨b, o, rfl, hbB, _⟩ := OP9.out.at_ (by omega)
              have hF1 := HPB.out.at_ hml
              have hF16 := HP16.out _ (List.getElem_mem hml)
              have hjs := fun L' => joinTo_succ (out' := L') HSP.out HPA.out hml HJ.out
              have hrw := fun W (hb : Below w9.heap.size w9 W) X Y M he hM => rd_rows (W := W) (X := X) (Y := Y) (M := M) OP9.out HPB.out rfl hml hb he hM
              obtain ⟨⟨C, Mm⟩, hF⟩ : ∃ F, F = P6[m] := ⟨_, rfl⟩
              rw [← hF] at hF1 hF16 hjs hrw
              obtain ⟨X, Y, rfl⟩ : ∃ X Y, C = [X, Y] := ⟨_, _, two_of hF1.1⟩
              have hM16 : Mm.length = 16 := hF1.2
              obtain ⟨⟨r1, r3⟩, ⟨r2, r4⟩⟩ := hrw wr.drew (below_drew HBJ.out) X Y Mm rfl hM16
              have HADD := Lib.hid (fun W (h : w.heap.size ≤ W.heap.size) hO => l07Add_own A1 S'.length c1 S' rfl HJ.out.1 hSn' X Y Mm hM16 hF16 w.heap.size W h hO)
              have HJS := Lib.hid hjs
              clear hF1 hF16 hjs hrw hF
              go_wp2_with fail
              go_region_law (go_simp; go_at_call 38; refine (HADD.out _ (by have := HBJ.out.size; exact Nat.le_trans hzw9 this) HOS.out.drew).mono ?_; rintro e w10 ⟨A8, c8, L8, rfl, ha8, o8, b8⟩; have HA8 := Lib.hid (HJS.out L8 ha8); have HO8 := Lib.hid o8; have HB8 := Lib.hid ((below_drew HBJ.out).trans (b8.mono HBJ.out.size)); clear ha8 o8 b8)
              all_goals
                go_wp2
                exact ⟨⟨m + 1, L8, A8, c8, by omega, by go_num, rfl, HA8, HO8, HB8⟩, by simp [intOf]; omega⟩
            · obtain rfl : m = P6.length := by omega
              have HNW := Lib.hid (HNEW.out L6 P6 S' HL6.out HP6.out HM6.out HJ.out)
              go_wp2
              exact ⟨⟨k + 1, S', A1, c1, N ++ [((specC P6).length : Int)], q9, cq9, by omega, by go_num, rfl, by rw [List.length_append]; rfl, Lib.hid HNW.out.1, Lib.hid (by rw [HNW.out.2, HC7.out, ← HN.out]), HOS, Lib.hid (by have := own_below HOWN.out HBJ.out (Nat.le_refl _); rw [List.length_append]; exact this), Lib.hid (HB9.out.trans (HBJ.out.mono HB9.out.size))⟩, by simp [intOf]; omega⟩
        · have HSM := Lib.hid (HS.out.same hlt hxy hsx)
          rw [hsx] at HH
          clear hcl hrows hmem hcb hxy hsx HPX HS
          go_wp2_with (first
            | (go_at_call 22; refine (HH.out _ HOW.out.rd).mono ?_; rintro e w5 ⟨rfl, b5⟩; have B5 := Lib.hid b5; clear b5))
          exact ⟨⟨k + 1, S, A', c', N, q, cq, by omega, by go_num, rfl, rfl, Lib.hid HSM.out.1, Lib.hid (HN.out.trans HSM.out.2.symm), Lib.hid ((HOW.out.below B5.out (Nat.le_refl _)).more B5.out.size), Lib.hid (own_below HI.out B5.out (Nat.le_refl _)), Lib.hid (HB.out.trans (B5.out.mono HB.out.size))⟩, by simp [intOf]; omega⟩
      · obtain rfl : k = (specC l).length := by omega
        go_wp2
        go_ret2
        obtain ⟨A9, c9, he9, ho9⟩ := Own.of_row HI.out
        cases he9
        exact ⟨_, _, by rw [← HN.out]; rfl, by rw [← HN.out]; exact ho9.less B2.out.size, B2.out.trans (HB.out.mono B2.out.size)⟩
end
end Go.Proofs.YthicgmdkipgkaaaDoor
namespace Go.Proofs.YthicgmdkipgkaaaDoor
open Go.ChangeShapes Go.WideShapes Go.ChangeAt Go.RowKit
/-- what the program has left -/
structure RestI (l : List Bl) (cn : Bool) (k : Nat) (lo : List Bl) : Prop where
  tab : Tab lo
  iff : ∀ U V, hasB lo U V = true ↔ (hasB l U V = true ∧ ¬ Old (hasB l) cn ((specC l).take k) U V)
theorem rest_zero {l : List Bl} (h : Pic l) (cn : Bool) : RestI l cn 0 l := ⟨Tab.of_pic h, fun _U _V => ⟨fun hh => ⟨hh, old_zero _ _ _ _ _⟩, fun hh => hh.1⟩⟩
section
variable {l lo lo' : List Bl} {cn : Bool} {k : Nat} {x y : Int} {L : List (List Int)}
theorem RestI.old (h : RestI l cn k lo) (hk : k < (specC l).length) (he : (specC l)[k] = [x, y]) (hm : hasB l x y = true) (hh : hasB lo x y = false) (hL : PieceL (hasB lo) cn x y L) (ht : Tab lo') (hr : ∀ U V, hasB lo' U V = (hasB lo U V && !decide ([U, V] ∈ L))) : L.length = 0 ∧ RestI l cn (k + 1) lo' ∧ sizesTo (hasB l) cn (specC l) (k + 1) = sizesTo (hasB l) cn (specC l) k := by
  have hno : Old (hasB l) cn ((specC l).take k) x y := by
    classical
    by_cases ho : Old (hasB l) cn ((specC l).take k) x y
    · exact ho
    · rw [(h.iff x y).2 ⟨hm, ho⟩] at hh
      cases hh
  have ho' : Old (hasB l) cn ((specC l).take k) (((specC l)[k]).getD 0 0) (((specC l)[k]).getD 1 0) := by rw [he]; exact hno
  have hnil : L = [] := by
    cases L with
    | nil => rfl
    | cons c L =>
      have h2 := hL.two c (List.mem_cons_self ..)
      have h3 := (hL.iff (c.getD 0 0) (c.getD 1 0)).1 (by rw [← two_of h2]; exact List.mem_cons_self ..)
      rw [h3.has0] at hh
      cases hh
  subst hnil
  refine ⟨rfl, ⟨ht, fun U V => ?_⟩, sizes_old hk ho'⟩
  rw [hr, show decide ([U, V] ∈ ([] : List (List Int))) = false by simp, Bool.not_false, Bool.and_true, h.iff, old_same hk ho']
theorem RestI.new (h : RestI l cn k lo) (hk : k < (specC l).length) (he : (specC l)[k] = [x, y]) (hh : hasB lo x y = true) (hL : PieceL (hasB lo) cn x y L) (ht : Tab lo') (hr : ∀ U V, hasB lo' U V = (hasB lo U V && !decide ([U, V] ∈ L))) : 0 < L.length ∧ RestI l cn (k + 1) lo' ∧ sizesTo (hasB l) cn (specC l) (k + 1) = sizesTo (hasB l) cn (specC l) k ++ [(L.length : Int)] := by
  have e0 : ((specC l)[k]).getD 0 0 = x := by rw [he]; rfl
  have e1 : ((specC l)[k]).getD 1 0 = y := by rw [he]; rfl
  have hLk : PieceL (hasB lo) cn (((specC l)[k]).getD 0 0) (((specC l)[k]).getD 1 0) L := by rw [e0, e1]; exact hL
  have hhk : hasB lo (((specC l)[k]).getD 0 0) (((specC l)[k]).getD 1 0) = true := by rw [e0, e1]; exact hh
  refine ⟨List.length_pos_of_mem ((hL.iff x y).2 (.start hh)), ⟨ht, rest_succ hk h.iff hLk hhk hr⟩, sizes_new hk ?_ (hLk.congr (reach_rest h.iff hhk))⟩
  rw [e0, e1]
  exact ((h.iff x y).1 hh).2
end
theorem own_fr {w w' : World} {base B g0 : Nat} {e : TypeId} {size n : Nat} {v : Value} {xs : List Value} (h : w.ownsRow base e size v n xs) (hf : Fr B g0 w w') (hB : w.heap.size ≤ B) (hg : g0 < base) : w'.ownsRow base e size v n xs := by
  refine ⟨h.1, ?_⟩
  rcases h.2 with h' | ⟨g, cap, cur, h1, h2, h3, h4⟩
  · exact .inl h'
  · have hlt := Blk.lt h3
    refine .inr ⟨g, cap, cur, h1, h2, ?_, h4⟩
    exact (hf.block g (by omega) (by omega)).trans h3
theorem Own.fr {w w' : World} {lo hi B g0 : Nat} {e : TypeId} {size n c : Nat} {A : Option Addr} {xs : List Value} (h : Own w lo hi e size A n c xs) (hf : Fr B g0 w w') (hB : w.heap.size ≤ B) (hg : g0 < lo) : Own w' lo hi e size A n c xs := by
  refine ⟨h.1, ?_⟩
  rcases h.2 with h1 | ⟨g, cur, k1, k2, k3, k4, k5⟩
  · exact .inl h1
  · have hlt := Blk.lt k4
    refine .inr ⟨g, cur, k1, k2, k3, ?_, k5⟩
    exact (hf.block g (by omega) (by omega)).trans k4
theorem L8.fr {w w' : World} {B g0 : Nat} (h : L8 w) (hf : Fr B g0 w w') (hg : 0 < g0) (hB : 0 < B) : L8 w' := ⟨h.at_.fr hf hg hB⟩
set_option maxRecDepth 20000 in
set_option maxHeartbeats 6400000 in
theorem iPiecesOf_any (A : Option Addr) (n c : Nat) (l : List Bl) (hl : l.length = n) (hrow : Bls l) (h16 : ∀ b ∈ l, is16 b.2) (h32 : ∀ b ∈ l, ∀ x ∈ b.1, -2147483648 ≤ x ∧ x ≤ 2147483647) (cn : Bool) (hn : n ≤ 1048576) (w : World) (hst : Laid8 w) (hR : Rd w w.heap.size 18 A n (bcs l)) :
    Calls Tryd.prog 16 #[.slice A n c, .bool cn] w (GivesToldI (psL l cn) (psK l) w) := by
  obtain ⟨i0, hi, hz0, hz1, hz2⟩ := info_parts Int64_info
  have ho := fun W h => iValidPicture_any A n c l hl hrow h16 h32 hn W h
  have hv := fun h => vpic_of hrow h16 h
  have hm := fun (h : vpB l = true) W hR => masksOf_any A n c l hl hrow (apart_of_rising (rising_of_vpB h)) hn W hR
  rw [psL, psK]
  cases hok : vpB l
  · rw [hok] at ho
    clear hm hv hok hrow h16 h32 hl hst
    go_enter Tryd.func16, Tryd.ntmps16
    go_wp2_with (go_at_call 25; refine (ho _ (hR.more (by first | exact Nat.le_refl _ | omega))).mono ?_; rintro e w1 ⟨rfl, b1⟩)
    go_ret2
    exact GivesToldI.nil b1
  · rw [hok] at ho
    have hV := hv hok
    have HV := Lib.hid hV
    have HMO := Lib.hid (hm hok)
    have HCS := Lib.hid (fun W h => cellsOf_any A n c l hl hV W h)
    have HO := Lib.hid ho
    have HR := Lib.hid hR
    have HST := Lib.hid hst
    have hcnt := hV.count
    clear ho hv hm hok hrow h16 h32 hl hV hR hst
    simp only [if_true]
    go_enter Tryd.func16, Tryd.ntmps16
    go_wp2_with (first
      | (go_at_call 25; refine (HO.out _ HR.out).mono ?_; rintro e w1 ⟨rfl, b1⟩; have B1 := Lib.hid b1; clear b1)
      | (go_at_call 26; refine (HMO.out _ ((HR.out.below B1.out (Nat.le_refl _)).more B1.out.size)).mono ?_; rintro e w2 ⟨g1, rfl, k1, k2, k3, b2⟩; have K := Lib.hid (And.intro (Nat.le_trans B1.out.size k1) (And.intro k2 k3)); have B2 := Lib.hid (B1.out.trans (b2.mono B1.out.size)); have B2a := Lib.hid (B2.out.alloc B2.out.size (.cells #[] 2)); clear b2 k1 k2 k3)
      | (go_at_call 27; refine (HCS.out _ ((HR.out.below B2a.out (Nat.le_refl _)).more B2a.out.size)).mono ?_; rintro e w3 ⟨g, cc, rfl, hO2, b3⟩; have HCL := Lib.hid hO2.rd; have HCO := Lib.hid hO2; have HGB := Lib.hid hO2.blk_; have B3a := Lib.hid b3; have B3 := Lib.hid (B2a.out.trans (b3.mono B2a.out.size)); clear hO2 b3))
    have hi0 := World.ownsRow_lit (e := 2) (base := w2.heap.size) (size := 1) w2 #[] 0 (Nat.le_refl _) (by unfold maxLen; omega) rfl
    have hg1 : g1 < w2.heap.size ∧ w.heap.size ≤ g1 := ⟨K.out.2.1, K.out.1⟩
    have S0 := Lib.hid (And.intro (heap_below B3a.out (heap_below ((Below.refl w2.heap.size w2).alloc (Nat.le_refl _) (.cells #[] 2)) K.out.2.2)) (And.intro (own_below hi0 B3a.out (Nat.le_refl _)) (L8.below ⟨HST.out⟩ B3.out (Nat.zero_le _))))
    have C0 : Hid (Own w3 w2.heap.size w3.heap.size 42 2 (some ⟨g, 0, none⟩) (specC l).length cc (pvs (specC l))) := Lib.hid (HCO.out.less (by simp))
    have hpos := HST.out.pos
    clear hi0 B1 B2 B2a B3a HCO K HO HMO HCS HGB HCL HR HST
    go_loopw [7, 20] (fun o i wr => ∃ (k : Nat) (lo : List Bl) (N : List Int) (q cq : Nat), k ≤ (specC l).length ∧ i = .int .i64 k ∧ o = .slice (some ⟨q, 0, none⟩) N.length cq ∧ Hid (RestI l cn k lo) ∧ Hid (N = sizesTo (hasB l) cn (specC l) k) ∧ Hid (wr.heap[g1]? = some (.map (ents lo 0).toArray lo.length)) ∧ Hid (Own wr w2.heap.size wr.heap.size 42 2 (some ⟨g, 0, none⟩) (specC l).length cc (pvs (specC l))) ∧ Hid (wr.ownsRow w2.heap.size 2 1 (.slice (some ⟨q, 0, none⟩) N.length cq) N.length (N.map (.int .i64))) ∧ Hid (L8 wr) ∧ Hid (Below w.heap.size w wr)) (fun _ i _ => (specC l).length - (intOf i).toNat)
    case atStart => exact ⟨0, l, [], _, _, Nat.zero_le _, rfl, rfl, Lib.hid (rest_zero HV.out.pic cn), Lib.hid rfl, Lib.hid S0.out.1, C0, Lib.hid S0.out.2.1, Lib.hid S0.out.2.2, B3⟩
    case round =>
      clear S0 C0 B3
      obtain ⟨k, lo, N, q, cq, hk, rfl, rfl, HS, HN, HM, HC, HI, H8, HB⟩ := hrel
      by_cases hlt : k < (specC l).length
      · have hkI : (k : Int) < (specC l).length := by omega
        have hk0 : (0 : Int) ≤ k := by omega
        obtain ⟨x, y, hxy⟩ : ∃ x y, (specC l)[k] = [x, y] := ⟨_, _, two_of ((specC_rows l).at_ hlt)⟩
        have hmem : hasB l x y = true := ((spec_mem HV.out.pic.apart HV.out.pic.bls [x, y]).1 (by rw [← hxy]; exact List.getElem_mem hlt)).2
        obtain ⟨⟨hx2, hx3⟩, ⟨hy2, hy3⟩⟩ := cellB_in (HV.out.cells hmem)
        have hrg := pvs_row2 (specC_rows l) hlt HC.out.rd rfl
        rw [hxy] at hrg
        rw [Nat.zero_add] at hrg
        have HRG : Hid (wr.rangeAt g (k * 2) [.int .i32 x, .int .i32 y]) := Lib.hid hrg
        have hNk : N.length ≤ k := by rw [HN.out]; exact sizes_length _ _ _ _
        have hkc : k ≤ 16384 := by omega
        have HTK := Lib.hid (fun W hst hg => takePiece_any g1 lo HS.out.tab (specC l) (fun u v h => (spec_mem HV.out.pic.apart HV.out.pic.bls [u, v]).2 ⟨rfl, ((HS.out.iff u v).1 h).1⟩) (by omega) (fun u v h => cellB_in (HV.out.cells ((HS.out.iff u v).1 h).1)) x y ⟨hx2, hx3⟩ ⟨hy2, hy3⟩ cn W hst (by omega) hg)
        have hlw : w.heap.size ≤ wr.heap.size := HB.out.size
        cases hh : hasB lo x y
        · have HST := Lib.hid (fun L lo' h1 h2 h3 => HS.out.old (L := L) (lo' := lo') hlt hxy hmem hh h1 h2 h3)
          clear hrg hmem hxy hh
          go_wp2_with (first
            | refine wpList_load_mid rfl _ _ rfl g (k * 2) (by rfl) [.int .i32 x, .int .i32 y] _ HRG.out Tryd.underlying42 rfl (by exact size42) ?_
            | (refine wpList_store_row rfl _ _ _ rfl wr.heap.size (ivs .i32 [x, y]) rfl rfl 42 #[.int .i32 0, .int .i32 0] (Blk.newAt rfl rfl) (by exact size42) rfl ivs_one ?_; generalize hw5 : World.setRow _ _ _ = w5; have G5 : Hid (Blk w5 wr.heap.size 42 (ivs .i32 [x, y])) := Lib.hid (by rw [← hw5]; exact (Blk.newAt rfl rfl).row _); have B5 : Hid (Below wr.heap.size wr w5) := Lib.hid (by rw [← hw5]; exact below_setRow ((Below.refl _ _).alloc (Nat.le_refl _) _) (g := wr.heap.size) (Nat.le_refl _) _); clear hw5)
            | refine wpList_load_row rfl _ _ rfl wr.heap.size rfl 42 (ivs .i32 [x, y]) (0, 0) _ G5.out Tryd.underlying42 rfl (by exact size42) ?_
            | (go_at_call 36; refine (HTK.out _ (H8.out.below B5.out (Nat.zero_le _)).at_ (heap_below B5.out HM.out)).mono ?_; rintro e w6 ⟨A5, c5, L5, lo5, rfl, t1, t2, t3, t4, f5, m5⟩; have HQ := Lib.hid (HST.out L5 lo5 t1 t2 t4); have hl5 : (L5.length : Int) = 0 := (by have := HQ.out.1; omega); have hz5 : w5.heap.size ≤ w6.heap.size := f5.size; have F5 := Lib.hid f5; have M5 := Lib.hid m5; clear t1 t2 t3 t4 f5 m5))
          exact ⟨⟨k + 1, lo5, N, q, cq, by omega, by go_num, rfl, Lib.hid HQ.out.2.1, Lib.hid (HN.out.trans HQ.out.2.2.symm), M5, Lib.hid ((((HC.out.below B5.out (Nat.le_refl _)).more B5.out.size).fr F5.out (Nat.le_refl _) hg1.1).more hz5), Lib.hid (own_fr (own_below HI.out B5.out (Nat.le_refl _)) F5.out (Nat.le_refl _) hg1.1), Lib.hid ((H8.out.below B5.out (Nat.zero_le _)).fr F5.out (by omega) (by have := B5.out.size; omega)), Lib.hid ((HB.out.trans (B5.out.mono hlw)).trans (F5.out.below (by have := B5.out.size; omega) hg1.2))⟩, by simp [intOf]; omega⟩
        · have HST := Lib.hid (fun L lo' h1 h2 h3 => HS.out.new (L := L) (lo' := lo') hlt hxy hh h1 h2 h3)
          have HLL := Lib.hid (fun L (h1 : PieceL (hasB lo) cn x y L) => h1.len (C := specC l) (fun u v h => (spec_mem HV.out.pic.apart HV.out.pic.bls [u, v]).2 ⟨rfl, ((HS.out.iff u v).1 h).1⟩))
          clear hrg hmem hxy hh
          go_wp2_with (first
            | refine wpList_load_mid rfl _ _ rfl g (k * 2) (by rfl) [.int .i32 x, .int .i32 y] _ HRG.out Tryd.underlying42 rfl (by exact size42) ?_
            | (refine wpList_store_row rfl _ _ _ rfl wr.heap.size (ivs .i32 [x, y]) rfl rfl 42 #[.int .i32 0, .int .i32 0] (Blk.newAt rfl rfl) (by exact size42) rfl ivs_one ?_; generalize hw5 : World.setRow _ _ _ = w5; have G5 : Hid (Blk w5 wr.heap.size 42 (ivs .i32 [x, y])) := Lib.hid (by rw [← hw5]; exact (Blk.newAt rfl rfl).row _); have B5 : Hid (Below wr.heap.size wr w5) := Lib.hid (by rw [← hw5]; exact below_setRow ((Below.refl _ _).alloc (Nat.le_refl _) _) (g := wr.heap.size) (Nat.le_refl _) _); clear hw5)
            | refine wpList_load_row rfl _ _ rfl wr.heap.size rfl 42 (ivs .i32 [x, y]) (0, 0) _ G5.out Tryd.underlying42 rfl (by exact size42) ?_
            | (go_at_call 36; refine (HTK.out _ (H8.out.below B5.out (Nat.zero_le _)).at_ (heap_below B5.out HM.out)).mono ?_; rintro e w6 ⟨A5, c5, L5, lo5, rfl, t1, t2, t3, t4, f5, m5⟩; have HQ := Lib.hid (HST.out L5 lo5 t1 t2 t4); have hl5 : (0 : Int) < (L5.length : Int) := (by have := HQ.out.1; omega); have hl6 : L5.length ≤ 16384 := Nat.le_trans (HLL.out L5 t1) hcnt; have hz5 : w5.heap.size ≤ w6.heap.size := f5.size; have hz6 : wr.heap.size ≤ w6.heap.size := Nat.le_trans B5.out.size hz5; have C6 := Lib.hid ((((HC.out.below B5.out (Nat.le_refl _)).more B5.out.size).fr f5 (Nat.le_refl _) hg1.1).more hz5); have I6 := Lib.hid (own_fr (own_below HI.out B5.out (Nat.le_refl _)) f5 (Nat.le_refl _) hg1.1); have E6 := Lib.hid ((H8.out.below B5.out (Nat.zero_le _)).fr f5 (by omega) (by have := B5.out.size; omega)); have B6 := Lib.hid ((HB.out.trans (B5.out.mono hlw)).trans (f5.below (by have := B5.out.size; omega) hg1.2)); have M5 := Lib.hid m5; clear t1 t2 t3 t4 f5 m5; have HN6 := Lib.hid (Blk.news (k := .i64) (l := [(L5.length : Int)]) (t := 2) (w := w6.alloc (.cells #[.int .i64 (L5.length : Int)] 2)) (g := w6.heap.size) (Blk.newAt rfl rfl)))
            | (at_builtin; refine wpList_append_own _ rfl _ _ 33 rfl w2.heap.size 2 i0 _ 1 8 Tryd.underlying33 hi hz0 hz1 hz2 rfl (by decide) (.slice (some ⟨q, 0, none⟩) N.length cq) N.length _ rfl (I6.out.alloc _) ⟨w6.heap.size, 0, none⟩ 1 1 ([(L5.length : Int)].map (.int .i64)) rfl rfl HN6.out ints_one (by unfold maxLen; omega) (by omega) (by have h1 := (I6.out.lt q rfl).1; have h2 := (I6.out.lt q rfl).2; rw [size_alloc]; omega) ?_; intro v' w9 hown' hgrow _; rw [← List.map_append] at hown'; have HOWN := Lib.hid hown'; have HGR := Lib.hid hgrow; clear hown' hgrow))
          obtain ⟨q9, cq9, rfl⟩ := own_some HOWN.out (by omega)
          have hq6 := I6.out.lt q rfl
          have hal : Below w6.heap.size w6 (w6.alloc (.cells #[.int .i64 (L5.length : Int)] 2)) := (Below.refl w6.heap.size w6).alloc (Nat.le_refl _) _
          have hzl : w6.heap.size ≤ (w6.alloc (.cells #[.int .i64 (L5.length : Int)] 2)).heap.size := by simp
          have OC9 := (own_other ((C6.out.below hal (Nat.le_refl _)).more hzl) (I6.out.alloc _) (by decide) HGR.out).more HGR.out.size
          have M9 := heap_grown HGR.out (heap_below hal M5.out) (fun e => by have e2 : g1 = q := Option.some.inj e; omega)
          have E9 := (E6.out.below hal (Nat.zero_le _)).grown HGR.out (fun j e => by have e2 : q = j := Option.some.inj e; omega)
          have B9 := (B6.out.alloc B6.out.size (.cells #[.int .i64 (L5.length : Int)] 2)).grown HGR.out (by have := B6.out.size; omega) (fun j e => by have e2 : q = j := Option.some.inj e; omega)
          exact ⟨⟨k + 1, lo5, N ++ [(L5.length : Int)], q9, cq9, by omega, by go_num, by rw [List.length_append]; rfl, Lib.hid HQ.out.2.1, Lib.hid (by rw [HQ.out.2.2, ← HN.out]), Lib.hid M9, Lib.hid OC9, Lib.hid (by rw [List.length_append]; exact HOWN.out), Lib.hid E9, Lib.hid B9⟩, by simp [intOf]; omega⟩
      · obtain rfl : k = (specC l).length := by omega
        go_wp2
        go_ret2
        obtain ⟨A9, c9, he9, ho9⟩ := Own.of_row HI.out
        cases he9
        exact ⟨_, _, by rw [← HN.out]; rfl, by rw [← HN.out]; exact ho9.less (by omega), HB.out⟩
end Go.Proofs.YthicgmdkipgkaaaDoor
