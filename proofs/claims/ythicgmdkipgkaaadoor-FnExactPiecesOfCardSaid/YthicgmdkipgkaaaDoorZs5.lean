/- Sn, Jb, Lps, Ck1 in one text. -/
import Derived.Test.YthicgmdkipgkaaaDoorRows
import Derived.Test.YthicgmdkipgkaaaDoorCj
import Derived.Test.YthicgmdkipgkaaaDoorCo
import Derived.Test.YthicgmdkipgkaaaDoorZs1
import Derived.Test.YthicgmdkipgkaaaDoorZs4
import Derived.Test.YthicgmdkipgkaaaDoorZs3
namespace Go.Proofs.YthicgmdkipgkaaaDoor
open Go.ChangeShapes Go.WideShapes Go.ChangeAt Go.RowKit
/-- the mark of cell number t of a list of blocks -/
def mkB (k : Int) (t : Nat) : Value := if t % 18 < 2 then .int .i32 (wrap32 (k + t)) else .int .u16 (IntKind.u16.wrap (k + t))
def marksB (k : Int) (m : Nat) : List Value := (List.range m).map (mkB k)
theorem marksB_length (k : Int) (m : Nat) : (marksB k m).length = m := by simp [marksB]
theorem marksB_at {k : Int} {m j : Nat} (h : j < m) : (marksB k m)[j]? = some (mkB k j) := by simp [marksB, List.getElem?_map, List.getElem?_range h]
theorem mkB_corner (k : Int) {i j : Nat} (hj : j < 2) : mkB k (i * 18 + j) = .int .i32 (wrap32 (k + ((i * 18 + j : Nat) : Int))) := by rw [mkB, if_pos (by omega)]
theorem mkB_mask (k : Int) {i j : Nat} (hj : j < 16) : mkB k (i * 18 + 2 + j) = .int .u16 (IntKind.u16.wrap (k + ((i * 18 + 2 + j : Nat) : Int))) := by rw [mkB, if_neg (by omega)]
def MarkedB (w : World) (g sz : Nat) (k : Int) (j : Nat) : Prop := ∃ cur : Array Value, Blk w g 50 cur ∧ cur.size = sz ∧ ∀ i, i < j → cur[i]? = some (mkB k i)
section
variable {w : World} {g sz j : Nat} {k : Int}
theorem MarkedB.step (h : MarkedB w g sz k j) (hj : j < sz) : MarkedB (w.setCell ⟨g, j, none⟩ (mkB k j)) g sz k (j + 1) := by
  obtain ⟨cur, hb, hs, hc⟩ := h
  refine ⟨_, hb.set_ j _, by simp [hs], fun i hi => ?_⟩
  rw [Array.getElem?_setIfInBounds]
  by_cases he : j = i
  · subst he
    rw [if_pos rfl, if_pos (by omega)]
  · rw [if_neg he]
    exact hc i (by omega)
theorem MarkedB.cell (h : MarkedB w g sz k j) {i : Nat} (hi : i < sz) : (∃ u, w.cell? ⟨g, i, none⟩ = some u) ∧ w.frozen? ⟨g, i, none⟩ = false := by
  obtain ⟨cur, hb, hs, hc⟩ := h
  exact ⟨⟨cur[i]'(by omega), by rw [hb.cell]; exact Array.getElem?_eq_getElem (by omega)⟩, hb.frozen i⟩
theorem MarkedB.own {lo hi n c : Nat} (h : MarkedB w g (c * 18) k (n * 18)) (h1 : lo ≤ g) (h2 : g < hi) (h3 : n ≤ c) (h4 : c ≤ maxLen) :
    Own w lo hi 50 18 (some ⟨g, 0, none⟩) n c (marksB k (n * 18)) := by
  obtain ⟨cur, hb, hs, hc⟩ := h
  refine ⟨marksB_length _ _, .inr ⟨g, cur, rfl, h1, h2, hb, h3, h4, hs, ?_⟩⟩
  apply List.ext_getElem?
  intro i
  rw [List.getElem?_take]
  by_cases hi : i < n * 18
  · rw [if_pos hi, marksB_at hi]
    have := hc i hi
    simpa using this
  · rw [if_neg hi, List.getElem?_eq_none (by rw [marksB_length]; omega)]
end
set_option maxRecDepth 20000 in
set_option maxHeartbeats 1600000 in
theorem markBlockS_any (lo hi : Nat) (A : Option Addr) (n c : Nat) (xs : List Value) (k : Int) (h0 : 0 ≤ k) (h1 : k ≤ 4611686018427387904) (hn : n ≤ 100000000) (w : World) (hO : Own w lo hi 50 18 A n c xs) :
    Calls Tryd.prog 11 #[.slice A n c, .int .i64 k] w fun e w' => e = .returned (.int .i64 (k + ((n * 18 : Nat) : Int))) ∧ Own w' lo hi 50 18 A n c (marksB k (n * 18)) ∧ w.grownBy w' (A.map (·.block)) := by
  by_cases hz : n = 0
  · subst hz
    have hx : xs = [] := List.eq_nil_of_length_eq_zero (by have := hO.1; omega)
    subst hx
    go_enter Tryd.func11, Tryd.ntmps11
    go_wp2_with fail
    go_loopw [1, 5] (fun q i wr => q = .int .i64 k ∧ i = .int .i64 0 ∧ wr = w) (fun _ _ _ => 0)
    case atStart => exact ⟨rfl, rfl, rfl⟩
    case round =>
      obtain ⟨rfl, rfl, rfl⟩ := hrel
      go_wp2
      go_ret
      exact ⟨ret_int (by simp), by simpa [marksB] using hO, World.grownBy.refl _ _⟩
  · obtain ⟨g, cur, rfl, hg1, hg2, hb, hnc, hcm, hcs, hxs⟩ := hO.at_ (by omega)
    have hm : MarkedB w g (c * 18) k 0 := ⟨cur, hb, hcs, fun i hi => by omega⟩
    clear hb hcs hxs hO
    go_enter Tryd.func11, Tryd.ntmps11
    go_wp2_with fail
    go_loopw [1, 5] (fun q i wr => ∃ j : Nat, j ≤ n ∧ q = .int .i64 (k + ((j * 18 : Nat) : Int)) ∧ i = .int .i64 j ∧ MarkedB wr g (c * 18) k (j * 18) ∧ w.grownBy wr (some g)) (fun _ i _ => n - (intOf i).toNat)
    case atStart => exact ⟨0, by omega, by simp, rfl, by simpa using hm, World.grownBy.refl _ _⟩
    case round =>
      clear hm
      obtain ⟨j, hj, rfl, rfl, hm, hg⟩ := hrel
      by_cases hlt : j < n
      · go_wp2_with fail
        obtain ⟨wo, rfl⟩ : ∃ wo : World, wo = wr := ⟨_, rfl⟩
        go_loopw [1, 6] (fun q i wq => ∃ m : Nat, m ≤ 2 ∧ q = .int .i64 (k + ((j * 18 + m : Nat) : Int)) ∧ i = .int .i64 m ∧ MarkedB wq g (c * 18) k (j * 18 + m) ∧ w.grownBy wq (some g)) (fun _ i _ => 2 - (intOf i).toNat)
        case atStart => exact ⟨0, by omega, rfl, rfl, hm, hg⟩
        case round =>
          clear hm hg
          obtain ⟨m, hmm, rfl, rfl, hm, hg⟩ := hrel
          by_cases hlt2 : m < 2
          · obtain ⟨⟨u, c1⟩, f1⟩ := hm.cell (i := j * 18 + m) (by omega)
            have hs := hm.step (by omega)
            rw [mkB_corner k hlt2] at hs
            have HS := Lib.hid hs
            have hin : (j : Int) < (n : Int) := by omega
            clear hs hm
            go_wp2
            exact ⟨⟨m + 1, by omega, by congr 1; omega, by go_num, HS.out, only_setCell hg rfl _⟩, by simp [intOf]; omega⟩
          · have : m = 2 := by omega
            subst this
            go_wp2_with fail
            obtain ⟨wo2, rfl⟩ : ∃ wo2 : World, wo2 = wr := ⟨_, rfl⟩
            go_loopw [1, 7] (fun q i wq => ∃ m : Nat, m ≤ 16 ∧ q = .int .i64 (k + ((j * 18 + 2 + m : Nat) : Int)) ∧ i = .int .i64 m ∧ MarkedB wq g (c * 18) k (j * 18 + 2 + m) ∧ w.grownBy wq (some g)) (fun _ i _ => 16 - (intOf i).toNat)
            case atStart => exact ⟨0, by omega, rfl, rfl, hm, hg⟩
            case round =>
              clear hm hg
              obtain ⟨m, hmm, rfl, rfl, hm, hg⟩ := hrel
              by_cases hlt3 : m < 16
              · obtain ⟨⟨u, c1⟩, f1⟩ := hm.cell (i := j * 18 + 2 + m) (by omega)
                have hs := hm.step (by omega)
                rw [mkB_mask k hlt3] at hs
                have HS := Lib.hid hs
                have hin : (j : Int) < (n : Int) := by omega
                clear hs hm
                go_wp2
                exact ⟨⟨m + 1, by omega, by congr 1; omega, by go_num, HS.out, only_setCell hg rfl _⟩, by simp [intOf]; omega⟩
              · have : m = 16 := by omega
                subst this
                go_wp2
                exact ⟨⟨j + 1, by omega, by congr 1; omega, by go_num, by rw [Nat.add_mul, Nat.one_mul]; exact hm, hg⟩, by simp [intOf]; omega⟩
      · have : j = n := by omega
        subst this
        go_wp2
        go_ret
        exact ⟨rfl, MarkedB.own hm hg1 hg2 hnc hcm, hg⟩
set_option maxRecDepth 20000 in
set_option maxHeartbeats 1600000 in
theorem heldBlockS_any (A : Option Addr) (n c : Nat) (k : Int) (h0 : 0 ≤ k) (h1 : k ≤ 4611686018427387904) (hn : n ≤ 100000000) (w : World) (hR : Rd w w.heap.size 18 A n (marksB k (n * 18))) :
    Calls Tryd.prog 12 #[.slice A n c, .int .i64 k] w fun e w' => e = .returned (.int .i64 (k + ((n * 18 : Nat) : Int))) ∧ w = w' := by
  go_enter Tryd.func12, Tryd.ntmps12
  go_wp2_with fail
  go_loop [1, 5] (fun q i => ∃ j : Nat, j ≤ n ∧ q = .int .i64 (k + ((j * 18 : Nat) : Int)) ∧ i = .int .i64 j) (fun _ i => n - (intOf i).toNat)
  case atStart => exact ⟨0, by omega, by simp, rfl⟩
  case round =>
    obtain ⟨j, hj, rfl, rfl⟩ := hrel
    by_cases hlt : j < n
    · obtain ⟨b, o, rfl, hbB, hc⟩ := hR.at_ (by omega)
      have Hc := Lib.hid hc
      clear hc hR hbB
      go_wp2_with fail
      go_loop [1, 6] (fun q i => ∃ m : Nat, m ≤ 2 ∧ q = .int .i64 (k + ((j * 18 + m : Nat) : Int)) ∧ i = .int .i64 m) (fun _ i => 2 - (intOf i).toNat)
      case atStart => exact ⟨0, by omega, rfl, rfl⟩
      case round =>
        obtain ⟨m, hmm, rfl, rfl⟩ := hrel
        by_cases hlt2 : m < 2
        · have c1 := Hc.out (j * 18 + m) _ (marksB_at (by omega))
          rw [← Nat.add_assoc, mkB_corner k hlt2] at c1
          have hin : (j : Int) < (n : Int) := by omega
          go_wp2
          exact ⟨⟨m + 1, by omega, by congr 1; omega, by go_num⟩, by simp [intOf]; omega⟩
        · have : m = 2 := by omega
          subst this
          go_wp2_with fail
          go_loop [1, 7] (fun q i => ∃ m : Nat, m ≤ 16 ∧ q = .int .i64 (k + ((j * 18 + 2 + m : Nat) : Int)) ∧ i = .int .i64 m) (fun _ i => 16 - (intOf i).toNat)
          case atStart => exact ⟨0, by omega, rfl, rfl⟩
          case round =>
            obtain ⟨m, hmm, rfl, rfl⟩ := hrel
            by_cases hlt3 : m < 16
            · have c1 := Hc.out (j * 18 + 2 + m) _ (marksB_at (by omega))
              rw [← Nat.add_assoc, ← Nat.add_assoc, mkB_mask k hlt3] at c1
              have hin : (j : Int) < (n : Int) := by omega
              go_wp2
              exact ⟨⟨m + 1, by omega, by congr 1; omega, by go_num⟩, by simp [intOf]; omega⟩
            · have : m = 16 := by omega
              subst this
              go_wp2
              exact ⟨⟨j + 1, by omega, by congr 1; omega, by go_num⟩, by simp [intOf]; omega⟩
    · have : j = n := by omega
      subst this
      go_wp2
      go_ret
      exact ⟨rfl, rfl⟩
end Go.Proofs.YthicgmdkipgkaaaDoor
namespace Go.Proofs.YthicgmdkipgkaaaDoor
open Go.ChangeShapes Go.WideShapes Go.ChangeAt Go.RowKit
theorem picOf_bls (F : List Int → List Int) : Bls (picOf F) := by
  rw [picOf]
  split
  · rename_i h
    exact h.choose_spec.1.bls
  · exact fun b hb => by cases hb
theorem picR_bls {P : List Bl} (h : Bls P) : Bls (picR P) := by
  rw [picR]
  split
  · exact h
  · exact fun b hb => by cases hb
theorem cmbL_bls (f : Int → Int → Int) (a b : List Bl) : Bls (cmbL f a b) := by
  rw [cmbL]
  split
  · exact picR_bls (picOf_bls _)
  · exact fun b hb => by cases hb
end Go.Proofs.YthicgmdkipgkaaaDoor
namespace Go.Proofs.YthicgmdkipgkaaaDoor
open Go.ChangeShapes Go.WideShapes Go.ChangeAt Go.RowKit

set_option maxRecDepth 100000 in
set_option maxHeartbeats 1600000 in
theorem lawPiecesOf_in (A : Option Addr) (n c : Nat) (l : List Bl) (hl : l.length = n) (hrow : Bls l) (h16 : ∀ b ∈ l, is16 b.2) (h32 : ∀ b ∈ l, ∀ x ∈ b.1, -2147483648 ≤ x ∧ x ≤ 2147483647) (cn : Bool) (hn : n ≤ 1048576) (w : World) (RA : Rd w w.heap.size 18 A n (bcs l)) (QS : L8 w) :
    Calls Tryd.prog 5 #[.slice A n c, .bool cn] w fun e w' => e = .returned (.bool true) ∧ Below w.heap.size w w' := by
  have hbl : (bcs l).length = n * 18 := by rw [bcs_length hrow, hl]
  have HBL := Lib.hid hbl
  have Hrow := Lib.hid hrow
  have Hl := Lib.hid hl
  have hpos := QS.pos
  have SP := Lib.hid (fun A c W (hW : Rd W W.heap.size 18 A n (bcs l)) => sPiecesOf_any A n c l hl hrow h16 h32 cn (by omega) W hW)
  have IP := Lib.hid (fun A c W (hW : Rd W W.heap.size 18 A n (bcs l)) (hQ : L8 W) => iPiecesOf_any A n c l hl hrow h16 h32 cn (by omega) W hQ.at_ hW)
  have hLL := psL_length hrow h16 cn
  clear hl hrow hbl h16 h32
  generalize psL l cn = RES at *
  generalize psK l = code at *
  have B0 : Below w.heap.size w w := Below.refl _ _
  go_enter Tryd.func5, Tryd.ntmps5
  go_wp2_with fail
  refine (szBlockS_in A n c (1048576) (by omega) (by omega) _).mono ?_
  rintro e wx ⟨rfl, rfl⟩
  go_wp2_with fail
  refine (toBlockS_any A n c l Hl.out Hrow.out (by omega) _ (RA.more (by omega))).mono ?_
  rintro e w1 ⟨rfl, bb0, hb1⟩
  have z1 := hb1.size
  have RA_1 := RA.below hb1 (by omega)
  have QS_1 := QS.below hb1 (by omega)
  have B1 := B0.trans (hb1.mono (by omega))
  clear RA QS hb1 B0
  have OT0 := bb0.ownV (n := n) (size := 18) (lo := w.heap.size) (hi := w1.heap.size) HBL.out (Nat.le_refl _) (by have := bb0.lt; omega) (by unfold maxLen; omega)
  clear bb0
  go_wp2_with fail
  refine (SP.out _ _ _ (OT0.rd.more (by omega))).mono ?_
  rintro e w2 ⟨AW, cW, rfl, OW, hb2⟩
  have z2 := hb2.size
  have RA_2 := RA_1.below hb2 (by omega)
  have QS_2 := QS_1.below hb2 (by omega)
  have OT0_2 := OT0.below hb2 (by omega)
  have B2 := B1.trans (hb2.mono (by omega))
  clear RA_1 QS_1 OT0 hb2 B1
  go_wp2_with fail
  refine (toBlockS_any A n c l Hl.out Hrow.out (by omega) _ (RA_2.more (by omega))).mono ?_
  rintro e w3 ⟨rfl, bb1, hb3⟩
  have z3 := hb3.size
  have RA_3 := RA_2.below hb3 (by omega)
  have QS_3 := QS_2.below hb3 (by omega)
  have OW_3 := OW.below hb3 (by omega)
  have B3 := B2.trans (hb3.mono (by omega))
  clear RA_2 QS_2 OW hb3 B2
  have OX0 := bb1.ownV (n := n) (size := 18) (lo := w2.heap.size) (hi := w3.heap.size) HBL.out (Nat.le_refl _) (by have := bb1.lt; omega) (by unfold maxLen; omega)
  clear bb1
  go_wp2_with fail
  refine (IP.out _ _ _ (OX0.rd.more (by omega)) QS_3).mono ?_
  rintro e w4 ⟨AG, cG, rfl, OG, hb4⟩
  have z4 := hb4.size
  have RA_4 := RA_3.below hb4 (by omega)
  have QS_4 := QS_3.below hb4 (by omega)
  have OW_4 := OW_3.below hb4 (by omega)
  have OX0_4 := OX0.below hb4 (by omega)
  have B4 := B3.trans (hb4.mono (by omega))
  clear RA_3 QS_3 OW_3 OX0 hb4 B3
  go_wp2_with fail
  refine (eqInt64S_same _ _ _ _ _ RES (by omega) _ (OG.rd.more (by omega)) (OW_4.rd.more (by omega))).mono ?_
  rintro e w5 ⟨rfl, hb5⟩
  have z5 := hb5.size
  have RA_5 := RA_4.below hb5 (by omega)
  have QS_5 := QS_4.below hb5 (by omega)
  have OW_5 := OW_4.below hb5 (by omega)
  have OX0_5 := OX0_4.below hb5 (by omega)
  have OG_5 := OG.below hb5 (by omega)
  have B5 := B4.trans (hb5.mono (by omega))
  clear RA_4 QS_4 OW_4 OX0_4 OG hb5 B4
  go_wp2_with fail
  refine (toBlockS_any A n c l Hl.out Hrow.out (by omega) _ (RA_5.more (by omega))).mono ?_
  rintro e w6 ⟨rfl, bb2, hb6⟩
  have z6 := hb6.size
  have RA_6 := RA_5.below hb6 (by omega)
  have QS_6 := QS_5.below hb6 (by omega)
  have OW_6 := OW_5.below hb6 (by omega)
  have OX0_6 := OX0_5.below hb6 (by omega)
  have OG_6 := OG_5.below hb6 (by omega)
  have B6 := B5.trans (hb6.mono (by omega))
  clear RA_5 QS_5 OW_5 OX0_5 OG_5 hb6 B5
  have OY0 := bb2.ownV (n := n) (size := 18) (lo := w5.heap.size) (hi := w6.heap.size) HBL.out (Nat.le_refl _) (by have := bb2.lt; omega) (by unfold maxLen; omega)
  clear bb2
  go_wp2_with fail
  refine (eqBlockS_same _ _ _ _ _ l Hl.out Hrow.out (by omega) _ (OX0_6.rd.more (by omega)) (OY0.rd.more (by omega))).mono ?_
  rintro e w7 ⟨rfl, hb7⟩
  have z7 := hb7.size
  have RA_7 := RA_6.below hb7 (by omega)
  have QS_7 := QS_6.below hb7 (by omega)
  have OW_7 := OW_6.below hb7 (by omega)
  have OX0_7 := OX0_6.below hb7 (by omega)
  have OG_7 := OG_6.below hb7 (by omega)
  have OY0_7 := OY0.below hb7 (by omega)
  have B7 := B6.trans (hb7.mono (by omega))
  clear RA_6 QS_6 OW_6 OX0_6 OG_6 OY0 hb7 B6
  go_wp2_with fail
  refine (markBlockS_any _ _ _ _ _ _ (1) (by omega) (by omega) (by omega) _ OX0_7).mono ?_
  rintro e w8 ⟨rfl, _, hb8⟩
  have z8 := hb8.size
  have RA_8 := RA_7.grown hb8 (by omega) (fun g e => by have := OX0_7.blk g e; omega)
  have QS_8 := QS_7.grown hb8 (fun g e => by have := OX0_7.blk g e; omega)
  have OW_8 := OW_7.grown hb8 (fun g e => by have := OX0_7.blk g e; omega)
  have OG_8 := OG_7.grown hb8 (fun g e => by have := OX0_7.blk g e; omega)
  have B8 := B7.grown hb8 (by omega) (fun g e => by have := OX0_7.blk g e; omega)
  clear RA_7 QS_7 OW_7 OX0_7 OG_7 hb8 B7
  go_wp2_with fail
  refine (eqInt64S_same _ _ _ _ _ RES (by omega) _ (OG_8.rd.more (by omega)) (OW_8.rd.more (by omega))).mono ?_
  rintro e w9 ⟨rfl, hb9⟩
  have z9 := hb9.size
  have RA_9 := RA_8.below hb9 (by omega)
  have QS_9 := QS_8.below hb9 (by omega)
  have OW_9 := OW_8.below hb9 (by omega)
  have OG_9 := OG_8.below hb9 (by omega)
  have B9 := B8.trans (hb9.mono (by omega))
  clear RA_8 QS_8 OW_8 OG_8 hb9 B8
  go_wp2_with fail
  refine (markInt64S_any _ _ _ _ _ _ 1 (by omega) (by omega) (by omega) _ OG_9).mono ?_
  rintro e w10 ⟨rfl, OM, hb10⟩
  have z10 := hb10.size
  have RA_10 := RA_9.grown hb10 (by omega) (fun g e => by have := OG_9.blk g e; omega)
  have QS_10 := QS_9.grown hb10 (fun g e => by have := OG_9.blk g e; omega)
  have OW_10 := OW_9.grown hb10 (fun g e => by have := OG_9.blk g e; omega)
  have B10 := B9.grown hb10 (by omega) (fun g e => by have := OG_9.blk g e; omega)
  clear RA_9 QS_9 OW_9 OG_9 hb10 B9
  go_wp2_with fail
  refine (heldInt64S_any _ _ _ 1 (by omega) (by omega) (by omega) _ (OM.rd.more (by omega))).mono ?_
  rintro e wx ⟨rfl, rfl⟩
  go_wp2_with fail
  refine (toBlockS_any A n c l Hl.out Hrow.out (by omega) _ (RA_10.more (by omega))).mono ?_
  rintro e w11 ⟨rfl, bb3, hb11⟩
  have z11 := hb11.size
  have RA_11 := RA_10.below hb11 (by omega)
  have QS_11 := QS_10.below hb11 (by omega)
  have OW_11 := OW_10.below hb11 (by omega)
  have OM_11 := OM.below hb11 (by omega)
  have B11 := B10.trans (hb11.mono (by omega))
  clear RA_10 QS_10 OW_10 OM hb11 B10
  have OZ0 := bb3.ownV (n := n) (size := 18) (lo := w10.heap.size) (hi := w11.heap.size) HBL.out (Nat.le_refl _) (by have := bb3.lt; omega) (by unfold maxLen; omega)
  clear bb3
  go_wp2_with fail
  refine (IP.out _ _ _ (OZ0.rd.more (by omega)) QS_11).mono ?_
  rintro e w12 ⟨AH, cH, rfl, OH, hb12⟩
  have z12 := hb12.size
  have RA_12 := RA_11.below hb12 (by omega)
  have QS_12 := QS_11.below hb12 (by omega)
  have OW_12 := OW_11.below hb12 (by omega)
  have OM_12 := OM_11.below hb12 (by omega)
  have OZ0_12 := OZ0.below hb12 (by omega)
  have B12 := B11.trans (hb12.mono (by omega))
  clear RA_11 QS_11 OW_11 OM_11 OZ0 hb12 B11
  go_wp2_with fail
  refine (eqInt64S_same _ _ _ _ _ RES (by omega) _ (OH.rd.more (by omega)) (OW_12.rd.more (by omega))).mono ?_
  rintro e w13 ⟨rfl, hb13⟩
  have z13 := hb13.size
  have RA_13 := RA_12.below hb13 (by omega)
  have QS_13 := QS_12.below hb13 (by omega)
  have OW_13 := OW_12.below hb13 (by omega)
  have OM_13 := OM_12.below hb13 (by omega)
  have OH_13 := OH.below hb13 (by omega)
  have B13 := B12.trans (hb13.mono (by omega))
  clear RA_12 QS_12 OW_12 OM_12 OH hb13 B12
  go_wp2_with fail
  refine (heldInt64S_any _ _ _ 1 (by omega) (by omega) (by omega) _ (OM_13.rd.more (by omega))).mono ?_
  rintro e wx ⟨rfl, rfl⟩
  go_wp2
  go_ret
  exact ⟨rfl, B13⟩

set_option maxRecDepth 100000 in
set_option maxHeartbeats 400000 in
theorem lawPiecesOf_any (A : Option Addr) (n c : Nat) (l : List Bl) (hl : l.length = n) (hrow : Bls l) (h16 : ∀ b ∈ l, is16 b.2) (h32 : ∀ b ∈ l, ∀ x ∈ b.1, -2147483648 ≤ x ∧ x ≤ 2147483647) (cn : Bool) (hs : n ≤ 9223372036854775807) (w : World) (hR : Rd w w.heap.size 18 A n (bcs l)) (hQ : L8 w) :
    Calls Tryd.prog 5 #[.slice A n c, .bool cn] w fun e w' => e = .returned (.bool true) ∧ Below w.heap.size w w' := by
  by_cases h : n ≤ 1048576
  · exact lawPiecesOf_in A n c l hl hrow h16 h32 cn h w hR hQ
  · clear hl hrow h16 h32 hR
    go_enter Tryd.func5, Tryd.ntmps5
    go_wp2_with fail
    refine (szBlockS_out A n c 1048576 (by omega) (by omega) (by omega) (by omega) _).mono ?_
    rintro e wx ⟨rfl, rfl⟩
    go_wp2
    go_ret
    exact ⟨rfl, Below.refl _ _⟩
end Go.Proofs.YthicgmdkipgkaaaDoor
namespace Go.Proofs.YthicgmdkipgkaaaDoor
open Go.ChangeShapes Go.WideShapes Go.ChangeAt Go.RowKit

theorem is16_of_wfs {l : List Int} (h : wfs .u16 l) : is16 l := fun x hx => by
  have := h x hx
  simp only [Lit.wf, Bool.and_eq_true, IntKind.min, IntKind.max, IntKind.signed, IntKind.bits] at this
  simp at this
  omega
theorem i32_of_wfs {l : List Int} (h : wfs .i32 l) : ∀ x ∈ l, -2147483648 ≤ x ∧ x ≤ 2147483647 := fun x hx => by
  have := h x hx
  simp only [Lit.wf, Bool.and_eq_true, IntKind.min, IntKind.max, IntKind.signed, IntKind.bits] at this
  simp at this
  omega
end Go.Proofs.YthicgmdkipgkaaaDoor
