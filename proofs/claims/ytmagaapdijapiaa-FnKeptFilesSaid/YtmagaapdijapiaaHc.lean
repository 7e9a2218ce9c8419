/- BrokenFrames: the reference's and the program's walk come to the same indices. -/
import Derived.Test.YtmagaapdijapiaaRows
import Derived.Test.YtmagaapdijapiaaFrE
import Derived.Test.YtmagaapdijapiaaSf
import Derived.Test.YtmagaapdijapiaaSb
import Derived.Test.YtmagaapdijapiaaHa
namespace Go.Proofs.Ytmagaapdijapiaa
open Go.ChangeShapes Go.WideShapes Go.ChangeAt Go.RowKit

def brokenTo (l : List (List Int)) : Nat → List Int
  | 0 => []
  | k + 1 => brokenTo l k ++ (if soundB k (l.getD k []) then [] else [(k : Int)])
theorem brokenTo_length (l : List (List Int)) : ∀ k, (brokenTo l k).length ≤ k
  | 0 => Nat.le_refl _
  | k + 1 => by
    have := brokenTo_length l k
    unfold brokenTo
    split <;> simp <;> omega
def brokenOf (l : List (List Int)) : List Int := if l.length ≤ 700 then brokenTo l l.length else []
theorem brokenOf_length (l : List (List Int)) : (brokenOf l).length ≤ 700 := by
  unfold brokenOf
  split
  · have := brokenTo_length l l.length; omega
  · simp

def GivesIdx (out : List Int) (w : World) (e : Ending) (w' : World) : Prop :=
  ∃ A c, e = .returned (.slice A out.length c) ∧ Own w' w.heap.size w'.heap.size 2 1 A out.length c (out.map (.int .i64)) ∧ Below w.heap.size w w'
def GivesIdxs (out : List Int) (code : Int) (w : World) (e : Ending) (w' : World) : Prop :=
  ∃ A c, e = .returned (.tuple #[.slice A out.length c, .int .i64 code]) ∧ Own w' w.heap.size w'.heap.size 2 1 A out.length c (out.map (.int .i64)) ∧ Below w.heap.size w w'

set_option maxRecDepth 20000 in
set_option maxHeartbeats 3200000 in
theorem l09Broken_any (A : Option Addr) (n c : Nat) (l : List (List Int)) (hl : l.length = n) (hrow : Rows_ 16 l) (hn : n ≤ 700) (w : World) (hR : Rd w w.heap.size 16 A n (l.flatten.map (.int .u8))) :
    Calls Try.prog 98 #[.slice A n c] w (GivesIdx (brokenTo l n) w) := by
  obtain ⟨i0, hi, hz0, hz1, hz2⟩ := info_parts Int64_info
  have hsz : (Try.prog.info? 87).map (·.size) = some 16 := by kernel_rfl
  have Hl := Lib.hid hl
  have Hrow := Lib.hid hrow
  have HR := Lib.hid hR
  clear hl hrow hR
  go_enter Try.func98, Try.ntmps98
  go_wp2
  go_loopw [3, 4] (fun v i wr => ∃ k : Nat, k ≤ n ∧ i = .int .i64 k ∧ wr.ownsRow w.heap.size 2 1 v (brokenTo l k).length ((brokenTo l k).map (.int .i64)) ∧ Below w.heap.size w wr) (fun _ i _ => n - (intOf i).toNat)
  case atStart =>
    refine ⟨0, by omega, rfl, ?_, (Below.refl _ _).alloc (Nat.le_refl _) _⟩
    exact World.ownsRow_lit (e := 2) (base := w.heap.size) (size := 1) w #[] 0 (Nat.le_refl _) (by unfold maxLen; omega) rfl
  case round =>
    obtain ⟨k, hk, rfl, hown, hb⟩ := hrel
    by_cases hlt : k < n
    · obtain ⟨b, o, rfl, hbB, hc⟩ := (HR.out.below hb (Nat.le_refl _)).at_ (by omega)
      have hkl : k < l.length := by rw [Hl.out]; exact hlt
      have hrg : wr.rangeAt b (o + k * 16) ((l[k]'hkl).map (.int .u8)) := by
        have := Rd.rangeAt (i := k * 16) (s := 16) hc
        rw [← List.map_drop, ← List.map_take, flat_row Hrow.out hkl] at this
        exact this
      have hFl : (l[k]'hkl).length = 16 := Hrow.out.at_ _
      have hbt : brokenTo l (k + 1) = brokenTo l k ++ (if soundB k (l[k]'hkl) then [] else [(k : Int)]) := by
        show brokenTo l k ++ (if soundB k (l.getD k []) then [] else [(k : Int)]) = _
        rw [List.getD_eq_getElem?_getD, List.getElem?_eq_getElem hkl]
        rfl
      have hbl := brokenTo_length l k
      obtain ⟨F, hF⟩ : ∃ F, F = l[k]'hkl := ⟨_, rfl⟩
      rw [← hF] at hrg hFl hbt
      have hs := l09Sound_any F hFl k wr
      cases hq : soundB k F
      · rw [hq] at hs hbt
        have hbt' : brokenTo l (k + 1) = brokenTo l k ++ [(k : Int)] := hbt
        have Hbt := Lib.hid hbt'
        have Hs := Lib.hid hs
        have HFl := Lib.hid hFl
        have Hrg := Lib.hid hrg
        have b1 : (k : Int) < (n : Int) := by omega
        have hz := hb.size
        clear hc hrg hFl hF hbB hbt hbt' hs hq
        go_wp2_with (refine wpList_load_ivs rfl _ _ rfl b (o + k * 16) (by rfl) .u8 F _ Hrg.out Try.underlying87 rfl (by rw [HFl.out]; exact hsz) ?_)
        refine (Hs.out).mono ?_
        rintro e w2 ⟨rfl, hb2⟩
        have hz2' := hb2.size
        have ho2 := own_below hown hb2 (Nat.le_refl _)
        have bb := hb.trans (hb2.mono hz)
        have HO := Lib.hid ho2
        have hblk : Blk (w2.alloc (.cells (ivs .i64 [(k : Int)]) 2)) w2.heap.size 2 (ivs .i64 [(k : Int)]) := Blk.newAt rfl rfl
        have Hn := Lib.hid hblk.news
        clear ho2 hown hb2 hb hblk
        go_wp2_with (at_builtin; refine wpList_append_own _ rfl (.tmp 19) (.tmp 21) 144 rfl w.heap.size 2 i0 _ 1 8 Try.underlying144 hi hz0 hz1 hz2 rfl (by decide) u3 (brokenTo l k).length _ rfl (HO.out.alloc _) ⟨w2.heap.size, 0, none⟩ 1 1 ([(k : Int)].map (.int .i64)) rfl rfl Hn.out ints_one (by unfold maxLen; omega) (by omega) (by rw [size_alloc]; omega) ?_; intro v' w1 hown' hgrow _)
        refine ⟨⟨k + 1, by omega, by go_num, ?_, (bb.alloc (by omega) _).grown hgrow (by rw [size_alloc]; omega) (fun j e => (HO.out.lt _ e).1)⟩, by simp [intOf]; omega⟩
        rw [Hbt.out, List.map_append, List.length_append]
        exact hown'
      · rw [hq] at hs hbt
        have hbt' : brokenTo l (k + 1) = brokenTo l k := by rw [hbt]; simp
        have Hbt := Lib.hid hbt'
        have Hs := Lib.hid hs
        have HFl := Lib.hid hFl
        have Hrg := Lib.hid hrg
        have b1 : (k : Int) < (n : Int) := by omega
        have hz := hb.size
        clear hc hrg hFl hF hbB hbt hbt' hs hq
        go_wp2_with (refine wpList_load_ivs rfl _ _ rfl b (o + k * 16) (by rfl) .u8 F _ Hrg.out Try.underlying87 rfl (by rw [HFl.out]; exact hsz) ?_)
        refine (Hs.out).mono ?_
        rintro e w2 ⟨rfl, hb2⟩
        have ho2 := own_below hown hb2 (Nat.le_refl _)
        have bb := hb.trans (hb2.mono hz)
        clear hown hb2 hb
        go_wp2
        refine ⟨⟨k + 1, by omega, by go_num, ?_, bb⟩, by simp [intOf]; omega⟩
        rw [Hbt.out]
        exact ho2
    · have : k = n := by omega
      subst this
      obtain ⟨A', c', rfl, hO⟩ := Own.of_row hown
      go_wp2
      go_ret
      exact ⟨A', c', rfl, hO, hb⟩

set_option maxRecDepth 20000 in
set_option maxHeartbeats 3200000 in
theorem iBrokenFrames_any (A : Option Addr) (n c : Nat) (l : List (List Int)) (hl : l.length = n) (hrow : Rows_ 16 l) (hn : n ≤ 1048576) (hnc : n ≤ c) (hc63 : c ≤ 9223372036854775807) (w : World) (hR : Rd w w.heap.size 16 A n (l.flatten.map (.int .u8))) :
    Calls Try.prog 102 #[.slice A n c] w (GivesIdxs (brokenOf l) (limitOf n) w) := by
  obtain ⟨i0, hi, hz0, hz1, hz2⟩ := info_parts Int64_info
  have hsz : (Try.prog.info? 87).map (·.size) = some 16 := by kernel_rfl
  by_cases h7 : n ≤ 700
  · have e1 : brokenOf l = brokenTo l n := by simp [brokenOf, hl, h7]
    have e2 : limitOf n = 0 := by simp [limitOf, h7]
    rw [e1, e2]
    clear e1 e2
    have Hl := Lib.hid hl
    have Hrow := Lib.hid hrow
    have HR := Lib.hid hR
    clear hl hrow hR
    go_enter Try.func102, Try.ntmps102
    go_wp2
    go_loopw [4, 5, 6, 13] (fun v _ _ i wr => ∃ k : Nat, k ≤ n ∧ i = .int .i64 k ∧ wr.ownsRow w.heap.size 2 1 v (brokenTo l k).length ((brokenTo l k).map (.int .i64)) ∧ Below w.heap.size w wr) (fun _ _ _ i _ => n - (intOf i).toNat)
    case atStart =>
      refine ⟨0, by omega, rfl, ?_, (Below.refl _ _).alloc (Nat.le_refl _) _⟩
      exact World.ownsRow_lit (e := 2) (base := w.heap.size) (size := 1) w #[] 0 (Nat.le_refl _) (by unfold maxLen; omega) rfl
    case round =>
      obtain ⟨k, hk, rfl, hown, hb⟩ := hrel
      by_cases hlt : k < n
      · obtain ⟨b, o, rfl, hbB, hc⟩ := (HR.out.below hb (Nat.le_refl _)).at_ (by omega)
        have hkl : k < l.length := by rw [Hl.out]; exact hlt
        have hrg : wr.rangeAt b (o + k * 16) ((l[k]'hkl).map (.int .u8)) := by
          have := Rd.rangeAt (i := k * 16) (s := 16) hc
          rw [← List.map_drop, ← List.map_take, flat_row Hrow.out hkl] at this
          exact this
        have hFl : (l[k]'hkl).length = 16 := Hrow.out.at_ _
        have hbt : brokenTo l (k + 1) = brokenTo l k ++ (if soundB k (l[k]'hkl) then [] else [(k : Int)]) := by
          show brokenTo l k ++ (if soundB k (l.getD k []) then [] else [(k : Int)]) = _
          rw [List.getD_eq_getElem?_getD, List.getElem?_eq_getElem hkl]
          rfl
        have hbl := brokenTo_length l k
        obtain ⟨F, hF⟩ : ∃ F, F = l[k]'hkl := ⟨_, rfl⟩
        rw [← hF] at hrg hFl hbt
        have r1 : Blk (wr.alloc (.cells #[.int .u8 0, .int .u8 0, .int .u8 0, .int .u8 0, .int .u8 0, .int .u8 0, .int .u8 0, .int .u8 0, .int .u8 0, .int .u8 0, .int .u8 0, .int .u8 0, .int .u8 0, .int .u8 0, .int .u8 0, .int .u8 0] 87)) wr.heap.size 87 (ivs .u8 (List.replicate 16 0)) := Blk.newAt rfl rfl
        have s1 : Blk ((wr.alloc (.cells #[.int .u8 0, .int .u8 0, .int .u8 0, .int .u8 0, .int .u8 0, .int .u8 0, .int .u8 0, .int .u8 0, .int .u8 0, .int .u8 0, .int .u8 0, .int .u8 0, .int .u8 0, .int .u8 0, .int .u8 0, .int .u8 0] 87)).setRow wr.heap.size (ivs .u8 F)) wr.heap.size 87 (ivs .u8 F) := r1.row _
        have s2 : Below wr.heap.size wr ((wr.alloc (.cells #[.int .u8 0, .int .u8 0, .int .u8 0, .int .u8 0, .int .u8 0, .int .u8 0, .int .u8 0, .int .u8 0, .int .u8 0, .int .u8 0, .int .u8 0, .int .u8 0, .int .u8 0, .int .u8 0, .int .u8 0, .int .u8 0] 87)).setRow wr.heap.size (ivs .u8 F)) := below_setRow ((Below.refl _ _).alloc (Nat.le_refl _) _) (Nat.le_refl _) _
        have s3 := own_below hown s2 (Nat.le_refl _)
        have s4 := s2.size
        have hs := isSound_any F hFl k ((wr.alloc (.cells #[.int .u8 0, .int .u8 0, .int .u8 0, .int .u8 0, .int .u8 0, .int .u8 0, .int .u8 0, .int .u8 0, .int .u8 0, .int .u8 0, .int .u8 0, .int .u8 0, .int .u8 0, .int .u8 0, .int .u8 0, .int .u8 0] 87)).setRow wr.heap.size (ivs .u8 F))
        cases hq : soundB k F
        · rw [hq] at hs hbt
          have hbt' : brokenTo l (k + 1) = brokenTo l k ++ [(k : Int)] := hbt
          have Hbt := Lib.hid hbt'
          have Hs := Lib.hid hs
          have HFl := Lib.hid hFl
          have Hrg := Lib.hid hrg
          have b1 : (k : Int) < (n : Int) := by omega
          have hz := hb.size
          have bb0 := hb.trans (s2.mono hz)
          have Hs4 := Lib.hid s4
          have HO3 := Lib.hid s3
          clear hc hrg hFl hF hbB hbt hbt' hs hq s3 s4 s2 hown hb
          go_wp2_with (first
            | refine wpList_load_ivs rfl _ _ rfl b (o + k * 16) (by rfl) .u8 F _ Hrg.out Try.underlying87 rfl (by rw [HFl.out]; exact hsz) ?_
            | refine wpList_store_row rfl _ _ _ rfl wr.heap.size (ivs .u8 F) rfl rfl 87 _ r1 (by rw [ivs_size, HFl.out]; exact hsz) (by simp [ivs_size, HFl.out]) ivs_one ?_
            | refine wpList_load_row rfl _ _ rfl wr.heap.size rfl 87 (ivs .u8 F) (0, 0) _ s1 Try.underlying87 rfl (by rw [ivs_size, HFl.out]; exact hsz) ?_)
          refine (Hs.out).mono ?_
          rintro e w2 ⟨rfl, hb2⟩
          have hz2' := hb2.size
          have hz4 := Hs4.out
          have ho2 := own_below HO3.out hb2 (Nat.le_refl _)
          have bb := bb0.trans (hb2.mono (by omega))
          have HO := Lib.hid ho2
          have hblk : Blk (w2.alloc (.cells (ivs .i64 [(k : Int)]) 2)) w2.heap.size 2 (ivs .i64 [(k : Int)]) := Blk.newAt rfl rfl
          have Hn := Lib.hid hblk.news
          have hz5 : w.heap.size ≤ w2.heap.size := by omega
          clear ho2 hb2 hblk hz2' hz4 s1 r1
          go_wp2_with (at_builtin; refine wpList_append_own _ rfl (.tmp 22) (.tmp 24) 144 rfl w.heap.size 2 i0 _ 1 8 Try.underlying144 hi hz0 hz1 hz2 rfl (by decide) u4 (brokenTo l k).length _ rfl (HO.out.alloc _) ⟨w2.heap.size, 0, none⟩ 1 1 ([(k : Int)].map (.int .i64)) rfl rfl Hn.out ints_one (by unfold maxLen; omega) (by omega) (by rw [size_alloc]; omega) ?_; intro v' w1 hown' hgrow _)
          refine ⟨⟨k + 1, by omega, by go_num, ?_, (bb.alloc (by omega) _).grown hgrow (by rw [size_alloc]; omega) (fun j e => (HO.out.lt _ e).1)⟩, by simp [intOf]; omega⟩
          rw [Hbt.out, List.map_append, List.length_append]
          exact hown'
        · rw [hq] at hs hbt
          have hbt' : brokenTo l (k + 1) = brokenTo l k := by rw [hbt]; simp
          have Hbt := Lib.hid hbt'
          have Hs := Lib.hid hs
          have HFl := Lib.hid hFl
          have Hrg := Lib.hid hrg
          have b1 : (k : Int) < (n : Int) := by omega
          have hz := hb.size
          have bb0 := hb.trans (s2.mono hz)
          have Hs4 := Lib.hid s4
          have HO3 := Lib.hid s3
          clear hc hrg hFl hF hbB hbt hbt' hs hq s3 s4 s2 hown hb
          go_wp2_with (first
            | refine wpList_load_ivs rfl _ _ rfl b (o + k * 16) (by rfl) .u8 F _ Hrg.out Try.underlying87 rfl (by rw [HFl.out]; exact hsz) ?_
            | refine wpList_store_row rfl _ _ _ rfl wr.heap.size (ivs .u8 F) rfl rfl 87 _ r1 (by rw [ivs_size, HFl.out]; exact hsz) (by simp [ivs_size, HFl.out]) ivs_one ?_
            | refine wpList_load_row rfl _ _ rfl wr.heap.size rfl 87 (ivs .u8 F) (0, 0) _ s1 Try.underlying87 rfl (by rw [ivs_size, HFl.out]; exact hsz) ?_)
          refine (Hs.out).mono ?_
          rintro e w2 ⟨rfl, hb2⟩
          have hz4 := Hs4.out
          have ho2 := own_below HO3.out hb2 (Nat.le_refl _)
          have bb := bb0.trans (hb2.mono (by omega))
          clear hb2 hz4 s1 r1
          go_wp2
          refine ⟨⟨k + 1, by omega, by go_num, ?_, bb⟩, by simp [intOf]; omega⟩
          rw [Hbt.out]
          exact ho2
      · have : k = n := by omega
        subst this
        obtain ⟨A', c', rfl, hO⟩ := Own.of_row hown
        go_wp2
        go_ret2
        exact ⟨A', c', rfl, hO, hb⟩
  · have e1 : brokenOf l = [] := by simp [brokenOf, hl, h7]
    have e2 : limitOf n = 3 := by simp [limitOf, h7]
    rw [e1, e2]
    clear e1 e2 hl
    go_enter Try.func102, Try.ntmps102
    go_wp2
    go_ret2
    exact ⟨none, 0, rfl, ⟨rfl, .inl ⟨rfl, rfl, rfl⟩⟩, Below.refl _ _⟩

end Go.Proofs.Ytmagaapdijapiaa
