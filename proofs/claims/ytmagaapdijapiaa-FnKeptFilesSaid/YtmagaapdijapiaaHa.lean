/- BytesOfFrames: the reference's and the program's walk come to the same bytes. -/
import Derived.Test.YtmagaapdijapiaaRows
import Derived.Test.YtmagaapdijapiaaSf
import Derived.Test.YtmagaapdijapiaaSb
namespace Go.Proofs.Ytmagaapdijapiaa
open Go.ChangeShapes Go.WideShapes Go.ChangeAt Go.RowKit

def bytesOf (l : List (List Int)) : List Int := if l.length ≤ 700 then l.flatten else []
def limitOf (n : Nat) : Int := if n ≤ 700 then 0 else 3
theorem bytesOf_length {l : List (List Int)} (h : Rows_ 16 l) : (bytesOf l).length ≤ 11200 := by
  unfold bytesOf
  split
  · rw [flat_length h]; omega
  · simp

/-- what BytesOfFrames gives -/
def GivesBytes (out : List Int) (code : Int) (w : World) (e : Ending) (w' : World) : Prop :=
  ∃ A c, e = .returned (.tuple #[.slice A out.length c, .int .i64 code]) ∧ Own w' w.heap.size w'.heap.size 5 1 A out.length c (out.map (.int .u8)) ∧ Below w.heap.size w w'

theorem flat_take_succ (l : List (List Int)) (k : Nat) (h : k < l.length) : (l.take (k + 1)).flatten = (l.take k).flatten ++ l[k] := by
  rw [List.take_succ_eq_append_getElem h, List.flatten_append, List.flatten_cons, List.flatten_nil, List.append_nil]

set_option maxRecDepth 20000 in
set_option maxHeartbeats 3200000 in
theorem iBytesOfFrames_any (A : Option Addr) (n c : Nat) (l : List (List Int)) (hl : l.length = n) (hrow : Rows_ 16 l) (hn : n ≤ 1048576) (hnc : n ≤ c) (hc63 : c ≤ 9223372036854775807) (w : World) (hR : Rd w w.heap.size 16 A n (l.flatten.map (.int .u8))) :
    Calls Try.prog 29 #[.slice A n c] w (GivesBytes (bytesOf l) (limitOf n) w) := by
  obtain ⟨i0, hi, hz0, hz1, hz2⟩ := info_parts Byte_info
  have hsz : (Try.prog.info? 87).map (·.size) = some 16 := by kernel_rfl
  by_cases h7 : n ≤ 700
  · have e1 : bytesOf l = l.flatten := by simp [bytesOf, hl, h7]
    have e2 : limitOf n = 0 := by simp [limitOf, h7]
    rw [e1, e2]
    clear e1 e2
    have Hl := Lib.hid hl
    have Hrow := Lib.hid hrow
    clear hl hrow
    go_enter Try.func29, Try.ntmps29
    go_wp2
    go_loopw [4, 6, 13] (fun v _ i wr => ∃ k : Nat, k ≤ n ∧ i = .int .i64 k ∧ wr.ownsRow w.heap.size 5 1 v (k * 16) ((l.take k).flatten.map (.int .u8)) ∧ Below w.heap.size w wr) (fun _ _ i _ => n - (intOf i).toNat)
    case atStart =>
      refine ⟨0, by omega, rfl, ?_, (Below.refl _ _).alloc (Nat.le_refl _) _⟩
      exact World.ownsRow_lit (e := 5) (base := w.heap.size) (size := 1) w #[] 0 (Nat.le_refl _) (by unfold maxLen; omega) rfl
    case round =>
      obtain ⟨k, hk, rfl, hown, hb⟩ := hrel
      by_cases hlt : k < n
      · obtain ⟨b, o, rfl, hbB, hc⟩ := (hR.below hb (Nat.le_refl _)).at_ (by omega)
        have hkl : k < l.length := by rw [Hl.out]; exact hlt
        have hrg : wr.rangeAt b (o + k * 16) ((l[k]'hkl).map (.int .u8)) := by
          have := Rd.rangeAt (i := k * 16) (s := 16) hc
          rw [← List.map_drop, ← List.map_take, flat_row Hrow.out hkl] at this
          exact this
        have hFl : (l[k]'hkl).length = 16 := Hrow.out.at_ _
        have hfl := flat_take_succ l k hkl
        obtain ⟨F, hF⟩ : ∃ F, F = l[k]'hkl := ⟨_, rfl⟩
        rw [← hF] at hrg hFl hfl
        have r1 : Blk (wr.alloc (.cells #[.int .u8 0, .int .u8 0, .int .u8 0, .int .u8 0, .int .u8 0, .int .u8 0, .int .u8 0, .int .u8 0, .int .u8 0, .int .u8 0, .int .u8 0, .int .u8 0, .int .u8 0, .int .u8 0, .int .u8 0, .int .u8 0] 87)) wr.heap.size 87 (ivs .u8 (List.replicate 16 0)) := Blk.newAt rfl rfl
        have s1 : Blk ((wr.alloc (.cells #[.int .u8 0, .int .u8 0, .int .u8 0, .int .u8 0, .int .u8 0, .int .u8 0, .int .u8 0, .int .u8 0, .int .u8 0, .int .u8 0, .int .u8 0, .int .u8 0, .int .u8 0, .int .u8 0, .int .u8 0, .int .u8 0] 87)).setRow wr.heap.size (ivs .u8 F)) wr.heap.size 87 (ivs .u8 F) := r1.row _
        have s2 : Below wr.heap.size wr ((wr.alloc (.cells #[.int .u8 0, .int .u8 0, .int .u8 0, .int .u8 0, .int .u8 0, .int .u8 0, .int .u8 0, .int .u8 0, .int .u8 0, .int .u8 0, .int .u8 0, .int .u8 0, .int .u8 0, .int .u8 0, .int .u8 0, .int .u8 0] 87)).setRow wr.heap.size (ivs .u8 F)) := below_setRow ((Below.refl _ _).alloc (Nat.le_refl _) _) (Nat.le_refl _) _
        have s3 := own_below hown s2 (Nat.le_refl _)
        have s4 := s2.size
        have Hn := Lib.hid s1.news
        have HFl := Lib.hid hFl
        have Hfl := Lib.hid hfl
        have Hrg := Lib.hid hrg
        have HO := Lib.hid hown
        have HO3 := Lib.hid s3
        have Hs2 := Lib.hid s2
        have Hs4 := Lib.hid s4
        have Hb := Lib.hid hbB
        have b1 : (k : Int) < (n : Int) := by omega
        have hz := hb.size
        clear hc hR hrg hFl hF hown hbB hfl s1 s2 s3 s4
        go_wp2_with (first
          | refine wpList_load_ivs rfl _ _ rfl b (o + k * 16) (by rfl) .u8 F _ Hrg.out Try.underlying87 rfl (by rw [HFl.out]; exact hsz) ?_
          | refine wpList_store_row rfl _ _ _ rfl wr.heap.size (ivs .u8 F) rfl rfl 87 _ r1 (by rw [ivs_size, HFl.out]; exact hsz) (by simp [ivs_size, HFl.out]) ivs_one ?_
          | (at_builtin; refine wpList_append_own _ rfl (.tmp 17) (.tmp 18) 40 rfl w.heap.size 5 i0 _ 1 1 Try.underlying40 hi hz0 hz1 hz2 rfl (by decide) u4 (k * 16) _ rfl HO3.out ⟨wr.heap.size, 0, none⟩ 16 16 (F.map (.int .u8)) rfl (by rw [List.length_map, HFl.out]) Hn.out ints_one (by unfold maxLen; omega) (by omega) (by have := Hs4.out; omega) ?_; intro v' w1 hown' hgrow _))
        refine ⟨⟨k + 1, by omega, by go_num, ?_, (hb.trans (Hs2.out.mono hz)).grown hgrow (by have := Hs4.out; omega) (fun j e => (HO.out.lt _ e).1)⟩, by simp [intOf]; omega⟩
        rw [Hfl.out, List.map_append, Nat.add_mul, Nat.one_mul]
        exact hown'
      · have : k = n := by omega
        subst this
        have e3 : l.take k = l := List.take_of_length_le (by rw [Hl.out]; exact Nat.le_refl _)
        rw [e3] at hown
        obtain ⟨A', c', rfl, hO⟩ := Own.of_row hown
        have e4 : l.flatten.length = k * 16 := by rw [flat_length Hrow.out, Hl.out]
        rw [← e4] at hO ⊢
        go_wp2
        go_ret2
        exact ⟨A', c', rfl, hO, hb⟩
  · have e1 : bytesOf l = [] := by simp [bytesOf, hl, h7]
    have e2 : limitOf n = 3 := by simp [limitOf, h7]
    rw [e1, e2]
    clear e1 e2 hl
    go_enter Try.func29, Try.ntmps29
    go_wp2
    go_ret2
    exact ⟨none, 0, rfl, ⟨rfl, .inl ⟨rfl, rfl, rfl⟩⟩, Below.refl _ _⟩

end Go.Proofs.Ytmagaapdijapiaa
