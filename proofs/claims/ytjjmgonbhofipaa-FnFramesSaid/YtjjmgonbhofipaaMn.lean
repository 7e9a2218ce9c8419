/- MendFrames: the reference's and the program's walk come to the same frames. -/
import Derived.Test.YtjjmgonbhofipaaRows
import Derived.Test.YtjjmgonbhofipaaFrE
import Derived.Test.YtjjmgonbhofipaaSf
import Derived.Test.YtjjmgonbhofipaaCl
namespace Go.Proofs.Ytjjmgonbhofipaa
open Go.ChangeShapes Go.WideShapes Go.ChangeAt Go.RowKit

def mendIt (l m : List (List Int)) (k : Nat) : Bool := !soundB k (l.getD k []) && (decide (k < m.length) && soundB k (m.getD k []))
def mendTo (l m : List (List Int)) : Nat → List (List Int)
  | 0 => l
  | k + 1 => if mendIt l m k then (mendTo l m k).set k (m.getD k []) else mendTo l m k
def mendMany (l m : List (List Int)) : Nat → Nat
  | 0 => 0
  | k + 1 => if mendIt l m k then mendMany l m k + 1 else mendMany l m k
theorem mendTo_length (l m : List (List Int)) : ∀ k, (mendTo l m k).length = l.length
  | 0 => rfl
  | k + 1 => by
    unfold mendTo
    split <;> simp [mendTo_length l m k]
theorem mendMany_le (l m : List (List Int)) : ∀ k, mendMany l m k ≤ k
  | 0 => Nat.le_refl _
  | k + 1 => by
    have := mendMany_le l m k
    unfold mendMany
    split <;> omega
theorem mendTo_rows {sz : Nat} {l m : List (List Int)} (hl : Rows_ sz l) (hm : Rows_ sz m) : ∀ k, Rows_ sz (mendTo l m k)
  | 0 => hl
  | k + 1 => by
    unfold mendTo
    split
    · rename_i h
      refine (mendTo_rows hl hm k).set ?_
      have hk : k < m.length := by simp [mendIt] at h; exact h.2.1
      rw [List.getD_eq_getElem?_getD, List.getElem?_eq_getElem hk]
      exact hm _ (List.getElem_mem hk)
    · exact mendTo_rows hl hm k
theorem mendTo_at (l m : List (List Int)) : ∀ k i, k ≤ i → (mendTo l m k)[i]? = l[i]?
  | 0, _, _ => rfl
  | k + 1, i, h => by
    unfold mendTo
    split
    · rw [List.getElem?_set_ne (by omega)]
      exact mendTo_at l m k i (by omega)
    · exact mendTo_at l m k i (by omega)
theorem mend_no {l m : List (List Int)} {k : Nat} (h : mendIt l m k = false) : mendTo l m (k + 1) = mendTo l m k ∧ mendMany l m (k + 1) = mendMany l m k := by
  constructor
  · show (if mendIt l m k then (mendTo l m k).set k (m.getD k []) else mendTo l m k) = _
    rw [h]; rfl
  · show (if mendIt l m k then mendMany l m k + 1 else mendMany l m k) = _
    rw [h]; rfl
theorem mend_yes {l m : List (List Int)} {k : Nat} (h : mendIt l m k = true) : mendTo l m (k + 1) = (mendTo l m k).set k (m.getD k []) ∧ mendMany l m (k + 1) = mendMany l m k + 1 := by
  constructor
  · show (if mendIt l m k then (mendTo l m k).set k (m.getD k []) else mendTo l m k) = _
    rw [h]; rfl
  · show (if mendIt l m k then mendMany l m k + 1 else mendMany l m k) = _
    rw [h]; rfl
theorem getD_at {l : List (List Int)} {k : Nat} (h : k < l.length) : l.getD k [] = l[k] := by rw [List.getD_eq_getElem?_getD, List.getElem?_eq_getElem h]; rfl

def lims (n m : Nat) : Bool := decide (n ≤ 700) && decide (m ≤ 700)
def mendOf (l m : List (List Int)) : List (List Int) := if lims l.length m.length then mendTo l m l.length else []
def mendCount (l m : List (List Int)) : Int := if lims l.length m.length then (mendMany l m l.length : Nat) else 0
def mendCode (l m : List (List Int)) : Int := if lims l.length m.length then 0 else 3
theorem mendOf_rows {l m : List (List Int)} (hl : Rows_ 16 l) (hm : Rows_ 16 m) : Rows_ 16 (mendOf l m) := by
  unfold mendOf
  split
  · exact mendTo_rows hl hm _
  · intro f hf; cases hf
theorem mendOf_length (l m : List (List Int)) : (mendOf l m).length ≤ 700 := by
  unfold mendOf
  split
  · rename_i h
    rw [mendTo_length]
    simp [lims] at h
    omega
  · simp

/-- what MendFrames gives -/
def GivesMend (out : List (List Int)) (count code : Int) (w : World) (e : Ending) (w' : World) : Prop :=
  ∃ A c, e = .returned (.tuple #[.slice A out.length c, .int .i64 count, .int .i64 code]) ∧ Own w' w.heap.size w'.heap.size 25 16 A out.length c (out.flatten.map (.int .u8)) ∧ Below w.heap.size w w'

set_option maxRecDepth 20000 in
set_option maxHeartbeats 3200000 in
theorem sMend_in (b o n c b' o' n' c' : Nat) (l m : List (List Int)) (hl : l.length = n) (hm : m.length = n') (hrow : Rows_ 16 l) (hrow' : Rows_ 16 m) (h7 : n ≤ 700) (h7' : n' ≤ 700) (w : World)
    (hR : Rd w w.heap.size 16 (some ⟨b, o, none⟩) n (l.flatten.map (.int .u8))) (hR' : Rd w w.heap.size 16 (some ⟨b', o', none⟩) n' (m.flatten.map (.int .u8))) :
    Calls Try.prog 42 #[.slice (some ⟨b, o, none⟩) n c, .slice (some ⟨b', o', none⟩) n' c'] w (GivesMend (mendTo l m n) (mendMany l m n : Nat) 0 w) := by
  obtain ⟨i0, hi, hz0, hz1, hz2⟩ := info_parts Frame_info
  have hsz : (Try.prog.info? 25).map (·.size) = some 16 := by kernel_rfl
  have hfl : (l.flatten.map (Value.int .u8)).length = n * 16 := by rw [List.length_map, flat_length hrow, hl]
  have hown : (w.alloc (.cells #[] 25)).ownsRow w.heap.size 25 16 (.slice (some ⟨w.heap.size, 0, none⟩) 0 0) 0 [] := World.ownsRow_lit (e := 25) (base := w.heap.size) (size := 16) w #[] 0 (Nat.le_refl _) (by unfold maxLen; omega) rfl
  have hn2 := (hR.alloc (Nat.le_refl _) (.cells #[] 25)).news
  have HO := Lib.hid hown
  have HN := Lib.hid hn2
  have Hl := Lib.hid hl
  have Hm := Lib.hid hm
  have Hrow := Lib.hid hrow
  have Hrow' := Lib.hid hrow'
  have HR := Lib.hid hR
  have HR' := Lib.hid hR'
  clear hl hm hrow hrow' hown hn2 hR hR'
  go_enter Try.func42, Try.ntmps42
  go_wp2_with (at_builtin; refine wpList_append_own _ rfl (.tmp 19) (.tmp 20) 41 rfl w.heap.size 25 i0 _ 16 16 Try.underlying41 hi hz0 hz1 hz2 rfl (by decide) _ 0 [] rfl HO.out ⟨b, o, none⟩ n c (l.flatten.map (.int .u8)) rfl hfl HN.out ints_one (by unfold maxLen; omega) (by omega) (by rw [size_alloc]; omega) ?_; intro v' w1 hown' hgrow _; rw [Nat.zero_add, List.nil_append] at hown'; obtain ⟨A', c1, rfl, hO⟩ := Own.of_row hown')
  have hb1 : Below w.heap.size w w1 := ((Below.refl _ _).alloc (Nat.le_refl _) _).grown hgrow (by rw [size_alloc]; omega) (fun j e => by cases e; exact Nat.le_refl _)
  clear hown' hgrow HO HN hfl hi hz0 hz1 hz2
  go_loopw [8, 9] (fun q i wr => ∃ k : Nat, k ≤ n ∧ i = .int .i64 k ∧ q = .int .i64 (mendMany l m k : Nat) ∧ Own wr w.heap.size w1.heap.size 25 16 A' n c1 ((mendTo l m k).flatten.map (.int .u8)) ∧ Below w.heap.size w wr ∧ w1.heap.size ≤ wr.heap.size) (fun _ i _ => n - (intOf i).toNat)
  case atStart => exact ⟨0, by omega, rfl, rfl, hO, hb1, Nat.le_refl _⟩
  case round =>
    clear hO hb1
    obtain ⟨k, hk, rfl, rfl, hO, hb, hzz⟩ := hrel
    by_cases hlt : k < n
    · have hkl : k < l.length := by rw [Hl.out]; exact hlt
      have hrg := (HR.out.below hb (Nat.le_refl _)).row_at Hrow.out (by omega) hkl
      have hFl : (l[k]'hkl).length = 16 := Hrow.out.at_ _
      have hgd := getD_at hkl
      obtain ⟨F, hF⟩ : ∃ F, F = l[k]'hkl := ⟨_, rfl⟩
      rw [← hF] at hrg hFl hgd
      have hs := l09Sound_any F hFl k wr
      have Hrg := Lib.hid hrg
      have HFl := Lib.hid hFl
      have b1 : (k : Int) < (n : Int) := by omega
      have hmm := mendMany_le l m k
      have hz := hb.size
      clear hrg hFl hF
      cases hq : soundB k F
      · rw [hq] at hs
        have Hs := Lib.hid hs
        clear hs
        by_cases hk2 : k < n'
        · have b2 : (k : Int) < (n' : Int) := by omega
          have hkm : k < m.length := by rw [Hm.out]; exact hk2
          have hGl : (m[k]'hkm).length = 16 := Hrow'.out.at_ _
          have hgd2 := getD_at hkm
          obtain ⟨G, hG⟩ : ∃ G, G = m[k]'hkm := ⟨_, rfl⟩
          have hrow2 : ∀ W, Below w.heap.size w W → W.rangeAt b' (o' + k * 16) (G.map (Value.int .u8)) := fun W hW => by
            rw [hG]; exact (HR'.out.below hW (Nat.le_refl _)).row_at Hrow'.out (by omega) hkm
          rw [← hG] at hGl hgd2
          have Hrow2 := Lib.hid hrow2
          have HGl := Lib.hid hGl
          have hs2 := fun W : World => l09Sound_any G hGl k W
          have hit : mendIt l m k = soundB k G := by
            rw [mendIt, hgd, hgd2, hq, decide_eq_true hkm]; rfl
          clear hG hgd hrow2 hGl hq
          cases hq2 : soundB k G
          · rw [hq2] at hit
            have hno := mend_no hit
            have Hs2 := Lib.hid hs2
            have Hno := Lib.hid hno
            rw [hq2] at hs2
            have Hs3 := Lib.hid hs2
            clear hno hit hq2 hs2 hgd2
            go_wp2_with (refine wpList_load_ivs rfl _ _ rfl b (o + k * 16) (by rfl) .u8 F _ Hrg.out Try.underlying25 rfl (by rw [HFl.out]; exact hsz) ?_)
            refine (Hs.out).mono ?_
            rintro e w2 ⟨rfl, hb2⟩
            have bb := hb.trans (hb2.mono hz)
            have hr2 := Hrow2.out w2 bb
            have Hr2 := Lib.hid hr2
            have hO2 := hO.below hb2 hzz
            have hz22 := hb2.size
            clear hr2 hO hb2
            go_wp2_with (refine wpList_load_ivs_g (by rfl) _ _ rfl b' (o' + k * 16) (by rfl) .u8 G _ Hr2.out Try.underlying25 rfl (by rw [HGl.out]; exact hsz) ?_)
            refine (Hs3.out w2).mono ?_
            rintro e w3 ⟨rfl, hb3⟩
            have bb3 := bb.trans (hb3.mono (by omega))
            have hO3 := hO2.below hb3 (by omega)
            have hz33 := hb3.size
            clear hO2 hb3 bb
            go_wp2
            exact ⟨⟨k + 1, by omega, by go_num, by rw [Hno.out.2], by rw [Hno.out.1]; exact hO3, bb3, by omega⟩, by simp [intOf]; omega⟩
          · rw [hq2] at hit
            have hno := mend_yes hit
            rw [hgd2] at hno
            have Hno := Lib.hid hno
            rw [hq2] at hs2
            have Hs3 := Lib.hid hs2
            clear hno hit hq2 hs2 hgd2
            obtain ⟨g, cur, rfl, hg1, hg2, -⟩ := hO.at_ (by omega)
            go_wp2_with (refine wpList_load_ivs rfl _ _ rfl b (o + k * 16) (by rfl) .u8 F _ Hrg.out Try.underlying25 rfl (by rw [HFl.out]; exact hsz) ?_)
            refine (Hs.out).mono ?_
            rintro e w2 ⟨rfl, hb2⟩
            have bb := hb.trans (hb2.mono hz)
            have hr2 := Hrow2.out w2 bb
            have Hr2 := Lib.hid hr2
            have hO2 := hO.below hb2 hzz
            have hz22 := hb2.size
            clear hr2 hO hb2
            go_wp2_with (refine wpList_load_ivs_g (by rfl) _ _ rfl b' (o' + k * 16) (by rfl) .u8 G _ Hr2.out Try.underlying25 rfl (by rw [HGl.out]; exact hsz) ?_)
            refine (Hs3.out w2).mono ?_
            rintro e w3 ⟨rfl, hb3⟩
            have bb3 := bb.trans (hb3.mono (by omega))
            have hO3 := hO2.below hb3 (by omega)
            have hz33 := hb3.size
            have hr3 := Hrow2.out w3 bb3
            have Hr3 := Lib.hid hr3
            have hth := hO3.there (k * 16) 16 (by omega)
            have Hth := Lib.hid hth
            have hO4 := hO3.setRow_ (k := k) (mendTo_rows Hrow.out Hrow'.out k) (by rw [mendTo_length]; exact hkl) HGl.out
            have HO4 := Lib.hid hO4
            clear hO2 hb3 bb hr3 hth hO4 hO3
            go_wp2_with (first
              | refine wpList_load_ivs rfl _ _ rfl b' (o' + k * 16) (by rfl) .u8 G _ Hr3.out Try.underlying25 rfl (by rw [HGl.out]; exact hsz) ?_
              | refine wpList_store_mid rfl _ _ _ rfl g (k * 16) (ivs .u8 G) (by first | rfl | (simp; done)) rfl (by rw [ivs_size, HGl.out]; exact Hth.out) (by rw [ivs_size, HGl.out]; exact hsz) ivs_one ?_)
            refine ⟨⟨k + 1, by omega, by go_num, by rw [Hno.out.2]; go_num, by rw [Hno.out.1, ivs_toList]; exact HO4.out, by rw [ivs_toList]; exact below_setCells hg1 _ _ bb3, ?_⟩, by simp [intOf]; omega⟩
            have := (below_setCells (B := 0) (g := g) (Nat.zero_le _) (ivs .u8 G).toList (k * 16) (Below.refl 0 w3)).size
            omega
        · have hno := mend_no (l := l) (m := m) (k := k) (by
            rw [mendIt, decide_eq_false (by rw [Hm.out]; exact hk2), Bool.false_and, Bool.and_false])
          have Hno := Lib.hid hno
          have b2 : (n' : Int) ≤ (k : Int) := by omega
          clear hno hgd hq
          go_wp2_with (refine wpList_load_ivs rfl _ _ rfl b (o + k * 16) (by rfl) .u8 F _ Hrg.out Try.underlying25 rfl (by rw [HFl.out]; exact hsz) ?_)
          refine (Hs.out).mono ?_
          rintro e w2 ⟨rfl, hb2⟩
          have bb := hb.trans (hb2.mono hz)
          have hO2 := hO.below hb2 hzz
          have hz22 := hb2.size
          clear hO hb2
          go_wp2
          exact ⟨⟨k + 1, by omega, by go_num, by rw [Hno.out.2], by rw [Hno.out.1]; exact hO2, bb, by omega⟩, by simp [intOf]; omega⟩
      · rw [hq] at hs
        have hno := mend_no (l := l) (m := m) (k := k) (by rw [mendIt, hgd, hq]; rfl)
        have Hno := Lib.hid hno
        have Hs := Lib.hid hs
        clear hs hno hgd hq
        go_wp2_with (refine wpList_load_ivs rfl _ _ rfl b (o + k * 16) (by rfl) .u8 F _ Hrg.out Try.underlying25 rfl (by rw [HFl.out]; exact hsz) ?_)
        refine (Hs.out).mono ?_
        rintro e w2 ⟨rfl, hb2⟩
        have bb := hb.trans (hb2.mono hz)
        have hO2 := hO.below hb2 hzz
        have hz22 := hb2.size
        clear hO hb2
        go_wp2
        exact ⟨⟨k + 1, by omega, by go_num, by rw [Hno.out.2], by rw [Hno.out.1]; exact hO2, bb, by omega⟩, by simp [intOf]; omega⟩
    · have : k = n := by omega
      subst this
      have e4 : (mendTo l m k).length = k := by rw [mendTo_length, Hl.out]
      go_wp2
      go_ret3
      exact ⟨A', c1, by rw [e4]; rfl, by rw [e4]; exact hO.more hzz, hb⟩

set_option maxRecDepth 20000 in
set_option maxHeartbeats 3200000 in
theorem iMend_in (b o n c b' o' n' c' : Nat) (l m : List (List Int)) (hl : l.length = n) (hm : m.length = n') (hrow : Rows_ 16 l) (hrow' : Rows_ 16 m) (h7 : n ≤ 700) (h7' : n' ≤ 700) (w : World)
    (hR : Rd w w.heap.size 16 (some ⟨b, o, none⟩) n (l.flatten.map (.int .u8))) (hR' : Rd w w.heap.size 16 (some ⟨b', o', none⟩) n' (m.flatten.map (.int .u8))) :
    Calls Try.prog 43 #[.slice (some ⟨b, o, none⟩) n c, .slice (some ⟨b', o', none⟩) n' c'] w (GivesMend (mendTo l m n) (mendMany l m n : Nat) 0 w) := by
  have hsz : (Try.prog.info? 25).map (·.size) = some 16 := by kernel_rfl
  have Hl := Lib.hid hl
  have Hm := Lib.hid hm
  have Hrow := Lib.hid hrow
  have Hrow' := Lib.hid hrow'
  have HR := Lib.hid hR
  have HR' := Lib.hid hR'
  clear hl hm hrow hrow' hR hR'
  go_enter Try.func43, Try.ntmps43
  go_wp2_with fail
  refine (clone_any b o n c l Hl.out Hrow.out (by omega) _ HR.out).mono ?_
  rintro e w1 ⟨A', c1, rfl, hO, hb1⟩
  have hnc := hO.len
  have hmx : c1 ≤ 9223372036854775807 := by
    rcases hO.2 with ⟨_, _, rfl⟩ | ⟨g, cur, _, _, _, _, _, h, _⟩
    · omega
    · unfold maxLen at h; omega
  go_wp2_with fail
  go_loopw [8, 9, 10, 23] (fun q _ _ i wr => ∃ k : Nat, k ≤ n ∧ i = .int .i64 k ∧ q = .int .i64 (mendMany l m k : Nat) ∧ Own wr w.heap.size w1.heap.size 25 16 A' n c1 ((mendTo l m k).flatten.map (.int .u8)) ∧ Below w.heap.size w wr ∧ w1.heap.size ≤ wr.heap.size) (fun _ _ _ i _ => n - (intOf i).toNat)
  case atStart => exact ⟨0, by omega, rfl, rfl, hO, hb1, Nat.le_refl _⟩
  case round =>
    clear hO hb1
    obtain ⟨k, hk, rfl, rfl, hO, hb, hzz⟩ := hrel
    by_cases hlt : k < n
    · have hkl : k < l.length := by rw [Hl.out]; exact hlt
      obtain ⟨g, cur, rfl, hg1, hg2, -⟩ := hO.at_ (by omega)
      have hlen : k < (mendTo l m k).length := by rw [mendTo_length]; exact hkl
      have hrg := (hO.rd).row_at (mendTo_rows Hrow.out Hrow'.out k) (by omega) hlen
      have hsame : (mendTo l m k)[k]'hlen = l[k]'hkl := by
        have := mendTo_at l m k k (Nat.le_refl _)
        rw [List.getElem?_eq_getElem hlen, List.getElem?_eq_getElem hkl] at this
        exact Option.some.inj this
      rw [hsame, Nat.zero_add] at hrg
      have hFl : (l[k]'hkl).length = 16 := Hrow.out.at_ _
      have hgd := getD_at hkl
      clear hsame
      obtain ⟨F, hF⟩ : ∃ F, F = l[k]'hkl := ⟨_, rfl⟩
      rw [← hF] at hrg hFl hgd
      have r1 : Blk (wr.alloc (.cells #[.int .u8 0, .int .u8 0, .int .u8 0, .int .u8 0, .int .u8 0, .int .u8 0, .int .u8 0, .int .u8 0, .int .u8 0, .int .u8 0, .int .u8 0, .int .u8 0, .int .u8 0, .int .u8 0, .int .u8 0, .int .u8 0] 25)) wr.heap.size 25 (ivs .u8 (List.replicate 16 0)) := Blk.newAt rfl rfl
      have s1 : Blk ((wr.alloc (.cells #[.int .u8 0, .int .u8 0, .int .u8 0, .int .u8 0, .int .u8 0, .int .u8 0, .int .u8 0, .int .u8 0, .int .u8 0, .int .u8 0, .int .u8 0, .int .u8 0, .int .u8 0, .int .u8 0, .int .u8 0, .int .u8 0] 25)).setRow wr.heap.size (ivs .u8 F)) wr.heap.size 25 (ivs .u8 F) := r1.row _
      have s2 : Below wr.heap.size wr ((wr.alloc (.cells #[.int .u8 0, .int .u8 0, .int .u8 0, .int .u8 0, .int .u8 0, .int .u8 0, .int .u8 0, .int .u8 0, .int .u8 0, .int .u8 0, .int .u8 0, .int .u8 0, .int .u8 0, .int .u8 0, .int .u8 0, .int .u8 0] 25)).setRow wr.heap.size (ivs .u8 F)) := below_setRow ((Below.refl _ _).alloc (Nat.le_refl _) _) (Nat.le_refl _) _
      have hOA := hO.below s2 hzz
      have s4 := Lib.hid s2.size
      have hs := isSound_any F hFl k ((wr.alloc (.cells #[.int .u8 0, .int .u8 0, .int .u8 0, .int .u8 0, .int .u8 0, .int .u8 0, .int .u8 0, .int .u8 0, .int .u8 0, .int .u8 0, .int .u8 0, .int .u8 0, .int .u8 0, .int .u8 0, .int .u8 0, .int .u8 0] 25)).setRow wr.heap.size (ivs .u8 F))
      have Hrg := Lib.hid hrg
      have HFl := Lib.hid hFl
      have b1 : (k : Int) < (n : Int) := by omega
      have hmm := mendMany_le l m k
      have hz := hb.size
      have bb0 := hb.trans (s2.mono hz)
      clear hrg hFl hF hO hb
      cases hq : soundB k F
      · rw [hq] at hs
        have Hs := Lib.hid hs
        clear hs
        by_cases hk2 : k < n'
        · have b2 : (k : Int) < (n' : Int) := by omega
          have hkm : k < m.length := by rw [Hm.out]; exact hk2
          have hGl : (m[k]'hkm).length = 16 := Hrow'.out.at_ _
          have hgd2 := getD_at hkm
          obtain ⟨G, hG⟩ : ∃ G, G = m[k]'hkm := ⟨_, rfl⟩
          have hrow2 : ∀ W, Below w.heap.size w W → W.rangeAt b' (o' + k * 16) (G.map (Value.int .u8)) := fun W hW => by
            rw [hG]; exact (HR'.out.below hW (Nat.le_refl _)).row_at Hrow'.out (by omega) hkm
          rw [← hG] at hGl hgd2
          have Hrow2 := Lib.hid hrow2
          have HGl := Lib.hid hGl
          have hs2 := fun W : World => isSound_any G hGl k W
          have hit : mendIt l m k = soundB k G := by
            rw [mendIt, hgd, hgd2, hq, decide_eq_true hkm]; rfl
          clear hG hgd hrow2 hGl hq
          cases hq2 : soundB k G
          · rw [hq2] at hit
            have hno := mend_no hit
            have Hno := Lib.hid hno
            rw [hq2] at hs2
            have Hs3 := Lib.hid hs2
            clear hno hit hq2 hs2 hgd2
            have HOA := Lib.hid hOA
            have Hs2 := Lib.hid s2
            have Hbb0 := Lib.hid bb0
            clear hOA s2 bb0
            go_wp2_with (first
          | refine wpList_load_ivs rfl _ _ rfl g (k * 16) (by first | rfl | (simp; done)) .u8 F _ Hrg.out Try.underlying25 rfl (by rw [HFl.out]; exact hsz) ?_
          | refine wpList_store_row rfl _ _ _ rfl wr.heap.size (ivs .u8 F) rfl rfl 25 _ r1 (by rw [ivs_size, HFl.out]; exact hsz) (by simp [ivs_size, HFl.out]) ivs_one ?_
          | refine wpList_load_row rfl _ _ rfl wr.heap.size rfl 25 (ivs .u8 F) (0, 0) _ s1 Try.underlying25 rfl (by rw [ivs_size, HFl.out]; exact hsz) ?_)
            refine (Hs.out).mono ?_
            rintro e w2 ⟨rfl, hb2⟩
            have s5 := s4.out
            have bb := Hbb0.out.trans (hb2.mono (by omega))
            have hO2 := HOA.out.below hb2 (by omega)
            have hz22 := hb2.size
            have hr2 := Hrow2.out w2 bb
            have Hr2 := Lib.hid hr2
            have z2 : w1.heap.size ≤ w2.heap.size := by omega
            have z3 : w.heap.size ≤ w2.heap.size := by omega
            clear hr2 hb2 s1 r1 s5 hz22
            go_wp2_with (refine wpList_load_ivs_g (by rfl) _ _ rfl b' (o' + k * 16) (by rfl) .u8 G _ Hr2.out Try.underlying25 rfl (by rw [HGl.out]; exact hsz) ?_)
            refine (Hs3.out w2).mono ?_
            rintro e w3 ⟨rfl, hb3⟩
            have bb3 := bb.trans (hb3.mono (by omega))
            have hO3 := hO2.below hb3 (by omega)
            have hz33 := hb3.size
            clear hO2 hb3 bb
            go_wp2
            exact ⟨⟨k + 1, by omega, by go_num, by rw [Hno.out.2], by rw [Hno.out.1]; exact hO3, bb3, by omega⟩, by simp [intOf]; omega⟩
          · rw [hq2] at hit
            have hno := mend_yes hit
            rw [hgd2] at hno
            have Hno := Lib.hid hno
            rw [hq2] at hs2
            have Hs3 := Lib.hid hs2
            clear hno hit hq2 hs2 hgd2
            have HOA := Lib.hid hOA
            have Hbb0 := Lib.hid bb0
            clear hOA s2 bb0
            go_wp2_with (first
          | refine wpList_load_ivs rfl _ _ rfl g (k * 16) (by first | rfl | (simp; done)) .u8 F _ Hrg.out Try.underlying25 rfl (by rw [HFl.out]; exact hsz) ?_
          | refine wpList_store_row rfl _ _ _ rfl wr.heap.size (ivs .u8 F) rfl rfl 25 _ r1 (by rw [ivs_size, HFl.out]; exact hsz) (by simp [ivs_size, HFl.out]) ivs_one ?_
          | refine wpList_load_row rfl _ _ rfl wr.heap.size rfl 25 (ivs .u8 F) (0, 0) _ s1 Try.underlying25 rfl (by rw [ivs_size, HFl.out]; exact hsz) ?_)
            refine (Hs.out).mono ?_
            rintro e w2 ⟨rfl, hb2⟩
            have s5 := s4.out
            have bb := Hbb0.out.trans (hb2.mono (by omega))
            have hO2 := HOA.out.below hb2 (by omega)
            have hz22 := hb2.size
            have hr2 := Hrow2.out w2 bb
            have Hr2 := Lib.hid hr2
            have z2 : w1.heap.size ≤ w2.heap.size := by omega
            have z3 : w.heap.size ≤ w2.heap.size := by omega
            clear hr2 hb2 s1 r1 s5 hz22
            go_wp2_with (refine wpList_load_ivs_g (by rfl) _ _ rfl b' (o' + k * 16) (by rfl) .u8 G _ Hr2.out Try.underlying25 rfl (by rw [HGl.out]; exact hsz) ?_)
            refine (Hs3.out w2).mono ?_
            rintro e w3 ⟨rfl, hb3⟩
            have bb3 := bb.trans (hb3.mono (by omega))
            have hO3 := hO2.below hb3 (by omega)
            have hz33 := hb3.size
            have hr3 := Hrow2.out w3 bb3
            have Hr3 := Lib.hid hr3
            have hth := hO3.there (k * 16) 16 (by omega)
            have Hth := Lib.hid hth
            have hO4 := hO3.setRow_ (k := k) (mendTo_rows Hrow.out Hrow'.out k) hlen HGl.out
            have HO4 := Lib.hid hO4
            clear hO2 hb3 bb hr3 hth hO4 hO3
            go_wp2_with (first
              | refine wpList_load_ivs rfl _ _ rfl b' (o' + k * 16) (by rfl) .u8 G _ Hr3.out Try.underlying25 rfl (by rw [HGl.out]; exact hsz) ?_
              | refine wpList_store_mid rfl _ _ _ rfl g (k * 16) (ivs .u8 G) (by first | rfl | (simp; done)) rfl (by rw [ivs_size, HGl.out]; exact Hth.out) (by rw [ivs_size, HGl.out]; exact hsz) ivs_one ?_)
            refine ⟨⟨k + 1, by omega, by go_num, by rw [Hno.out.2]; go_num, by rw [Hno.out.1, ivs_toList]; exact HO4.out, by rw [ivs_toList]; exact below_setCells hg1 _ _ bb3, ?_⟩, by simp [intOf]; omega⟩
            have := (below_setCells (B := 0) (g := g) (Nat.zero_le _) (ivs .u8 G).toList (k * 16) (Below.refl 0 w3)).size
            omega
        · have hno := mend_no (l := l) (m := m) (k := k) (by
            rw [mendIt, decide_eq_false (by rw [Hm.out]; exact hk2), Bool.false_and, Bool.and_false])
          have Hno := Lib.hid hno
          have b2 : (n' : Int) ≤ (k : Int) := by omega
          have HOA := Lib.hid hOA
          have Hbb0 := Lib.hid bb0
          clear hno hgd hq hOA s2 bb0
          go_wp2_with (first
          | refine wpList_load_ivs rfl _ _ rfl g (k * 16) (by first | rfl | (simp; done)) .u8 F _ Hrg.out Try.underlying25 rfl (by rw [HFl.out]; exact hsz) ?_
          | refine wpList_store_row rfl _ _ _ rfl wr.heap.size (ivs .u8 F) rfl rfl 25 _ r1 (by rw [ivs_size, HFl.out]; exact hsz) (by simp [ivs_size, HFl.out]) ivs_one ?_
          | refine wpList_load_row rfl _ _ rfl wr.heap.size rfl 25 (ivs .u8 F) (0, 0) _ s1 Try.underlying25 rfl (by rw [ivs_size, HFl.out]; exact hsz) ?_)
          refine (Hs.out).mono ?_
          rintro e w2 ⟨rfl, hb2⟩
          have s5 := s4.out
          have bb := Hbb0.out.trans (hb2.mono (by omega))
          have hO2 := HOA.out.below hb2 (by omega)
          have hz22 := hb2.size
          have z2 : w1.heap.size ≤ w2.heap.size := by omega
          clear hb2 s1 r1 s5 hz22
          go_wp2
          exact ⟨⟨k + 1, by omega, by go_num, by rw [Hno.out.2], by rw [Hno.out.1]; exact hO2, bb, by omega⟩, by simp [intOf]; omega⟩
      · rw [hq] at hs
        have hno := mend_no (l := l) (m := m) (k := k) (by rw [mendIt, hgd, hq]; rfl)
        have Hno := Lib.hid hno
        have Hs := Lib.hid hs
        have HOA := Lib.hid hOA
        have Hbb0 := Lib.hid bb0
        clear hs hno hgd hq hOA s2 bb0
        go_wp2_with (first
          | refine wpList_load_ivs rfl _ _ rfl g (k * 16) (by first | rfl | (simp; done)) .u8 F _ Hrg.out Try.underlying25 rfl (by rw [HFl.out]; exact hsz) ?_
          | refine wpList_store_row rfl _ _ _ rfl wr.heap.size (ivs .u8 F) rfl rfl 25 _ r1 (by rw [ivs_size, HFl.out]; exact hsz) (by simp [ivs_size, HFl.out]) ivs_one ?_
          | refine wpList_load_row rfl _ _ rfl wr.heap.size rfl 25 (ivs .u8 F) (0, 0) _ s1 Try.underlying25 rfl (by rw [ivs_size, HFl.out]; exact hsz) ?_)
        refine (Hs.out).mono ?_
        rintro e w2 ⟨rfl, hb2⟩
        have s5 := s4.out
        have bb := Hbb0.out.trans (hb2.mono (by omega))
        have hO2 := HOA.out.below hb2 (by omega)
        have hz22 := hb2.size
        have z2 : w1.heap.size ≤ w2.heap.size := by omega
        clear hb2 s1 r1 s5 hz22
        go_wp2
        exact ⟨⟨k + 1, by omega, by go_num, by rw [Hno.out.2], by rw [Hno.out.1]; exact hO2, bb, by omega⟩, by simp [intOf]; omega⟩
    · have : k = n := by omega
      subst this
      have e4 : (mendTo l m k).length = k := by rw [mendTo_length, Hl.out]
      go_wp2
      go_ret3
      exact ⟨A', c1, by rw [e4]; rfl, by rw [e4]; exact hO.more hzz, hb⟩

theorem lims_false {n m : Nat} (h : lims n m = false) : (700 : Int) < n ∨ ((n : Int) ≤ 700 ∧ (700 : Int) < m) := by
  simp only [lims, Bool.and_eq_false_iff, decide_eq_false_iff_not] at h
  omega
theorem lims_true {n m : Nat} (h : lims n m = true) : n ≤ 700 ∧ m ≤ 700 := by simpa [lims] using h

set_option maxRecDepth 20000 in
set_option maxHeartbeats 800000 in
theorem sMendFrames_any (b o n c b' o' n' c' : Nat) (l m : List (List Int)) (hl : l.length = n) (hm : m.length = n') (hrow : Rows_ 16 l) (hrow' : Rows_ 16 m) (_hn : n ≤ 1048576) (_hn' : n' ≤ 1048576) (w : World)
    (hR : Rd w w.heap.size 16 (some ⟨b, o, none⟩) n (l.flatten.map (.int .u8))) (hR' : Rd w w.heap.size 16 (some ⟨b', o', none⟩) n' (m.flatten.map (.int .u8))) :
    Calls Try.prog 42 #[.slice (some ⟨b, o, none⟩) n c, .slice (some ⟨b', o', none⟩) n' c'] w (GivesMend (mendOf l m) (mendCount l m) (mendCode l m) w) := by
  have hln : lims l.length m.length = lims n n' := by rw [hl, hm]
  unfold mendOf mendCount mendCode
  rw [hln, hl]
  cases hq : lims n n'
  · have hx := lims_false hq
    simp only [Bool.false_eq_true, if_false]
    clear hl hm hrow hrow' hR hR' hln hq
    rcases hx with hx | ⟨hx0, hx⟩
    all_goals
      go_enter Try.func42, Try.ntmps42
      go_wp2
      go_ret3
      exact ⟨some ⟨w.heap.size, 0, none⟩, 0, rfl, ⟨rfl, .inr ⟨w.heap.size, #[], rfl, Nat.le_refl _, by rw [size_alloc]; omega, Blk.newAt rfl rfl, Nat.le_refl _, by unfold maxLen; omega, rfl, rfl⟩⟩, (Below.refl _ _).alloc (Nat.le_refl _) _⟩
  · have hx := lims_true hq
    simp only [if_true]
    exact sMend_in b o n c b' o' n' c' l m hl hm hrow hrow' hx.1 hx.2 w hR hR'

set_option maxRecDepth 20000 in
set_option maxHeartbeats 800000 in
theorem iMendFrames_any (b o n c b' o' n' c' : Nat) (l m : List (List Int)) (hl : l.length = n) (hm : m.length = n') (hrow : Rows_ 16 l) (hrow' : Rows_ 16 m) (_hn : n ≤ 1048576) (_hn' : n' ≤ 1048576) (w : World)
    (hR : Rd w w.heap.size 16 (some ⟨b, o, none⟩) n (l.flatten.map (.int .u8))) (hR' : Rd w w.heap.size 16 (some ⟨b', o', none⟩) n' (m.flatten.map (.int .u8))) :
    Calls Try.prog 43 #[.slice (some ⟨b, o, none⟩) n c, .slice (some ⟨b', o', none⟩) n' c'] w (GivesMend (mendOf l m) (mendCount l m) (mendCode l m) w) := by
  have hln : lims l.length m.length = lims n n' := by rw [hl, hm]
  unfold mendOf mendCount mendCode
  rw [hln, hl]
  cases hq : lims n n'
  · have hx := lims_false hq
    simp only [Bool.false_eq_true, if_false]
    clear hl hm hrow hrow' hR hR' hln hq
    rcases hx with hx | ⟨hx0, hx⟩
    all_goals
      go_enter Try.func43, Try.ntmps43
      go_wp2
      go_ret3
      exact ⟨none, 0, rfl, ⟨rfl, .inl ⟨rfl, rfl, rfl⟩⟩, Below.refl _ _⟩
  · have hx := lims_true hq
    simp only [if_true]
    exact iMend_in b o n c b' o' n' c' l m hl hm hrow hrow' hx.1 hx.2 w hR hR'
end Go.Proofs.Ytjjmgonbhofipaa
