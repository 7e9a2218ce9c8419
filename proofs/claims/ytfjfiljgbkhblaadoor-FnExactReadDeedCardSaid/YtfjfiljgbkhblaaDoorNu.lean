/- Texts split, small numbers read: the reference's walks. -/
import Derived.Test.YtfjfiljgbkhblaaDoorRows
import Derived.Test.YtfjfiljgbkhblaaDoorSl
import Derived.Test.YtfjfiljgbkhblaaDoorNt
import Derived.Laws.BytesArg
import Derived.SliceStrings
namespace Go.Proofs.YtfjfiljgbkhblaaDoor
open Go.ChangeShapes Go.WideShapes Go.ChangeAt Go.RowKit

theorem Str_info : (Tryd.prog.info? 9).map (fun i => (i.zero, i.size, i.bytes)) = some (some (.string ⟨#[]⟩), 1, 16) := by kernel_rfl
def strs (l : List ByteArray) : List Value := l.map Value.string
theorem strs_length (l : List ByteArray) : (strs l).length = l.length := List.length_map _
theorem strs_at {l : List ByteArray} {k : Nat} (h : k < l.length) : (strs l)[k]? = some (.string l[k]) := by rw [strs, List.getElem?_map, List.getElem?_eq_getElem h]; rfl
theorem strs_one' {l : List ByteArray} : ∀ v ∈ strs l, v.oneCell' = true := fun v hv => by
  simp only [strs, List.mem_map] at hv
  obtain ⟨s, _, rfl⟩ := hv
  rfl
theorem addr_addN (b j : Nat) : (⟨b, 0, none⟩ : Addr).add j = ⟨b, j, none⟩ := by unfold Addr.add; split <;> simp_all
theorem str_news (w : World) (s : ByteArray) : ∀ j u, (strs [s])[j]? = some u → (w.alloc (.cells #[.string s] 9)).cell? ((⟨w.heap.size, 0, none⟩ : Addr).add j) = some u := fun j u hu => by
  have hj : j = 0 := by
    rcases Nat.eq_zero_or_pos j with h | h
    · exact h
    · rw [List.getElem?_eq_none (by simp [strs]; omega)] at hu; cases hu
  subst hj
  have hb : Blk (w.alloc (.cells #[.string s] 9)) w.heap.size 9 #[.string s] := Blk.newAt rfl rfl
  rw [addr_addN, hb.cell]
  exact hu
/-- a byte of a text, as a number -/
def bAt (s : ByteArray) (k : Nat) : Int := ((s.data.toList.getD k 0).toNat : Int)
theorem bAt_range (s : ByteArray) (k : Nat) : 0 ≤ bAt s k ∧ bAt s k ≤ 255 := by
  have := (s.data.toList.getD k 0).toNat_lt
  unfold bAt
  omega
theorem run_bAt {w : World} (s : ByteArray) (k : Nat) (h : k < s.size) : (Instr.index 9 (.string s) (.int .i64 (k : Nat))).run Tryd.prog w = .ok (.int .u8 (bAt s k)) w := by
  rw [run_index_string w 9 s .i64 k Tryd.underlying9, dif_pos ⟨by omega, by omega⟩]
  congr 2
  unfold bAt
  rw [List.getD_eq_getElem?_getD, List.getElem?_eq_getElem (by simpa using h)]
  rfl
theorem run_cutAt {w : World} (s : ByteArray) (b i : Nat) (h : b ≤ i) (h2 : i ≤ s.size) : (Instr.slice 9 (.string s) (some (.int .i64 (b : Nat))) (some (.int .i64 (i : Nat))) none).run Tryd.prog w = .ok (.string (s.extract b i)) w := by
  have := run_slice_string (P := Tryd.prog) w 9 s .i64 .i64 b i Tryd.underlying9 (by omega) (by omega) (by omega)
  rw [Int.toNat_natCast, Int.toNat_natCast] at this
  exact this
theorem run_cutFrom {w : World} (s : ByteArray) (b : Nat) (h : b ≤ s.size) : (Instr.slice 9 (.string s) (some (.int .i64 (b : Nat))) none none).run Tryd.prog w = .ok (.string (s.extract b s.size)) w := by
  have := run_slice_string_l (P := Tryd.prog) w 9 s Tryd.underlying9 .i64 b (by omega) (by omega)
  rw [Int.toNat_natCast] at this
  exact this
/-- the loop's state: where the piece begins, and the pieces before it -/
def sst (s : ByteArray) (c : Int) : Nat → Nat × List ByteArray
  | 0 => (0, [])
  | i + 1 => if bAt s i = c then (i + 1, (sst s c i).2 ++ [s.extract (sst s c i).1 i]) else sst s c i
theorem sst_yes {s : ByteArray} {c : Int} {i : Nat} (h : bAt s i = c) : sst s c (i + 1) = (i + 1, (sst s c i).2 ++ [s.extract (sst s c i).1 i]) := by rw [sst, if_pos h]
theorem sst_no {s : ByteArray} {c : Int} {i : Nat} (h : ¬ bAt s i = c) : sst s c (i + 1) = sst s c i := by rw [sst, if_neg h]
theorem sst_le (s : ByteArray) (c : Int) : ∀ i, (sst s c i).1 ≤ i ∧ (sst s c i).2.length ≤ i
  | 0 => ⟨Nat.le_refl _, Nat.le_refl _⟩
  | i + 1 => by
    have := sst_le s c i
    by_cases h : bAt s i = c
    · rw [sst_yes h]; simp; omega
    · rw [sst_no h]; omega
def partsOf (s : ByteArray) (c : Int) : List ByteArray := (sst s c s.size).2 ++ [s.extract (sst s c s.size).1 s.size]
def GivesS (l : List ByteArray) (w : World) (e : Ending) (w' : World) : Prop :=
  ∃ g c, e = .returned (.slice (some ⟨g, 0, none⟩) l.length c) ∧ Own w' w.heap.size w'.heap.size 9 1 (some ⟨g, 0, none⟩) l.length c (strs l) ∧ Below w.heap.size w w'
set_option maxRecDepth 20000 in
set_option maxHeartbeats 3200000 in
theorem l01Split_any (s : ByteArray) (c : Int) (hs : s.size ≤ 1048576) (w : World) :
    Calls Tryd.prog 31 #[.string s, .int .u8 c] w (GivesS (partsOf s c) w) := by
  obtain ⟨i0, hi, hz0, hz1, hz2⟩ := info_parts Str_info
  go_enter Tryd.func31, Tryd.ntmps31
  go_wp2
  have o0 : (w.alloc (.cells #[] 9)).ownsRow w.heap.size 9 1 (.slice (some ⟨w.heap.size, 0, none⟩) 0 0) 0 (strs []) := World.ownsRow_lit (e := 9) (base := w.heap.size) (size := 1) w #[] 0 (Nat.le_refl _) (by unfold maxLen; omega) rfl
  go_loopw [5, 6, 7] (fun v b i wr => ∃ k : Nat, k ≤ s.size ∧ i = .int .i64 k ∧ ∃ (p : Nat) (L : List ByteArray), Hid (sst s c k = (p, L)) ∧ p ≤ k ∧ L.length ≤ k ∧ b = .int .i64 p ∧ (∃ g cc, v = .slice (some ⟨g, 0, none⟩) L.length cc) ∧ wr.ownsRow w.heap.size 9 1 v L.length (strs L) ∧ Below w.heap.size w wr) (fun _ _ i _ => s.size - (intOf i).toNat)
  case atStart => exact ⟨0, by omega, rfl, 0, [], Lib.hid rfl, by omega, by decide, rfl, ⟨_, _, rfl⟩, o0, (Below.refl _ _).alloc (Nat.le_refl _) _⟩
  case round =>
    clear o0
    obtain ⟨k, hk, rfl, p, L, hst, hp, hL, rfl, ⟨g, cc, rfl⟩, ho, hb⟩ := hrel
    have HO := Lib.hid ho
    have HBr := Lib.hid hb
    clear ho hb
    by_cases hlt : k < s.size
    · have hr := fun W => run_bAt (w := W) s k hlt
      have hc := fun W => run_cutAt (w := W) s p k hp (by omega)
      have hlt' : (k : Int) < s.size := by omega
      by_cases hx : bAt s k = c
      · have hst2 : Hid (sst s c (k + 1) = (k + 1, L ++ [s.extract p k])) := Lib.hid (by rw [sst_yes hx, hst.out])
        have HN := Lib.hid (str_news wr (s.extract p k))
        generalize s.extract p k = t at *
        generalize bAt s k = x at *
        subst hx
        go_wp2_with (at_builtin; refine wpList_append_own _ rfl (.tmp 20) (.tmp 25) 54 rfl w.heap.size 9 i0 _ 1 16 Tryd.underlying54 hi hz0 hz1 hz2 rfl (by decide) (.slice (some ⟨g, 0, none⟩) L.length cc) L.length _ rfl (HO.out.alloc _) ⟨wr.heap.size, 0, none⟩ 1 1 (strs [t]) rfl rfl HN.out strs_one' (by unfold maxLen; omega) (by omega) (by rw [size_alloc]; have := HBr.out.size; omega) ?_; intro v' w6 hown' hgrow _; have HOWN := Lib.hid hown'; have HGR := Lib.hid hgrow; clear hown' hgrow)
        obtain ⟨A1, c1', hve, hOO⟩ := Own.of_row HOWN.out
        obtain ⟨g2, cur1, hA1, _⟩ := hOO.at_ (by omega)
        subst hve hA1
        have hll : (L ++ [t]).length = L.length + 1 := by simp
        refine ⟨⟨k + 1, by omega, by go_num, k + 1, L ++ [t], hst2, by omega, by omega, by go_num, ⟨g2, c1', by rw [hll]⟩, ?_, (HBr.out.alloc (by have := HBr.out.size; omega) _).grown HGR.out (by rw [size_alloc]; have := HBr.out.size; omega) (fun j e => (HO.out.lt _ e).1)⟩, by simp [intOf]; omega⟩
        rw [strs, List.map_append, hll]
        exact HOWN.out
      · have hst2 : Hid (sst s c (k + 1) = (p, L)) := Lib.hid (by rw [sst_no hx, hst.out])
        generalize bAt s k = x at *
        go_wp2
        exact ⟨⟨k + 1, by omega, by go_num, p, L, hst2, by omega, by omega, rfl, ⟨g, cc, rfl⟩, HO.out, HBr.out⟩, by simp [intOf]; omega⟩
    · obtain rfl : k = s.size := by omega
      have hpo : Hid (partsOf s c = L ++ [s.extract p s.size]) := Lib.hid (by rw [partsOf, hst.out])
      have hc := fun W => run_cutFrom (w := W) s p hp
      have HN := Lib.hid (str_news wr (s.extract p s.size))
      generalize s.extract p s.size = t at *
      go_wp2_with (at_builtin; refine wpList_append_own _ rfl (.tmp 29) (.tmp 33) 54 rfl w.heap.size 9 i0 _ 1 16 Tryd.underlying54 hi hz0 hz1 hz2 rfl (by decide) (.slice (some ⟨g, 0, none⟩) L.length cc) L.length _ rfl (HO.out.alloc _) ⟨wr.heap.size, 0, none⟩ 1 1 (strs [t]) rfl rfl HN.out strs_one' (by unfold maxLen; omega) (by omega) (by rw [size_alloc]; have := HBr.out.size; omega) ?_; intro v' w6 hown' hgrow _; have HOWN := Lib.hid hown'; have HGR := Lib.hid hgrow; clear hown' hgrow)
      go_ret
      obtain ⟨A1, c1', hve, hOO⟩ := Own.of_row HOWN.out
      obtain ⟨g2, cur1, hA1, _⟩ := hOO.at_ (by omega)
      subst hve hA1
      have hll : (L ++ [t]).length = L.length + 1 := by simp
      refine ⟨g2, c1', ?_, ?_, (HBr.out.alloc (by have := HBr.out.size; omega) _).grown HGR.out (by rw [size_alloc]; have := HBr.out.size; omega) (fun j e => (HO.out.lt _ e).1)⟩
      · rw [hpo.out, hll]; rfl
      · rw [hpo.out, strs, List.map_append, hll]
        exact hOO
/-- the number that a text of one to nine digits spells, or -1 -/
def smallV (s : ByteArray) : Int := if 1 ≤ s.size ∧ s.size ≤ 9 then (match Lib.decNat s.data.toList with | some n => (n : Int) | none => -1) else -1
theorem bAt_get {s : ByteArray} {k : Nat} (h : k < s.size) : ∃ b : UInt8, s.data.toList[k]? = some b ∧ bAt s k = (b.toNat : Int) := by
  rw [Lib.size_eq] at h
  refine ⟨s.data.toList[k], List.getElem?_eq_getElem h, ?_⟩
  unfold bAt
  rw [List.getD_eq_getElem?_getD, List.getElem?_eq_getElem h]
  rfl
theorem dig_step {s : ByteArray} {k n : Nat} (hk : k < s.size) (h : Lib.decFrom 0 (s.data.toList.take k) = some n) (h0 : 48 ≤ bAt s k) (h1 : bAt s k ≤ 57) :
    Lib.decFrom 0 (s.data.toList.take (k + 1)) = some (n * 10 + (bAt s k - 48).toNat) := by
  obtain ⟨b, hb, e⟩ := bAt_get hk
  have hd : Lib.digitVal b = some (b.toNat - 48) := by unfold Lib.digitVal; rw [if_pos (by omega)]
  rw [Lib.decFrom_take _ k 0 n b _ h hb hd, e]
  congr 2
  omega
theorem dig_none {s : ByteArray} {k : Nat} (hk : k < s.size) (h : bAt s k < 48 ∨ 57 < bAt s k) : Lib.decNat s.data.toList = none := by
  obtain ⟨b, hb, e⟩ := bAt_get hk
  rw [Lib.decNat]
  split
  · rfl
  · cases hd : Lib.decFrom 0 s.data.toList with
    | none => rfl
    | some n =>
      obtain ⟨d, hd2⟩ := Lib.digit_of_decFrom _ _ _ hd k b hb
      unfold Lib.digitVal at hd2
      split at hd2
      · omega
      · cases hd2
theorem dig_all {s : ByteArray} {n : Nat} (h1 : 1 ≤ s.size) (h : Lib.decFrom 0 (s.data.toList.take s.size) = some n) : Lib.decNat s.data.toList = some n := by
  rw [Lib.size_eq] at h h1
  rw [List.take_length] at h
  rw [Lib.decNat, if_neg (by cases e : s.data.toList with | nil => rw [e] at h1; simp at h1 | cons _ _ => simp)]
  exact h
theorem decFrom_lt : ∀ (l : List UInt8) (a n k : Nat), a < 10 ^ k → Lib.decFrom a l = some n → n < 10 ^ (k + l.length)
  | [], a, n, k, h, e => by simp only [Lib.decFrom, Option.some.injEq] at e; subst e; exact h
  | b :: r, a, n, k, h, e => by
    simp only [Lib.decFrom] at e
    cases hd : Lib.digitVal b with
    | none => rw [hd] at e; cases e
    | some d =>
      rw [hd] at e
      have hd9 : d ≤ 9 := by
        unfold Lib.digitVal at hd
        split at hd
        · cases hd; omega
        · cases hd
      have := decFrom_lt r (a * 10 + d) n (k + 1) (by rw [Nat.pow_succ]; omega) e
      rw [List.length_cons, show k + (r.length + 1) = k + 1 + r.length by omega]
      exact this
theorem smallV_le (s : ByteArray) : -1 ≤ smallV s ∧ smallV s < 1000000000 := by
  unfold smallV
  split
  · rename_i h
    cases e : Lib.decNat s.data.toList with
    | none => simp
    | some n =>
      rw [Lib.decNat] at e
      split at e
      · cases e
      · have := decFrom_lt _ 0 n 0 (by decide) e
        rw [Nat.zero_add, ← Lib.size_eq] at this
        have h2 : 10 ^ s.size ≤ 10 ^ 9 := Nat.pow_le_pow_right (by decide) h.2
        have h3 : (10 : Nat) ^ 9 = 1000000000 := by decide +kernel
        simp only
        omega
  · omega
set_option maxRecDepth 20000 in
set_option maxHeartbeats 3200000 in
theorem l01Small_any (s : ByteArray) (hs : s.size ≤ 1048576) (w : World) : Calls Tryd.prog 32 #[.string s] w fun e w' => e = .returned (.int .i64 (smallV s)) ∧ w = w' := by
  by_cases hsz : 1 ≤ s.size ∧ s.size ≤ 9
  · obtain ⟨z1, z9⟩ := hsz
    have z1' : ¬ (s.size : Int) < 1 := by omega
    have z9' : ¬ (9 : Int) < s.size := by omega
    go_enter Tryd.func32, Tryd.ntmps32
    go_wp2
    go_loopw [3, 4] (fun q i wr => ∃ k n : Nat, k ≤ s.size ∧ i = .int .i64 k ∧ q = .int .i64 n ∧ Hid (Lib.decFrom 0 (s.data.toList.take k) = some n) ∧ n < 1000000000 ∧ w = wr) (fun _ i _ => s.size - (intOf i).toNat)
    case atStart => exact ⟨0, 0, by omega, rfl, rfl, Lib.hid rfl, by omega, rfl⟩
    case round =>
      obtain ⟨k, n, hk, rfl, rfl, hd, hn, rfl⟩ := hrel
      by_cases hlt : k < s.size
      · have hr := fun W => run_bAt (w := W) s k hlt
        have hlt' : (k : Int) < s.size := by omega
        have hR := bAt_range s k
        by_cases hx : 48 ≤ bAt s k ∧ bAt s k ≤ 57
        · have hd2 := Lib.hid (dig_step hlt hd.out hx.1 hx.2)
          have hn2 : Hid (n * 10 + (bAt s k - 48).toNat < 1000000000) := Lib.hid (by
            have := decFrom_lt _ 0 _ 0 (by decide) hd2.out
            rw [Nat.zero_add, List.length_take] at this
            have h2 : 10 ^ (min (k + 1) s.data.toList.length) ≤ 10 ^ 9 := Nat.pow_le_pow_right (by decide) (by omega)
            have h3 : (10 : Nat) ^ 9 = 1000000000 := by decide +kernel
            omega)
          obtain ⟨x0, x1⟩ := hx
          have y0 : ¬ bAt s k < 48 := by omega
          have y1 : ¬ 57 < bAt s k := by omega
          generalize bAt s k = x at *
          go_wp2
          exact ⟨⟨k + 1, n * 10 + (x - 48).toNat, by omega, by go_num, by go_num, hd2, hn2.out, by first | rfl | trivial⟩, by simp [intOf]; omega⟩
        · have e : Lib.decNat s.data.toList = none := dig_none hlt (by omega)
          have hv : Hid (smallV s = -1) := Lib.hid (by rw [smallV, if_pos ⟨z1, z9⟩, e])
          have hx2 : bAt s k < 48 ∨ 57 < bAt s k := by omega
          clear e hx hd
          generalize bAt s k = x at *
          rcases hx2 with h | h
          · go_wp2
            go_ret
            exact ⟨by rw [hv.out]; rfl, rfl⟩
          · have h' : ¬ x < 48 := by omega
            go_wp2
            go_ret
            exact ⟨by rw [hv.out]; rfl, rfl⟩
      · obtain rfl : k = s.size := by omega
        have hv : Hid (smallV s = (n : Int)) := Lib.hid (by rw [smallV, if_pos ⟨z1, z9⟩, dig_all z1 hd.out])
        clear hd
        go_wp2
        go_ret
        exact ⟨by rw [hv.out]; rfl, rfl⟩
  · have hv : Hid (smallV s = -1) := Lib.hid (by rw [smallV, if_neg hsz])
    have hz : (s.size : Int) < 1 ∨ (¬ (s.size : Int) < 1 ∧ (9 : Int) < s.size) := by omega
    rcases hz with h | ⟨h, h2⟩
    all_goals
      go_enter Tryd.func32, Tryd.ntmps32
      go_wp2
      go_ret
      exact ⟨by rw [hv.out]; rfl, rfl⟩
end Go.Proofs.YtfjfiljgbkhblaaDoor
