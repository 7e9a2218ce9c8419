/- Slices of texts in laws: sized, copied, compared, marked. -/
import Derived.Test.YtigjdcfdgifonaaRows
import Derived.Test.YtigjdcfdgifonaaSl
import Derived.Test.YtigjdcfdgifonaaCl
import Derived.Laws.BytesArg
import Derived.Laws.Concat
import Derived.Lib.ItoaNum
import Derived.SliceStrings
import Derived.Deep.RegionHeld3
namespace Go.Proofs.Ytigjdcfdgifonaa
open Go.ChangeShapes Go.WideShapes Go.ChangeAt Go.RowKit

theorem Str_info : (Try.prog.info? 9).map (fun i => (i.zero, i.size, i.bytes)) = some (some (.string ⟨#[]⟩), 1, 16) := by kernel_rfl
theorem Byt_info : (Try.prog.info? 5).map (fun i => (i.zero, i.size, i.bytes)) = some (some (.int .u8 0), 1, 1) := by kernel_rfl
def strs (l : List ByteArray) : List Value := l.map Value.string
theorem strs_length (l : List ByteArray) : (strs l).length = l.length := List.length_map _
theorem strs_one {l : List ByteArray} : ∀ v ∈ strs l, v.cells = #[v] := fun v hv => by
  simp only [strs, List.mem_map] at hv
  obtain ⟨s, _, rfl⟩ := hv
  rfl
theorem strs_at {l : List ByteArray} {k : Nat} (h : k < l.length) : (strs l)[k]? = some (.string l[k]) := by rw [strs, List.getElem?_map, List.getElem?_eq_getElem h]; rfl
theorem run_make_strs (n : Nat) (hn : n ≤ 1048576) (w : World) : (Instr.makeSlice 34 (.int .i64 (n : Nat)) (.int .i64 (n : Nat))).run Try.prog w = .ok (.slice (some ⟨w.heap.size, 0, none⟩) n n) (w.alloc (.cells (List.replicate n (.string ⟨#[]⟩)).toArray 9)) := by
  obtain ⟨i0, hi, hz0, hz1, hz2⟩ := info_parts Str_info
  have hr := run_make (P := Try.prog) w 34 9 i0 (.string ⟨#[]⟩) Try.underlying34 hi hz0 .i64 .i64 n n (by omega) (by omega) (by rw [hz2]; omega) (by omega)
  simp only [Int.toNat_natCast] at hr
  rw [hz1, Nat.mul_one, show (Value.string ⟨#[]⟩).cells = #[Value.string ⟨#[]⟩] from rfl, madeZero] at hr
  exact hr
theorem Own.cell_ {w : World} {lo hi g : Nat} {e : TypeId} {n c : Nat} {xs : List Value} (h : Own w lo hi e 1 (some ⟨g, 0, none⟩) n c xs) {j : Nat} (hj : j < n) : (∃ u, w.cell? ⟨g, j, none⟩ = some u) ∧ w.frozen? ⟨g, j, none⟩ = false := by
  obtain ⟨g', cur, e1, _, _, hb, hnc, _, hs, hx⟩ := h.at_ (by omega)
  cases e1
  refine ⟨⟨cur[j]'(by omega), ?_⟩, hb.frozen j⟩
  rw [hb.cell]
  exact Array.getElem?_eq_getElem _

/-! ### their size -/
theorem szStringS_any (A : Option Addr) (n c : Nat) (l : List ByteArray) (hl : l.length = n) (hbig : ∀ s ∈ l, s.size ≤ maxLen) (hn : n ≤ c) (hc : c ≤ 9223372036854775807) (w : World) (hR : Rd w w.heap.size 1 A n (strs l)) :
    Calls Try.prog 28 #[.slice A n c, .int .i64 1048576] w fun e w' => ∃ r : Int, e = .returned (.int .i64 r) ∧ w = w' ∧ (r < 0 ∨ (0 ≤ r ∧ n ≤ 1048576 ∧ ∀ s ∈ l, s.size ≤ 1048576)) := by
  have hn63 : (n : Int) ≤ 9223372036854775807 := by omega
  by_cases h20 : n ≤ 1048576
  · have h20' : ¬ (1048576 - (n : Int) < 0) := by omega
    go_enter Try.func28, Try.ntmps28
    go_wp2
    go_loopw [1, 5] (fun lf i wr => ∃ k : Nat, k ≤ n ∧ i = .int .i64 k ∧ (∃ r : Int, lf = .int .i64 r ∧ 0 ≤ r ∧ r ≤ 1048576) ∧ Hid (∀ j (h : j < l.length), j < k → l[j].size ≤ 1048576) ∧ w = wr) (fun _ i _ => n - (intOf i).toNat)
    case atStart => exact ⟨0, by omega, rfl, ⟨_, rfl, by omega, by omega⟩, Lib.hid (fun j h hj => by omega), rfl⟩
    case round =>
      obtain ⟨k, hk, rfl, ⟨r, rfl, r0, r1⟩, hv, rfl⟩ := hrel
      by_cases hlt : k < n
      · obtain ⟨b, o, rfl, hbB, hc'⟩ := hR.at_ (by omega)
        have c1 := hc' k _ (strs_at (by omega))
        have hx := hbig (l[k]'(by omega)) (List.getElem_mem _)
        have hv2 : (l[k]'(by omega)).size ≤ 1048576 → Hid (∀ j (h : j < l.length), j < k + 1 → l[j].size ≤ 1048576) := fun h => Lib.hid (fun j hj hjk => by
          by_cases e : j = k
          · subst e; exact h
          · exact hv.out j hj (by omega))
        have HV := Lib.hid hv2
        have hlt' : (k : Int) < n := by omega
        unfold maxLen at hx
        clear hc' hR hv2 hv hbig
        generalize l[k]'(by omega) = s at *
        by_cases hr : r - (s.size : Int) < 0
        · go_wp2
          go_ret
          exact ⟨-1, rfl, rfl, .inl (by omega)⟩
        · go_wp2
          exact ⟨⟨k + 1, by omega, by go_num, ⟨_, rfl, by omega, by omega⟩, HV.out (by omega), by first | rfl | trivial⟩, by simp [intOf]; omega⟩
      · obtain rfl : k = n := by omega
        have hall : ∀ s ∈ l, s.size ≤ 1048576 := fun s hs => by
          obtain ⟨j, hj, rfl⟩ := List.getElem_of_mem hs
          exact hv.out j hj (by omega)
        have HA := Lib.hid hall
        clear hv hall hbig
        go_wp2
        go_ret
        exact ⟨r, rfl, rfl, .inr ⟨r0, h20, HA.out⟩⟩
  · have h20' : 1048576 - (n : Int) < 0 := by omega
    go_enter Try.func28, Try.ntmps28
    go_wp2
    go_ret
    exact ⟨-1, rfl, rfl, .inl (by omega)⟩

set_option maxHeartbeats 400000 in
theorem toStringS_any (A : Option Addr) (n c : Nat) (l : List ByteArray) (hl : l.length = n) (hn : n ≤ 1048576) (w : World) (hR : Rd w w.heap.size 1 A n (strs l)) :
    Calls Try.prog 30 #[.slice A n c] w fun e w' => e = .returned (.slice (some ⟨w.heap.size, 0, none⟩) n n) ∧ Own w' w.heap.size w'.heap.size 9 1 (some ⟨w.heap.size, 0, none⟩) n n (strs l) ∧ Below w.heap.size w w' := by
  have hmk := run_make_strs n hn
  have o0 : Own (w.alloc (.cells (List.replicate n (.string ⟨#[]⟩)).toArray 9)) w.heap.size (w.heap.size + 1) 9 1 (some ⟨w.heap.size, 0, none⟩) n n (strs (l.take 0) ++ List.replicate (n - 0) (.string ⟨#[]⟩)) :=
    ⟨by simp [strs], .inr ⟨w.heap.size, _, rfl, Nat.le_refl _, by omega, Blk.new _ _ _, Nat.le_refl _, by unfold maxLen; omega, by simp, by simp [strs]⟩⟩
  have HO0 := Lib.hid o0
  clear o0
  go_enter Try.func30, Try.ntmps30
  go_wp2
  go_loopw [4] (fun i wr => ∃ k : Nat, k ≤ n ∧ i = .int .i64 k ∧ Own wr w.heap.size (w.heap.size + 1) 9 1 (some ⟨w.heap.size, 0, none⟩) n n (strs (l.take k) ++ List.replicate (n - k) (.string ⟨#[]⟩)) ∧ Below w.heap.size w wr ∧ w.heap.size + 1 ≤ wr.heap.size) (fun i _ => n - (intOf i).toNat)
  case atStart =>
    exact ⟨0, by omega, rfl, HO0.out, (Below.refl _ _).alloc (Nat.le_refl _) _, by simp⟩
  case round =>
    clear hmk HO0
    obtain ⟨k, hk, rfl, h3, hb, hz⟩ := hrel
    by_cases hlt : k < n
    · obtain ⟨b, o, rfl, hbB, hc⟩ := (hR.below hb (Nat.le_refl _)).at_ (by omega)
      have c1 := hc k _ (strs_at (by omega))
      obtain ⟨⟨u3, c3⟩, f3⟩ := h3.cell_ hlt
      have hs := h3.setCell k (.string (l[k]'(by omega)))
      rw [show (strs (l.take k) ++ List.replicate (n - k) (Value.string ⟨#[]⟩)).set k (.string (l[k]'(by omega))) = strs (l.take (k + 1)) ++ List.replicate (n - (k + 1)) (.string ⟨#[]⟩) from by
        rw [List.set_append_right _ _ (by simp [strs]; omega), show k - (strs (l.take k)).length = 0 by simp [strs]; omega, show n - k = (n - (k + 1)) + 1 by omega, List.replicate_succ, List.set_cons_zero, List.take_succ_eq_append_getElem (by omega), strs, strs, List.map_append, List.append_assoc]
        rfl] at hs
      have HS := Lib.hid hs
      have HbB := Lib.hid hbB
      have hlt' : (k : Int) < n := by omega
      clear hc hR hbB hs h3
      go_wp2
      exact ⟨⟨k + 1, by omega, by go_num, HS.out, hb.setCell (Nat.le_refl _) _, by simpa using hz⟩, by simp [intOf]; omega⟩
    · have : k = n := by omega
      subst this
      rw [Nat.sub_self, List.replicate_zero, List.append_nil, List.take_of_length_le (by omega)] at h3
      have H3 := Lib.hid h3
      clear h3
      go_wp2
      go_ret
      exact ⟨rfl, H3.out.more hz, hb⟩

set_option maxHeartbeats 400000 in
theorem eqStringS_same (A A' : Option Addr) (n c c' : Nat) (l : List ByteArray) (hl : l.length = n) (hn : n ≤ 100000000) (w : World) (hR : Rd w w.heap.size 1 A n (strs l)) (hR' : Rd w w.heap.size 1 A' n (strs l)) :
    Calls Try.prog 19 #[.slice A n c, .slice A' n c'] w fun e w' => e = .returned (.bool true) ∧ Below w.heap.size w w' := by
  go_enter Try.func19, Try.ntmps19
  go_wp2
  go_loopw [5] (fun i wr => ∃ k : Nat, k ≤ n ∧ i = .int .i64 k ∧ Below w.heap.size w wr) (fun i _ => n - (intOf i).toNat)
  case atStart => exact ⟨0, by omega, rfl, Below.refl _ _⟩
  case round =>
    obtain ⟨k, hk, rfl, hb⟩ := hrel
    by_cases hlt : k < n
    · obtain ⟨b, o, rfl, hbB, hc⟩ := (hR.below hb (Nat.le_refl _)).at_ (by omega)
      obtain ⟨b', o', rfl, hbB', hc'⟩ := (hR'.below hb (Nat.le_refl _)).at_ (by omega)
      have c1 := hc k _ (strs_at (by omega))
      have c2 := hc' k _ (strs_at (by omega))
      have hi0 : (0 : Int) ≤ (k : Int) := Int.natCast_nonneg _
      have hi1 : (k : Int) < (n : Int) := by omega
      clear hc hR hbB hc' hR' hbB'
      generalize l[k]'(by omega) = s at *
      go_wp2
      go_quiet (fail)
      go_wp2
      exact ⟨⟨k + 1, by omega, by go_num, below_drewN hb _⟩, by simp [intOf]; omega⟩
    · have : k = n := by omega
      subst this
      go_wp2
      go_ret
      exact ⟨rfl, hb⟩

theorem open_strs_rd {H : Type} {enc : TypeId × Value → H} {P : Program} {w : World} {t e : TypeId} {A : Option Addr} {n c : Nat} {d : DataW H} {p : List MemPlace} (ht : P.underlying t = some (.slice e)) (he : P.underlying e = some .string) (hce : P.cellsOf e = 1)
    (h : DataW.Trod enc P w 0 (fun _ => true) true t (.slice A n c) d p) :
    ∃ l : List ByteArray, l.length = n ∧ n ≤ c ∧ c ≤ 9223372036854775807 ∧ Rd w w.heap.size 1 A n (strs l) ∧ ∀ s ∈ l, s.size ≤ maxLen := by
  obtain ⟨fuel, hf⟩ := h
  rcases open_strings ht he hce hf with ⟨hcs, hx⟩ | ⟨a, len, cap, ss, hcs, _, hl, hm, hz, hx, hcell, hwz⟩
  · simp only [Value.cells, List.cons.injEq, Value.slice.injEq, and_true] at hcs
    obtain ⟨rfl, rfl, rfl⟩ := hcs
    exact ⟨[], rfl, Nat.le_refl _, by omega, Rd.nil_, fun x hx => by cases hx⟩
  · simp only [Value.cells, List.cons.injEq, Value.slice.injEq, and_true] at hcs
    obtain ⟨rfl, rfl, rfl⟩ := hcs
    simp only [if_true] at hz
    refine ⟨ss.take n, by simp; omega, hl, by unfold maxLen at hm; exact hm, ⟨by simp [strs]; omega, fun hn => ?_⟩, fun x hx => hwz x (List.mem_of_mem_take hx)⟩
    obtain ⟨b, o, s⟩ := a
    have h0 := hcell 0 (by omega)
    have hs : s = none := by
      have := World.cell?_spot h0
      simpa [Addr.add] using this
    subst hs
    refine ⟨b, o, rfl, World.block_lt_of_cell? _ _ h0, fun j u hu => ?_⟩
    rw [strs, List.getElem?_map, List.getElem?_take] at hu
    split at hu
    · rename_i hj
      have := hcell j (by omega)
      rw [List.getElem?_eq_getElem (by omega)] at hu
      simp only [Option.map_some, Option.some.injEq] at hu
      rw [← hu]
      rw [List.getD_eq_getElem?_getD, List.getElem?_eq_getElem (by omega), show (({ block := b, off := o } : Addr).add j) = ⟨b, o + j, none⟩ from by unfold Addr.add; split <;> simp_all] at this
      exact this
    · cases hu
end Go.Proofs.Ytigjdcfdgifonaa
