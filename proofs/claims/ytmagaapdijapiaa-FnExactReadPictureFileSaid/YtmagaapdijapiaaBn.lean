/- Slices of blocks in the laws: measured, copied, compared. -/
import Derived.Test.YtmagaapdijapiaaRows
import Derived.Test.YtmagaapdijapiaaBm
import Derived.Test.YtmagaapdijapiaaLd
import Derived.Deep.RegionLaw
namespace Go.Proofs.Ytmagaapdijapiaa
open Go.ChangeShapes Go.WideShapes Go.ChangeAt Go.RowKit

theorem szBlockS_in (A : Option Addr) (n c : Nat) (left : Int) (h : n ≤ left) (h2 : left ≤ 1048576) (w : World) :
    Calls Try.prog 7 #[.slice A n c, .int .i64 left] w fun e w' => e = .returned (.int .i64 (left - n)) ∧ w = w' := by
  go_enter Try.func7, Try.ntmps7
  go_wp2
  go_ret
  exact ⟨rfl, rfl⟩
theorem szBlockS_out (A : Option Addr) (n c : Nat) (left : Int) (h : left < n) (hn : n ≤ 9223372036854775807) (h0 : 0 ≤ left) (h2 : left ≤ 1048576) (w : World) :
    Calls Try.prog 7 #[.slice A n c, .int .i64 left] w fun e w' => e = .returned (.int .i64 (-1)) ∧ w = w' := by
  go_enter Try.func7, Try.ntmps7
  go_wp2
  go_ret
  exact ⟨rfl, rfl⟩
set_option maxRecDepth 20000 in
set_option maxHeartbeats 1600000 in
theorem eqBlock_same (b : Bl) (hb : b.1.length = 2 ∧ b.2.length = 16) (w : World) :
    Calls Try.prog 51 #[.agg (bav b), .agg (bav b)] w fun e w' => e = .returned (.bool true) ∧ Below w.heap.size w w' := by
  obtain ⟨w2, hw2⟩ : ∃ w2 : World, w2 = (w.alloc (.cells (bav b) 78)).alloc (.cells (bav b) 78) := ⟨_, rfl⟩
  have h0 : Blk w2 w.heap.size 78 (bav b) := by rw [hw2]; exact (Blk.newAt rfl rfl).alloc _
  have h1 : Blk w2 (w.heap.size + 1) 78 (bav b) := by rw [hw2]; exact Blk.newAt (by simp) rfl
  have bw : Below w.heap.size w w2 := by rw [hw2]; exact ((Below.refl _ _).alloc (Nat.le_refl _) _).alloc (by simp) _
  have HW := Lib.hid hw2
  have r0 := h0.rangeV (bav_at1 hb)
  have r1 := h1.rangeV (bav_at1 hb)
  rw [hw2] at r0 r1
  have H0 := Lib.hid h0
  have H1 := Lib.hid h1
  have BW := Lib.hid bw
  have R0 := Lib.hid r0
  have R1 := Lib.hid r1
  clear h0 h1 bw hw2 r0 r1
  go_enter Try.func51, Try.ntmps51
  go_wp2_with (first
    | refine wpList_load_ivs rfl _ _ rfl w.heap.size 0 rfl .i32 b.1 _ R0.out Try.underlying63 rfl (by rw [hb.1]; exact size63) ?_
    | refine wpList_load_ivs rfl _ _ rfl (w.heap.size + 1) 0 rfl .i32 b.1 _ R1.out Try.underlying63 rfl (by rw [hb.1]; exact size63) ?_
    | (go_at_call 96; refine (eqCorner_same b.1 hb.1 _).mono ?_; rintro e w4 ⟨rfl, hb4⟩; have hb4' : Below w2.heap.size w2 w4 := (by rw [HW.out]; exact hb4); have z4 := hb4'.size; have K0 := Lib.hid ((H0.out.below hb4' H0.out.lt).rangeV (bav_at2 hb)); have K1 := Lib.hid ((H1.out.below hb4' H1.out.lt).rangeV (bav_at2 hb)); have BK := Lib.hid (BW.out.trans (hb4'.mono BW.out.size)); clear hb4 hb4' HW R0 R1 H0 H1)
    | refine wpList_load_ivs rfl _ _ rfl w.heap.size 2 rfl .u16 b.2 _ K0.out Try.underlying76 rfl (by rw [hb.2]; exact size76) ?_
    | refine wpList_load_ivs rfl _ _ rfl (w.heap.size + 1) 2 rfl .u16 b.2 _ K1.out Try.underlying76 rfl (by rw [hb.2]; exact size76) ?_
    | (go_at_call 97; refine (eqMask_same b.2 hb.2 _).mono ?_; rintro e w6 ⟨rfl, hb6⟩; have BM := Lib.hid (BK.out.trans (hb6.mono (by have := BW.out.size; omega))); clear hb6))
  all_goals
    go_ret
    exact ⟨rfl, BM.out⟩

theorem run_make_cells {P : Program} {t e : TypeId} {i : TypeInfo} {z : Value} {sz : Nat} (ht : P.underlying t = some (.slice e)) (hi : P.info? e = some i) (hz : i.zero = some z) (hsize : i.size = sz)
    (n : Nat) (hbytes : i.bytes * n ≤ 281474976710656) (hn : n ≤ 9223372036854775807) :
    ∃ Z : Array Value, Z.size = n * sz ∧ ∀ w : World, (Instr.makeSlice t (.int .i64 (n : Nat)) (.int .i64 (n : Nat))).run P w = .ok (.slice (some ⟨w.heap.size, 0, none⟩) n n) (w.alloc (.cells Z e)) := by
  have hb : (i.bytes : Int) * (n : Int) ≤ 281474976710656 := by
    have h : ((i.bytes * n : Nat) : Int) ≤ 281474976710656 := by omega
    rwa [Int.natCast_mul] at h
  refine ⟨madeCells z.cells (n * sz), size_madeCells _ _, fun w => ?_⟩
  have hr := run_make (P := P) w t e i z ht hi hz .i64 .i64 n n (by omega) (by omega) hb (by omega)
  simp only [Int.toNat_natCast] at hr
  rw [hsize] at hr
  exact hr
theorem Rd.block {w : World} {B n b o k : Nat} {l : List Bl} (h : Rd w B 18 (some ⟨b, o, none⟩) n (bcs l)) (hl : Bls l) (hn : 0 < n) (hk : k < l.length) : w.rangeAt b (o + k * 18) (bvs l[k]) := by
  obtain ⟨b', o', e, _, hc⟩ := h.2 hn
  cases e
  have := Rd.rangeAt (i := k * 18) (s := 18) hc
  rwa [bcs_row hl hk] at this
theorem Bls.take {l : List Bl} (h : Bls l) (k : Nat) : Bls (l.take k) := fun b hb => h b (List.mem_of_mem_take hb)
theorem bcs_succ {l : List Bl} {k : Nat} (hk : k < l.length) : bcs (l.take (k + 1)) = bcs (l.take k) ++ bvs l[k] := by
  rw [bcs, bcs, List.take_succ_eq_append_getElem hk, List.map_append, List.flatten_append]
  simp
theorem fill_blocks {l : List Bl} (h : Bls l) {Z : List Value} {k : Nat} (hk : k < l.length) (_hZ : Z.length = l.length * 18) :
    ((bcs (l.take k) ++ Z.drop (k * 18)).take (k * 18) ++ (bvs l[k] ++ (bcs (l.take k) ++ Z.drop (k * 18)).drop (k * 18 + (bvs l[k]).length))) = bcs (l.take (k + 1)) ++ Z.drop ((k + 1) * 18) := by
  have e : (bcs (l.take k)).length = k * 18 := by rw [bcs_length (h.take k), List.length_take, Nat.min_eq_left (by omega)]
  rw [bvs_length (h.at_ hk), List.take_left' e, ← List.append_assoc, bcs_succ hk, List.drop_append, List.drop_of_length_le (by omega), List.nil_append, e, Nat.add_sub_cancel_left, List.drop_drop, show k * 18 + 18 = (k + 1) * 18 by omega]
theorem Block_info : (Try.prog.info? 78).map (fun i => (i.zero, i.size, i.bytes)) = some (some (.agg #[.int .i32 0, .int .i32 0, .int .u16 0, .int .u16 0, .int .u16 0, .int .u16 0, .int .u16 0, .int .u16 0, .int .u16 0, .int .u16 0, .int .u16 0, .int .u16 0, .int .u16 0, .int .u16 0, .int .u16 0, .int .u16 0, .int .u16 0, .int .u16 0]), 18, 40) := by kernel_rfl
set_option maxRecDepth 20000 in
set_option maxHeartbeats 1600000 in
theorem toBlockS_any (A : Option Addr) (n c : Nat) (l : List Bl) (hl : l.length = n) (hrow : Bls l) (hn : n ≤ 1048576) (w : World) (hR : Rd w w.heap.size 18 A n (bcs l)) :
    Calls Try.prog 9 #[.slice A n c] w fun e w' => e = .returned (.slice (some ⟨w.heap.size, 0, none⟩) n n) ∧ Blk w' w.heap.size 78 (bcs l).toArray ∧ Below w.heap.size w w' := by
  obtain ⟨i0, hi, hz0, hz1, hz2⟩ := info_parts Block_info
  obtain ⟨Z, hZ, hmk⟩ := run_make_cells (P := Try.prog) Try.underlying27 hi hz0 hz1 n (by rw [hz2]; omega) (by omega)
  go_enter Try.func9, Try.ntmps9
  go_wp2
  go_loopw [4] (fun i wr => ∃ k : Nat, k ≤ n ∧ i = .int .i64 k ∧ Blk wr w.heap.size 78 (bcs (l.take k) ++ Z.toList.drop (k * 18)).toArray ∧ Below w.heap.size w wr) (fun i _ => n - (intOf i).toNat)
  case atStart =>
    exact ⟨0, by omega, rfl, Blk.newAt rfl (by simp [bcs]), (Below.refl _ _).alloc (Nat.le_refl _) _⟩
  case round =>
    clear hmk
    obtain ⟨k, hk, rfl, h3, hb⟩ := hrel
    by_cases hlt : k < n
    · have hkl : k < l.length := by omega
      have hRw := hR.below hb (Nat.le_refl _)
      obtain ⟨b, o, rfl, hbB, hc⟩ := hRw.at_ (by omega)
      have hrg := hRw.block hrow (by omega) hkl
      have hfl := fill_blocks hrow hkl (Z := Z.toList) (by rw [Array.length_toList, hZ, hl])
      have hbl := hrow.at_ hkl
      have hcs : (bcs (l.take k) ++ Z.toList.drop (k * 18)).length = n * 18 := by
        rw [List.length_append, bcs_length (hrow.take k), List.length_take, Nat.min_eq_left (by omega), List.length_drop, Array.length_toList, hZ]
        omega
      obtain ⟨F, hF⟩ : ∃ F, F = l[k] := ⟨_, rfl⟩
      rw [← hF] at hrg hbl hfl
      have Hrg := Lib.hid hrg
      have h3lt := h3.lt
      have H3lt := Lib.hid h3lt
      have HFL := Lib.hid hfl
      have HCS := Lib.hid hcs
      have HBL := Lib.hid hbl
      have hkn : (k : Int) < (n : Int) := by omega
      have hk0 : (0 : Int) ≤ (k : Int) := Int.natCast_nonneg _
      clear hc hR hrg hF hbB h3lt hfl hcs hbl hRw
      generalize bcs (l.take k) ++ Z.toList.drop (k * 18) = C at *
      go_wp2_with (refine wpList_load_mid rfl _ _ rfl b (o + k * 18) (by rfl) (bvs F) _ Hrg.out Try.underlying83 rfl (by rw [bvs_length HBL.out]; exact size83) ?_)
      refine (toBlock_any F HBL.out _).mono ?_
      rintro e w2 ⟨rfl, hb2⟩
      have k3 := h3.below hb2 H3lt.out
      have kb := hb.trans (hb2.mono (Nat.le_of_lt H3lt.out))
      have hth := k3.there (k * 18) 18 (by rw [List.size_toArray, HCS.out]; omega)
      have Hth := Lib.hid hth
      clear hb2 h3 hb hth
      go_wp2_with (refine wpList_store_mid rfl _ _ _ rfl w.heap.size (k * 18) (bav F) (by first | rfl | (simp; done)) rfl (by rw [bav_size HBL.out]; exact Hth.out) (by rw [bav_size HBL.out]; exact size78) (bav_one F) ?_)
      refine ⟨⟨k + 1, by omega, by go_num, ?_, by rw [bav_toList]; exact below_setCells (Nat.le_refl _) _ _ kb⟩, by simp [intOf]; omega⟩
      have hk3 := k3.setCellsV (bvs F) (k * 18) (by rw [List.size_toArray, HCS.out, bvs_length HBL.out]; omega)
      rw [HFL.out] at hk3
      exact hk3
    · have : k = n := by omega
      subst this
      have hfin : bcs (l.take k) ++ Z.toList.drop (k * 18) = bcs l := by rw [List.drop_of_length_le (by rw [Array.length_toList, hZ]; omega), List.append_nil, List.take_of_length_le (by omega)]
      rw [hfin] at h3
      go_wp2
      go_ret
      exact ⟨rfl, h3, hb⟩
theorem Blk.ownV {w : World} {g lo hi : Nat} {e : TypeId} {xs : List Value} {n size : Nat} (h : Blk w g e xs.toArray) (hl : xs.length = n * size) (h1 : lo ≤ g) (h2 : g < hi) (hm : n ≤ maxLen) :
    Own w lo hi e size (some ⟨g, 0, none⟩) n n xs :=
  ⟨hl, .inr ⟨g, _, rfl, h1, h2, h, Nat.le_refl _, hm, by rw [List.size_toArray, hl], by rw [← hl]; exact List.take_of_length_le (Nat.le_refl _)⟩⟩
theorem rowAt_vals {W : World} {g o : Nat} {vs : List Value} (h : W.rangeAt g o vs) : rowAt W g o vs.length = vs.toArray ∧ hasRow W g o vs.length = true := by
  have hc : ∀ i (hi : i < vs.length), W.cell? ⟨g, o + i, none⟩ = some vs[i] := fun i hi => h i _ (List.getElem?_eq_getElem hi)
  constructor
  · unfold rowAt
    congr 1
    apply List.ext_getElem (by simp)
    intro i h1 h2
    simp only [List.getElem_map, List.getElem_range]
    rw [hc i h2]
    rfl
  · unfold hasRow
    rw [List.all_eq_true]
    intro i hi
    rw [hc i (List.mem_range.1 hi)]
    rfl
theorem exec_loadBlock (ρ : Operand → Value) (dst : Option Tmp) (x : Operand) (t : TypeId) (pos : String) (after : Array Edge) (guard : Option (Nat × Bool)) :
    execOp ρ { dst := dst, op := .load 78 x, type := t, pos := pos, after := after, guard := guard } = ldRow 78 (ρ x) := rfl
theorem run_ldBlock : ∀ (W : World) (g o : Nat), hasRow W g o 18 = true → (ldRow 78 (.pointer (some ⟨g, o, none⟩))).run Try.prog W = .ok (.value (.agg (rowAt W g o 18))) W := run_ldRow Try.underlying78 rfl size78
section
attribute [local go_sem ↓] exec_loadBlock
attribute [local go_sem] run_ldBlock
set_option maxHeartbeats 1600000 in
theorem eqBlockS_same (A A' : Option Addr) (n c c' : Nat) (l : List Bl) (hl : l.length = n) (hrow : Bls l) (hn : n ≤ 100000000) (w : World) (hR : Rd w w.heap.size 18 A n (bcs l)) (hR' : Rd w w.heap.size 18 A' n (bcs l)) :
    Calls Try.prog 12 #[.slice A n c, .slice A' n c'] w fun e w' => e = .returned (.bool true) ∧ Below w.heap.size w w' := by
  go_enter Try.func12, Try.ntmps12
  go_wp2
  go_loopw [5] (fun i wr => ∃ k : Nat, k ≤ n ∧ i = .int .i64 k ∧ Below w.heap.size w wr) (fun i _ => n - (intOf i).toNat)
  case atStart => exact ⟨0, by omega, rfl, Below.refl _ _⟩
  case round =>
    obtain ⟨k, hk, rfl, hb⟩ := hrel
    by_cases hlt : k < n
    · have hkl : k < l.length := by omega
      have hRw := hR.below hb (Nat.le_refl _)
      have hRw' := hR'.below hb (Nat.le_refl _)
      obtain ⟨b, o, rfl, hbB, hc⟩ := hRw.at_ (by omega)
      obtain ⟨b', o', rfl, hbB', hc'⟩ := hRw'.at_ (by omega)
      have hbl := hrow.at_ hkl
      have r1 := rowAt_vals (hRw.block hrow (by omega) hkl)
      have r2 := rowAt_vals (hRw'.block hrow (by omega) hkl)
      rw [bvs_length hbl] at r1 r2
      obtain ⟨r1, r3⟩ := (rowAt_drew wr _ _ _).trans r1.1 |> fun h => (And.intro h ((hasRow_drew wr _ _ _).trans r1.2))
      obtain ⟨r2, r4⟩ := (rowAt_drew wr _ _ _).trans r2.1 |> fun h => (And.intro h ((hasRow_drew wr _ _ _).trans r2.2))
      obtain ⟨F, hF⟩ : ∃ F, F = l[k] := ⟨_, rfl⟩
      rw [← hF] at r1 r2 hbl
      have HEQ := Lib.hid (eqBlock_same F hbl)
      have HR := Lib.hid hR
      have HR' := Lib.hid hR'
      have hz := hb.size
      have hi0 : (0 : Int) ≤ (k : Int) := Int.natCast_nonneg _
      have hi1 : (k : Int) < (n : Int) := by omega
      rw [show (bvs F).toArray = bav F from rfl] at r1 r2
      clear hc hR hbB hc' hR' hbB' hF hbl hRw hRw'
      generalize bav F = V at *
      go_wp2_with fail
      go_region_law (go_simp; go_at_call 51; refine (HEQ.out _).mono ?_; rintro e w2 ⟨rfl, hb2⟩)
      all_goals
        go_wp2
        exact ⟨⟨k + 1, by omega, by go_num, (below_drew hb).trans (hb2.mono hz)⟩, by simp [intOf]; omega⟩
    · have : k = n := by omega
      subst this
      go_wp2
      go_ret
      exact ⟨rfl, hb⟩
end
end Go.Proofs.Ytmagaapdijapiaa
