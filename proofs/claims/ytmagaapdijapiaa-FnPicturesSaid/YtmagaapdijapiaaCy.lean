/- All cells of a picture: the program's walk. -/
import Derived.Test.YtmagaapdijapiaaRows
import Derived.Test.YtmagaapdijapiaaSx
import Derived.Test.YtmagaapdijapiaaTr
namespace Go.Proofs.Ytmagaapdijapiaa
open Go.ChangeShapes Go.WideShapes Go.ChangeAt Go.RowKit
/-- a list that passes as a picture -/
structure VPic (l : List Bl) : Prop where
  pic : Pic l
  far : ∀ b ∈ l, inFar b
  ok : ∀ b ∈ l, okCells (bCells b) = true
  few : l.length ≤ 64
theorem blkOk_of_vpB {l : List Bl} (h : vpB l = true) {b : Bl} (hb : b ∈ l) : blkOk b = true := by
  obtain ⟨k, hk, rfl⟩ := List.getElem_of_mem hb
  rw [vpB, Bool.and_eq_true, vpTo, List.all_eq_true] at h
  have := h.1 k (List.mem_range.2 hk)
  rw [blkAt, Bool.and_eq_true, getDB_at hk] at this
  exact this.2
theorem vpic_of {l : List Bl} (hl : Bls l) (h16 : ∀ b ∈ l, is16 b.2) (h : vpB l = true) : VPic l :=
  ⟨⟨rising_of_vpB h, fun b hb e => by
    have := blkOk_of_vpB h hb
    rw [blkOk, emptyM, e] at this
    simp at this, hl, h16⟩, fun b hb => by
    have := blkOk_of_vpB h hb
    rw [blkOk, farB, Bool.and_eq_true, Bool.and_eq_true, Bool.and_eq_true] at this
    exact farB_in this.2.1.1 this.2.1.2, fun b hb => by
    have := blkOk_of_vpB h hb
    rw [blkOk, Bool.and_eq_true, Bool.and_eq_true] at this
    exact this.2.2, by
    rw [vpB, Bool.and_eq_true, decide_eq_true_iff] at h
    exact h.2⟩
theorem VPic.cells {l : List Bl} (h : VPic l) {X Y : Int} (hx : hasB l X Y = true) : cellB X Y = true := by
  have hm : [X, Y] ∈ specC l := (spec_mem h.pic.apart h.pic.bls _).2 ⟨rfl, hx⟩
  rw [(specC_perm _ l (Nat.le_refl _)).mem_iff] at hm
  obtain ⟨b, hb, hc⟩ := List.mem_flatMap.1 hm
  have := h.ok b hb
  rw [okCells, List.all_eq_true] at this
  exact this _ hc
theorem VPic.holds {l : List Bl} (h : VPic l) (X Y : Int) : holdsB l X Y = hasB l X Y := by
  rw [holdsB]
  cases hx : hasB l X Y
  · rw [Bool.and_false]
  · rw [h.cells hx]; rfl
theorem VPic.count {l : List Bl} (h : VPic l) : (specC l).length ≤ 16384 := by
  have := specC_length l
  have := h.few
  omega
theorem addr_add0 (b j : Nat) : (⟨b, 0, none⟩ : Addr).add j = ⟨b, j, none⟩ := by unfold Addr.add; split <;> simp_all
theorem Own.news {w : World} {lo hi g : Nat} {e : TypeId} {size n c : Nat} {xs : List Value} (h : Own w lo hi e size (some ⟨g, 0, none⟩) n c xs) : ∀ j u, xs[j]? = some u → w.cell? ((⟨g, 0, none⟩ : Addr).add j) = some u := fun j u hu => by
  rw [addr_add0]
  exact (h.cellV hu).1
theorem flatB_take_succ {l : List Bl} {k : Nat} (hk : k < l.length) : (l.take (k + 1)).flatMap bCells = (l.take k).flatMap bCells ++ bCells l[k] := by
  rw [List.take_succ_eq_append_getElem hk, List.flatMap_append]
  simp
theorem flat_rows (l : List Bl) : Rows_ 2 (l.flatMap bCells) := fun f hf => by
  obtain ⟨b, _, hb⟩ := List.mem_flatMap.1 hf
  exact bCells_rows b f hb
set_option maxRecDepth 20000 in
set_option maxHeartbeats 3200000 in
theorem cellsOf_any (A : Option Addr) (n c : Nat) (l : List Bl) (hl : l.length = n) (hv : VPic l) (w : World) (hR : Rd w w.heap.size 18 A n (bcs l)) :
    Calls Try.prog 70 #[.slice A n c] w (GivesCells (specC l) w) := by
  obtain ⟨i0, hi, hz0, hz1, hzb⟩ := info_parts Pair_info
  have hn64 : n ≤ 64 := by have := hv.few; omega
  have HR := Lib.hid hR
  have HV := Lib.hid hv
  have HL := Lib.hid hl
  have h0 : (w.alloc (.cells #[] 60)).ownsRow w.heap.size 60 2 (.slice (some ⟨w.heap.size, 0, none⟩) 0 0) ((l.take 0).flatMap bCells).length (pvs ((l.take 0).flatMap bCells)) := by
    have := World.ownsRow_lit (e := 60) (base := w.heap.size) (size := 2) w #[] 0 (Nat.le_refl _) (by unfold maxLen; omega) rfl
    exact this
  have H0 := Lib.hid h0
  have B0 := Lib.hid ((Below.refl w.heap.size w).alloc (Nat.le_refl _) (.cells #[] 60))
  clear hR hv h0 hl
  go_enter Try.func70, Try.ntmps70
  go_wp2
  go_loopw [3, 9] (fun v i wr => ∃ k : Nat, k ≤ n ∧ i = .int .i64 k ∧ (∃ g cc, v = .slice (some ⟨g, 0, none⟩) ((l.take k).flatMap bCells).length cc) ∧ wr.ownsRow w.heap.size 60 2 v ((l.take k).flatMap bCells).length (pvs ((l.take k).flatMap bCells)) ∧ Below w.heap.size w wr) (fun _ i _ => n - (intOf i).toNat)
  case atStart => exact ⟨0, by omega, rfl, ⟨_, _, rfl⟩, H0.out, B0.out⟩
  case round =>
    clear H0 B0
    obtain ⟨k, hk, rfl, ⟨g, cc, rfl⟩, ho, hb⟩ := hrel
    by_cases hlt : k < n
    · have hkl : k < l.length := by have := HL.out; omega
      have hz := hb.size
      have hRw := HR.out.below hb (Nat.le_refl _)
      obtain ⟨b, o, rfl, hbB, hc⟩ := hRw.at_ (by omega)
      have hrg := hRw.block HV.out.pic.bls (by omega) hkl
      have hF1 := HV.out.pic.bls.at_ hkl
      have hF2 := HV.out.far _ (List.getElem_mem hkl)
      have hF3 := HV.out.pic.m16 _ (List.getElem_mem hkl)
      have hsu := flatB_take_succ hkl
      have hlen : ((l.take k).flatMap bCells).length ≤ 256 * 64 := by
        have := flat_len (l.take k)
        rw [List.length_take] at this
        omega
      obtain ⟨F, hF⟩ : ∃ F, F = l[k] := ⟨_, rfl⟩
      rw [← hF] at hrg hF1 hF2 hF3 hsu
      obtain ⟨L, hL⟩ : ∃ L, L = (l.take k).flatMap bCells := ⟨_, rfl⟩
      have hrows : Rows_ 2 L := by rw [hL]; exact flat_rows _
      rw [← hL] at ho hlen hsu ⊢
      have hlF := bCells_length F
      have hpl : (pvs (bCells F)).length = (bCells F).length * 2 := by rw [pvs, List.length_map, flat_length (bCells_rows F)]
      have HRG := Lib.hid hrg
      have HF1 := Lib.hid hF1
      have HC := Lib.hid (fun W => iCells_any F hF1 hF3 hF2 W)
      have HSU := Lib.hid hsu
      have hlt' : (k : Int) < n := by omega
      have HB := Lib.hid hb
      have HO := Lib.hid ho
      clear hc hbB hrg hF1 hF2 hF3 hsu hb ho hRw hF hL hrows
      go_wp2_with (first
        | refine wpList_load_mid rfl _ _ rfl b (o + k * 18) (by rfl) (bvs F) _ HRG.out Try.underlying78 rfl (by rw [bvs_length HF1.out]; exact size78) ?_
        | (refine wpList_store_row rfl _ _ _ rfl wr.heap.size (bav F) rfl rfl 78 (bav (zr2, zr16)) (Blk.newAt rfl rfl) (by rw [bav_size HF1.out]; exact size78) (by rw [bav_size HF1.out, bav_size ⟨rfl, rfl⟩]) (bav_one F) ?_; generalize hw5 : World.setRow _ _ _ = w5; have G0 : Hid (Blk w5 wr.heap.size 78 (bav F)) := Lib.hid (by rw [← hw5]; exact (Blk.newAt rfl rfl).row _); have B5 : Hid (Below w.heap.size w w5) := Lib.hid (by rw [← hw5]; exact below_setRow (HB.out.alloc hz _) (g := wr.heap.size) hz _); have B5r : Hid (Below wr.heap.size wr w5) := Lib.hid (by rw [← hw5]; exact below_setRow ((Below.refl _ _).alloc (Nat.le_refl _) _) (g := wr.heap.size) (Nat.le_refl _) _); clear hw5)
        | refine wpList_load_row rfl _ _ rfl wr.heap.size rfl 78 (bav F) (0, 0) _ G0.out Try.underlying78 rfl (by rw [bav_size HF1.out]; exact size78) ?_
        | (go_at_call 74; refine (HC.out _).mono ?_; rintro e w7 ⟨g7, c7, rfl, hO7, hb7⟩; have z5 := B5.out.size; have z5r := B5r.out.size; have z7 := hb7.size; have HN7 := Lib.hid hO7.news; have B7 := Lib.hid (B5.out.trans (hb7.mono z5)); have HO7 := Lib.hid (own_below HO.out (B5r.out.trans (hb7.mono z5r)) (Nat.le_refl _)); clear hO7 hb7)
        | (at_builtin; refine wpList_append_own _ rfl _ _ 56 rfl w.heap.size 60 i0 _ 2 8 Try.underlying56 hi hz0 hz1 hzb rfl (by decide) (.slice (some ⟨g, 0, none⟩) L.length cc) L.length _ rfl HO7.out ⟨g7, 0, none⟩ (bCells F).length c7 (pvs (bCells F)) rfl hpl HN7.out pvs_one (by unfold maxLen; omega) (by omega) (by omega) ?_; intro v' w8 hown' hgrow hnil; rw [← pvs_append] at hown'; have HOWN := Lib.hid hown'; have HGR := Lib.hid hgrow; have HNIL := Lib.hid hnil; clear hown' hgrow hnil))
      have hle : ((l.take (k + 1)).flatMap bCells).length = L.length + (bCells F).length := by rw [HSU.out, List.length_append]
      have hne := fun j e => (HO7.out.lt j e).1
      have hown2 := HOWN.out
      rw [← HSU.out, ← hle] at hown2
      have hsl : ∃ g' cc', v' = .slice (some ⟨g', 0, none⟩) ((l.take (k + 1)).flatMap bCells).length cc' := by
        rcases hown2.2 with ⟨rfl, h0⟩ | ⟨g', cc', cur, rfl, _⟩
        · exact absurd (HNIL.out.1 rfl).1 (by simp)
        · exact ⟨_, _, rfl⟩
      exact ⟨⟨k + 1, by omega, by go_num, hsl, hown2, B7.out.grown HGR.out (by omega) (fun j e => by have := hne j e; omega)⟩, by simp [intOf]; omega⟩
    · obtain rfl : k = n := by omega
      rw [List.take_of_length_le (by have := HL.out; omega)] at ho
      have hlen : (l.flatMap bCells).length ≤ 16384 := by
        have := flat_len l
        have := HL.out
        omega
      rw [List.take_of_length_le (by have := HL.out; omega)]
      obtain ⟨A1, c1, hve, hOO⟩ := Own.of_row ho
      cases hve
      have HS := Lib.hid (sortCells_any (l.flatMap bCells) (flat_rows l) rfl (by omega) hOO)
      have HSP : Hid (∀ s : List (List Int), s.Perm (l.flatMap bCells) → (s.Pairwise fun x y => ¬ ltL y x) → s = specC l) := Lib.hid (fun s => cells_sorted_eq HV.out.pic.rising)
      have HLE : Hid ((specC l).length = (l.flatMap bCells).length) := Lib.hid (specC_perm _ l (Nat.le_refl _)).length_eq
      have HB := Lib.hid hb
      clear ho hb hOO
      generalize l.flatMap bCells = L at *
      generalize specC l = S at *
      go_wp2_with (go_at_call 116; refine HS.out.mono ?_; rintro e w2 ⟨rfl, s, hp, hs, ho2, hb2⟩; obtain rfl := HSP.out s hp hs; have HO2 := Lib.hid ho2; have HB2 := Lib.hid (HB.out.trans hb2); have HZ := Lib.hid hb2.size; clear ho2 hb2 hp hs)
      go_ret
      exact ⟨g, cc, by rw [HLE.out]; rfl, by rw [HLE.out]; exact HO2.out.more HZ.out, HB2.out⟩
end Go.Proofs.Ytmagaapdijapiaa
