/- The data of a picture: the program's walk. -/
import Derived.Test.YtmagaapdijapiaaRows
import Derived.Test.YtmagaapdijapiaaYe
import Derived.Test.YtmagaapdijapiaaYc
import Derived.Test.YtmagaapdijapiaaMq
namespace Go.Proofs.Ytmagaapdijapiaa
open Go.ChangeShapes Go.WideShapes Go.ChangeAt Go.RowKit
theorem addr_add0Y (b j : Nat) : (⟨b, 0, none⟩ : Addr).add j = ⟨b, j, none⟩ := by unfold Addr.add; split <;> simp_all
theorem Own.newsY {w : World} {lo hi g : Nat} {e : TypeId} {size n c : Nat} {xs : List Value} (h : Own w lo hi e size (some ⟨g, 0, none⟩) n c xs) : ∀ j u, xs[j]? = some u → w.cell? ((⟨g, 0, none⟩ : Addr).add j) = some u := fun j u hu => by
  rw [addr_add0Y]
  exact (h.cellV hu).1
theorem own_someY {w : World} {base : Nat} {e : TypeId} {size n : Nat} {v : Value} {xs : List Value} (h : w.ownsRow base e size v n xs) (hn : 0 < n) : ∃ g c, v = .slice (some ⟨g, 0, none⟩) n c := by
  rcases h.2 with ⟨_, rfl⟩ | ⟨g, cap, cur, rfl, _⟩
  · omega
  · exact ⟨g, cap, rfl⟩
theorem rd_cornerY {w : World} {B b o n : Nat} {l : List Bl} (h : Rd w B 18 (some ⟨b, o, none⟩) n (bcs l)) (hl : Bls l) (hn : l.length = n) {k : Nat} (hk : k < l.length) :
    w.cell? ⟨b, o + k * 18, none⟩ = some (.int .i32 ((l[k]).1.getD 0 0)) ∧ w.cell? ⟨b, o + k * 18 + 1, none⟩ = some (.int .i32 ((l[k]).1.getD 1 0)) ∧ w.rangeAt b (o + k * 18 + 2) ((l[k]).2.map (.int .u16)) := by
  have hr := h.block hl (by omega) hk
  have h1 := (hl.at_ hk).1
  refine ⟨?_, ?_, fun j v hv => ?_⟩
  · exact hr 0 _ (by rw [bvs, List.getElem?_append_left (by rw [List.length_map, h1]; omega), List.getElem?_map, List.getD_eq_getElem?_getD, List.getElem?_eq_getElem (by omega)]; rfl)
  · exact hr 1 _ (by rw [bvs, List.getElem?_append_left (by rw [List.length_map, h1]; omega), List.getElem?_map, List.getD_eq_getElem?_getD, List.getElem?_eq_getElem (by omega)]; rfl)
  · rw [Nat.add_assoc (o + k * 18)]
    exact hr (2 + j) v (by rw [bvs, List.getElem?_append_right (by rw [List.length_map, h1]; omega), List.length_map, h1, Nat.add_sub_cancel_left]; exact hv)
theorem append32D (n : Int) (v : Value) (D : List Int) (m : Nat) (B : Nat) (w : World) (hm : D.length = m) (hB : B ≤ w.heap.size) (hown : w.ownsRow B 5 1 v m (D.map (.int .u8))) (hlen : m ≤ 1000000000) :
    Calls Try.prog 93 #[.agg #[], v, .int .u32 n] w fun e w' => ∃ g c, e = .returned (.slice (some ⟨g, 0, none⟩) (m + 4) c) ∧ w'.ownsRow B 5 1 (.slice (some ⟨g, 0, none⟩) (m + 4) c) (m + 4) ((D ++ four n).map (.int .u8)) ∧ w.grownBy w' v.ownBlock := by
  subst hm
  refine (append32_any n v D B w hB hown hlen).mono ?_
  rintro e w' ⟨v', he, ho, hg⟩
  obtain ⟨g, c, rfl⟩ := own_someY ho (by omega)
  exact ⟨g, c, he, by rw [List.map_append]; exact ho, hg⟩
theorem blk_ne {w : World} {base : Nat} {e t : TypeId} {size n c q g : Nat} {xs : List Value} {cs : Array Value} (h : w.ownsRow base e size (.slice (some ⟨q, 0, none⟩) n c) n xs) (hb : Blk w g t cs) (he : e ≠ t) : g ≠ q := fun e2 => by
  subst e2
  rcases h.2 with ⟨h1, _⟩ | ⟨g2, _, cur, h3, _, h4, _⟩
  · cases h1
  · cases h3
    unfold Blk at hb
    rw [hb] at h4
    injection h4 with h4
    injection h4 with _ h4
    exact he h4.symm
theorem four_len (n : Int) : (four n).length = 4 := rfl
def GivesD (D : List Int) (w : World) (e : Ending) (w' : World) : Prop :=
  ∃ g c, e = .returned (.slice (some ⟨g, 0, none⟩) D.length c) ∧ Own w' w.heap.size w'.heap.size 5 1 (some ⟨g, 0, none⟩) D.length c (D.map (.int .u8)) ∧ Below w.heap.size w w'
set_option maxRecDepth 20000 in
set_option maxHeartbeats 6400000 in
theorem pictureData_any (A : Option Addr) (n c : Nat) (l : List Bl) (hl : l.length = n) (hrow : Bls l) (h16 : ∀ b ∈ l, is16 b.2) (hn : n ≤ 1048576) (w : World) (hR : Rd w w.heap.size 18 A n (bcs l)) :
    Calls Try.prog 48 #[.slice A n c] w (GivesD (picD l) w) := by
  obtain ⟨i0, hi, iz0, iz1, iz2⟩ := info_parts Byte_info
  have HR := Lib.hid hR
  have HROW := Lib.hid hrow
  have H16 := Lib.hid h16
  have HL := Lib.hid hl
  have h0 : (w.alloc (.cells #[] 5)).ownsRow w.heap.size 5 1 (.slice (some ⟨w.heap.size, 0, none⟩) 0 0) 0 ((picD (l.take 0)).map (.int .u8)) := World.ownsRow_lit (e := 5) (base := w.heap.size) (size := 1) w #[] 0 (Nat.le_refl _) (by unfold maxLen; omega) rfl
  have H0 := Lib.hid h0
  clear hR hrow h16 hl h0
  go_enter Try.func48, Try.ntmps48
  go_wp2
  go_loopw [3, 10] (fun v i wr => ∃ (k : Nat) (D : List Int) (g cc : Nat), k ≤ n ∧ i = .int .i64 k ∧ v = .slice (some ⟨g, 0, none⟩) D.length cc ∧ Hid (D = picD (l.take k)) ∧ Hid (wr.ownsRow w.heap.size 5 1 (.slice (some ⟨g, 0, none⟩) D.length cc) D.length (D.map (.int .u8))) ∧ Hid (Below w.heap.size w wr)) (fun _ i _ => n - (intOf i).toNat)
  case atStart => exact ⟨0, [], _, _, Nat.zero_le _, rfl, rfl, Lib.hid rfl, H0, Lib.hid ((Below.refl _ _).alloc (Nat.le_refl _) _)⟩
  case round =>
    clear H0
    obtain ⟨k, D, g, cc, hk, rfl, rfl, HD, HO, HB⟩ := hrel
    by_cases hlt : k < n
    · have hkl : k < l.length := by have := HL.out; omega
      have hkI : (k : Int) < n := by omega
      have hk0 : (0 : Int) ≤ k := by omega
      have hRw := HR.out.below HB.out (Nat.le_refl _)
      obtain ⟨b, o, rfl, hbB, hc⟩ := hRw.at_ (by omega)
      have hrg := hRw.block HROW.out (by have := HL.out; omega) hkl
      have hF1 := HROW.out.at_ hkl
      have hF16 := H16.out _ (List.getElem_mem hkl)
      have hsn := picD_snoc hkl
      have hDl : D.length ≤ 277872640 := by
        have h1 := picD_le (l.take k)
        rw [← HD.out, List.length_take] at h1
        omega
      rw [← HD.out] at hsn
      obtain ⟨F, hF⟩ : ∃ F, F = l[k] := ⟨_, rfl⟩
      rw [← hF] at hrg hF1 hF16 hsn
      obtain ⟨C, M⟩ := F
      obtain ⟨X, Y, rfl⟩ : ∃ X Y, C = [X, Y] := ⟨_, _, two_of hF1.1⟩
      have hbd : blkD ([X, Y], M) = four (X % 4294967296) ++ four (Y % 4294967296) ++ [((pmL M).length : Int) % 256] ++ pmL M := rfl
      rw [hbd] at hsn
      have HSN := Lib.hid hsn
      have HRG := Lib.hid hrg
      have HF1 := Lib.hid hF1
      have hpl := pmL_length M
      have HPM := Lib.hid (fun W => iPackMask_any M hF1.2 hF16 W)
      have HGL := Lib.hid (HO.out.lt g rfl)
      have hzw := HB.out.size
      clear hRw hc hbB hrg hF1 hF16 hF hsn hbd HD
      generalize pmL M = PL at *
      go_wp2_with (first
        | refine wpList_load_mid rfl _ _ rfl b (o + k * 18) (by rfl) (bvs ([X, Y], M)) _ HRG.out Try.underlying78 rfl (by rw [bvs_length HF1.out]; exact size78) ?_
        | (refine wpList_store_row rfl _ _ _ rfl wr.heap.size (bav ([X, Y], M)) rfl rfl 78 (bav (zr2, zr16)) (Blk.newAt rfl rfl) (by rw [bav_size HF1.out]; exact size78) (by rw [bav_size HF1.out, bav_size ⟨rfl, rfl⟩]) (bav_one ([X, Y], M)) ?_; generalize hw5 : World.setRow _ _ _ = w5; have G5 : Hid (Blk w5 wr.heap.size 78 (bav ([X, Y], M))) := Lib.hid (by rw [← hw5]; exact (Blk.newAt rfl rfl).row _); have B5r : Hid (Below wr.heap.size wr w5) := Lib.hid (by rw [← hw5]; exact below_setRow ((Below.refl _ _).alloc (Nat.le_refl _) _) (g := wr.heap.size) (Nat.le_refl _) _); have O5 := Lib.hid (own_below HO.out B5r.out (Nat.le_refl _)); have B5 := Lib.hid (HB.out.trans (B5r.out.mono hzw)); have c0 : w5.cell? ⟨wr.heap.size, 0, none⟩ = some (.int .i32 X) := (G5.out.rangeV (bav_at1 HF1.out)) 0 _ rfl; clear hw5)
        | (go_at_call_of 93 Y; refine (append32D (Y % 4294967296) _ (D ++ four (X % 4294967296)) (D.length + 4) w.heap.size _ (by rw [List.length_append, four_len]) B6.out.size O6.out (by omega)).mono ?_; rintro e w7 ⟨g7, c7, rfl, o7, h7⟩; have G7 := Lib.hid (G6.out.grown h7 (fun e => blk_ne O6.out G6.out (by decide) (Option.some.inj e))); have B7 := Lib.hid (B6.out.grown h7 B6.out.size (fun j e => (O6.out.lt j e).1)); have O7 := Lib.hid o7; have RM := Lib.hid (G7.out.rangeV (bav_at2 (b := ([X, Y], M)) HF1.out)); clear o7 h7)
        | (go_at_call_of 93 X; refine (append32D (X % 4294967296) _ D D.length w.heap.size _ rfl B5.out.size O5.out (by omega)).mono ?_; rintro e w6 ⟨g6, c6, rfl, o6, h6⟩; have G6 := Lib.hid (G5.out.grown h6 (fun e => blk_ne O5.out G5.out (by decide) (Option.some.inj e))); have B6 := Lib.hid (B5.out.grown h6 B5.out.size (fun j e => (O5.out.lt j e).1)); have O6 := Lib.hid o6; have c1 : w6.cell? ⟨wr.heap.size, 1, none⟩ = some (.int .i32 Y) := (G6.out.rangeV (bav_at1 HF1.out)) 1 _ rfl; clear o6 h6)
        | refine wpList_load_ivs rfl _ _ rfl wr.heap.size 2 rfl .u16 M _ RM.out Try.underlying76 rfl (by rw [HF1.out.2]; exact size76) ?_
        | (go_at_call 94; refine (HPM.out _).mono ?_; rintro e w8 ⟨g8, c8, rfl, hO8, h8⟩; have O8 := Lib.hid (own_below O7.out h8 (Nat.le_refl _)); have P8 := Lib.hid hO8; have B8 := Lib.hid (B7.out.trans (h8.mono B7.out.size)); have z8 := h8.size; have z7 := B7.out.size; have q7 := (O7.out.lt g7 rfl).2; clear hO8 h8; have HN8 := Lib.hid (Blk.news (k := .u8) (l := [(PL.length : Int) % 256]) (t := 5) (w := w8.alloc (.cells #[.int .u8 ((PL.length : Int) % 256)] 5)) (g := w8.heap.size) (Blk.newAt rfl rfl)))
        | (at_builtin; refine wpList_append_own _ rfl _ _ 40 rfl w.heap.size 5 i0 _ 1 1 Try.underlying40 hi iz0 iz1 iz2 rfl (by decide) (.slice (some ⟨g7, 0, none⟩) (D.length + 4 + 4) c7) (D.length + 4 + 4) _ rfl (O8.out.alloc _) ⟨w8.heap.size, 0, none⟩ 1 1 ([(PL.length : Int) % 256].map (.int .u8)) rfl rfl HN8.out ints_one (by unfold maxLen; omega) (by omega) (by rw [size_alloc]; omega) ?_; intro v9 w9 hown9 hgrow9 _; rw [← List.map_append] at hown9; obtain ⟨g9, c9, rfl⟩ := own_someY hown9 (by omega); have O9 : Hid (w9.ownsRow w.heap.size 5 1 (.slice (some ⟨g9, 0, none⟩) ((D.length + 4 + 4) + 1) c9) ((D.length + 4 + 4) + 1) ((D ++ four (X % 4294967296) ++ four (Y % 4294967296) ++ [(PL.length : Int) % 256]).map (.int .u8))) := Lib.hid hown9; have P9 := Lib.hid ((P8.out.below ((Below.refl w8.heap.size w8).alloc (Nat.le_refl _) (.cells #[.int .u8 ((PL.length : Int) % 256)] 5)) (Nat.le_refl _)).grown hgrow9 (fun j e => by have e2 : g7 = j := Option.some.inj e; exact .inl (by omega))); have B9 := Lib.hid ((B8.out.alloc B8.out.size (.cells #[.int .u8 ((PL.length : Int) % 256)] 5)).grown hgrow9 (by rw [size_alloc]; omega) (fun j e => (O8.out.lt j e).1)); clear hown9 hgrow9)
        | (at_builtin; refine wpList_append_own _ rfl _ _ 40 rfl w.heap.size 5 i0 _ 1 1 Try.underlying40 hi iz0 iz1 iz2 rfl (by decide) (.slice (some ⟨g9, 0, none⟩) ((D.length + 4 + 4) + 1) c9) ((D.length + 4 + 4) + 1) _ rfl O9.out ⟨g8, 0, none⟩ PL.length c8 (PL.map (.int .u8)) rfl (by rw [List.length_map, Nat.mul_one]) P9.out.newsY ints_one (by unfold maxLen; omega) (by omega) (by have := B9.out.size; omega) ?_; intro v10 w10 hown10 hgrow10 _; rw [← List.map_append] at hown10; have O10 := Lib.hid hown10; have B10 := Lib.hid (B9.out.grown hgrow10 B9.out.size (fun j e => (O9.out.lt j e).1)); clear hown10 hgrow10))
      obtain ⟨g10, c10, rfl⟩ := own_someY O10.out (by omega)
      have hfin : (D ++ four (X % 4294967296) ++ four (Y % 4294967296) ++ [(PL.length : Int) % 256]) ++ PL = D ++ (four (X % 4294967296) ++ four (Y % 4294967296) ++ [(PL.length : Int) % 256] ++ PL) := by simp only [List.append_assoc]
      have hlen : (D ++ (four (X % 4294967296) ++ four (Y % 4294967296) ++ [(PL.length : Int) % 256] ++ PL)).length = D.length + 4 + 4 + 1 + PL.length := by rw [← hfin, List.length_append, List.length_append, List.length_append, List.length_append]; rfl
      exact ⟨⟨k + 1, _, g10, c10, by omega, by go_num, by rw [hlen], Lib.hid HSN.out.symm, Lib.hid (by rw [hlen, ← hfin]; exact O10.out), B10⟩, by simp [intOf]; omega⟩
    · obtain rfl : k = n := by omega
      have HE : Hid (picD l = D) := Lib.hid (by rw [HD.out, List.take_of_length_le (by have := HL.out; omega)])
      obtain ⟨A1, c1', hve, hO⟩ := Own.of_row HO.out
      cases hve
      have HOO := Lib.hid hO
      clear hO
      go_wp2
      go_ret
      exact ⟨g, cc, by rw [HE.out]; rfl, by rw [HE.out]; exact HOO.out, HB.out⟩
end Go.Proofs.Ytmagaapdijapiaa
