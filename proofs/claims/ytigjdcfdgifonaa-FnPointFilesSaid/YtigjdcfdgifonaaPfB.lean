/- Ne, Nf, Ng, Nh, Vb, Nj, Nk in one text. -/
import Derived.Test.YtigjdcfdgifonaaRows
import Derived.Test.YtigjdcfdgifonaaRp
import Derived.Test.YtigjdcfdgifonaaWg
import Derived.Test.YtigjdcfdgifonaaFk
import Derived.Test.YtigjdcfdgifonaaPfA
import Derived.Test.YtigjdcfdgifonaaRn
import Derived.Test.YtigjdcfdgifonaaVa
import Derived.Test.YtigjdcfdgifonaaSk
import Derived.Deep.RegionWith
import Derived.Test.YtigjdcfdgifonaaUd
import Derived.Test.YtigjdcfdgifonaaUb
import Derived.Test.YtigjdcfdgifonaaSl2
namespace Go.Proofs.Ytigjdcfdgifonaa
open Go.ChangeShapes Go.WideShapes Go.ChangeAt Go.RowKit
def keyOf (p : Nat × Nat) : List Int := keyB p.1 p.2
theorem keyOf_length (p : Nat × Nat) : (keyOf p).length = 8 := keyB_length _ _
def pData (l : List (Nat × Nat)) : List Int := (l.map keyOf).flatten
theorem pRows (l : List (Nat × Nat)) : Rows_ 8 (l.map keyOf) := fun f hf => by
  simp only [List.mem_map] at hf
  obtain ⟨s, _, rfl⟩ := hf
  exact keyOf_length s
theorem pData_length (l : List (Nat × Nat)) : (pData l).length = l.length * 8 := by rw [pData, flat_length (pRows l), List.length_map]
theorem pData_snoc {l : List (Nat × Nat)} {k : Nat} (h : k < l.length) : pData (l.take (k + 1)) = pData (l.take k) ++ keyOf l[k] := by
  rw [pData, pData, List.take_succ_eq_append_getElem h, List.map_append, List.flatten_append]
  simp
def pfF (l : List (Nat × Nat)) : List (List Int) := packOf 1 l.length (pData l)
theorem pfF_rows (l : List (Nat × Nat)) : Rows_ 16 (pfF l) := packOf_rows _ _ _
theorem cxs_at {l : List (Nat × Nat)} {k : Nat} (h : k < l.length) : (cxs l)[k]? = some (.complex .f32 l[k].1 l[k].2) := by rw [cxs, List.getElem?_map, List.getElem?_eq_getElem h]; rfl
set_option maxRecDepth 20000 in
set_option maxHeartbeats 6400000 in
theorem iPointFile_any (A : Option Addr) (n c : Nat) (l : List (Nat × Nat)) (hl : l.length = n) (hn : n ≤ 256) (h32 : is32 l) (w : World) (hR : Rd w w.heap.size 1 A n (cxs l)) :
    Calls Try.prog 35 #[.slice A n c] w (GivesF2 (pfF l) 0 w) := by
  obtain ⟨i0, hi, hz0, hz1, hz2⟩ := info_parts Byt_info
  have h0 : (w.alloc (.cells #[] 5)).ownsRow w.heap.size 5 1 (.slice (some ⟨w.heap.size, 0, none⟩) 0 0) 0 ((pData (l.take 0)).map (.int .u8)) := World.ownsRow_lit (e := 5) (base := w.heap.size) (size := 1) w #[] 0 (Nat.le_refl _) (by unfold maxLen; omega) rfl
  have H0 := Lib.hid h0
  have HR := Lib.hid hR
  have Hl := Lib.hid hl
  clear h0 hR hl
  have hnI : ¬ (256 : Int) < n := by omega
  go_enter Try.func35, Try.ntmps35
  go_wp2
  go_loopw [4, 6, 7, 14] (fun v _ _ i wr => ∃ k : Nat, k ≤ n ∧ i = .int .i64 k ∧ (∃ g cc, v = .slice (some ⟨g, 0, none⟩) (k * 8) cc) ∧ wr.ownsRow w.heap.size 5 1 v (k * 8) ((pData (l.take k)).map (.int .u8)) ∧ Below w.heap.size w wr) (fun _ _ _ i _ => n - (intOf i).toNat)
  case atStart => exact ⟨0, by omega, rfl, ⟨_, _, rfl⟩, H0.out, (Below.refl _ _).alloc (Nat.le_refl _) _⟩
  case round =>
    clear H0
    obtain ⟨k, hk, rfl, ⟨g, cc, rfl⟩, ho, hb⟩ := hrel
    by_cases hlt : k < n
    · have hkl : k < l.length := by rw [Hl.out]; exact hlt
      obtain ⟨b, o, rfl, hbB, hc⟩ := (HR.out.below hb (Nat.le_refl _)).at_ (by omega)
      have c1 := hc k _ (cxs_at hkl)
      have hcd := fun W => iKey_any l[k].1 l[k].2 (h32 _ (List.getElem_mem _)).1 (h32 _ (List.getElem_mem _)).2 W
      have hwl := keyB_length l[k].1 l[k].2
      have hlt' : (k : Int) < n := by omega
      have HO := Lib.hid ho
      have HB := Lib.hid hb
      have hS : pData (l.take (k + 1)) = pData (l.take k) ++ keyB l[k].1 l[k].2 := pData_snoc hkl
      have HS := Lib.hid hS
      have HCD := Lib.hid hcd
      have HWL := Lib.hid hwl
      have hks : (k * 8 + 8 : Nat) ≤ 4096 := by omega
      have HKS := Lib.hid hks
      clear hc hbB ho hb hwl hks hcd hS
      generalize keyB l[k].1 l[k].2 = V at *
      generalize l[k].1 = re at *
      generalize l[k].2 = im at *
      go_wp2_with (first
        | (go_at_call 66; refine (HCD.out _).mono ?_; rintro e w2 ⟨rfl, hb2⟩; have HB2 := Lib.hid hb2; have HS2 : Hid (Below w2.heap.size w2 ((w2.alloc (.cells #[.int .u8 0, .int .u8 0, .int .u8 0, .int .u8 0, .int .u8 0, .int .u8 0, .int .u8 0, .int .u8 0] 73)).setRow w2.heap.size (ivs .u8 V))) := Lib.hid (below_setRow ((Below.refl _ _).alloc (Nat.le_refl _) _) (Nat.le_refl _) _); have HO3 := Lib.hid (own_below (own_below HO.out hb2 (Nat.le_refl _)) HS2.out (Nat.le_refl _)); have HR2 := Lib.hid ((Blk.newAt (w := w2) (cs := (ivs .u8 (List.replicate 8 0))) (t := 73) rfl rfl).row (ivs .u8 V)); have HN2 := Lib.hid HR2.out.news; clear hb2)
        | refine wpList_store_row rfl _ _ _ rfl w2.heap.size (ivs .u8 V) rfl rfl 73 (ivs .u8 (List.replicate 8 0)) (Blk.newAt rfl rfl) (by rw [ivs_size, HWL.out]; exact size73) (by simp [ivs_size, HWL.out]) ivs_one ?_
        | (at_builtin; refine wpList_append_own _ rfl _ _ 52 rfl w.heap.size 5 i0 _ 1 1 Try.underlying52 hi hz0 hz1 hz2 rfl (by decide) (.slice (some ⟨g, 0, none⟩) (k * 8) cc) (k * 8) _ rfl HO3.out ⟨w2.heap.size, 0, none⟩ 8 8 (V.map (.int .u8)) rfl (by rw [List.length_map, HWL.out]) HN2.out ints_one (by unfold maxLen; have := HKS.out; omega) (by have := HKS.out; omega) (by have := HS2.out.size; have := HB2.out.size; have := HB.out.size; omega) ?_; intro v' w1 hown' hgrow _; have HOWN := Lib.hid hown'; have HGR := Lib.hid hgrow; clear hown' hgrow))
      obtain ⟨A1, c1', hve, hOO⟩ := Own.of_row HOWN.out
      obtain ⟨g1, cur1, hA1, _⟩ := hOO.at_ (by omega)
      subst hve hA1
      refine ⟨⟨k + 1, by omega, by go_num, ⟨g1, c1', by rw [Nat.add_mul, Nat.one_mul]⟩, ?_, (HB.out.trans ((HB2.out.mono HB.out.size).trans (HS2.out.mono (by have := HB2.out.size; have := HB.out.size; omega)))).grown HGR.out (by have := HS2.out.size; have := HB2.out.size; have := HB.out.size; omega) (fun j e => (HO.out.lt _ e).1)⟩, by simp [intOf]; omega⟩
      rw [HS.out, List.map_append, Nat.add_mul, Nat.one_mul]
      exact HOWN.out
    · obtain rfl : k = n := by omega
      rw [List.take_of_length_le (by rw [Hl.out]; exact Nat.le_refl _)] at ho
      obtain ⟨A1, c1', hve, hO⟩ := Own.of_row ho
      cases hve
      have HO := Lib.hid hO
      have HB := Lib.hid hb
      clear ho hO hb
      have hpk := packFrames_any g 0 (k * 8) cc 1 k (by omega) (by omega) (by omega) (by omega) (pData l) (by rw [pData_length, Hl.out]) (by omega) HO.out.len HO.out.cap_ wr (HO.out.rd.more (Nat.le_refl _))
      have HP := Lib.hid hpk
      have e2 : pfF l = packOf 1 k (pData l) := by rw [pfF, Hl.out]
      have E2 := Lib.hid e2
      clear hpk e2
      go_wp2_with (go_at_call 62; refine HP.out.mono ?_; rintro e w2 ⟨A2, c2, rfl, hO2, hb2⟩; have HO2 := Lib.hid hO2; have HB2 := Lib.hid hb2; clear hO2 hb2)
      go_ret2
      refine ⟨A2, c2, ?_, ?_, HB.out.trans (HB2.out.mono HB.out.size)⟩
      · rw [E2.out]; rfl
      · rw [E2.out]; exact HO2.out.less HB.out.size
end Go.Proofs.Ytigjdcfdgifonaa
namespace Go.Proofs.Ytigjdcfdgifonaa
open Go.ChangeShapes Go.WideShapes Go.ChangeAt Go.RowKit
theorem cxs_append (a b : List (Nat × Nat)) : cxs (a ++ b) = cxs a ++ cxs b := List.map_append ..
theorem is32_append {a b : List (Nat × Nat)} (ha : is32 a) (hb : is32 b) : is32 (a ++ b) := fun p hp => by
  rcases List.mem_append.1 hp with h | h
  · exact ha p h
  · exact hb p h
theorem rpL_32 {l : List (List Int)} (h255 : ∀ f ∈ l, is255 f) : is32 (rpL l) := fun p hp => by
  unfold rpL at hp
  split at hp
  · unfold pts at hp
    obtain ⟨i, _, rfl⟩ := List.mem_map.1 hp
    exact ⟨pRe_lt (chP_255 (opData_255 h255) i), pIm_lt (chP_255 (opData_255 h255) i)⟩
  · cases hp
set_option maxRecDepth 20000 in
set_option maxHeartbeats 3200000 in
theorem iAppendPoints_in (A : Option Addr) (n c : Nat) (l : List (List Int)) (hl : l.length = n) (hrow : Rows_ 16 l) (h255 : ∀ f ∈ l, is255 f) (hn : n ≤ 1048576) (hnc : n ≤ c) (hc63 : c ≤ 9223372036854775807) (b o m c2 : Nat) (ys : List (Nat × Nat)) (hm : ys.length = m) (hy : is32 ys) (hok : rpC l = 0) (h256 : (rpL l).length + m ≤ 256) (w : World) (hR : Rd w w.heap.size 16 A n (l.flatten.map (.int .u8))) (hR2 : Rd w w.heap.size 1 (some ⟨b, o, none⟩) m (cxs ys)) :
    Calls Try.prog 36 #[.slice A n c, .slice (some ⟨b, o, none⟩) m c2] w (GivesF2 (pfF (rpL l ++ ys)) 0 w) := by
  obtain ⟨i0, hi, hz0, hz1, hz2⟩ := info_parts Cx_info
  have hx := iReadPointFile_any A n c l hl hrow h255 hn hnc hc63 w hR
  rw [hok] at hx
  have h32 := rpL_32 h255
  have HX := Lib.hid hx
  have HR2 := Lib.hid hR2
  have hcl : (cxs ys).length = m * 1 := by rw [cxs, List.length_map, hm, Nat.mul_one]
  have HCL := Lib.hid hcl
  have HM := Lib.hid hm
  clear hx hR hR2 hl hrow h255 hok hcl hm hnc hc63
  generalize rpL l = xs at *
  go_enter Try.func36, Try.ntmps36
  go_wp2_with (first
    | (go_at_call 11; refine HX.out.mono ?_; rintro e w2 ⟨A2, c3, rfl, hO, hb⟩; have hz := hb.size; have HO := Lib.hid hO; have HB := Lib.hid hb; have HN := Lib.hid (HR2.out.below hb (Nat.le_refl _)).news; clear hO hb)
    | (at_builtin; refine wpList_append_own _ rfl _ _ 24 rfl w.heap.size 39 i0 _ 1 8 Try.underlying24 hi hz0 hz1 hz2 rfl (by decide) (.slice A2 xs.length c3) xs.length _ rfl HO.out.row ⟨b, o, none⟩ m c2 (cxs ys) rfl HCL.out HN.out cxs_one' (by unfold maxLen; omega) (by omega) (by omega) ?_; intro v' w3 hown' hgrow _; obtain ⟨A3, c4, hve, hO3⟩ := Own.of_row hown'; have hrd := hO3.rd; rw [← cxs_append] at hrd; have HP := Lib.hid (iPointFile_any A3 (xs.length + m) c4 (xs ++ ys) (by rw [List.length_append, HM.out]) h256 (is32_append h32 hy) w3 hrd); have HB3 := Lib.hid (HB.out.grown hgrow hz (fun j e => (HO.out.row.lt _ e).1)); subst hve; clear hown' hgrow hO3 hrd)
    | (go_at_call 35; refine HP.out.mono ?_; rintro e w4 ⟨A5, c5, rfl, hO5, hb5⟩; have HO5 := Lib.hid hO5; have HB5 := Lib.hid hb5; clear hO5 hb5))
  go_ret2
  exact ⟨A5, c5, rfl, HO5.out.less HB3.out.size, HB3.out.trans (HB5.out.mono HB3.out.size)⟩
end Go.Proofs.Ytigjdcfdgifonaa
namespace Go.Proofs.Ytigjdcfdgifonaa
open Go.ChangeShapes Go.WideShapes Go.ChangeAt Go.RowKit

/-- the point that is read where p was written -/
def cpt (p : Nat × Nat) : Nat × Nat := ((cb p.1).toNat, (cb p.2).toNat)
theorem cb_u32 {x : Nat} (h : x < 4294967296) : u32r (cb x) := cb_range h
theorem cb_lt {x : Nat} (h : x < 4294967296) : (cb x).toNat < 4294967296 := by
  have := cb_range h
  omega
theorem nan_q : nan 2143289344 = true := by decide +kernel
theorem cb_cb {x : Nat} (h : x < 4294967296) : cb (cb x).toNat = cb x := by
  have hr := cb_range h
  cases hx : nan x
  · have e : cb x = x := by rw [cb, hx]; rfl
    rw [e, Int.toNat_natCast, e]
  · have e : cb x = 2143289344 := by rw [cb, hx]; rfl
    rw [e, show (2143289344 : Int).toNat = 2143289344 from rfl, cb, nan_q]
    rfl
theorem keyOf_re {p : Nat × Nat} (h : p.1 < 4294967296) : pRe (keyOf p) = (cb p.1).toNat := by
  have h1 : numAt (keyOf p) 0 = cb p.1 := num4_four (cb_u32 h)
  rw [pRe, h1]
theorem keyOf_im {p : Nat × Nat} (h : p.2 < 4294967296) : pIm (keyOf p) = (cb p.2).toNat := by
  have h1 : numAt (keyOf p) 4 = cb p.2 := num4_four (cb_u32 h)
  rw [pIm, h1]
theorem keyOf_cpt {p : Nat × Nat} (h : p.1 < 4294967296 ∧ p.2 < 4294967296) : keyOf (cpt p) = keyOf p := by
  show four (cb (cb p.1).toNat) ++ four (cb (cb p.2).toNat) = four (cb p.1) ++ four (cb p.2)
  rw [cb_cb h.1, cb_cb h.2]
theorem keyOf_ok {p : Nat × Nat} (h : p.1 < 4294967296 ∧ p.2 < 4294967296) : fkOk (keyOf p) = true := by
  rw [fkOk, keyOf_re h.1, keyOf_im h.2, show keyB (cb p.1).toNat (cb p.2).toNat = keyOf p from keyOf_cpt h, beq_self_eq_true]
theorem keyOf_255 (p : Nat × Nat) : is255 (keyOf p) := fun x hx => by
  rcases List.mem_append.1 hx with h | h
  · exact four_255 _ x h
  · exact four_255 _ x h
theorem pData_255 (l : List (Nat × Nat)) : is255 (pData l) := fun x hx => by
  obtain ⟨f, hf, hx⟩ := List.mem_flatten.1 hx
  obtain ⟨p, _, rfl⟩ := List.mem_map.1 hf
  exact keyOf_255 p x hx
theorem pData_ch {l : List (Nat × Nat)} {i : Nat} (h : i < l.length) : chP (pData l) i = keyOf l[i] := by
  have := flat_row (pRows l) (i := i) (by rw [List.length_map]; exact h)
  rw [List.getElem_map] at this
  rw [chP, pData, Nat.mul_comm]
  exact this
theorem is32.get {l : List (Nat × Nat)} (h : is32 l) {i : Nat} (hi : i < l.length) : l[i].1 < 4294967296 ∧ l[i].2 < 4294967296 := h _ (List.getElem_mem _)
theorem pts_pData {l : List (Nat × Nat)} (h : is32 l) : pts (pData l) l.length = l.map cpt := by
  apply List.ext_getElem
  · simp [pts_length]
  · intro i h1 h2
    rw [List.length_map] at h2
    rw [List.getElem_map]
    simp only [pts, List.getElem_map, List.getElem_range]
    rw [pData_ch h2, keyOf_re (h.get h2).1, keyOf_im (h.get h2).2]
    rfl
theorem pfF_opens {l : List (Nat × Nat)} (hl : l.length ≤ 256) : opCode (pfF l) = 0 ∧ opKind (pfF l) = 1 ∧ opCount (pfF l) = l.length ∧ opData (pfF l) = pData l :=
  packOf_opens (by omega) (by omega) (by rw [pData_length]; omega)
theorem pfF_rpC {l : List (Nat × Nat)} (hl : l.length ≤ 256) (h : is32 l) : rpC (pfF l) = 0 := by
  obtain ⟨h1, h2, h3, h4⟩ := pfF_opens hl
  have hN : rpN (pfF l) = l.length := by rw [rpN, h4, pData_length]; omega
  have hg : rpGood (pfF l) = true := by
    rw [rpGood, h2, h3, h4, pData_length, Bool.and_eq_true, Bool.and_eq_true, beq_iff_eq, beq_iff_eq, decide_eq_true_eq]
    omega
  rw [rpC, if_pos h1, if_pos hg, hN, h4, if_pos (rpAll_yes fun k hk => by rw [pData_ch hk]; exact keyOf_ok (h.get hk))]
theorem pfF_rpL {l : List (Nat × Nat)} (hl : l.length ≤ 256) (h : is32 l) : rpL (pfF l) = l.map cpt := by
  obtain ⟨h1, h2, h3, h4⟩ := pfF_opens hl
  have hN : rpN (pfF l) = l.length := by rw [rpN, h4, pData_length]; omega
  rw [rpL, if_pos (pfF_rpC hl h), hN, h4, pts_pData h]
theorem pfF_rwC {l : List (Nat × Nat)} (hl : l.length ≤ 256) : rwC (pfF l) = 5 := by
  obtain ⟨h1, h2, h3, h4⟩ := pfF_opens hl
  have hg : rwGood (pfF l) = false := by rw [rwGood, h2]; rfl
  rw [rwC, if_pos h1, hg]
  rfl
theorem pData_cpt {l r : List (Nat × Nat)} (h : is32 l) : pData (l.map cpt ++ r) = pData (l ++ r) := by
  rw [pData, pData, List.map_append, List.map_append, List.map_map]
  congr 2
  exact List.map_congr_left fun p hp => keyOf_cpt (h p hp)
theorem pfF_cpt {l r : List (Nat × Nat)} (h : is32 l) : pfF (l.map cpt ++ r) = pfF (l ++ r) := by
  rw [pfF, pfF, pData_cpt h, List.length_append, List.length_append, List.length_map]
theorem pfF_255 (l : List (Nat × Nat)) : ∀ f ∈ pfF l, is255 f := packOf_255 (by omega) (pData_255 l)
theorem pfF_len (l : List (Nat × Nat)) : (pfF l).length = packMany (l.length * 8) := by rw [pfF, packOf_len, pData_length]

/-! ### one by one -/
theorem pfF_row {l : List (Nat × Nat)} {i : Nat} (h : i < (pfF l).length) : skRow (pfF l) i = mk i (((packAll 1 l.length (pData l)).drop (i * 12)).take 12) := by
  rw [pfF_len] at h
  exact packTo_getD (by rw [pData_length]; exact h)
theorem pfF_row12 {l : List (Nat × Nat)} {i : Nat} (h : i < (pfF l).length) : (skRow (pfF l) i).take 12 = ((packAll 1 l.length (pData l)).drop (i * 12)).take 12 := by
  have hl := pfF_len l
  rw [pfF_row h, mk_take (chunk_len (k := packMany (pData l).length) (by rw [pData_length]; omega) (packAll_length _ _ _))]
theorem two_rows {E : List Int} {q r : Nat} (h : r ≤ 8) : (((E.drop (12 * q)).take 12 ++ (E.drop (12 * (q + 1))).take 12).drop r).take 8 = (E.drop (12 * q + r)).take 8 := by
  have e : (E.drop (12 * q)).take 12 ++ (E.drop (12 * (q + 1))).take 12 = (E.drop (12 * q)).take 24 := by
    rw [show 12 * (q + 1) = 12 * q + 12 by omega, ← List.drop_drop, ← List.take_add]
  rw [e, List.drop_take, List.take_take, List.drop_drop, Nat.min_eq_left (by omega)]
theorem one_row {E : List Int} {q r : Nat} (h : r ≤ 4) : (((E.drop (12 * q)).take 12).drop r).take 8 = (E.drop (12 * q + r)).take 8 := by
  rw [List.drop_take, List.take_take, List.drop_drop, Nat.min_eq_left (by omega)]
theorem skLast_lt {l : List (Nat × Nat)} {k : Nat} (h : k < l.length) : skLast k < (pfF l).length := by
  rw [pfF_len, skLast, packMany]
  omega
theorem skPs_lt {l : List (Nat × Nat)} {k : Nat} (h : k < l.length) : ∀ p ∈ skPs k, 1 ≤ p ∧ p < (pfF l).length := fun p hp => by
  have h1 := skLast_lt h
  unfold skPs at hp
  have h2 : skFirst k ≤ skLast k := by rw [skFirst, skLast]; omega
  have h3 : 1 ≤ skFirst k := by rw [skFirst]; omega
  split at hp
  · rw [List.mem_singleton.1 hp]; omega
  · rcases List.mem_cons.1 hp with rfl | hp
    · omega
    · rw [List.mem_singleton.1 hp]; omega
theorem sk_key {l : List (Nat × Nat)} {k : Nat} (h : k < l.length) : skK (pfF l) k = keyOf l[k] := by
  have h1 := skLast_lt h
  have hE : ∀ i, ((packAll 1 l.length (pData l)).drop ((1 + i) * 12)).take 12 = ((pData l ++ List.replicate (padLen (pData l).length) 0).drop (12 * i)).take 12 := fun i => by
    have hd := headB_length 1 l.length (pData l).length
    rw [packAll, List.append_assoc]
    generalize headB 1 l.length (pData l).length = H at *
    rw [show (1 + i) * 12 = H.length + 12 * i by rw [hd]; omega, List.drop_append, List.drop_of_length_le (by omega), List.nil_append, Nat.add_sub_cancel_left]
  have hend : ((pData l ++ List.replicate (padLen (pData l).length) 0).drop (8 * k)).take 8 = keyOf l[k] := by
    rw [List.drop_append_of_le_length (by rw [pData_length]; omega), List.take_append_of_le_length (by rw [List.length_drop, pData_length]; omega)]
    exact pData_ch h
  have hdiv : 12 * (8 * k / 12) + 8 * k % 12 = 8 * k := by omega
  rw [skK, skD, skPs]
  have hf : skFirst k < (pfF l).length := by have : skFirst k ≤ skLast k := by (rw [skFirst, skLast]; omega)
                                             omega
  by_cases e : skLast k = skFirst k
  · rw [if_pos e]
    have hr : 8 * k % 12 ≤ 4 := by rw [skLast, skFirst] at e; omega
    simp only [List.map_cons, List.map_nil, List.flatten_cons, List.flatten_nil, List.append_nil]
    rw [pfF_row12 hf, skFirst, hE, one_row hr, hdiv, hend]
  · rw [if_neg e]
    have hs : skLast k = 1 + (8 * k / 12 + 1) := by rw [skLast, skFirst] at e; rw [skLast]; omega
    have hr : 8 * k % 12 ≤ 8 := by omega
    simp only [List.map_cons, List.map_nil, List.flatten_cons, List.flatten_nil, List.append_nil]
    rw [pfF_row12 hf, pfF_row12 h1, hs, skFirst, hE, hE, two_rows hr, hdiv, hend]
theorem pfF_head {l : List (Nat × Nat)} (hl : l.length ≤ 256) : skHead (opHead (pfF l)) = true ∧ numAt (opHead (pfF l)) 4 = l.length ∧ soundB 0 (opHead (pfF l)) = true ∧ pfF l ≠ [] ∧ (pfF l).length ≤ 700 := by
  have hh : opHead (pfF l) = mk 0 (headB 1 l.length (pData l).length) := packOf_head
  have h1 : hdOk (opHead (pfF l)) = true := by rw [hh, hdOk, mk, headB]; rfl
  have h2 : hdKind (opHead (pfF l)) = 1 := by rw [hh, hdKind, mk, headB]; rfl
  have h3 : numAt (opHead (pfF l)) 4 = l.length := by
    rw [hh, numAt, mk, headB]
    exact num4_four (by unfold u32r; omega)
  have h4 : numAt (opHead (pfF l)) 8 = ((pData l).length : Int) := by
    rw [hh, numAt, mk, headB]
    have := pData_length l
    exact num4_four (by unfold u32r; omega)
  have hlen := pfF_len l
  refine ⟨?_, h3, ?_, ?_, ?_⟩
  · rw [skHead, h1, h2, h3, h4, pData_length]
    simp
    omega
  · rw [hh]; exact sound_mk (headB_length _ _ _)
  · intro h
    rw [h] at hlen
    simp [packMany] at hlen
  · rw [hlen, packMany]; omega
theorem skSound_yes {l : List (List Int)} {ps : List Nat} (h : ∀ p ∈ ps, soundB p (skRow l p) = true) : skSound l ps = true := List.all_eq_true.2 h
theorem pfF_skCode {l : List (Nat × Nat)} (hl : l.length ≤ 256) (h : is32 l) {k : Nat} (hk : k < l.length) : skCode (pfF l) k = 0 ∧ skRe (pfF l) k = (cpt l[k]).1 ∧ skIm (pfF l) k = (cpt l[k]).2 ∧ skP (pfF l) k = (skPs k).map fun p => ((p : Nat) : Int) := by
  obtain ⟨h1, h2, h3, h4, h5⟩ := pfF_head hl
  have hc : skCode (pfF l) k = 0 := by
    rw [skCode, if_neg (by omega), if_neg h4, if_pos h3, if_pos h1, h2, Int.toNat_natCast,
      if_pos (by rw [inB, decide_eq_true (show (0 : Int) ≤ k by omega), decide_eq_true (show (k : Int) ≤ l.length - 1 by omega)]; rfl), if_pos (skLast_lt hk),
      if_pos (show skSound (pfF l) (skPs k) = true from skSound_yes fun p hp => packOf_sound p (skPs_lt hk p hp).2), sk_key hk, if_pos (keyOf_ok (h.get hk))]
  refine ⟨hc, ?_, ?_, ?_⟩
  · rw [skRe, if_pos hc, Int.toNat_natCast, sk_key hk, keyOf_re (h.get hk).1]; rfl
  · rw [skIm, if_pos hc, Int.toNat_natCast, sk_key hk, keyOf_im (h.get hk).2]; rfl
  · rw [skP, if_pos hc, Int.toNat_natCast]
theorem pfF_skEnd {l : List (Nat × Nat)} (hl : l.length ≤ 256) : skCode (pfF l) l.length = 2 := by
  obtain ⟨h1, h2, h3, h4, h5⟩ := pfF_head hl
  rw [skCode, if_neg (by omega), if_neg h4, if_pos h3, if_pos h1, h2, if_neg]
  rw [inB, decide_eq_false (show ¬ (l.length : Int) ≤ l.length - 1 by omega), Bool.and_false]
  decide
/-- one bit of one frame behind the first is changed -/
theorem spoil_sk {l : List (Nat × Nat)} (hl : l.length ≤ 256) (h : is32 l) {k i t : Nat} (hk : k < l.length) (hi : 1 ≤ i) (hi2 : i < (pfF l).length) (ht : t < 128) :
    skCode (spoil (pfF l) i t) k = (if i ∈ skPs k then 8 else 0) ∧ (¬ i ∈ skPs k → skRe (spoil (pfF l) i t) k = (cpt l[k]).1 ∧ skIm (spoil (pfF l) i t) k = (cpt l[k]).2) := by
  obtain ⟨h1, h2, h3, h4, h5⟩ := pfF_head hl
  obtain ⟨b1, b2⟩ := spoil_broken (kd := 1) (cn := l.length) (d := pData l) (by omega) (pData_255 l) hi2 ht
  have hrow : ∀ p, p ≠ i → skRow (spoil (pfF l) i t) p = skRow (pfF l) p := fun p hp => getD_set_ne hp
  have hlen : (spoil (pfF l) i t).length = (pfF l).length := by rw [spoil, List.length_set]
  have hhead : opHead (spoil (pfF l) i t) = opHead (pfF l) := by
    have := hrow 0 (by omega)
    unfold skRow at this
    rw [opHead, opHead, List.headD_eq_head?_getD, List.headD_eq_head?_getD, List.head?_eq_getElem?, List.head?_eq_getElem?]
    simpa [List.getD_eq_getElem?_getD] using this
  have hne : spoil (pfF l) i t ≠ [] := by
    intro e
    rw [e] at hlen
    simp at hlen
    omega
  have hpre : skCode (spoil (pfF l) i t) k = if skSound (spoil (pfF l) i t) (skPs k) then (if fkOk (skK (spoil (pfF l) i t) k) then 0 else 5) else 8 := by
    rw [skCode, hlen, hhead, if_neg (by omega), if_neg hne, if_pos h3, if_pos h1, h2, Int.toNat_natCast,
      if_pos (by rw [inB, decide_eq_true (show (0 : Int) ≤ k by omega), decide_eq_true (show (k : Int) ≤ l.length - 1 by omega)]; rfl), if_pos (skLast_lt hk)]
  by_cases hm : i ∈ skPs k
  · refine ⟨?_, fun e => absurd hm e⟩
    have hs : skSound (spoil (pfF l) i t) (skPs k) = false := by
      rw [skSound, List.all_eq_false]
      refine ⟨i, hm, ?_⟩
      have b3 : soundB i (skRow (spoil (pfF l) i t) i) = false := b2
      rw [b3]
      decide
    rw [hpre, hs, if_pos hm]
    rfl
  · have hK : skK (spoil (pfF l) i t) k = skK (pfF l) k := by
      rw [skK, skK, skD, skD]
      congr 3
      exact List.map_congr_left fun p hp => by rw [hrow p (fun e => hm (e ▸ hp))]
    have hs : skSound (spoil (pfF l) i t) (skPs k) = true := skSound_yes fun p hp => by
      rw [hrow p (fun e => hm (e ▸ hp))]
      exact packOf_sound p (skPs_lt hk p hp).2
    have hc : skCode (spoil (pfF l) i t) k = 0 := by rw [hpre, hs, if_pos rfl, hK, sk_key hk, if_pos (keyOf_ok (h.get hk))]
    refine ⟨by rw [hc, if_neg hm], fun _ => ⟨?_, ?_⟩⟩
    · rw [skRe, if_pos hc, Int.toNat_natCast, hK, sk_key hk, keyOf_re (h.get hk).1]; rfl
    · rw [skIm, if_pos hc, Int.toNat_natCast, hK, sk_key hk, keyOf_im (h.get hk).2]; rfl
end Go.Proofs.Ytigjdcfdgifonaa
namespace Go.Proofs.Ytigjdcfdgifonaa
open Go.ChangeShapes Go.WideShapes Go.ChangeAt Go.RowKit
def like (x y : Nat) : Prop := (nan x = true ∧ nan y = true) ∨ (nan x = false ∧ nan y = false ∧ x = y)
theorem like_cb (x : Nat) : like (cb x).toNat x := by
  cases h : nan x
  · have e : (cb x).toNat = x := by rw [cb, h]; exact Int.toNat_natCast x
    rw [e]
    exact .inr ⟨h, h, rfl⟩
  · have e : (cb x).toNat = 2143289344 := by rw [cb, h]; rfl
    rw [e]
    exact .inl ⟨nan_q, h⟩
theorem l01Same_like (x y : Nat) (h : like x y) (w : World) :
    Calls Try.prog 99 #[.float .f32 x, .float .f32 y] w fun e w' => e = .returned (.bool true) ∧ w = w' := by
  have hx := fun W => sNan_any x W
  have hy := fun W => sNan_any y W
  rcases h with ⟨h1, h2⟩ | ⟨h1, h2, rfl⟩
  · rw [h1] at hx
    rw [h2] at hy
    go_enter Try.func99, Try.ntmps99
    go_wp2_with (first
      | (go_at_call_of 110 (Value.float .f32 x); refine (hx _).mono ?_; rintro e w1 ⟨rfl, rfl⟩)
      | (go_at_call_of 110 (Value.float .f32 y); refine (hy _).mono ?_; rintro e w1 ⟨rfl, rfl⟩))
    all_goals (go_ret; exact ⟨rfl, rfl⟩)
  · rw [h1] at hx
    have hb := fun W => bits_run x W
    go_enter Try.func99, Try.ntmps99
    go_wp2_with (go_at_call 110; refine (hx _).mono ?_; rintro e w1 ⟨rfl, rfl⟩)
    all_goals (go_ret; exact ⟨rfl, rfl⟩)
theorem l02Same_like (x y u v : Nat) (h : like x u) (h' : like y v) (w : World) :
    Calls Try.prog 69 #[.complex .f32 x y, .complex .f32 u v] w fun e w' => e = .returned (.bool true) ∧ w = w' := by
  have hx := fun W => l01Same_like x u h W
  have hy := fun W => l01Same_like y v h' W
  clear h h'
  go_enter Try.func69, Try.ntmps69
  go_wp2_with (first
    | (go_at_call_of 99 (Value.float .f32 x); refine (hx _).mono ?_; rintro e w1 ⟨rfl, rfl⟩)
    | (go_at_call_of 99 (Value.float .f32 y); refine (hy _).mono ?_; rintro e w1 ⟨rfl, rfl⟩))
  all_goals (go_ret; exact ⟨rfl, rfl⟩)
theorem samePoint_like (x y u v : Nat) (h : like x u) (h' : like y v) (w : World) :
    Calls Try.prog 39 #[.complex .f32 x y, .complex .f32 u v] w fun e w' => e = .returned (.bool true) ∧ w = w' := by
  have hx := fun W => l02Same_like x y u v h h' W
  clear h h'
  go_enter Try.func39, Try.ntmps39
  go_wp2_with (go_at_call 69; refine (hx _).mono ?_; rintro e w1 ⟨rfl, rfl⟩)
  all_goals (go_ret; exact ⟨rfl, rfl⟩)
set_option maxHeartbeats 800000 in
theorem l02Lists_like (A A' : Option Addr) (n c c' : Nat) (xs ys : List (Nat × Nat)) (hl : xs.length = n) (hl' : ys.length = n) (hn : n ≤ 100000000) (hlk : ∀ i (h : i < xs.length) (h' : i < ys.length), like xs[i].1 ys[i].1 ∧ like xs[i].2 ys[i].2) (w : World) (hR : Rd w w.heap.size 1 A n (cxs xs)) (hR' : Rd w w.heap.size 1 A' n (cxs ys)) :
    Calls Try.prog 67 #[.slice A n c, .slice A' n c'] w fun e w' => e = .returned (.bool true) ∧ Below w.heap.size w w' := by
  go_enter Try.func67, Try.ntmps67
  go_wp2
  go_loopw [5] (fun i wr => ∃ k : Nat, k ≤ n ∧ i = .int .i64 k ∧ Below w.heap.size w wr) (fun i _ => n - (intOf i).toNat)
  case atStart => exact ⟨0, by omega, rfl, Below.refl _ _⟩
  case round =>
    obtain ⟨k, hk, rfl, hb⟩ := hrel
    by_cases hlt : k < n
    · obtain ⟨b, o, rfl, hbB, hc⟩ := (hR.below hb (Nat.le_refl _)).at_ (by omega)
      obtain ⟨b', o', rfl, hbB', hc'⟩ := (hR'.below hb (Nat.le_refl _)).at_ (by omega)
      obtain ⟨l1, l2⟩ := hlk k (by omega) (by omega)
      have c1 := hc k _ (cxs_at (by omega))
      have c2 := hc' k _ (cxs_at (by omega))
      have hs := fun W => l02Same_like _ _ _ _ l1 l2 W
      have hi0 : (0 : Int) ≤ (k : Int) := Int.natCast_nonneg _
      have hi1 : (k : Int) < (n : Int) := by omega
      clear hc hR hbB hc' hR' hbB' l1 l2 hlk
      generalize xs[k].1 = x1 at *
      generalize xs[k].2 = x2 at *
      generalize ys[k].1 = y1 at *
      generalize ys[k].2 = y2 at *
      go_wp2
      go_region_with (go_at_call 69; refine (hs _).mono ?_; rintro e w2 ⟨rfl, rfl⟩)
      all_goals
        go_wp2
        exact ⟨⟨k + 1, by omega, by go_num, below_drew hb⟩, by simp [intOf]; omega⟩
    · have : k = n := by omega
      subst this
      go_wp2
      go_ret
      exact ⟨rfl, hb⟩
theorem samePoints_like (A A' : Option Addr) (n c c' : Nat) (xs ys : List (Nat × Nat)) (hl : xs.length = n) (hl' : ys.length = n) (hn : n ≤ 100000000) (hlk : ∀ i (h : i < xs.length) (h' : i < ys.length), like xs[i].1 ys[i].1 ∧ like xs[i].2 ys[i].2) (w : World) (hR : Rd w w.heap.size 1 A n (cxs xs)) (hR' : Rd w w.heap.size 1 A' n (cxs ys)) :
    Calls Try.prog 37 #[.slice A n c, .slice A' n c'] w fun e w' => e = .returned (.bool true) ∧ Below w.heap.size w w' := by
  have hx := l02Lists_like A A' n c c' xs ys hl hl' hn hlk w hR hR'
  clear hR hR' hlk
  go_enter Try.func37, Try.ntmps37
  go_wp2_with (go_at_call 67; refine hx.mono ?_; rintro e w1 ⟨rfl, hb⟩)
  go_ret
  exact ⟨rfl, hb⟩
theorem cpt_like (xs : List (Nat × Nat)) : ∀ i (h : i < (xs.map cpt).length) (h' : i < xs.length), like (xs.map cpt)[i].1 xs[i].1 ∧ like (xs.map cpt)[i].2 xs[i].2 := fun i h h' => by
  rw [List.getElem_map]
  exact ⟨like_cb _, like_cb _⟩
end Go.Proofs.Ytigjdcfdgifonaa
namespace Go.Proofs.Ytigjdcfdgifonaa
open Go.ChangeShapes Go.WideShapes Go.ChangeAt Go.RowKit

set_option maxHeartbeats 400000 in
theorem a2Long_in (A A2 : Option Addr) (n c n2 c2 : Nat) (hn : n ≤ 3000) (hn2 : n2 ≤ 3000) (w : World) :
    Calls Try.prog 33 #[.slice A n c, .slice A2 n2 c2] w fun e w' => e = .returned (.bool false) ∧ w = w' := by
  go_enter Try.func33, Try.ntmps33
  go_wp2
  go_ret
  exact ⟨by simp; omega, rfl⟩
set_option maxHeartbeats 400000 in
theorem a2Long_out (A A2 : Option Addr) (n c n2 c2 : Nat) (h : 3000 < n ∨ 3000 < n2) (w : World) :
    Calls Try.prog 33 #[.slice A n c, .slice A2 n2 c2] w fun e w' => e = .returned (.bool true) ∧ w = w' := by
  by_cases h1 : 3000 < n
  · have h2 : (3000 : Int) < (n : Int) := by omega
    clear h
    go_enter Try.func33, Try.ntmps33
    go_wp2
    go_ret
    exact ⟨rfl, rfl⟩
  · have h2 : (n : Int) ≤ 3000 := by omega
    have h3 : (3000 : Int) < (n2 : Int) := by omega
    clear h
    go_enter Try.func33, Try.ntmps33
    go_wp2
    go_ret
    exact ⟨rfl, rfl⟩

def atOf (l : List Int) (i : Nat) (m : Int) : Int := if i < l.length then l.getD i 0 % m else 0
theorem atOf_range (l : List Int) (i : Nat) {m : Int} (hm : 1 ≤ m) : 0 ≤ atOf l i m ∧ atOf l i m < m := by
  unfold atOf
  split
  · exact ⟨Int.emod_nonneg _ (by omega), Int.emod_lt_of_pos _ (by omega)⟩
  · omega
set_option maxHeartbeats 400000 in
theorem a2At_any (A : Option Addr) (n c : Nat) (l : List Int) (hl : l.length = n) (h255 : is255 l) (j : Int) (i : Nat) (hj : j = i) (m : Int) (hm : 1 ≤ m) (hm2 : m ≤ 1000000) (hn : n ≤ 3000) (w : World) (hR : Rd w w.heap.size 1 A n (l.map (.int .u8))) :
    Calls Try.prog 41 #[.slice A n c, .int .i64 j, .int .i64 m] w fun e w' => e = .returned (.int .i64 (atOf l i m)) ∧ w = w' := by
  subst hj
  by_cases hi : i < n
  · have e1 : atOf l i m = l.getD i 0 % m := by rw [atOf, if_pos (by omega)]
    rw [e1]
    obtain ⟨b, o, rfl, hbB, hc⟩ := hR.at_ (by omega)
    have c1 := hc i (.int .u8 (l.getD i 0)) (by rw [List.getElem?_map, List.getElem?_eq_getElem (by omega), List.getD_eq_getElem?_getD, List.getElem?_eq_getElem (by omega)]; rfl)
    obtain ⟨x0, x1⟩ := h255.getD i
    obtain ⟨x, hx⟩ : ∃ x, x = l.getD i 0 := ⟨_, rfl⟩
    rw [← hx] at c1 x0 x1 ⊢
    have hi2 : (i : Int) < (n : Int) := by omega
    clear hl h255 hR hbB hc e1 hx
    go_enter Try.func41, Try.ntmps41
    go_wp2
    go_ret
    exact ⟨rfl, rfl⟩
  · have e1 : atOf l i m = 0 := by rw [atOf, if_neg (by omega)]
    rw [e1]
    have hi2 : (n : Int) ≤ (i : Int) := by omega
    clear hl h255 hR e1 hi
    go_enter Try.func41, Try.ntmps41
    go_wp2
    go_ret
    exact ⟨rfl, rfl⟩

set_option maxHeartbeats 400000 in
theorem sameFs_any (A A' : Option Addr) (n n' c c' : Nat) (l l' : List (List Int)) (hl : l.length = n) (hl' : l'.length = n') (hrow : Rows_ 16 l) (hrow' : Rows_ 16 l') (hn : n ≤ 100000000) (w : World) (hR : Rd w w.heap.size 16 A n (l.flatten.map (.int .u8))) (hR' : Rd w w.heap.size 16 A' n' (l'.flatten.map (.int .u8))) :
    Calls Try.prog 38 #[.slice A n c, .slice A' n' c'] w fun e w' => e = .returned (.bool (l == l')) ∧ Below w.heap.size w w' := by
  have HS := Lib.hid (l09Same_any A A' n n' c c' l l' hl hl' hrow hrow' hn w hR hR')
  clear hl hl' hrow hrow' hR hR'
  go_enter Try.func38, Try.ntmps38
  go_wp2_with fail
  refine (HS.out).mono ?_
  rintro e w1 ⟨rfl, hb⟩
  go_wp2
  go_ret
  exact ⟨rfl, hb⟩

theorem conv_own {w : World} {lo hi : Nat} {A : Option Addr} {n c : Nat} {l : List Int} (h : Own w lo hi 5 1 A n c (l.map (.int .u8))) (hl : l.length = n) :
    ∃ s : ByteArray, (convert 52 9 (.slice A n c)).run Try.prog w = .ok (.string s) w ∧ s.toList = (strOfNums l).toList := by
  rcases h.2 with ⟨rfl, rfl, rfl⟩ | ⟨g, cur, rfl, h1, h2, h3, h4, h5, h6, h7⟩
  · have : l = [] := List.eq_nil_of_length_eq_zero hl
    subst this
    exact ⟨_, run_convert_bytes_nil w 52 5 Try.underlying52 Try.underlying5 0 0 9 Try.underlying9, rfl⟩
  · refine ⟨_, conv_bytes hl fun j v hv => ?_, rfl⟩
    rw [Nat.zero_add, h3.cell]
    rw [← h7, List.getElem?_take] at hv
    split at hv
    · simpa using hv
    · cases hv
end Go.Proofs.Ytigjdcfdgifonaa
namespace Go.Proofs.Ytigjdcfdgifonaa
open Go.ChangeShapes Go.WideShapes Go.ChangeAt Go.RowKit
theorem pfF_small {xs : List (Nat × Nat)} (hx : xs.length ≤ 16) : 1 ≤ (pfF xs).length ∧ (pfF xs).length ≤ 20 := by
  rw [pfF_len, packMany]
  omega
theorem pfRead {xs : List (Nat × Nat)} (hx : xs.length ≤ 16) (h32 : is32 xs) {A : Option Addr} {n c : Nat} (hn : (pfF xs).length = n) (hnc : n ≤ c) (hc63 : c ≤ 9223372036854775807) (W : World) (hR : Rd W W.heap.size 16 A n ((pfF xs).flatten.map (.int .u8))) :
    Calls Try.prog 11 #[.slice A n c] W (GivesPs (xs.map cpt) 0 W) := by
  have hs := pfF_small hx
  have h := iReadPointFile_any A n c (pfF xs) hn (pfF_rows xs) (pfF_255 xs) (by omega) hnc hc63 W hR
  rwa [pfF_rpC (by omega) h32, pfF_rpL (by omega) h32] at h
theorem pfReadW {xs : List (Nat × Nat)} (hx : xs.length ≤ 16) {A : Option Addr} {n c : Nat} (hn : (pfF xs).length = n) (hnc : n ≤ c) (hc63 : c ≤ 9223372036854775807) (W : World) (hR : Rd W W.heap.size 16 A n ((pfF xs).flatten.map (.int .u8))) :
    Calls Try.prog 18 #[.slice A n c] W (GivesWs [] 5 W) := by
  have hs := pfF_small hx
  have h := iReadWordFile_any A n c (pfF xs) hn (pfF_rows xs) (pfF_255 xs) (by omega) hnc hc63 W hR
  have e : rwL (pfF xs) = [] := by rw [rwL, if_neg (by rw [pfF_rwC (by omega)]; decide)]
  rwa [pfF_rwC (by omega), e] at h
theorem pfAppend {xs ys : List (Nat × Nat)} (hx : xs.length ≤ 8) (h32 : is32 xs) (hy : ys.length ≤ 8) (hy32 : is32 ys) {A : Option Addr} {n c b o m c2 : Nat} (hn : (pfF xs).length = n) (hm : ys.length = m) (hnc : n ≤ c) (hc63 : c ≤ 9223372036854775807) (W : World) (hR : Rd W W.heap.size 16 A n ((pfF xs).flatten.map (.int .u8))) (hR2 : Rd W W.heap.size 1 (some ⟨b, o, none⟩) m (cxs ys)) :
    Calls Try.prog 36 #[.slice A n c, .slice (some ⟨b, o, none⟩) m c2] W (GivesF2 (pfF (xs ++ ys)) 0 W) := by
  have hs := pfF_small (xs := xs) (by omega)
  have h := iAppendPoints_in A n c (pfF xs) hn (pfF_rows xs) (pfF_255 xs) (by omega) hnc hc63 b o m c2 ys hm hy32 (pfF_rpC (by omega) h32) (by rw [pfF_rpL (by omega) h32, List.length_map]; omega) W hR hR2
  rwa [pfF_rpL (by omega) h32, pfF_cpt h32] at h
theorem pfSeek {xs : List (Nat × Nat)} (hx : xs.length ≤ 16) (h32 : is32 xs) {A : Option Addr} {n c : Nat} (hn : (pfF xs).length = n) (k : Nat) (hk : k < xs.length) (W : World) (hR : Rd W W.heap.size 16 A n ((pfF xs).flatten.map (.int .u8))) :
    Calls Try.prog 23 #[.slice A n c, .int .i64 k] W (GivesSeek (cpt xs[k]).1 (cpt xs[k]).2 ((skPs k).map fun p => ((p : Nat) : Int)) 0 W) := by
  have hs := pfF_small hx
  have h := iSeekPoint_any A n c (pfF xs) k hn (pfF_rows xs) (pfF_255 xs) (by omega) W hR
  obtain ⟨h1, h2, h3, h4⟩ := pfF_skCode (by omega) h32 hk
  rwa [h1, h2, h3, h4] at h
theorem pfSeekEnd {xs : List (Nat × Nat)} (hx : xs.length ≤ 16) {A : Option Addr} {n c : Nat} (hn : (pfF xs).length = n) (W : World) (hR : Rd W W.heap.size 16 A n ((pfF xs).flatten.map (.int .u8))) :
    Calls Try.prog 23 #[.slice A n c, .int .i64 xs.length] W (GivesSeek 0 0 [] 2 W) := by
  have hs := pfF_small hx
  have h := iSeekPoint_any A n c (pfF xs) xs.length hn (pfF_rows xs) (pfF_255 xs) (by omega) W hR
  have h1 := pfF_skEnd (l := xs) (by omega)
  obtain ⟨h2, h3, h4⟩ := skNone h1 (by decide)
  rwa [h1, h2, h3, h4] at h
theorem pfSpoil {xs : List (Nat × Nat)} (hx : xs.length ≤ 16) {b o n c : Nat} (hn : (pfF xs).length = n) (i : Nat) (hi2 : i < n) (t : Int) (ht0 : 0 ≤ t) (ht : t < 128) (W : World) (hR : Rd W W.heap.size 16 (some ⟨b, o, none⟩) n ((pfF xs).flatten.map (.int .u8))) :
    Calls Try.prog 40 #[.slice (some ⟨b, o, none⟩) n c, .int .i64 i, .int .i64 t] W (GivesFs (spoil (pfF xs) i t.toNat) 0 W) := by
  have hs := pfF_small hx
  have h := iSpoilFrame_any b o n c (pfF xs) hn (pfF_rows xs) (by omega) i t W hR
  have hk : spoilOk (pfF xs) i t = true := by
    rw [spoilOk, inB, inB, hn, decide_eq_true (show (0 : Int) ≤ i by omega), decide_eq_true (show (i : Int) ≤ n - 1 by omega), decide_eq_true ht0, decide_eq_true (show t ≤ 127 by omega)]
    rfl
  have h7 : (pfF xs).length ≤ 700 := by omega
  have e1 : spoilOf (pfF xs) i t = spoil (pfF xs) i t.toNat := by rw [spoilOf, if_pos h7, if_pos hk, Int.toNat_natCast]
  have e2 : spoilCode (pfF xs) i t = 0 := by rw [spoilCode, if_pos h7, if_pos hk]
  rwa [e1, e2] at h
theorem pfSeekBad {xs : List (Nat × Nat)} (hx : xs.length ≤ 16) (h32 : is32 xs) {A : Option Addr} {n c : Nat} (hn : (pfF xs).length = n) (k i t : Nat) (hk : k < xs.length) (hi : 1 ≤ i) (hi2 : i < n) (ht : t < 128) (W : World) (hR : Rd W W.heap.size 16 A n ((spoil (pfF xs) i t).flatten.map (.int .u8))) :
    Calls Try.prog 23 #[.slice A n c, .int .i64 k] W fun e w' => ∃ re im ps, (i ∉ skPs k → re = (cpt xs[k]).1 ∧ im = (cpt xs[k]).2) ∧ GivesSeek re im ps (if i ∈ skPs k then 8 else 0) W e w' := by
  have hs := pfF_small hx
  have hlen : (spoil (pfF xs) i t).length = n := by rw [spoil, List.length_set, hn]
  have hl2 : i < (pfF xs).length := by omega
  have h255 : ∀ f ∈ spoil (pfF xs) i t, is255 f := fun f hf => by
    rcases List.mem_or_eq_of_mem_set hf with h | h
    · exact pfF_255 xs f h
    · have hg : (pfF xs).getD i [] = (pfF xs)[i] := by rw [List.getD_eq_getElem?_getD, List.getElem?_eq_getElem hl2]; rfl
      rw [hg] at h
      have h5 := pfF_255 xs _ (List.getElem_mem hl2)
      intro x hxm
      rw [h] at hxm
      rcases List.mem_or_eq_of_mem_set hxm with h6 | h6
      · exact h5 x h6
      · rw [h6]
        have := flipAt_range (h5.getD (t / 8)) t
        exact ⟨this.1, this.2.1⟩
  have h := iSeekPoint_any A n c (spoil (pfF xs) i t) k hlen (spoil_rows (pfF_rows xs) hl2) h255 (by omega) W hR
  obtain ⟨h1, h2⟩ := spoil_sk (by omega) h32 hk hi hl2 ht
  rw [h1] at h
  exact h.mono fun e w' hg => ⟨_, _, _, h2, hg⟩
end Go.Proofs.Ytigjdcfdgifonaa
namespace Go.Proofs.Ytigjdcfdgifonaa
open Go.ChangeShapes Go.WideShapes Go.ChangeAt Go.RowKit

theorem GivesF2.len {out : List (List Int)} {code : Int} {w w' : World} {e : Ending} {m : Nat} (h : GivesF2 out code w e w') (hm : out.length = m) :
    ∃ A c, e = .returned (.tuple #[.slice A m c, .int .i64 code]) ∧ Own w' w.heap.size w'.heap.size 65 16 A m c (out.flatten.map (.int .u8)) ∧ Below w.heap.size w w' := by
  subst hm; exact h
theorem GivesFs.len' {out : List (List Int)} {code : Int} {w w' : World} {e : Ending} {m : Nat} (h : GivesFs out code w e w') (hm : out.length = m) :
    ∃ A c, e = .returned (.tuple #[.slice A m c, .int .i64 code]) ∧ Own w' w.heap.size w'.heap.size 65 16 A m c (out.flatten.map (.int .u8)) ∧ Below w.heap.size w w' := by
  subst hm; exact h
theorem GivesPs.len {out : List (Nat × Nat)} {code : Int} {w w' : World} {e : Ending} {m : Nat} (h : GivesPs out code w e w') (hm : out.length = m) :
    ∃ A c, e = .returned (.tuple #[.slice A m c, .int .i64 code]) ∧ Own w' w.heap.size w'.heap.size 39 1 A m c (cxs out) ∧ Below w.heap.size w w' := by
  subst hm; exact h
theorem GivesSeek.len {re im : Nat} {ps : List Int} {code : Int} {w w' : World} {e : Ending} {m : Nat} (h : GivesSeek re im ps code w e w') (hm : ps.length = m) :
    ∃ A c, e = .returned (.tuple #[.complex .f32 re im, .slice A m c, .int .i64 code]) ∧ Own w' w.heap.size w'.heap.size 2 1 A m c (ps.map (.int .i64)) ∧ Below w.heap.size w w' := by
  subst hm; exact h
theorem cxs_length (l : List (Nat × Nat)) : (cxs l).length = l.length * 1 := by rw [cxs, List.length_map, Nat.mul_one]
set_option maxRecDepth 100000 in
set_option maxHeartbeats 6400000 in
theorem lawPointFiles_in (A : Option Addr) (n c : Nat) (l : List Int) (hl : l.length = n) (h255 : is255 l) (A2 : Option Addr) (n2 c2 : Nat) (l2 : List Int) (hl2 : l2.length = n2) (h255' : is255 l2) (hn : n ≤ 3000) (hn2 : n2 ≤ 3000) (w : World) (RA : Rd w w.heap.size 1 A n (l.map (.int .u8))) (RB : Rd w w.heap.size 1 A2 n2 (l2.map (.int .u8))) :
    Calls Try.prog 7 #[.slice A n c, .slice A2 n2 c2] w fun e w' => e = .returned (.bool true) ∧ Below w.heap.size w w' := by
  obtain ⟨i0, hi, hz0, hz1, hz2⟩ := info_parts Cx_info
  have HA := Lib.hid RA
  have HB := Lib.hid RB
  have HL := Lib.hid (And.intro hl h255)
  have HL2 := Lib.hid (And.intro hl2 h255')
  clear RA RB hl h255 hl2 h255'
  go_enter Try.func7, Try.ntmps7
  go_wp2_with fail
  refine (a2Long_in A A2 n c n2 c2 hn hn2 w).mono ?_
  rintro e w0 ⟨rfl, rfl⟩
  go_wp2_with fail
  refine (sA2Points_any A n c l HL.out.1 HL.out.2 (by omega) w HA.out).mono ?_
  rintro e w1 ⟨xs, hx8, hx32, gx, cx, rfl, ox, b1⟩
  have z1 := b1.size
  have OX := Lib.hid ox
  have B1 := Lib.hid b1
  clear ox b1 HA
  go_wp2_with fail
  refine (sA2Points_any A2 n2 c2 l2 HL2.out.1 HL2.out.2 (by omega) w1 ((HB.out.below B1.out (Nat.le_refl _)).more z1)).mono ?_
  rintro e w2 ⟨ys, hy8, hy32, gy, cy, rfl, oy, b2⟩
  have z2 := b2.size
  have OY := Lib.hid oy
  have B2 := Lib.hid b2
  have X2 := Lib.hid ((OX.out.rd.below b2 (Nat.le_refl _)).more z2)
  clear oy b2 OX
  go_wp2_with fail
  refine (iPointFile_any _ xs.length cx xs rfl (by omega) hx32 w2 X2.out).mono ?_
  have hs := pfF_small (xs := xs) (by omega)
  obtain ⟨nF, hnF⟩ : ∃ nF, nF = (pfF xs).length := ⟨_, rfl⟩
  rw [← hnF] at hs
  have HNF := Lib.hid hnF.symm
  clear hnF
  rintro e w3 hg
  obtain ⟨AF, cF, rfl, oF, b3⟩ := hg.len HNF.out
  clear hg
  obtain ⟨gF, curF, rfl, _, _, _, hcF, _, _, _⟩ := oF.at_ (by omega)
  have hcF2 := oF.cap_
  have z3 := b3.size
  have OF := Lib.hid oF.rd
  have B3 := Lib.hid b3
  have X3 := Lib.hid ((X2.out.below b3 (Nat.le_refl _)).more z3)
  have Y3 := Lib.hid ((OY.out.rd.below b3 (Nat.le_refl _)).more z3)
  clear oF b3 X2 OY
  go_wp2_with fail
  refine (pfRead (xs := xs) (by omega) hx32 HNF.out hcF hcF2 w3 OF.out).mono ?_
  rintro e w4 hg
  obtain ⟨AB, cB, rfl, oB, b4⟩ := hg.len (List.length_map ..)
  clear hg
  have z4 := b4.size
  have F4 := Lib.hid ((OF.out.below b4 (Nat.le_refl _)).more z4)
  have K4 := Lib.hid oB.rd
  have B4 := Lib.hid b4
  have X4 := Lib.hid ((X3.out.below b4 (Nat.le_refl _)).more z4)
  have Y4 := Lib.hid ((Y3.out.below b4 (Nat.le_refl _)).more z4)
  clear oB b4 X3 Y3 OF
  go_wp2_with fail
  refine (pfAppend (xs := xs) hx8 hx32 hy8 hy32 HNF.out rfl hcF hcF2 w4 F4.out Y4.out).mono ?_
  obtain ⟨nL, hnL⟩ : ∃ nL, nL = (pfF (xs ++ ys)).length := ⟨_, rfl⟩
  have hnl : nL ≤ 20 := by rw [hnL]; exact (pfF_small (by rw [List.length_append]; omega)).2
  have HNL := Lib.hid hnL.symm
  clear hnL
  rintro e w5 hg
  obtain ⟨AL, cL, rfl, oL, b5⟩ := hg.len HNL.out
  clear hg
  have z5 := b5.size
  have F5 := Lib.hid ((F4.out.below b5 (Nat.le_refl _)).more z5)
  have K5 := Lib.hid ((K4.out.below b5 (Nat.le_refl _)).more z5)
  have L5 := Lib.hid oL.rd
  have B5 := Lib.hid b5
  have X5 := Lib.hid ((X4.out.below b5 (Nat.le_refl _)).more z5)
  have Y5 := Lib.hid ((Y4.out.below b5 (Nat.le_refl _)).more z5)
  clear oL b5 X4 Y4 F4 K4
  have o5 : (w5.alloc (.cells #[] 39)).ownsRow w5.heap.size 39 1 (.slice (some ⟨w5.heap.size, 0, none⟩) 0 0) 0 (cxs []) := World.ownsRow_lit (e := 39) (base := w5.heap.size) (size := 1) w5 #[] 0 (Nat.le_refl _) (by unfold maxLen; omega) rfl
  have O5 := Lib.hid o5
  have B5' : Hid (Below w5.heap.size w5 (w5.alloc (.cells #[] 39))) := Lib.hid ((Below.refl _ _).alloc (Nat.le_refl _) _)
  have N5 := Lib.hid (X5.out.alloc (Nat.le_refl _) (.cells #[] 39)).news
  clear o5
  go_wp2_with (first
    | (at_builtin; refine wpList_append_own _ rfl _ _ 24 rfl w5.heap.size 39 i0 _ 1 8 Try.underlying24 hi hz0 hz1 hz2 rfl (by decide) (.slice (some ⟨w5.heap.size, 0, none⟩) 0 0) 0 _ rfl O5.out ⟨gx, 0, none⟩ xs.length cx (cxs xs) rfl (cxs_length xs) N5.out cxs_one' (by unfold maxLen; omega) (by omega) (by rw [size_alloc]; omega) ?_; intro v6 w6 hown6 hgrow6 _; rw [Nat.zero_add, ← cxs_append, List.nil_append] at hown6; obtain ⟨A6, c6, hve6, hO6⟩ := Own.of_row hown6; have O6 := Lib.hid hown6; have hz6 := hgrow6.size; rw [size_alloc] at hz6; have B6 := Lib.hid (B5'.out.grown hgrow6 (by rw [size_alloc]; omega) (fun j e => (O5.out.lt _ e).1)); have N6 := Lib.hid (Y5.out.below B6.out (Nat.le_refl _)).news; subst hve6; clear hown6 hgrow6 hO6)
    | (at_builtin; refine wpList_append_own _ rfl _ _ 24 rfl w5.heap.size 39 i0 _ 1 8 Try.underlying24 hi hz0 hz1 hz2 rfl (by decide) (.slice A6 xs.length c6) xs.length _ rfl O6.out ⟨gy, 0, none⟩ ys.length cy (cxs ys) rfl (cxs_length ys) N6.out cxs_one' (by unfold maxLen; omega) (by omega) (by omega) ?_; intro v7 w7 hown7 hgrow7 _; rw [← cxs_append] at hown7; obtain ⟨A7, c7, hve7, hO7⟩ := Own.of_row hown7; have hz7 := hgrow7.size; have B7 := Lib.hid (B6.out.grown hgrow7 (by omega) (fun j e => (O6.out.lt _ e).1)); have P7 := Lib.hid (iPointFile_any A7 (xs.length + ys.length) c7 (xs ++ ys) (List.length_append ..) (by omega) (is32_append hx32 hy32) w7 hO7.rd); subst hve7; clear hown7 hgrow7 hO7)
    | (go_at_call 35; refine P7.out.mono ?_; rintro e w8 hg; obtain ⟨AW, cW, rfl, oW, b8⟩ := hg.len HNL.out; have z8 := b8.size; have B8 := Lib.hid (B7.out.trans (b8.mono (by omega))); have W8 := Lib.hid oW.rd; clear hg oW b8 P7)
    | (go_at_call 37; refine (samePoints_like AB (some ⟨gx, 0, none⟩) xs.length cB cx (xs.map cpt) xs (List.length_map ..) rfl (by omega) (cpt_like xs) w8 ((K5.out.below B8.out (Nat.le_refl _)).more B8.out.size) ((X5.out.below B8.out (Nat.le_refl _)).more B8.out.size)).mono ?_; rintro e w9 ⟨rfl, b9⟩; have z9 := b9.size; have B9 := Lib.hid (B8.out.trans (b9.mono B8.out.size)); have W9 := Lib.hid ((W8.out.below b9 (Nat.le_refl _)).more z9); clear b9 W8)
    | (go_at_call 38; refine (sameFs_any AL AW nL nL cL cW (pfF (xs ++ ys)) (pfF (xs ++ ys)) HNL.out HNL.out (pfF_rows _) (pfF_rows _) (by omega) w9 ((L5.out.below B9.out (Nat.le_refl _)).more B9.out.size) W9.out).mono ?_; rw [beq_self_eq_true]; rintro e w10 ⟨rfl, b10⟩; have z10 := b10.size; have B10 := Lib.hid (B9.out.trans (b10.mono B9.out.size)); clear b10 W9))
  have BT : Below w.heap.size w w10 := ((((B1.out.trans (B2.out.mono (by omega))).trans (B3.out.mono (by omega))).trans (B4.out.mono (by omega))).trans (B5.out.mono (by omega))).trans (B10.out.mono (by omega))
  have z10w := BT.size
  have M10 := Lib.hid ((HB.out.below BT (Nat.le_refl _)).more z10w)
  have F10 := Lib.hid ((F5.out.below B10.out (Nat.le_refl _)).more B10.out.size)
  have X10 := Lib.hid ((X5.out.below B10.out (Nat.le_refl _)).more B10.out.size)
  have BW := Lib.hid BT
  have HXN := Lib.hid (Nat.le_refl xs.length)
  clear B1 B2 B3 B4 B5 B6 B7 B8 B9 B10 BT O5 O6 N5 N6 X5 Y5 K5 L5 F5 HB B5' HNL hi hz0 hz1 hz2 z1 z2 z3 z4 z5 hz6 hz7 z8 z9 z10 hnl
  go_loopw [15] (fun v wr => ∃ k : Nat, k ≤ xs.length ∧ v = .int .i64 k ∧ Below w10.heap.size w10 wr) (fun v _ => xs.length - (intOf v).toNat)
  case atStart => exact ⟨0, by omega, rfl, Below.refl _ _⟩
  case round =>
    obtain ⟨k, hk, rfl, hb⟩ := hrel
    have zr := hb.size
    have HBr := Lib.hid hb
    clear hb
    have FR := Lib.hid ((F10.out.below HBr.out (Nat.le_refl _)).more zr)
    by_cases hlt : k < xs.length
    · have hlt' : (k : Int) < xs.length := by omega
      have S1 := Lib.hid (pfSeek (xs := xs) (c := cF) (by omega) hx32 HNF.out k hlt wr FR.out)
      obtain ⟨m, hm⟩ : ∃ m, m = (skPs k).length := ⟨_, rfl⟩
      have hm1 : 1 ≤ m := by rw [hm, skPs]; split <;> simp
      have hm2 : m ≤ 2 := by rw [hm]; exact skPs_length k
      have HM := Lib.hid hm.symm
      have hcp : like (cpt xs[k]).1 xs[k].1 ∧ like (cpt xs[k]).2 xs[k].2 := ⟨like_cb _, like_cb _⟩
      have HX1 := Lib.hid (cxs_at hlt)
      have SB := Lib.hid (fun W i t hi hi2 ht A c hR => pfSeekBad (xs := xs) (A := A) (c := c) (by omega) hx32 HNF.out k i t hlt hi hi2 ht W hR)
      obtain ⟨p1, hp1⟩ : ∃ p, p = (cpt xs[k]).1 := ⟨_, rfl⟩
      obtain ⟨p2, hp2⟩ : ∃ p, p = (cpt xs[k]).2 := ⟨_, rfl⟩
      rw [← hp1, ← hp2] at S1 hcp
      simp only [← hp1, ← hp2] at SB
      obtain ⟨u1, hu1⟩ : ∃ p, p = xs[k].1 := ⟨_, rfl⟩
      obtain ⟨u2, hu2⟩ : ∃ p, p = xs[k].2 := ⟨_, rfl⟩
      rw [← hu1, ← hu2] at HX1 hcp
      have SP := Lib.hid (fun W => samePoint_like p1 p2 u1 u2 hcp.1 hcp.2 W)
      clear hp1 hp2 hu1 hu2 hcp hm
      go_wp2_with (first
        | (go_at_call 23; refine S1.out.mono ?_; rintro e w11 hg; obtain ⟨AP, cP, rfl, oP, b11⟩ := hg.len ((List.length_map ..).trans HM.out); have z11 := b11.size; have B11 := Lib.hid (HBr.out.trans (b11.mono zr)); have OP := Lib.hid oP.rd; have cx1 : w11.cell? ⟨gx, k, none⟩ = some (.complex .f32 u1 u2) := (by obtain ⟨b', o', e', _, hc⟩ := (X10.out.below B11.out (Nat.le_refl _)).at_ (by omega); cases e'; have hc2 := hc k _ HX1.out; rwa [Nat.zero_add] at hc2); clear hg oP b11 S1)
        | (go_at_call 39; refine (SP.out _).mono ?_; rintro e w12 ⟨rfl, rfl⟩))
      have F11 := Lib.hid ((F10.out.below B11.out (Nat.le_refl _)).more B11.out.size)
      have X11 := Lib.hid cx1
      have hgx : gx < w10.heap.size := by
        obtain ⟨b', o', e', h', _⟩ := X10.out.at_ (by omega)
        cases e'
        exact h'
      clear FR HBr cx1
      obtain ⟨wk, rfl⟩ : ∃ wk : World, wk = wr := ⟨_, rfl⟩
      go_loopw [19] (fun v wr => ∃ i : Nat, 1 ≤ i ∧ i ≤ nF ∧ v = .int .i64 i ∧ Below w11.heap.size w11 wr) (fun v _ => nF - (intOf v).toNat)
      case atStart => exact ⟨1, by omega, by omega, rfl, Below.refl _ _⟩
      case round =>
        obtain ⟨i, hi1, hi2, rfl, hb⟩ := hrel
        have zi := hb.size
        have HBi := Lib.hid hb
        clear hb
        obtain ⟨wi, rfl⟩ : ∃ wi : World, wi = wr := ⟨_, rfl⟩
        by_cases hin : i < nF
        · have hin' : (i : Int) < nF := by omega
          have OPi := Lib.hid ((OP.out.below HBi.out (Nat.le_refl _)))
          have Fi := Lib.hid ((F11.out.below HBi.out (Nat.le_refl _)).more zi)
          have Mi := Lib.hid (((M10.out.below B11.out (Nat.le_refl _)).more B11.out.size).below HBi.out (Nat.le_refl _))
          have cxi : wi.cell? ⟨gx, k, none⟩ = some (.complex .f32 u1 u2) := (HBi.out.cell (p := ⟨gx, k, none⟩) (by show gx < w11.heap.size; have := B11.out.size; omega)).trans X11.out
          have CX := Lib.hid cxi
          clear cxi
          go_wp2
          go_loopw [20, 21] (fun b v wr => ∃ j : Nat, j ≤ m ∧ v = .int .i64 j ∧ b = .bool (decide (i ∈ (skPs k).take j)) ∧ Below wi.heap.size wi wr) (fun _ v _ => m - (intOf v).toNat)
          case atStart => exact ⟨0, by omega, rfl, by simp, Below.refl _ _⟩
          case round =>
            obtain ⟨j, hj, rfl, rfl, hb⟩ := hrel
            by_cases hjm : j < m
            · obtain ⟨b, o, rfl, hbB, hc⟩ := (OPi.out.below hb (by omega)).at_ (by omega)
              have hjl : j < (skPs k).length := by rw [HM.out]; exact hjm
              have c1 := hc j (.int .i64 ((skPs k)[j] : Nat)) (by rw [List.getElem?_map, List.getElem?_map, List.getElem?_eq_getElem hjl]; rfl)
              have htk : (skPs k).take (j + 1) = (skPs k).take j ++ [(skPs k)[j]] := List.take_succ_eq_append_getElem hjl
              obtain ⟨q, hq⟩ : ∃ q, q = (skPs k)[j] := ⟨_, rfl⟩
              rw [← hq] at c1 htk
              have hjm' : (j : Int) < m := by omega
              have HBj := Lib.hid hb
              have hmem : decide (i ∈ (skPs k).take (j + 1)) = (decide (i ∈ (skPs k).take j) || decide (i = q)) := by rw [htk]; simp
              have HMEM := Lib.hid hmem
              clear hc hbB hq htk hb hmem hjl
              generalize decide (i ∈ (skPs k).take j) = bb at *
              by_cases hqi : i = q
              · subst hqi
                cases bb
                all_goals
                  go_wp2
                  exact ⟨⟨j + 1, by omega, by go_num, by rw [HMEM.out]; simp, HBj.out⟩, by simp [intOf]; omega⟩
              · have hqi' : ¬ (q : Int) = (i : Int) := by omega
                cases bb
                all_goals
                  go_wp2
                  exact ⟨⟨j + 1, by omega, by go_num, by rw [HMEM.out]; simp [hqi, hqi'], HBj.out⟩, by simp [intOf]; omega⟩
            · obtain rfl : j = m := by omega
              rw [List.take_of_length_le (by rw [HM.out]; exact Nat.le_refl _)]
              have zj := hb.size
              have HBj := Lib.hid (HBi.out.trans (hb.mono zi))
              have Fj := Lib.hid ((Fi.out.below hb (Nat.le_refl _)).more zj)
              have Mj := Lib.hid ((Mi.out.below hb (by have := B11.out.size; omega)).more (show w11.heap.size ≤ wr.heap.size by omega))
              have Cj := Lib.hid ((hb.cell (p := ⟨gx, k, none⟩) (by show gx < wi.heap.size; have := B11.out.size; omega)).trans CX.out)
              have HAT := atOf_range l2 0 (m := 128) (by decide)
              have AT := Lib.hid (a2At_any A2 n2 c2 l2 HL2.out.1 HL2.out.2 0 0 rfl 128 (by decide) (by decide) hn2 wr Mj.out)
              obtain ⟨t, ht⟩ : ∃ t, t = atOf l2 0 128 := ⟨_, rfl⟩
              rw [← ht] at AT HAT
              have hbl : (spoil (pfF xs) i t.toNat).length = nF := by rw [spoil, List.length_set, HNF.out]
              have HBL := Lib.hid hbl
              have P1 := Lib.hid (pfSpoil (xs := xs) (c := cF) (by omega) HNF.out i hin t HAT.1 HAT.2 wr Fj.out)
              have SBi := Lib.hid (fun W A c hR => SB.out W i t.toNat hi1 hin (by omega) A c hR)
              clear ht hb Fi Mi Fj Mj hbl HAT OPi CX HBi
              by_cases hmm : i ∈ skPs k
              · simp only [hmm, not_true_eq_false, false_implies, true_and, if_true] at SBi
                rw [decide_eq_true hmm]
                go_wp2_with (first
                  | (go_at_call 41; refine AT.out.mono ?_; rintro e w21 ⟨rfl, rfl⟩)
                  | (go_at_call 40; refine P1.out.mono ?_; rintro e w22 hg; obtain ⟨AS, cS, rfl, oS, b22⟩ := hg.len' HBL.out; have z22 := b22.size; have B22 := Lib.hid b22; have OS := Lib.hid oS.rd; have SBs := Lib.hid (SBi.out w22 AS cS oS.rd); clear hg oS b22)
                  | (go_at_call 23; refine SBs.out.mono ?_; rintro e w23 ⟨re, im, ps, Aq, cq, rfl, oq, b23⟩; have z23 := b23.size; have B23 := Lib.hid b23; clear oq b23))
                exact ⟨⟨i + 1, by omega, by omega, by go_num, (HBj.out.trans (B22.out.mono (by omega))).trans (B23.out.mono (by omega))⟩, by simp [intOf]; omega⟩
              · simp only [hmm, not_false_eq_true, true_implies, if_false] at SBi
                rw [decide_eq_false hmm]
                go_wp2_with (first
                  | (go_at_call 41; refine AT.out.mono ?_; rintro e w21 ⟨rfl, rfl⟩)
                  | (go_at_call 40; refine P1.out.mono ?_; rintro e w22 hg; obtain ⟨AS, cS, rfl, oS, b22⟩ := hg.len' HBL.out; have z22 := b22.size; have B22 := Lib.hid b22; have OS := Lib.hid oS.rd; have SBs := Lib.hid (SBi.out w22 AS cS oS.rd); have C22 := Lib.hid ((b22.cell (p := ⟨gx, k, none⟩) (by show gx < wr.heap.size; have := B11.out.size; omega)).trans Cj.out); clear hg oS b22)
                  | (go_at_call 23; refine SBs.out.mono ?_; rintro e w23 ⟨re, im, ps, ⟨rfl, rfl⟩, Aq, cq, rfl, oq, b23⟩; have z23 := b23.size; have B23 := Lib.hid b23; have c23 := (b23.cell (p := ⟨gx, k, none⟩) (by show gx < w22.heap.size; have := B11.out.size; omega)).trans C22.out; clear oq b23)
                  | (go_at_call 39; refine (SP.out _).mono ?_; rintro e w24 ⟨rfl, rfl⟩))
                exact ⟨⟨i + 1, by omega, by omega, by go_num, (HBj.out.trans (B22.out.mono (by omega))).trans (B23.out.mono (by omega))⟩, by simp [intOf]; omega⟩
        · obtain rfl : i = nF := by omega
          go_wp2
          exact ⟨⟨k + 1, by omega, by go_num, B11.out.trans (HBi.out.mono B11.out.size)⟩, by simp [intOf]; omega⟩
    · obtain rfl : k = xs.length := by omega
      have E1 := Lib.hid (pfSeekEnd (xs := xs) (c := cF) (by omega) HNF.out wr FR.out)
      go_wp2_with (first
        | (go_at_call 23; refine E1.out.mono ?_; rintro e w30 ⟨Aq, cq, rfl, oq, b30⟩; have z30 := b30.size; have B30 := Lib.hid (HBr.out.trans (b30.mono zr)); have E2 := Lib.hid (pfReadW (xs := xs) (c := cF) (by omega) HNF.out hcF hcF2 w30 ((FR.out.below b30 (Nat.le_refl _)).more z30)); clear oq b30 E1)
        | (go_at_call 18; refine E2.out.mono ?_; rintro e w31 ⟨Ar, cr, rfl, or_, b31⟩; have z31 := b31.size; have B31 := Lib.hid (B30.out.trans (b31.mono (by omega))); clear or_ b31 E2))
      go_ret
      exact ⟨rfl, BW.out.trans (B31.out.mono z10w)⟩
set_option maxRecDepth 100000 in
theorem lawPointFiles_any (A : Option Addr) (n c : Nat) (l : List Int) (hl : l.length = n) (h255 : is255 l) (A2 : Option Addr) (n2 c2 : Nat) (l2 : List Int) (hl2 : l2.length = n2) (h255' : is255 l2) (w : World) (RA : Rd w w.heap.size 1 A n (l.map (.int .u8))) (RB : Rd w w.heap.size 1 A2 n2 (l2.map (.int .u8))) :
    Calls Try.prog 7 #[.slice A n c, .slice A2 n2 c2] w fun e w' => e = .returned (.bool true) ∧ Below w.heap.size w w' := by
  by_cases h : n ≤ 3000 ∧ n2 ≤ 3000
  · exact lawPointFiles_in A n c l hl h255 A2 n2 c2 l2 hl2 h255' h.1 h.2 w RA RB
  · have h3 : 3000 < n ∨ 3000 < n2 := by omega
    clear RA RB hl hl2 h255 h255' h
    go_enter Try.func7, Try.ntmps7
    go_wp2_with fail
    refine (a2Long_out A A2 n c n2 c2 h3 w).mono ?_
    rintro e w0 ⟨rfl, rfl⟩
    go_wp2
    go_ret
    exact ⟨rfl, Below.refl _ _⟩
end Go.Proofs.Ytigjdcfdgifonaa
