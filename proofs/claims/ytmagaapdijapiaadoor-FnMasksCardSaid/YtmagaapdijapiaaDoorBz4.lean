/- Mh, Mv2, Mt, Ms, Mu in one text. -/
import Derived.Test.YtmagaapdijapiaaDoorRows
import Derived.Test.YtmagaapdijapiaaDoorBz1
import Derived.Test.YtmagaapdijapiaaDoorMi
import Derived.Test.YtmagaapdijapiaaDoorCb
import Derived.Deep.QuietTactic
import Derived.BigQuiet
import Derived.IntWalk
import Derived.Test.YtmagaapdijapiaaDoorMv
import Derived.Test.YtmagaapdijapiaaDoorBz2
import Derived.Test.YtmagaapdijapiaaDoorBz3
import Derived.Test.YtmagaapdijapiaaDoorMa
import Derived.Laws.BytesArg
import Derived.Lib.SplitLaws
import Derived.Lib.CountLaws
import Derived.Lib.IndexLaws
import Derived.Test.YtmagaapdijapiaaDoorShs
import Derived.Deep.RegionWith
import Derived.Deep.CutRange
namespace Go.Proofs.YtmagaapdijapiaaDoor
open Go.ChangeShapes Go.WideShapes Go.ChangeAt Go.RowKit
theorem cnt8_le (v : Int) : cnt8 v ≤ 8 := by
  have := List.countP_le_length (p := rowBit v) (l := List.range 8)
  rwa [List.length_range] at this
def bAtM (s : ByteArray) (k : Nat) : Int := ((s.data.toList.getD k 0).toNat : Int)
set_option maxRecDepth 20000 in
set_option maxHeartbeats 1600000 in
theorem onesCount_any (v : Int) (h0 : 0 ≤ v) (h1 : v < 65536) (w : World) : Calls Tryd.prog 52 #[.int .u16 v] w fun e w' => e = .returned (.int .i64 (popR v)) ∧ Below w.heap.size w w' := by
  go_enter Tryd.func52, Tryd.ntmps52
  go_wp2
  generalize hs : ByteArray.mk _ = s
  have hsz : s.size = 256 := by rw [← hs]; decide +kernel
  have htab : ∀ k : Fin 256, bAtM s k.val = cnt8 (k.val : Int) := by rw [← hs]; decide +kernel
  clear hs
  have g1 : 0 ≤ v / 256 := by omega
  have g2 : v / 256 < 256 := by omega
  have g3 : 0 ≤ v % 256 := by omega
  have g4 : v % 256 < 256 := by omega
  have ga : bits .and .u16 v 255 = v % 256 := by
    rw [u16_and v 255 h0 h1 (by decide) (by decide)]
    have : v.toNat &&& (255 : Int).toNat = v.toNat % 256 := Nat.and_two_pow_sub_one_eq_mod v.toNat 8
    rw [this]
    omega
  have hv : ∀ (k : Nat) (h : k < s.size), ((s[k]'h).toNat : Int) = (cnt8 (k : Int) : Int) := fun k h => by
    rw [← htab ⟨k, by omega⟩, bAtM, List.getD_eq_getElem?_getD, List.getElem?_eq_getElem (by simpa using h)]
    rfl
  have e1 := hv (v / 256).toNat (by omega)
  have e2 := hv (v % 256).toNat (by omega)
  rw [Int.toNat_of_nonneg g1] at e1
  rw [Int.toNat_of_nonneg g3] at e2
  have hp := popR_two h0 h1
  have hl1 := cnt8_le (v / 256)
  have hl2 := cnt8_le (v % 256)
  have uw : IntKind.u8.wrap ((cnt8 (v / 256) : Int) + cnt8 (v % 256)) = (cnt8 (v / 256) : Int) + cnt8 (v % 256) := by rw [IntKind.wrap_u8]; omega
  have HP := Lib.hid hp
  clear htab hv h0 h1 hp
  go_quiet (fail)
  go_wp2
  go_ret
  refine ⟨?_, below_drewN (Below.refl _ _) _⟩
  rw [HP.out, Int.natCast_add]
  rfl
set_option maxRecDepth 20000 in
set_option maxHeartbeats 1600000 in
theorem iCountCells_any (M : List Int) (hM : M.length = 16) (h16 : is16 M) (w : World) : Calls Tryd.prog 23 #[.agg (ivs .u16 M)] w fun e w' => e = .returned (.int .i64 (cnt (bitB M) 256)) ∧ Below w.heap.size w w' := by
  have H0 : Hid (Blk (w.alloc (.cells (ivs .u16 M) 44)) w.heap.size 44 (ivs .u16 M)) := Lib.hid (Blk.newAt rfl rfl)
  have HL := Lib.hid hM
  have H16 := Lib.hid h16
  obtain ⟨iu, hiu, hu0, hu1, hu2⟩ := info_parts U16_info
  have HIX : Hid (∀ y (hy : y < 16) (W : World), (Instr.index 44 (.agg (ivs .u16 M)) (.int .i64 (y : Nat))).run Tryd.prog W = .ok (.int .u16 (M.getD y 0)) W) := Lib.hid (fun y hy W => by
    have h := run_index_ivs (P := Tryd.prog) (k := y) (l := M) W Tryd.underlying44 Tryd.underlying42 hiu (by kernel_rfl) hM hy
    have hv : M.getD y 0 = M[y]'(by omega) := by rw [List.getD_eq_getElem?_getD, List.getElem?_eq_getElem (by omega)]; rfl
    rw [hv]
    exact h)
  clear hM h16 hiu hu0 hu1 hu2
  go_enter Tryd.func23, Tryd.ntmps23
  go_wp2_with (refine wpList_load_row rfl _ _ rfl w.heap.size rfl 44 (ivs .u16 M) (0, 0) _ H0.out Tryd.underlying44 rfl (by rw [ivs_size, HL.out]; exact size44) ?_)
  go_loopw [3, 7] (fun s i wr => ∃ y : Nat, y ≤ 16 ∧ i = .int .i64 y ∧ s = .int .i64 (cnt (bitB M) (16 * y)) ∧ Hid (Below w.heap.size w wr)) (fun _ i _ => 16 - (intOf i).toNat)
  case atStart => exact ⟨0, by omega, rfl, rfl, Lib.hid ((Below.refl _ _).alloc (Nat.le_refl _) _)⟩
  case round =>
    obtain ⟨y, hy, rfl, rfl, HB⟩ := hrel
    by_cases hlt : y < 16
    · have hyi : (y : Int) < 16 := by omega
      have hix := HIX.out y hlt
      obtain ⟨v0, v1⟩ := H16.out.getD y
      have HR := Lib.hid (cnt_row M y)
      have hl1 := cnt_le (bitB M) (16 * y)
      generalize M.getD y 0 = v at *
      have hl2 := popR_le v
      have HO := Lib.hid (fun W => onesCount_any v v0 v1 W)
      generalize cnt (bitB M) (16 * y) = c at *
      generalize popR v = p at *
      have uw : IntKind.i64.wrap ((c : Int) + p) = (c : Int) + p := IntWalk.i64_in _ (by omega)
      go_wp2_with (go_at_call 52; refine (HO.out _).mono ?_; rintro e w2 ⟨rfl, hb2⟩; have B2 := Lib.hid (HB.out.trans (hb2.mono HB.out.size)); clear hb2)
      exact ⟨⟨y + 1, by omega, by go_num, by rw [HR.out, Int.natCast_add], B2⟩, by simp [intOf]; omega⟩
    · obtain rfl : y = 16 := by omega
      go_wp2
      go_ret
      exact ⟨rfl, HB.out⟩
end Go.Proofs.YtmagaapdijapiaaDoor
namespace Go.Proofs.YtmagaapdijapiaaDoor
open Go.ChangeShapes Go.WideShapes Go.ChangeAt Go.RowKit
theorem isM_to (f : Nat → Nat → Bool) : ∀ k, k ≤ 256 → ∃ R, IsM R fun x y => decide (16 * y + x < k) && f x y
  | 0, _ => ⟨zr16, IsM.zero.congr fun x y _ _ => by simp⟩
  | k + 1, hk => by
    obtain ⟨R, hR⟩ := isM_to f k (by omega)
    cases hb : f (k % 16) (k / 16)
    · refine ⟨R, hR.congr fun x y hx hy => ?_⟩
      by_cases e : 16 * y + x = k
      · have h1 : x = k % 16 := by omega
        have h2 : y = k / 16 := by omega
        subst h1 h2
        rw [hb, Bool.and_false, Bool.and_false]
      · congr 1
        exact decide_eq_decide.2 (by omega)
    · refine ⟨_, (hR.set (a := k % 16) (b := k / 16) (by omega) (by omega)).congr fun x y hx hy => ?_⟩
      by_cases e : x = k % 16 ∧ y = k / 16
      · obtain ⟨rfl, rfl⟩ := e
        rw [hb, decide_eq_true (show 16 * (k / 16) + k % 16 < k + 1 by omega)]
        simp
      · have h0 : (decide (x = k % 16) && decide (y = k / 16)) = false := by
          rw [Bool.and_eq_false_iff, decide_eq_false_iff_not, decide_eq_false_iff_not]
          omega
        rw [h0, Bool.or_false]
        congr 1
        exact decide_eq_decide.2 (by omega)
theorem isM_ex (f : Nat → Nat → Bool) : ∃ R, IsM R f := by
  obtain ⟨R, h⟩ := isM_to f 256 (Nat.le_refl _)
  exact ⟨R, h.congr fun x y hx hy => by rw [decide_eq_true (by omega), Bool.true_and]⟩
theorem turn_to {M R : List Int} (hM : M.length = 16) (h16 : is16 M) (hR : IsM R fun x y => bitB M y (15 - x)) (w : World) : Calls Tryd.prog 24 #[.agg (ivs .u16 M)] w fun e w' => e = .returned (.agg (ivs .u16 R)) ∧ Below w.heap.size w w' :=
  (iTurnMask_any M hM h16 w).mono fun e w' ⟨S, hS, he, hb⟩ => ⟨by rw [he, hS.eq hR fun _ _ _ _ => rfl], hb⟩
theorem mir_to {M R : List Int} (hM : M.length = 16) (h16 : is16 M) (hR : IsM R fun x y => bitB M (15 - x) y) (w : World) : Calls Tryd.prog 25 #[.agg (ivs .u16 M)] w fun e w' => e = .returned (.agg (ivs .u16 R)) ∧ Below w.heap.size w w' :=
  (iMirrorMask_any M hM h16 w).mono fun e w' ⟨S, hS, he, hb⟩ => ⟨by rw [he, hS.eq hR fun _ _ _ _ => rfl], hb⟩
theorem mir_back {M R : List Int} (hM : M.length = 16) (h16 : is16 M) (hR : IsM R fun x y => bitB M (15 - x) y) (w : World) : Calls Tryd.prog 25 #[.agg (ivs .u16 R)] w fun e w' => e = .returned (.agg (ivs .u16 M)) ∧ Below w.heap.size w w' :=
  (iMirrorMask_any R hR.len hR.m16 w).mono fun e w' ⟨S, hS, he, hb⟩ => ⟨by rw [he, mir_two hM h16 hR hS], hb⟩
theorem cnt_to {R : List Int} {K : Nat} (hR : R.length = 16) (h16 : is16 R) (hK : cnt (bitB R) 256 = K) (w : World) : Calls Tryd.prog 23 #[.agg (ivs .u16 R)] w fun e w' => e = .returned (.int .i64 K) ∧ Below w.heap.size w w' := by
  rw [← hK]
  exact iCountCells_any R hR h16 w
end Go.Proofs.YtmagaapdijapiaaDoor
namespace Go.Proofs.YtmagaapdijapiaaDoor
open Go.ChangeShapes Go.WideShapes Go.ChangeAt Go.RowKit
def chT (b : Bool) : Int := if b then 35 else 46
def lineT (M : List Int) (y x : Nat) : List Int := (List.range x).map fun a => chT (bitB M a y)
def textTo (M : List Int) : Nat → List Int
  | 0 => []
  | y + 1 => textTo M y ++ lineT M y 16 ++ [10]
theorem lineT_succ (M : List Int) (y x : Nat) : lineT M y (x + 1) = lineT M y x ++ [chT (bitB M x y)] := by rw [lineT, lineT, List.range_succ, List.map_append]; rfl
theorem lineT_length (M : List Int) (y x : Nat) : (lineT M y x).length = x := by simp [lineT]
theorem textTo_length (M : List Int) : ∀ y, (textTo M y).length = 17 * y
  | 0 => rfl
  | y + 1 => by
    rw [textTo, List.length_append, List.length_append, textTo_length M y, lineT_length]
    simp only [List.length_singleton]
    omega
theorem ByteM_info : (Tryd.prog.info? 5).map (fun i => (i.zero, i.size, i.bytes)) = some (some (.int .u8 0), 1, 1) := by kernel_rfl
theorem convM_bytes {W : World} {g o n c : Nat} {l : List Int} (hl : l.length = n) (hr : W.rangeAt g o (l.map (.int .u8))) :
    (convert 22 9 (.slice (some ⟨g, o, none⟩) n c)).run Tryd.prog W = .ok (.string (strOfNums l)) W :=
  run_convert_bytes_arg W 22 5 Tryd.underlying22 Tryd.underlying5 g o n c l hl (fun i hi => by
    rw [hr i (.int .u8 (l.getD i 0)) (by rw [List.getElem?_map, List.getElem?_eq_getElem (by omega)]; simp [List.getD, List.getElem?_eq_getElem (show i < l.length by omega)])]) 9 Tryd.underlying9
theorem ownM_some {w : World} {base : Nat} {e : TypeId} {size n : Nat} {v : Value} {xs : List Value} (h : w.ownsRow base e size v n xs) (hn : 0 < n) : ∃ g c, v = .slice (some ⟨g, 0, none⟩) n c := by
  rcases h.2 with ⟨_, rfl⟩ | ⟨g, cap, cur, rfl, _⟩
  · omega
  · exact ⟨g, cap, rfl⟩
theorem ownM_cells {w : World} {base : Nat} {e : TypeId} {g n c : Nat} {xs : List Value} (h : w.ownsRow base e 1 (.slice (some ⟨g, 0, none⟩) n c) n xs) : w.rangeAt g 0 xs := fun j u hu => by
  have hj := (List.getElem?_eq_some_iff.1 hu).1
  have hl := h.1
  obtain ⟨b, o, e, _, hc⟩ := (Rd.of_own h).at_ (by omega)
  cases e
  exact hc j u hu
set_option maxRecDepth 20000 in
set_option maxHeartbeats 3200000 in
theorem iMaskText_any (M : List Int) (hM : M.length = 16) (h16 : is16 M) (w : World) : Calls Tryd.prog 18 #[.agg (ivs .u16 M)] w fun e w' => e = .returned (.string (strOfNums (textTo M 16))) ∧ Below w.heap.size w w' := by
  have H0 : Hid (Blk (w.alloc (.cells (ivs .u16 M) 44)) w.heap.size 44 (ivs .u16 M)) := Lib.hid (Blk.newAt rfl rfl)
  have HL := Lib.hid hM
  have H16 := Lib.hid h16
  obtain ⟨iu, hiu, hu0, hu1, hu2⟩ := info_parts U16_info
  obtain ⟨i0, hi, hz0, hz1, hz2⟩ := info_parts ByteM_info
  have HIX : Hid (∀ y (hy : y < 16) (W : World), (Instr.index 44 (.agg (ivs .u16 M)) (.int .i64 (y : Nat))).run Tryd.prog W = .ok (.int .u16 (M.getD y 0)) W) := Lib.hid (fun y hy W => by
    have h := run_index_ivs (P := Tryd.prog) (k := y) (l := M) W Tryd.underlying44 Tryd.underlying42 hiu (by kernel_rfl) hM hy
    have hv : M.getD y 0 = M[y]'(by omega) := by rw [List.getD_eq_getElem?_getD, List.getElem?_eq_getElem (by omega)]; rfl
    rw [hv]
    exact h)
  have o0 : ((w.alloc (.cells (ivs .u16 M) 44)).alloc (.cells #[] 5)).ownsRow w.heap.size 5 1 (.slice (some ⟨w.heap.size + 1, 0, none⟩) 0 0) 0 (([] : List Int).map (.int .u8)) := by
    have h := World.ownsRow_lit (e := 5) (base := w.heap.size) (size := 1) (w.alloc (.cells (ivs .u16 M) 44)) #[] 0 (by simp) (by unfold maxLen; omega) rfl
    rw [size_alloc] at h
    exact h
  have O0 := Lib.hid o0
  clear hM h16 hiu hu0 hu1 hu2 o0
  go_enter Tryd.func18, Tryd.ntmps18
  go_wp2_with (refine wpList_load_row rfl _ _ rfl w.heap.size rfl 44 (ivs .u16 M) (0, 0) _ (H0.out.alloc _) Tryd.underlying44 rfl (by rw [ivs_size, HL.out]; exact size44) ?_)
  go_loopw [3, 9] (fun v i wr => ∃ (y g cc m : Nat), y ≤ 16 ∧ i = .int .i64 y ∧ v = .slice (some ⟨g, 0, none⟩) m cc ∧ Hid (m = 17 * y) ∧ Hid (wr.ownsRow w.heap.size 5 1 (.slice (some ⟨g, 0, none⟩) m cc) m ((textTo M y).map (.int .u8))) ∧ Hid (Below w.heap.size w wr)) (fun _ i _ => 16 - (intOf i).toNat)
  case atStart => exact ⟨0, _, 0, 0, by omega, rfl, rfl, Lib.hid rfl, O0, Lib.hid (((Below.refl _ _).alloc (Nat.le_refl _) _).alloc (by simp) _)⟩
  case round =>
    clear O0 H0
    obtain ⟨y, g, cc, m, hy, rfl, rfl, hm, HO, HB⟩ := hrel
    by_cases hlt : y < 16
    · have hyi : (y : Int) < 16 := by omega
      have hix := HIX.out y hlt
      obtain ⟨v0, v1⟩ := H16.out.getD y
      have HBT : Hid (∀ x, (bits .and .u16 (M.getD y 0 / 2 ^ x) 1 == 1) = bitB M x y) := Lib.hid (fun x => by rw [bit_eq v0 v1, bitB])
      obtain ⟨v, hv⟩ : ∃ v, v = M.getD y 0 := ⟨_, rfl⟩
      rw [← hv] at hix HBT v0 v1
      clear hv
      go_wp2
      go_loopw [3, 12] (fun q i wr => ∃ (x g cc n : Nat), x ≤ 16 ∧ i = .int .i64 x ∧ q = .slice (some ⟨g, 0, none⟩) n cc ∧ Hid (n = 17 * y + x) ∧ Hid (wr.ownsRow w.heap.size 5 1 (.slice (some ⟨g, 0, none⟩) n cc) n ((textTo M y ++ lineT M y x).map (.int .u8))) ∧ Hid (Below w.heap.size w wr)) (fun _ i _ => 16 - (intOf i).toNat)
      case atStart => exact ⟨0, g, cc, m, by omega, rfl, rfl, Lib.hid (by rw [hm.out]; rfl), Lib.hid (by rw [show lineT M y 0 = [] from rfl, List.append_nil]; exact HO.out), HB⟩
      case round =>
        clear HO HB hm
        obtain ⟨x, g, cc, n, hx, rfl, rfl, hn, HO, HB⟩ := hrel
        have hzw := HB.out.size
        have hn3 : n ≤ 272 := by have := hn.out; omega
        by_cases hxl : x < 16
        · have hxi : (x : Int) < 16 := by omega
          have hx0 : (0 : Int) ≤ x := by omega
          have hbe := HBT.out x
          have HLS : Hid (textTo M y ++ lineT M y (x + 1) = (textTo M y ++ lineT M y x) ++ [chT (bitB M x y)]) := Lib.hid (by rw [lineT_succ, List.append_assoc])
          generalize textTo M y ++ lineT M y x = T at *
          cases hb : bitB M x y
          · rw [hb] at hbe HLS
            have HLS2 : Hid (textTo M y ++ lineT M y (x + 1) = T ++ [46]) := Lib.hid HLS.out
            have HN : Hid (∀ j u, (([46] : List Int).map (Value.int .u8))[j]? = some u → (wr.alloc (.cells (ivs .u8 [46]) 5)).cell? ((⟨wr.heap.size, 0, none⟩ : Addr).add j) = some u) := Lib.hid (Blk.newAt rfl rfl : Blk (wr.alloc (.cells (ivs .u8 [46]) 5)) wr.heap.size 5 (ivs .u8 [46])).news
            clear HLS hb
            go_wp2_with (at_builtin; refine wpList_append_own _ rfl _ _ 22 rfl w.heap.size 5 i0 _ 1 1 Tryd.underlying22 hi hz0 hz1 hz2 rfl (by decide) (.slice (some ⟨g, 0, none⟩) n cc) n _ rfl (HO.out.alloc _) ⟨wr.heap.size, 0, none⟩ 1 1 (([46] : List Int).map (.int .u8)) rfl rfl HN.out ints_one (by unfold maxLen; omega) (by omega) (by rw [size_alloc]; omega) ?_; intro v8 w8 hown8 hgrow8 _; rw [← List.map_append, ← HLS2.out] at hown8; obtain ⟨g8, c8, rfl⟩ := ownM_some hown8 (by omega); have HO8 := Lib.hid hown8; have HG8 := Lib.hid hgrow8; clear hown8 hgrow8)
            exact ⟨⟨x + 1, g8, c8, n + 1, by omega, by go_num, rfl, Lib.hid (by have := hn.out; omega), HO8, Lib.hid ((HB.out.alloc hzw _).grown HG8.out (by rw [size_alloc]; omega) (fun j e => by have := (HO.out.lt _ e).1; omega))⟩, by simp [intOf]; omega⟩
          · rw [hb] at hbe HLS
            have HLS2 : Hid (textTo M y ++ lineT M y (x + 1) = T ++ [35]) := Lib.hid HLS.out
            have HN : Hid (∀ j u, (([35] : List Int).map (Value.int .u8))[j]? = some u → (wr.alloc (.cells (ivs .u8 [35]) 5)).cell? ((⟨wr.heap.size, 0, none⟩ : Addr).add j) = some u) := Lib.hid (Blk.newAt rfl rfl : Blk (wr.alloc (.cells (ivs .u8 [35]) 5)) wr.heap.size 5 (ivs .u8 [35])).news
            clear HLS hb
            go_wp2_with (at_builtin; refine wpList_append_own _ rfl _ _ 22 rfl w.heap.size 5 i0 _ 1 1 Tryd.underlying22 hi hz0 hz1 hz2 rfl (by decide) (.slice (some ⟨g, 0, none⟩) n cc) n _ rfl (HO.out.alloc _) ⟨wr.heap.size, 0, none⟩ 1 1 (([35] : List Int).map (.int .u8)) rfl rfl HN.out ints_one (by unfold maxLen; omega) (by omega) (by rw [size_alloc]; omega) ?_; intro v8 w8 hown8 hgrow8 _; rw [← List.map_append, ← HLS2.out] at hown8; obtain ⟨g8, c8, rfl⟩ := ownM_some hown8 (by omega); have HO8 := Lib.hid hown8; have HG8 := Lib.hid hgrow8; clear hown8 hgrow8)
            exact ⟨⟨x + 1, g8, c8, n + 1, by omega, by go_num, rfl, Lib.hid (by have := hn.out; omega), HO8, Lib.hid ((HB.out.alloc hzw _).grown HG8.out (by rw [size_alloc]; omega) (fun j e => by have := (HO.out.lt _ e).1; omega))⟩, by simp [intOf]; omega⟩
        · obtain rfl : x = 16 := by omega
          have HLS2 : Hid (textTo M (y + 1) = (textTo M y ++ lineT M y 16) ++ [10]) := Lib.hid rfl
          generalize textTo M y ++ lineT M y 16 = T at *
          have HN : Hid (∀ j u, (([10] : List Int).map (Value.int .u8))[j]? = some u → (wr.alloc (.cells (ivs .u8 [10]) 5)).cell? ((⟨wr.heap.size, 0, none⟩ : Addr).add j) = some u) := Lib.hid (Blk.newAt rfl rfl : Blk (wr.alloc (.cells (ivs .u8 [10]) 5)) wr.heap.size 5 (ivs .u8 [10])).news
          go_wp2_with (at_builtin; refine wpList_append_own _ rfl _ _ 22 rfl w.heap.size 5 i0 _ 1 1 Tryd.underlying22 hi hz0 hz1 hz2 rfl (by decide) (.slice (some ⟨g, 0, none⟩) n cc) n _ rfl (HO.out.alloc _) ⟨wr.heap.size, 0, none⟩ 1 1 (([10] : List Int).map (.int .u8)) rfl rfl HN.out ints_one (by unfold maxLen; omega) (by omega) (by rw [size_alloc]; omega) ?_; intro v8 w8 hown8 hgrow8 _; rw [← List.map_append, ← HLS2.out] at hown8; obtain ⟨g8, c8, rfl⟩ := ownM_some hown8 (by omega); have HO8 := Lib.hid hown8; have HG8 := Lib.hid hgrow8; clear hown8 hgrow8)
          exact ⟨⟨y + 1, g8, c8, n + 1, by omega, by go_num, rfl, Lib.hid (by have := hn.out; omega), HO8, Lib.hid ((HB.out.alloc hzw _).grown HG8.out (by rw [size_alloc]; omega) (fun j e => by have := (HO.out.lt _ e).1; omega))⟩, by simp [intOf]; omega⟩
    · obtain rfl : y = 16 := by omega
      have hcv := convM_bytes (c := cc) ((textTo_length M 16).trans hm.out.symm) (ownM_cells HO.out)
      obtain ⟨s, hs⟩ : ∃ s, s = strOfNums (textTo M 16) := ⟨_, rfl⟩
      rw [← hs] at hcv
      have HS := Lib.hid hs
      clear hs
      go_wp2
      go_ret
      rw [← HS.out]
      exact ⟨rfl, HB.out⟩
end Go.Proofs.YtmagaapdijapiaaDoor
namespace Go.Proofs.YtmagaapdijapiaaDoor
open Go.ChangeShapes Go.WideShapes Go.ChangeAt Go.RowKit
/-- lines, each with its end -/
def endL (ls : List (List Int)) : List Int := (ls.map fun l => l ++ [10]).flatten
def brk : ByteArray := { data := #[10] }
theorem strM_append (a b : List Int) : strOfNums (a ++ b) = strOfNums a ++ strOfNums b := by
  unfold strOfNums
  rw [ByteArray.mk_append_mk, List.map_append]
theorem indexM_line {l r : List Int} (h : ∀ x ∈ l, x = 35 ∨ x = 46) : Lib.indexB (strOfNums (l ++ [10] ++ r)) brk = (l.length : Int) := by
  have hd : (strOfNums (l ++ [10] ++ r)).data.toList = (l.map fun n => UInt8.ofNat n.toNat) ++ (10 :: r.map fun n => UInt8.ofNat n.toNat) := by
    rw [strOfNums_data]
    simp
  show Lib.index (strOfNums (l ++ [10] ++ r)).data.toList brk.data.toList = _
  rw [hd]
  have hb : brk.data.toList = [10] := rfl
  rw [hb]
  refine Lib.index_first (by simp) ?_ (fun j hj => ?_)
  · rw [Lib.occAt, List.drop_append_of_le_length (by simp), List.drop_eq_nil_of_le (by simp)]
    rfl
  · rw [Lib.occAt, List.drop_append_of_le_length (by simp; omega), List.drop_eq_getElem_cons (by simpa using hj)]
    simp only [List.getElem_map, List.cons_append]
    rcases h _ (List.getElem_mem (l := l) (n := j) hj) with e | e <;> rw [e] <;> rfl
theorem split_lines : ∀ (ls : List (List Int)), (∀ l ∈ ls, ∀ x ∈ l, x = 35 ∨ x = 46) → Lib.countB (strOfNums (endL ls)) brk = ls.length ∧ Lib.splitB brk 0 ls.length (strOfNums (endL ls)) = ls.map strOfNums ++ [strOfNums []]
  | [], _ => ⟨rfl, rfl⟩
  | l :: ls, h => by
    obtain ⟨i1, i2⟩ := split_lines ls (fun m hm => h m (List.mem_cons_of_mem _ hm))
    have e : endL (l :: ls) = l ++ [10] ++ endL ls := by rw [endL, endL, List.map_cons, List.flatten_cons]
    have hi := indexM_line (r := endL ls) (h l (List.mem_cons_self ..))
    have hx1 : (strOfNums (l ++ [10] ++ endL ls)).extract 0 (l.length + 0) = strOfNums l := by
      apply ByteArray.ext
      apply Array.ext'
      rw [ByteArray.data_extract, Array.toList_extract, strOfNums_data, strOfNums_data]
      simp
    have hx2 : (strOfNums (l ++ [10] ++ endL ls)).extract (l.length + brk.size) (strOfNums (l ++ [10] ++ endL ls)).size = strOfNums (endL ls) := by
      apply ByteArray.ext
      apply Array.ext'
      rw [ByteArray.data_extract, Array.toList_extract, strOfNums_size, strOfNums_data, strOfNums_data]
      have hs : brk.size = 1 := rfl
      rw [hs]
      simp [List.extract]
      have hd : ((l.map fun n => UInt8.ofNat n.toNat) ++ 10 :: (endL ls).map fun n => UInt8.ofNat n.toNat).drop (l.length + 1) = (endL ls).map fun n => UInt8.ofNat n.toNat := by
        rw [show ((l.map fun n => UInt8.ofNat n.toNat) ++ 10 :: (endL ls).map fun n => UInt8.ofNat n.toNat) = ((l.map fun n => UInt8.ofNat n.toNat) ++ [10]) ++ (endL ls).map fun n => UInt8.ofNat n.toNat by simp]
        exact List.drop_left' (by simp)
      rw [hd]
      exact List.take_of_length_le (by simp; omega)
    rw [e]
    refine ⟨?_, ?_⟩
    · rw [Lib.countB_hit _ _ l.length (by decide) hi, hx2, i1, List.length_cons]
      omega
    · rw [List.length_cons, Lib.splitB_hit _ _ _ _ l.length hi, hx1, hx2, i2, List.map_cons, List.cons_append]
def linesM (M : List Int) : List (List Int) := (List.range 16).map fun y => lineT M y 16
theorem textTo_lines (M : List Int) : ∀ n, textTo M n = endL ((List.range n).map fun y => lineT M y 16)
  | 0 => rfl
  | n + 1 => by
    rw [textTo, textTo_lines M n, List.range_succ, List.map_append, endL, endL, List.map_append, List.flatten_append]
    simp
theorem lineT_in {M : List Int} {y x : Nat} : ∀ c ∈ lineT M y x, c = 35 ∨ c = 46 := fun c hc => by
  obtain ⟨a, _, rfl⟩ := List.mem_map.1 hc
  rw [chT]
  split
  · exact .inl rfl
  · exact .inr rfl
theorem split_text (M : List Int) : Lib.countB (strOfNums (textTo M 16)) brk = 16 ∧ Lib.splitB brk 0 16 (strOfNums (textTo M 16)) = (linesM M).map strOfNums ++ [strOfNums []] := by
  have h := split_lines (linesM M) (fun l hl => by
    obtain ⟨y, _, rfl⟩ := List.mem_map.1 hl
    exact lineT_in)
  have hl : (linesM M).length = 16 := by simp [linesM]
  rw [hl, linesM, ← textTo_lines M 16] at h
  exact h
end Go.Proofs.YtmagaapdijapiaaDoor
namespace Go.Proofs.YtmagaapdijapiaaDoor
open Go.ChangeShapes Go.WideShapes Go.ChangeAt Go.RowKit
theorem run_strM {w : World} (l : List Int) (k : Nat) (h : k < l.length) (h255 : ∀ x ∈ l, x = 35 ∨ x = 46) : (Instr.index 9 (.string (strOfNums l)) (.int .i64 (k : Nat))).run Tryd.prog w = .ok (.int .u8 (l.getD k 0)) w := by
  rw [run_index_string w 9 (strOfNums l) .i64 k Tryd.underlying9, dif_pos ⟨by omega, by rw [strOfNums_size]; omega⟩]
  congr 2
  have e : (strOfNums l).data.toList[k]'(by rw [strOfNums_data, List.length_map]; exact h) = UInt8.ofNat (l[k]).toNat := by
    simp only [strOfNums_data, List.getElem_map]
  have e2 : (strOfNums l)[k]'(by rw [strOfNums_size]; exact h) = (strOfNums l).data.toList[k]'(by rw [strOfNums_data, List.length_map]; exact h) := rfl
  rw [List.getD_eq_getElem?_getD, List.getElem?_eq_getElem h, Option.getD_some]
  have hx := h255 _ (List.getElem_mem h)
  show (((strOfNums l)[k]'(by rw [strOfNums_size]; exact h)).toNat : Int) = l[k]
  rw [e2, e]
  rcases hx with hx | hx <;> rw [hx] <;> rfl
def rdB (M : List Int) (y x a b : Nat) : Bool := (decide (b < y) || (decide (b = y) && decide (a < x))) && bitB M a b
theorem rdB_yes {M : List Int} {x y : Nat} (hb : bitB M x y = true) (a b : Nat) : (rdB M y x a b || (decide (a = x) && decide (b = y))) = rdB M y (x + 1) a b := by
  rw [Bool.eq_iff_iff]
  simp only [rdB, Bool.or_eq_true, Bool.and_eq_true, decide_eq_true_iff]
  constructor
  · rintro (⟨h1, h2⟩ | ⟨rfl, rfl⟩)
    · exact ⟨by omega, h2⟩
    · exact ⟨by omega, hb⟩
  · rintro ⟨h1, h2⟩
    by_cases e : a = x ∧ b = y
    · exact .inr e
    · exact .inl ⟨by omega, h2⟩
theorem rdB_no {M : List Int} {x y : Nat} (hb : bitB M x y = false) (a b : Nat) : rdB M y x a b = rdB M y (x + 1) a b := by
  rw [Bool.eq_iff_iff]
  simp only [rdB, Bool.or_eq_true, Bool.and_eq_true, decide_eq_true_iff]
  constructor
  · rintro ⟨h1, h2⟩
    exact ⟨by omega, h2⟩
  · rintro ⟨h1, h2⟩
    by_cases e : a = x ∧ b = y
    · obtain ⟨rfl, rfl⟩ := e
      rw [hb] at h2
      cases h2
    · exact ⟨by omega, h2⟩
theorem rdB_end (M : List Int) (y : Nat) {a : Nat} (ha : a < 16) (b : Nat) : rdB M y 16 a b = (decide (b < y + 1) && bitB M a b) := by
  rw [Bool.eq_iff_iff]
  simp only [rdB, Bool.or_eq_true, Bool.and_eq_true, decide_eq_true_iff]
  constructor <;> rintro ⟨h1, h2⟩ <;> exact ⟨by omega, h2⟩
theorem rdB_start (M : List Int) (y a b : Nat) : (decide (b < y) && bitB M a b) = rdB M y 0 a b := by
  rw [Bool.eq_iff_iff]
  simp only [rdB, Bool.or_eq_true, Bool.and_eq_true, decide_eq_true_iff]
  constructor <;> rintro ⟨h1, h2⟩ <;> exact ⟨by omega, h2⟩
set_option maxRecDepth 20000 in
set_option maxHeartbeats 3200000 in
theorem iReadMask_any (M : List Int) (hM : M.length = 16) (h16 : is16 M) (w : World) (mx : Int) (hmx : w.cell? ⟨1, 0, none⟩ = some (.int .i64 mx)) :
    Calls Tryd.prog 17 #[.string (strOfNums (textTo M 16))] w fun e w' => e = .returned (.tuple #[.agg (ivs .u16 M), .int .i64 0]) ∧ Below w.heap.size w w' := by
  have hg1 : 1 < w.heap.size := Nat.lt_of_not_le fun h => by
    have h5 : w.heap[1]? = none := Array.getElem?_eq_none h
    simp [World.cell?, h5] at hmx
  obtain ⟨w1, hw1⟩ : ∃ w1, w1 = (w.alloc (.cells (ivs .u16 zr16) 44)).alloc (.cells (ivs .u16 zr16) 44) := ⟨_, rfl⟩
  have h1 : Blk w1 w.heap.size 44 (ivs .u16 zr16) := by rw [hw1]; exact (Blk.newAt rfl rfl).alloc _
  have h2 : Blk w1 (w.heap.size + 1) 44 (ivs .u16 zr16) := by rw [hw1]; exact Blk.newAt (by simp) rfl
  have hB : Below w.heap.size w w1 := by rw [hw1]; exact ((Below.refl _ _).alloc (Nat.le_refl _) _).alloc (by simp) _
  have hm1 : w1.cell? ⟨1, 0, none⟩ = some (.int .i64 mx) := (hB.cell (p := ⟨1, 0, none⟩) hg1).trans hmx
  obtain ⟨n1, n2⟩ := split_text M
  have hsz : (strOfNums (textTo M 16)).size < 4294967281 := by rw [strOfNums_size, textTo_length]; omega
  have HSP := Tryd.strings_Split (strOfNums (textTo M 16)) brk mx w1 hsz hm1 (by decide)
  rw [n1, n2] at HSP
  have HSP := Lib.hid HSP
  have HTX := Lib.hid (fun W => iMaskText_any M hM h16 W)
  have HLN : Hid (∀ y (hy : y < 16), ((linesM M).map strOfNums ++ [strOfNums []])[y]? = some (strOfNums (lineT M y 16))) := Lib.hid (fun y hy => by
    rw [List.getElem?_append_left (by simp [linesM]; exact hy), List.getElem?_map, linesM, List.getElem?_map, List.getElem?_range hy]
    rfl)
  have HL16 : Hid (((linesM M).map strOfNums ++ [strOfNums []])[16]? = some (strOfNums [])) := Lib.hid (by
    rw [List.getElem?_append_right (by simp [linesM])]
    simp [linesM])
  have HIN : Hid (∀ y x, x < 16 → (Hid (∀ W : World, (Instr.index 9 (.string (strOfNums (lineT M y 16))) (.int .i64 (x : Nat))).run Tryd.prog W = .ok (.int .u8 (chT (bitB M x y))) W))) := Lib.hid (fun y x hx => Lib.hid (fun W => by
    have h := run_strM (w := W) (lineT M y 16) x (by rw [lineT_length]; exact hx) lineT_in
    have e : (lineT M y 16).getD x 0 = chT (bitB M x y) := by
      rw [List.getD_eq_getElem?_getD, lineT, List.getElem?_map, List.getElem?_range hx]
      rfl
    rwa [e] at h))
  have HSZ : Hid (∀ y, (strOfNums (lineT M y 16)).size = 16) := Lib.hid (fun y => by rw [strOfNums_size, lineT_length])
  have HEND : Hid (∀ R, IsM R (fun x y => decide (y < 16) && bitB M x y) → R = M) := Lib.hid (fun R h => h.eq (IsM.self hM h16) fun x y _ hy => by rw [decide_eq_true hy, Bool.true_and])
  have HM16 := Lib.hid hM
  have H1 := Lib.hid h1
  have H2 := Lib.hid h2
  have HB := Lib.hid hB
  have z1 := h2.lt
  obtain ⟨ps, hps⟩ : ∃ ps, ps = (linesM M).map strOfNums ++ [strOfNums []] := ⟨_, rfl⟩
  rw [← hps] at HSP HLN HL16
  obtain ⟨s, hs⟩ : ∃ s, s = strOfNums (textTo M 16) := ⟨_, rfl⟩
  rw [← hs] at HSP HTX ⊢
  have hpl : ps.length = 17 := by rw [hps]; simp [linesM]
  have HPL := Lib.hid hpl
  have HW1 := Lib.hid hw1
  clear hM h16 h1 h2 hB hm1 hmx n1 n2 hsz hps hs hpl hw1
  go_enter Tryd.func17, Tryd.ntmps17
  go_wp2_with fail
  generalize hwz : World.alloc (World.alloc w _) _ = wz
  obtain rfl : wz = w1 := hwz.symm.trans HW1.out.symm
  clear hwz HW1
  refine HSP.out.mono ?_
  rintro e w2 ⟨rfl, rfl⟩
  have b2 : Below wz.heap.size wz (wz.alloc (.cells (ps.map Value.string).toArray 9)) := (Below.refl _ _).alloc (Nat.le_refl _) _
  have RP : Hid (Rd (wz.alloc (.cells (ps.map Value.string).toArray 9)) (wz.heap.size + 1) 1 (some ⟨wz.heap.size, 0, none⟩) 17 (ps.map Value.string)) := Lib.hid ⟨by rw [List.length_map, HPL.out], fun _ => ⟨wz.heap.size, 0, rfl, by omega, fun j u hu => by
    rw [Nat.zero_add, (Blk.newAt rfl rfl : Blk (wz.alloc (.cells (ps.map Value.string).toArray 9)) wz.heap.size 9 (ps.map Value.string).toArray).cell, List.getElem?_toArray]
    exact hu⟩⟩
  have K1 := Lib.hid (H1.out.below b2 (by omega))
  have K2 := Lib.hid (H2.out.below b2 (by omega))
  have B2 := Lib.hid (HB.out.trans (b2.mono HB.out.size))
  have hz2 : (wz.alloc (.cells (ps.map Value.string).toArray 9)).heap.size = wz.heap.size + 1 := size_alloc _ _
  clear b2 HSP H1 H2 HB
  generalize wz.alloc (.cells (ps.map Value.string).toArray 9) = w3 at *
  go_wp2
  go_loopw [12] (fun i wr => ∃ (y : Nat) (R : List Int), y ≤ 16 ∧ i = .int .i64 y ∧ Hid (IsM R (fun a b => decide (b < y) && bitB M a b)) ∧ Hid (Blk wr w.heap.size 44 (ivs .u16 zr16)) ∧ Hid (Blk wr (w.heap.size + 1) 44 (ivs .u16 R)) ∧ Hid (Rd wr (wz.heap.size + 1) 1 (some ⟨wz.heap.size, 0, none⟩) 17 (ps.map Value.string)) ∧ wz.heap.size + 1 ≤ wr.heap.size ∧ Hid (Below w.heap.size w wr)) (fun i _ => 17 - (intOf i).toNat)
  case atStart => exact ⟨0, zr16, by omega, rfl, Lib.hid (IsM.zero.congr fun a b _ _ => by simp), K1, K2, RP, by omega, B2⟩
  case round =>
    clear K1 K2 RP B2
    obtain ⟨y, R, hy, rfl, HR, K1, K2, RP, hzr, HB⟩ := hrel
    by_cases hlt : y < 16
    · have hyi : (y : Int) < 16 := by omega
      have hyi2 : (y : Int) < 17 := by omega
      have hy0 : (0 : Int) ≤ y := by omega
      have c1 : wr.cell? ⟨wz.heap.size, y, none⟩ = some (.string (strOfNums (lineT M y 16))) := by
        obtain ⟨b', o', e, _, hc⟩ := RP.out.at_ (by omega)
        cases e
        have h := hc y (.string (strOfNums (lineT M y 16))) (by rw [List.getElem?_map, HLN.out y hlt]; rfl)
        rwa [Nat.zero_add] at h
      have hsl := HSZ.out y
      have HIX := Lib.hid (HIN.out y)
      generalize strOfNums (lineT M y 16) = ln at *
      go_wp2
      go_loopw [22] (fun i wr => ∃ (x : Nat) (R : List Int), x ≤ 16 ∧ i = .int .i64 x ∧ Hid (IsM R (rdB M y x)) ∧ Hid (Blk wr w.heap.size 44 (ivs .u16 zr16)) ∧ Hid (Blk wr (w.heap.size + 1) 44 (ivs .u16 R)) ∧ Hid (Rd wr (wz.heap.size + 1) 1 (some ⟨wz.heap.size, 0, none⟩) 17 (ps.map Value.string)) ∧ wz.heap.size + 1 ≤ wr.heap.size ∧ Hid (Below w.heap.size w wr)) (fun i _ => 16 - (intOf i).toNat)
      case atStart => exact ⟨0, R, by omega, rfl, Lib.hid (HR.out.congr fun a b _ _ => rdB_start M y a b), K1, K2, RP, hzr, HB⟩
      case round =>
        clear HR K1 K2 RP HB hzr c1
        obtain ⟨x, R, hx, rfl, HR, K1, K2, RP, hzr, HB⟩ := hrel
        by_cases hxl : x < 16
        · have hxi : (x : Int) < 16 := by omega
          have hx0 : (0 : Int) ≤ x := by omega
          have hix := (HIX.out x hxl).out
          cases hb : bitB M x y
          · rw [hb] at hix
            have hix2 : ∀ W : World, (Instr.index 9 (.string ln) (.int .i64 (x : Nat))).run Tryd.prog W = .ok (.int .u8 46) W := hix
            have HN := Lib.hid (HR.out.congr fun a b _ _ => rdB_no hb a b)
            clear hix hb
            go_wp2
            exact ⟨⟨x + 1, R, by omega, by go_num, HN, K1, K2, RP, hzr, HB⟩, by simp [intOf]; omega⟩
          · rw [hb] at hix
            have hix2 : ∀ W : World, (Instr.index 9 (.string ln) (.int .i64 (x : Nat))).run Tryd.prog W = .ok (.int .u8 35) W := hix
            have hRl := HR.out.len
            have hwp := pow16 hxl
            have c8 := K2.out.getAtG (i := y) (by rw [hRl]; exact hlt)
            have f8 := K2.out.frozen y
            have N2 := Lib.hid (K2.out.setI y (orF (R.getD y 0) (2 ^ x)))
            have N1 := Lib.hid ((K1.out.far (p := ⟨w.heap.size + 1, y, none⟩) (show w.heap.size ≠ w.heap.size + 1 by omega) (.int .u16 (orF (R.getD y 0) (2 ^ x)))).drew)
            have NR := Lib.hid (Rd.setCellFar (g := w.heap.size + 1) (gC := wz.heap.size) RP.out (by omega) y (.int .u16 (orF (R.getD y 0) (2 ^ x))))
            have NB := Lib.hid (below_drew (HB.out.setCell (p := ⟨w.heap.size + 1, y, none⟩) (show w.heap.size ≤ w.heap.size + 1 by omega) (.int .u16 (orF (R.getD y 0) (2 ^ x)))))
            have HI2 : Hid (IsM (R.set y (orF (R.getD y 0) (2 ^ x))) (rdB M y (x + 1))) := Lib.hid ((HR.out.set hxl hlt).congr fun a b _ _ => rdB_yes hb a b)
            generalize R.getD y 0 = v at *
            clear hix hb HR
            go_wp2
            go_region
            go_wp2
            exact ⟨⟨x + 1, _, by omega, by go_num, HI2, N1, Lib.hid N2.out.drew, Lib.hid NR.out, by rw [World.size_drew, size_setCell]; omega, NB⟩, by simp [intOf]; omega⟩
        · obtain rfl : x = 16 := by omega
          go_wp2
          exact ⟨⟨y + 1, R, by omega, by go_num, Lib.hid (HR.out.congr fun a b ha _ => rdB_end M y ha b), K1, K2, RP, hzr, HB⟩, by simp [intOf]; omega⟩
    · obtain rfl : y = 16 := by omega
      have c1 : wr.cell? ⟨wz.heap.size, 16, none⟩ = some (.string (strOfNums [])) := by
        obtain ⟨b', o', e, _, hc⟩ := RP.out.at_ (by omega)
        cases e
        have h := hc 16 (.string (strOfNums [])) (by rw [List.getElem?_map, HL16.out]; rfl)
        rwa [Nat.zero_add] at h
      have hRM := HEND.out R HR.out
      have hRl := HR.out.len
      subst hRM
      have hzb := HB.out.size
      clear HEND HR
      go_wp2_with (first
        | refine wpList_load_row rfl _ _ rfl (w.heap.size + 1) rfl 44 (ivs .u16 R) (0, 0) _ K2.out Tryd.underlying44 rfl (by rw [ivs_size, hRl]; exact size44) ?_
        | (go_at_call 18; refine (HTX.out _).mono ?_; rintro e w5 ⟨rfl, hb5⟩; have L1 := Lib.hid (K1.out.below hb5 (by omega)); have L2 := Lib.hid (K2.out.below hb5 (by omega)); have B5 := Lib.hid (HB.out.trans (hb5.mono hzb)); clear hb5)
        | refine wpList_load_row rfl _ _ rfl (w.heap.size + 1) rfl 44 (ivs .u16 R) (0, 0) _ L2.out Tryd.underlying44 rfl (by rw [ivs_size, hRl]; exact size44) ?_
        | refine wpList_store_row rfl _ _ _ rfl w.heap.size (ivs .u16 R) rfl rfl 44 _ L1.out (by rw [ivs_size, hRl]; exact size44) (by rw [ivs_size, ivs_size, hRl]; rfl) ivs_one ?_)
      exact bodyPost_ret (results_row_tmpM rfl _ _ w.heap.size 44 (ivs .u16 R) (0, 0) _ rfl (L1.out.row _) Tryd.underlying44 rfl (by rw [ivs_size, hRl]; exact size44)) rfl ⟨rfl, below_setRow B5.out (Nat.le_refl _) _⟩
end Go.Proofs.YtmagaapdijapiaaDoor
