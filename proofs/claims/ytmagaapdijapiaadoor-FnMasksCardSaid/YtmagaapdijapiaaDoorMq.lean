/- The masks of a picture, by corners. -/
import Derived.Test.YtmagaapdijapiaaDoorRows
import Derived.Test.YtmagaapdijapiaaDoorMp
namespace Go.Proofs.YtmagaapdijapiaaDoor
open Go.ChangeShapes Go.WideShapes Go.ChangeAt Go.RowKit
def Apart (l : List Bl) : Prop := l.Pairwise fun a b => a.1 ≠ b.1
def GivesMap (l : List Bl) (w : World) (e : Ending) (w' : World) : Prop := ∃ g, e = .returned (.map (some g)) ∧ w.heap.size ≤ g ∧ g < w'.heap.size ∧ w'.heap[g]? = some (.map (ents l 0).toArray l.length) ∧ Below w.heap.size w w'
set_option maxRecDepth 20000 in
set_option maxHeartbeats 3200000 in
theorem masksOf_any (A : Option Addr) (n c : Nat) (l : List Bl) (hl : l.length = n) (hrow : Bls l) (hap : Apart l) (hn : n ≤ 1048576) (w : World) (hR : Rd w w.heap.size 18 A n (bcs l)) :
    Calls Tryd.prog 40 #[.slice A n c] w (GivesMap l w) := by
  have HR := Lib.hid hR
  have HROW := Lib.hid hrow
  clear hR hrow
  have hmk : ∀ W : World, (Instr.makeMap 68 none).run Tryd.prog W = .ok (.map (some W.heap.size)) (W.alloc (.map #[] 0)) := fun _ => rfl
  have h0 : (w.alloc (.map #[] 0)).heap[w.heap.size]? = some (.map (ents (l.take 0) 0).toArray 0) := heap_alloc_new w (.map #[] 0)
  have H0 := Lib.hid h0
  have HAP := Lib.hid hap
  clear h0 hap
  go_enter Tryd.func40, Tryd.ntmps40
  go_wp2
  go_loopw [9] (fun i wr => ∃ k : Nat, k ≤ n ∧ i = .int .i64 k ∧ wr.heap[w.heap.size]? = some (.map (ents (l.take k) 0).toArray k) ∧ w.heap.size < wr.heap.size ∧ Below w.heap.size w wr) (fun i _ => n - (intOf i).toNat)
  case atStart => exact ⟨0, by omega, rfl, H0.out, by simp, (Below.refl _ _).alloc (Nat.le_refl _) _⟩
  case round =>
    clear H0 hmk
    obtain ⟨k, hk, rfl, hg, hgz, hb⟩ := hrel
    by_cases hlt : k < n
    · have hkl : k < l.length := by omega
      have hz := hb.size
      have hRw := HR.out.below hb (Nat.le_refl _)
      obtain ⟨b, o, rfl, hbB, hc⟩ := hRw.at_ (by omega)
      have hrg := hRw.block HROW.out (by omega) hkl
      obtain ⟨hb1, hb2⟩ := HROW.out.at_ hkl
      have htk : l.take (k + 1) = l.take k ++ [l[k]] := List.take_succ_eq_append_getElem hkl
      have hno : ∀ c ∈ l.take k, l[k].1 ≠ c.1 := fun c hc e => by
        obtain ⟨i, hi, rfl⟩ := List.getElem_of_mem hc
        rw [List.length_take] at hi
        rw [List.getElem_take] at e
        exact List.pairwise_iff_getElem.1 HAP.out i k (by omega) hkl (by omega) e.symm
      have hlen : (l.take k).length = k := by rw [List.length_take]; omega
      have hBt : Bls (l.take k) := HROW.out.take k
      obtain ⟨F, hF⟩ : ∃ F, F = l[k] := ⟨_, rfl⟩
      rw [← hF] at hrg hb1 hb2 htk hno
      have h2 := two_eq hb1
      obtain ⟨X, hX⟩ : ∃ X, X = F.1.getD 0 0 := ⟨_, rfl⟩
      obtain ⟨Y, hY⟩ : ∃ Y, Y = F.1.getD 1 0 := ⟨_, rfl⟩
      rw [← hX, ← hY] at h2
      have hput := fun W h => run_putMask w.heap.size (l.take k) hBt X Y F.2 k W h hlen.symm (fun b hb => by rw [← h2]; exact hno b hb)
      have hFe : F = ([X, Y], F.2) := by rw [← h2]
      rw [← hFe, ← htk] at hput
      have HRG := Lib.hid hrg
      have HF1 := Lib.hid (And.intro hb1 hb2)
      have hlt' : (k : Int) < n := by omega
      have HP := Lib.hid hput
      have HB := Lib.hid hb
      have HG := Lib.hid hg
      have H2 := Lib.hid h2
      clear hc hbB hrg hb1 hb2 h2 hb hRw htk hno hlen hBt hF hput hFe hX hY hg
      go_wp2_with (first
        | refine wpList_load_mid rfl _ _ rfl b (o + k * 18) (by rfl) (bvs F) _ HRG.out Tryd.underlying95 rfl (by rw [bvs_length HF1.out]; exact size95) ?_
        | (refine wpList_store_row rfl _ _ _ rfl wr.heap.size (bav F) rfl rfl 95 (bav (zr2, zr16)) (Blk.newAt rfl rfl) (by rw [bav_size HF1.out]; exact size95) (by rw [bav_size HF1.out, bav_size ⟨rfl, rfl⟩]) (bav_one F) ?_; generalize hw5 : World.setRow _ _ _ = w5; have G0 : Hid (Blk w5 wr.heap.size 95 (bav F)) := Lib.hid (by rw [← hw5]; exact (Blk.newAt rfl rfl).row _); have B5 : Hid (Below w.heap.size w w5) := Lib.hid (by rw [← hw5]; exact below_setRow (HB.out.alloc hz _) (g := wr.heap.size) hz _); have B5r : Hid (Below wr.heap.size wr w5) := Lib.hid (by rw [← hw5]; exact below_setRow ((Below.refl _ _).alloc (Nat.le_refl _) _) (g := wr.heap.size) (Nat.le_refl _) _); have HG5 : Hid (w5.heap[w.heap.size]? = some (.map (ents (l.take k) 0).toArray k)) := Lib.hid ((B5r.out.block _ hgz).trans HG.out); have hmu := HP.out w5 HG5.out; have RA : Hid (w5.rangeAt wr.heap.size 0 (F.1.map (.int .i32))) := Lib.hid (G0.out.rangeV (bav_at1 HF1.out)); have RM : Hid (w5.rangeAt wr.heap.size 2 (F.2.map (.int .u16))) := Lib.hid (G0.out.rangeV (bav_at2 HF1.out)); have z5 := B5r.out.size; clear hw5)
        | refine wpList_load_mid rfl _ _ rfl wr.heap.size 0 (by rfl) [.int .i32 X, .int .i32 Y] _ (by have h := RA.out; rw [H2.out] at h; exact h) Tryd.underlying63 rfl size63 ?_
        | refine wpList_load_ivs rfl _ _ rfl wr.heap.size 2 rfl .u16 F.2 _ RM.out Tryd.underlying44 rfl (by rw [HF1.out.2]; exact size44) ?_)
      exact ⟨⟨k + 1, by omega, by go_num, setBlock_at _ _ _ (by omega), by simp [ChangeMaps.setBlock]; omega, below_setBlock B5.out (Nat.le_refl _) _⟩, by simp [intOf]; omega⟩
    · obtain rfl : k = n := by omega
      rw [List.take_of_length_le (by omega)] at hg
      have HG := Lib.hid hg
      have HB := Lib.hid hb
      clear hg hb
      go_wp2
      go_ret
      exact ⟨w.heap.size, rfl, Nat.le_refl _, hgz, by rw [hl]; exact HG.out, HB.out⟩
theorem i64_and15 (n : Int) : bits .and .i64 n 15 = n % 16 := by
  have h127 : (BitVec.ofInt 64 15).toNat = 2 ^ 4 - 1 := by decide
  have key : (BitVec.ofInt 64 n &&& BitVec.ofInt 64 15).toNat = (n % ((2 ^ 64 : Nat) : Int)).toNat % 2 ^ 4 := by
    rw [BitVec.toNat_and, BitVec.toNat_ofInt, h127, Nat.and_two_pow_sub_one_eq_mod]
  show IntKind.i64.wrap ((BitVec.ofInt 64 n &&& BitVec.ofInt 64 15).toNat : Nat) = n % 16
  rw [key, IntKind.wrap_i64]
  omega
theorem results_blockAt (tmps : Array Value) (W : World) (g : Nat) (X Y v1 v2 : Value) (h1 : tmps.getD 4 undef = .pointer (some ⟨g, 0, none⟩)) (h2 : tmps.getD 5 undef = v1) (h3 : tmps.getD 6 undef = v2) (c0 : W.cell? ⟨g, 0, none⟩ = some X) (c1 : W.cell? ⟨g, 1, none⟩ = some Y) :
    (results Tryd.f44 tmps).run Tryd.prog W = .ok (.tuple #[.agg #[X, Y], v1, v2]) W := by
  have h1' : tmps[4]?.getD undef = .pointer (some ⟨g, 0, none⟩) := by simpa using h1
  have h2' : tmps[5]?.getD undef = v1 := by simpa using h2
  have h3' : tmps[6]?.getD undef = v2 := by simpa using h3
  simp [results, Tryd.f44, go_sem, h1', h2', h3', c0, c1]
theorem blockAt_any (x y : Int) (hx : -1000002 ≤ x ∧ x ≤ 1000002) (hy : -1000002 ≤ y ∧ y ≤ 1000002) (w : World) :
    Calls Tryd.prog 44 #[.int .i64 x, .int .i64 y] w fun e w' => e = .returned (.tuple #[.agg #[.int .i32 (x / 16), .int .i32 (y / 16)], .int .i64 (x % 16), .int .i64 (y % 16)]) ∧ Below w.heap.size w w' := by
  go_enter Tryd.func44, Tryd.ntmps44
  go_wp2
  refine bodyPost_ret (results_blockAt _ _ w.heap.size _ _ _ _ rfl rfl rfl ((Blk.new w _ _).cell 0) ((Blk.new w _ _).cell 1)) rfl ⟨?_, (Below.refl _ _).alloc (Nat.le_refl _) _⟩
  simp only [i64_and15]
  rfl
/-- whether a cell is one of some blocks -/
def hasB (l : List Bl) (x y : Int) : Bool := bitB (maskAt l [x / 16, y / 16]) (x % 16).toNat (y % 16).toNat
theorem maskAt_mem {l : List Bl} (hl : Bls l) (h16 : ∀ b ∈ l, is16 b.2) (k : List Int) : (maskAt l k).length = 16 ∧ is16 (maskAt l k) := by
  rw [maskAt]
  cases h : l.find? (fun b => k == b.1) with
  | none => exact ⟨rfl, fun x hx => by
      have : x = 0 := by simpa [zr16] using hx
      omega⟩
  | some b => exact ⟨(hl b (List.mem_of_find?_eq_some h)).2, h16 b (List.mem_of_find?_eq_some h)⟩
set_option maxRecDepth 20000 in
set_option maxHeartbeats 3200000 in
theorem has_any (g : Nat) (l : List Bl) (hl : Bls l) (h16 : ∀ b ∈ l, is16 b.2) (x y : Int) (hx : -1000002 ≤ x ∧ x ≤ 1000002) (hy : -1000002 ≤ y ∧ y ≤ 1000002) (c : Nat) (w : World) (h : w.heap[g]? = some (.map (ents l 0).toArray c)) (hg : g < w.heap.size) :
    Calls Tryd.prog 43 #[.map (some g), .int .i64 x, .int .i64 y] w fun e w' => e = .returned (.bool (hasB l x y)) ∧ Below w.heap.size w w' := by
  obtain ⟨hm1, hm2⟩ := maskAt_mem hl h16 [x / 16, y / 16]
  obtain ⟨M, hM⟩ : ∃ M, M = maskAt l [x / 16, y / 16] := ⟨_, rfl⟩
  have hl' := fun W h => run_lookupMask g l hl (x / 16) (y / 16) c W h
  have hr : hasB l x y = bitB M (x % 16).toNat (y % 16).toNat := by rw [hM]; rfl
  rw [hr]
  rw [← hM] at hm1 hm2 hl'
  have HL := Lib.hid hl'
  have hb := fun W => blockAt_any x y hx hy W
  obtain ⟨v0, v1⟩ := hm2.getD (y % 16).toNat
  have hbe := bit_eq v0 v1 (x % 16).toNat
  have hbb : bitB M (x % 16).toNat (y % 16).toNat = decide (M.getD (y % 16).toNat 0 / 2 ^ (x % 16).toNat % 2 = 1) := rfl
  rw [hbb, ← hbe]
  obtain ⟨u, hu⟩ : ∃ u : Nat, (u : Int) = x % 16 := ⟨(x % 16).toNat, by omega⟩
  obtain ⟨v, hv⟩ : ∃ v : Nat, (v : Int) = y % 16 := ⟨(y % 16).toNat, by omega⟩
  rw [← hu, ← hv, Int.toNat_natCast, Int.toNat_natCast]
  rw [← hu, ← hv] at hb
  have hu1 : (u : Int) < 16 := by omega
  have hv1 : (v : Int) < 16 := by omega
  generalize x / 16 = X at *
  generalize y / 16 = Y at *
  obtain ⟨iu, hiu, -, -, -⟩ := info_parts U16_info
  have hvl : v < M.length := by omega
  have hix : ∀ W : World, (Instr.index 44 (.agg (ivs .u16 M)) (.int .i64 (v : Nat))).run Tryd.prog W = .ok (.int .u16 (M.getD v 0)) W := fun W => by
    have := run_index_ivs (l := M) (k := v) W Tryd.underlying44 Tryd.underlying42 hiu (by kernel_rfl) hm1 (by omega)
    rwa [List.getD_eq_getElem?_getD, List.getElem?_eq_getElem hvl]
  have H := Lib.hid h
  have HB := Lib.hid hb
  clear hl' hr hbb hbe hm2 hM h hb hm1 hl h16 hx hy hu hv v0 v1
  go_enter Tryd.func43, Tryd.ntmps43
  go_wp2_with (first
    | (go_at_call 44; refine (HB.out _).mono ?_; rintro e w1 ⟨rfl, b1⟩; have hlk := HL.out (w1.alloc (.cells #[.int .i32 X, .int .i32 Y] 63)) ((Below.heap_alloc w1 _ g (by have := b1.size; omega)).trans ((b1.block g hg).trans H.out)); have B1 := Lib.hid b1; clear b1))
  go_ret
  refine ⟨?_, B1.out.alloc B1.out.size _⟩
  rw [List.getD_eq_getElem?_getD, List.getElem?_eq_getElem hvl]
  rfl
end Go.Proofs.YtmagaapdijapiaaDoor
