/- A piece taken out of a table: the closure that takes one cell. -/
import Derived.Test.YtmagaapdijapiaaDoorRows
import Derived.Test.YtmagaapdijapiaaDoorEi
import Derived.Test.YtmagaapdijapiaaDoorMk
namespace Go.Proofs.YtmagaapdijapiaaDoor
open Go.ChangeShapes Go.WideShapes Go.ChangeAt Go.RowKit
/-- what the taking holds: the table, the two variables that the closure captures, the list -/
structure TP (g bm bo : Nat) (lo : List Bl) (L : List (List Int)) (W : World) : Prop where
  map : W.heap[g]? = some (.map (ents lo 0).toArray lo.length)
  box : Blk W bm 68 #[.map (some g)]
  out : ∃ q c, Blk W bo 26 #[.slice (some ⟨q, 0, none⟩) L.length c] ∧ q ≠ bo ∧ W.ownsRow (bm + 1) 35 2 (.slice (some ⟨q, 0, none⟩) L.length c) L.length (pvs L)
theorem TP.lt {g bm bo : Nat} {lo : List Bl} {L : List (List Int)} {W : World} (h : TP g bm bo lo L W) : g < W.heap.size ∧ bm < W.heap.size ∧ bo < W.heap.size := by
  obtain ⟨q, c, h1, _⟩ := h.out
  exact ⟨heap_lt h.map, h.box.lt, h1.lt⟩
theorem TP.below {g bm bo : Nat} {lo : List Bl} {L : List (List Int)} {W W' : World} (h : TP g bm bo lo L W) (hb : Below W.heap.size W W') : TP g bm bo lo L W' := by
  obtain ⟨q, c, h1, h2, h3⟩ := h.out
  exact ⟨heap_below hb h.map, h.box.below hb h.box.lt, q, c, h1.below hb h1.lt, h2, own_below h3 hb (Nat.le_refl _)⟩
/-- a world in which below block B just block g may have changed -/
structure Fr (B g : Nat) (w w' : World) : Prop where
  os : w'.os = w.os
  tape : w'.tape = w.tape
  output : w'.output = w.output
  size : w.heap.size ≤ w'.heap.size
  block : ∀ k, k < B → k ≠ g → w'.heap[k]? = w.heap[k]?
theorem Fr.of {B g : Nat} {w w' : World} (h : Below B w w') : Fr B g w w' := ⟨h.os, h.tape, h.output, h.size, fun k hk _ => h.block k hk⟩
theorem below_less {B B' : Nat} {w w' : World} (h : Below B w w') (hB : B' ≤ B) : Below B' w w' := ⟨h.os, h.tape, h.output, h.size, fun k hk => h.block k (Nat.lt_of_lt_of_le hk hB)⟩
theorem Fr.trans {B g : Nat} {w w' w'' : World} (h : Fr B g w w') (h2 : Fr B g w' w'') : Fr B g w w'' :=
  ⟨h2.os.trans h.os, h2.tape.trans h.tape, h2.output.trans h.output, Nat.le_trans h.size h2.size, fun k hk hg => (h2.block k hk hg).trans (h.block k hk hg)⟩
theorem Fr.set {B g : Nat} {w w' : World} (h : Below B w w') (o : Obj) : Fr B g w (ChangeMaps.setBlock w' g o) :=
  ⟨h.os, h.tape, h.output, by simpa [ChangeMaps.setBlock] using h.size, fun k hk hg => (setBlock_far w' g k o hg).trans (h.block k hk)⟩
theorem row_slice {W : World} {base : Nat} {e : TypeId} {size n : Nat} {v : Value} {xs : List Value} (h : W.ownsRow base e size v n xs) (hn : v = .slice none 0 0 → False) : ∃ q c, v = .slice (some ⟨q, 0, none⟩) n c := by
  rcases h.2 with ⟨h1, _⟩ | ⟨q, c, _, h1, _⟩
  · exact (hn h1).elim
  · exact ⟨q, c, h1⟩
set_option maxRecDepth 20000 in
set_option maxHeartbeats 6400000 in
theorem take_any (g bm bo : Nat) (hgm : g < bm) (hmo : bm < bo) (lo : List Bl) (L : List (List Int)) (ht : Tab lo) (hL : L.length ≤ 1048576) (x y : Int) (hx : -1000002 ≤ x ∧ x ≤ 1000002) (hy : -1000002 ≤ y ∧ y ≤ 1000002) (w : World) (h : TP g bm bo lo L w) :
    Calls Tryd.prog 76 #[.agg (ivs .i32 [x, y]), .pointer (some ⟨bm, 0, none⟩), .pointer (some ⟨bo, 0, none⟩)] w fun e w' => e = .returned (.tuple #[]) ∧ Fr bm g w w' ∧ (hasB lo x y = false → TP g bm bo lo L w') ∧ (hasB lo x y = true → TP g bm bo (strike lo x y) (L ++ [[x, y]]) w') := by
  obtain ⟨i0, hi, hz0, hz1, hzb⟩ := info_parts Pair_info
  have hlt := h.lt
  have HLT := Lib.hid hlt
  have HHAS := Lib.hid (fun W h => has_any g lo ht.bls ht.m16 x y hx hy lo.length W h (heap_lt h))
  have H := Lib.hid h
  have hx2 := hx.1
  have hx3 := hx.2
  have hy2 := hy.1
  have hy3 := hy.2
  have W1 : Hid (∀ W : World, W = (w.alloc (.cells (ivs .i32 [x, y]) 35)).drew → TP g bm bo lo L W ∧ Below w.heap.size w W ∧ Blk W w.heap.size 35 (ivs .i32 [x, y])) := Lib.hid fun W e => by
    have hb : Below w.heap.size w W := by rw [e]; exact below_drew ((Below.refl _ _).alloc (Nat.le_refl _) _)
    exact ⟨h.below hb, hb, by rw [e]; exact (Blk.new w _ _).drew⟩
  have c0 : (w.alloc (.cells (ivs .i32 [x, y]) 35)).cell? ⟨w.heap.size, 0, none⟩ = some (.int .i32 x) := (Blk.new w _ _).cellI (i := 0) (by simp)
  have c1 : (w.alloc (.cells (ivs .i32 [x, y]) 35)).cell? ⟨w.heap.size, 1, none⟩ = some (.int .i32 y) := (Blk.new w _ _).cellI (i := 1) (by simp)
  clear h hlt hx hy
  cases hxy : hasB lo x y
  · rw [hxy] at HHAS
    clear hxy
    go_enter Tryd.func76, Tryd.ntmps76
    go_wp2
    go_region
    obtain ⟨t1, b1, a1⟩ := W1.out _ rfl
    clear W1 c0 c1
    generalize (w.alloc (.cells (ivs .i32 [x, y]) 35)).drew = w1 at *
    have m1 : w1.cell? ⟨bm, 0, none⟩ = some (.map (some g)) := t1.box.cell 0
    have T1 := Lib.hid t1
    have B1 := Lib.hid b1
    clear t1 b1 a1
    go_wp2_with (go_at_call 43; refine (HHAS.out _ T1.out.map).mono ?_; rintro e w2 ⟨rfl, b2⟩; have T2 := Lib.hid (T1.out.below b2); have B2 := Lib.hid (B1.out.trans (b2.mono B1.out.size)); clear b2)
    (try simp only [Exit.inBlock, Exit.then])
    refine bodyPost_ret (results_none rfl _ _ _) rfl ?_
    exact ⟨rfl, Fr.of (below_less B2.out (by have := HLT.out; omega)), fun _ => T2.out, fun h => by cases h⟩
  · rw [hxy] at HHAS
    obtain ⟨u, hu⟩ : ∃ u : Nat, (u : Int) = x % 16 := ⟨(x % 16).toNat, by omega⟩
    obtain ⟨v, hv⟩ : ∃ v : Nat, (v : Int) = y % 16 := ⟨(y % 16).toNat, by omega⟩
    have hba := fun W => blockAt_any x y (by omega) (by omega) W
    rw [← hu, ← hv] at hba
    obtain ⟨hM1, hM2⟩ := ht.mask [x / 16, y / 16]
    have hstr : strike lo x y = putB lo [x / 16, y / 16] (setNot (maskAt lo [x / 16, y / 16]) v u) := by
      rw [strike, ← hu, ← hv]
      rfl
    rw [hstr]
    have hlkk := fun W h => run_lookupMask g lo ht.bls (x / 16) (y / 16) lo.length W h
    have hpp := fun M W h => run_putAny g lo ht.bls (x / 16) (y / 16) M W h
    have HBA := Lib.hid hba
    have HLK := Lib.hid hlkk
    have HPP := Lib.hid hpp
    have hu16 : u < 16 := by omega
    have hv16 : v < 16 := by omega
    clear hstr hba hlkk hpp ht hxy
    generalize maskAt lo [x / 16, y / 16] = M at *
    have HM1 := Lib.hid hM1
    obtain ⟨X, hX⟩ : ∃ X, X = x / 16 := ⟨_, rfl⟩
    obtain ⟨Y, hY⟩ : ∃ Y, Y = y / 16 := ⟨_, rfl⟩
    rw [← hX, ← hY] at HBA HLK HPP ⊢
    clear hM1 hM2 hX hY hu hv
    go_enter Tryd.func76, Tryd.ntmps76
    go_wp2
    go_region
    obtain ⟨t1, b1, a1⟩ := W1.out _ rfl
    clear W1 c0 c1
    generalize (w.alloc (.cells (ivs .i32 [x, y]) 35)).drew = w1 at *
    have m1 : w1.cell? ⟨bm, 0, none⟩ = some (.map (some g)) := t1.box.cell 0
    have T1 := Lib.hid t1
    have B1 := Lib.hid b1
    have A1 := Lib.hid a1
    clear t1 b1 a1
    go_wp2_with (first
      | (go_at_call 43; refine (HHAS.out _ T1.out.map).mono ?_; rintro e w2 ⟨rfl, b2⟩; have T2 := Lib.hid (T1.out.below b2); have A2 := Lib.hid (A1.out.below b2 A1.out.lt); have B2 := Lib.hid (B1.out.trans (b2.mono B1.out.size)); clear b2)
      | (go_at_call 44; refine (HBA.out _).mono ?_; rintro e w6 ⟨rfl, b6⟩; have T6 := Lib.hid (T2.out.below b6); have A6 := Lib.hid (A2.out.below b6 A2.out.lt); have B6 := Lib.hid (B2.out.trans (b6.mono B2.out.size)); clear b6)
      | (refine wpList_store_row rfl _ _ _ rfl w6.heap.size (ivs .i32 [X, Y]) rfl rfl 63 #[.int .i32 0, .int .i32 0] (Blk.newAt rfl rfl) (by exact size63) rfl ivs_one ?_; generalize hw7 : World.setRow _ _ _ = w7; have G7 : Hid (Blk w7 w6.heap.size 63 (ivs .i32 [X, Y])) := Lib.hid (by rw [← hw7]; exact (Blk.newAt rfl rfl).row _); have b7 : Below w6.heap.size w6 w7 := (by rw [← hw7]; exact below_setRow ((Below.refl _ _).alloc (Nat.le_refl _) _) (g := w6.heap.size) (Nat.le_refl _) _); have T7 := Lib.hid (T6.out.below b7); have m7 : w7.cell? ⟨bm, 0, none⟩ = some (.map (some g)) := T7.out.box.cell 0; have A7 := Lib.hid (A6.out.below b7 A6.out.lt); have B7 := Lib.hid (B6.out.trans (b7.mono B6.out.size)); have hlk : (Instr.lookup 68 (.map (some g)) (.agg (ivs .i32 [X, Y])) false).run Tryd.prog w7 = .ok (.agg (ivs .u16 M)) w7 := HLK.out w7 T7.out.map; clear hw7 b7)
      | refine wpList_load_row rfl _ _ rfl w6.heap.size rfl 63 (ivs .i32 [X, Y]) (0, 0) _ G7.out Tryd.underlying63 rfl (by exact size63) ?_
      | (refine wpList_store_row rfl _ _ _ rfl w7.heap.size (ivs .u16 M) rfl rfl 44 (ivs .u16 zr16) (Blk.newAt rfl rfl) (by rw [ivs_size, HM1.out]; exact size44) (by rw [ivs_size, ivs_size, HM1.out]; rfl) ivs_one ?_; generalize hw8 : World.setRow _ _ _ = w8; have G8m : Hid (Blk w8 w7.heap.size 44 (ivs .u16 M)) := Lib.hid (by rw [← hw8]; exact (Blk.newAt rfl rfl).row _); have b8 : Below w7.heap.size w7 w8 := (by rw [← hw8]; exact below_setRow ((Below.refl _ _).alloc (Nat.le_refl _) _) (g := w7.heap.size) (Nat.le_refl _) _); have B8 : Hid (True ∧ Below w7.heap.size w7 w8) := Lib.hid ⟨trivial, b8⟩; clear hw8 b8))
    have c8 := G8m.out.getAtG (i := v) (by rw [HM1.out]; exact hv16)
    have f8 := G8m.out.frozen v
    have hvI : (v : Int) < 16 := by omega
    have hv0 : (0 : Int) ≤ v := by omega
    have huI : (u : Int) < 16 := by omega
    have hu0 : (0 : Int) ≤ u := by omega
    obtain ⟨m8, hm8⟩ : ∃ m8, m8 = M.getD v 0 := ⟨_, rfl⟩
    rw [← hm8] at c8
    have hp16 := pow_16 hu16
    have hwp : IntKind.u16.wrap (2 ^ u) = 2 ^ u := by rw [IntKind.wrap_u16]; omega
    have hso : setNot M v u = M.set v (notF m8 (2 ^ u)) := by rw [setNot, hm8]
    have W9 : Hid (∀ W : World, W = (w8.setCell ⟨w7.heap.size, v, none⟩ (.int .u16 (notF m8 (2 ^ u)))).drew → Below w7.heap.size w7 W ∧ Blk W w7.heap.size 44 (ivs .u16 (setNot M v u))) := Lib.hid fun W e => by
      rw [e]
      refine ⟨below_drew (B8.out.2.setCell (p := ⟨w7.heap.size, v, none⟩) (Nat.le_refl _) _), ?_⟩
      rw [hso]
      exact (G8m.out.setI v _).drew
    have HSL : Hid ((setNot M v u).length = 16) := Lib.hid (setNot_length HM1.out v u)
    have HPP2 := Lib.hid (fun W h => HPP.out (setNot M v u) W h)
    clear hm8 hso hp16 HPP
    obtain ⟨S, hS⟩ : ∃ S, S = setNot M v u := ⟨_, rfl⟩
    rw [← hS] at HSL HPP2 W9
    have HS := Lib.hid hS
    clear hS
    go_region
    have hob : notF m8 (2 ^ u) = bits .andNot .u16 m8 (2 ^ u) := rfl
    rw [← hob]
    obtain ⟨b9, G9m⟩ := W9.out _ rfl
    clear W9 c8 f8
    generalize (w8.setCell ⟨w7.heap.size, v, none⟩ (.int .u16 (notF m8 (2 ^ u)))).drew = w9 at *
    have T9 := Lib.hid (T7.out.below b9)
    have A9 := Lib.hid (A7.out.below b9 A7.out.lt)
    have B9 := Lib.hid (B7.out.trans (b9.mono B7.out.size))
    have G9 := Lib.hid (G7.out.below b9 G7.out.lt)
    have H9m := Lib.hid G9m
    have m9 : w9.cell? ⟨bm, 0, none⟩ = some (.map (some g)) := T9.out.box.cell 0
    have hmu : (Instr.mapUpdate 68 (.map (some g)) (.agg (ivs .i32 [X, Y])) (.agg (ivs .u16 S))).run Tryd.prog w9 = .ok () (ChangeMaps.setBlock w9 g (.map (ents (putB lo [X, Y] S) 0).toArray (putB lo [X, Y] S).length)) := HPP2.out w9 T9.out.map
    obtain ⟨q, c, k1, k2, k3⟩ := T9.out.out
    obtain ⟨w10, hw10⟩ : ∃ w10, w10 = ChangeMaps.setBlock w9 g (.map (ents (putB lo [X, Y] S) 0).toArray (putB lo [X, Y] S).length) := ⟨_, rfl⟩
    rw [← hw10] at hmu
    have hlt9 := T9.out.lt
    have hz9 := B9.out.size
    have hlw := HLT.out
    have hfar : ∀ k, k ≠ g → w10.heap[k]? = w9.heap[k]? := fun k hk => by rw [hw10]; exact setBlock_far _ _ _ _ hk
    have kq : bm + 1 ≤ q := by
      rcases k3.2 with ⟨h, _⟩ | ⟨q', _, _, h, h2, _⟩
      · cases h
      · cases h; exact h2
    have F10 : Hid (Fr w.heap.size g w w10 ∧ w10.heap[g]? = some (.map (ents (putB lo [X, Y] S) 0).toArray (putB lo [X, Y] S).length) ∧ Blk w10 bm 68 #[.map (some g)] ∧ Blk w10 bo 26 #[.slice (some ⟨q, 0, none⟩) L.length c] ∧ w10.ownsRow (bm + 1) 35 2 (.slice (some ⟨q, 0, none⟩) L.length c) L.length (pvs L) ∧ Blk w10 w.heap.size 35 (ivs .i32 [x, y]) ∧ w10.heap.size = w9.heap.size) := Lib.hid ⟨by rw [hw10]; exact Fr.set B9.out _, by rw [hw10]; exact setBlock_at _ _ _ hlt9.1, (hfar bm (by omega)).trans T9.out.box, (hfar bo (by omega)).trans k1, ⟨k3.1, by
      rcases k3.2 with ⟨h, _⟩ | ⟨q', cp, cur, h, h2, h3, h4⟩
      · cases h
      · exact .inr ⟨q', cp, cur, h, h2, (hfar q' (by omega)).trans h3, h4⟩⟩, (hfar w.heap.size (by omega)).trans A9.out, by rw [hw10]; simp [ChangeMaps.setBlock]⟩
    have n10 : w10.cell? ⟨bo, 0, none⟩ = some (.slice (some ⟨q, 0, none⟩) L.length c) := F10.out.2.2.2.1.cell 0
    have HKQ : Hid (bm + 1 ≤ q ∧ q ≠ bo) := Lib.hid ⟨kq, k2⟩
    clear hw10 hfar k1 k2 k3 kq hlt9 hz9 hlw G9m b9
    go_wp2_with (first
      | refine wpList_load_row rfl _ _ rfl w6.heap.size rfl 63 (ivs .i32 [X, Y]) (0, 0) _ G9.out Tryd.underlying63 rfl (by exact size63) ?_
      | refine wpList_load_row rfl _ _ rfl w7.heap.size rfl 44 (ivs .u16 S) (0, 0) _ H9m.out Tryd.underlying44 rfl (by rw [ivs_size, HSL.out]; exact size44) ?_
      | refine wpList_load_row rfl _ _ rfl w.heap.size rfl 35 #[.int .i32 x, .int .i32 y] (0, 0) _ F10.out.2.2.2.2.2.1 Tryd.underlying35 rfl (by exact size35) ?_
      | (at_builtin; refine wpList_append_own _ rfl _ _ 26 rfl (bm + 1) 35 i0 _ 2 8 Tryd.underlying26 hi hz0 hz1 hzb rfl (by decide) (.slice (some ⟨q, 0, none⟩) L.length c) L.length _ rfl (F10.out.2.2.2.2.1.alloc _) ⟨w10.heap.size, 0, none⟩ 1 1 (pvs [[x, y]]) rfl rfl (pair_news w10 x y) pvs_one (by unfold maxLen; omega) (by omega) (by have := HLT.out; have := F10.out.1.size; rw [size_alloc]; omega) ?_; intro v' w11 hown' hgrow hnil; obtain ⟨q', c', rfl⟩ := row_slice hown' (fun e => by have := (hnil.1 e).2; omega); rw [← pvs_append] at hown'; have HOWN := Lib.hid hown'; have HGR := Lib.hid hgrow; have HNIL := Lib.hid hnil; have k11 : Blk w11 bo 26 #[.slice (some ⟨q, 0, none⟩) L.length c] := ((F10.out.2.2.2.1.alloc _).grown hgrow (fun e => by injection e with e; exact HKQ.out.2 e.symm)); have K11 := Lib.hid k11; have n11 : w11.cell? ⟨bo, 0, none⟩ = some (.slice (some ⟨q, 0, none⟩) L.length c) := k11.cell 0; have f11 := k11.frozen 0; clear hown' hgrow hnil k11))
    go_end0
    rw [← HS.out]
    have hk := HKQ.out
    have hF := F10.out
    have hl := HLT.out
    have hz := hF.1.size
    have hg11 := HGR.out
    have hbl : ∀ k, k < w10.heap.size → k ≠ q → w11.heap[k]? = w10.heap[k]? := fun k h1 h2 => by
      refine (hg11.block k (by rw [size_alloc]; omega) (fun e => by injection e with e; exact h2 e)).trans (Below.heap_alloc w10 _ k h1)
    have hz11 : w10.heap.size + 1 ≤ w11.heap.size := by have := hg11.size; rwa [size_alloc] at this
    have hq' : q' ≠ bo := by
      intro e
      subst e
      rcases HOWN.out.2 with ⟨h, _⟩ | ⟨q2, _, cur, h, _, h3, _⟩
      · cases h
      · cases h
        have h4 := K11.out
        unfold Blk at h4
        rw [h3] at h4
        injection h4 with h4
        injection h4 with _ h4
        cases h4
    have hsc : ∀ k, k ≠ bo → (w11.setCell ⟨bo, 0, none⟩ (.slice (some ⟨q', 0, none⟩) (L.length + 1) c')).heap[k]? = w11.heap[k]? := fun k hk => Below.heap_setCell w11 ⟨bo, 0, none⟩ _ k hk
    have hln : (L ++ [[x, y]]).length = L.length + 1 := by rw [List.length_append]; rfl
    refine ⟨rfl, ⟨hg11.os.trans hF.1.os, hg11.tape.trans hF.1.tape, hg11.output.trans hF.1.output, ?_, fun k h1 h2 => ?_⟩, (fun h => by cases h), fun _ => ⟨?_, ?_, q', c', ?_, hq', ?_⟩⟩
    · rw [World.size_setCell]
      omega
    · rw [hsc k (by omega), hbl k (by omega) (by omega)]
      exact hF.1.block k (by omega) h2
    · rw [hsc g (by omega), hbl g (by omega) (by omega)]
      exact hF.2.1
    · exact (hsc bm (by omega)).trans ((hbl bm (by omega) (by omega)).trans hF.2.2.1)
    · rw [hln]
      exact K11.out.set_ 0 _
    · rw [hln]
      have ho := HOWN.out
      refine ⟨ho.1, ?_⟩
      rcases ho.2 with ⟨h, _⟩ | ⟨q2, cp, cur, h, h2, h3, h4⟩
      · cases h
      · cases h
        exact .inr ⟨_, _, cur, rfl, h2, (hsc _ hq').trans h3, h4⟩
end Go.Proofs.YtmagaapdijapiaaDoor
