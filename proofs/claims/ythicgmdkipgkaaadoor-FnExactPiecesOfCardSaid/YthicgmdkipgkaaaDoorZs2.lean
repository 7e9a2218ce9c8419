/- Lq, Sj0, Pf, Pg in one text. -/
import Derived.Test.YthicgmdkipgkaaaDoorRows
import Derived.Test.YthicgmdkipgkaaaDoorZs1
import Derived.Test.YthicgmdkipgkaaaDoorPu
import Derived.Test.YthicgmdkipgkaaaDoorAd
import Derived.Test.YthicgmdkipgkaaaDoorCo
import Derived.Test.YthicgmdkipgkaaaDoorPw
namespace Go.Proofs.YthicgmdkipgkaaaDoor
open Go.ChangeShapes Go.WideShapes Go.ChangeAt Go.RowKit
theorem spot_has {x y : Int} {P : List Bl} (h : SpotTo [[x, y]] 1 P) (U V : Int) : hasB P U V = decide ([U, V] ∈ [[x, y]]) := by
  have h0 : toldM (([[x, y]] : List (List Int)).take 0) = fun _ => zr16 := rfl
  rw [hasB, h.2.2, toldM_succ [[x, y]] (by simp : 0 < 1), h0]
  show bitB (if [U / 16, V / 16] = [x / 16, y / 16] then putC zr16 [x, y] else zr16) (U % 16).toNat (V % 16).toNat = _
  by_cases e : [U / 16, V / 16] = [x / 16, y / 16]
  · have e2 := pair_eq.1 e
    rw [if_pos e]
    show bitB (setOr zr16 (y % 16).toNat (x % 16).toNat) (U % 16).toNat (V % 16).toNat = _
    rw [setOr_bit rfl zr16_16 (a := (x % 16).toNat) (b := (y % 16).toNat) (by omega) (by omega), zr16_bit, Bool.false_or, Bool.eq_iff_iff, Bool.and_eq_true, decide_eq_true_iff, decide_eq_true_iff, decide_eq_true_iff, List.mem_singleton, pair_eq]
    omega
  · rw [if_neg e, zr16_bit]
    have : ¬ [U, V] ∈ [[x, y]] := fun h => e (by rw [List.mem_singleton, pair_eq] at h; rw [h.1, h.2])
    simp [this]
structure PS (l : List Bl) (cn : Bool) (x y : Int) (L : List (List Int)) (i : Nat) (done : Int → Int → Prop) (P : List Bl) : Prop where
  part : Part (hasB l) cn x y L i done
  pic : Pic P
  few : P.length ≤ L.length
  has : ∀ U V, hasB P U V = decide ([U, V] ∈ L)
section
variable {l P P' : List Bl} {cn : Bool} {x y : Int} {L : List (List Int)} {i : Nat} {done done' : Int → Int → Prop}
theorem PS.weak (h : PS l cn x y L i done P) (hd : ∀ a b, done' a b → adjB cn a b = true → done a b) : PS l cn x y L i done' P := ⟨h.part.weak hd, h.pic, h.few, h.has⟩
theorem PS.next (h : PS l cn x y L i done P) (hd : ∀ a b, adjB cn a b = true → done a b) : PS l cn x y L (i + 1) (fun _ _ => False) P := ⟨h.part.next hd, h.pic, h.few, h.has⟩
/-- not beside, or not there, or taken already -/
theorem PS.same (h : PS l cn x y L i done P) (hi : i < L.length) {du dv : Int} (hn : (adjB cn du dv && (hasB l ((L[i]).getD 0 0 + du) ((L[i]).getD 1 0 + dv) && !hasB P ((L[i]).getD 0 0 + du) ((L[i]).getD 1 0 + dv))) = false) : PS l cn x y L i (fun a b => done a b ∨ (a = du ∧ b = dv)) P :=
  ⟨h.part.same fun _ ha hh => by
    rw [ha, hh, Bool.true_and, Bool.true_and, Bool.not_eq_false', h.has, decide_eq_true_iff] at hn
    exact hn, h.pic, h.few, h.has⟩
theorem PS.add (h : PS l cn x y L i done P) (hi : i < L.length) {du dv : Int} (hn : (adjB cn du dv && (hasB l ((L[i]).getD 0 0 + du) ((L[i]).getD 1 0 + dv) && !hasB P ((L[i]).getD 0 0 + du) ((L[i]).getD 1 0 + dv))) = true)
    (h2 : Pic P' ∧ P'.length ≤ P.length + 1 ∧ ∀ U V, hasB P' U V = (hasB P U V || (decide (U = (L[i]).getD 0 0 + du) && decide (V = (L[i]).getD 1 0 + dv)))) : PS l cn x y (L ++ [[(L[i]).getD 0 0 + du, (L[i]).getD 1 0 + dv]]) i (fun a b => done a b ∨ (a = du ∧ b = dv)) P' := by
  rw [Bool.and_eq_true, Bool.and_eq_true, Bool.not_eq_true', h.has, decide_eq_false_iff_not] at hn
  refine ⟨h.part.add hi hn.1 hn.2.1 hn.2.2, h2.1, ?_, fun U V => ?_⟩
  · have := h2.2.1
    have := h.few
    rw [List.length_append, List.length_singleton]
    omega
  · rw [h2.2.2, h.has, Bool.eq_iff_iff, Bool.or_eq_true, decide_eq_true_iff, decide_eq_true_iff, Bool.and_eq_true, decide_eq_true_iff, decide_eq_true_iff, List.mem_append, List.mem_singleton, pair_eq]
end
/-- the beginning -/
theorem ps_one {l P : List Bl} {cn : Bool} {x y : Int} (h : hasB l x y = true) (hP : SpotTo [[x, y]] 1 P) : PS l cn x y [[x, y]] 0 (fun _ _ => False) P :=
  ⟨Part.one h, hP.1, hP.2.1, spot_has hP⟩
/-- the cells beside, row by row -/
def sqTo (dy dx : Int) (a b : Int) : Prop := (-1 ≤ a ∧ a ≤ 1 ∧ -1 ≤ b ∧ b ≤ 1) ∧ (b < dy ∨ (b = dy ∧ a < dx))
theorem sqTo_succ (dy dx a b : Int) (h : sqTo dy (dx + 1) a b) : sqTo dy dx a b ∨ (a = dx ∧ b = dy) := by
  unfold sqTo at *
  omega
theorem sqTo_line (dy a b : Int) (h : sqTo (dy + 1) (-1) a b) : sqTo dy 2 a b := by
  unfold sqTo at *
  omega
theorem sqTo_all {cn : Bool} (a b : Int) (h : adjB cn a b = true) : sqTo 2 (-1) a b := by
  have := adj_in h
  unfold sqTo
  omega
theorem sqTo_none (a b : Int) : ¬ sqTo (-1) (-1) a b := by
  unfold sqTo
  omega
end Go.Proofs.YthicgmdkipgkaaaDoor
namespace Go.Proofs.YthicgmdkipgkaaaDoor
open Go.ChangeShapes Go.WideShapes Go.ChangeAt Go.RowKit
/-- the corner and the mask of a block of a list, whole, wherever the world has gone -/
theorem rd_rows {w W : World} {b o n : Nat} {l : List Bl} (h : Rd w w.heap.size 18 (some ⟨b, o, none⟩) n (bcs l)) (hl : Bls l) (hn : l.length = n) {k : Nat} (hk : k < l.length) (hb : Below w.heap.size w W) {X Y : Int} {M : List Int} (he : l[k] = ([X, Y], M)) (hM : M.length = 16) :
    (rowAt W b (o + k * 18) 2 = #[.int .i32 X, .int .i32 Y] ∧ hasRow W b (o + k * 18) 2 = true) ∧ (rowAt W b (o + k * 18 + 2) 16 = ivs .u16 M ∧ hasRow W b (o + k * 18 + 2) 16 = true) := by
  have hr := (h.below hb (Nat.le_refl _)).block hl (by omega) hk
  have h3 := (rd_corner (h.below hb (Nat.le_refl _)) hl hn hk).2.2
  rw [he] at hr h3
  have r2 : W.rangeAt b (o + k * 18) [.int .i32 X, .int .i32 Y] := fun q v hq => hr q v (by
    rw [bvs, List.getElem?_append_left (by exact (List.getElem?_eq_some_iff.1 hq).1)]
    exact hq)
  refine ⟨rowAt_vals r2, ?_⟩
  have := rowAt_vals h3
  rwa [List.length_map, hM] at this
end Go.Proofs.YthicgmdkipgkaaaDoor
namespace Go.Proofs.YthicgmdkipgkaaaDoor
open Go.ChangeShapes Go.WideShapes Go.ChangeAt Go.RowKit
/-- what is told of some cells -/
noncomputable def pofL (cs : List (List Int)) : List Bl := if 1024 < cs.length then [] else if okCells cs then picR (picOf (toldM cs)) else []
noncomputable def pofK (cs : List (List Int)) : Int := if 1024 < cs.length then 3 else if okCells cs then picK (picOf (toldM cs)) else 2
def okC (f : List Int) : Bool := cellB (f.getD 0 0) (f.getD 1 0)
theorem okCells_no {cs : List (List Int)} {k : Nat} (hk : k < cs.length) (h : okC cs[k] = false) : okCells cs = false := by
  rw [okCells, List.all_eq_false]
  exact ⟨cs[k], List.getElem_mem hk, by rw [show cellB ((cs[k]).getD 0 0) ((cs[k]).getD 1 0) = okC cs[k] from rfl, h]; decide⟩
theorem okCells_all {cs : List (List Int)} (h : ∀ f ∈ cs, okC f = true) : okCells cs = true := by
  rw [okCells, List.all_eq_true]
  exact h
theorem toldT_succ {cs : List (List Int)} {lo : List Bl} {k : Nat} (hk : k < cs.length) (hm : ∀ key, maskAt lo key = toldM (cs.take k) key) {M : List Int} (hM : M = putC (maskAt lo (cornerL cs[k])) cs[k]) (key : List Int) : maskAt (putB lo (cornerL cs[k]) M) key = toldM (cs.take (k + 1)) key := by
  rw [putB_mask, toldM_succ cs hk, hm]
  by_cases e : key = cornerL cs[k]
  · rw [if_pos e, if_pos e, hM, hm, e]
  · rw [if_neg e, if_neg e]
theorem pvs_row {l : List (List Int)} (h : Rows_ 2 l) {k : Nat} (hk : k < l.length) {w : World} {B b o n : Nat} (hR : Rd w B 2 (some ⟨b, o, none⟩) n (pvs l)) (hn : n = l.length) : w.rangeAt b (o + k * 2) ((l[k]).map (.int .i32)) := by
  obtain ⟨b', o', he, hb, hc⟩ := hR.at_ (by omega)
  cases he
  have h2 := Rd.rangeAt (i := k * 2) (s := 2) hc
  rw [pvs, ← List.map_drop, ← List.map_take, flat_row h hk] at h2
  exact h2
end Go.Proofs.YthicgmdkipgkaaaDoor
namespace Go.Proofs.YthicgmdkipgkaaaDoor
open Go.ChangeShapes Go.WideShapes Go.ChangeAt Go.RowKit
theorem okC_in {x y : Int} (h : okC [x, y] = true) : (-1000000 ≤ x ∧ x ≤ 1000000) ∧ (-1000000 ≤ y ∧ y ≤ 1000000) := cellB_in h
section
attribute [local go_sem ↓] exec_ldCorner exec_ldMask
attribute [local go_sem] run_ldCorner run_ldMask
set_option maxRecDepth 20000 in
set_option maxHeartbeats 6400000 in
theorem l07Picture_any (A : Option Addr) (n c : Nat) (l : List (List Int)) (hl : l.length = n) (hrow : Rows_ 2 l) (hok : ∀ f ∈ l, okC f = true) (hn : n ≤ 1024) (w : World) (hR : Rd w w.heap.size 2 A n (pvs l)) :
    Calls Tryd.prog 60 #[.slice A n c] w fun e w' => ∃ A' c' L, e = .returned (.slice A' L.length c') ∧ SpotTo l n L ∧ Own w' w.heap.size w'.heap.size 50 18 A' L.length c' (bcs L) ∧ Below w.heap.size w w' := by
  have h0 : (w.alloc (.cells #[] 50)).ownsRow w.heap.size 50 18 (.slice (some ⟨w.heap.size, 0, none⟩) 0 0) 0 (bcs []) := World.ownsRow_lit (e := 50) (base := w.heap.size) (size := 18) w #[] 0 (Nat.le_refl _) (by unfold maxLen; omega) rfl
  have HR := Lib.hid hR
  have HL := Lib.hid hl
  have HROW := Lib.hid hrow
  have HOK := Lib.hid hok
  obtain ⟨A0, c0, hv0, ho0⟩ := Own.of_row h0
  cases hv0
  have H0 := Lib.hid (And.intro ho0 ((Below.refl w.heap.size w).alloc (Nat.le_refl _) (.cells #[] 50)))
  clear hR hl hrow hok h0 ho0
  go_enter Tryd.func60, Tryd.ntmps60
  go_wp2
  go_loopw [3, 4] (fun s i wr => ∃ k : Nat, k ≤ n ∧ i = .int .i64 k ∧ ∃ L, Hid (SpotTo l k L) ∧ ∃ A' c', s = .slice A' L.length c' ∧ Hid (Own wr w.heap.size wr.heap.size 50 18 A' L.length c' (bcs L)) ∧ Hid (Below w.heap.size w wr)) (fun _ i _ => n - (intOf i).toNat)
  case atStart => exact ⟨0, by omega, rfl, [], Lib.hid (spotTo_zero l), _, _, rfl, Lib.hid H0.out.1, Lib.hid H0.out.2⟩
  case round =>
    clear H0
    obtain ⟨k, hk, rfl, L, HS, A', c', rfl, HOW, HB⟩ := hrel
    by_cases hlt : k < n
    · have hkl : k < l.length := by have := HL.out; omega
      have hkI : (k : Int) < n := by omega
      have hk0 : (0 : Int) ≤ k := by omega
      obtain ⟨b, o, rfl, hbB, _⟩ := HR.out.at_ (by omega)
      have hrg := pvs_row HROW.out hkl (HR.out.below HB.out (Nat.le_refl _)) HL.out.symm
      have h2 := HROW.out.at_ hkl
      have hokk := HOK.out _ (List.getElem_mem hkl)
      have hss := fun L' => spotTo_succ (out' := L') hkl HS.out
      have hLn : L.length ≤ 1048576 := by have := HS.out.2.1; omega
      obtain ⟨F, hF⟩ : ∃ F, F = l[k] := ⟨_, rfl⟩
      rw [← hF] at hrg h2 hokk hss
      obtain ⟨x, y, rfl⟩ : ∃ x y, F = [x, y] := ⟨_, _, two_of h2⟩
      obtain ⟨⟨hx2, hx3⟩, ⟨hy2, hy3⟩⟩ := okC_in hokk
      have hrg' : wr.rangeAt b (o + k * 2) [.int .i32 x, .int .i32 y] := hrg
      have d0 : wr.cell? ⟨b, o + k * 2, none⟩ = some (.int .i32 x) := hrg' 0 _ rfl
      have d1 : wr.cell? ⟨b, o + k * 2 + 1, none⟩ = some (.int .i32 y) := hrg' 1 _ rfl
      obtain ⟨u, hu⟩ : ∃ u : Nat, (u : Int) = x % 16 := ⟨(x % 16).toNat, by omega⟩
      obtain ⟨v, hv⟩ : ∃ v : Nat, (v : Int) = y % 16 := ⟨(y % 16).toNat, by omega⟩
      have hu16 : u < 16 := by omega
      have hv16 : v < 16 := by omega
      have hlx := fun W => l07Low_any x (by omega) W
      have hly := fun W => l07Low_any y (by omega) W
      have hco := fun W => l07Corner_any x y (by omega) (by omega) W
      have hxu : x - 16 * (x / 16) = u := by omega
      have hyv : y - 16 * (y / 16) = v := by omega
      have hXr : -62501 ≤ x / 16 ∧ x / 16 ≤ 62501 := by omega
      have hYr : -62501 ≤ y / 16 ∧ y / 16 ≤ 62501 := by omega
      have hspot : (zr16.set v (2 ^ u)).length = 16 := by rw [List.length_set]; rfl
      have hss2 : ∀ L', Added L [x / 16, y / 16] (zr16.set v (2 ^ u)) L' → SpotTo l (k + 1) L' := fun L' h => hss L' (by
        rw [cornerL]
        simp only [List.getD_cons_zero, List.getD_cons_succ]
        rw [← hu, ← hv]
        exact h)
      have HADD := Lib.hid (fun W (h : w.heap.size ≤ W.heap.size) hO => l07Add_own A' L.length c' L rfl HS.out.1 hLn (x / 16) (y / 16) (zr16.set v (2 ^ u)) hspot (spot_16 hu16) w.heap.size W h hO)
      have HSS := Lib.hid hss2
      have HSP := Lib.hid hspot
      have hp16 := pow_16 hu16
      have hwp : IntKind.u16.wrap (2 ^ u) = 2 ^ u := by rw [IntKind.wrap_u16]; omega
      have HLX := Lib.hid hlx
      have HLY := Lib.hid hly
      have HCO := Lib.hid hco
      have G0 : Hid (∀ W : World, Blk (W.alloc (.cells (ivs .u16 zr16) 48)) W.heap.size 48 (ivs .u16 zr16)) := Lib.hid fun W => Blk.newAt rfl rfl
      obtain ⟨X, hX⟩ : ∃ X, X = x / 16 := ⟨_, rfl⟩
      obtain ⟨Y, hY⟩ : ∃ Y, Y = y / 16 := ⟨_, rfl⟩
      rw [← hX] at hxu hXr HLX HCO HADD HSS
      rw [← hY] at hyv hYr HLY HCO HADD HSS
      have hXa := hXr.1
      have hXb := hXr.2
      have hYa := hYr.1
      have hYb := hYr.2
      have huI : (u : Int) < 16 := by omega
      have hu0 : (0 : Int) ≤ u := by omega
      have hvI : (v : Int) < 16 := by omega
      have hv0 : (0 : Int) ≤ v := by omega
      clear hX hY hu hv hss hss2 hlx hly hco hspot hrg hrg' hF h2 hokk hXr hYr hp16
      go_wp2_with (first
        | (go_at_call_of 45 (Value.int .i64 x); refine (HLX.out _).mono ?_; rintro e w1 ⟨rfl, rfl⟩)
        | (go_at_call_of 45 (Value.int .i64 y); refine (HLY.out _).mono ?_; rintro e w1 ⟨rfl, rfl⟩)
        | (refine wpList_store_row rfl _ _ _ rfl wr.heap.size (ivs .u16 zr16) rfl rfl 48 (ivs .u16 zr16) (Blk.newAt rfl rfl) (by exact size48) rfl ivs_one ?_; generalize hw5 : World.setRow _ _ _ = w5; have G5 : Hid (Blk w5 wr.heap.size 48 (ivs .u16 zr16)) := Lib.hid (by rw [← hw5]; exact (Blk.newAt rfl rfl).row _); have B5 : Hid (Below wr.heap.size wr w5) := Lib.hid (by rw [← hw5]; exact below_setRow ((Below.refl _ _).alloc (Nat.le_refl _) _) (g := wr.heap.size) (Nat.le_refl _) _); have c5 : w5.cell? ⟨wr.heap.size, v, none⟩ = some (.int .u16 (zr16.getD v 0)) := G5.out.getAtG (i := v) (by exact hv16); have f5 := G5.out.frozen v; clear hw5))
      have g6 : Blk (w5.setCell ⟨wr.heap.size, v, none⟩ (.int .u16 (2 ^ u))) wr.heap.size 48 (ivs .u16 (zr16.set v (2 ^ u))) := G5.out.setI v _
      have b6 : Below wr.heap.size wr (w5.setCell ⟨wr.heap.size, v, none⟩ (.int .u16 (2 ^ u))) := B5.out.setCell (p := ⟨wr.heap.size, v, none⟩) (Nat.le_refl _) _
      generalize w5.setCell ⟨wr.heap.size, v, none⟩ (.int .u16 (2 ^ u)) = w6 at *
      have G6 := Lib.hid g6.drew
      have B6 := Lib.hid (below_drew b6)
      have O6 := Lib.hid ((HOW.out.below (below_drew b6) (Nat.le_refl _)).more (below_drew b6).size)
      clear g6 b6 c5 f5
      generalize zr16.set v (2 ^ u) = S at *
      have r1 := G6.out.rowAt_eq HSP.out
      have r2 := G6.out.hasRow_eq HSP.out
      go_region_law (first
        | (go_simp; go_at_call 44; refine (HCO.out _).mono ?_; rintro e w7 ⟨rfl, b7⟩; have B7 := Lib.hid (B6.out.trans (b7.mono B6.out.size)); have O7 := Lib.hid ((O6.out.below b7 (Nat.le_refl _)).more b7.size); have q1 := (G6.out.below b7 G6.out.lt).rowAt_eq HSP.out; have q2 := (G6.out.below b7 G6.out.lt).hasRow_eq HSP.out; clear b7)
        | (go_simp; go_at_call 38; refine (HADD.out _ (by have h1 := HB.out.size; have h2 := B7.out.size; omega) O7.out).mono ?_; rintro e w8 ⟨A8, c8, L8, rfl, ha8, o8, b8⟩; have HA8 := Lib.hid (HSS.out L8 ha8); have HO8 := Lib.hid o8; have HB8 := Lib.hid (HB.out.trans ((B7.out.trans (b8.mono B7.out.size)).mono HB.out.size)); clear ha8 o8 b8))
      all_goals
        go_wp2
        exact ⟨⟨k + 1, by omega, by go_num, L8, HA8, A8, c8, rfl, HO8, HB8⟩, by simp [intOf]; omega⟩
    · obtain rfl : k = n := by omega
      go_wp2
      go_ret
      exact ⟨A', c', L, rfl, HS.out, HOW.out, HB.out⟩
end
end Go.Proofs.YthicgmdkipgkaaaDoor
