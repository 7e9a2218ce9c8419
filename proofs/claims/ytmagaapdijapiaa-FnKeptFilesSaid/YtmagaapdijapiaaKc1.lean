/- Bk, Bm, Bn, Ca, Cb, Cd, Ce, Cf, Cg, Ch, Mp, Mq, Ci, Cj, Mr, Tb, Tp, Tq, Tr in one text. -/
import Derived.Test.YtmagaapdijapiaaOpen
import Derived.ChangeSame
import Derived.Test.YtmagaapdijapiaaRows
import Derived.Test.YtmagaapdijapiaaBl
import Derived.Test.YtmagaapdijapiaaLd
import Derived.Deep.RegionLaw
import Derived.Laws.BitsAllLaws
import Derived.Test.YtmagaapdijapiaaEqA
import Derived.Test.YtmagaapdijapiaaInr
import Derived.Deep.RegionWith
import Derived.StillTailTactics
import Derived.Deep.RegionHeld3
import Derived.BigQuiet
namespace Go.Proofs.Ytmagaapdijapiaa
open Go.ChangeShapes Go.WideShapes Go.ChangeAt Go.RowKit Go.Deep

/-! ### rows of values -/
section
variable {α : Type}
def RowsV (sz : Nat) (fl : List (List α)) : Prop := ∀ f ∈ fl, f.length = sz
theorem RowsV.at_ {sz : Nat} {fl : List (List α)} (h : RowsV sz fl) {i : Nat} (hi : i < fl.length) : (fl[i]).length = sz := h _ (List.getElem_mem hi)
theorem vflat_length {sz : Nat} : ∀ {fl : List (List α)}, RowsV sz fl → fl.flatten.length = fl.length * sz
  | [], _ => by simp
  | f :: fl, h => by
    rw [List.flatten_cons, List.length_append, vflat_length (fun g hg => h g (List.mem_cons_of_mem _ hg)), h f (List.mem_cons_self ..), List.length_cons, Nat.add_mul, Nat.one_mul, Nat.add_comm]
theorem vflat_drop {sz : Nat} : ∀ {fl : List (List α)} (i : Nat), RowsV sz fl → fl.flatten.drop (i * sz) = (fl.drop i).flatten
  | [], i, _ => by simp
  | f :: fl, 0, _ => by simp
  | f :: fl, i + 1, h => by
    have hf := h f (List.mem_cons_self ..)
    rw [List.flatten_cons, List.drop_succ_cons, ← vflat_drop i (fun g hg => h g (List.mem_cons_of_mem _ hg)), show (i + 1) * sz = f.length + i * sz by rw [hf, Nat.add_mul, Nat.one_mul, Nat.add_comm], List.drop_length_add_append]
theorem vflat_take {sz : Nat} : ∀ {fl : List (List α)} (i : Nat), RowsV sz fl → fl.flatten.take (i * sz) = (fl.take i).flatten
  | [], i, _ => by simp
  | f :: fl, 0, _ => by simp
  | f :: fl, i + 1, h => by
    have hf := h f (List.mem_cons_self ..)
    rw [List.flatten_cons, List.take_succ_cons, List.flatten_cons, ← vflat_take i (fun g hg => h g (List.mem_cons_of_mem _ hg)), show (i + 1) * sz = f.length + i * sz by rw [hf, Nat.add_mul, Nat.one_mul, Nat.add_comm], List.take_length_add_append]
theorem vflat_row {sz : Nat} {fl : List (List α)} {i : Nat} (h : RowsV sz fl) (hi : i < fl.length) : (fl.flatten.drop (i * sz)).take sz = fl[i] := by
  rw [vflat_drop i h, List.drop_eq_getElem_cons hi, List.flatten_cons, List.take_append_of_le_length (by rw [h _ (List.getElem_mem hi)]; exact Nat.le_refl _), List.take_of_length_le (by rw [h _ (List.getElem_mem hi)]; exact Nat.le_refl _)]
theorem vflat_get {sz : Nat} {fl : List (List α)} {i j : Nat} (h : RowsV sz fl) (hi : i < fl.length) (hj : j < sz) : fl.flatten[i * sz + j]? = (fl[i])[j]? := by
  have h1 := vflat_row h hi
  have h2 : ((fl.flatten.drop (i * sz)).take sz)[j]? = fl.flatten[i * sz + j]? := by rw [List.getElem?_take_of_lt hj, List.getElem?_drop]
  rw [← h2, h1]
end
theorem rd_of_rows {w : World} {a : Addr} {n sz : Nat} (rows : List (List Value)) (hl : rows.length = n) (hr : RowsV sz rows) (h0 : 0 < sz)
    (hc : ∀ i (hi : i < rows.length), ∀ j, j < sz → w.cell? (a.add (i * sz + j)) = (rows[i])[j]?) : Rd w w.heap.size sz (some a) n rows.flatten := by
  refine ⟨by rw [vflat_length hr, hl], fun hn => ?_⟩
  have hc0 := hc 0 (by omega) 0 h0
  rw [List.getElem?_eq_getElem (by rw [hr.at_ (by omega)]; exact h0)] at hc0
  obtain ⟨b, o, s⟩ := a
  have hs : s = none := by
    have := World.cell?_spot hc0
    simpa [Addr.add] using this
  subst hs
  refine ⟨b, o, rfl, ?_, fun j u hu => ?_⟩
  · have := World.block_lt_of_cell? w _ hc0
    simpa [Addr.add] using this
  · have hj : j < rows.flatten.length := by
      rcases Nat.lt_or_ge j rows.flatten.length with h | h
      · exact h
      · rw [List.getElem?_eq_none h] at hu; cases hu
    rw [vflat_length hr] at hj
    have hq : j / sz < rows.length := by
      rw [Nat.div_lt_iff_lt_mul h0]; exact hj
    have hm : j % sz < sz := Nat.mod_lt _ h0
    have e : j / sz * sz + j % sz = j := by rw [Nat.mul_comm]; exact Nat.div_add_mod j sz
    have h5 := vflat_get hr hq hm
    rw [e] at h5
    have h6 := hc (j / sz) hq (j % sz) hm
    rw [e, addr_add] at h6
    rw [h6, ← h5]
    exact hu

/-! ### blocks: a corner and a mask -/
abbrev Bl := List Int × List Int
def bvs (b : Bl) : List Value := b.1.map (.int .i32) ++ b.2.map (.int .u16)
def Bls (l : List Bl) : Prop := ∀ b ∈ l, b.1.length = 2 ∧ b.2.length = 16
def Wfs (l : List Bl) : Prop := ∀ b ∈ l, wfs .i32 b.1 ∧ wfs .u16 b.2
def bcs (l : List Bl) : List Value := (l.map bvs).flatten
theorem bvs_length {b : Bl} (h : b.1.length = 2 ∧ b.2.length = 16) : (bvs b).length = 18 := by rw [bvs, List.length_append, List.length_map, List.length_map, h.1, h.2]
theorem Bls.rows {l : List Bl} (h : Bls l) : RowsV 18 (l.map bvs) := fun f hf => by
  obtain ⟨b, hb, rfl⟩ := List.mem_map.1 hf
  exact bvs_length (h b hb)
theorem bcs_length {l : List Bl} (h : Bls l) : (bcs l).length = l.length * 18 := by rw [bcs, vflat_length h.rows, List.length_map]
theorem Bls.at_ {l : List Bl} (h : Bls l) {i : Nat} (hi : i < l.length) : l[i].1.length = 2 ∧ l[i].2.length = 16 := h _ (List.getElem_mem hi)
theorem bcs_row {l : List Bl} (h : Bls l) {i : Nat} (hi : i < l.length) : ((bcs l).drop (i * 18)).take 18 = bvs l[i] := by
  have := vflat_row h.rows (i := i) (by rw [List.length_map]; exact hi)
  rwa [List.getElem_map] at this
theorem bcs_get {l : List Bl} (h : Bls l) {i j : Nat} (hi : i < l.length) (hj : j < 18) : (bcs l)[i * 18 + j]? = (bvs l[i])[j]? := by
  have := vflat_get h.rows (i := i) (j := j) (by rw [List.length_map]; exact hi) hj
  rwa [List.getElem_map] at this

section
variable {H : Type} {enc : TypeId × Value → H} {P : Program} {w : World} {base : Nat} {spare : Nat → Bool} {held : Bool}
theorem trod_block {t : TypeId} {f0 f1 : Field} {e0 e1 : TypeId} {fuel : Nat} {cs : List Value} {x : DataW H × List MemPlace} (ht : P.underlying t = some (.struct #[f0, f1])) (hct : P.cellsOf t = 18)
    (hu0 : P.underlying f0.type = some (.array 2 e0)) (hk0 : P.underlying e0 = some (.int .i32)) (hc0 : P.cellsOf e0 = 1) (hcc0 : P.cellsOf f0.type = 2) (ho0 : f0.offset = 0)
    (hu1 : P.underlying f1.type = some (.array 16 e1)) (hk1 : P.underlying e1 = some (.int .u16)) (hc1 : P.cellsOf e1 = 1) (hcc1 : P.cellsOf f1.type = 16) (ho1 : f1.offset = 2)
    (h : DataW.trod enc P w base spare held fuel t cs = some x) :
    ∃ b : Bl, b.1.length = 2 ∧ b.2.length = 16 ∧ cs = bvs b ∧ wfs .i32 b.1 ∧ wfs .u16 b.2 := by
  obtain ⟨y0, y1, m, _, hl, h0, h1⟩ := trod_struct2 ht h
  rw [hct] at hl
  rw [ho0, hcc0] at h0
  rw [ho1, hcc1] at h1
  obtain ⟨L0, l0, q0, _, w0⟩ := trod_arr hu0 hk0 hc0 hcc0 h0
  obtain ⟨L1, l1, q1, _, w1⟩ := trod_arr hu1 hk1 hc1 hcc1 h1
  refine ⟨(L0, L1), l0, l1, ?_, w0, w1⟩
  rw [bvs, ← q0, ← q1, List.drop_zero, List.take_of_length_le (l := cs.drop 2) (by rw [List.length_drop]; omega), List.take_append_drop]

/-- a slice of blocks that came in -/
theorem open_blocks_rd {t e : TypeId} {f0 f1 : Field} {e0 e1 : TypeId} {A : Option Addr} {n c : Nat} {d : DataW H} {p : List MemPlace} (ht : P.underlying t = some (.slice e)) (he : P.underlying e = some (.struct #[f0, f1])) (hct : P.cellsOf e = 18)
    (hu0 : P.underlying f0.type = some (.array 2 e0)) (hk0 : P.underlying e0 = some (.int .i32)) (hc0 : P.cellsOf e0 = 1) (hcc0 : P.cellsOf f0.type = 2) (ho0 : f0.offset = 0)
    (hu1 : P.underlying f1.type = some (.array 16 e1)) (hk1 : P.underlying e1 = some (.int .u16)) (hc1 : P.cellsOf e1 = 1) (hcc1 : P.cellsOf f1.type = 16) (ho1 : f1.offset = 2)
    (h : DataW.Trod enc P w 0 (fun _ => true) true t (.slice A n c) d p) :
    ∃ l : List Bl, l.length = n ∧ Bls l ∧ n ≤ c ∧ c ≤ 9223372036854775807 ∧ Rd w w.heap.size 18 A n (bcs l) ∧ Wfs l := by
  obtain ⟨fuel, hf⟩ := h
  rcases Go.Deep.open_slice ht hf with ⟨hcs, hx⟩ | ⟨a, len, cap, m, n', D, Pl, hcs, _, hl, hm, hmm, hx, hi⟩
  · simp only [Value.cells, List.cons.injEq, Value.slice.injEq, and_true] at hcs
    obtain ⟨rfl, rfl, rfl⟩ := hcs
    exact ⟨[], rfl, (fun f hf => by cases hf), Nat.le_refl _, by omega, Rd.nil_, fun x hx => by cases hx⟩
  · simp only [Value.cells, List.cons.injEq, Value.slice.injEq, and_true] at hcs
    obtain ⟨rfl, rfl, rfl⟩ := hcs
    simp only [if_true] at hmm
    subst hmm
    have hrow : ∀ i, i < m → ∃ b : Bl, (b.1.length = 2 ∧ b.2.length = 16) ∧ (wfs .i32 b.1 ∧ wfs .u16 b.2) ∧ ∀ j, j < 18 → w.cell? (a.add (i * 18 + j)) = (bvs b)[j]? := fun i him => by
      obtain ⟨cs', hcc, htr⟩ := hi i him
      rw [hct] at hcc
      obtain ⟨_, hlen, hat⟩ := World.cells?_some hcc
      obtain ⟨b, hb1, hb2, rfl, hw1, hw2⟩ := trod_block he hct hu0 hk0 hc0 hcc0 ho0 hu1 hk1 hc1 hcc1 ho1 htr
      refine ⟨b, ⟨hb1, hb2⟩, ⟨hw1, hw2⟩, fun j hj => ?_⟩
      have := hat j (by omega)
      rw [Go.Deep.add_add] at this
      exact this
    have hall : ∀ q, q ≤ m → ∃ l : List Bl, l.length = q ∧ Bls l ∧ Wfs l ∧ ∀ i (hi : i < l.length), ∀ j, j < 18 → w.cell? (a.add (i * 18 + j)) = (bvs l[i])[j]? := by
      intro q
      induction q with
      | zero => intro _; exact ⟨[], rfl, (fun f hf => by cases hf), (fun f hf => by cases hf), fun i hi => by cases hi⟩
      | succ q ih =>
        intro hq
        obtain ⟨l, h1, h2, h3, h4⟩ := ih (by omega)
        obtain ⟨b, g1, g2, g3⟩ := hrow q (by omega)
        refine ⟨l ++ [b], by simp [h1], fun f hf => ?_, fun f hf => ?_, fun i hi j hj => ?_⟩
        · rcases List.mem_append.1 hf with h | h
          · exact h2 f h
          · rw [List.mem_singleton] at h; subst h; exact g1
        · rcases List.mem_append.1 hf with h | h
          · exact h3 f h
          · rw [List.mem_singleton] at h; subst h; exact g2
        · by_cases hiq : i < l.length
          · simp only [List.getElem_append_left hiq]
            exact h4 i hiq j hj
          · have : i = l.length := by simp at hi; omega
            subst this
            simp only [List.getElem_concat_length]
            have g4 := g3 j hj
            rw [← h1] at g4
            exact g4
    obtain ⟨l, h1, h2, h3, h4⟩ := hall n (by omega)
    refine ⟨l, h1, h2, hl, by unfold maxLen at hm; exact hm, ?_, h3⟩
    exact rd_of_rows (l.map bvs) (by rw [List.length_map, h1]) h2.rows (by decide) (fun i hi j hj => by
      rw [List.length_map] at hi
      rw [List.getElem_map]
      exact h4 i hi j hj)
end
end Go.Proofs.Ytmagaapdijapiaa
namespace Go.Proofs.Ytmagaapdijapiaa
open Go.ChangeShapes Go.WideShapes Go.ChangeAt Go.RowKit
theorem size78 : (Try.prog.info? 78).map (·.size) = some 18 := by kernel_rfl
theorem size83 : (Try.prog.info? 83).map (·.size) = some 18 := by kernel_rfl
theorem size60 : (Try.prog.info? 60).map (·.size) = some 2 := by kernel_rfl
theorem size75 : (Try.prog.info? 75).map (·.size) = some 16 := by kernel_rfl
/-- a block as a value -/
def bav (b : Bl) : Array Value := (bvs b).toArray
theorem bav_toList (b : Bl) : (bav b).toList = bvs b := rfl
theorem bav_size {b : Bl} (h : b.1.length = 2 ∧ b.2.length = 16) : (bav b).size = 18 := by rw [bav, List.size_toArray, bvs_length h]
theorem bvs_one (b : Bl) : ∀ v ∈ bvs b, v.oneCell' = true := fun v hv => by
  rcases List.mem_append.1 hv with h | h
  · obtain ⟨x, _, rfl⟩ := List.mem_map.1 h; rfl
  · obtain ⟨x, _, rfl⟩ := List.mem_map.1 h; rfl
theorem bav_one (b : Bl) : (bav b).all (·.oneCell') = true := all_oneCell_toArray (bvs_one b)
theorem Blk.setCellsV {g : Nat} {t : TypeId} : ∀ (vs : List Value) (o : Nat) {w : World} {cs : Array Value}, Blk w g t cs → o + vs.length ≤ cs.size →
    Blk (w.setCells g o vs) g t (cs.toList.take o ++ (vs ++ cs.toList.drop (o + vs.length))).toArray
  | [], o, w, cs, h, _ => by simpa [World.setCells] using h
  | x :: m, o, w, cs, h, hl => by
    have h1 := Blk.setCellsV m (o + 1) (h.set_ o x) (by simp at hl ⊢; omega)
    simp only [List.length_cons] at hl
    rw [World.setCells]
    have e : ((cs.setIfInBounds o x).toList.take (o + 1) ++ (m ++ (cs.setIfInBounds o x).toList.drop (o + 1 + m.length))) = cs.toList.take o ++ (x :: m ++ cs.toList.drop (o + (x :: m).length)) := by
      rw [Array.toList_setIfInBounds, List.take_set, List.take_succ_eq_append_getElem (by simp; omega), List.set_append_right _ _ (by simp; omega), List.drop_set_of_lt (by omega)]
      simp only [List.length_take, Array.length_toList, Nat.min_eq_left (show o ≤ cs.size by omega), Nat.sub_self, List.set_cons_zero, List.length_cons, List.append_assoc, List.cons_append, List.nil_append]
      congr 4
      omega
    rw [e] at h1
    exact h1
theorem Blk.there_ {w : World} {g : Nat} {t : TypeId} {cs : Array Value} (h : Blk w g t cs) (o m : Nat) (hm : o + m ≤ cs.size) : w.there g o m := fun i hi => by
  refine ⟨?_, h.frozen _⟩
  rw [h.cell, Array.getElem?_eq_getElem (by omega)]
  rfl
theorem Blk.rangeV {w : World} {g : Nat} {t : TypeId} {cs : Array Value} (h : Blk w g t cs) {o : Nat} {vs : List Value} (hv : ∀ j u, vs[j]? = some u → cs[o + j]? = some u) : w.rangeAt g o vs := fun j u hu => by
  rw [h.cell]
  exact hv j u hu
theorem bav_at1 {b : Bl} (_h : b.1.length = 2 ∧ b.2.length = 16) : ∀ j u, (b.1.map (Value.int .i32))[j]? = some u → (bav b)[0 + j]? = some u := fun j u hu => by
  have hj : j < (b.1.map (Value.int .i32)).length := (List.getElem?_eq_some_iff.1 hu).1
  rw [Nat.zero_add, bav, List.getElem?_toArray, bvs, List.getElem?_append_left hj]
  exact hu
theorem bav_at2 {b : Bl} (h : b.1.length = 2 ∧ b.2.length = 16) : ∀ j u, (b.2.map (Value.int .u16))[j]? = some u → (bav b)[2 + j]? = some u := fun j u hu => by
  rw [bav, List.getElem?_toArray, bvs, List.getElem?_append_right (by rw [List.length_map, h.1]; omega), List.length_map, h.1, Nat.add_sub_cancel_left]
  exact hu
def zr16 : List Int := List.replicate 16 0
def zr2 : List Int := [0, 0]
theorem put_at {b z : Bl} (hb : b.1.length = 2) (hz : z.1.length = 2) : ((bav z).toList.take 0 ++ (b.1.map (Value.int .i32) ++ (bav z).toList.drop (0 + (b.1.map (Value.int .i32)).length))).toArray = bav (b.1, z.2) := by
  rw [bav_toList, List.length_map, hb, List.take_zero, List.nil_append, bvs, List.drop_append, List.drop_of_length_le (by rw [List.length_map, hz]; omega), List.nil_append, List.length_map, hz]
  rfl
theorem put_mask {b z : Bl} (hb : b.2.length = 16) (hz1 : z.1.length = 2) (hz2 : z.2.length = 16) : ((bav z).toList.take 2 ++ (b.2.map (Value.int .u16) ++ (bav z).toList.drop (2 + (b.2.map (Value.int .u16)).length))).toArray = bav (z.1, b.2) := by
  rw [bav_toList, List.length_map, hb, List.drop_of_length_le (by rw [bvs_length ⟨hz1, hz2⟩]; omega), List.append_nil, bvs, List.take_append_of_le_length (by rw [List.length_map, hz1]; omega), List.take_of_length_le (by rw [List.length_map, hz1]; omega)]
  rfl
set_option maxRecDepth 20000 in
set_option maxHeartbeats 1600000 in
theorem toBlock_any (b : Bl) (hb : b.1.length = 2 ∧ b.2.length = 16) (w : World) :
    Calls Try.prog 47 #[.agg (bav b)] w fun e w' => e = .returned (.agg (bav b)) ∧ Below w.heap.size w w' := by
  obtain ⟨w3, hw3⟩ : ∃ w3 : World, w3 = ((w.alloc (.cells (bav b) 83)).alloc (.cells (bav (zr2, zr16)) 78)).alloc (.cells (bav (zr2, zr16)) 78) := ⟨_, rfl⟩
  have h0 : Blk w3 w.heap.size 83 (bav b) := by rw [hw3]; exact ((Blk.newAt rfl rfl).alloc _).alloc _
  have h1 : Blk w3 (w.heap.size + 1) 78 (bav (zr2, zr16)) := by rw [hw3]; exact (Blk.newAt (by simp) rfl).alloc _
  have h2 : Blk w3 (w.heap.size + 1 + 1) 78 (bav (zr2, zr16)) := by rw [hw3]; exact Blk.newAt (by simp) rfl
  have bw : Below w.heap.size w w3 := by rw [hw3]; exact (((Below.refl _ _).alloc (Nat.le_refl _) _).alloc (by simp) _).alloc (by simp; omega) _
  have hz : w3.heap.size = w.heap.size + 1 + 1 + 1 := by rw [hw3]; simp
  have HW := Lib.hid hw3
  have r1 := h0.rangeV (bav_at1 hb)
  have H0 := Lib.hid h0
  have H1 := Lib.hid h1
  have H2 := Lib.hid h2
  have BW := Lib.hid bw
  have HZ := Lib.hid hz
  have R1 := Lib.hid r1
  clear h0 h1 h2 bw hz hw3 r1
  go_enter Try.func47, Try.ntmps47
  go_wp2_with (first
    | refine wpList_load_ivs rfl _ _ rfl w.heap.size 0 rfl .i32 b.1 _ (by have h := R1.out; rw [HW.out] at h; exact h) Try.underlying60 rfl (by rw [hb.1]; exact size60) ?_
    | (go_at_call 91; refine (toCorner_any b.1 hb.1 _).mono ?_; rintro e w4 ⟨rfl, hb4⟩; have hb4' : Below w3.heap.size w3 w4 := (by rw [HW.out]; exact hb4); have z4 := hb4'.size; have K0 := Lib.hid (H0.out.below hb4' H0.out.lt); have K1 := Lib.hid (H1.out.below hb4' H1.out.lt); have K2 := Lib.hid (H2.out.below hb4' H2.out.lt); have BK := Lib.hid (BW.out.trans (hb4'.mono BW.out.size)); clear hb4 hb4' HW R1 H0 H1 H2 BW)
    | (refine wpList_store_mid rfl _ _ _ rfl (w.heap.size + 1 + 1) 0 (ivs .i32 b.1) rfl rfl (K2.out.there _ _ (by rw [bav_size ⟨rfl, rfl⟩, ivs_size, hb.1]; omega)) (by rw [ivs_size, hb.1]; exact size63) ivs_one ?_; rw [ivs_toList]; have L2 := Lib.hid (K2.out.setCellsV (b.1.map (.int .i32)) 0 (by rw [bav_size ⟨rfl, rfl⟩, List.length_map, hb.1]; omega)); have L0 := Lib.hid (K0.out.setCells_far (g' := w.heap.size + 1 + 1) (by omega) (b.1.map (.int .i32)) 0); have L1 := Lib.hid (K1.out.setCells_far (g' := w.heap.size + 1 + 1) (by omega) (b.1.map (.int .i32)) 0); have BL := Lib.hid (below_setCells (g := w.heap.size + 1 + 1) (by omega) (b.1.map (.int .i32)) 0 BK.out); clear K0 K1 K2 BK; generalize w4.setCells (w.heap.size + 1 + 1) 0 (b.1.map (.int .i32)) = w5 at *; have R2 := Lib.hid (L0.out.rangeV (bav_at2 hb)))
    | refine wpList_load_ivs rfl _ _ rfl w.heap.size 2 rfl .u16 b.2 _ R2.out Try.underlying75 rfl (by rw [hb.2]; exact size75) ?_
    | (go_at_call 92; refine (toMask_any b.2 hb.2 _).mono ?_; rintro e w6 ⟨rfl, hb6⟩; have z6 := hb6.size; have M1 := Lib.hid (L1.out.below hb6 L1.out.lt); have M2 := Lib.hid (L2.out.below hb6 L2.out.lt); have BM := Lib.hid (BL.out.trans (hb6.mono BL.out.size)); rw [put_at hb.1 rfl] at M2; clear hb6 L0 L1 L2 BL)
    | (refine wpList_store_mid rfl _ _ _ rfl (w.heap.size + 1 + 1) 2 (ivs .u16 b.2) rfl rfl (M2.out.there _ _ (by rw [bav_size (b := (b.1, zr16)) ⟨hb.1, rfl⟩, ivs_size, hb.2]; omega)) (by rw [ivs_size, hb.2]; exact size76) ivs_one ?_; rw [ivs_toList]; have N2 := Lib.hid (M2.out.setCellsV (b.2.map (.int .u16)) 2 (by rw [bav_size (b := (b.1, zr16)) ⟨hb.1, rfl⟩, List.length_map, hb.2]; omega)); have N1 := Lib.hid (M1.out.setCells_far (g' := w.heap.size + 1 + 1) (by omega) (b.2.map (.int .u16)) 2); have BN := Lib.hid (below_setCells (g := w.heap.size + 1 + 1) (by omega) (b.2.map (.int .u16)) 2 BM.out); rw [put_mask (z := (b.1, zr16)) hb.2 hb.1 rfl] at N2; clear M1 M2 BM; generalize w6.setCells (w.heap.size + 1 + 1) 2 (b.2.map (.int .u16)) = w7 at *)
    | refine wpList_load_row rfl _ _ rfl (w.heap.size + 1 + 1) rfl 78 (bav b) (0, 0) _ N2.out Try.underlying78 rfl (by rw [bav_size hb]; exact size78) ?_
    | refine wpList_store_row rfl _ _ _ rfl (w.heap.size + 1) (bav b) rfl rfl 78 _ N1.out (by rw [bav_size hb]; exact size78) (by rw [bav_size hb, bav_size ⟨rfl, rfl⟩]) (bav_one b) ?_)
  exact bodyPost_ret (results_cell_row rfl _ _ (w.heap.size + 1) 78 (bav b) (0, 0) _ rfl (N1.out.row _) Try.underlying78 rfl (by rw [bav_size hb]; exact size78)) rfl ⟨rfl, below_setRow BN.out (by omega) _⟩
end Go.Proofs.Ytmagaapdijapiaa
namespace Go.Proofs.Ytmagaapdijapiaa
open Go.ChangeShapes Go.WideShapes Go.ChangeAt Go.RowKit

theorem szBlockS_in (A : Option Addr) (n c : Nat) (left : Int) (h : n ≤ left) (h2 : left ≤ 1048576) (w : World) :
    Calls Try.prog 7 #[.slice A n c, .int .i64 left] w fun e w' => e = .returned (.int .i64 (left - n)) ∧ w = w' := by
  go_enter Try.func7, Try.ntmps7
  go_wp2
  go_ret
  exact ⟨rfl, rfl⟩
theorem szBlockS_out (A : Option Addr) (n c : Nat) (left : Int) (h : left < n) (hn : n ≤ 9223372036854775807) (h0 : 0 ≤ left) (h2 : left ≤ 1048576) (w : World) :
    Calls Try.prog 7 #[.slice A n c, .int .i64 left] w fun e w' => e = .returned (.int .i64 (-1)) ∧ w = w' := by
  go_enter Try.func7, Try.ntmps7
  go_wp2
  go_ret
  exact ⟨rfl, rfl⟩
set_option maxRecDepth 20000 in
set_option maxHeartbeats 1600000 in
theorem eqBlock_same (b : Bl) (hb : b.1.length = 2 ∧ b.2.length = 16) (w : World) :
    Calls Try.prog 51 #[.agg (bav b), .agg (bav b)] w fun e w' => e = .returned (.bool true) ∧ Below w.heap.size w w' := by
  obtain ⟨w2, hw2⟩ : ∃ w2 : World, w2 = (w.alloc (.cells (bav b) 78)).alloc (.cells (bav b) 78) := ⟨_, rfl⟩
  have h0 : Blk w2 w.heap.size 78 (bav b) := by rw [hw2]; exact (Blk.newAt rfl rfl).alloc _
  have h1 : Blk w2 (w.heap.size + 1) 78 (bav b) := by rw [hw2]; exact Blk.newAt (by simp) rfl
  have bw : Below w.heap.size w w2 := by rw [hw2]; exact ((Below.refl _ _).alloc (Nat.le_refl _) _).alloc (by simp) _
  have HW := Lib.hid hw2
  have r0 := h0.rangeV (bav_at1 hb)
  have r1 := h1.rangeV (bav_at1 hb)
  rw [hw2] at r0 r1
  have H0 := Lib.hid h0
  have H1 := Lib.hid h1
  have BW := Lib.hid bw
  have R0 := Lib.hid r0
  have R1 := Lib.hid r1
  clear h0 h1 bw hw2 r0 r1
  go_enter Try.func51, Try.ntmps51
  go_wp2_with (first
    | refine wpList_load_ivs rfl _ _ rfl w.heap.size 0 rfl .i32 b.1 _ R0.out Try.underlying63 rfl (by rw [hb.1]; exact size63) ?_
    | refine wpList_load_ivs rfl _ _ rfl (w.heap.size + 1) 0 rfl .i32 b.1 _ R1.out Try.underlying63 rfl (by rw [hb.1]; exact size63) ?_
    | (go_at_call 96; refine (eqCorner_same b.1 hb.1 _).mono ?_; rintro e w4 ⟨rfl, hb4⟩; have hb4' : Below w2.heap.size w2 w4 := (by rw [HW.out]; exact hb4); have z4 := hb4'.size; have K0 := Lib.hid ((H0.out.below hb4' H0.out.lt).rangeV (bav_at2 hb)); have K1 := Lib.hid ((H1.out.below hb4' H1.out.lt).rangeV (bav_at2 hb)); have BK := Lib.hid (BW.out.trans (hb4'.mono BW.out.size)); clear hb4 hb4' HW R0 R1 H0 H1)
    | refine wpList_load_ivs rfl _ _ rfl w.heap.size 2 rfl .u16 b.2 _ K0.out Try.underlying76 rfl (by rw [hb.2]; exact size76) ?_
    | refine wpList_load_ivs rfl _ _ rfl (w.heap.size + 1) 2 rfl .u16 b.2 _ K1.out Try.underlying76 rfl (by rw [hb.2]; exact size76) ?_
    | (go_at_call 97; refine (eqMask_same b.2 hb.2 _).mono ?_; rintro e w6 ⟨rfl, hb6⟩; have BM := Lib.hid (BK.out.trans (hb6.mono (by have := BW.out.size; omega))); clear hb6))
  all_goals
    go_ret
    exact ⟨rfl, BM.out⟩

theorem run_make_cells {P : Program} {t e : TypeId} {i : TypeInfo} {z : Value} {sz : Nat} (ht : P.underlying t = some (.slice e)) (hi : P.info? e = some i) (hz : i.zero = some z) (hsize : i.size = sz)
    (n : Nat) (hbytes : i.bytes * n ≤ 281474976710656) (hn : n ≤ 9223372036854775807) :
    ∃ Z : Array Value, Z.size = n * sz ∧ ∀ w : World, (Instr.makeSlice t (.int .i64 (n : Nat)) (.int .i64 (n : Nat))).run P w = .ok (.slice (some ⟨w.heap.size, 0, none⟩) n n) (w.alloc (.cells Z e)) := by
  have hb : (i.bytes : Int) * (n : Int) ≤ 281474976710656 := by
    have h : ((i.bytes * n : Nat) : Int) ≤ 281474976710656 := by omega
    rwa [Int.natCast_mul] at h
  refine ⟨madeCells z.cells (n * sz), size_madeCells _ _, fun w => ?_⟩
  have hr := run_make (P := P) w t e i z ht hi hz .i64 .i64 n n (by omega) (by omega) hb (by omega)
  simp only [Int.toNat_natCast] at hr
  rw [hsize] at hr
  exact hr
theorem Rd.block {w : World} {B n b o k : Nat} {l : List Bl} (h : Rd w B 18 (some ⟨b, o, none⟩) n (bcs l)) (hl : Bls l) (hn : 0 < n) (hk : k < l.length) : w.rangeAt b (o + k * 18) (bvs l[k]) := by
  obtain ⟨b', o', e, _, hc⟩ := h.2 hn
  cases e
  have := Rd.rangeAt (i := k * 18) (s := 18) hc
  rwa [bcs_row hl hk] at this
theorem Bls.take {l : List Bl} (h : Bls l) (k : Nat) : Bls (l.take k) := fun b hb => h b (List.mem_of_mem_take hb)
theorem bcs_succ {l : List Bl} {k : Nat} (hk : k < l.length) : bcs (l.take (k + 1)) = bcs (l.take k) ++ bvs l[k] := by
  rw [bcs, bcs, List.take_succ_eq_append_getElem hk, List.map_append, List.flatten_append]
  simp
theorem fill_blocks {l : List Bl} (h : Bls l) {Z : List Value} {k : Nat} (hk : k < l.length) (_hZ : Z.length = l.length * 18) :
    ((bcs (l.take k) ++ Z.drop (k * 18)).take (k * 18) ++ (bvs l[k] ++ (bcs (l.take k) ++ Z.drop (k * 18)).drop (k * 18 + (bvs l[k]).length))) = bcs (l.take (k + 1)) ++ Z.drop ((k + 1) * 18) := by
  have e : (bcs (l.take k)).length = k * 18 := by rw [bcs_length (h.take k), List.length_take, Nat.min_eq_left (by omega)]
  rw [bvs_length (h.at_ hk), List.take_left' e, ← List.append_assoc, bcs_succ hk, List.drop_append, List.drop_of_length_le (by omega), List.nil_append, e, Nat.add_sub_cancel_left, List.drop_drop, show k * 18 + 18 = (k + 1) * 18 by omega]
theorem Block_info : (Try.prog.info? 78).map (fun i => (i.zero, i.size, i.bytes)) = some (some (.agg #[.int .i32 0, .int .i32 0, .int .u16 0, .int .u16 0, .int .u16 0, .int .u16 0, .int .u16 0, .int .u16 0, .int .u16 0, .int .u16 0, .int .u16 0, .int .u16 0, .int .u16 0, .int .u16 0, .int .u16 0, .int .u16 0, .int .u16 0, .int .u16 0]), 18, 40) := by kernel_rfl
set_option maxRecDepth 20000 in
set_option maxHeartbeats 1600000 in
theorem toBlockS_any (A : Option Addr) (n c : Nat) (l : List Bl) (hl : l.length = n) (hrow : Bls l) (hn : n ≤ 1048576) (w : World) (hR : Rd w w.heap.size 18 A n (bcs l)) :
    Calls Try.prog 9 #[.slice A n c] w fun e w' => e = .returned (.slice (some ⟨w.heap.size, 0, none⟩) n n) ∧ Blk w' w.heap.size 78 (bcs l).toArray ∧ Below w.heap.size w w' := by
  obtain ⟨i0, hi, hz0, hz1, hz2⟩ := info_parts Block_info
  obtain ⟨Z, hZ, hmk⟩ := run_make_cells (P := Try.prog) Try.underlying27 hi hz0 hz1 n (by rw [hz2]; omega) (by omega)
  go_enter Try.func9, Try.ntmps9
  go_wp2
  go_loopw [4] (fun i wr => ∃ k : Nat, k ≤ n ∧ i = .int .i64 k ∧ Blk wr w.heap.size 78 (bcs (l.take k) ++ Z.toList.drop (k * 18)).toArray ∧ Below w.heap.size w wr) (fun i _ => n - (intOf i).toNat)
  case atStart =>
    exact ⟨0, by omega, rfl, Blk.newAt rfl (by simp [bcs]), (Below.refl _ _).alloc (Nat.le_refl _) _⟩
  case round =>
    clear hmk
    obtain ⟨k, hk, rfl, h3, hb⟩ := hrel
    by_cases hlt : k < n
    · have hkl : k < l.length := by omega
      have hRw := hR.below hb (Nat.le_refl _)
      obtain ⟨b, o, rfl, hbB, hc⟩ := hRw.at_ (by omega)
      have hrg := hRw.block hrow (by omega) hkl
      have hfl := fill_blocks hrow hkl (Z := Z.toList) (by rw [Array.length_toList, hZ, hl])
      have hbl := hrow.at_ hkl
      have hcs : (bcs (l.take k) ++ Z.toList.drop (k * 18)).length = n * 18 := by
        rw [List.length_append, bcs_length (hrow.take k), List.length_take, Nat.min_eq_left (by omega), List.length_drop, Array.length_toList, hZ]
        omega
      obtain ⟨F, hF⟩ : ∃ F, F = l[k] := ⟨_, rfl⟩
      rw [← hF] at hrg hbl hfl
      have Hrg := Lib.hid hrg
      have h3lt := h3.lt
      have H3lt := Lib.hid h3lt
      have HFL := Lib.hid hfl
      have HCS := Lib.hid hcs
      have HBL := Lib.hid hbl
      have hkn : (k : Int) < (n : Int) := by omega
      have hk0 : (0 : Int) ≤ (k : Int) := Int.natCast_nonneg _
      clear hc hR hrg hF hbB h3lt hfl hcs hbl hRw
      generalize bcs (l.take k) ++ Z.toList.drop (k * 18) = C at *
      go_wp2_with (refine wpList_load_mid rfl _ _ rfl b (o + k * 18) (by rfl) (bvs F) _ Hrg.out Try.underlying83 rfl (by rw [bvs_length HBL.out]; exact size83) ?_)
      refine (toBlock_any F HBL.out _).mono ?_
      rintro e w2 ⟨rfl, hb2⟩
      have k3 := h3.below hb2 H3lt.out
      have kb := hb.trans (hb2.mono (Nat.le_of_lt H3lt.out))
      have hth := k3.there (k * 18) 18 (by rw [List.size_toArray, HCS.out]; omega)
      have Hth := Lib.hid hth
      clear hb2 h3 hb hth
      go_wp2_with (refine wpList_store_mid rfl _ _ _ rfl w.heap.size (k * 18) (bav F) (by first | rfl | (simp; done)) rfl (by rw [bav_size HBL.out]; exact Hth.out) (by rw [bav_size HBL.out]; exact size78) (bav_one F) ?_)
      refine ⟨⟨k + 1, by omega, by go_num, ?_, by rw [bav_toList]; exact below_setCells (Nat.le_refl _) _ _ kb⟩, by simp [intOf]; omega⟩
      have hk3 := k3.setCellsV (bvs F) (k * 18) (by rw [List.size_toArray, HCS.out, bvs_length HBL.out]; omega)
      rw [HFL.out] at hk3
      exact hk3
    · have : k = n := by omega
      subst this
      have hfin : bcs (l.take k) ++ Z.toList.drop (k * 18) = bcs l := by rw [List.drop_of_length_le (by rw [Array.length_toList, hZ]; omega), List.append_nil, List.take_of_length_le (by omega)]
      rw [hfin] at h3
      go_wp2
      go_ret
      exact ⟨rfl, h3, hb⟩
theorem Blk.ownV {w : World} {g lo hi : Nat} {e : TypeId} {xs : List Value} {n size : Nat} (h : Blk w g e xs.toArray) (hl : xs.length = n * size) (h1 : lo ≤ g) (h2 : g < hi) (hm : n ≤ maxLen) :
    Own w lo hi e size (some ⟨g, 0, none⟩) n n xs :=
  ⟨hl, .inr ⟨g, _, rfl, h1, h2, h, Nat.le_refl _, hm, by rw [List.size_toArray, hl], by rw [← hl]; exact List.take_of_length_le (Nat.le_refl _)⟩⟩
theorem rowAt_vals {W : World} {g o : Nat} {vs : List Value} (h : W.rangeAt g o vs) : rowAt W g o vs.length = vs.toArray ∧ hasRow W g o vs.length = true := by
  have hc : ∀ i (hi : i < vs.length), W.cell? ⟨g, o + i, none⟩ = some vs[i] := fun i hi => h i _ (List.getElem?_eq_getElem hi)
  constructor
  · unfold rowAt
    congr 1
    apply List.ext_getElem (by simp)
    intro i h1 h2
    simp only [List.getElem_map, List.getElem_range]
    rw [hc i h2]
    rfl
  · unfold hasRow
    rw [List.all_eq_true]
    intro i hi
    rw [hc i (List.mem_range.1 hi)]
    rfl
theorem exec_loadBlock (ρ : Operand → Value) (dst : Option Tmp) (x : Operand) (t : TypeId) (pos : String) (after : Array Edge) (guard : Option (Nat × Bool)) :
    execOp ρ { dst := dst, op := .load 78 x, type := t, pos := pos, after := after, guard := guard } = ldRow 78 (ρ x) := rfl
theorem run_ldBlock : ∀ (W : World) (g o : Nat), hasRow W g o 18 = true → (ldRow 78 (.pointer (some ⟨g, o, none⟩))).run Try.prog W = .ok (.value (.agg (rowAt W g o 18))) W := run_ldRow Try.underlying78 rfl size78
section
attribute [local go_sem ↓] exec_loadBlock
attribute [local go_sem] run_ldBlock
set_option maxHeartbeats 1600000 in
theorem eqBlockS_same (A A' : Option Addr) (n c c' : Nat) (l : List Bl) (hl : l.length = n) (hrow : Bls l) (hn : n ≤ 100000000) (w : World) (hR : Rd w w.heap.size 18 A n (bcs l)) (hR' : Rd w w.heap.size 18 A' n (bcs l)) :
    Calls Try.prog 12 #[.slice A n c, .slice A' n c'] w fun e w' => e = .returned (.bool true) ∧ Below w.heap.size w w' := by
  go_enter Try.func12, Try.ntmps12
  go_wp2
  go_loopw [5] (fun i wr => ∃ k : Nat, k ≤ n ∧ i = .int .i64 k ∧ Below w.heap.size w wr) (fun i _ => n - (intOf i).toNat)
  case atStart => exact ⟨0, by omega, rfl, Below.refl _ _⟩
  case round =>
    obtain ⟨k, hk, rfl, hb⟩ := hrel
    by_cases hlt : k < n
    · have hkl : k < l.length := by omega
      have hRw := hR.below hb (Nat.le_refl _)
      have hRw' := hR'.below hb (Nat.le_refl _)
      obtain ⟨b, o, rfl, hbB, hc⟩ := hRw.at_ (by omega)
      obtain ⟨b', o', rfl, hbB', hc'⟩ := hRw'.at_ (by omega)
      have hbl := hrow.at_ hkl
      have r1 := rowAt_vals (hRw.block hrow (by omega) hkl)
      have r2 := rowAt_vals (hRw'.block hrow (by omega) hkl)
      rw [bvs_length hbl] at r1 r2
      obtain ⟨r1, r3⟩ := (rowAt_drew wr _ _ _).trans r1.1 |> fun h => (And.intro h ((hasRow_drew wr _ _ _).trans r1.2))
      obtain ⟨r2, r4⟩ := (rowAt_drew wr _ _ _).trans r2.1 |> fun h => (And.intro h ((hasRow_drew wr _ _ _).trans r2.2))
      obtain ⟨F, hF⟩ : ∃ F, F = l[k] := ⟨_, rfl⟩
      rw [← hF] at r1 r2 hbl
      have HEQ := Lib.hid (eqBlock_same F hbl)
      have HR := Lib.hid hR
      have HR' := Lib.hid hR'
      have hz := hb.size
      have hi0 : (0 : Int) ≤ (k : Int) := Int.natCast_nonneg _
      have hi1 : (k : Int) < (n : Int) := by omega
      rw [show (bvs F).toArray = bav F from rfl] at r1 r2
      clear hc hR hbB hc' hR' hbB' hF hbl hRw hRw'
      generalize bav F = V at *
      go_wp2_with fail
      go_region_law (go_simp; go_at_call 51; refine (HEQ.out _).mono ?_; rintro e w2 ⟨rfl, hb2⟩)
      all_goals
        go_wp2
        exact ⟨⟨k + 1, by omega, by go_num, (below_drew hb).trans (hb2.mono hz)⟩, by simp [intOf]; omega⟩
    · have : k = n := by omega
      subst this
      go_wp2
      go_ret
      exact ⟨rfl, hb⟩
end
end Go.Proofs.Ytmagaapdijapiaa
namespace Go.Proofs.Ytmagaapdijapiaa
open Go.ChangeShapes Go.WideShapes Go.ChangeAt Go.RowKit
/-- whether the cell in column x of row y is set -/
def bitB (M : List Int) (x y : Nat) : Bool := decide (M.getD y 0 / 2 ^ x % 2 = 1)
def is16 (l : List Int) : Prop := ∀ x ∈ l, 0 ≤ x ∧ x < 65536
theorem is16.getD {l : List Int} (h : is16 l) (i : Nat) : 0 ≤ l.getD i 0 ∧ l.getD i 0 < 65536 := by
  by_cases hi : i < l.length
  · rw [List.getD_eq_getElem?_getD, List.getElem?_eq_getElem hi]
    exact h _ (List.getElem_mem hi)
  · rw [List.getD_eq_getElem?_getD, List.getElem?_eq_none (by omega)]
    exact ⟨Int.le_refl _, by decide⟩
theorem Blk.getAtG {w : World} {g : Nat} {t : TypeId} {k : IntKind} {l : List Int} (h : Blk w g t (ivs k l)) {i : Nat} (hi : i < l.length) : w.cell? ⟨g, i, none⟩ = some (.int k (l.getD i 0)) := by
  have := h.cellI hi
  rwa [List.getD_eq_getElem?_getD, List.getElem?_eq_getElem hi]
theorem and1_u16 {z : Int} (h0 : 0 ≤ z) (h1 : z < 65536) : bits .and .u16 z 1 = z % 2 := by
  rw [u16_and z 1 h0 h1 (by decide) (by decide), show (1 : Int).toNat = 1 from rfl, Nat.and_one_is_mod]
  omega
theorem shr_range {v : Int} (h0 : 0 ≤ v) (h1 : v < 65536) (x : Nat) : 0 ≤ v / 2 ^ x ∧ v / 2 ^ x < 65536 := by
  have hp : (0 : Int) < 2 ^ x := Int.pow_pos (by decide)
  exact ⟨Int.ediv_nonneg h0 (Int.le_of_lt hp), Int.lt_of_le_of_lt (Int.ediv_le_self _ h0) h1⟩
theorem bit_eq {v : Int} (h0 : 0 ≤ v) (h1 : v < 65536) (x : Nat) : (bits .and .u16 (v / 2 ^ x) 1 == 1) = decide (v / 2 ^ x % 2 = 1) := by
  obtain ⟨q0, q1⟩ := shr_range h0 h1 x
  rw [and1_u16 q0 q1]
  rfl
set_option maxHeartbeats 1600000 in
theorem l07Has_any (g : Nat) (M : List Int) (hM : M.length = 16) (h16 : is16 M) (x y : Nat) (hx : x < 16) (hy : y < 16) (w : World) (h : Blk w g 76 (ivs .u16 M)) :
    Calls Try.prog 89 #[.pointer (some ⟨g, 0, none⟩), .int .i64 x, .int .i64 y] w fun e w' => e = .returned (.bool (bitB M x y)) ∧ Below w.heap.size w w' := by
  have c1 := h.getAtG (i := y) (by omega)
  obtain ⟨v0, v1⟩ := h16.getD y
  have hb : bitB M x y = decide (M.getD y 0 / 2 ^ x % 2 = 1) := rfl
  rw [hb]
  generalize M.getD y 0 = v at *
  have hx0 : (0 : Int) ≤ x := by omega
  have hx1 : (x : Int) < 16 := by omega
  have hy0 : (0 : Int) ≤ y := by omega
  have hy1 : (y : Int) < 16 := by omega
  clear h hb h16
  go_enter Try.func89, Try.ntmps89
  go_wp2
  go_ret
  rw [bit_eq v0 v1]
  exact ⟨rfl, Below.refl _ _⟩
/-- the cells ahead of number i, row by row -/
def cellsTo (M : List Int) (i : Nat) : List (List Int) := ((List.range i).filter fun j => bitB M (j % 16) (j / 16)).map fun j => [((j % 16 : Nat) : Int), ((j / 16 : Nat) : Int)]
def mCells (M : List Int) : List (List Int) := cellsTo M 256
theorem cellsTo_rows (M : List Int) (i : Nat) : Rows_ 2 (cellsTo M i) := fun f hf => by
  obtain ⟨j, _, rfl⟩ := List.mem_map.1 hf
  rfl
theorem cellsTo_length (M : List Int) (i : Nat) : (cellsTo M i).length ≤ i := by
  rw [cellsTo, List.length_map]
  exact Nat.le_trans (List.length_filter_le _ _) (by rw [List.length_range]; exact Nat.le_refl _)
theorem cellsTo_yes {M : List Int} {x y : Nat} (hx : x < 16) (h : bitB M x y = true) : cellsTo M (16 * y + x + 1) = cellsTo M (16 * y + x) ++ [[(x : Int), (y : Int)]] := by
  have h1 : (16 * y + x) % 16 = x := by omega
  have h2 : (16 * y + x) / 16 = y := by omega
  have h3 : ((x : Int) % 16 = x ∧ (16 * (y : Int) + x) / 16 = y) := by omega
  simp [cellsTo, List.range_succ, List.filter_append, h1, h2, h, h3]
theorem cellsTo_no {M : List Int} {x y : Nat} (hx : x < 16) (h : bitB M x y = false) : cellsTo M (16 * y + x + 1) = cellsTo M (16 * y + x) := by
  have h1 : (16 * y + x) % 16 = x := by omega
  have h2 : (16 * y + x) / 16 = y := by omega
  simp [cellsTo, List.range_succ, List.filter_append, h1, h2, h]
def pvs (l : List (List Int)) : List Value := l.flatten.map (.int .i32)
theorem pair_news (W : World) (x y : Int) : ∀ j u, (pvs [[x, y]])[j]? = some u → (W.alloc (.cells #[.int .i32 x, .int .i32 y] 60)).cell? ((⟨W.heap.size, 0, none⟩ : Addr).add j) = some u :=
  Blk.news (k := .i32) (l := [x, y]) (t := 60) (Blk.newAt rfl rfl)
theorem pvs_one {l : List (List Int)} : ∀ v ∈ pvs l, v.oneCell' = true := fun v hv => by
  simp only [pvs, List.mem_map] at hv
  obtain ⟨s, _, rfl⟩ := hv
  rfl
theorem Pair_info : (Try.prog.info? 60).map (fun i => (i.zero, i.size, i.bytes)) = some (some (.agg #[.int .i32 0, .int .i32 0]), 2, 8) := by kernel_rfl
theorem pvs_append (a b : List (List Int)) : pvs (a ++ b) = pvs a ++ pvs b := by rw [pvs, pvs, pvs, List.flatten_append, List.map_append]
def GivesCells (l : List (List Int)) (w : World) (e : Ending) (w' : World) : Prop :=
  ∃ g c, e = .returned (.slice (some ⟨g, 0, none⟩) l.length c) ∧ Own w' w.heap.size w'.heap.size 60 2 (some ⟨g, 0, none⟩) l.length c (pvs l) ∧ Below w.heap.size w w'
set_option maxRecDepth 20000 in
set_option maxHeartbeats 3200000 in
theorem sCellsOf_any (M : List Int) (hM : M.length = 16) (h16 : is16 M) (w : World) :
    Calls Try.prog 129 #[.agg (ivs .u16 M)] w (GivesCells (mCells M) w) := by
  obtain ⟨i0, hi, hz0, hz1, hzb⟩ := info_parts Pair_info
  have h0 : Blk (w.alloc (.cells (ivs .u16 M) 76)) w.heap.size 76 (ivs .u16 M) := Blk.newAt rfl rfl
  have H0 := Lib.hid h0
  clear h0
  go_enter Try.func129, Try.ntmps129
  go_wp2
  go_loopw [3, 4] (fun v i wr => ∃ y : Nat, y ≤ 16 ∧ i = .int .i64 y ∧ (∃ g cc, v = .slice (some ⟨g, 0, none⟩) (cellsTo M (16 * y)).length cc) ∧ wr.ownsRow (w.heap.size + 1) 60 2 v (cellsTo M (16 * y)).length (pvs (cellsTo M (16 * y))) ∧ Blk wr w.heap.size 76 (ivs .u16 M) ∧ w.heap.size + 1 ≤ wr.heap.size ∧ Below w.heap.size w wr) (fun _ i _ => 16 - (intOf i).toNat)
  case atStart =>
    refine ⟨0, by omega, rfl, ⟨_, _, rfl⟩, ?_, H0.out.alloc _, by simp, ((Below.refl _ _).alloc (Nat.le_refl _) _).alloc (by simp) _⟩
    have := World.ownsRow_lit (e := 60) (base := w.heap.size + 1) (size := 2) (w.alloc (.cells (ivs .u16 M) 76)) #[] 0 (by simp) (by unfold maxLen; omega) rfl
    rw [size_alloc] at this
    exact this
  case round =>
    clear H0
    obtain ⟨y, hy, rfl, ⟨g, cc, rfl⟩, ho, h0, hz, hb⟩ := hrel
    obtain ⟨wy, rfl⟩ : ∃ wy : World, wy = wr := ⟨_, rfl⟩
    by_cases hlt : y < 16
    · have hlt' : (y : Int) < 16 := by omega
      have HO := Lib.hid ho
      have H0 := Lib.hid h0
      have HB := Lib.hid hb
      clear ho h0 hb
      go_wp2
      go_loopw [3, 5] (fun v i wr => ∃ x : Nat, x ≤ 16 ∧ i = .int .i64 x ∧ (∃ g cc, v = .slice (some ⟨g, 0, none⟩) (cellsTo M (16 * y + x)).length cc) ∧ wr.ownsRow (w.heap.size + 1) 60 2 v (cellsTo M (16 * y + x)).length (pvs (cellsTo M (16 * y + x))) ∧ Blk wr w.heap.size 76 (ivs .u16 M) ∧ w.heap.size + 1 ≤ wr.heap.size ∧ Below w.heap.size w wr) (fun _ i _ => 16 - (intOf i).toNat)
      case atStart => exact ⟨0, by omega, rfl, ⟨_, _, rfl⟩, HO.out, H0.out, hz, HB.out⟩
      case round =>
        clear HO H0 HB
        obtain ⟨x, hx, rfl, ⟨g, cc, rfl⟩, ho, h0, hz, hb⟩ := hrel
        have hlen := cellsTo_length M (16 * y + x)
        by_cases hx16 : x < 16
        · have hx' : (x : Int) < 16 := by omega
          have HX := Lib.hid (l07Has_any w.heap.size M hM h16 x y hx16 hlt wr h0)
          have hyes := fun h => cellsTo_yes (M := M) (y := y) hx16 h
          have hno := fun h => cellsTo_no (M := M) (y := y) hx16 h
          have HO := Lib.hid ho
          have H0 := Lib.hid h0
          have HB := Lib.hid hb
          obtain ⟨L, hL⟩ : ∃ L, L = cellsTo M (16 * y + x) := ⟨_, rfl⟩
          rw [← hL] at HO hlen hyes hno ⊢
          have hLl : L.length ≤ 256 := by omega
          have hLrow := Lib.hid hL
          clear ho h0 hb hL hlen
          cases hbt : bitB M x y
          · have HN := Lib.hid (hno hbt)
            rw [hbt] at HX
            clear hbt hyes hno
            go_wp2_with (go_at_call 89; refine HX.out.mono ?_; rintro e w2 ⟨rfl, hb2⟩; have hz2 := hb2.size; have HO2 := Lib.hid (own_below HO.out hb2 (Nat.le_refl _)); have H2 := Lib.hid (H0.out.below hb2 H0.out.lt); have HB2 := Lib.hid (HB.out.trans (hb2.mono (by omega))); clear hb2)
            exact ⟨⟨x + 1, by omega, by go_num, ⟨g, cc, by rw [show 16 * y + (x + 1) = 16 * y + x + 1 from rfl, HN.out]⟩, by rw [show 16 * y + (x + 1) = 16 * y + x + 1 from rfl, HN.out]; exact HO2.out, H2.out, by omega, HB2.out⟩, by simp [intOf]; omega⟩
          · have HY := Lib.hid (hyes hbt)
            rw [hbt] at HX
            clear hbt hyes hno
            have hrw : Rows_ 2 L := by rw [hLrow.out]; exact cellsTo_rows _ _
            have hpl : (pvs L).length = L.length * 2 := by rw [pvs, List.length_map, flat_length hrw]
            clear hrw hLrow
            go_wp2_with (first
              | (go_at_call 89; refine HX.out.mono ?_; rintro e w2 ⟨rfl, hb2⟩; have hz2 := hb2.size; have HO2 := Lib.hid (own_below HO.out hb2 (Nat.le_refl _)); have H2 := Lib.hid (H0.out.below hb2 H0.out.lt); have HB2 := Lib.hid (HB.out.trans (hb2.mono (by omega))); have HN2 := Lib.hid (pair_news w2 x y); clear hb2)
              | (at_builtin; refine wpList_append_own _ rfl _ _ 56 rfl (w.heap.size + 1) 60 i0 _ 2 8 Try.underlying56 hi hz0 hz1 hzb rfl (by decide) (.slice (some ⟨g, 0, none⟩) L.length cc) L.length _ rfl (HO2.out.alloc _) ⟨w2.heap.size, 0, none⟩ 1 1 (pvs [[(x : Int), (y : Int)]]) rfl rfl HN2.out pvs_one (by unfold maxLen; omega) (by omega) (by rw [size_alloc]; omega) ?_; intro v' w3 hown' hgrow _; rw [← pvs_append] at hown'; have HOWN := Lib.hid hown'; have HGR := Lib.hid hgrow; clear hown' hgrow))
            obtain ⟨A1, c1', hve, hOO⟩ := Own.of_row HOWN.out
            obtain ⟨g2, cur1, hA1, _⟩ := hOO.at_ (by omega)
            subst hve hA1
            have hne := fun j e => (HO2.out.lt j e).1
            have hle : (cellsTo M (16 * y + (x + 1))).length = L.length + 1 := by rw [show 16 * y + (x + 1) = 16 * y + x + 1 from rfl, HY.out]; simp
            refine ⟨⟨x + 1, by omega, by go_num, ⟨g2, c1', by rw [hle]⟩, ?_, (H2.out.alloc _).grown HGR.out (fun e => by have := hne _ e.symm; omega), by have := HGR.out.size; rw [size_alloc] at this; omega, (HB2.out.alloc (by omega) _).grown HGR.out (by rw [size_alloc]; omega) (fun j e => by have := hne j e; omega)⟩, by simp [intOf]; omega⟩
            rw [hle, show 16 * y + (x + 1) = 16 * y + x + 1 from rfl, HY.out]
            exact HOWN.out
        · obtain rfl : x = 16 := by omega
          have HO := Lib.hid ho
          have H0 := Lib.hid h0
          have HB := Lib.hid hb
          clear ho h0 hb
          go_wp2
          exact ⟨⟨y + 1, by omega, by go_num, ⟨g, cc, rfl⟩, HO.out, H0.out, hz, HB.out⟩, by simp [intOf]; omega⟩
    · obtain rfl : y = 16 := by omega
      obtain ⟨A1, c1', hve, hO⟩ := Own.of_row ho
      cases hve
      have HO := Lib.hid hO
      have HB := Lib.hid hb
      clear ho h0 hb hO
      go_wp2
      go_ret
      exact ⟨g, cc, rfl, HO.out.less (by omega), HB.out⟩
end Go.Proofs.Ytmagaapdijapiaa
namespace Go.Proofs.Ytmagaapdijapiaa
open Go.ChangeShapes Go.WideShapes Go.ChangeAt Go.RowKit
theorem U16_info : (Try.prog.info? 74).map (fun i => (i.zero, i.size, i.bytes)) = some (some (.int .u16 0), 1, 2) := by kernel_rfl
set_option maxRecDepth 20000 in
set_option maxHeartbeats 3200000 in
theorem iCellsOf_any (M : List Int) (hM : M.length = 16) (h16 : is16 M) (w : World) :
    Calls Try.prog 121 #[.agg (ivs .u16 M)] w (GivesCells (mCells M) w) := by
  obtain ⟨i0, hi, hz0, hz1, hzb⟩ := info_parts Pair_info
  have h0 : Blk (w.alloc (.cells (ivs .u16 M) 76)) w.heap.size 76 (ivs .u16 M) := Blk.newAt rfl rfl
  have H0 := Lib.hid h0
  clear h0
  go_enter Try.func121, Try.ntmps121
  go_wp2_with (refine wpList_load_row rfl _ _ rfl w.heap.size rfl 76 (ivs .u16 M) (0, 0) _ (H0.out.alloc _) Try.underlying76 rfl (by rw [ivs_size, hM]; exact size76) ?_)
  go_loopw [3, 9] (fun v i wr => ∃ y : Nat, y ≤ 16 ∧ i = .int .i64 y ∧ (∃ g cc, v = .slice (some ⟨g, 0, none⟩) (cellsTo M (16 * y)).length cc) ∧ wr.ownsRow (w.heap.size + 1) 60 2 v (cellsTo M (16 * y)).length (pvs (cellsTo M (16 * y))) ∧ Blk wr w.heap.size 76 (ivs .u16 M) ∧ w.heap.size + 1 ≤ wr.heap.size ∧ Below w.heap.size w wr) (fun _ i _ => 16 - (intOf i).toNat)
  case atStart =>
    refine ⟨0, by omega, rfl, ⟨_, _, rfl⟩, ?_, H0.out.alloc _, by simp, ((Below.refl _ _).alloc (Nat.le_refl _) _).alloc (by simp) _⟩
    have := World.ownsRow_lit (e := 60) (base := w.heap.size + 1) (size := 2) (w.alloc (.cells (ivs .u16 M) 76)) #[] 0 (by simp) (by unfold maxLen; omega) rfl
    rw [size_alloc] at this
    exact this
  case round =>
    clear H0
    obtain ⟨y, hy, rfl, ⟨g, cc, rfl⟩, ho, h0, hz, hb⟩ := hrel
    obtain ⟨wy, rfl⟩ : ∃ wy : World, wy = wr := ⟨_, rfl⟩
    by_cases hlt : y < 16
    · have hlt' : (y : Int) < 16 := by omega
      have HO := Lib.hid ho
      have H0 := Lib.hid h0
      have HB := Lib.hid hb
      obtain ⟨iu, hiu, hu0, hu1, hu2⟩ := info_parts U16_info
      have hix : ∀ W : World, (Instr.index 76 (.agg (ivs .u16 M)) (.int .i64 (y : Nat))).run Try.prog W = .ok (.int .u16 (M[y]'(by omega))) W := fun W => run_index_ivs W Try.underlying76 Try.underlying74 hiu (by kernel_rfl) hM hlt
      have hvd : M.getD y 0 = M[y]'(by omega) := by rw [List.getD_eq_getElem?_getD, List.getElem?_eq_getElem (by omega)]; rfl
      obtain ⟨v0, v1⟩ := h16.getD y
      rw [hvd] at v0 v1
      obtain ⟨vy, hvy⟩ : ∃ vy, vy = M[y]'(by omega) := ⟨_, rfl⟩
      rw [← hvy] at hix hvd v0 v1
      have HVD := Lib.hid hvd
      clear ho h0 hb hiu hu0 hu1 hu2 hvy hvd
      go_wp2
      go_loopw [3, 13] (fun v i wr => ∃ x : Nat, x ≤ 16 ∧ i = .int .i64 x ∧ (∃ g cc, v = .slice (some ⟨g, 0, none⟩) (cellsTo M (16 * y + x)).length cc) ∧ wr.ownsRow (w.heap.size + 1) 60 2 v (cellsTo M (16 * y + x)).length (pvs (cellsTo M (16 * y + x))) ∧ Blk wr w.heap.size 76 (ivs .u16 M) ∧ w.heap.size + 1 ≤ wr.heap.size ∧ Below w.heap.size w wr) (fun _ i _ => 16 - (intOf i).toNat)
      case atStart => exact ⟨0, by omega, rfl, ⟨_, _, rfl⟩, HO.out, H0.out, hz, HB.out⟩
      case round =>
        clear HO H0 HB
        obtain ⟨x, hx, rfl, ⟨g, cc, rfl⟩, ho, h0, hz, hb⟩ := hrel
        have hlen := cellsTo_length M (16 * y + x)
        by_cases hx16 : x < 16
        · have hx' : (x : Int) < 16 := by omega
          have hx0 : (0 : Int) ≤ x := by omega
          have hbe : (bits .and .u16 (vy / 2 ^ x) 1 == 1) = bitB M x y := by rw [bit_eq v0 v1, bitB, HVD.out]
          have hyes := fun h => cellsTo_yes (M := M) (y := y) hx16 h
          have hno := fun h => cellsTo_no (M := M) (y := y) hx16 h
          have HO := Lib.hid ho
          have H0 := Lib.hid h0
          have HB := Lib.hid hb
          obtain ⟨L, hL⟩ : ∃ L, L = cellsTo M (16 * y + x) := ⟨_, rfl⟩
          rw [← hL] at HO hlen hyes hno ⊢
          have hLl : L.length ≤ 256 := by omega
          have hLrow := Lib.hid hL
          clear ho h0 hb hL hlen
          cases hbt : bitB M x y
          · have HN := Lib.hid (hno hbt)
            rw [hbt] at hbe
            clear hbt hyes hno
            go_wp2
            exact ⟨⟨x + 1, by omega, by go_num, ⟨g, cc, by rw [show 16 * y + (x + 1) = 16 * y + x + 1 from rfl, HN.out]⟩, by rw [show 16 * y + (x + 1) = 16 * y + x + 1 from rfl, HN.out]; exact HO.out, H0.out, by omega, HB.out⟩, by simp [intOf]; omega⟩
          · have HY := Lib.hid (hyes hbt)
            rw [hbt] at hbe
            clear hbt hyes hno
            have hrw : Rows_ 2 L := by rw [hLrow.out]; exact cellsTo_rows _ _
            have hpl : (pvs L).length = L.length * 2 := by rw [pvs, List.length_map, flat_length hrw]
            clear hrw hLrow
            have HN2 := Lib.hid (pair_news wr x y)
            go_wp2_with (at_builtin; refine wpList_append_own _ rfl _ _ 56 rfl (w.heap.size + 1) 60 i0 _ 2 8 Try.underlying56 hi hz0 hz1 hzb rfl (by decide) (.slice (some ⟨g, 0, none⟩) L.length cc) L.length _ rfl (HO.out.alloc _) ⟨wr.heap.size, 0, none⟩ 1 1 (pvs [[(x : Int), (y : Int)]]) rfl rfl HN2.out pvs_one (by unfold maxLen; omega) (by omega) (by rw [size_alloc]; omega) ?_; intro v' w3 hown' hgrow _; rw [← pvs_append] at hown'; have HOWN := Lib.hid hown'; have HGR := Lib.hid hgrow; clear hown' hgrow)
            obtain ⟨A1, c1', hve, hOO⟩ := Own.of_row HOWN.out
            obtain ⟨g2, cur1, hA1, _⟩ := hOO.at_ (by omega)
            subst hve hA1
            have hne := fun j e => (HO.out.lt j e).1
            have hle : (cellsTo M (16 * y + (x + 1))).length = L.length + 1 := by rw [show 16 * y + (x + 1) = 16 * y + x + 1 from rfl, HY.out]; simp
            refine ⟨⟨x + 1, by omega, by go_num, ⟨g2, c1', by rw [hle]⟩, ?_, (H0.out.alloc _).grown HGR.out (fun e => by have := hne _ e.symm; omega), by have := HGR.out.size; rw [size_alloc] at this; omega, (HB.out.alloc (by omega) _).grown HGR.out (by rw [size_alloc]; omega) (fun j e => by have := hne j e; omega)⟩, by simp [intOf]; omega⟩
            rw [hle, show 16 * y + (x + 1) = 16 * y + x + 1 from rfl, HY.out]
            exact HOWN.out
        · obtain rfl : x = 16 := by omega
          have HO := Lib.hid ho
          have H0 := Lib.hid h0
          have HB := Lib.hid hb
          clear ho h0 hb
          go_wp2
          exact ⟨⟨y + 1, by omega, by go_num, ⟨g, cc, rfl⟩, HO.out, H0.out, hz, HB.out⟩, by simp [intOf]; omega⟩
    · obtain rfl : y = 16 := by omega
      obtain ⟨A1, c1', hve, hO⟩ := Own.of_row ho
      cases hve
      have HO := Lib.hid hO
      have HB := Lib.hid hb
      clear ho h0 hb hO
      go_wp2
      go_ret
      exact ⟨g, cc, rfl, HO.out.less (by omega), HB.out⟩
end Go.Proofs.Ytmagaapdijapiaa
namespace Go.Proofs.Ytmagaapdijapiaa
open Go.ChangeShapes Go.WideShapes Go.ChangeAt Go.RowKit
def mv (X Y : Int) (f : List Int) : List Int := [f.getD 0 0 + 16 * X, f.getD 1 0 + 16 * Y]
def bCells (b : Bl) : List (List Int) := (mCells b.2).map (mv (b.1.getD 0 0) (b.1.getD 1 0))
def inFar (b : Bl) : Prop := (-62501 ≤ b.1.getD 0 0 ∧ b.1.getD 0 0 ≤ 62501) ∧ (-62501 ≤ b.1.getD 1 0 ∧ b.1.getD 1 0 ≤ 62501)
theorem vset_cell {sz : Nat} {l : List (List Int)} {a j : Nat} (h : Rows_ sz l) (ha : a < l.length) (hj : j < sz) (v : Int) : (l.set a ((l[a]).set j v)).flatten = l.flatten.set (a * sz + j) v := by
  have hs : Rows_ sz (l.set a ((l[a]).set j v)) := fun f hf => by
    rcases List.mem_or_eq_of_mem_set hf with h1 | h1
    · exact h f h1
    · rw [h1, List.length_set]; exact h _ (List.getElem_mem ha)
  apply List.ext_getElem?
  intro i
  by_cases hi : i < l.length * sz
  · have h0 : 0 < sz := by omega
    have hq : i / sz < l.length := by rw [Nat.div_lt_iff_lt_mul h0]; exact hi
    have hr : i % sz < sz := Nat.mod_lt _ h0
    have e : i / sz * sz + i % sz = i := by rw [Nat.mul_comm]; exact Nat.div_add_mod i sz
    have g1 := flat_get hs (i := i / sz) (j := i % sz) (by rw [List.length_set]; exact hq) hr
    have g2 := flat_get h hq hr
    rw [e] at g1 g2
    rw [g1, List.getElem?_set]
    have hlen : i < l.flatten.length := by rw [flat_length h]; exact hi
    by_cases hij : a * sz + j = i
    · subst hij
      have h1 : (a * sz + j) / sz = a := by rw [Nat.mul_comm, Nat.mul_add_div h0, Nat.div_eq_of_lt hj, Nat.add_zero]
      have h2 : (a * sz + j) % sz = j := by rw [Nat.mul_comm, Nat.mul_add_mod, Nat.mod_eq_of_lt hj]
      simp only [h1, h2, List.getElem_set_self, if_true, hlen]
    · rw [if_neg hij, g2]
      by_cases hqa : a = i / sz
      · have hne : j ≠ i % sz := fun e2 => hij (by rw [hqa, e2]; exact e)
        subst hqa
        simp only [List.getElem_set_self, Option.some.injEq]
        rw [List.getElem_set_ne hne]
      · simp only [Option.some.injEq]
        congr 1
        rw [List.getElem_set_ne hqa]
  · rw [List.getElem?_eq_none (by rw [flat_length hs, List.length_set]; omega), List.getElem?_eq_none (by rw [List.length_set, flat_length h]; omega)]
theorem pvs_get {l : List (List Int)} (h : Rows_ 2 l) {k j : Nat} (hk : k < l.length) (hj : j < 2) : (pvs l)[k * 2 + j]? = some (.int .i32 ((l[k]).getD j 0)) := by
  have h1 := flat_get h hk hj
  rw [pvs, List.getElem?_map, h1, List.getD_eq_getElem?_getD, List.getElem?_eq_getElem (by rw [h.at_ hk]; exact hj)]
  rfl
theorem pvs_set {l : List (List Int)} (h : Rows_ 2 l) {k j : Nat} (hk : k < l.length) (hj : j < 2) (v : Int) : (pvs l).set (k * 2 + j) (.int .i32 v) = pvs (l.set k ((l[k]).set j v)) := by
  rw [pvs, pvs, vset_cell h hk hj, List.map_set]
section
variable {w : World} {lo hi g : Nat} {e : TypeId} {size n c : Nat} {xs : List Value}
theorem Own.setV (h : Own w lo hi e size (some ⟨g, 0, none⟩) n c xs) (j : Nat) (v : Value) : Own (w.setCell ⟨g, j, none⟩ v) lo hi e size (some ⟨g, 0, none⟩) n c (xs.set j v) := by
  obtain ⟨hl, h⟩ := h
  refine ⟨by simp [hl], ?_⟩
  rcases h with ⟨h, _⟩ | ⟨g', cur, h1, h2, h3, h4, h5, h6, h7, h8⟩
  · cases h
  · cases h1
    refine .inr ⟨g, _, rfl, h2, h3, h4.set_ j v, h5, h6, by simp [h7], ?_⟩
    rw [← h8, Array.toList_setIfInBounds, List.take_set]
theorem Own.cellV (h : Own w lo hi e size (some ⟨g, 0, none⟩) n c xs) {j : Nat} {u : Value} (hu : xs[j]? = some u) : w.cell? ⟨g, j, none⟩ = some u ∧ w.frozen? ⟨g, j, none⟩ = false := by
  rcases h.2 with ⟨h, _⟩ | ⟨g', cur, h1, h2, h3, h4, h5, h6, h7, h8⟩
  · cases h
  · cases h1
    refine ⟨?_, h4.frozen j⟩
    rw [h4.cell]
    rw [← h8, List.getElem?_take] at hu
    split at hu
    · simpa using hu
    · cases hu
theorem Own.blk_ (h : Own w lo hi e size (some ⟨g, 0, none⟩) n c xs) : lo ≤ g ∧ g < hi := by
  rcases h.2 with ⟨h, _⟩ | ⟨g', cur, h1, h2, h3, _⟩
  · cases h
  · cases h1
    exact ⟨h2, h3⟩
end
theorem mCells_at {M : List Int} {k : Nat} (h : k < (mCells M).length) : ∃ x y : Nat, x < 16 ∧ y < 16 ∧ (mCells M)[k] = [(x : Int), (y : Int)] := by
  have hm : (mCells M)[k] ∈ mCells M := List.getElem_mem h
  obtain ⟨j, hj, he⟩ := List.mem_map.1 (show (mCells M)[k] ∈ ((List.range 256).filter fun j => bitB M (j % 16) (j / 16)).map (fun j => [((j % 16 : Nat) : Int), ((j / 16 : Nat) : Int)]) from hm)
  have hj2 := (List.mem_filter.1 hj).1
  have := List.mem_range.1 hj2
  exact ⟨j % 16, j / 16, by omega, by omega, he.symm⟩
/-- the first k cells are moved -/
def moved (L : List (List Int)) (X Y : Int) (k : Nat) : List (List Int) := (L.take k).map (mv X Y) ++ L.drop k
theorem moved_rows {L : List (List Int)} (h : Rows_ 2 L) (X Y : Int) (k : Nat) : Rows_ 2 (moved L X Y k) := fun f hf => by
  rcases List.mem_append.1 hf with h1 | h1
  · obtain ⟨g, _, rfl⟩ := List.mem_map.1 h1; rfl
  · exact h f (List.mem_of_mem_drop h1)
theorem moved_length (L : List (List Int)) (X Y : Int) (k : Nat) : (moved L X Y k).length = L.length := by
  rw [moved, List.length_append, List.length_map, List.length_take, List.length_drop]
  omega
theorem moved_at {L : List (List Int)} {X Y : Int} {k : Nat} (h : k < L.length) : (moved L X Y k)[k]'(by rw [moved_length]; exact h) = L[k] := by
  have hl : ((L.take k).map (mv X Y)).length = k := by rw [List.length_map, List.length_take]; omega
  simp only [moved]
  rw [List.getElem_append_right (by omega), List.getElem_drop]
  congr 1
  omega
theorem moved_succ {L : List (List Int)} {X Y : Int} {k : Nat} (h : k < L.length) : (moved L X Y k).set k (mv X Y L[k]) = moved L X Y (k + 1) := by
  have hl : ((L.take k).map (mv X Y)).length = k := by rw [List.length_map, List.length_take]; omega
  rw [moved, List.set_append_right _ _ (by omega), hl, Nat.sub_self, List.drop_eq_getElem_cons h, List.set_cons_zero, moved, List.take_succ_eq_append_getElem h, List.map_append, List.append_assoc]
  rfl
set_option maxRecDepth 20000 in
set_option maxHeartbeats 3200000 in
theorem iCells_any (b : Bl) (hb : b.1.length = 2 ∧ b.2.length = 16) (h16 : is16 b.2) (hf : inFar b) (w : World) :
    Calls Try.prog 74 #[.agg (bav b)] w (GivesCells (bCells b) w) := by
  have h0 : Blk (w.alloc (.cells (bav b) 78)) w.heap.size 78 (bav b) := Blk.newAt rfl rfl
  have r2 := Lib.hid (h0.rangeV (bav_at2 hb))
  have H0 := Lib.hid h0
  have HC := Lib.hid (iCellsOf_any b.2 hb.2 h16)
  clear h0
  go_enter Try.func74, Try.ntmps74
  go_wp2_with (first
    | refine wpList_load_ivs rfl _ _ rfl w.heap.size 2 rfl .u16 b.2 _ r2.out Try.underlying76 rfl (by rw [hb.2]; exact size76) ?_
    | (go_at_call 121; refine (HC.out _).mono ?_; rintro e w2 ⟨g, c, rfl, hO, hb2⟩; have z2 := hb2.size; rw [size_alloc] at z2; have H2 := Lib.hid (H0.out.below hb2 H0.out.lt); have HO := Lib.hid hO; have HB := Lib.hid (((Below.refl w.heap.size w).alloc (Nat.le_refl _) (.cells (bav b) 78)).trans (hb2.mono (by rw [size_alloc]; omega))); clear hO hb2))
  have hX := hf.1
  have hY := hf.2
  have hcl : (mCells b.2).length ≤ 256 := cellsTo_length _ _
  have hrow : Rows_ 2 (mCells b.2) := cellsTo_rows _ _
  have hc0 : ∀ j u, (bvs b)[j]? = some u → (bav b)[j]? = some u := fun j u h => by rw [bav, List.getElem?_toArray]; exact h
  have hX0 : (bav b)[0]? = some (.int .i32 (b.1.getD 0 0)) := by
    have := bav_at1 hb 0 (.int .i32 (b.1.getD 0 0)) (by rw [List.getElem?_map, List.getD_eq_getElem?_getD, List.getElem?_eq_getElem (by rw [hb.1]; omega)]; rfl)
    rwa [Nat.zero_add] at this
  have hY0 : (bav b)[1]? = some (.int .i32 (b.1.getD 1 0)) := by
    have := bav_at1 hb 1 (.int .i32 (b.1.getD 1 0)) (by rw [List.getElem?_map, List.getD_eq_getElem?_getD, List.getElem?_eq_getElem (by rw [hb.1]; omega)]; rfl)
    rwa [Nat.zero_add] at this
  have HROW := Lib.hid hrow
  have HX0 := Lib.hid hX0
  have HY0 := Lib.hid hY0
  have HBC : Hid (bCells b = (mCells b.2).map (mv (b.1.getD 0 0) (b.1.getD 1 0))) := Lib.hid rfl
  have HAT := Lib.hid (fun k h => mCells_at (M := b.2) (k := k) h)
  have ho0 : Own w2 (w.heap.size + 1) w2.heap.size 60 2 (some ⟨g, 0, none⟩) (mCells b.2).length c (pvs (moved (mCells b.2) (b.1.getD 0 0) (b.1.getD 1 0) 0)) := by
    have := HO.out
    rw [size_alloc] at this
    exact this
  have HO0 := Lib.hid ho0
  clear hrow hX0 hY0 hc0 HO ho0 hf H0 HC
  generalize b.1.getD 0 0 = X at *
  generalize b.1.getD 1 0 = Y at *
  generalize bCells b = BC at *
  generalize mCells b.2 = L at *
  go_loopw [10] (fun i wr => ∃ k : Nat, k ≤ L.length ∧ i = .int .i64 k ∧ Own wr (w.heap.size + 1) wr.heap.size 60 2 (some ⟨g, 0, none⟩) L.length c (pvs (moved L X Y k)) ∧ Blk wr w.heap.size 78 (bav b) ∧ wr.heap.size = w2.heap.size ∧ Below w.heap.size w wr) (fun i _ => L.length - (intOf i).toNat)
  case atStart => exact ⟨0, by omega, rfl, HO0.out, H2.out, rfl, HB.out⟩
  case round =>
    clear HO0 H2 HB
    obtain ⟨k, hk, rfl, ho, h0, hz, hbl⟩ := hrel
    by_cases hlt : k < L.length
    · have hlt' : (k : Int) < L.length := by omega
      obtain ⟨x, y, hx, hy, hxy⟩ := HAT.out k hlt
      have hr := moved_rows HROW.out X Y k
      have hlen := moved_length L X Y k
      have hat := moved_at (X := X) (Y := Y) hlt
      have g0 := pvs_get hr (k := k) (j := 0) (by omega) (by omega)
      have g1 := pvs_get hr (k := k) (j := 1) (by omega) (by omega)
      rw [hat, hxy] at g0 g1
      obtain ⟨c0, f0⟩ := ho.cellV g0
      obtain ⟨c1, f1⟩ := ho.cellV g1
      have d0 := (h0.cell 0).trans HX0.out
      have d1 := (h0.cell 1).trans HY0.out
      have hgb := ho.blk_
      simp only [Nat.add_zero] at c0 f0
      obtain ⟨R, hR⟩ : ∃ R, R = (moved L X Y k).set k [(x : Int) + 16 * X, (y : Int)] := ⟨_, rfl⟩
      have hRr : Rows_ 2 R := fun f hf => by
        rw [hR] at hf
        rcases List.mem_or_eq_of_mem_set hf with h | h
        · exact hr f h
        · rw [h]; rfl
      have hRl : R.length = L.length := by rw [hR, List.length_set, hlen]
      have hRk : R[k]'(by omega) = [(x : Int) + 16 * X, (y : Int)] := by simp only [hR, List.getElem_set_self]
      have s1 : (pvs (moved L X Y k)).set (k * 2) (.int .i32 ((x : Int) + 16 * X)) = pvs R := by
        have := pvs_set hr (k := k) (j := 0) (by omega) (by omega) ((x : Int) + 16 * X)
        rw [hat, hxy] at this
        rw [hR]
        exact this
      have s2 : (pvs R).set (k * 2 + 1) (.int .i32 ((y : Int) + 16 * Y)) = pvs (moved L X Y (k + 1)) := by
        have := pvs_set hRr (k := k) (j := 1) (by omega) (by omega) ((y : Int) + 16 * Y)
        rw [hRk] at this
        rw [this, hR, List.set_set, ← moved_succ hlt, hxy]
        rfl
      have o5 := (ho.setV (k * 2) (.int .i32 ((x : Int) + 16 * X))).drew
      rw [s1] at o5
      have g5 := pvs_get hRr (k := k) (j := 1) (by omega) (by omega)
      rw [hRk] at g5
      have O5 := Lib.hid o5
      have B5 : Hid (Blk (wr.setCell ⟨g, k * 2, none⟩ (.int .i32 ((x : Int) + 16 * X))).drew w.heap.size 78 (bav b)) := Lib.hid ((h0.far (p := ⟨g, k * 2, none⟩) (show w.heap.size ≠ g by omega) _).drew)
      have BB5 : Hid (Below w.heap.size w (wr.setCell ⟨g, k * 2, none⟩ (.int .i32 ((x : Int) + 16 * X))).drew) := Lib.hid (below_drew (hbl.setCell (p := ⟨g, k * 2, none⟩) (show w.heap.size ≤ g by omega) _))
      have HS2 := Lib.hid s2
      have G5 := Lib.hid g5
      have HZ : Hid ((wr.setCell ⟨g, k * 2, none⟩ (.int .i32 ((x : Int) + 16 * X))).drew.heap.size = w2.heap.size) := Lib.hid (by show (wr.setCell _ _).heap.size = _; rw [size_setCell]; exact hz)
      clear g0 g1 hat s1 s2 o5 g5 hR hRr hRl hRk hr hlen ho h0 hbl hxy
      go_wp2
      go_region
      generalize (wr.setCell ⟨g, k * 2, none⟩ (.int .i32 ((x : Int) + 16 * X))).drew = w5 at *
      obtain ⟨c5, f5⟩ := O5.out.cellV G5.out
      have d5 := (B5.out.cell 1).trans HY0.out
      have hgb5 := O5.out.blk_
      simp only [List.getD_cons_succ, List.getD_cons_zero] at c5
      clear c0 f0 c1 f1 d0 d1
      go_wp2
      go_region
      go_wp2
      refine ⟨⟨k + 1, by omega, by go_num, ?_, ((B5.out.far (p := ⟨g, k * 2 + 1, none⟩) (show w.heap.size ≠ g by omega) _).drew), by show (w5.setCell _ _).heap.size = _; rw [size_setCell]; exact HZ.out, below_drew (BB5.out.setCell (p := ⟨g, k * 2 + 1, none⟩) (show w.heap.size ≤ g by omega) _)⟩, by simp [intOf]; omega⟩
      rw [← HS2.out]
      have := (O5.out.setV (k * 2 + 1) (.int .i32 ((y : Int) + 16 * Y))).drew
      have e5 : (w5.setCell ⟨g, k * 2 + 1, none⟩ (.int .i32 ((y : Int) + 16 * Y))).drew.heap.size = w5.heap.size := by show (w5.setCell _ _).heap.size = _; rw [size_setCell]
      rw [e5]
      exact this.more (by have := HZ.out; omega)
    · obtain rfl : k = L.length := by omega
      have e : moved L X Y L.length = L.map (mv X Y) := by rw [moved, List.take_length, List.drop_length, List.append_nil]
      rw [e] at ho
      have HO := Lib.hid ho
      have HBL := Lib.hid hbl
      clear ho h0 hbl
      go_wp2
      go_ret
      refine ⟨g, c, ?_, ?_, HBL.out⟩
      · rw [HBC.out, List.length_map]; rfl
      · rw [HBC.out, List.length_map]; exact HO.out.less (by omega)
end Go.Proofs.Ytmagaapdijapiaa
namespace Go.Proofs.Ytmagaapdijapiaa
open Go.ChangeShapes Go.WideShapes Go.ChangeAt Go.RowKit
theorem inR_any (n lo hi : Int) (w : World) : Calls Try.prog 122 #[.int .i64 n, .int .i64 lo, .int .i64 hi] w fun e w' => e = .returned (.bool (inB n lo hi)) ∧ w = w' := by
  go_enter Try.func122, Try.ntmps122
  by_cases h : lo ≤ n
  · go_wp2
    go_ret
    exact ⟨by simp [inB, h], rfl⟩
  · go_wp2
    go_ret
    exact ⟨by simp [inB]; omega, rfl⟩
theorem inR32_any (n lo hi : Int) (w : World) : Calls Try.prog 72 #[.int .i32 n, .int .i32 lo, .int .i32 hi] w fun e w' => e = .returned (.bool (inB n lo hi)) ∧ w = w' := by
  go_enter Try.func72, Try.ntmps72
  by_cases h : lo ≤ n
  · go_wp2
    go_ret
    exact ⟨by simp [inB, h], rfl⟩
  · go_wp2
    go_ret
    exact ⟨by simp [inB]; omega, rfl⟩
def cellB (x y : Int) : Bool := inB x (-1000000) 1000000 && inB y (-1000000) 1000000
theorem isCell_any (x y : Int) (w : World) : Calls Try.prog 76 #[.int .i64 x, .int .i64 y] w fun e w' => e = .returned (.bool (cellB x y)) ∧ w = w' := by
  have h1 := fun W => inR_any x (-1000000) 1000000 W
  have h2 := fun W => inR_any y (-1000000) 1000000 W
  have hc : cellB x y = (inB x (-1000000) 1000000 && inB y (-1000000) 1000000) := rfl
  rw [hc]
  generalize inB x (-1000000) 1000000 = b1 at *
  generalize inB y (-1000000) 1000000 = b2 at *
  clear hc
  cases b1
  · go_enter Try.func76, Try.ntmps76
    go_wp2_with (go_at_call 122; refine (h1 _).mono ?_; rintro e w1 ⟨rfl, rfl⟩)
    go_ret
    exact ⟨rfl, rfl⟩
  · go_enter Try.func76, Try.ntmps76
    go_wp2_with fail
    refine (h1 _).mono ?_
    rintro e w1 ⟨rfl, rfl⟩
    go_wp2_with fail
    refine (h2 _).mono ?_
    rintro e w1 ⟨rfl, rfl⟩
    go_wp2
    go_ret
    exact ⟨rfl, rfl⟩
theorem l07Cell_any (x y : Int) (w : World) : Calls Try.prog 130 #[.int .i64 x, .int .i64 y] w fun e w' => e = .returned (.bool (cellB x y)) ∧ w = w' := by
  have h1 := fun W => l00In_any x (-1000000) 1000000 W
  have h2 := fun W => l00In_any y (-1000000) 1000000 W
  have hc : cellB x y = (inB x (-1000000) 1000000 && inB y (-1000000) 1000000) := rfl
  rw [hc]
  generalize inB x (-1000000) 1000000 = b1 at *
  generalize inB y (-1000000) 1000000 = b2 at *
  clear hc
  cases b1
  · go_enter Try.func130, Try.ntmps130
    go_wp2_with (go_at_call 136; refine (h1 _).mono ?_; rintro e w1 ⟨rfl, rfl⟩)
    go_ret
    exact ⟨rfl, rfl⟩
  · go_enter Try.func130, Try.ntmps130
    go_wp2_with fail
    refine (h1 _).mono ?_
    rintro e w1 ⟨rfl, rfl⟩
    go_wp2_with fail
    refine (h2 _).mono ?_
    rintro e w1 ⟨rfl, rfl⟩
    go_wp2
    go_ret
    exact ⟨rfl, rfl⟩
def cmpI (x y : Int) : Int := if x < y then -1 else if y < x then 1 else 0
theorem nan32_any (x : Int) (w : World) : Calls Try.prog 145 #[.int .i32 x] w fun e w' => e = .returned (.bool false) ∧ w = w' := by
  go_enter Try.func145, Try.ntmps145
  go_wp2
  go_ret
  exact ⟨by simp, rfl⟩
theorem cmpI_any (x y : Int) (w : World) : Calls Try.prog 119 #[.int .i32 x, .int .i32 y] w fun e w' => e = .returned (.int .i64 (cmpI x y)) ∧ w = w' := by
  have h1 := fun x W => nan32_any x W
  have hc : cmpI x y = if x < y then -1 else if y < x then 1 else 0 := rfl
  rw [hc]
  by_cases h : x < y
  · go_enter Try.func119, Try.ntmps119
    go_wp2_with (go_at_call 145; refine (h1 _ _).mono ?_; rintro e w1 ⟨rfl, rfl⟩)
    go_ret
    exact ⟨by simp, rfl⟩
  · by_cases h' : y < x
    · go_enter Try.func119, Try.ntmps119
      go_wp2_with (go_at_call 145; refine (h1 _ _).mono ?_; rintro e w1 ⟨rfl, rfl⟩)
      go_ret
      exact ⟨by simp, rfl⟩
    · go_enter Try.func119, Try.ntmps119
      go_wp2_with (go_at_call 145; refine (h1 _ _).mono ?_; rintro e w1 ⟨rfl, rfl⟩)
      go_ret
      exact ⟨by simp, rfl⟩
def orI (a b : Int) : Int := if a = 0 then b else a
end Go.Proofs.Ytmagaapdijapiaa
namespace Go.Proofs.Ytmagaapdijapiaa
open Go.ChangeShapes Go.WideShapes Go.ChangeAt Go.RowKit
theorem still_tail {P : Program} {id : Nat} {Q : Exit → Act → World → Prop} {a : Act} {w : World} {l : List Oper} (n : Nat) (hm : P.follows .mixedOrders = true) (hB : Region.lexTailB .any l.toArray n = true)
    (h : wpStill P l.toArray w.drew (fun a' => wpList P l.toArray Q (l.drop n) a' w.drew) (l.take n) a) : (Code.region id l.toArray true).wp P Q a w := wp_region_still_tail n hm hB h
theorem two_eq {A : List Int} (h : A.length = 2) : A = [A.getD 0 0, A.getD 1 0] := by
  match A, h with
  | [a, b], _ => rfl
set_option maxHeartbeats 800000 in
theorem orI_any (g c : Nat) (a b : Int) (w : World) (h : Blk w g 3 (ivs .i64 [a, b])) :
    Calls Try.prog 118 #[.slice (some ⟨g, 0, none⟩) 2 c] w fun e w' => e = .returned (.int .i64 (orI a b)) ∧ w = w' := by
  have c0 : w.cell? ⟨g, 0, none⟩ = some (.int .i64 a) := h.cell 0
  have c1 : w.cell? ⟨g, 1, none⟩ = some (.int .i64 b) := h.cell 1
  clear h
  have ho : orI a b = if a = 0 then b else a := rfl
  rw [ho]
  go_enter Try.func118, Try.ntmps118
  go_wp2
  go_loopw [8] (fun i wr => ∃ k : Nat, k ≤ 2 ∧ i = .int .i64 k ∧ (1 ≤ k → a = 0) ∧ (2 ≤ k → b = 0) ∧ wr = w) (fun i _ => 2 - (intOf i).toNat)
  case atStart => exact ⟨0, by omega, rfl, by omega, by omega, rfl⟩
  case round =>
    obtain ⟨k, hk, rfl, h1, h2, rfl⟩ := hrel
    have hcs : k = 0 ∨ k = 1 ∨ k = 2 := by omega
    rcases hcs with rfl | rfl | rfl
    · by_cases ha : a = 0
      · subst ha
        go_wp2
        exact ⟨⟨1, by omega, by go_num, by simp, by omega, by simp⟩, by simp [intOf]⟩
      · go_wp2
        go_ret
        exact ⟨by simp, rfl⟩
    · have ha := h1 (by omega)
      subst ha
      by_cases hb : b = 0
      · subst hb
        go_wp2
        exact ⟨⟨2, by omega, by go_num, by simp, by simp, by simp⟩, by simp [intOf]⟩
      · go_wp2
        go_ret
        exact ⟨by simp, rfl⟩
    · have ha := h1 (by omega)
      have hb := h2 (by omega)
      subst ha hb
      go_wp2
      go_ret
      exact ⟨by simp, rfl⟩
def cmpC (a0 a1 b0 b1 : Int) : Int := orI (cmpI a1 b1) (cmpI a0 b0)
set_option maxRecDepth 20000 in
set_option maxHeartbeats 1600000 in
theorem compareCorners_any (a0 a1 b0 b1 : Int) (w : World) :
    Calls Try.prog 71 #[.agg #[.int .i32 a0, .int .i32 a1], .agg #[.int .i32 b0, .int .i32 b1]] w fun e w' => e = .returned (.int .i64 (cmpC a0 a1 b0 b1)) ∧ Below w.heap.size w w' := by
  have h1 := fun W => cmpI_any a1 b1 W
  have h0 := fun W => cmpI_any a0 b0 W
  have hc : cmpC a0 a1 b0 b1 = orI (cmpI a1 b1) (cmpI a0 b0) := rfl
  have bW : Below w.heap.size w ((w.alloc (.cells #[.int .i32 a0, .int .i32 a1] 63)).alloc (.cells #[.int .i32 b0, .int .i32 b1] 63)) := ((Below.refl _ _).alloc (Nat.le_refl _) _).alloc (by simp) _
  have BW := Lib.hid bW
  rw [hc]
  generalize cmpI a1 b1 = x at *
  generalize cmpI a0 b0 = y at *
  have ho := fun g c W h => orI_any g c x y W h
  generalize orI x y = z at *
  clear bW hc
  go_enter Try.func71, Try.ntmps71
  have s1 : ∀ W, Calls Try.prog 119 #[.int .i32 a1, .int .i32 b1] W fun e W' => e = .returned (.int .i64 x) ∧ W' = W := fun W => (h1 W).mono (by rintro _ _ ⟨rfl, rfl⟩; exact ⟨rfl, rfl⟩)
  have s0 : ∀ W, Calls Try.prog 119 #[.int .i32 a0, .int .i32 b0] W fun e W' => e = .returned (.int .i64 y) ∧ W' = W := fun W => (h0 W).mono (by rintro _ _ ⟨rfl, rfl⟩; exact ⟨rfl, rfl⟩)
  have k0 : Blk ((w.alloc (.cells #[.int .i32 a0, .int .i32 a1] 63)).alloc (.cells #[.int .i32 b0, .int .i32 b1] 63)) w.heap.size 63 #[.int .i32 a0, .int .i32 a1] := (Blk.newAt rfl rfl).alloc _
  have k1 : Blk ((w.alloc (.cells #[.int .i32 a0, .int .i32 a1] 63)).alloc (.cells #[.int .i32 b0, .int .i32 b1] 63)) (w.heap.size + 1) 63 #[.int .i32 b0, .int .i32 b1] := Blk.newAt (by simp) rfl
  have K := Lib.hid (And.intro (k0.drew) (And.intro k1.drew (below_drew BW.out)))
  clear k0 k1 BW
  go_wp2_with fail
  refine still_tail 10 (by kernel_rfl) (by kernel_rfl) ?_
  generalize World.drew _ = w2 at *
  have c00 : w2.cell? ⟨w.heap.size, 0, none⟩ = some (.int .i32 a0) := K.out.1.cell 0
  have c01 : w2.cell? ⟨w.heap.size, 1, none⟩ = some (.int .i32 a1) := K.out.1.cell 1
  have c10 : w2.cell? ⟨w.heap.size + 1, 0, none⟩ = some (.int .i32 b0) := K.out.2.1.cell 0
  have c11 : w2.cell? ⟨w.heap.size + 1, 1, none⟩ = some (.int .i32 b1) := K.out.2.1.cell 1
  simp only [List.take_succ_cons, List.take_zero, List.drop_succ_cons, List.drop_zero]
  repeat still_step
  still_call (s1 _)
  repeat still_step
  still_call (s0 _)
  repeat still_step
  refine wpStill_nil ?_
  go_wp2_with (go_at_call 118; refine (ho _ _ _ (Blk.newAt rfl rfl)).mono ?_; rintro e w1 ⟨rfl, rfl⟩)
  go_ret
  exact ⟨rfl, K.out.2.2.alloc K.out.2.2.size _⟩
set_option maxHeartbeats 800000 in
theorem vp1_any (x y : Int) (hx : -2147483648 ≤ x ∧ x ≤ 2147483647) (hy : -2147483648 ≤ y ∧ y ≤ 2147483647) (w : World) :
    Calls Try.prog 75 #[.agg #[.int .i32 x, .int .i32 y]] w fun e w' => e = .returned (.bool (!cellB x y)) ∧ Below w.heap.size w w' := by
  have h1 := fun W => isCell_any x y W
  generalize cellB x y = b at *
  go_enter Try.func75, Try.ntmps75
  go_wp2_with (go_at_call 76; refine (h1 _).mono ?_; rintro e w1 ⟨rfl, rfl⟩)
  go_ret
  exact ⟨rfl, (Below.refl _ _).alloc (Nat.le_refl _) _⟩
end Go.Proofs.Ytmagaapdijapiaa
namespace Go.Proofs.Ytmagaapdijapiaa
open Go.ChangeShapes Go.WideShapes Go.ChangeAt Go.RowKit
def okCells (l : List (List Int)) : Bool := l.all fun f => cellB (f.getD 0 0) (f.getD 1 0)
def small2 (l : List (List Int)) : Prop := ∀ f ∈ l, (-2147483648 ≤ f.getD 0 0 ∧ f.getD 0 0 ≤ 2147483647) ∧ (-2147483648 ≤ f.getD 1 0 ∧ f.getD 1 0 ≤ 2147483647)
set_option maxHeartbeats 1600000 in
theorem indexFunc_any (A : Option Addr) (n c : Nat) (l : List (List Int)) (hl : l.length = n) (hrow : Rows_ 2 l) (hs : small2 l) (hn : n ≤ 1000000) (w : World) (hR : Rd w w.heap.size 2 A n (pvs l)) :
    Calls Try.prog 120 #[.slice A n c, .func (.func 75) #[] #[]] w fun e w' => (∃ r : Int, e = .returned (.int .i64 r) ∧ (0 ≤ r ↔ okCells l = false)) ∧ Below w.heap.size w w' := by
  have HR := Lib.hid hR
  have HROW := Lib.hid hrow
  clear hR hrow
  go_enter Try.func120, Try.ntmps120
  go_wp2
  go_loopw [8] (fun i wr => ∃ k : Nat, k ≤ n ∧ i = .int .i64 k ∧ Hid (okCells (l.take k) = true) ∧ Below w.heap.size w wr) (fun i _ => n - (intOf i).toNat)
  case atStart => exact ⟨0, by omega, rfl, Lib.hid rfl, Below.refl _ _⟩
  case round =>
    obtain ⟨k, hk, rfl, hv, hb⟩ := hrel
    by_cases hlt : k < n
    · have hkl : k < l.length := by omega
      have hz := hb.size
      obtain ⟨b, o, rfl, hbB, hc⟩ := (HR.out.below hb (Nat.le_refl _)).at_ (by omega)
      have hrg : wr.rangeAt b (o + k * 2) ((l[k]).map (.int .i32)) := by
        have := Rd.rangeAt (i := k * 2) (s := 2) hc
        rw [pvs, ← List.map_drop, ← List.map_take, flat_row HROW.out hkl] at this
        exact this
      have h2 := two_eq (HROW.out.at_ hkl)
      obtain ⟨hx, hy⟩ := hs _ (List.getElem_mem hkl)
      have hsn : okCells (l.take (k + 1)) = (okCells (l.take k) && cellB (l[k].getD 0 0) (l[k].getD 1 0)) := by
        rw [okCells, okCells, List.take_succ_eq_append_getElem hkl, List.all_append]
        simp
      have hno : cellB (l[k].getD 0 0) (l[k].getD 1 0) = false → okCells l = false := fun h => by
        rw [okCells, List.all_eq_false]
        exact ⟨l[k], List.getElem_mem hkl, by rw [h]; decide⟩
      rw [h2] at hrg
      generalize l[k].getD 0 0 = x at *
      generalize l[k].getD 1 0 = y at *
      have HRG : Hid (wr.rangeAt b (o + k * 2) [.int .i32 x, .int .i32 y]) := Lib.hid hrg
      have HV := Lib.hid (fun W => vp1_any x y hx hy W)
      have hlt' : (k : Int) < n := by omega
      have HSN := Lib.hid hsn
      have HNO := Lib.hid hno
      have HB := Lib.hid hb
      clear hc hbB hrg h2 hsn hno hb hkl
      cases hcb : cellB x y
      · rw [hcb] at HV
        have HF := Lib.hid (HNO.out hcb)
        clear hcb HSN HNO
        go_wp2_with (first
          | refine wpList_load_mid rfl _ _ rfl b (o + k * 2) (by rfl) [.int .i32 x, .int .i32 y] _ HRG.out Try.underlying60 rfl size60 ?_
          | (go_at_call 75; refine (HV.out _).mono ?_; rintro e w2 ⟨rfl, hb2⟩; have HB2 := Lib.hid (HB.out.trans (hb2.mono hz)); clear hb2))
        go_ret
        exact ⟨⟨_, rfl, by rw [HF.out]; simp⟩, HB2.out⟩
      · rw [hcb] at HV HSN
        clear hcb HNO
        go_wp2_with (first
          | refine wpList_load_mid rfl _ _ rfl b (o + k * 2) (by rfl) [.int .i32 x, .int .i32 y] _ HRG.out Try.underlying60 rfl size60 ?_
          | (go_at_call 75; refine (HV.out _).mono ?_; rintro e w2 ⟨rfl, hb2⟩; have HB2 := Lib.hid (HB.out.trans (hb2.mono hz)); clear hb2))
        exact ⟨⟨k + 1, by omega, by go_num, Lib.hid (by rw [HSN.out, hv.out]; rfl), HB2.out⟩, by simp [intOf]; omega⟩
    · obtain rfl : k = n := by omega
      have hall : okCells l = true := by have := hv.out; rwa [List.take_of_length_le (by omega)] at this
      have HA := Lib.hid hall
      clear hall hv
      go_wp2
      go_ret
      exact ⟨⟨_, rfl, by rw [HA.out]; simp⟩, hb⟩
theorem containsFunc_any (A : Option Addr) (n c : Nat) (l : List (List Int)) (hl : l.length = n) (hrow : Rows_ 2 l) (hs : small2 l) (hn : n ≤ 1000000) (w : World) (hR : Rd w w.heap.size 2 A n (pvs l)) :
    Calls Try.prog 73 #[.slice A n c, .func (.func 75) #[] #[]] w fun e w' => e = .returned (.bool (!okCells l)) ∧ Below w.heap.size w w' := by
  have HX := Lib.hid (indexFunc_any A n c l hl hrow hs hn w hR)
  clear hR hrow hs hl
  go_enter Try.func73, Try.ntmps73
  go_wp2_with (go_at_call 120; refine HX.out.mono ?_; rintro e w2 ⟨⟨r, rfl, hr⟩, hb2⟩; have HB2 := Lib.hid hb2; have HRR := Lib.hid hr; clear hb2 hr)
  go_ret
  refine ⟨?_, HB2.out⟩
  have hr := HRR.out
  cases h : okCells l
  · have : 0 ≤ r := hr.2 h
    simp [this]
  · have : ¬ 0 ≤ r := fun e => by have := hr.1 e; rw [h] at this; cases this
    simp; omega
end Go.Proofs.Ytmagaapdijapiaa
namespace Go.Proofs.Ytmagaapdijapiaa
open Go.ChangeShapes Go.WideShapes Go.ChangeAt Go.RowKit
def emptyM (M : List Int) : Bool := M == zr16
def farB (b : Bl) : Bool := inB (b.1.getD 0 0) (-62501) 62501 && inB (b.1.getD 1 0) (-62501) 62501
def blkOk (b : Bl) : Bool := !emptyM b.2 && (farB b && okCells (bCells b))
def befB (a b : Bl) : Bool := decide (cmpC (a.1.getD 0 0) (a.1.getD 1 0) (b.1.getD 0 0) (b.1.getD 1 0) < 0)
def blkAt (l : List Bl) (k : Nat) : Bool := (k == 0 || befB (l.getD (k - 1) ([], [])) (l.getD k ([], []))) && blkOk (l.getD k ([], []))
def vpTo (l : List Bl) (k : Nat) : Bool := (List.range k).all (blkAt l)
def vpB (l : List Bl) : Bool := vpTo l l.length && decide (l.length ≤ 64)
theorem range_of_below {w w' : World} {B g o : Nat} {cs : List Value} (h : w.rangeAt g o cs) (hb : Below B w w') (hg : g < B) : w'.rangeAt g o cs := fun j v hv => (hb.cell (p := ⟨g, o + j, none⟩) hg).trans (h j v hv)
theorem put_none (a : Act) (v : Value) : a.put none v = a := rfl
/-- a world behind w: what lay below stands -/
structure After (w : World) where
  to : World
  h : Below w.heap.size w to
instance (w : World) : Nonempty (After w) := ⟨⟨w, Below.refl _ _⟩⟩
theorem region_after {P : Program} {id : Nat} {Q : Exit → Act → World → Prop} {a : Act} {w : World} {l : List Oper} (hm : P.follows .mixedOrders = true) (hB : Region.lexB .any l.toArray = true)
    (h : wpQuiet P l.toArray (fun w' => ∃ t : After w, w' = t.to) (fun a' => ∀ w', (∃ t : After w, w' = t.to) → Q .normal a' w') l a) : (Code.region id l.toArray true).wp P Q a w :=
  wp_region_quiet (C := fun w' => ∃ t : After w, w' = t.to) hm hB ⟨⟨w.drew, below_drew (Below.refl _ _)⟩, rfl⟩ (by simpa using h)
theorem After.call {P : Program} {f : FuncId} {args : Array Value} {w : World} {v : Value} (t : After w) (h : Calls P f args t.to fun e w' => e = .returned v ∧ Below t.to.heap.size t.to w') :
    Calls P f args t.to fun e w'' => e = .returned v ∧ ∃ t' : After w, w'' = t'.to :=
  h.mono fun _ w' ⟨he, hb⟩ => ⟨he, ⟨w', t.h.trans (hb.mono t.h.size)⟩, rfl⟩
theorem After.same {P : Program} {f : FuncId} {args : Array Value} {w : World} {v : Value} (t : After w) (h : Calls P f args t.to fun e w' => e = .returned v ∧ t.to = w') :
    Calls P f args t.to fun e w'' => e = .returned v ∧ ∃ t' : After w, w'' = t'.to :=
  h.mono fun _ _ ⟨he, hb⟩ => ⟨he, t, hb.symm⟩
theorem After.cell {w : World} (t : After w) {g o : Nat} (hg : g < w.heap.size) : t.to.cell? ⟨g, o, none⟩ = w.cell? ⟨g, o, none⟩ := t.h.cell (p := ⟨g, o, none⟩) hg
theorem After.row {w : World} (t : After w) {g o : Nat} {vs : List Value} (hg : g < w.heap.size) (h : w.rangeAt g o vs) : rowAt t.to g o vs.length = vs.toArray ∧ hasRow t.to g o vs.length = true := rowAt_vals (range_of_below h t.h hg)
theorem exec_ldCorner (ρ : Operand → Value) (dst : Option Tmp) (x : Operand) (t : TypeId) (pos : String) (after : Array Edge) (guard : Option (Nat × Bool)) :
    execOp ρ { dst := dst, op := .load 63 x, type := t, pos := pos, after := after, guard := guard } = ldRow 63 (ρ x) := rfl
theorem run_ldCorner : ∀ (W : World) (g o : Nat), hasRow W g o 2 = true → (ldRow 63 (.pointer (some ⟨g, o, none⟩))).run Try.prog W = .ok (.value (.agg (rowAt W g o 2))) W := run_ldRow Try.underlying63 rfl size63
theorem exec_ldMask (ρ : Operand → Value) (dst : Option Tmp) (x : Operand) (t : TypeId) (pos : String) (after : Array Edge) (guard : Option (Nat × Bool)) :
    execOp ρ { dst := dst, op := .load 76 x, type := t, pos := pos, after := after, guard := guard } = ldRow 76 (ρ x) := rfl
theorem run_ldMask : ∀ (W : World) (g o : Nat), hasRow W g o 16 = true → (ldRow 76 (.pointer (some ⟨g, o, none⟩))).run Try.prog W = .ok (.value (.agg (rowAt W g o 16))) W := run_ldRow Try.underlying76 rfl size76
theorem vpTo_succ (l : List Bl) (k : Nat) : vpTo l (k + 1) = (vpTo l k && blkAt l k) := by
  rw [vpTo, vpTo, List.range_succ, List.all_append]
  simp
theorem vpB_no {l : List Bl} {k : Nat} (hk : k < l.length) (h : blkAt l k = false) : vpB l = false := by
  have : vpTo l l.length = false := by
    rw [vpTo, List.all_eq_false]
    exact ⟨k, List.mem_range.2 hk, by rw [h]; decide⟩
  rw [vpB, this]
  rfl
theorem getDB_at {l : List Bl} {k : Nat} (hk : k < l.length) : l.getD k ([], []) = l[k] := by
  rw [List.getD_eq_getElem?_getD, List.getElem?_eq_getElem hk]
  rfl
theorem bCells_rows (b : Bl) : Rows_ 2 (bCells b) := fun f hf => by
  obtain ⟨g, _, rfl⟩ := List.mem_map.1 hf
  rfl
theorem bCells_length (b : Bl) : (bCells b).length ≤ 256 := by
  rw [bCells, List.length_map]
  exact cellsTo_length _ _
theorem bCells_small {b : Bl} (h : inFar b) : small2 (bCells b) := fun f hf => by
  obtain ⟨g, hg, rfl⟩ := List.mem_map.1 hf
  obtain ⟨k, hk, rfl⟩ := List.getElem_of_mem hg
  obtain ⟨x, y, hx, hy, e⟩ := mCells_at hk
  obtain ⟨h1, h2⟩ := h
  rw [e]
  show (-2147483648 ≤ (x : Int) + 16 * _ ∧ (x : Int) + 16 * _ ≤ 2147483647) ∧ (-2147483648 ≤ (y : Int) + 16 * _ ∧ (y : Int) + 16 * _ ≤ 2147483647)
  omega
theorem farB_in {b : Bl} (h1 : inB (b.1.getD 0 0) (-62501) 62501 = true) (h2 : inB (b.1.getD 1 0) (-62501) 62501 = true) : inFar b := by
  simp only [inB, Bool.and_eq_true, decide_eq_true_eq] at h1 h2
  exact ⟨h1, h2⟩
section
attribute [local go_sem ↓] exec_ldCorner exec_ldMask
attribute [local go_sem] run_ldCorner run_ldMask
set_option maxRecDepth 20000 in
set_option maxHeartbeats 3200000 in
theorem iValidPicture_any (A : Option Addr) (n c : Nat) (l : List Bl) (hl : l.length = n) (hrow : Bls l) (h16 : ∀ b ∈ l, is16 b.2) (_h32 : ∀ b ∈ l, ∀ x ∈ b.1, -2147483648 ≤ x ∧ x ≤ 2147483647) (hn : n ≤ 1048576) (w : World) (hR : Rd w w.heap.size 18 A n (bcs l)) :
    Calls Try.prog 33 #[.slice A n c] w fun e w' => e = .returned (.bool (vpB l)) ∧ Below w.heap.size w w' := by
  obtain ⟨iu, hiu, hu0, hu1, hu2⟩ := info_parts U16_info
  have HR := Lib.hid hR
  have HROW := Lib.hid hrow
  clear hR hrow
  go_enter Try.func33, Try.ntmps33
  go_wp2
  go_loopw [7] (fun i wr => ∃ k : Nat, k ≤ n ∧ i = .int .i64 k ∧ Hid (vpTo l k = true) ∧ Below w.heap.size w wr) (fun i _ => n - (intOf i).toNat)
  case atStart => exact ⟨0, by omega, rfl, Lib.hid rfl, Below.refl _ _⟩
  case round =>
    obtain ⟨k, hk, rfl, hv, hb⟩ := hrel
    by_cases hlt : k < n
    · have hkl : k < l.length := by omega
      have hz := hb.size
      have hRw := HR.out.below hb (Nat.le_refl _)
      obtain ⟨b, o, rfl, hbB, hc⟩ := hRw.at_ (by omega)
      have hrg := hRw.block HROW.out (by omega) hkl
      obtain ⟨hb1, hb2⟩ := HROW.out.at_ hkl
      obtain ⟨F, hF⟩ : ∃ F, F = l[k] := ⟨_, rfl⟩
      have hM16 := h16 _ (List.getElem_mem hkl)
      rw [← hF] at hrg hb1 hb2 hM16
      have heq : ∀ W : World, (Op.equalIn 10000 76 (.agg (ivs .u16 F.2)) (.agg #[.int .u16 0, .int .u16 0, .int .u16 0, .int .u16 0, .int .u16 0, .int .u16 0, .int .u16 0, .int .u16 0, .int .u16 0, .int .u16 0, .int .u16 0, .int .u16 0, .int .u16 0, .int .u16 0, .int .u16 0, .int .u16 0])).run Try.prog W = .ok (emptyM F.2) W := fun W => run_eql_arr (a := F.2) (b := zr16) W Try.underlying76 Try.underlying74 hiu (by kernel_rfl) hb2 rfl
      have h2 := two_eq hb1
      have HB := Lib.hid hb
      have HRG := Lib.hid hrg
      have HF1 := Lib.hid (And.intro hb1 hb2)
      have hlt' : (k : Int) < n := by omega
      have HEQ := Lib.hid heq
      have H2 := Lib.hid h2
      have HFE := Lib.hid hF
      clear hF hc hbB hrg hb1 hb2 h2 hb heq hRw hiu hu0 hu1 hu2
      go_wp2_with (first
        | refine wpList_load_mid rfl _ _ rfl b (o + k * 18) (by rfl) (bvs F) _ HRG.out Try.underlying78 rfl (by rw [bvs_length HF1.out]; exact size78) ?_
        | refine wpList_store_row rfl _ _ _ rfl wr.heap.size (bav F) rfl rfl 78 (bav (zr2, zr16)) (Blk.newAt rfl rfl) (by rw [bav_size HF1.out]; exact size78) (by rw [bav_size HF1.out, bav_size ⟨rfl, rfl⟩]) (bav_one F) ?_)
      rw [put_none]
      generalize hw5 : World.setRow _ _ _ = w5
      have G0 : Hid (Blk w5 wr.heap.size 78 (bav F)) := Lib.hid (by rw [← hw5]; exact (Blk.newAt rfl rfl).row _)
      have B5 : Hid (Below w.heap.size w w5) := Lib.hid (by rw [← hw5]; exact below_setRow (HB.out.alloc hz _) (g := wr.heap.size) hz _)
      have B5r : Hid (Below wr.heap.size wr w5) := Lib.hid (by rw [← hw5]; exact below_setRow ((Below.refl _ _).alloc (Nat.le_refl _) _) (g := wr.heap.size) (Nat.le_refl _) _)
      clear hw5
      have hM : w5.rangeAt wr.heap.size 2 (F.2.map (.int .u16)) := G0.out.rangeV (bav_at2 HF1.out)
      have hAt : w5.rangeAt wr.heap.size 0 (F.1.map (.int .i32)) := G0.out.rangeV (bav_at1 HF1.out)
      rw [H2.out] at hAt
      obtain ⟨X, hX⟩ : ∃ X, X = F.1.getD 0 0 := ⟨_, rfl⟩
      obtain ⟨Y, hY⟩ : ∃ Y, Y = F.1.getD 1 0 := ⟨_, rfl⟩
      rw [← hX, ← hY] at hAt
      have hAt' : w5.rangeAt wr.heap.size 0 [.int .i32 X, .int .i32 Y] := hAt
      have cX : w5.cell? ⟨wr.heap.size, 0, none⟩ = some (.int .i32 X) := hAt' 0 _ rfl
      have cY : w5.cell? ⟨wr.heap.size, 1, none⟩ = some (.int .i32 Y) := hAt' 1 _ rfl
      have HXY := Lib.hid (And.intro hX hY)
      clear hX hY hAt
      have hgw : wr.heap.size < w5.heap.size := G0.out.lt
      have tX : ∀ t : After w5, t.to.cell? ⟨wr.heap.size, 0, none⟩ = some (.int .i32 X) := fun t => (t.cell hgw).trans cX
      have tY : ∀ t : After w5, t.to.cell? ⟨wr.heap.size, 1, none⟩ = some (.int .i32 Y) := fun t => (t.cell hgw).trans cY
      have tM : ∀ t : After w5, rowAt t.to wr.heap.size 2 16 = ivs .u16 F.2 ∧ hasRow t.to wr.heap.size 2 16 = true := fun t => by
        have := t.row hgw hM
        rwa [List.length_map, HF1.out.2] at this
      have tA : ∀ t : After w5, rowAt t.to wr.heap.size 0 2 = #[.int .i32 X, .int .i32 Y] ∧ hasRow t.to wr.heap.size 0 2 = true := fun t => t.row hgw hAt'
      have tM1 := fun t => (tM t).1
      have tM2 := fun t => (tM t).2
      have tA1 := fun t => (tA t).1
      have tA2 := fun t => (tA t).2
      have heq2 := HEQ.out
      clear cX cY hM hAt' tM tA
      cases hem : emptyM F.2
      · rw [hem] at heq2
        by_cases hk0 : k = 0
        · have HNO : Hid (blkOk F = false → blkAt l k = false) := Lib.hid (fun h => by rw [blkAt, getDB_at hkl, ← HFE.out, h, Bool.and_false])
          have HVN : Hid (blkOk F = true → vpTo l (k + 1) = true) := Lib.hid (fun h => by rw [vpTo_succ, hv.out, blkAt, getDB_at hkl, ← HFE.out, h, hk0]; rfl)
          have hcmp : ∀ W : World, True := fun _ => trivial
          subst hk0
          have hbx := fun W => inR32_any X (-62501) 62501 W
          have hby := fun W => inR32_any Y (-62501) 62501 W
          rcases hx : inB X (-62501) 62501 with _ | _
          · rw [hx] at hbx
            refine region_after (by kernel_rfl) (by kernel_rfl) ?_
            repeat (go_big_quiet_step (first | (go_at_call_of 72 (Value.int .i32 X); exact After.same _ (hbx _))))
            refine wpQuiet_nil ?_
            rintro _ ⟨t, rfl⟩
            go_wp2
            go_ret
            exact ⟨by rw [vpB_no hkl (HNO.out (by rw [blkOk, farB, ← HXY.out.1, hx]; simp))]; rfl, B5.out.trans (t.h.mono B5.out.size)⟩
          · rw [hx] at hbx
            rcases hy : inB Y (-62501) 62501 with _ | _
            · rw [hy] at hby
              refine region_after (by kernel_rfl) (by kernel_rfl) ?_
              repeat (go_big_quiet_step (first | (go_at_call_of 72 (Value.int .i32 X); exact After.same _ (hbx _)) | (go_at_call_of 72 (Value.int .i32 Y); exact After.same _ (hby _))))
              refine wpQuiet_nil ?_
              rintro _ ⟨t, rfl⟩
              go_wp2
              go_ret
              exact ⟨by rw [vpB_no hkl (HNO.out (by rw [blkOk, farB, ← HXY.out.2, hy]; simp))]; rfl, B5.out.trans (t.h.mono B5.out.size)⟩
            · rw [hy] at hby
              refine region_after (by kernel_rfl) (by kernel_rfl) ?_
              repeat (go_big_quiet_step (first | (go_at_call_of 72 (Value.int .i32 X); exact After.same _ (hbx _)) | (go_at_call_of 72 (Value.int .i32 Y); exact After.same _ (hby _))))
              refine wpQuiet_nil ?_
              rintro _ ⟨t, rfl⟩
              have hfar : inFar F := farB_in (by rw [← HXY.out.1]; exact hx) (by rw [← HXY.out.2]; exact hy)
              have hT : Blk t.to wr.heap.size 78 (bav F) := (t.h.block _ hgw).trans G0.out
              have HT := Lib.hid hT
              have BT := Lib.hid (B5.out.trans (t.h.mono B5.out.size))
              have HC := Lib.hid (iCells_any F HF1.out hM16 hfar t.to)
              have HSM := Lib.hid (bCells_small hfar)
              have hfb : farB F = true := by rw [farB, ← HXY.out.1, ← HXY.out.2, hx, hy]; rfl
              have HOKB : Hid (blkOk F = okCells (bCells F)) := Lib.hid (by rw [blkOk, hem, hfb]; simp)
              clear hbx hby hx hy hT hfb tX tY tM1 tM2 tA1 tA2
              generalize t.to = w6 at *
              rcases hok : okCells (bCells F) with _ | _
              · go_wp2_with (first
                  | refine wpList_load_row rfl _ _ rfl wr.heap.size rfl 78 (bav F) (0, 0) _ HT.out Try.underlying78 rfl (by rw [bav_size HF1.out]; exact size78) ?_
                  | (go_at_call 74; refine HC.out.mono ?_; rintro e w7 ⟨g7, c7, rfl, hO7, hb7⟩; have z7 := hb7.size; have HCF := Lib.hid (containsFunc_any _ (bCells F).length c7 (bCells F) rfl (bCells_rows F) HSM.out (by have := bCells_length F; omega) w7 (hO7.rd)); have B7 := Lib.hid (BT.out.trans (hb7.mono BT.out.size)); clear hO7 hb7)
                  | (go_at_call 73; refine HCF.out.mono ?_; rw [hok]; rintro e w8 ⟨rfl, hb8⟩; have B8 := Lib.hid (B7.out.trans (hb8.mono B7.out.size)); clear hb8))
                go_ret
                exact ⟨by rw [vpB_no hkl (HNO.out (by rw [HOKB.out, hok]))]; rfl, B8.out⟩
              · go_wp2_with (first
                  | refine wpList_load_row rfl _ _ rfl wr.heap.size rfl 78 (bav F) (0, 0) _ HT.out Try.underlying78 rfl (by rw [bav_size HF1.out]; exact size78) ?_
                  | (go_at_call 74; refine HC.out.mono ?_; rintro e w7 ⟨g7, c7, rfl, hO7, hb7⟩; have z7 := hb7.size; have HCF := Lib.hid (containsFunc_any _ (bCells F).length c7 (bCells F) rfl (bCells_rows F) HSM.out (by have := bCells_length F; omega) w7 (hO7.rd)); have B7 := Lib.hid (BT.out.trans (hb7.mono BT.out.size)); clear hO7 hb7)
                  | (go_at_call 73; refine HCF.out.mono ?_; rw [hok]; rintro e w8 ⟨rfl, hb8⟩; have B8 := Lib.hid (B7.out.trans (hb8.mono B7.out.size)); clear hb8))
                exact ⟨⟨1, by omega, by go_num, Lib.hid (HVN.out (by rw [HOKB.out, hok])), B8.out⟩, by simp [intOf]; omega⟩
        · obtain ⟨j, rfl⟩ : ∃ j, k = j + 1 := ⟨k - 1, by omega⟩
          have hjl : j < l.length := by omega
          obtain ⟨hp1, hp2⟩ := HROW.out.at_ hjl
          have hgb : b < w5.heap.size := by have := B5r.out.size; obtain ⟨b', o', e', h', _⟩ := (HR.out.below HB.out (Nat.le_refl _)).at_ (by omega); cases e'; omega
          have hpg : w5.rangeAt b (o + j * 18) (l[j].1.map (.int .i32)) := by
            have h1 := (HR.out.below HB.out (Nat.le_refl _)).block HROW.out (by omega) hjl
            have h2 : wr.rangeAt b (o + j * 18) (l[j].1.map (.int .i32)) := fun q v hq => h1 q v (by
              rw [bvs, List.getElem?_append_left (by exact (List.getElem?_eq_some_iff.1 hq).1)]
              exact hq)
            exact range_of_below h2 B5r.out (by obtain ⟨b', o', e', h', _⟩ := (HR.out.below HB.out (Nat.le_refl _)).at_ (by omega); cases e'; omega)
          rw [two_eq hp1] at hpg
          have hbf : befB l[j] F = decide (cmpC (l[j].1.getD 0 0) (l[j].1.getD 1 0) X Y < 0) := by rw [befB, HXY.out.1, HXY.out.2]
          have hat : blkAt l (j + 1) = (befB l[j] F && blkOk F) := by rw [blkAt, getDB_at hkl, ← HFE.out, Nat.add_sub_cancel, getDB_at hjl]; rfl
          have HAT := Lib.hid hat
          have HBF := Lib.hid hbf
          generalize l[j].1.getD 0 0 = px at *
          generalize l[j].1.getD 1 0 = py at *
          have hpg' : w5.rangeAt b (o + j * 18) [.int .i32 px, .int .i32 py] := hpg
          have tP : ∀ t : After w5, rowAt t.to b (o + j * 18) 2 = #[.int .i32 px, .int .i32 py] ∧ hasRow t.to b (o + j * 18) 2 = true := fun t => t.row hgb hpg'
          have tP1 := fun t => (tP t).1
          have tP2 := fun t => (tP t).2
          have hcmp := fun W => compareCorners_any px py X Y W
          have hj0 : (0 : Int) ≤ j := by omega
          have hj1 : (j : Int) < n := by omega
          clear tP hpg hpg' hat hbf hp1 hp2
          generalize cmpC px py X Y = cv at *
          by_cases hcv : 0 ≤ cv
          · have hno : blkAt l (j + 1) = false := by rw [HAT.out, HBF.out, decide_eq_false (by omega)]; rfl
            refine region_after (by kernel_rfl) (by kernel_rfl) ?_
            repeat (go_big_quiet_step (first | (go_at_call 71; exact After.call _ (hcmp _))))
            refine wpQuiet_nil ?_
            rintro _ ⟨t, rfl⟩
            go_wp2
            go_ret
            exact ⟨by rw [vpB_no hkl hno]; rfl, B5.out.trans (t.h.mono B5.out.size)⟩
          · have HNO : Hid (blkOk F = false → blkAt l (j + 1) = false) := Lib.hid (fun h => by rw [HAT.out, h, Bool.and_false])
            have HVN : Hid (blkOk F = true → vpTo l (j + 1 + 1) = true) := Lib.hid (fun h => by rw [vpTo_succ, hv.out, HAT.out, HBF.out, h, decide_eq_true (by omega)]; rfl)
            have hbx := fun W => inR32_any X (-62501) 62501 W
            have hby := fun W => inR32_any Y (-62501) 62501 W
            rcases hx : inB X (-62501) 62501 with _ | _
            · rw [hx] at hbx
              refine region_after (by kernel_rfl) (by kernel_rfl) ?_
              repeat (go_big_quiet_step (first | (go_at_call 71; exact After.call _ (hcmp _)) | (go_at_call_of 72 (Value.int .i32 X); exact After.same _ (hbx _))))
              refine wpQuiet_nil ?_
              rintro _ ⟨t, rfl⟩
              go_wp2
              go_ret
              exact ⟨by rw [vpB_no hkl (HNO.out (by rw [blkOk, farB, ← HXY.out.1, hx]; simp))]; rfl, B5.out.trans (t.h.mono B5.out.size)⟩
            · rw [hx] at hbx
              rcases hy : inB Y (-62501) 62501 with _ | _
              · rw [hy] at hby
                refine region_after (by kernel_rfl) (by kernel_rfl) ?_
                repeat (go_big_quiet_step (first | (go_at_call 71; exact After.call _ (hcmp _)) | (go_at_call_of 72 (Value.int .i32 X); exact After.same _ (hbx _)) | (go_at_call_of 72 (Value.int .i32 Y); exact After.same _ (hby _))))
                refine wpQuiet_nil ?_
                rintro _ ⟨t, rfl⟩
                go_wp2
                go_ret
                exact ⟨by rw [vpB_no hkl (HNO.out (by rw [blkOk, farB, ← HXY.out.2, hy]; simp))]; rfl, B5.out.trans (t.h.mono B5.out.size)⟩
              · rw [hy] at hby
                refine region_after (by kernel_rfl) (by kernel_rfl) ?_
                repeat (go_big_quiet_step (first | (go_at_call 71; exact After.call _ (hcmp _)) | (go_at_call_of 72 (Value.int .i32 X); exact After.same _ (hbx _)) | (go_at_call_of 72 (Value.int .i32 Y); exact After.same _ (hby _))))
                refine wpQuiet_nil ?_
                rintro _ ⟨t, rfl⟩
                have hfar : inFar F := farB_in (by rw [← HXY.out.1]; exact hx) (by rw [← HXY.out.2]; exact hy)
                have hT : Blk t.to wr.heap.size 78 (bav F) := (t.h.block _ hgw).trans G0.out
                have HT := Lib.hid hT
                have BT := Lib.hid (B5.out.trans (t.h.mono B5.out.size))
                have HC := Lib.hid (iCells_any F HF1.out hM16 hfar t.to)
                have HSM := Lib.hid (bCells_small hfar)
                have hfb : farB F = true := by rw [farB, ← HXY.out.1, ← HXY.out.2, hx, hy]; rfl
                have HOKB : Hid (blkOk F = okCells (bCells F)) := Lib.hid (by rw [blkOk, hem, hfb]; simp)
                clear hbx hby hx hy hT hfb tX tY tM1 tM2 tA1 tA2
                generalize t.to = w6 at *
                rcases hok : okCells (bCells F) with _ | _
                · go_wp2_with (first
                    | refine wpList_load_row rfl _ _ rfl wr.heap.size rfl 78 (bav F) (0, 0) _ HT.out Try.underlying78 rfl (by rw [bav_size HF1.out]; exact size78) ?_
                    | (go_at_call 74; refine HC.out.mono ?_; rintro e w7 ⟨g7, c7, rfl, hO7, hb7⟩; have z7 := hb7.size; have HCF := Lib.hid (containsFunc_any _ (bCells F).length c7 (bCells F) rfl (bCells_rows F) HSM.out (by have := bCells_length F; omega) w7 (hO7.rd)); have B7 := Lib.hid (BT.out.trans (hb7.mono BT.out.size)); clear hO7 hb7)
                    | (go_at_call 73; refine HCF.out.mono ?_; rw [hok]; rintro e w8 ⟨rfl, hb8⟩; have B8 := Lib.hid (B7.out.trans (hb8.mono B7.out.size)); clear hb8))
                  go_ret
                  exact ⟨by rw [vpB_no hkl (HNO.out (by rw [HOKB.out, hok]))]; rfl, B8.out⟩
                · go_wp2_with (first
                    | refine wpList_load_row rfl _ _ rfl wr.heap.size rfl 78 (bav F) (0, 0) _ HT.out Try.underlying78 rfl (by rw [bav_size HF1.out]; exact size78) ?_
                    | (go_at_call 74; refine HC.out.mono ?_; rintro e w7 ⟨g7, c7, rfl, hO7, hb7⟩; have z7 := hb7.size; have HCF := Lib.hid (containsFunc_any _ (bCells F).length c7 (bCells F) rfl (bCells_rows F) HSM.out (by have := bCells_length F; omega) w7 (hO7.rd)); have B7 := Lib.hid (BT.out.trans (hb7.mono BT.out.size)); clear hO7 hb7)
                    | (go_at_call 73; refine HCF.out.mono ?_; rw [hok]; rintro e w8 ⟨rfl, hb8⟩; have B8 := Lib.hid (B7.out.trans (hb8.mono B7.out.size)); clear hb8))
                  exact ⟨⟨j + 1 + 1, by omega, by go_num, Lib.hid (HVN.out (by rw [HOKB.out, hok])), B8.out⟩, by simp [intOf]; omega⟩
      · rw [hem] at heq2
        refine region_after (by kernel_rfl) (by kernel_rfl) ?_
        repeat (go_big_quiet_step (fail))
        refine wpQuiet_nil ?_
        rintro _ ⟨t, rfl⟩
        go_wp2
        go_ret
        exact ⟨by rw [vpB_no hkl (by rw [blkAt, getDB_at hkl, ← HFE.out, blkOk, hem]; simp)]; rfl, B5.out.trans (t.h.mono B5.out.size)⟩
    · obtain rfl : k = n := by omega
      have hvl : vpB l = decide ((k : Int) ≤ 64) := by
        have := hv.out
        rw [vpB, hl, this, Bool.true_and]
        exact decide_eq_decide.2 (by omega)
      have HVL := Lib.hid hvl
      have HB := Lib.hid hb
      clear hvl hv hb
      go_wp2
      go_ret
      exact ⟨by rw [HVL.out]; rfl, HB.out⟩
end
end Go.Proofs.Ytmagaapdijapiaa
namespace Go.Proofs.Ytmagaapdijapiaa
open Go.ChangeShapes Go.WideShapes Go.ChangeAt Go.RowKit
/-- the entries of the blocks, in order -/
def ents : List Bl → Nat → List MapEntry
  | [], _ => []
  | b :: r, i => ⟨.agg (ivs .i32 b.1), .agg (ivs .u16 b.2), i⟩ :: ents r (i + 1)
theorem ents_snoc (b : Bl) : ∀ (l : List Bl) (i : Nat), ents (l ++ [b]) i = ents l i ++ [⟨.agg (ivs .i32 b.1), .agg (ivs .u16 b.2), i + l.length⟩]
  | [], i => rfl
  | a :: r, i => by
    rw [List.cons_append, ents, ents_snoc b r (i + 1), ents, List.cons_append, List.length_cons, show i + 1 + r.length = i + (r.length + 1) by omega]
/-- the first block with a corner -/
def findB (key : List Int) : List Bl → Nat → Option (Nat × Value)
  | [], _ => none
  | b :: r, i => if key == b.1 then some (i, .agg (ivs .u16 b.2)) else findB key r (i + 1)
theorem findB_none {key : List Int} : ∀ {l : List Bl} (i : Nat), (∀ b ∈ l, key ≠ b.1) → findB key l i = none
  | [], _, _ => rfl
  | b :: r, i, h => by
    rw [findB, if_neg (by rw [beq_iff_eq]; exact h b (List.mem_cons_self ..)), findB_none (i + 1) (fun c hc => h c (List.mem_cons_of_mem _ hc))]
theorem I32_info : (Try.prog.info? 21).map (fun i => (i.zero, i.size, i.bytes)) = some (some (.int .i32 0), 1, 4) := by kernel_rfl
theorem run_equal_corner (a b : List Int) (ha : a.length = 2) (hb : b.length = 2) (W : World) : (Op.equal 63 (.agg (ivs .i32 a)) (.agg (ivs .i32 b))).run Try.prog W = .ok (a == b) W := by
  obtain ⟨i0, hi0, -, -, -⟩ := info_parts I32_info
  exact run_eql_arr (a := a) (b := b) W Try.underlying63 Try.underlying21 hi0 (by kernel_rfl) ha hb
theorem run_findAsking (key : List Int) (hk : key.length = 2) : ∀ (l : List Bl) (i j : Nat) (_ : Bls l) (W : World), (Instr.findAsking 63 (.agg (ivs .i32 key)) (ents l j) i).run Try.prog W = .ok (findB key l i) W
  | [], i, j, _, W => rfl
  | b :: r, i, j, h, W => by
    have hb := (h b (List.mem_cons_self ..)).1
    have ih := run_findAsking key hk r (i + 1) (j + 1) (fun c hc => h c (List.mem_cons_of_mem _ hc)) W
    rw [ents, Instr.findAsking, Sem.run_bind, run_equal_corner key b.1 hk hb W]
    simp only [Result.andThen]
    rw [findB]
    cases hkb : key == b.1
    · simp only [Bool.false_eq_true, if_false]
      exact ih
    · simp only [if_true]
      rfl
theorem run_findKey (key : List Int) (hk : key.length = 2) (l : List Bl) (j : Nat) (hl : Bls l) (W : World) : (Instr.findKey 63 (.agg (ivs .i32 key)) (ents l j)).run Try.prog W = .ok (findB key l 0) W := by
  rw [Instr.findKey, Sem.run_bind, run_underlying Try.underlying63 W]
  simp only [Result.andThen]
  cases l with
  | nil => rfl
  | cons b r => exact run_findAsking key hk (b :: r) 0 j hl W
theorem run_checkCorner (e : Bool) (x y : Int) (W : World) : (Instr.checkKey e 10000 63 (.agg (ivs .i32 [x, y]))).run Try.prog W = .ok () W := by
  cases e <;> kernel_rfl
/-- the mask of the first block with a corner, or none of its cells -/
def maskAt (l : List Bl) (key : List Int) : List Int := match l.find? (fun b => key == b.1) with | some b => b.2 | none => zr16
theorem findB_mask (key : List Int) : ∀ (l : List Bl) (i : Nat), (findB key l i).map (·.2) = (l.find? (fun b => key == b.1)).map fun b => Value.agg (ivs .u16 b.2)
  | [], _ => rfl
  | b :: r, i => by
    rw [findB, List.find?_cons]
    cases h : key == b.1
    · simp only [Bool.false_eq_true, if_false]
      exact findB_mask key r (i + 1)
    · simp only [if_true]
      rfl
theorem run_lookupMask (g : Nat) (l : List Bl) (hl : Bls l) (x y : Int) (c : Nat) (W : World) (h : W.heap[g]? = some (.map (ents l 0).toArray c)) :
    (Instr.lookup 124 (.map (some g)) (.agg #[.int .i32 x, .int .i32 y]) false).run Try.prog W = .ok (.agg (ivs .u16 (maskAt l [x, y]))) W := by
  have hf := run_findKey [x, y] rfl l 0 hl W
  have hc : ∀ e, (Instr.checkKey e 10000 63 (.agg #[.int .i32 x, .int .i32 y])).run Try.prog W = .ok () W := fun e => run_checkCorner e x y W
  have hm := findB_mask [x, y] l 0
  have hf' : (Instr.findKey 63 (.agg #[.int .i32 x, .int .i32 y]) (ents l 0)).run Try.prog W = .ok (findB [x, y] l 0) W := hf
  rw [maskAt]
  cases hb : findB [x, y] l 0 with
  | none =>
    rw [hb] at hm hf'
    have hn : l.find? (fun b => [x, y] == b.1) = none := by
      cases he : l.find? (fun b => [x, y] == b.1) with
      | none => rfl
      | some b => rw [he] at hm; cases hm
    rw [hn]
    simp [Instr.lookup, run_underlying Try.underlying124 W, MapKept.run_getObj_map h, hc, hf', Result.andThen]
    rfl
  | some p =>
    obtain ⟨i, v⟩ := p
    rw [hb] at hm hf'
    cases he : l.find? (fun b => [x, y] == b.1) with
    | none => rw [he] at hm; cases hm
    | some b =>
      rw [he] at hm
      simp only [Option.map_some, Option.some.injEq] at hm
      subst hm
      simp [Instr.lookup, run_underlying Try.underlying124 W, MapKept.run_getObj_map h, hc, hf', Result.andThen]
theorem run_putMask (g : Nat) (l : List Bl) (hl : Bls l) (x y : Int) (M : List Int) (c : Nat) (W : World) (h : W.heap[g]? = some (.map (ents l 0).toArray c)) (hc : c = l.length) (hno : ∀ b ∈ l, [x, y] ≠ b.1) :
    (Instr.mapUpdate 124 (.map (some g)) (.agg #[.int .i32 x, .int .i32 y]) (.agg (ivs .u16 M))).run Try.prog W = .ok () (ChangeMaps.setBlock W g (.map (ents (l ++ [([x, y], M)]) 0).toArray (c + 1))) := by
  have hf : (Instr.findKey 63 (.agg #[.int .i32 x, .int .i32 y]) (ents l 0)).run Try.prog W = .ok none W := by
    have := run_findKey [x, y] rfl l 0 hl W
    rwa [findB_none 0 hno] at this
  have hck : (Instr.checkKey false 10000 63 (.agg #[.int .i32 x, .int .i32 y])).run Try.prog W = .ok () W := run_checkCorner false x y W
  have he : (ents (l ++ [([x, y], M)]) 0).toArray = (ents l 0).toArray.push ⟨.agg #[.int .i32 x, .int .i32 y], .agg (ivs .u16 M), c⟩ := by
    rw [ents_snoc, hc, Nat.zero_add]
    simp
    rfl
  rw [he]
  simp [Instr.mapUpdate, run_underlying Try.underlying124 W, MapKept.run_getObj_map h, hck, hf, MapKept.run_setObj_map _ h, Result.andThen, ChangeMaps.setBlock]
theorem setBlock_at (W : World) (g : Nat) (o : Obj) (h : g < W.heap.size) : (ChangeMaps.setBlock W g o).heap[g]? = some o := by
  simp [ChangeMaps.setBlock, h]
theorem setBlock_far (W : World) (g k : Nat) (o : Obj) (h : k ≠ g) : (ChangeMaps.setBlock W g o).heap[k]? = W.heap[k]? := by
  simp [ChangeMaps.setBlock, Ne.symm h]
theorem below_setBlock {B : Nat} {w w' : World} (h : Below B w w') {g : Nat} (hg : B ≤ g) (o : Obj) : Below B w (ChangeMaps.setBlock w' g o) :=
  ⟨h.os, h.tape, h.output, by simpa [ChangeMaps.setBlock] using h.size, fun i hi => (setBlock_far w' g i o (by omega)).trans (h.block i hi)⟩
end Go.Proofs.Ytmagaapdijapiaa
namespace Go.Proofs.Ytmagaapdijapiaa
open Go.ChangeShapes Go.WideShapes Go.ChangeAt Go.RowKit
def Apart (l : List Bl) : Prop := l.Pairwise fun a b => a.1 ≠ b.1
def GivesMap (l : List Bl) (w : World) (e : Ending) (w' : World) : Prop := ∃ g, e = .returned (.map (some g)) ∧ w.heap.size ≤ g ∧ g < w'.heap.size ∧ w'.heap[g]? = some (.map (ents l 0).toArray l.length) ∧ Below w.heap.size w w'
set_option maxRecDepth 20000 in
set_option maxHeartbeats 3200000 in
theorem masksOf_any (A : Option Addr) (n c : Nat) (l : List Bl) (hl : l.length = n) (hrow : Bls l) (hap : Apart l) (hn : n ≤ 1048576) (w : World) (hR : Rd w w.heap.size 18 A n (bcs l)) :
    Calls Try.prog 78 #[.slice A n c] w (GivesMap l w) := by
  have HR := Lib.hid hR
  have HROW := Lib.hid hrow
  clear hR hrow
  have hmk : ∀ W : World, (Instr.makeMap 124 none).run Try.prog W = .ok (.map (some W.heap.size)) (W.alloc (.map #[] 0)) := fun _ => rfl
  have h0 : (w.alloc (.map #[] 0)).heap[w.heap.size]? = some (.map (ents (l.take 0) 0).toArray 0) := heap_alloc_new w (.map #[] 0)
  have H0 := Lib.hid h0
  have HAP := Lib.hid hap
  clear h0 hap
  go_enter Try.func78, Try.ntmps78
  go_wp2
  go_loopw [9] (fun i wr => ∃ k : Nat, k ≤ n ∧ i = .int .i64 k ∧ wr.heap[w.heap.size]? = some (.map (ents (l.take k) 0).toArray k) ∧ w.heap.size < wr.heap.size ∧ Below w.heap.size w wr) (fun i _ => n - (intOf i).toNat)
  case atStart => exact ⟨0, by omega, rfl, H0.out, by simp, (Below.refl _ _).alloc (Nat.le_refl _) _⟩
  case round =>
    clear H0 hmk
    obtain ⟨k, hk, rfl, hg, hgz, hb⟩ := hrel
    by_cases hlt : k < n
    · have hkl : k < l.length := by omega
      have hz := hb.size
      have hRw := HR.out.below hb (Nat.le_refl _)
      obtain ⟨b, o, rfl, hbB, hc⟩ := hRw.at_ (by omega)
      have hrg := hRw.block HROW.out (by omega) hkl
      obtain ⟨hb1, hb2⟩ := HROW.out.at_ hkl
      have htk : l.take (k + 1) = l.take k ++ [l[k]] := List.take_succ_eq_append_getElem hkl
      have hno : ∀ c ∈ l.take k, l[k].1 ≠ c.1 := fun c hc e => by
        obtain ⟨i, hi, rfl⟩ := List.getElem_of_mem hc
        rw [List.length_take] at hi
        rw [List.getElem_take] at e
        exact List.pairwise_iff_getElem.1 HAP.out i k (by omega) hkl (by omega) e.symm
      have hlen : (l.take k).length = k := by rw [List.length_take]; omega
      have hBt : Bls (l.take k) := HROW.out.take k
      obtain ⟨F, hF⟩ : ∃ F, F = l[k] := ⟨_, rfl⟩
      rw [← hF] at hrg hb1 hb2 htk hno
      have h2 := two_eq hb1
      obtain ⟨X, hX⟩ : ∃ X, X = F.1.getD 0 0 := ⟨_, rfl⟩
      obtain ⟨Y, hY⟩ : ∃ Y, Y = F.1.getD 1 0 := ⟨_, rfl⟩
      rw [← hX, ← hY] at h2
      have hput := fun W h => run_putMask w.heap.size (l.take k) hBt X Y F.2 k W h hlen.symm (fun b hb => by rw [← h2]; exact hno b hb)
      have hFe : F = ([X, Y], F.2) := by rw [← h2]
      rw [← hFe, ← htk] at hput
      have HRG := Lib.hid hrg
      have HF1 := Lib.hid (And.intro hb1 hb2)
      have hlt' : (k : Int) < n := by omega
      have HP := Lib.hid hput
      have HB := Lib.hid hb
      have HG := Lib.hid hg
      have H2 := Lib.hid h2
      clear hc hbB hrg hb1 hb2 h2 hb hRw htk hno hlen hBt hF hput hFe hX hY hg
      go_wp2_with (first
        | refine wpList_load_mid rfl _ _ rfl b (o + k * 18) (by rfl) (bvs F) _ HRG.out Try.underlying78 rfl (by rw [bvs_length HF1.out]; exact size78) ?_
        | (refine wpList_store_row rfl _ _ _ rfl wr.heap.size (bav F) rfl rfl 78 (bav (zr2, zr16)) (Blk.newAt rfl rfl) (by rw [bav_size HF1.out]; exact size78) (by rw [bav_size HF1.out, bav_size ⟨rfl, rfl⟩]) (bav_one F) ?_; generalize hw5 : World.setRow _ _ _ = w5; have G0 : Hid (Blk w5 wr.heap.size 78 (bav F)) := Lib.hid (by rw [← hw5]; exact (Blk.newAt rfl rfl).row _); have B5 : Hid (Below w.heap.size w w5) := Lib.hid (by rw [← hw5]; exact below_setRow (HB.out.alloc hz _) (g := wr.heap.size) hz _); have B5r : Hid (Below wr.heap.size wr w5) := Lib.hid (by rw [← hw5]; exact below_setRow ((Below.refl _ _).alloc (Nat.le_refl _) _) (g := wr.heap.size) (Nat.le_refl _) _); have HG5 : Hid (w5.heap[w.heap.size]? = some (.map (ents (l.take k) 0).toArray k)) := Lib.hid ((B5r.out.block _ hgz).trans HG.out); have hmu := HP.out w5 HG5.out; have RA : Hid (w5.rangeAt wr.heap.size 0 (F.1.map (.int .i32))) := Lib.hid (G0.out.rangeV (bav_at1 HF1.out)); have RM : Hid (w5.rangeAt wr.heap.size 2 (F.2.map (.int .u16))) := Lib.hid (G0.out.rangeV (bav_at2 HF1.out)); have z5 := B5r.out.size; clear hw5)
        | refine wpList_load_mid rfl _ _ rfl wr.heap.size 0 (by rfl) [.int .i32 X, .int .i32 Y] _ (by have h := RA.out; rw [H2.out] at h; exact h) Try.underlying63 rfl size63 ?_
        | refine wpList_load_ivs rfl _ _ rfl wr.heap.size 2 rfl .u16 F.2 _ RM.out Try.underlying76 rfl (by rw [HF1.out.2]; exact size76) ?_)
      exact ⟨⟨k + 1, by omega, by go_num, setBlock_at _ _ _ (by omega), by simp [ChangeMaps.setBlock]; omega, below_setBlock B5.out (Nat.le_refl _) _⟩, by simp [intOf]; omega⟩
    · obtain rfl : k = n := by omega
      rw [List.take_of_length_le (by omega)] at hg
      have HG := Lib.hid hg
      have HB := Lib.hid hb
      clear hg hb
      go_wp2
      go_ret
      exact ⟨w.heap.size, rfl, Nat.le_refl _, hgz, by rw [hl]; exact HG.out, HB.out⟩
theorem i64_and15 (n : Int) : bits .and .i64 n 15 = n % 16 := by
  have h127 : (BitVec.ofInt 64 15).toNat = 2 ^ 4 - 1 := by decide
  have key : (BitVec.ofInt 64 n &&& BitVec.ofInt 64 15).toNat = (n % ((2 ^ 64 : Nat) : Int)).toNat % 2 ^ 4 := by
    rw [BitVec.toNat_and, BitVec.toNat_ofInt, h127, Nat.and_two_pow_sub_one_eq_mod]
  show IntKind.i64.wrap ((BitVec.ofInt 64 n &&& BitVec.ofInt 64 15).toNat : Nat) = n % 16
  rw [key, IntKind.wrap_i64]
  omega
theorem results_blockAt (tmps : Array Value) (W : World) (g : Nat) (X Y v1 v2 : Value) (h1 : tmps.getD 4 undef = .pointer (some ⟨g, 0, none⟩)) (h2 : tmps.getD 5 undef = v1) (h3 : tmps.getD 6 undef = v2) (c0 : W.cell? ⟨g, 0, none⟩ = some X) (c1 : W.cell? ⟨g, 1, none⟩ = some Y) :
    (results Try.f79 tmps).run Try.prog W = .ok (.tuple #[.agg #[X, Y], v1, v2]) W := by
  have h1' : tmps[4]?.getD undef = .pointer (some ⟨g, 0, none⟩) := by simpa using h1
  have h2' : tmps[5]?.getD undef = v1 := by simpa using h2
  have h3' : tmps[6]?.getD undef = v2 := by simpa using h3
  simp [results, Try.f79, go_sem, h1', h2', h3', c0, c1]
theorem blockAt_any (x y : Int) (hx : -1000002 ≤ x ∧ x ≤ 1000002) (hy : -1000002 ≤ y ∧ y ≤ 1000002) (w : World) :
    Calls Try.prog 79 #[.int .i64 x, .int .i64 y] w fun e w' => e = .returned (.tuple #[.agg #[.int .i32 (x / 16), .int .i32 (y / 16)], .int .i64 (x % 16), .int .i64 (y % 16)]) ∧ Below w.heap.size w w' := by
  go_enter Try.func79, Try.ntmps79
  go_wp2
  refine bodyPost_ret (results_blockAt _ _ w.heap.size _ _ _ _ rfl rfl rfl ((Blk.new w _ _).cell 0) ((Blk.new w _ _).cell 1)) rfl ⟨?_, (Below.refl _ _).alloc (Nat.le_refl _) _⟩
  simp only [i64_and15]
  rfl
/-- whether a cell is one of some blocks -/
def hasB (l : List Bl) (x y : Int) : Bool := bitB (maskAt l [x / 16, y / 16]) (x % 16).toNat (y % 16).toNat
theorem maskAt_mem {l : List Bl} (hl : Bls l) (h16 : ∀ b ∈ l, is16 b.2) (k : List Int) : (maskAt l k).length = 16 ∧ is16 (maskAt l k) := by
  rw [maskAt]
  cases h : l.find? (fun b => k == b.1) with
  | none => exact ⟨rfl, fun x hx => by
      have : x = 0 := by simpa [zr16] using hx
      omega⟩
  | some b => exact ⟨(hl b (List.mem_of_find?_eq_some h)).2, h16 b (List.mem_of_find?_eq_some h)⟩
set_option maxRecDepth 20000 in
set_option maxHeartbeats 3200000 in
theorem has_any (g : Nat) (l : List Bl) (hl : Bls l) (h16 : ∀ b ∈ l, is16 b.2) (x y : Int) (hx : -1000002 ≤ x ∧ x ≤ 1000002) (hy : -1000002 ≤ y ∧ y ≤ 1000002) (c : Nat) (w : World) (h : w.heap[g]? = some (.map (ents l 0).toArray c)) (hg : g < w.heap.size) :
    Calls Try.prog 77 #[.map (some g), .int .i64 x, .int .i64 y] w fun e w' => e = .returned (.bool (hasB l x y)) ∧ Below w.heap.size w w' := by
  obtain ⟨hm1, hm2⟩ := maskAt_mem hl h16 [x / 16, y / 16]
  obtain ⟨M, hM⟩ : ∃ M, M = maskAt l [x / 16, y / 16] := ⟨_, rfl⟩
  have hl' := fun W h => run_lookupMask g l hl (x / 16) (y / 16) c W h
  have hr : hasB l x y = bitB M (x % 16).toNat (y % 16).toNat := by rw [hM]; rfl
  rw [hr]
  rw [← hM] at hm1 hm2 hl'
  have HL := Lib.hid hl'
  have hb := fun W => blockAt_any x y hx hy W
  obtain ⟨v0, v1⟩ := hm2.getD (y % 16).toNat
  have hbe := bit_eq v0 v1 (x % 16).toNat
  have hbb : bitB M (x % 16).toNat (y % 16).toNat = decide (M.getD (y % 16).toNat 0 / 2 ^ (x % 16).toNat % 2 = 1) := rfl
  rw [hbb, ← hbe]
  obtain ⟨u, hu⟩ : ∃ u : Nat, (u : Int) = x % 16 := ⟨(x % 16).toNat, by omega⟩
  obtain ⟨v, hv⟩ : ∃ v : Nat, (v : Int) = y % 16 := ⟨(y % 16).toNat, by omega⟩
  rw [← hu, ← hv, Int.toNat_natCast, Int.toNat_natCast]
  rw [← hu, ← hv] at hb
  have hu1 : (u : Int) < 16 := by omega
  have hv1 : (v : Int) < 16 := by omega
  generalize x / 16 = X at *
  generalize y / 16 = Y at *
  obtain ⟨iu, hiu, -, -, -⟩ := info_parts U16_info
  have hvl : v < M.length := by omega
  have hix : ∀ W : World, (Instr.index 76 (.agg (ivs .u16 M)) (.int .i64 (v : Nat))).run Try.prog W = .ok (.int .u16 (M.getD v 0)) W := fun W => by
    have := run_index_ivs (l := M) (k := v) W Try.underlying76 Try.underlying74 hiu (by kernel_rfl) hm1 (by omega)
    rwa [List.getD_eq_getElem?_getD, List.getElem?_eq_getElem hvl]
  have H := Lib.hid h
  have HB := Lib.hid hb
  clear hl' hr hbb hbe hm2 hM h hb hm1 hl h16 hx hy hu hv v0 v1
  go_enter Try.func77, Try.ntmps77
  go_wp2_with (first
    | (go_at_call 79; refine (HB.out _).mono ?_; rintro e w1 ⟨rfl, b1⟩; have hlk := HL.out (w1.alloc (.cells #[.int .i32 X, .int .i32 Y] 63)) ((Below.heap_alloc w1 _ g (by have := b1.size; omega)).trans ((b1.block g hg).trans H.out)); have B1 := Lib.hid b1; clear b1))
  go_ret
  refine ⟨?_, B1.out.alloc B1.out.size _⟩
  rw [List.getD_eq_getElem?_getD, List.getElem?_eq_getElem hvl]
  rfl
end Go.Proofs.Ytmagaapdijapiaa
namespace Go.Proofs.Ytmagaapdijapiaa
open Go.ChangeShapes Go.WideShapes Go.ChangeAt Go.RowKit
/-! ### where a mask is not empty, its cells tell that the corner is near -/
theorem log_bit {n : Nat} (h : n ≠ 0) : n / 2 ^ n.log2 % 2 = 1 := by
  have h1 : 2 ^ n.log2 ≤ n := Nat.log2_self_le h
  have h2 : n < 2 ^ (n.log2 + 1) := Nat.lt_log2_self
  have h3 : n / 2 ^ n.log2 = 1 := by
    apply Nat.le_antisymm
    · have : n / 2 ^ n.log2 < 2 := by
        rw [Nat.div_lt_iff_lt_mul (Nat.two_pow_pos _), Nat.mul_comm, ← Nat.pow_succ]
        exact h2
      omega
    · exact (Nat.le_div_iff_mul_le (Nat.two_pow_pos _)).2 (by omega)
  rw [h3]
theorem bit_exists {v : Int} (h0 : 0 ≤ v) (h1 : v < 65536) (hv : v ≠ 0) : ∃ x, x < 16 ∧ v / 2 ^ x % 2 = 1 := by
  obtain ⟨n, rfl⟩ := Int.eq_ofNat_of_zero_le h0
  have hn : n ≠ 0 := by omega
  refine ⟨n.log2, (Nat.log2_lt hn).2 (by omega), ?_⟩
  have := log_bit hn
  have h2 : ((n / 2 ^ n.log2 % 2 : Nat) : Int) = (1 : Nat) := by rw [this]
  simpa using h2
theorem mCells_some {M : List Int} (hM : M.length = 16) (h16 : is16 M) (hne : emptyM M = false) : mCells M ≠ [] := by
  have hex : ∃ y, y < 16 ∧ M.getD y 0 ≠ 0 := by
    apply Classical.byContradiction
    intro hno
    have hz : M = zr16 := by
      apply List.ext_getElem (by rw [hM]; rfl)
      intro i h1 h2
      have hi : ¬ M.getD i 0 ≠ 0 := fun e => hno ⟨i, by omega, e⟩
      have h3 : M.getD i 0 = 0 := Classical.byContradiction hi
      rw [List.getD_eq_getElem?_getD, List.getElem?_eq_getElem h1] at h3
      rw [show M[i] = 0 from h3]
      exact (List.getElem_replicate (n := 16) (a := (0 : Int)) (i := i) (by exact h2)).symm
    rw [emptyM, hz] at hne
    simp at hne
  obtain ⟨y, hy, hv⟩ := hex
  obtain ⟨v0, v1⟩ := h16.getD y
  obtain ⟨x, hx, hb⟩ := bit_exists v0 v1 hv
  intro he
  have hmem : [((x : Nat) : Int), (y : Int)] ∈ mCells M := by
    refine List.mem_map.2 ⟨16 * y + x, List.mem_filter.2 ⟨List.mem_range.2 (by omega), ?_⟩, ?_⟩
    · rw [show (16 * y + x) % 16 = x by omega, show (16 * y + x) / 16 = y by omega, bitB, decide_eq_true_eq]
      exact hb
    · rw [show (16 * y + x) % 16 = x by omega, show (16 * y + x) / 16 = y by omega]
  rw [he] at hmem
  cases hmem
theorem far_of_cells {b : Bl} (hM : b.2.length = 16) (h16 : is16 b.2) (hne : emptyM b.2 = false) (h : okCells (bCells b) = true) : farB b = true := by
  have h1 := mCells_some hM h16 hne
  have hl : 0 < (mCells b.2).length := List.length_pos_iff.2 h1
  obtain ⟨x, y, hx, hy, e⟩ := mCells_at hl
  have hm : mv (b.1.getD 0 0) (b.1.getD 1 0) (mCells b.2)[0] ∈ bCells b := List.mem_map.2 ⟨_, List.getElem_mem hl, rfl⟩
  have h2 := List.all_eq_true.1 h _ hm
  rw [e] at h2
  have h3 : cellB ((x : Int) + 16 * b.1.getD 0 0) ((y : Int) + 16 * b.1.getD 1 0) = true := h2
  simp only [cellB, inB, Bool.and_eq_true, decide_eq_true_eq] at h3
  rw [farB, inB, inB, decide_eq_true (show (-62501 : Int) ≤ b.1.getD 0 0 by omega), decide_eq_true (show b.1.getD 0 0 ≤ 62501 by omega), decide_eq_true (show (-62501 : Int) ≤ b.1.getD 1 0 by omega), decide_eq_true (show b.1.getD 1 0 ≤ 62501 by omega)]
  rfl
theorem blkOk_plain {b : Bl} (hM : b.2.length = 16) (h16 : is16 b.2) : blkOk b = (!emptyM b.2 && okCells (bCells b)) := by
  rw [blkOk]
  cases he : emptyM b.2
  · cases ho : okCells (bCells b)
    · simp
    · rw [far_of_cells hM h16 he ho]; rfl
  · rfl
set_option maxHeartbeats 800000 in
theorem l07Empty_any (g o : Nat) (M : List Int) (hM : M.length = 16) (w : World) (h : w.rangeAt g o (M.map (.int .u16))) :
    Calls Try.prog 86 #[.pointer (some ⟨g, o, none⟩)] w fun e w' => e = .returned (.bool (emptyM M)) ∧ w = w' := by
  obtain ⟨iu, hiu, hu0, hu1, hu2⟩ := info_parts U16_info
  have heq : ∀ W : World, (Op.equalIn 10000 76 (.agg (M.map (Value.int .u16)).toArray) (.agg #[.int .u16 0, .int .u16 0, .int .u16 0, .int .u16 0, .int .u16 0, .int .u16 0, .int .u16 0, .int .u16 0, .int .u16 0, .int .u16 0, .int .u16 0, .int .u16 0, .int .u16 0, .int .u16 0, .int .u16 0, .int .u16 0])).run Try.prog W = .ok (emptyM M) W := fun W => run_eql_arr (a := M) (b := zr16) W Try.underlying76 Try.underlying74 hiu (by kernel_rfl) hM rfl
  have HH := Lib.hid h
  clear h hiu
  go_enter Try.func86, Try.ntmps86
  go_wp2_with (refine wpList_load_mid rfl _ _ rfl g o (by rfl) (M.map (.int .u16)) _ HH.out Try.underlying76 rfl (by rw [List.length_map, hM]; exact size76) ?_)
  go_ret
  exact ⟨rfl, rfl⟩
theorem cmpC_lt (a0 a1 b0 b1 : Int) : decide (cmpC a0 a1 b0 b1 < 0) = if a1 < b1 then true else if a1 = b1 then decide (a0 < b0) else false := by
  rw [cmpC, cmpI]
  by_cases h : a1 < b1
  · rw [if_pos h, if_pos h]; rfl
  · rw [if_neg h, if_neg h]
    by_cases h2 : b1 < a1
    · rw [if_pos h2, if_neg (by omega)]; rfl
    · rw [if_neg h2, if_pos (by omega)]
      rw [orI, if_pos rfl, cmpI]
      by_cases h3 : a0 < b0
      · rw [if_pos h3, decide_eq_true h3]; rfl
      · rw [if_neg h3, decide_eq_false h3]
        split <;> rfl
set_option maxHeartbeats 800000 in
theorem l07Before_any (a0 a1 b0 b1 : Int) (w : World) :
    Calls Try.prog 88 #[.agg #[.int .i32 a0, .int .i32 a1], .agg #[.int .i32 b0, .int .i32 b1]] w fun e w' => e = .returned (.bool (decide (cmpC a0 a1 b0 b1 < 0))) ∧ Below w.heap.size w w' := by
  have hc := cmpC_lt a0 a1 b0 b1
  have hB : Below w.heap.size w ((w.alloc (.cells #[.int .i32 a0, .int .i32 a1] 63)).alloc (.cells #[.int .i32 b0, .int .i32 b1] 63)) := ((Below.refl _ _).alloc (Nat.le_refl _) _).alloc (by simp) _
  have HB := Lib.hid hB
  clear hB
  by_cases h1 : a1 < b1
  · rw [if_pos h1] at hc
    rw [hc]
    clear hc
    go_enter Try.func88, Try.ntmps88
    go_wp2
    all_goals (go_ret; exact ⟨rfl, HB.out⟩)
  · by_cases h2 : a1 = b1
    · rw [if_neg h1, if_pos h2] at hc
      rw [hc]
      subst h2
      clear hc
      go_enter Try.func88, Try.ntmps88
      go_wp2
      all_goals (go_ret; exact ⟨rfl, HB.out⟩)
    · rw [if_neg h1, if_neg h2] at hc
      rw [hc]
      clear hc
      go_enter Try.func88, Try.ntmps88
      go_wp2
      all_goals (go_ret; exact ⟨rfl, HB.out⟩)
set_option maxRecDepth 20000 in
set_option maxHeartbeats 3200000 in
theorem l07Fits_any (g o : Nat) (b : Bl) (hb : b.1.length = 2 ∧ b.2.length = 16) (h16 : is16 b.2) (h32 : ∀ x ∈ b.1, -2147483648 ≤ x ∧ x ≤ 2147483647) (w : World) (hg : g < w.heap.size) (h : w.rangeAt g o (bvs b)) :
    Calls Try.prog 87 #[.pointer (some ⟨g, o, none⟩)] w fun e w' => e = .returned (.bool (okCells (bCells b))) ∧ Below w.heap.size w w' := by
  have hM : w.rangeAt g (o + 2) (b.2.map (.int .u16)) := fun j v hv => by
    rw [Nat.add_assoc]
    exact h (2 + j) v (by rw [bvs, List.getElem?_append_right (by rw [List.length_map, hb.1]; omega), List.length_map, hb.1, Nat.add_sub_cancel_left]; exact hv)
  obtain ⟨X, hX⟩ : ∃ X, X = b.1.getD 0 0 := ⟨_, rfl⟩
  obtain ⟨Y, hY⟩ : ∃ Y, Y = b.1.getD 1 0 := ⟨_, rfl⟩
  have cX : w.cell? ⟨g, o, none⟩ = some (.int .i32 X) := by
    have := h 0 (.int .i32 X) (by rw [bvs, two_eq hb.1, ← hX]; rfl)
    rwa [Nat.add_zero] at this
  have cY : w.cell? ⟨g, o + 1, none⟩ = some (.int .i32 Y) := h 1 (.int .i32 Y) (by rw [bvs, two_eq hb.1, ← hY]; rfl)
  have bX : -2147483648 ≤ X ∧ X ≤ 2147483647 := h32 X (by rw [hX, List.getD_eq_getElem?_getD, List.getElem?_eq_getElem (by omega)]; exact List.getElem_mem _)
  have bY : -2147483648 ≤ Y ∧ Y ≤ 2147483647 := h32 Y (by rw [hY, List.getD_eq_getElem?_getD, List.getElem?_eq_getElem (by omega)]; exact List.getElem_mem _)
  have HM := Lib.hid hM
  have HC := Lib.hid (sCellsOf_any b.2 hb.2 h16)
  have HBC : Hid (okCells (bCells b) = (mCells b.2).all fun f => cellB (16 * X + f.getD 0 0) (16 * Y + f.getD 1 0)) := Lib.hid (by
    rw [bCells, okCells, List.all_map, hX, hY]
    congr 1
    funext f
    show cellB (f.getD 0 0 + 16 * _) (f.getD 1 0 + 16 * _) = _
    rw [Int.add_comm, Int.add_comm (f.getD 1 0)])
  have HAT := Lib.hid (fun k h => mCells_at (M := b.2) (k := k) h)
  have hrow : Rows_ 2 (mCells b.2) := cellsTo_rows _ _
  have hll : (mCells b.2).length ≤ 256 := cellsTo_length _ _
  have HROW := Lib.hid hrow
  have CX := Lib.hid cX
  have CY := Lib.hid cY
  clear hM h cX cY hrow hX hY
  generalize okCells (bCells b) = OK at *
  go_enter Try.func87, Try.ntmps87
  go_wp2_with (first
    | refine wpList_load_ivs rfl _ _ rfl g (o + 2) rfl .u16 b.2 _ HM.out Try.underlying76 rfl (by rw [hb.2]; exact size76) ?_
    | (go_at_call 129; refine (HC.out _).mono ?_; rintro e w2 ⟨g2, c2, rfl, hO, hb2⟩; have hR := Lib.hid hO.rd; have HB2 := Lib.hid hb2; have z2 := hb2.size; clear hO hb2))
  have D2 : Hid (w2.cell? ⟨g, o, none⟩ = some (.int .i32 X) ∧ w2.cell? ⟨g, o + 1, none⟩ = some (.int .i32 Y)) := Lib.hid ⟨(HB2.out.cell (p := ⟨g, o, none⟩) hg).trans CX.out, (HB2.out.cell (p := ⟨g, o + 1, none⟩) hg).trans CY.out⟩
  have hg2 : g < w2.heap.size := by omega
  clear HM HC CX CY h16
  generalize mCells b.2 = L at *
  go_loopw [4] (fun i wr => ∃ k : Nat, k ≤ L.length ∧ i = .int .i64 k ∧ Hid ((L.take k).all (fun f => cellB (16 * X + f.getD 0 0) (16 * Y + f.getD 1 0)) = true) ∧ Below w2.heap.size w2 wr) (fun i _ => L.length - (intOf i).toNat)
  case atStart => exact ⟨0, by omega, rfl, Lib.hid rfl, Below.refl _ _⟩
  case round =>
    obtain ⟨k, hk, rfl, hv, hbr⟩ := hrel
    by_cases hlt : k < L.length
    · have hlt' : (k : Int) < L.length := by omega
      have hk0 : (0 : Int) ≤ k := by omega
      obtain ⟨x, y, hx, hy, hxy⟩ := HAT.out k hlt
      have hgw : g < wr.heap.size := by have := hbr.size; omega
      have dX := (hbr.cell (p := ⟨g, o, none⟩) hg2).trans D2.out.1
      have dY := (hbr.cell (p := ⟨g, o + 1, none⟩) hg2).trans D2.out.2
      have g0 := pvs_get HROW.out (k := k) (j := 0) hlt (by omega)
      have g1 := pvs_get HROW.out (k := k) (j := 1) hlt (by omega)
      rw [hxy] at g0 g1
      obtain ⟨b', o', e', hlb, hc⟩ := (hR.out.below hbr (Nat.le_refl _)).at_ (by omega)
      cases e'
      have c0 := hc _ _ g0
      have c1 := hc _ _ g1
      rw [Nat.zero_add] at c0 c1
      have hg2w : g2 < wr.heap.size := by have := hbr.size; omega
      have tX : ∀ t : After wr, t.to.cell? ⟨g, o, none⟩ = some (.int .i32 X) := fun t => (t.cell hgw).trans dX
      have tY : ∀ t : After wr, t.to.cell? ⟨g, o + 1, none⟩ = some (.int .i32 Y) := fun t => (t.cell hgw).trans dY
      have t0 : ∀ t : After wr, t.to.cell? ⟨g2, k * 2, none⟩ = some (.int .i32 x) := fun t => (t.cell hg2w).trans c0
      have t1 : ∀ t : After wr, t.to.cell? ⟨g2, k * 2 + 1, none⟩ = some (.int .i32 y) := fun t => (t.cell hg2w).trans c1
      have w1 : IntKind.i64.wrap (16 * X) = 16 * X := by rw [IntKind.wrap_i64]; omega
      have w2' : IntKind.i64.wrap (16 * Y) = 16 * Y := by rw [IntKind.wrap_i64]; omega
      have w3 : IntKind.i64.wrap (16 * X + x) = 16 * X + x := by rw [IntKind.wrap_i64]; omega
      have w4 : IntKind.i64.wrap (16 * Y + y) = 16 * Y + y := by rw [IntKind.wrap_i64]; omega
      have hcl := fun W => l07Cell_any (16 * X + x) (16 * Y + y) W
      have hsn : (L.take (k + 1)).all (fun f => cellB (16 * X + f.getD 0 0) (16 * Y + f.getD 1 0)) = ((L.take k).all (fun f => cellB (16 * X + f.getD 0 0) (16 * Y + f.getD 1 0)) && cellB (16 * X + x) (16 * Y + y)) := by
        rw [List.take_succ_eq_append_getElem hlt, List.all_append, hxy]
        simp
      have hno : cellB (16 * X + x) (16 * Y + y) = false → OK = false := fun e => by
        rw [HBC.out, List.all_eq_false]
        exact ⟨L[k], List.getElem_mem hlt, by rw [hxy]; show ¬ cellB (16 * X + x) (16 * Y + y) = true; rw [e]; decide⟩
      have HSN := Lib.hid hsn
      have HNO := Lib.hid hno
      have HBR := Lib.hid hbr
      clear g0 g1 c0 c1 dX dY hc hxy hsn hno hbr hlb
      rcases hcb : cellB (16 * X + x) (16 * Y + y) with _ | _
      · rw [hcb] at hcl
        have HF := Lib.hid (HNO.out hcb)
        clear hcb HNO HSN
        go_wp2
        refine region_after (by kernel_rfl) (by kernel_rfl) ?_
        repeat (go_big_quiet_step ((go_at_call 130; exact After.same _ (hcl _))))
        refine wpQuiet_nil ?_
        rintro _ ⟨t, rfl⟩
        go_wp2
        go_ret
        exact ⟨by rw [HF.out]; rfl, (HB2.out.trans (HBR.out.mono z2)).trans (t.h.mono (by have := HBR.out.size; omega))⟩
      · rw [hcb] at hcl HSN
        clear hcb HNO
        go_wp2
        refine region_after (by kernel_rfl) (by kernel_rfl) ?_
        repeat (go_big_quiet_step ((go_at_call 130; exact After.same _ (hcl _))))
        refine wpQuiet_nil ?_
        rintro _ ⟨t, rfl⟩
        go_wp2
        exact ⟨⟨k + 1, by omega, by go_num, Lib.hid (by rw [HSN.out, hv.out]; rfl), HBR.out.trans (t.h.mono HBR.out.size)⟩, by simp [intOf]; omega⟩
    · obtain rfl : k = L.length := by omega
      have hok : OK = true := by rw [HBC.out]; have := hv.out; rwa [List.take_length] at this
      have HOK := Lib.hid hok
      have HBR := Lib.hid hbr
      clear hok hv hbr
      go_wp2
      go_ret
      exact ⟨by rw [HOK.out]; rfl, HB2.out.trans (HBR.out.mono z2)⟩
end Go.Proofs.Ytmagaapdijapiaa
namespace Go.Proofs.Ytmagaapdijapiaa
open Go.ChangeShapes Go.WideShapes Go.ChangeAt Go.RowKit
theorem vpB_long {l : List Bl} (h : 64 < l.length) : vpB l = false := by
  rw [vpB, decide_eq_false (show ¬ l.length ≤ 64 by omega), Bool.and_false]
section
attribute [local go_sem ↓] exec_ldCorner
attribute [local go_sem] run_ldCorner
set_option maxRecDepth 20000 in
set_option maxHeartbeats 3200000 in
theorem l07Ok_any (A : Option Addr) (n c : Nat) (l : List Bl) (hl : l.length = n) (hrow : Bls l) (h16 : ∀ b ∈ l, is16 b.2) (h32 : ∀ b ∈ l, ∀ x ∈ b.1, -2147483648 ≤ x ∧ x ≤ 2147483647) (hn : n ≤ 1048576) (w : World) (hR : Rd w w.heap.size 18 A n (bcs l)) :
    Calls Try.prog 43 #[.slice A n c] w fun e w' => e = .returned (.bool (vpB l)) ∧ Below w.heap.size w w' := by
  by_cases h64 : 64 < n
  · have hv := vpB_long (l := l) (by omega)
    rw [hv]
    have h64' : (64 : Int) < n := by omega
    clear hv hR
    go_enter Try.func43, Try.ntmps43
    go_wp2
    go_ret
    exact ⟨rfl, Below.refl _ _⟩
  have h64' : ¬ (64 : Int) < n := by omega
  have HR := Lib.hid hR
  have HROW := Lib.hid hrow
  clear hR hrow
  go_enter Try.func43, Try.ntmps43
  go_wp2
  go_loopw [3] (fun i wr => ∃ k : Nat, k ≤ n ∧ i = .int .i64 k ∧ Hid (vpTo l k = true) ∧ Below w.heap.size w wr) (fun i _ => n - (intOf i).toNat)
  case atStart => exact ⟨0, by omega, rfl, Lib.hid rfl, Below.refl _ _⟩
  case round =>
    obtain ⟨k, hk, rfl, hv, hb⟩ := hrel
    by_cases hlt : k < n
    · have hkl : k < l.length := by omega
      have hz := hb.size
      have hRw := HR.out.below hb (Nat.le_refl _)
      obtain ⟨b, o, rfl, hbB, hc⟩ := hRw.at_ (by omega)
      have hrg := hRw.block HROW.out (by omega) hkl
      have hbw : b < wr.heap.size := by omega
      obtain ⟨hb1, hb2⟩ := HROW.out.at_ hkl
      obtain ⟨F, hF⟩ : ∃ F, F = l[k] := ⟨_, rfl⟩
      have hM16 := h16 _ (List.getElem_mem hkl)
      have hX32 := h32 _ (List.getElem_mem hkl)
      rw [← hF] at hrg hb1 hb2 hM16 hX32
      have hM : wr.rangeAt b (o + k * 18 + 2) (F.2.map (.int .u16)) := fun j v hv => by
        rw [Nat.add_assoc (o + k * 18)]
        exact hrg (2 + j) v (by rw [bvs, List.getElem?_append_right (by rw [List.length_map, hb1]; omega), List.length_map, hb1, Nat.add_sub_cancel_left]; exact hv)
      have hA : wr.rangeAt b (o + k * 18) (F.1.map (.int .i32)) := fun q v hq => hrg q v (by
        rw [bvs, List.getElem?_append_left (by exact (List.getElem?_eq_some_iff.1 hq).1)]
        exact hq)
      have hE : ∀ t : After wr, Calls Try.prog 86 #[.pointer (some ⟨b, o + k * 18 + 2, none⟩)] t.to fun e w' => e = .returned (.bool (emptyM F.2)) ∧ t.to = w' := fun t => l07Empty_any b _ F.2 hb2 t.to (range_of_below hM t.h hbw)
      have hFt : ∀ t : After wr, Calls Try.prog 87 #[.pointer (some ⟨b, o + k * 18, none⟩)] t.to fun e w' => e = .returned (.bool (okCells (bCells F))) ∧ Below t.to.heap.size t.to w' := fun t => l07Fits_any b _ F ⟨hb1, hb2⟩ hM16 hX32 t.to (by have := t.h.size; omega) (range_of_below hrg t.h hbw)
      have hplain := blkOk_plain (b := F) hb2 hM16
      rw [two_eq hb1] at hA
      have hlt' : (k : Int) < n := by omega
      have hk0 : (0 : Int) ≤ k := by omega
      have HFE := Lib.hid hF
      have HPL := Lib.hid hplain
      have HB := Lib.hid hb
      clear hF hplain hb hrg hM hc hRw hb2 hM16 hX32 hb1
      rcases hem : emptyM F.2 with _ | _
      · rw [hem] at hE HPL
        rcases hft : okCells (bCells F) with _ | _
        · rw [hft] at hFt HPL
          have hno : blkAt l k = false := by rw [blkAt, getDB_at hkl, ← HFE.out, HPL.out]; simp
          clear hem hft
          go_wp2
          refine region_after (by kernel_rfl) (by kernel_rfl) ?_
          repeat (go_big_quiet_step ((first | (go_at_call 86; exact After.same _ (hE _)) | (go_at_call 87; exact After.call _ (hFt _)))))
          refine wpQuiet_nil ?_
          rintro _ ⟨t, rfl⟩
          go_wp2
          go_ret
          exact ⟨by rw [vpB_no hkl hno]; rfl, HB.out.trans (t.h.mono hz)⟩
        · rw [hft] at hFt HPL
          have hbk : blkOk F = true := HPL.out
          clear hem hft
          by_cases hk0' : k = 0
          · have HVN : Hid (vpTo l (k + 1) = true) := Lib.hid (by rw [vpTo_succ, hv.out, blkAt, getDB_at hkl, ← HFE.out, hbk, hk0']; rfl)
            subst hk0'
            go_wp2
            refine region_after (by kernel_rfl) (by kernel_rfl) ?_
            repeat (go_big_quiet_step ((first | (go_at_call 86; exact After.same _ (hE _)) | (go_at_call 87; exact After.call _ (hFt _)))))
            refine wpQuiet_nil ?_
            rintro _ ⟨t, rfl⟩
            go_wp2
            exact ⟨⟨1, by omega, by go_num, HVN, HB.out.trans (t.h.mono hz)⟩, by simp [intOf]; omega⟩
          · obtain ⟨j, rfl⟩ : ∃ j, k = j + 1 := ⟨k - 1, by omega⟩
            have hjl : j < l.length := by omega
            obtain ⟨hp1, hp2⟩ := HROW.out.at_ hjl
            have hpg : wr.rangeAt b (o + j * 18) (l[j].1.map (.int .i32)) := fun q v hq => (HR.out.below HB.out (Nat.le_refl _)).block HROW.out (by omega) hjl q v (by
              rw [bvs, List.getElem?_append_left (by exact (List.getElem?_eq_some_iff.1 hq).1)]
              exact hq)
            rw [two_eq hp1] at hpg
            have hat : blkAt l (j + 1) = (befB l[j] F && blkOk F) := by rw [blkAt, getDB_at hkl, ← HFE.out, Nat.add_sub_cancel, getDB_at hjl]; rfl
            have hbf : befB l[j] F = decide (cmpC (l[j].1.getD 0 0) (l[j].1.getD 1 0) (F.1.getD 0 0) (F.1.getD 1 0) < 0) := rfl
            rw [hbf, hbk, Bool.and_true] at hat
            have HAT := Lib.hid hat
            clear hat hbf hp1 hp2
            generalize l[j].1.getD 0 0 = px at *
            generalize l[j].1.getD 1 0 = py at *
            generalize F.1.getD 0 0 = X at *
            generalize F.1.getD 1 0 = Y at *
            have hpg' : wr.rangeAt b (o + j * 18) [.int .i32 px, .int .i32 py] := hpg
            have hA' : wr.rangeAt b (o + (j + 1) * 18) [.int .i32 X, .int .i32 Y] := hA
            have tP : ∀ t : After wr, rowAt t.to b (o + j * 18) 2 = #[.int .i32 px, .int .i32 py] ∧ hasRow t.to b (o + j * 18) 2 = true := fun t => t.row hbw hpg'
            have tA : ∀ t : After wr, rowAt t.to b (o + (j + 1) * 18) 2 = #[.int .i32 X, .int .i32 Y] ∧ hasRow t.to b (o + (j + 1) * 18) 2 = true := fun t => t.row hbw hA'
            have tP1 := fun t => (tP t).1
            have tP2 := fun t => (tP t).2
            have tA1 := fun t => (tA t).1
            have tA2 := fun t => (tA t).2
            have hbfr := fun W => l07Before_any px py X Y W
            have hj0 : (0 : Int) ≤ j := by omega
            have hj1 : (j : Int) < n := by omega
            clear tP tA hpg hpg' hA hA' hbk
            generalize decide (cmpC px py X Y < 0) = bb at *
            cases bb
            · have HNO := Lib.hid (vpB_no hkl HAT.out)
              go_wp2
              refine region_after (by kernel_rfl) (by kernel_rfl) ?_
              repeat (go_big_quiet_step ((first | (go_at_call 86; exact After.same _ (hE _)) | (go_at_call 87; exact After.call _ (hFt _)) | (go_at_call 88; exact After.call _ (hbfr _)))))
              refine wpQuiet_nil ?_
              rintro _ ⟨t, rfl⟩
              go_wp2
              go_ret
              exact ⟨by rw [HNO.out]; rfl, HB.out.trans (t.h.mono hz)⟩
            · have HVN : Hid (vpTo l (j + 1 + 1) = true) := Lib.hid (by rw [vpTo_succ, hv.out, HAT.out]; rfl)
              go_wp2
              refine region_after (by kernel_rfl) (by kernel_rfl) ?_
              repeat (go_big_quiet_step ((first | (go_at_call 86; exact After.same _ (hE _)) | (go_at_call 87; exact After.call _ (hFt _)) | (go_at_call 88; exact After.call _ (hbfr _)))))
              refine wpQuiet_nil ?_
              rintro _ ⟨t, rfl⟩
              go_wp2
              exact ⟨⟨j + 1 + 1, by omega, by go_num, HVN, HB.out.trans (t.h.mono hz)⟩, by simp [intOf]; omega⟩
      · rw [hem] at hE HPL
        have hno : blkAt l k = false := by rw [blkAt, getDB_at hkl, ← HFE.out, HPL.out]; simp
        clear hem
        go_wp2
        refine region_after (by kernel_rfl) (by kernel_rfl) ?_
        repeat (go_big_quiet_step ((go_at_call 86; exact After.same _ (hE _))))
        refine wpQuiet_nil ?_
        rintro _ ⟨t, rfl⟩
        go_wp2
        go_ret
        exact ⟨by rw [vpB_no hkl hno]; rfl, HB.out.trans (t.h.mono hz)⟩
    · obtain rfl : k = n := by omega
      have hvl : vpB l = true := by
        have := hv.out
        rw [vpB, hl, this, Bool.true_and]
        exact decide_eq_true (by omega)
      have HVL := Lib.hid hvl
      have HB := Lib.hid hb
      clear hvl hv hb
      go_wp2
      go_ret
      exact ⟨by rw [HVL.out]; rfl, HB.out⟩
end
end Go.Proofs.Ytmagaapdijapiaa
namespace Go.Proofs.Ytmagaapdijapiaa
open Go.ChangeShapes Go.WideShapes Go.ChangeAt Go.RowKit
theorem maskAt_no {l : List Bl} {key : List Int} (h : ∀ b ∈ l, key ≠ b.1) : maskAt l key = zr16 := by
  rw [maskAt, List.find?_eq_none.2 (fun b hb => by rw [beq_iff_eq]; exact h b hb)]
theorem maskAt_take {l : List Bl} {key : List Int} {k : Nat} (hk : k < l.length) (h : ∀ b ∈ l.take k, key ≠ b.1) (he : key = l[k].1) : maskAt l key = l[k].2 := by
  have hf : l.find? (fun b => key == b.1) = some l[k] := by
    rw [List.find?_eq_some_iff_getElem]
    refine ⟨by rw [beq_iff_eq]; exact he, k, hk, rfl, fun j hj => ?_⟩
    have := h l[j] (by rw [List.mem_take_iff_getElem]; exact ⟨j, by omega, rfl⟩)
    simpa using this
  rw [maskAt, hf]
section
attribute [local go_sem ↓] exec_ldCorner
attribute [local go_sem] run_ldCorner
end
def holdsB (l : List Bl) (x y : Int) : Bool := cellB x y && hasB l x y
theorem cellB_in {x y : Int} (h : cellB x y = true) : (-1000000 ≤ x ∧ x ≤ 1000000) ∧ (-1000000 ≤ y ∧ y ≤ 1000000) := by
  simp only [cellB, inB, Bool.and_eq_true, decide_eq_true_iff] at h
  exact h
/-- corners in order -/
def ltC (a b : Bl) : Prop := a.1.getD 1 0 < b.1.getD 1 0 ∨ (a.1.getD 1 0 = b.1.getD 1 0 ∧ a.1.getD 0 0 < b.1.getD 0 0)
theorem befB_iff (a b : Bl) : befB a b = true ↔ ltC a b := by
  rw [befB, cmpC_lt, ltC]
  split
  · exact ⟨fun _ => .inl (by assumption), fun _ => rfl⟩
  · split
    · rw [decide_eq_true_iff]
      omega
    · exact ⟨fun h => absurd h (by decide), fun h => by omega⟩
theorem ltC_trans {a b c : Bl} (h1 : ltC a b) (h2 : ltC b c) : ltC a c := by
  unfold ltC at *
  omega
def Rising (l : List Bl) : Prop := l.Pairwise ltC
theorem rising_of_vpB {l : List Bl} (h : vpB l = true) : Rising l := by
  have hs : ∀ k (hk : k + 1 < l.length), ltC l[k] l[k + 1] := fun k hk => by
    rw [vpB, Bool.and_eq_true, vpTo, List.all_eq_true] at h
    have := h.1 (k + 1) (List.mem_range.2 hk)
    rw [blkAt, Bool.and_eq_true, Nat.add_sub_cancel, getDB_at hk, getDB_at (show k < l.length by omega)] at this
    rw [← befB_iff]
    simpa using this.1
  rw [Rising, List.pairwise_iff_getElem]
  intro i j hi hj hij
  obtain ⟨d, rfl⟩ : ∃ d, j = i + 1 + d := ⟨j - i - 1, by omega⟩
  clear hij
  induction d with
  | zero => exact hs i hj
  | succ d ih => exact ltC_trans (ih (by omega)) (hs (i + 1 + d) hj)
theorem apart_of_rising {l : List Bl} (h : Rising l) : Apart l := List.Pairwise.imp (fun {a b} hab e => by
  rw [ltC, e] at hab
  omega) h
/-- what is told of a cell -/
def hasV (l : List Bl) (x y : Int) : Bool × Int := if vpB l then (if cellB x y then (hasB l x y, 0) else (false, 2)) else (false, 1)
theorem iPictureHas_any (A : Option Addr) (n c : Nat) (l : List Bl) (hl : l.length = n) (hrow : Bls l) (h16 : ∀ b ∈ l, is16 b.2) (h32 : ∀ b ∈ l, ∀ x ∈ b.1, -2147483648 ≤ x ∧ x ≤ 2147483647) (x y : Int) (hn : n ≤ 1048576) (w : World) (hR : Rd w w.heap.size 18 A n (bcs l)) :
    Calls Try.prog 34 #[.slice A n c, .int .i64 x, .int .i64 y] w fun e w' => e = .returned (.tuple #[.bool (hasV l x y).1, .int .i64 (hasV l x y).2]) ∧ Below w.heap.size w w' := by
  have ho := fun W h => iValidPicture_any A n c l hl hrow h16 h32 hn W h
  have hc := fun W => isCell_any x y W
  have hap : vpB l = true → Apart l := fun h => apart_of_rising (rising_of_vpB h)
  have hm := fun h W hR => masksOf_any A n c l hl hrow (hap h) hn W hR
  have hh := fun (h : cellB x y = true) g c W h1 h2 => has_any g l hrow h16 x y (by have := (cellB_in h).1; omega) (by have := (cellB_in h).2; omega) c W h1 h2
  rw [hasV]
  clear hap hl hrow h16 h32
  generalize vpB l = ok at *
  generalize cellB x y = ce at *
  generalize hasB l x y = r at *
  cases ok
  · clear hh hm
    go_enter Try.func34, Try.ntmps34
    go_wp2_with (first
      | (go_at_call 33; refine (ho _ (hR.more (by first | exact Nat.le_refl _ | omega))).mono ?_; rintro e w1 ⟨rfl, b1⟩))
    go_ret2
    exact ⟨rfl, b1⟩
  · cases ce
    · clear hh hm
      go_enter Try.func34, Try.ntmps34
      go_wp2_with (first
        | (go_at_call 33; refine (ho _ (hR.more (by first | exact Nat.le_refl _ | omega))).mono ?_; rintro e w1 ⟨rfl, b1⟩)
        | (go_at_call 76; refine (hc _).mono ?_; rintro e w1 ⟨rfl, rfl⟩))
      go_ret2
      exact ⟨rfl, b1⟩
    · have hm' := hm rfl
      have hh' := hh rfl
      clear hm hh
      go_enter Try.func34, Try.ntmps34
      go_wp2_with (first
        | (go_at_call 33; refine (ho _ (hR.more (by first | exact Nat.le_refl _ | omega))).mono ?_; rintro e w1 ⟨rfl, b1⟩)
        | (go_at_call 76; refine (hc _).mono ?_; rintro e w1 ⟨rfl, rfl⟩)
        | (go_at_call 78; refine (hm' _ ((hR.below b1 (Nat.le_refl _)).more b1.size)).mono ?_; rintro e w2 ⟨g, rfl, hg1, hg2, hg3, b2⟩)
        | (go_at_call 77; refine (hh' _ _ _ hg3 hg2).mono ?_; rintro e w3 ⟨rfl, b3⟩))
      go_ret2
      exact ⟨rfl, (b1.trans (b2.mono b1.size)).trans (b3.mono (Nat.le_trans b1.size b2.size))⟩
end Go.Proofs.Ytmagaapdijapiaa
namespace Go.Proofs.Ytmagaapdijapiaa
open Go.ChangeShapes Go.WideShapes Go.ChangeAt Go.RowKit
/-- cells in order -/
def ltL (a b : List Int) : Prop := a.getD 1 0 < b.getD 1 0 ∨ (a.getD 1 0 = b.getD 1 0 ∧ a.getD 0 0 < b.getD 0 0)
def cellL (b : Bl) (y x : Nat) : List Int := [16 * b.1.getD 0 0 + x, 16 * b.1.getD 1 0 + y]
def rowTo (b : Bl) (y n : Nat) : List (List Int) := ((List.range n).filter fun x => bitB b.2 x y).map (cellL b y)
def rowC (b : Bl) (y : Nat) : List (List Int) := rowTo b y 16
theorem rowTo_yes {b : Bl} {y x : Nat} (h : bitB b.2 x y = true) : rowTo b y (x + 1) = rowTo b y x ++ [cellL b y x] := by
  simp [rowTo, List.range_succ, List.filter_append, h]
theorem rowTo_no {b : Bl} {y x : Nat} (h : bitB b.2 x y = false) : rowTo b y (x + 1) = rowTo b y x := by
  simp [rowTo, List.range_succ, List.filter_append, h]
theorem cells_row (b : Bl) (y : Nat) : ∀ x, x ≤ 16 → (cellsTo b.2 (16 * y + x)).map (mv (b.1.getD 0 0) (b.1.getD 1 0)) = (cellsTo b.2 (16 * y)).map (mv (b.1.getD 0 0) (b.1.getD 1 0)) ++ rowTo b y x
  | 0, _ => by simp [rowTo]
  | x + 1, hx => by
    have ih := cells_row b y x (by omega)
    rw [← Nat.add_assoc]
    cases h : bitB b.2 x y
    · rw [cellsTo_no (by omega) h, rowTo_no h, ih]
    · rw [cellsTo_yes (by omega) h, rowTo_yes h, List.map_append, ih, List.append_assoc]
      congr 2
      simp only [mv, cellL, List.map_cons, List.map_nil, List.getD_cons_zero, List.getD_cons_succ]
      rw [Int.add_comm, Int.add_comm (y : Int)]
theorem cells_rows (b : Bl) : ∀ y, (cellsTo b.2 (16 * y)).map (mv (b.1.getD 0 0) (b.1.getD 1 0)) = (List.range y).flatMap (rowC b)
  | 0 => by simp [cellsTo]
  | y + 1 => by
    rw [show 16 * (y + 1) = 16 * y + 16 from rfl, cells_row b y 16 (Nat.le_refl _), cells_rows b y, List.range_succ, List.flatMap_append]
    simp [rowC]
theorem bCells_flat (b : Bl) : bCells b = (List.range 16).flatMap (rowC b) := cells_rows b 16
theorem flat_add {α β : Type} (f g : α → List β) : ∀ l : List α, (l.flatMap f ++ l.flatMap g).Perm (l.flatMap fun a => f a ++ g a)
  | [] => by simp
  | a :: l => by
    simp only [List.flatMap_cons, List.append_assoc]
    refine List.Perm.append_left _ ?_
    refine (List.perm_append_comm_assoc ..).trans ?_
    exact List.Perm.append_left _ (flat_add f g l)
theorem flat_two {α β γ : Type} (f : α → β → List γ) (m : List β) : ∀ l : List α, (l.flatMap fun a => m.flatMap (f a)).Perm (m.flatMap fun b => l.flatMap fun a => f a b)
  | [] => by simp
  | a :: l => by
    simp only [List.flatMap_cons]
    exact (List.Perm.append_left _ (flat_two f m l)).trans (flat_add _ _ m)
def grpC (g : List Bl) : List (List Int) := (List.range 16).flatMap fun y => g.flatMap (rowC · y)
theorem grp_perm (g : List Bl) : (grpC g).Perm (g.flatMap bCells) := by
  have : g.flatMap bCells = g.flatMap fun b => (List.range 16).flatMap (rowC b) := by
    congr 1
    funext b
    exact bCells_flat b
  rw [this]
  exact (flat_two (fun b y => rowC b y) (List.range 16) g).symm
def sameR (b c : Bl) : Bool := decide (c.1.getD 1 0 = b.1.getD 1 0)
theorem drop_len {α : Type} (p : α → Bool) : ∀ l : List α, (l.dropWhile p).length ≤ l.length
  | [] => Nat.le_refl _
  | a :: l => by
    rw [List.dropWhile_cons]
    split
    · exact Nat.le_succ_of_le (drop_len p l)
    · exact Nat.le_refl _
def specC : List Bl → List (List Int)
  | [] => []
  | b :: r => grpC (b :: r.takeWhile (sameR b)) ++ specC (r.dropWhile (sameR b))
termination_by l => l.length
decreasing_by exact Nat.lt_succ_of_le (drop_len _ _)
theorem specC_nil : specC [] = [] := by rw [specC]
theorem specC_cons (b : Bl) (r : List Bl) : specC (b :: r) = grpC (b :: r.takeWhile (sameR b)) ++ specC (r.dropWhile (sameR b)) := by rw [specC]
theorem specC_perm : ∀ (n : Nat) (l : List Bl), l.length ≤ n → (specC l).Perm (l.flatMap bCells)
  | _, [], _ => by rw [specC_nil]; simp
  | n + 1, b :: r, h => by
    rw [specC_cons]
    have e : b :: r = (b :: r.takeWhile (sameR b)) ++ r.dropWhile (sameR b) := by rw [List.cons_append, List.takeWhile_append_dropWhile]
    rw [e, List.flatMap_append]
    refine (grp_perm _).append (specC_perm n _ ?_)
    have := drop_len (sameR b) r
    simp at h
    omega
theorem rowC_in {b : Bl} {y n : Nat} {c : List Int} (h : c ∈ rowTo b y n) : ∃ x, x < n ∧ c = cellL b y x := by
  obtain ⟨x, hx, rfl⟩ := List.mem_map.1 h
  exact ⟨x, List.mem_range.1 (List.mem_filter.1 hx).1, rfl⟩
theorem rowC_sorted (b : Bl) (y n : Nat) : (rowTo b y n).Pairwise ltL := by
  rw [rowTo, List.pairwise_map]
  refine List.Pairwise.imp ?_ ((List.pairwise_lt_range (n := n)).filter _)
  intro i j h
  refine .inr ⟨rfl, ?_⟩
  simp only [cellL, List.getD_cons_zero]
  omega
theorem grp_in {g : List Bl} {c : List Int} (h : c ∈ grpC g) : ∃ y b x, y < 16 ∧ b ∈ g ∧ x < 16 ∧ c = cellL b y x := by
  obtain ⟨y, hy, h1⟩ := List.mem_flatMap.1 h
  obtain ⟨b, hb, h2⟩ := List.mem_flatMap.1 h1
  obtain ⟨x, hx, rfl⟩ := rowC_in h2
  exact ⟨y, b, x, List.mem_range.1 hy, hb, hx, rfl⟩
theorem grp_sorted {g : List Bl} (h : Rising g) (hs : ∀ a ∈ g, ∀ b ∈ g, a.1.getD 1 0 = b.1.getD 1 0) : (grpC g).Pairwise ltL := by
  rw [grpC, List.pairwise_flatMap]
  refine ⟨fun y hy => ?_, ?_⟩
  · rw [List.pairwise_flatMap]
    refine ⟨fun b hb => rowC_sorted b y 16, ?_⟩
    refine List.Pairwise.imp_of_mem ?_ h
    intro a b ha hb hab c hc d hd
    obtain ⟨x, hx, rfl⟩ := rowC_in hc
    obtain ⟨x', hx', rfl⟩ := rowC_in hd
    have := hs a ha b hb
    unfold ltC at hab
    refine .inr ⟨?_, ?_⟩
    · simp only [cellL, List.getD_cons_zero, List.getD_cons_succ]
      omega
    · simp only [cellL, List.getD_cons_zero]
      omega
  · refine List.Pairwise.imp ?_ (List.pairwise_lt_range (n := 16))
    intro i j hij c hc d hd
    obtain ⟨a, ha, hc'⟩ := List.mem_flatMap.1 hc
    obtain ⟨b, hb, hd'⟩ := List.mem_flatMap.1 hd
    obtain ⟨x, hx, rfl⟩ := rowC_in hc'
    obtain ⟨x', hx', rfl⟩ := rowC_in hd'
    have := hs a ha b hb
    refine .inl ?_
    simp only [cellL, List.getD_cons_zero, List.getD_cons_succ]
    omega
theorem taken_all {p : Bl → Bool} : ∀ {l : List Bl} {c : Bl}, c ∈ l.takeWhile p → p c = true
  | [], c, h => by simp at h
  | a :: l, c, h => by
    rw [List.takeWhile_cons] at h
    split at h
    · rcases List.mem_cons.1 h with rfl | h
      · assumption
      · exact taken_all h
    · simp at h
theorem spec_in {l : List Bl} {c : List Int} (h : c ∈ specC l) : ∃ b ∈ l, ∃ y x, y < 16 ∧ x < 16 ∧ c = cellL b y x := by
  have := (specC_perm _ l (Nat.le_refl _)).mem_iff.1 h
  obtain ⟨b, hb, h1⟩ := List.mem_flatMap.1 this
  rw [bCells_flat] at h1
  obtain ⟨y, hy, h2⟩ := List.mem_flatMap.1 h1
  obtain ⟨x, hx, rfl⟩ := rowC_in h2
  exact ⟨b, hb, y, x, List.mem_range.1 hy, hx, rfl⟩
theorem rest_above {b : Bl} : ∀ {r : List Bl}, Rising (b :: r) → ∀ c ∈ r.dropWhile (sameR b), b.1.getD 1 0 < c.1.getD 1 0
  | [], _, c, hc => by simp at hc
  | a :: r, h, c, hc => by
    rw [List.dropWhile_cons] at hc
    have h1 := List.pairwise_cons.1 h
    have h2 := List.pairwise_cons.1 h1.2
    split at hc
    · exact rest_above (List.pairwise_cons.2 ⟨fun d hd => h1.1 d (List.mem_cons_of_mem _ hd), h2.2⟩) c hc
    · rename_i hn
      have ha : ltC b a := h1.1 a (List.mem_cons_self ..)
      have hne : ¬ a.1.getD 1 0 = b.1.getD 1 0 := fun e => hn (decide_eq_true e)
      have hba : b.1.getD 1 0 < a.1.getD 1 0 := by unfold ltC at ha; omega
      rcases List.mem_cons.1 hc with rfl | hc
      · exact hba
      · have := h2.1 c hc
        unfold ltC at this
        omega
theorem specC_sorted : ∀ (n : Nat) (l : List Bl), l.length ≤ n → Rising l → (specC l).Pairwise ltL
  | _, [], _, _ => by rw [specC_nil]; exact List.Pairwise.nil
  | n + 1, b :: r, hn, h => by
    have hd : Rising (r.dropWhile (sameR b)) := List.Pairwise.sublist (List.dropWhile_sublist _) (List.pairwise_cons.1 h).2
    have ht : Rising (b :: r.takeWhile (sameR b)) := List.Pairwise.sublist ((List.takeWhile_sublist _).cons_cons _) h
    have hsame : ∀ a ∈ b :: r.takeWhile (sameR b), a.1.getD 1 0 = b.1.getD 1 0 := fun a ha => by
      rcases List.mem_cons.1 ha with rfl | ha
      · rfl
      · exact of_decide_eq_true (taken_all ha)
    rw [specC_cons, List.pairwise_append]
    refine ⟨grp_sorted ht (fun a ha c hc => (hsame a ha).trans (hsame c hc).symm), specC_sorted n _ (by have := drop_len (sameR b) r; simp at hn; omega) hd, ?_⟩
    intro c hc d hd'
    obtain ⟨y, a, x, hy, ha, hx, rfl⟩ := grp_in hc
    obtain ⟨e, he, y', x', hy', hx', rfl⟩ := spec_in hd'
    have h1 := rest_above h e he
    have h2 := hsame a ha
    refine .inl ?_
    simp only [cellL, List.getD_cons_zero, List.getD_cons_succ]
    omega
theorem ltL_asymm {a b : List Int} (h : ltL a b) : ¬ ltL b a := by
  unfold ltL at *
  omega
theorem two_of {a : List Int} (h : a.length = 2) : a = [a.getD 0 0, a.getD 1 0] := by
  match a, h with
  | [_, _], _ => rfl
theorem ltL_total {a b : List Int} (ha : a.length = 2) (hb : b.length = 2) (h1 : ¬ ltL a b) (h2 : ¬ ltL b a) : a = b := by
  rw [two_of ha, two_of hb]
  unfold ltL at *
  have e0 : a.getD 0 0 = b.getD 0 0 := by omega
  have e1 : a.getD 1 0 = b.getD 1 0 := by omega
  rw [e0, e1]
/-- a sorted list is known by what it holds -/
theorem sorted_eq : ∀ {s t : List (List Int)}, (∀ c ∈ t, c.length = 2) → s.Perm t → (s.Pairwise fun x y => ¬ ltL y x) → t.Pairwise ltL → s = t
  | [], t, _, hp, _, _ => by rw [List.nil_perm.1 hp]
  | a :: s, [], _, hp, _, _ => by have := hp.length_eq; simp at this
  | a :: s, b :: t, h2, hp, hs, ht => by
    have hs1 := List.pairwise_cons.1 hs
    have ht1 := List.pairwise_cons.1 ht
    have hab : a = b := by
      have ha : a ∈ b :: t := hp.mem_iff.1 (List.mem_cons_self ..)
      have hb : b ∈ a :: s := hp.mem_iff.2 (List.mem_cons_self ..)
      rcases List.mem_cons.1 ha with e | ha'
      · exact e
      · rcases List.mem_cons.1 hb with e | hb'
        · exact e.symm
        · exact absurd (ht1.1 a ha') (hs1.1 b hb')
    subst hab
    rw [sorted_eq (fun c hc => h2 c (List.mem_cons_of_mem _ hc)) (List.Perm.cons_inv hp) hs1.2 ht1.2]
theorem cells_sorted_eq {l : List Bl} (h : Rising l) {s : List (List Int)} (hp : s.Perm (l.flatMap bCells)) (hs : s.Pairwise fun x y => ¬ ltL y x) : s = specC l :=
  sorted_eq (fun c hc => by obtain ⟨b, _, y, x, _, _, rfl⟩ := spec_in hc; rfl) (hp.trans (specC_perm _ l (Nat.le_refl _)).symm) hs (specC_sorted _ l (Nat.le_refl _) h)
theorem mCells_length (M : List Int) : (mCells M).length ≤ 256 := by
  rw [mCells, cellsTo, List.length_map]
  exact Nat.le_trans (List.length_filter_le _ _) (by rw [List.length_range]; exact Nat.le_refl _)
theorem flat_len : ∀ l : List Bl, (l.flatMap bCells).length ≤ 256 * l.length
  | [] => by simp
  | b :: l => by
    have := mCells_length b.2
    have h2 := flat_len l
    rw [List.flatMap_cons, List.length_append, bCells, List.length_map, List.length_cons]
    omega
theorem specC_length (l : List Bl) : (specC l).length ≤ 256 * l.length := by
  rw [(specC_perm _ l (Nat.le_refl _)).length_eq]
  exact flat_len l
theorem specC_rows (l : List Bl) : Rows_ 2 (specC l) := fun c hc => by
  obtain ⟨b, _, y, x, _, _, rfl⟩ := spec_in hc
  rfl
/-! ### as the reference tells them -/
def grpTo (g : List Bl) (y : Nat) : List (List Int) := (List.range y).flatMap fun y => g.flatMap (rowC · y)
theorem grpTo_succ (g : List Bl) (y : Nat) : grpTo g (y + 1) = grpTo g y ++ g.flatMap (rowC · y) := by
  rw [grpTo, List.range_succ, List.flatMap_append, grpTo]
  simp
theorem take_while_eq {p : Bl → Bool} : ∀ {r : List Bl} (k : Nat), (∀ j (h : j < r.length), j < k → p r[j] = true) → (∀ h : k < r.length, p r[k] = false) → k ≤ r.length → r.takeWhile p = r.take k ∧ r.dropWhile p = r.drop k
  | [], k, _, _, hk => by simp at hk; subst hk; simp
  | a :: r, 0, _, h, _ => by
    have := h (by simp)
    simp at this
    simp [this]
  | a :: r, k + 1, h, h2, hk => by
    have h0 := h 0 (by simp) (by omega)
    simp at h0
    obtain ⟨e1, e2⟩ := take_while_eq (p := p) (r := r) k (fun j hj hjk => by have := h (j + 1) (by simpa using hj) (by omega); simpa using this) (fun hj => by have := h2 (by simpa using hj); simpa using this) (by simpa using hk)
    rw [List.takeWhile_cons, List.dropWhile_cons, if_pos h0, if_pos h0, e1, e2]
    simp
/-- one group after another -/
theorem specC_step {l : List Bl} {i e : Nat} (hi : i < l.length) (hie : i < e) (he : e ≤ l.length) (hin : ∀ j (h : j < l.length), i ≤ j → j < e → (l[j]).1.getD 1 0 = (l[i]).1.getD 1 0) (hout : ∀ h : e < l.length, (l[e]).1.getD 1 0 ≠ (l[i]).1.getD 1 0) :
    specC (l.drop i) = grpC ((l.drop i).take (e - i)) ++ specC (l.drop e) := by
  have hd : l.drop i = l[i] :: l.drop (i + 1) := List.drop_eq_getElem_cons hi
  obtain ⟨e1, e2⟩ := take_while_eq (p := sameR l[i]) (r := l.drop (i + 1)) (e - (i + 1)) (fun j hj hjk => by
    rw [List.getElem_drop]
    exact decide_eq_true (hin _ (by rw [List.length_drop] at hj; omega) (by omega) (by omega))) (fun hj => by
    rw [List.getElem_drop]
    have hx : i + 1 + (e - (i + 1)) = e := by omega
    simp only [hx]
    exact decide_eq_false (hout (by rw [List.length_drop] at hj; omega))) (by rw [List.length_drop]; omega)
  rw [hd, specC_cons, e1, e2, List.drop_drop, show i + 1 + (e - (i + 1)) = e by omega, show e - i = (e - (i + 1)) + 1 by omega, List.take_succ_cons]
theorem grpTo_mono (g : List Bl) {y : Nat} : ∀ d, (grpTo g y).length ≤ (grpTo g (y + d)).length
  | 0 => Nat.le_refl _
  | d + 1 => by
    have := grpTo_mono g (y := y) d
    rw [← Nat.add_assoc, grpTo_succ, List.length_append]
    omega
theorem rowTo_len (b : Bl) (y : Nat) {x : Nat} : ∀ d, (rowTo b y x).length ≤ (rowTo b y (x + d)).length
  | 0 => Nat.le_refl _
  | d + 1 => by
    have := rowTo_len b y (x := x) d
    rw [← Nat.add_assoc]
    cases h : bitB b.2 (x + d) y
    · rw [rowTo_no h]
      exact this
    · rw [rowTo_yes h, List.length_append]
      omega
theorem told_bound (P : List (List Int)) (g : List Bl) {y k x : Nat} (hy : y < 16) (hk : k < g.length) (hx : x ≤ 16) :
    (P ++ grpTo g y ++ (g.take k).flatMap (rowC · y) ++ rowTo g[k] y x).length ≤ (P ++ grpC g).length := by
  have h1 := grpTo_mono g (y := y + 1) (15 - y)
  rw [show y + 1 + (15 - y) = 16 by omega, grpTo_succ, List.length_append] at h1
  have h2 := rowTo_len g[k] y (x := x) (16 - x)
  rw [show x + (16 - x) = 16 by omega] at h2
  have h3 : g.flatMap (rowC · y) = (g.take k).flatMap (rowC · y) ++ (rowC g[k] y ++ (g.drop (k + 1)).flatMap (rowC · y)) := by
    have e : g = g.take k ++ g[k] :: g.drop (k + 1) := by rw [← List.drop_eq_getElem_cons hk, List.take_append_drop]
    have e2 := congrArg (fun l : List Bl => l.flatMap (rowC · y)) e
    simpa only [List.flatMap_append, List.flatMap_cons] using e2
  rw [h3] at h1
  simp only [List.length_append] at h1 ⊢
  have h4 : (rowC g[k] y).length = (rowTo g[k] y 16).length := rfl
  have h5 : (grpC g).length = (grpTo g 16).length := rfl
  omega
theorem take_row (g : List Bl) (y : Nat) {k : Nat} (hk : k < g.length) : (g.take (k + 1)).flatMap (rowC · y) = (g.take k).flatMap (rowC · y) ++ rowTo g[k] y 16 := by
  rw [List.take_succ_eq_append_getElem hk, List.flatMap_append]
  simp [rowC]
end Go.Proofs.Ytmagaapdijapiaa
namespace Go.Proofs.Ytmagaapdijapiaa
open Go.ChangeShapes Go.WideShapes Go.ChangeAt Go.RowKit
theorem maskAt_nil (key : List Int) : maskAt [] key = zr16 := rfl
theorem maskAt_cons (b : Bl) (l : List Bl) (key : List Int) : maskAt (b :: l) key = if key = b.1 then b.2 else maskAt l key := by
  rw [maskAt, List.find?_cons]
  by_cases h : key = b.1
  · rw [if_pos h, beq_iff_eq.2 h]
  · rw [if_neg h, beq_eq_false_iff_ne.2 h]
    rfl
theorem maskAt_append (l m : List Bl) (key : List Int) : (∀ b ∈ l, key ≠ b.1) → maskAt (l ++ m) key = maskAt m key := by
  induction l with
  | nil => intro _; rfl
  | cons b l ih =>
    intro h
    rw [List.cons_append, maskAt_cons, if_neg (h b (List.mem_cons_self ..)), ih (fun c hc => h c (List.mem_cons_of_mem _ hc))]
theorem maskAt_left {l m : List Bl} {key : List Int} : (∃ b ∈ l, key = b.1) → maskAt (l ++ m) key = maskAt l key := by
  induction l with
  | nil => rintro ⟨b, hb, _⟩; cases hb
  | cons b l ih =>
    rintro ⟨c, hc, he⟩
    rw [List.cons_append, maskAt_cons, maskAt_cons]
    by_cases h : key = b.1
    · rw [if_pos h, if_pos h]
    · rw [if_neg h, if_neg h]
      rcases List.mem_cons.1 hc with rfl | hc
      · exact absurd he h
      · exact ih ⟨c, hc, he⟩
/-- a list of blocks that are apart holds a block just where its mask is told -/
theorem maskAt_of_mem {l : List Bl} (h : Apart l) {b : Bl} (hb : b ∈ l) : maskAt l b.1 = b.2 := by
  induction l with
  | nil => cases hb
  | cons a l ih =>
    have h1 := List.pairwise_cons.1 h
    rw [maskAt_cons]
    rcases List.mem_cons.1 hb with rfl | hb
    · rw [if_pos rfl]
    · rw [if_neg (fun e => h1.1 b hb e.symm), ih h1.2 hb]
theorem mem_of_maskAt {l : List Bl} {key : List Int} (h : maskAt l key ≠ zr16) : (key, maskAt l key) ∈ l := by
  induction l with
  | nil => exact absurd rfl h
  | cons a l ih =>
    rw [maskAt_cons] at h ⊢
    by_cases e : key = a.1
    · rw [if_pos e] at h ⊢
      subst e
      exact List.mem_cons_self ..
    · rw [if_neg e] at h ⊢
      exact List.mem_cons_of_mem _ (ih h)
def NoVoid (l : List Bl) : Prop := ∀ b ∈ l, b.2 ≠ zr16
theorem mem_iff_mask {l : List Bl} (h : Apart l) (hn : NoVoid l) (b : Bl) : b ∈ l ↔ (b.2 ≠ zr16 ∧ maskAt l b.1 = b.2) := by
  refine ⟨fun hb => ⟨hn b hb, maskAt_of_mem h hb⟩, fun ⟨h1, h2⟩ => ?_⟩
  have := mem_of_maskAt (l := l) (key := b.1) (by rw [h2]; exact h1)
  rwa [h2] at this
theorem ltC_irrefl {a : Bl} : ¬ ltC a a := by
  unfold ltC
  omega
theorem rising_ext : ∀ {l m : List Bl}, Rising l → Rising m → (∀ b, b ∈ l ↔ b ∈ m) → l = m
  | [], [], _, _, _ => rfl
  | [], b :: m, _, _, h => by have := (h b).2 (List.mem_cons_self ..); cases this
  | a :: l, [], _, _, h => by have := (h a).1 (List.mem_cons_self ..); cases this
  | a :: l, b :: m, hl, hm, h => by
    have hl1 := List.pairwise_cons.1 hl
    have hm1 := List.pairwise_cons.1 hm
    have hab : a = b := by
      rcases List.mem_cons.1 ((h a).1 (List.mem_cons_self ..)) with e | ha
      · exact e
      · rcases List.mem_cons.1 ((h b).2 (List.mem_cons_self ..)) with e | hb
        · exact e.symm
        · exact absurd (ltC_trans (hl1.1 b hb) (hm1.1 a ha)) ltC_irrefl
    subst hab
    rw [rising_ext hl1.2 hm1.2 (fun c => ⟨fun hc => by
      rcases List.mem_cons.1 ((h c).1 (List.mem_cons_of_mem _ hc)) with rfl | hc'
      · exact absurd (hl1.1 _ hc) ltC_irrefl
      · exact hc', fun hc => by
      rcases List.mem_cons.1 ((h c).2 (List.mem_cons_of_mem _ hc)) with rfl | hc'
      · exact absurd (hm1.1 _ hc) ltC_irrefl
      · exact hc'⟩)]
/-- pictures are known by their masks -/
theorem pic_ext {l m : List Bl} (hl : Rising l) (hm : Rising m) (nl : NoVoid l) (nm : NoVoid m) (h : ∀ key, maskAt l key = maskAt m key) : l = m :=
  rising_ext hl hm fun b => by rw [mem_iff_mask (apart_of_rising hl) nl, mem_iff_mask (apart_of_rising hm) nm, h]
/-! ### a block that is put in -/
theorem ins_rising {l : List Bl} (h : Rising l) {b : Bl} {k : Nat} (hk : k ≤ l.length) (h1 : ∀ c ∈ l.drop k, ltC b c) (h2 : ∀ (h0 : 0 < k), ltC (l[k - 1]'(by omega)) b) : Rising (l.take k ++ b :: l.drop k) := by
  have hs : Rising (l.take k ++ l.drop k) := by rw [List.take_append_drop]; exact h
  obtain ⟨s1, s2, s3⟩ := List.pairwise_append.1 hs
  have hlow : ∀ c ∈ l.take k, ltC c b := fun c hc => by
    have hk0 : 0 < k := by
      rcases Nat.eq_zero_or_pos k with rfl | h0
      · simp at hc
      · exact h0
    obtain ⟨i, hi, rfl⟩ := List.getElem_of_mem hc
    rw [List.length_take] at hi
    rw [List.getElem_take]
    by_cases he : i = k - 1
    · subst he
      exact h2 hk0
    · exact ltC_trans (List.pairwise_iff_getElem.1 h i (k - 1) (by omega) (by omega) (by omega)) (h2 hk0)
  refine List.pairwise_append.2 ⟨s1, List.pairwise_cons.2 ⟨h1, s2⟩, fun c hc d hd => ?_⟩
  rcases List.mem_cons.1 hd with rfl | hd
  · exact hlow c hc
  · exact s3 c hc d hd
theorem ins_mask {l : List Bl} {b : Bl} {k : Nat} (hno : ∀ c ∈ l, b.1 ≠ c.1) (key : List Int) : maskAt (l.take k ++ b :: l.drop k) key = if key = b.1 then b.2 else maskAt l key := by
  by_cases he : key = b.1
  · subst he
    rw [if_pos rfl, maskAt_append _ _ _ (fun c hc => hno c (List.mem_of_mem_take hc)), maskAt_cons, if_pos rfl]
  · rw [if_neg he]
    have e : maskAt l key = maskAt (l.take k ++ l.drop k) key := by rw [List.take_append_drop]
    rw [e]
    by_cases hx : ∃ c ∈ l.take k, key = c.1
    · rw [maskAt_left hx, maskAt_left hx]
    · rw [maskAt_append _ _ _ (fun c hc h => hx ⟨c, hc, h⟩), maskAt_append _ _ _ (fun c hc h => hx ⟨c, hc, h⟩), maskAt_cons, if_neg he]
theorem set_mask {l : List Bl} (h : Apart l) {i : Nat} (hi : i < l.length) (m : List Int) (key : List Int) : maskAt (l.set i (l[i].1, m)) key = if key = l[i].1 then m else maskAt l key := by
  induction l generalizing i with
  | nil => simp at hi
  | cons a l ih =>
    have h1 := List.pairwise_cons.1 h
    cases i with
    | zero =>
      simp only [List.set_cons_zero, List.getElem_cons_zero]
      rw [maskAt_cons, maskAt_cons]
      by_cases e : key = a.1
      · simp [e]
      · simp [e]
    | succ i =>
      simp only [List.set_cons_succ, List.getElem_cons_succ]
      rw [maskAt_cons, maskAt_cons, ih h1.2 (by simpa using hi)]
      by_cases e : key = a.1
      · have hne : ¬ a.1 = (l[i]'(by simpa using hi)).1 := h1.1 _ (List.getElem_mem _)
        subst e
        rw [if_pos rfl, if_neg hne, if_pos rfl]
      · rw [if_neg e, if_neg e]
theorem set_keys {l : List Bl} {i : Nat} (hi : i < l.length) (m : List Int) : (l.set i (l[i].1, m)).map (·.1) = l.map (·.1) := by
  rw [List.map_set]
  apply List.ext_getElem?
  intro j
  rw [List.getElem?_set]
  by_cases hj : i = j
  · subst hj
    simp [hi]
  · rw [if_neg hj]
theorem rising_keys {l m : List Bl} (h : Rising l) (hk : m.map (·.1) = l.map (·.1)) : Rising m := by
  have e : ∀ l : List Bl, Rising l ↔ (l.map (·.1)).Pairwise (fun a b => ltC (a, []) (b, [])) := fun l => by
    rw [List.pairwise_map]
    exact Iff.rfl
  rw [e] at h ⊢
  rwa [hk]
theorem apart_keys {l m : List Bl} (h : Apart l) (hk : m.map (·.1) = l.map (·.1)) : Apart m := by
  have e : ∀ l : List Bl, Apart l ↔ (l.map (·.1)).Pairwise (fun a b => a ≠ b) := fun l => by
    rw [List.pairwise_map]
    exact Iff.rfl
  rw [e] at h ⊢
  rwa [hk]
theorem apart_perm {l m : List Bl} (h : Apart l) (hp : m.Perm l) : Apart m := (hp.pairwise_iff (fun h e => h e.symm)).2 h
/-- what is sorted and apart rises -/
theorem rising_of_sorted {m : List Bl} (hb : Bls m) (ha : Apart m) (hs : m.Pairwise fun x y => ¬ ltC y x) : Rising m := by
  have h2 := ha.and hs
  refine List.Pairwise.imp_of_mem ?_ h2
  intro a b ham hbm ⟨hne, hlt⟩
  have e1 := two_of (hb a ham).1
  have e2 := two_of (hb b hbm).1
  unfold ltC at *
  have : ¬ (a.1.getD 0 0 = b.1.getD 0 0 ∧ a.1.getD 1 0 = b.1.getD 1 0) := fun ⟨x, y⟩ => hne (by rw [e1, e2, x, y])
  omega
theorem maskAt_perm {l m : List Bl} (h : Apart l) (hp : m.Perm l) (key : List Int) : maskAt m key = maskAt l key := by
  have hm := apart_perm h hp
  by_cases hx : ∃ b ∈ l, key = b.1
  · obtain ⟨b, hb, rfl⟩ := hx
    rw [maskAt_of_mem h hb, maskAt_of_mem hm (hp.mem_iff.2 hb)]
  · rw [maskAt_no (fun b hb e => hx ⟨b, hb, e⟩), maskAt_no (fun b hb e => hx ⟨b, hp.mem_iff.1 hb, e⟩)]
/-- the blocks with cells -/
def solid (l : List Bl) : List Bl := l.filter fun b => decide (b.2 ≠ zr16)
theorem maskAt_solid {l : List Bl} (h : Apart l) (key : List Int) : maskAt (solid l) key = maskAt l key := by
  induction l with
  | nil => rfl
  | cons b l ih =>
    have h1 := List.pairwise_cons.1 h
    have ih' := ih h1.2
    rw [solid, List.filter_cons, maskAt_cons]
    by_cases hb : b.2 = zr16
    · rw [if_neg (by simp [hb])]
      by_cases e : key = b.1
      · subst e
        rw [if_pos rfl, hb]
        exact maskAt_no fun c hc => h1.1 c (List.mem_filter.1 hc).1
      · rw [if_neg e]
        exact ih'
    · rw [if_pos (by simp [hb]), maskAt_cons]
      split
      · rfl
      · exact ih'
theorem solid_apart {l : List Bl} (h : Apart l) : Apart (solid l) := List.Pairwise.sublist (List.filter_sublist) h
theorem solid_noVoid (l : List Bl) : NoVoid (solid l) := fun b hb => by
  have := (List.mem_filter.1 hb).2
  exact of_decide_eq_true this
theorem solid_bls {l : List Bl} (h : Bls l) : Bls (solid l) := fun b hb => h b (List.mem_filter.1 hb).1
end Go.Proofs.Ytmagaapdijapiaa
namespace Go.Proofs.Ytmagaapdijapiaa
open Go.ChangeShapes Go.WideShapes Go.ChangeAt Go.RowKit
theorem zr16_at (i : Nat) (h : i < zr16.length) : zr16[i] = 0 := by simp only [zr16, List.getElem_replicate]
theorem zr16_len : zr16.length = 16 := rfl
/-- masks, row by row -/
def opM (f : Int → Int → Int) (a b : List Int) : List Int := List.zipWith f a b
def orF (x y : Int) : Int := bits .or .u16 x y
def andF (x y : Int) : Int := bits .and .u16 x y
def notF (x y : Int) : Int := bits .andNot .u16 x y
/-- what is asked of a way to make a row of two -/
structure Way (f : Int → Int → Int) : Prop where
  range : ∀ x y, 0 ≤ f x y ∧ f x y < 65536
  zero : f 0 0 = 0
theorem wrap16 (n : Int) : 0 ≤ IntKind.u16.wrap n ∧ IntKind.u16.wrap n < 65536 := by
  rw [IntKind.wrap_u16]
  omega
theorem orF_way : Way orF := ⟨fun _ _ => wrap16 _, by rw [orF, u16_or 0 0 (by decide) (by decide) (by decide) (by decide)]; rfl⟩
theorem andF_way : Way andF := ⟨fun _ _ => wrap16 _, by rw [andF, u16_and 0 0 (by decide) (by decide) (by decide) (by decide)]; rfl⟩
theorem notF_way : Way notF := ⟨fun _ _ => wrap16 _, by rw [notF, u16_andNot 0 0 (by decide) (by decide) (by decide) (by decide)]; rfl⟩
theorem opM_length {f : Int → Int → Int} {a b : List Int} (ha : a.length = 16) (hb : b.length = 16) : (opM f a b).length = 16 := by
  rw [opM, List.length_zipWith, ha, hb]
  rfl
theorem opM_16 {f : Int → Int → Int} (hf : Way f) (a b : List Int) : is16 (opM f a b) := fun x hx => by
  obtain ⟨i, hi, rfl⟩ := List.getElem_of_mem hx
  simp only [opM, List.getElem_zipWith]
  exact hf.range _ _
theorem opM_zero {f : Int → Int → Int} (hf : Way f) : opM f zr16 zr16 = zr16 := by
  apply List.ext_getElem (by rw [opM_length rfl rfl, zr16_len])
  intro i h1 h2
  simp only [opM, List.getElem_zipWith, zr16_at, hf.zero]
theorem zr16_16 : is16 zr16 := fun x hx => by
  have : x = 0 := by simpa [zr16] using hx
  omega
theorem orF_zl {x : Int} (h0 : 0 ≤ x) (h1 : x < 65536) : orF 0 x = x := by
  rw [orF, u16_or 0 x (by decide) (by decide) h0 h1, show (0 : Int).toNat = 0 from rfl, Nat.zero_or]
  omega
theorem orF_zr {x : Int} (h0 : 0 ≤ x) (h1 : x < 65536) : orF x 0 = x := by
  rw [orF, u16_or x 0 h0 h1 (by decide) (by decide), show (0 : Int).toNat = 0 from rfl, Nat.or_zero]
  omega
theorem andF_zl {x : Int} (h0 : 0 ≤ x) (h1 : x < 65536) : andF 0 x = 0 := by
  rw [andF, u16_and 0 x (by decide) (by decide) h0 h1, show (0 : Int).toNat = 0 from rfl, Nat.zero_and]
  rfl
theorem notF_zl {x : Int} (h0 : 0 ≤ x) (h1 : x < 65536) : notF 0 x = 0 := by
  rw [notF, u16_andNot 0 x (by decide) (by decide) h0 h1, show (0 : Int).toNat = 0 from rfl, Nat.zero_and]
  rfl
theorem orF_void {x y : Int} (h0 : 0 ≤ x) (h1 : x < 65536) (h2 : 0 ≤ y) (h3 : y < 65536) (h : orF x y = 0) : x = 0 := by
  rw [orF, u16_or x y h0 h1 h2 h3] at h
  have h4 : x.toNat ||| y.toNat = 0 := by omega
  have h5 : x.toNat ≤ x.toNat ||| y.toNat := Nat.left_le_or
  omega
theorem opM_left {f : Int → Int → Int} {a : List Int} {z : Int → Int} (h : ∀ x, 0 ≤ x → x < 65536 → f 0 x = z x) (ha : a.length = 16) (h16 : is16 a) : opM f zr16 a = a.map z := by
  apply List.ext_getElem (by rw [opM_length rfl ha, List.length_map, ha])
  intro i h1 h2
  have := h16 (a[i]'(by simpa using h2)) (List.getElem_mem _)
  simp only [opM, List.getElem_zipWith, zr16_at, List.getElem_map]
  exact h _ this.1 this.2
theorem orM_zl {a : List Int} (ha : a.length = 16) (h16 : is16 a) : opM orF zr16 a = a := by
  rw [opM_left (z := id) (fun x h0 h1 => orF_zl h0 h1) ha h16, List.map_id]
theorem zeros {a : List Int} (ha : a.length = 16) : a.map (fun _ => (0 : Int)) = zr16 := by
  rw [List.map_const', ha]
  rfl
theorem andM_zl {a : List Int} (ha : a.length = 16) (h16 : is16 a) : opM andF zr16 a = zr16 := by
  rw [opM_left (z := fun _ => 0) (fun x h0 h1 => andF_zl h0 h1) ha h16, zeros ha]
theorem notM_zl {a : List Int} (ha : a.length = 16) (h16 : is16 a) : opM notF zr16 a = zr16 := by
  rw [opM_left (z := fun _ => 0) (fun x h0 h1 => notF_zl h0 h1) ha h16, zeros ha]
theorem orM_zr {a : List Int} (ha : a.length = 16) (h16 : is16 a) : opM orF a zr16 = a := by
  apply List.ext_getElem (by rw [opM_length ha rfl, ha])
  intro i h1 h2
  have := h16 a[i] (List.getElem_mem _)
  simp only [opM, List.getElem_zipWith, zr16_at]
  exact orF_zr this.1 this.2
theorem orM_noVoid {a b : List Int} (ha : a.length = 16) (hb : b.length = 16) (h16 : is16 a) (h16' : is16 b) (h : a ≠ zr16) : opM orF a b ≠ zr16 := fun e => h (by
  apply List.ext_getElem (by rw [ha, zr16_len])
  intro i h1 h2
  have hi : i < 16 := by omega
  have e1 : (opM orF a b)[i]'(by rw [opM_length ha hb]; exact hi) = 0 := by
    simp only [e]
    exact zr16_at i _
  simp only [opM, List.getElem_zipWith] at e1
  have x1 := h16 a[i] (List.getElem_mem _)
  have x2 := h16' (b[i]'(by omega)) (List.getElem_mem _)
  rw [orF_void x1.1 x1.2 x2.1 x2.2 e1, zr16_at])
/-! ### pictures -/
structure Pic (l : List Bl) : Prop where
  rising : Rising l
  noVoid : NoVoid l
  bls : Bls l
  m16 : ∀ b ∈ l, is16 b.2
theorem Pic.apart {l : List Bl} (h : Pic l) : Apart l := apart_of_rising h.rising
theorem Pic.nil : Pic [] := ⟨List.Pairwise.nil, fun b hb => (by cases hb), fun b hb => (by cases hb), fun b hb => (by cases hb)⟩
theorem maskAt_ok {l : List Bl} (hl : Bls l) (h16 : ∀ b ∈ l, is16 b.2) (k : List Int) : (maskAt l k).length = 16 ∧ is16 (maskAt l k) := by
  by_cases h : maskAt l k = zr16
  · rw [h]
    exact ⟨rfl, zr16_16⟩
  · have := mem_of_maskAt h
    exact ⟨(hl _ this).2, h16 _ this⟩
/-- what a list of blocks becomes when a mask is joined at a corner -/
def Added (l : List Bl) (at_ : List Int) (m : List Int) (l' : List Bl) : Prop := Pic l' ∧ l'.length ≤ l.length + 1 ∧ ∀ key, maskAt l' key = if key = at_ then opM orF (maskAt l at_) m else maskAt l key
theorem added_void {l : List Bl} (h : Pic l) (at_ : List Int) : Added l at_ zr16 l := ⟨h, Nat.le_succ _, fun key => by
  obtain ⟨h1, h2⟩ := maskAt_ok h.bls h.m16 at_
  rw [orM_zr h1 h2]
  split
  · rename_i e; rw [e]
  · rfl⟩
theorem added_set {l : List Bl} (h : Pic l) {m : List Int} (hm : m.length = 16) (hm16 : is16 m) {i : Nat} (hi : i < l.length) : Added l l[i].1 m (l.set i (l[i].1, opM orF l[i].2 m)) := by
  have hb := h.bls _ (List.getElem_mem hi)
  have hb16 := h.m16 _ (List.getElem_mem hi)
  have hmem : ∀ b ∈ l.set i (l[i].1, opM orF l[i].2 m), b ∈ l ∨ b = (l[i].1, opM orF l[i].2 m) := fun b hb => List.mem_or_eq_of_mem_set hb
  refine ⟨⟨rising_keys h.rising (set_keys hi _), fun b hb' => ?_, fun b hb' => ?_, fun b hb' => ?_⟩, by rw [List.length_set]; exact Nat.le_succ _, fun key => ?_⟩
  · rcases hmem b hb' with h1 | rfl
    · exact h.noVoid b h1
    · exact orM_noVoid hb.2 hm hb16 hm16 (h.noVoid _ (List.getElem_mem hi))
  · rcases hmem b hb' with h1 | rfl
    · exact h.bls b h1
    · exact ⟨hb.1, opM_length hb.2 hm⟩
  · rcases hmem b hb' with h1 | rfl
    · exact h.m16 b h1
    · exact opM_16 orF_way _ _
  · rw [set_mask h.apart hi, maskAt_of_mem h.apart (List.getElem_mem hi)]
theorem added_ins {l : List Bl} (h : Pic l) {at_ m : List Int} (ha : at_.length = 2) (hm : m.length = 16) (hm16 : is16 m) (hv : m ≠ zr16) (hno : ∀ c ∈ l, at_ ≠ c.1) {k : Nat} (hk : k ≤ l.length) (h1 : ∀ c ∈ l.drop k, ltC (at_, m) c) (h2 : ∀ (h0 : 0 < k), ltC (l[k - 1]'(by omega)) (at_, m)) : Added l at_ m (l.take k ++ (at_, m) :: l.drop k) := by
  have hmem : ∀ b ∈ l.take k ++ (at_, m) :: l.drop k, b ∈ l ∨ b = (at_, m) := fun b hb => by
    rcases List.mem_append.1 hb with hb | hb
    · exact .inl (List.mem_of_mem_take hb)
    · rcases List.mem_cons.1 hb with rfl | hb
      · exact .inr rfl
      · exact .inl (List.mem_of_mem_drop hb)
  refine ⟨⟨ins_rising h.rising hk h1 h2, fun b hb' => ?_, fun b hb' => ?_, fun b hb' => ?_⟩, by rw [List.length_append, List.length_take, List.length_cons, List.length_drop]; omega, fun key => ?_⟩
  · rcases hmem b hb' with h1 | rfl
    · exact h.noVoid b h1
    · exact hv
  · rcases hmem b hb' with h1 | rfl
    · exact h.bls b h1
    · exact ⟨ha, hm⟩
  · rcases hmem b hb' with h1 | rfl
    · exact h.m16 b h1
    · exact hm16
  · rw [ins_mask hno, maskAt_no hno, orM_zl hm hm16]
/-! ### joined -/
def JoinTo (a b : List Bl) (i : Nat) (out : List Bl) : Prop := Pic out ∧ out.length ≤ a.length + i ∧ ∀ key, maskAt out key = opM orF (maskAt a key) (maskAt (b.take i) key)
theorem joinTo_zero {a : List Bl} (b : List Bl) (h : Pic a) : JoinTo a b 0 a := ⟨h, by omega, fun key => by
  obtain ⟨h1, h2⟩ := maskAt_ok h.bls h.m16 key
  rw [List.take_zero, maskAt_nil, orM_zr h1 h2]⟩
theorem maskAt_take_succ {b : List Bl} (h : Apart b) {i : Nat} (hi : i < b.length) (key : List Int) : maskAt (b.take (i + 1)) key = if key = b[i].1 then b[i].2 else maskAt (b.take i) key := by
  have hap : ∀ c ∈ b.take i, b[i].1 ≠ c.1 := fun c hc e => by
    obtain ⟨j, hj, rfl⟩ := List.getElem_of_mem hc
    rw [List.length_take] at hj
    rw [List.getElem_take] at e
    exact List.pairwise_iff_getElem.1 h j i (by omega) hi (by omega) e.symm
  rw [List.take_succ_eq_append_getElem hi]
  by_cases e : key = b[i].1
  · rw [if_pos e, maskAt_append _ _ _ (fun c hc => by rw [e]; exact hap c hc), maskAt_cons, if_pos e]
  · rw [if_neg e]
    by_cases hx : ∃ c ∈ b.take i, key = c.1
    · rw [maskAt_left hx]
    · rw [maskAt_append _ _ _ (fun c hc h => hx ⟨c, hc, h⟩), maskAt_cons, if_neg e, maskAt_nil, maskAt_no (fun c hc h => hx ⟨c, hc, h⟩)]
theorem maskAt_take_self {b : List Bl} (h : Apart b) {i : Nat} (hi : i < b.length) : maskAt (b.take i) b[i].1 = zr16 := maskAt_no fun c hc e => by
  obtain ⟨j, hj, rfl⟩ := List.getElem_of_mem hc
  rw [List.length_take] at hj
  rw [List.getElem_take] at e
  exact List.pairwise_iff_getElem.1 h j i (by omega) hi (by omega) e.symm
theorem joinTo_succ {a b out out' : List Bl} (ha : Pic a) (hb : Apart b) {i : Nat} (hi : i < b.length) (h : JoinTo a b i out) (h2 : Added out b[i].1 b[i].2 out') : JoinTo a b (i + 1) out' := by
  refine ⟨h2.1, by have := h.2.1; have := h2.2.1; omega, fun key => ?_⟩
  rw [h2.2.2, maskAt_take_succ hb hi]
  by_cases e : key = b[i].1
  · obtain ⟨h3, h4⟩ := maskAt_ok ha.bls ha.m16 b[i].1
    rw [if_pos e, if_pos e, h.2.2, maskAt_take_self hb hi, orM_zr h3 h4, e]
  · rw [if_neg e, if_neg e, h.2.2]
/-! ### met, taken away -/
def mixL (f : Int → Int → Int) (a b : List Bl) : List Bl := a.map fun x => (x.1, opM f x.2 (maskAt b x.1))
theorem maskAt_mix {f : Int → Int → Int} (hz : ∀ m : List Int, m.length = 16 → is16 m → opM f zr16 m = zr16) (a : List Bl) {b : List Bl} (hb : Bls b) (h16 : ∀ x ∈ b, is16 x.2) (key : List Int) : maskAt (mixL f a b) key = opM f (maskAt a key) (maskAt b key) := by
  induction a with
  | nil =>
    obtain ⟨h1, h2⟩ := maskAt_ok hb h16 key
    rw [maskAt_nil, hz _ h1 h2]
    rfl
  | cons x a ih =>
    have e : mixL f (x :: a) b = (x.1, opM f x.2 (maskAt b x.1)) :: mixL f a b := rfl
    rw [e, maskAt_cons, maskAt_cons, ih]
    by_cases h : key = x.1
    · simp [h]
    · simp [h]
def MixTo (f : Int → Int → Int) (a b : List Bl) (i : Nat) (out : List Bl) : Prop := Pic out ∧ out.length ≤ i ∧ ∀ key, maskAt out key = maskAt (mixL f (a.take i) b) key
theorem mixTo_zero (f : Int → Int → Int) (a b : List Bl) : MixTo f a b 0 [] := ⟨Pic.nil, Nat.le_refl _, fun _ => rfl⟩
theorem mixTo_succ {f : Int → Int → Int} (hf : Way f) {a b out out' : List Bl} (ha : Bls a) (hap : Apart a) (hb : Bls b) {i : Nat} (hi : i < a.length) (h16b : ∀ x ∈ b, is16 x.2) (h : MixTo f a b i out) (h2 : Added out a[i].1 (opM f a[i].2 (maskAt b a[i].1)) out') : MixTo f a b (i + 1) out' := by
  have hk : (mixL f a b).length = a.length := by rw [mixL, List.length_map]
  have hm : Apart (mixL f a b) := apart_keys hap (by rw [mixL, List.map_map]; rfl)
  have ht : ∀ j, mixL f (a.take j) b = (mixL f a b).take j := fun j => by rw [mixL, mixL, List.map_take]
  have hi' : i < (mixL f a b).length := by omega
  have hg : (mixL f a b)[i] = (a[i].1, opM f a[i].2 (maskAt b a[i].1)) := by simp only [mixL, List.getElem_map]
  refine ⟨h2.1, by have := h.2.1; have := h2.2.1; omega, fun key => ?_⟩
  obtain ⟨h3, h4⟩ := maskAt_ok hb h16b a[i].1
  rw [h2.2.2, ht, maskAt_take_succ hm hi', hg]
  by_cases e : key = a[i].1
  · have hz := maskAt_take_self hm hi'
    rw [hg] at hz
    rw [if_pos e, if_pos e, h.2.2, ht, hz, orM_zl (opM_length (ha _ (List.getElem_mem hi)).2 h3) (opM_16 hf _ _)]
  · rw [if_neg e, if_neg e, h.2.2, ht]
/-! ### a table of masks, in whatever order -/
def tabL (F : List Int → List Int) (ks : List (List Int)) : List Bl := ks.map fun k => (k, F k)
theorem maskAt_tab (F : List Int → List Int) (ks : List (List Int)) (key : List Int) : maskAt (tabL F ks) key = if key ∈ ks then F key else zr16 := by
  induction ks with
  | nil => rfl
  | cons k ks ih =>
    have e : tabL F (k :: ks) = (k, F k) :: tabL F ks := rfl
    rw [e, maskAt_cons, ih]
    by_cases h : key = k
    · simp [h]
    · simp [h]
theorem tab_apart {F : List Int → List Int} {ks : List (List Int)} (h : ks.Nodup) : Apart (tabL F ks) := by
  rw [tabL, Apart, List.pairwise_map]
  exact h
/-! ### cells that are put in -/
def cornerL (c : List Int) : List Int := [c.getD 0 0 / 16, c.getD 1 0 / 16]
def setOr (M : List Int) (y x : Nat) : List Int := M.set y (orF (M.getD y 0) (2 ^ x))
def putC (M : List Int) (c : List Int) : List Int := setOr M (c.getD 1 0 % 16).toNat (c.getD 0 0 % 16).toNat
def toldM (cs : List (List Int)) (key : List Int) : List Int := cs.foldl (fun M c => if key = cornerL c then putC M c else M) zr16
theorem toldM_succ (cs : List (List Int)) {i : Nat} (hi : i < cs.length) (key : List Int) : toldM (cs.take (i + 1)) key = if key = cornerL cs[i] then putC (toldM (cs.take i) key) cs[i] else toldM (cs.take i) key := by
  rw [toldM, List.take_succ_eq_append_getElem hi, List.foldl_append]
  rfl
theorem pow_16 {x : Nat} (hx : x < 16) : (0 : Int) ≤ 2 ^ x ∧ (2 : Int) ^ x < 65536 := by
  have h1 : (2 : Nat) ^ x < 2 ^ 16 := Nat.pow_lt_pow_right (by decide) hx
  have h2 : ((2 ^ x : Nat) : Int) = (2 : Int) ^ x := by simp
  rw [← h2]
  generalize (2 : Nat) ^ x = q at *
  have h3 : (2 : Nat) ^ 16 = 65536 := by decide
  omega
theorem setOr_eq {M : List Int} (hM : M.length = 16) (h16 : is16 M) {y x : Nat} (_hy : y < 16) (_hx : x < 16) : opM orF M (zr16.set y (2 ^ x)) = setOr M y x := by
  apply List.ext_getElem (by rw [opM_length hM (by rw [List.length_set]; rfl), setOr, List.length_set, hM])
  intro i h1 h2
  have hi : i < M.length := by simpa [setOr] using h2
  have hr := h16 M[i] (List.getElem_mem _)
  simp only [opM, setOr, List.getElem_zipWith, List.getElem_set]
  by_cases e : y = i
  · subst e
    simp [hi]
  · rw [if_neg e, if_neg e, zr16_at]
    exact orF_zr hr.1 hr.2
theorem setOr_length {M : List Int} (hM : M.length = 16) (y x : Nat) : (setOr M y x).length = 16 := by rw [setOr, List.length_set, hM]
theorem setOr_16 {M : List Int} (h16 : is16 M) (y x : Nat) : is16 (setOr M y x) := fun v hv => by
  rcases List.mem_or_eq_of_mem_set hv with h | rfl
  · exact h16 v h
  · exact orF_way.range _ _
theorem toldM_ok : ∀ (cs : List (List Int)) (key : List Int), (toldM cs key).length = 16 ∧ is16 (toldM cs key) := fun cs key => by
  have : ∀ (cs : List (List Int)) (M : List Int), M.length = 16 → is16 M → (cs.foldl (fun M c => if key = cornerL c then putC M c else M) M).length = 16 ∧ is16 (cs.foldl (fun M c => if key = cornerL c then putC M c else M) M) := by
    intro cs
    induction cs with
    | nil => intro M h1 h2; exact ⟨h1, h2⟩
    | cons c cs ih =>
      intro M h1 h2
      rw [List.foldl_cons]
      split
      · exact ih _ (setOr_length h1 _ _) (setOr_16 h2 _ _)
      · exact ih _ h1 h2
  exact this cs zr16 rfl zr16_16
theorem spot_noVoid {y x : Nat} (hy : y < 16) : zr16.set y (2 ^ x) ≠ zr16 := fun e => by
  have hp : (0 : Int) < 2 ^ x := Int.pow_pos (by decide)
  have hl : y < zr16.length := hy
  have h1 : (zr16.set y (2 ^ x)).getD y 0 = zr16.getD y 0 := by rw [e]
  rw [List.getD_eq_getElem?_getD, List.getD_eq_getElem?_getD, List.getElem?_set_self hl, List.getElem?_eq_getElem hl, zr16_at] at h1
  simp only [Option.getD_some] at h1
  omega
theorem spot_16 {y x : Nat} (hx : x < 16) : is16 (zr16.set y (2 ^ x)) := fun v hv => by
  rcases List.mem_or_eq_of_mem_set hv with h | rfl
  · exact zr16_16 v h
  · exact pow_16 hx
def SpotTo (cs : List (List Int)) (i : Nat) (out : List Bl) : Prop := Pic out ∧ out.length ≤ i ∧ ∀ key, maskAt out key = toldM (cs.take i) key
theorem spotTo_zero (cs : List (List Int)) : SpotTo cs 0 [] := ⟨Pic.nil, Nat.le_refl _, fun _ => rfl⟩
theorem spotTo_succ {cs : List (List Int)} {out out' : List Bl} {i : Nat} (hi : i < cs.length) (h : SpotTo cs i out) (h2 : Added out (cornerL cs[i]) (zr16.set (cs[i].getD 1 0 % 16).toNat (2 ^ (cs[i].getD 0 0 % 16).toNat)) out') : SpotTo cs (i + 1) out' := by
  refine ⟨h2.1, by have := h.2.1; have := h2.2.1; omega, fun key => ?_⟩
  obtain ⟨h3, h4⟩ := maskAt_ok h.1.bls h.1.m16 (cornerL cs[i])
  rw [h2.2.2, toldM_succ cs hi]
  by_cases e : key = cornerL cs[i]
  · rw [if_pos e, if_pos e, setOr_eq h3 h4 (by omega) (by omega), h.2.2, e]
    rfl
  · rw [if_neg e, if_neg e, h.2.2]
end Go.Proofs.Ytmagaapdijapiaa
namespace Go.Proofs.Ytmagaapdijapiaa
open Go.ChangeShapes Go.WideShapes Go.ChangeAt Go.RowKit
def rowBit (v : Int) (x : Nat) : Bool := decide (v / 2 ^ x % 2 = 1)
theorem rowBit_nat {v : Int} (h : 0 ≤ v) (x : Nat) : rowBit v x = v.toNat.testBit x := by
  obtain ⟨n, rfl⟩ : ∃ n : Nat, v = n := ⟨v.toNat, by omega⟩
  rw [rowBit, Nat.testBit_eq_decide_div_mod_eq, Int.toNat_natCast]
  have e : ((n / 2 ^ x % 2 : Nat) : Int) = (n : Int) / 2 ^ x % 2 := by
    rw [Int.natCast_emod, Int.natCast_ediv, Int.natCast_pow]
    rfl
  rw [← e]
  exact decide_eq_decide.2 (by omega)
theorem row_ext {u v : Int} (hu : 0 ≤ u ∧ u < 65536) (hv : 0 ≤ v ∧ v < 65536) (h : ∀ x, x < 16 → rowBit u x = rowBit v x) : u = v := by
  have hn : u.toNat = v.toNat := by
    apply Nat.eq_of_testBit_eq
    intro i
    by_cases hi : i < 16
    · rw [← rowBit_nat hu.1, ← rowBit_nat hv.1]
      exact h i hi
    · have h16 : (2 : Nat) ^ 16 ≤ 2 ^ i := Nat.pow_le_pow_right (by decide) (by omega)
      have h65 : (2 : Nat) ^ 16 = 65536 := by decide
      have h1 : u.toNat < 2 ^ i := by omega
      have h2 : v.toNat < 2 ^ i := by omega
      rw [Nat.testBit_lt_two_pow h1, Nat.testBit_lt_two_pow h2]
  omega
theorem orF_bit {u v : Int} (hu : 0 ≤ u ∧ u < 65536) (hv : 0 ≤ v ∧ v < 65536) (x : Nat) : rowBit (orF u v) x = (rowBit u x || rowBit v x) := by
  rw [orF, u16_or u v hu.1 hu.2 hv.1 hv.2, rowBit_nat (by omega), rowBit_nat hu.1, rowBit_nat hv.1, Int.toNat_natCast, Nat.testBit_or]
theorem andF_bit {u v : Int} (hu : 0 ≤ u ∧ u < 65536) (hv : 0 ≤ v ∧ v < 65536) (x : Nat) : rowBit (andF u v) x = (rowBit u x && rowBit v x) := by
  rw [andF, u16_and u v hu.1 hu.2 hv.1 hv.2, rowBit_nat (by omega), rowBit_nat hu.1, rowBit_nat hv.1, Int.toNat_natCast, Nat.testBit_and]
theorem notF_bit {u v : Int} (hu : 0 ≤ u ∧ u < 65536) (hv : 0 ≤ v ∧ v < 65536) {x : Nat} (hx : x < 16) : rowBit (notF u v) x = (rowBit u x && !rowBit v x) := by
  rw [notF, u16_andNot u v hu.1 hu.2 hv.1 hv.2, rowBit_nat (by omega), rowBit_nat hu.1, rowBit_nat hv.1, Int.toNat_natCast, Nat.testBit_and]
  have h1 : v.toNat < 2 ^ 16 := by
    have : (2 : Nat) ^ 16 = 65536 := by decide
    omega
  have h2 : 65535 - v.toNat = 2 ^ 16 - (v.toNat + 1) := by
    have : (2 : Nat) ^ 16 = 65536 := by decide
    omega
  rw [h2, Nat.testBit_two_pow_sub_succ h1, decide_eq_true hx, Bool.true_and]
theorem pow_bit {a x : Nat} (_ha : a < 16) : rowBit (2 ^ a) x = decide (x = a) := by
  have h2 : ((2 ^ a : Nat) : Int) = (2 : Int) ^ a := by simp
  rw [← h2, rowBit_nat (Int.natCast_nonneg _), Int.toNat_natCast, Nat.testBit_two_pow]
  exact decide_eq_decide.2 eq_comm
theorem bitB_row (M : List Int) (x y : Nat) : bitB M x y = rowBit (M.getD y 0) x := rfl
theorem zero_bit (x : Nat) : rowBit 0 x = false := by
  rw [rowBit_nat (by decide)]
  exact Nat.zero_testBit x
theorem zr16_getD (y : Nat) : zr16.getD y 0 = 0 := by
  by_cases h : y < 16
  · have h' : y < zr16.length := h
    rw [List.getD_eq_getElem?_getD, List.getElem?_eq_getElem h', zr16_at]
    rfl
  · rw [List.getD_eq_getElem?_getD, List.getElem?_eq_none (by exact Nat.le_of_not_lt h)]
    rfl
theorem zr16_bit (x y : Nat) : bitB zr16 x y = false := by rw [bitB_row, zr16_getD, zero_bit]
theorem opM_getD {f : Int → Int → Int} {a b : List Int} (ha : a.length = 16) (hb : b.length = 16) {y : Nat} (hy : y < 16) : (opM f a b).getD y 0 = f (a.getD y 0) (b.getD y 0) := by
  have hl := opM_length (f := f) ha hb
  rw [List.getD_eq_getElem?_getD, List.getElem?_eq_getElem (by omega), List.getD_eq_getElem?_getD, List.getElem?_eq_getElem (by omega), List.getD_eq_getElem?_getD, List.getElem?_eq_getElem (by omega)]
  simp only [opM, List.getElem_zipWith, Option.getD_some]
theorem orM_bit {a b : List Int} (ha : a.length = 16) (hb : b.length = 16) (h1 : is16 a) (h2 : is16 b) {x y : Nat} (hy : y < 16) : bitB (opM orF a b) x y = (bitB a x y || bitB b x y) := by
  rw [bitB_row, opM_getD ha hb hy, orF_bit (h1.getD y) (h2.getD y)]
  rfl
theorem andM_bit {a b : List Int} (ha : a.length = 16) (hb : b.length = 16) (h1 : is16 a) (h2 : is16 b) {x y : Nat} (hy : y < 16) : bitB (opM andF a b) x y = (bitB a x y && bitB b x y) := by
  rw [bitB_row, opM_getD ha hb hy, andF_bit (h1.getD y) (h2.getD y)]
  rfl
theorem notM_bit {a b : List Int} (ha : a.length = 16) (hb : b.length = 16) (h1 : is16 a) (h2 : is16 b) {x y : Nat} (hx : x < 16) (hy : y < 16) : bitB (opM notF a b) x y = (bitB a x y && !bitB b x y) := by
  rw [bitB_row, opM_getD ha hb hy, notF_bit (h1.getD y) (h2.getD y) hx]
  rfl
theorem set_getD {M : List Int} {y j : Nat} (v : Int) (hy : y < M.length) : (M.set y v).getD j 0 = if j = y then v else M.getD j 0 := by
  rw [List.getD_eq_getElem?_getD, List.getElem?_set, List.getD_eq_getElem?_getD]
  by_cases h : y = j
  · subst h
    simp [hy]
  · rw [if_neg h, if_neg (fun e => h e.symm)]
theorem spot_bit {a b x y : Nat} (ha : a < 16) (hb : b < 16) : bitB (zr16.set b (2 ^ a)) x y = (decide (x = a) && decide (y = b)) := by
  rw [bitB_row, set_getD _ (by exact hb)]
  by_cases h : y = b
  · rw [if_pos h, pow_bit ha, decide_eq_true h, Bool.and_true]
  · rw [if_neg h, zr16_getD, zero_bit, decide_eq_false h, Bool.and_false]
/-- a cell is set, or struck -/
theorem setOr_bit {M : List Int} (hM : M.length = 16) (h16 : is16 M) {a b x y : Nat} (ha : a < 16) (hb : b < 16) : bitB (setOr M b a) x y = (bitB M x y || (decide (x = a) && decide (y = b))) := by
  rw [setOr, bitB_row, set_getD _ (by omega)]
  by_cases h : y = b
  · rw [if_pos h, h, orF_bit (h16.getD b) (pow_16 ha), pow_bit ha, decide_eq_true (rfl : b = b), Bool.and_true]
    rfl
  · rw [if_neg h, decide_eq_false h, Bool.and_false, Bool.or_false]
    rfl
def setNot (M : List Int) (y x : Nat) : List Int := M.set y (notF (M.getD y 0) (2 ^ x))
theorem setNot_length {M : List Int} (hM : M.length = 16) (y x : Nat) : (setNot M y x).length = 16 := by rw [setNot, List.length_set, hM]
theorem setNot_16 {M : List Int} (h16 : is16 M) (y x : Nat) : is16 (setNot M y x) := fun v hv => by
  rcases List.mem_or_eq_of_mem_set hv with h | rfl
  · exact h16 v h
  · exact notF_way.range _ _
theorem setNot_bit {M : List Int} (hM : M.length = 16) (h16 : is16 M) {a b x y : Nat} (ha : a < 16) (hb : b < 16) (hx : x < 16) : bitB (setNot M b a) x y = (bitB M x y && !(decide (x = a) && decide (y = b))) := by
  rw [setNot, bitB_row, set_getD _ (by omega)]
  by_cases h : y = b
  · rw [if_pos h, h, notF_bit (h16.getD b) (pow_16 ha) hx, pow_bit ha, decide_eq_true (rfl : b = b), Bool.and_true]
    rfl
  · rw [if_neg h, decide_eq_false h, Bool.and_false, Bool.not_false, Bool.and_true]
    rfl
theorem mask_ext {a b : List Int} (ha : a.length = 16) (hb : b.length = 16) (h1 : is16 a) (h2 : is16 b) (h : ∀ x y, x < 16 → y < 16 → bitB a x y = bitB b x y) : a = b := by
  apply List.ext_getElem (by omega)
  intro i hi hj
  refine row_ext (h1 _ (List.getElem_mem _)) (h2 _ (List.getElem_mem _)) fun x hx => ?_
  have := h x i hx (by omega)
  rw [bitB_row, bitB_row, List.getD_eq_getElem?_getD, List.getElem?_eq_getElem hi, List.getD_eq_getElem?_getD, List.getElem?_eq_getElem hj] at this
  exact this
/-! ### pictures -/
theorem maskAt_odd {l : List Bl} (h : Bls l) {key : List Int} (hk : key.length ≠ 2) : maskAt l key = zr16 := maskAt_no fun b hb e => hk (by rw [e]; exact (h b hb).1)
theorem hasB_at (l : List Bl) (a b : Int) {x y : Nat} (hx : x < 16) (hy : y < 16) : hasB l (16 * a + x) (16 * b + y) = bitB (maskAt l [a, b]) x y := by
  rw [hasB, show (16 * a + (x : Int)) / 16 = a by omega, show (16 * b + (y : Int)) / 16 = b by omega, show ((16 * a + (x : Int)) % 16).toNat = x by omega, show ((16 * b + (y : Int)) % 16).toNat = y by omega]
theorem masks_of_has {l m : List Bl} (hl : Bls l) (hm : Bls m) (h1 : ∀ b ∈ l, is16 b.2) (h2 : ∀ b ∈ m, is16 b.2) (h : ∀ X Y, hasB l X Y = hasB m X Y) (key : List Int) : maskAt l key = maskAt m key := by
  by_cases hk : key.length = 2
  · obtain ⟨a1, a2⟩ := maskAt_ok hl h1 key
    obtain ⟨b1, b2⟩ := maskAt_ok hm h2 key
    refine mask_ext a1 b1 a2 b2 fun x y hx hy => ?_
    have := h (16 * key.getD 0 0 + x) (16 * key.getD 1 0 + y)
    rw [hasB_at _ _ _ hx hy, hasB_at _ _ _ hx hy, ← two_of hk] at this
    exact this
  · rw [maskAt_odd hl hk, maskAt_odd hm hk]
/-- pictures are known by their cells -/
theorem pic_has {l m : List Bl} (hl : Pic l) (hm : Pic m) (h : ∀ X Y, hasB l X Y = hasB m X Y) : l = m :=
  pic_ext hl.rising hm.rising hl.noVoid hm.noVoid (masks_of_has hl.bls hm.bls hl.m16 hm.m16 h)
theorem has_nil (X Y : Int) : hasB [] X Y = false := by rw [hasB, maskAt_nil, zr16_bit]
theorem cornerL_two (X Y : Int) : cornerL [X, Y] = [X / 16, Y / 16] := rfl
/-- a cell is put in -/
theorem has_put {l l' : List Bl} (h : Pic l) (X Y : Int) (h2 : Added l [X / 16, Y / 16] (zr16.set (Y % 16).toNat (2 ^ (X % 16).toNat)) l') (U V : Int) : hasB l' U V = (hasB l U V || (decide (U = X) && decide (V = Y))) := by
  obtain ⟨m1, m2⟩ := maskAt_ok h.bls h.m16 [X / 16, Y / 16]
  rw [hasB, h2.2.2, hasB]
  by_cases e : [U / 16, V / 16] = [X / 16, Y / 16]
  · rw [if_pos e, setOr_eq m1 m2 (by omega) (by omega), setOr_bit m1 m2 (by omega) (by omega), e]
    congr 1
    have e0 : U / 16 = X / 16 := by injection e
    have e1 : V / 16 = Y / 16 := by injection e with _ h; injection h
    congr 1
    · exact decide_eq_decide.2 (by omega)
    · exact decide_eq_decide.2 (by omega)
  · rw [if_neg e]
    have : (decide (U = X) && decide (V = Y)) = false := by
      rw [Bool.and_eq_false_iff, decide_eq_false_iff_not, decide_eq_false_iff_not]
      by_cases h1 : U = X
      · exact .inr fun h2 => e (by rw [h1, h2])
      · exact .inl h1
    rw [this, Bool.or_false]
/-- a cell of a picture lies in a block -/
theorem has_mem {l : List Bl} {X Y : Int} (h : hasB l X Y = true) : ∃ b ∈ l, b.1 = [X / 16, Y / 16] ∧ bitB b.2 (X % 16).toNat (Y % 16).toNat = true := by
  rw [hasB] at h
  have hne : maskAt l [X / 16, Y / 16] ≠ zr16 := fun e => by rw [e, zr16_bit] at h; cases h
  exact ⟨_, mem_of_maskAt hne, rfl, h⟩
theorem has_of_mem {l : List Bl} (h : Apart l) {b : Bl} (hb : b ∈ l) (h2 : b.1.length = 2) {x y : Nat} (hx : x < 16) (hy : y < 16) : hasB l (16 * b.1.getD 0 0 + x) (16 * b.1.getD 1 0 + y) = bitB b.2 x y := by
  rw [hasB_at _ _ _ hx hy, ← two_of h2, maskAt_of_mem h hb]
/-- the cells that are told are those that it has -/
theorem spec_mem {l : List Bl} (h : Apart l) (hl : Bls l) (c : List Int) : c ∈ specC l ↔ c.length = 2 ∧ hasB l (c.getD 0 0) (c.getD 1 0) = true := by
  rw [(specC_perm _ l (Nat.le_refl _)).mem_iff, List.mem_flatMap]
  constructor
  · rintro ⟨b, hb, hc⟩
    rw [bCells_flat] at hc
    obtain ⟨y, hy, h2⟩ := List.mem_flatMap.1 hc
    obtain ⟨x, hx, rfl⟩ := List.mem_map.1 h2
    have hxb := (List.mem_filter.1 hx)
    have hx16 := List.mem_range.1 hxb.1
    refine ⟨rfl, ?_⟩
    simp only [cellL, List.getD_cons_zero, List.getD_cons_succ]
    rw [has_of_mem h hb (hl b hb).1 hx16 (List.mem_range.1 hy)]
    exact hxb.2
  · rintro ⟨h2, hc⟩
    obtain ⟨b, hb, hk, hbit⟩ := has_mem hc
    refine ⟨b, hb, ?_⟩
    rw [bCells_flat]
    refine List.mem_flatMap.2 ⟨(c.getD 1 0 % 16).toNat, List.mem_range.2 (by omega), List.mem_map.2 ⟨(c.getD 0 0 % 16).toNat, List.mem_filter.2 ⟨List.mem_range.2 (by omega), hbit⟩, ?_⟩⟩
    rw [two_of h2, cellL, hk]
    simp only [List.getD_cons_zero, List.getD_cons_succ]
    congr 1
    · omega
    · congr 1
      omega
theorem spec_nodup {l : List Bl} (h : Rising l) : (specC l).Nodup := (specC_sorted _ l (Nat.le_refl _) h).imp fun {a b} hab e => by
  subst e
  exact ltL_asymm hab hab
end Go.Proofs.Ytmagaapdijapiaa
