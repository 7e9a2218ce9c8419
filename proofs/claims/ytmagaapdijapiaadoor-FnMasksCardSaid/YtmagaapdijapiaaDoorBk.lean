/- Slices of blocks that come in: rows of values of two kinds. No program in sight. -/
import Derived.Test.YtmagaapdijapiaaDoorOpen
import Derived.ChangeSame
namespace Go.Proofs.YtmagaapdijapiaaDoor
open Go.ChangeShapes Go.WideShapes Go.ChangeAt Go.RowKit Go.Deep

/-! ### rows of values -/
section
variable {α : Type}
def RowsV (sz : Nat) (fl : List (List α)) : Prop := ∀ f ∈ fl, f.length = sz
theorem RowsV.at_ {sz : Nat} {fl : List (List α)} (h : RowsV sz fl) {i : Nat} (hi : i < fl.length) : (fl[i]).length = sz := h _ (List.getElem_mem hi)
theorem vflat_length {sz : Nat} : ∀ {fl : List (List α)}, RowsV sz fl → fl.flatten.length = fl.length * sz
  | [], _ => by simp
  | f :: fl, h => by
    rw [List.flatten_cons, List.length_append, vflat_length (fun g hg => h g (List.mem_cons_of_mem _ hg)), h f (List.mem_cons_self ..), List.length_cons, Nat.add_mul, Nat.one_mul, Nat.add_comm]
theorem vflat_drop {sz : Nat} : ∀ {fl : List (List α)} (i : Nat), RowsV sz fl → fl.flatten.drop (i * sz) = (fl.drop i).flatten
  | [], i, _ => by simp
  | f :: fl, 0, _ => by simp
  | f :: fl, i + 1, h => by
    have hf := h f (List.mem_cons_self ..)
    rw [List.flatten_cons, List.drop_succ_cons, ← vflat_drop i (fun g hg => h g (List.mem_cons_of_mem _ hg)), show (i + 1) * sz = f.length + i * sz by rw [hf, Nat.add_mul, Nat.one_mul, Nat.add_comm], List.drop_length_add_append]
theorem vflat_take {sz : Nat} : ∀ {fl : List (List α)} (i : Nat), RowsV sz fl → fl.flatten.take (i * sz) = (fl.take i).flatten
  | [], i, _ => by simp
  | f :: fl, 0, _ => by simp
  | f :: fl, i + 1, h => by
    have hf := h f (List.mem_cons_self ..)
    rw [List.flatten_cons, List.take_succ_cons, List.flatten_cons, ← vflat_take i (fun g hg => h g (List.mem_cons_of_mem _ hg)), show (i + 1) * sz = f.length + i * sz by rw [hf, Nat.add_mul, Nat.one_mul, Nat.add_comm], List.take_length_add_append]
theorem vflat_row {sz : Nat} {fl : List (List α)} {i : Nat} (h : RowsV sz fl) (hi : i < fl.length) : (fl.flatten.drop (i * sz)).take sz = fl[i] := by
  rw [vflat_drop i h, List.drop_eq_getElem_cons hi, List.flatten_cons, List.take_append_of_le_length (by rw [h _ (List.getElem_mem hi)]; exact Nat.le_refl _), List.take_of_length_le (by rw [h _ (List.getElem_mem hi)]; exact Nat.le_refl _)]
theorem vflat_get {sz : Nat} {fl : List (List α)} {i j : Nat} (h : RowsV sz fl) (hi : i < fl.length) (hj : j < sz) : fl.flatten[i * sz + j]? = (fl[i])[j]? := by
  have h1 := vflat_row h hi
  have h2 : ((fl.flatten.drop (i * sz)).take sz)[j]? = fl.flatten[i * sz + j]? := by rw [List.getElem?_take_of_lt hj, List.getElem?_drop]
  rw [← h2, h1]
end
theorem rd_of_rows {w : World} {a : Addr} {n sz : Nat} (rows : List (List Value)) (hl : rows.length = n) (hr : RowsV sz rows) (h0 : 0 < sz)
    (hc : ∀ i (hi : i < rows.length), ∀ j, j < sz → w.cell? (a.add (i * sz + j)) = (rows[i])[j]?) : Rd w w.heap.size sz (some a) n rows.flatten := by
  refine ⟨by rw [vflat_length hr, hl], fun hn => ?_⟩
  have hc0 := hc 0 (by omega) 0 h0
  rw [List.getElem?_eq_getElem (by rw [hr.at_ (by omega)]; exact h0)] at hc0
  obtain ⟨b, o, s⟩ := a
  have hs : s = none := by
    have := World.cell?_spot hc0
    simpa [Addr.add] using this
  subst hs
  refine ⟨b, o, rfl, ?_, fun j u hu => ?_⟩
  · have := World.block_lt_of_cell? w _ hc0
    simpa [Addr.add] using this
  · have hj : j < rows.flatten.length := by
      rcases Nat.lt_or_ge j rows.flatten.length with h | h
      · exact h
      · rw [List.getElem?_eq_none h] at hu; cases hu
    rw [vflat_length hr] at hj
    have hq : j / sz < rows.length := by
      rw [Nat.div_lt_iff_lt_mul h0]; exact hj
    have hm : j % sz < sz := Nat.mod_lt _ h0
    have e : j / sz * sz + j % sz = j := by rw [Nat.mul_comm]; exact Nat.div_add_mod j sz
    have h5 := vflat_get hr hq hm
    rw [e] at h5
    have h6 := hc (j / sz) hq (j % sz) hm
    rw [e, addr_add] at h6
    rw [h6, ← h5]
    exact hu

/-! ### blocks: a corner and a mask -/
abbrev Bl := List Int × List Int
def bvs (b : Bl) : List Value := b.1.map (.int .i32) ++ b.2.map (.int .u16)
def Bls (l : List Bl) : Prop := ∀ b ∈ l, b.1.length = 2 ∧ b.2.length = 16
def Wfs (l : List Bl) : Prop := ∀ b ∈ l, wfs .i32 b.1 ∧ wfs .u16 b.2
def bcs (l : List Bl) : List Value := (l.map bvs).flatten
theorem bvs_length {b : Bl} (h : b.1.length = 2 ∧ b.2.length = 16) : (bvs b).length = 18 := by rw [bvs, List.length_append, List.length_map, List.length_map, h.1, h.2]
theorem Bls.rows {l : List Bl} (h : Bls l) : RowsV 18 (l.map bvs) := fun f hf => by
  obtain ⟨b, hb, rfl⟩ := List.mem_map.1 hf
  exact bvs_length (h b hb)
theorem bcs_length {l : List Bl} (h : Bls l) : (bcs l).length = l.length * 18 := by rw [bcs, vflat_length h.rows, List.length_map]
theorem Bls.at_ {l : List Bl} (h : Bls l) {i : Nat} (hi : i < l.length) : l[i].1.length = 2 ∧ l[i].2.length = 16 := h _ (List.getElem_mem hi)
theorem bcs_row {l : List Bl} (h : Bls l) {i : Nat} (hi : i < l.length) : ((bcs l).drop (i * 18)).take 18 = bvs l[i] := by
  have := vflat_row h.rows (i := i) (by rw [List.length_map]; exact hi)
  rwa [List.getElem_map] at this
theorem bcs_get {l : List Bl} (h : Bls l) {i j : Nat} (hi : i < l.length) (hj : j < 18) : (bcs l)[i * 18 + j]? = (bvs l[i])[j]? := by
  have := vflat_get h.rows (i := i) (j := j) (by rw [List.length_map]; exact hi) hj
  rwa [List.getElem_map] at this

section
variable {H : Type} {enc : TypeId × Value → H} {P : Program} {w : World} {base : Nat} {spare : Nat → Bool} {held : Bool}
theorem trod_block {t : TypeId} {f0 f1 : Field} {e0 e1 : TypeId} {fuel : Nat} {cs : List Value} {x : DataW H × List MemPlace} (ht : P.underlying t = some (.struct #[f0, f1])) (hct : P.cellsOf t = 18)
    (hu0 : P.underlying f0.type = some (.array 2 e0)) (hk0 : P.underlying e0 = some (.int .i32)) (hc0 : P.cellsOf e0 = 1) (hcc0 : P.cellsOf f0.type = 2) (ho0 : f0.offset = 0)
    (hu1 : P.underlying f1.type = some (.array 16 e1)) (hk1 : P.underlying e1 = some (.int .u16)) (hc1 : P.cellsOf e1 = 1) (hcc1 : P.cellsOf f1.type = 16) (ho1 : f1.offset = 2)
    (h : DataW.trod enc P w base spare held fuel t cs = some x) :
    ∃ b : Bl, b.1.length = 2 ∧ b.2.length = 16 ∧ cs = bvs b ∧ wfs .i32 b.1 ∧ wfs .u16 b.2 := by
  obtain ⟨y0, y1, m, _, hl, h0, h1⟩ := trod_struct2 ht h
  rw [hct] at hl
  rw [ho0, hcc0] at h0
  rw [ho1, hcc1] at h1
  obtain ⟨L0, l0, q0, _, w0⟩ := trod_arr hu0 hk0 hc0 hcc0 h0
  obtain ⟨L1, l1, q1, _, w1⟩ := trod_arr hu1 hk1 hc1 hcc1 h1
  refine ⟨(L0, L1), l0, l1, ?_, w0, w1⟩
  rw [bvs, ← q0, ← q1, List.drop_zero, List.take_of_length_le (l := cs.drop 2) (by rw [List.length_drop]; omega), List.take_append_drop]

/-- a slice of blocks that came in -/
theorem open_blocks_rd {t e : TypeId} {f0 f1 : Field} {e0 e1 : TypeId} {A : Option Addr} {n c : Nat} {d : DataW H} {p : List MemPlace} (ht : P.underlying t = some (.slice e)) (he : P.underlying e = some (.struct #[f0, f1])) (hct : P.cellsOf e = 18)
    (hu0 : P.underlying f0.type = some (.array 2 e0)) (hk0 : P.underlying e0 = some (.int .i32)) (hc0 : P.cellsOf e0 = 1) (hcc0 : P.cellsOf f0.type = 2) (ho0 : f0.offset = 0)
    (hu1 : P.underlying f1.type = some (.array 16 e1)) (hk1 : P.underlying e1 = some (.int .u16)) (hc1 : P.cellsOf e1 = 1) (hcc1 : P.cellsOf f1.type = 16) (ho1 : f1.offset = 2)
    (h : DataW.Trod enc P w 0 (fun _ => true) true t (.slice A n c) d p) :
    ∃ l : List Bl, l.length = n ∧ Bls l ∧ n ≤ c ∧ c ≤ 9223372036854775807 ∧ Rd w w.heap.size 18 A n (bcs l) ∧ Wfs l := by
  obtain ⟨fuel, hf⟩ := h
  rcases Go.Deep.open_slice ht hf with ⟨hcs, hx⟩ | ⟨a, len, cap, m, n', D, Pl, hcs, _, hl, hm, hmm, hx, hi⟩
  · simp only [Value.cells, List.cons.injEq, Value.slice.injEq, and_true] at hcs
    obtain ⟨rfl, rfl, rfl⟩ := hcs
    exact ⟨[], rfl, (fun f hf => by cases hf), Nat.le_refl _, by omega, Rd.nil_, fun x hx => by cases hx⟩
  · simp only [Value.cells, List.cons.injEq, Value.slice.injEq, and_true] at hcs
    obtain ⟨rfl, rfl, rfl⟩ := hcs
    simp only [if_true] at hmm
    subst hmm
    have hrow : ∀ i, i < m → ∃ b : Bl, (b.1.length = 2 ∧ b.2.length = 16) ∧ (wfs .i32 b.1 ∧ wfs .u16 b.2) ∧ ∀ j, j < 18 → w.cell? (a.add (i * 18 + j)) = (bvs b)[j]? := fun i him => by
      obtain ⟨cs', hcc, htr⟩ := hi i him
      rw [hct] at hcc
      obtain ⟨_, hlen, hat⟩ := World.cells?_some hcc
      obtain ⟨b, hb1, hb2, rfl, hw1, hw2⟩ := trod_block he hct hu0 hk0 hc0 hcc0 ho0 hu1 hk1 hc1 hcc1 ho1 htr
      refine ⟨b, ⟨hb1, hb2⟩, ⟨hw1, hw2⟩, fun j hj => ?_⟩
      have := hat j (by omega)
      rw [Go.Deep.add_add] at this
      exact this
    have hall : ∀ q, q ≤ m → ∃ l : List Bl, l.length = q ∧ Bls l ∧ Wfs l ∧ ∀ i (hi : i < l.length), ∀ j, j < 18 → w.cell? (a.add (i * 18 + j)) = (bvs l[i])[j]? := by
      intro q
      induction q with
      | zero => intro _; exact ⟨[], rfl, (fun f hf => by cases hf), (fun f hf => by cases hf), fun i hi => by cases hi⟩
      | succ q ih =>
        intro hq
        obtain ⟨l, h1, h2, h3, h4⟩ := ih (by omega)
        obtain ⟨b, g1, g2, g3⟩ := hrow q (by omega)
        refine ⟨l ++ [b], by simp [h1], fun f hf => ?_, fun f hf => ?_, fun i hi j hj => ?_⟩
        · rcases List.mem_append.1 hf with h | h
          · exact h2 f h
          · rw [List.mem_singleton] at h; subst h; exact g1
        · rcases List.mem_append.1 hf with h | h
          · exact h3 f h
          · rw [List.mem_singleton] at h; subst h; exact g2
        · by_cases hiq : i < l.length
          · simp only [List.getElem_append_left hiq]
            exact h4 i hiq j hj
          · have : i = l.length := by simp at hi; omega
            subst this
            simp only [List.getElem_concat_length]
            have g4 := g3 j hj
            rw [← h1] at g4
            exact g4
    obtain ⟨l, h1, h2, h3, h4⟩ := hall n (by omega)
    refine ⟨l, h1, h2, hl, by unfold maxLen at hm; exact hm, ?_, h3⟩
    exact rd_of_rows (l.map bvs) (by rw [List.length_map, h1]) h2.rows (by decide) (fun i hi j hj => by
      rw [List.length_map] at hi
      rw [List.getElem_map]
      exact h4 i hi j hj)
end
end Go.Proofs.YtmagaapdijapiaaDoor
