/- Slices that the call itself made, with the blocks among which each one lies; rows of marks. No program in sight. -/
import Derived.Test.YtfjfiljgbkhblaaDoorBase
import Derived.Laws.CopyOwn
import Derived.Great.BuildSlice
namespace Go.Proofs.YtfjfiljgbkhblaaDoor
open Go.ChangeShapes Go.WideShapes Go.ChangeAt Go.RowKit

/-- a slice value's own cells: nil, or at the head of a block from lo on and below hi -/
def Own (w : World) (lo hi : Nat) (e : TypeId) (size : Nat) (A : Option Addr) (n c : Nat) (xs : List Value) : Prop :=
  xs.length = n * size ∧ ((A = none ∧ n = 0 ∧ c = 0) ∨ ∃ g cur, A = some ⟨g, 0, none⟩ ∧ lo ≤ g ∧ g < hi ∧ Blk w g e cur ∧ n ≤ c ∧ c ≤ maxLen ∧ cur.size = c * size ∧ cur.toList.take (n * size) = xs)
section
variable {w w' : World} {lo hi : Nat} {e : TypeId} {size : Nat} {A : Option Addr} {n c : Nat} {xs : List Value}
theorem Own.of_row {base : Nat} {v : Value} (h : w.ownsRow base e size v n xs) : ∃ A c, v = .slice A n c ∧ Own w base w.heap.size e size A n c xs := by
  obtain ⟨hl, h⟩ := h
  rcases h with ⟨rfl, rfl⟩ | ⟨g, cap, cur, rfl, h1, h2, h3⟩
  · exact ⟨none, 0, rfl, hl, .inl ⟨rfl, rfl, rfl⟩⟩
  · exact ⟨_, cap, rfl, hl, .inr ⟨g, cur, rfl, h1, Blk.lt h2, h2, h3⟩⟩
theorem Own.row (h : Own w lo hi e size A n c xs) : w.ownsRow lo e size (.slice A n c) n xs := by
  obtain ⟨hl, h⟩ := h
  rcases h with ⟨rfl, rfl, rfl⟩ | ⟨g, cur, rfl, h1, _, h2, h3⟩
  · exact ⟨hl, .inl ⟨rfl, rfl⟩⟩
  · exact ⟨hl, .inr ⟨g, c, cur, rfl, h1, h2, h3⟩⟩
theorem Own.rd (h : Own w lo hi e size A n c xs) : Rd w hi size A n xs := by
  obtain ⟨hl, h⟩ := h
  refine ⟨hl, fun hn => ?_⟩
  rcases h with ⟨_, rfl, _⟩ | ⟨g, cur, rfl, _, hg, hb, hnc, _, hs, hx⟩
  · omega
  · refine ⟨g, 0, rfl, hg, fun j u hu => ?_⟩
    rw [Nat.zero_add, hb.cell]
    rw [← hx, List.getElem?_take] at hu
    split at hu
    · simpa using hu
    · cases hu
theorem Own.below {B : Nat} (h : Own w lo hi e size A n c xs) (hb : Below B w w') (hB : hi ≤ B) : Own w' lo hi e size A n c xs := by
  obtain ⟨hl, h⟩ := h
  refine ⟨hl, ?_⟩
  rcases h with h | ⟨g, cur, h1, h2, h3, h4, h5⟩
  · exact .inl h
  · exact .inr ⟨g, cur, h1, h2, h3, h4.below hb (by omega), h5⟩
theorem Own.grown {row : Option Nat} (h : Own w lo hi e size A n c xs) (hg : w.grownBy w' row) (hr : ∀ g, row = some g → g < lo ∨ hi ≤ g) : Own w' lo hi e size A n c xs := by
  obtain ⟨hl, h⟩ := h
  refine ⟨hl, ?_⟩
  rcases h with h | ⟨g, cur, h1, h2, h3, h4, h5⟩
  · exact .inl h
  · exact .inr ⟨g, cur, h1, h2, h3, h4.grown hg (fun e => by have := hr g e.symm; omega), h5⟩
theorem Own.more {hi' : Nat} (h : Own w lo hi e size A n c xs) (hh : hi ≤ hi') : Own w lo hi' e size A n c xs := by
  obtain ⟨hl, h⟩ := h
  refine ⟨hl, ?_⟩
  rcases h with h | ⟨g, cur, h1, h2, h3, h4⟩
  · exact .inl h
  · exact .inr ⟨g, cur, h1, h2, by omega, h4⟩
theorem Own.less {lo' : Nat} (h : Own w lo hi e size A n c xs) (hh : lo' ≤ lo) : Own w lo' hi e size A n c xs := by
  obtain ⟨hl, h⟩ := h
  refine ⟨hl, ?_⟩
  rcases h with h | ⟨g, cur, h1, h2, h3⟩
  · exact .inl h
  · exact .inr ⟨g, cur, h1, by omega, h3⟩
theorem Own.drewN (h : Own w lo hi e size A n c xs) (k : Nat) : Own (w.drewN k) lo hi e size A n c xs := h
theorem Own.drew (h : Own w lo hi e size A n c xs) : Own w.drew lo hi e size A n c xs := h
theorem Own.alloc (h : Own w lo hi e size A n c xs) (o : Obj) : Own (w.alloc o) lo hi e size A n c xs := by
  obtain ⟨hl, h⟩ := h
  refine ⟨hl, ?_⟩
  rcases h with h | ⟨g, cur, h1, h2, h3, h4, h5⟩
  · exact .inl h
  · exact .inr ⟨g, cur, h1, h2, h3, h4.alloc o, h5⟩
theorem Own.at_ (h : Own w lo hi e size A n c xs) (hn : 0 < n) : ∃ g cur, A = some ⟨g, 0, none⟩ ∧ lo ≤ g ∧ g < hi ∧ Blk w g e cur ∧ n ≤ c ∧ c ≤ maxLen ∧ cur.size = c * size ∧ cur.toList.take (n * size) = xs := by
  rcases h.2 with ⟨_, rfl, _⟩ | h
  · omega
  · exact h
theorem Own.len (h : Own w lo hi e size A n c xs) : n ≤ c := by
  rcases h.2 with ⟨_, rfl, rfl⟩ | ⟨g, cur, h1, h2, h3, h4, h5, _⟩
  · omega
  · exact h5
theorem Own.blk (h : Own w lo hi e size A n c xs) : ∀ g, (A.map (·.block)) = some g → lo ≤ g ∧ g < hi := fun g hg => by
  rcases h.2 with ⟨rfl, _⟩ | ⟨g', cur, rfl, h2, h3, _⟩
  · cases hg
  · simp only [Option.map_some, Option.some.injEq] at hg
    subst hg
    exact ⟨h2, h3⟩
end

/-- marks: the numbers from k on, as they are stored -/
def marks (kd : IntKind) (f : Int → Int) (k : Int) (m : Nat) : List Value := (List.range m).map fun (j : Nat) => .int kd (f (k + j))
theorem marks_length {kd : IntKind} {f : Int → Int} {k : Int} {m : Nat} : (marks kd f k m).length = m := by simp [marks]
theorem marks_at {kd : IntKind} {f : Int → Int} {k : Int} {m j : Nat} (h : j < m) : (marks kd f k m)[j]? = some (.int kd (f (k + j))) := by
  simp [marks, List.getElem?_map, List.getElem?_range h]
/-- what a marking loop holds: a block whose first j cells are marks -/
def Marked (w : World) (g : Nat) (e : TypeId) (sz : Nat) (kd : IntKind) (f : Int → Int) (k : Int) (j : Nat) : Prop :=
  ∃ cur : Array Value, Blk w g e cur ∧ cur.size = sz ∧ ∀ i, i < j → cur[i]? = some (.int kd (f (k + (i : Nat))))
theorem Marked.start {w : World} {g : Nat} {e : TypeId} {cur : Array Value} {kd : IntKind} {f : Int → Int} {k : Int} (h : Blk w g e cur) {sz : Nat} (hs : cur.size = sz) : Marked w g e sz kd f k 0 := ⟨cur, h, hs, fun i hi => by omega⟩
theorem Marked.step {w : World} {g : Nat} {e : TypeId} {sz : Nat} {kd : IntKind} {f : Int → Int} {k : Int} {j : Nat} (h : Marked w g e sz kd f k j) (hj : j < sz) : Marked (w.setCell ⟨g, j, none⟩ (.int kd (f (k + (j : Nat))))) g e sz kd f k (j + 1) := by
  obtain ⟨cur, hb, hs, hc⟩ := h
  refine ⟨_, hb.set_ j _, by simp [hs], fun i hi => ?_⟩
  rw [Array.getElem?_setIfInBounds]
  by_cases he : j = i
  · subst he
    rw [if_pos rfl, if_pos (by omega)]
  · rw [if_neg he]
    exact hc i (by omega)
theorem Marked.cell {w : World} {g : Nat} {e : TypeId} {sz : Nat} {kd : IntKind} {f : Int → Int} {k : Int} {j : Nat} (h : Marked w g e sz kd f k j) {i : Nat} (hi : i < sz) : (∃ u, w.cell? ⟨g, i, none⟩ = some u) ∧ w.frozen? ⟨g, i, none⟩ = false := by
  obtain ⟨cur, hb, hs, hc⟩ := h
  exact ⟨⟨cur[i]'(by omega), by rw [hb.cell]; exact Array.getElem?_eq_getElem (by omega)⟩, hb.frozen i⟩
theorem Marked.own {w : World} {lo hi g : Nat} {e : TypeId} {size n c : Nat} {kd : IntKind} {f : Int → Int} {k : Int} (h : Marked w g e (c * size) kd f k (n * size)) (h1 : lo ≤ g) (h2 : g < hi) (h3 : n ≤ c) (h4 : c ≤ maxLen) :
    Own w lo hi e size (some ⟨g, 0, none⟩) n c (marks kd f k (n * size)) := by
  obtain ⟨cur, hb, hs, hc⟩ := h
  refine ⟨marks_length, .inr ⟨g, cur, rfl, h1, h2, hb, h3, h4, hs, ?_⟩⟩
  apply List.ext_getElem?
  intro i
  rw [List.getElem?_take]
  by_cases hi : i < n * size
  · rw [if_pos hi, marks_at hi]
    have := hc i hi
    simpa using this
  · rw [if_neg hi, List.getElem?_eq_none (by rw [marks_length]; omega)]
theorem madeZero (z : Value) (n : Nat) : madeCells #[z] n = (List.replicate n z).toArray := by
  apply Array.toList_inj.1
  rw [toList_madeCells_one]
theorem ivs_replicate (k : IntKind) (n : Nat) (z : Int) : (List.replicate n (Value.int k z)).toArray = ivs k (List.replicate n z) := by
  simp [ivs]
theorem Blk.own {w : World} {g lo hi : Nat} {e : TypeId} {k : IntKind} {l : List Int} {n size : Nat} (h : Blk w g e (ivs k l)) (hl : l.length = n * size) (h1 : lo ≤ g) (h2 : g < hi) (hm : n ≤ maxLen) :
    Own w lo hi e size (some ⟨g, 0, none⟩) n n (l.map (Value.int k)) :=
  ⟨by simp [hl], .inr ⟨g, _, rfl, h1, h2, h, Nat.le_refl _, hm, by rw [ivs_size, hl], by rw [ivs_toList, ← hl]; exact List.take_of_length_le (by simp)⟩⟩
theorem run_make_ints {P : Program} {t e : TypeId} {i : TypeInfo} {kd : IntKind} (ht : P.underlying t = some (.slice e)) (hi : P.info? e = some i) (hz : i.zero = some (.int kd 0)) (hsize : i.size = 1)
    (n : Nat) (hbytes : i.bytes * n ≤ 281474976710656) (hn : n ≤ 9223372036854775807) (w : World) :
    (Instr.makeSlice t (.int .i64 (n : Nat)) (.int .i64 (n : Nat))).run P w = .ok (.slice (some ⟨w.heap.size, 0, none⟩) n n) (w.alloc (.cells (ivs kd (List.replicate n 0)) e)) := by
  have hb : (i.bytes : Int) * (n : Int) ≤ 281474976710656 := by
    have h : ((i.bytes * n : Nat) : Int) ≤ 281474976710656 := by omega
    rwa [Int.natCast_mul] at h
  have hr := run_make (P := P) w t e i (.int kd 0) ht hi hz .i64 .i64 n n (by omega) (by omega) hb (by omega)
  simp only [Int.toNat_natCast] at hr
  rw [hsize, Nat.mul_one, show (Value.int kd 0).cells = #[Value.int kd 0] from rfl, madeZero, ivs_replicate] at hr
  exact hr

/-! ### rows of rows -/
def Rows_ (sz : Nat) (fl : List (List Int)) : Prop := ∀ f ∈ fl, f.length = sz
theorem flat_length {sz : Nat} : ∀ {fl : List (List Int)}, Rows_ sz fl → fl.flatten.length = fl.length * sz
  | [], _ => by simp
  | f :: fl, h => by
    rw [List.flatten_cons, List.length_append, flat_length (fun g hg => h g (List.mem_cons_of_mem _ hg)), h f (List.mem_cons_self ..), List.length_cons, Nat.add_mul, Nat.one_mul, Nat.add_comm]
theorem flat_drop {sz : Nat} : ∀ {fl : List (List Int)} (i : Nat), Rows_ sz fl → fl.flatten.drop (i * sz) = (fl.drop i).flatten
  | [], i, _ => by simp
  | f :: fl, 0, _ => by simp
  | f :: fl, i + 1, h => by
    have hf := h f (List.mem_cons_self ..)
    rw [List.flatten_cons, List.drop_succ_cons, ← flat_drop i (fun g hg => h g (List.mem_cons_of_mem _ hg)), show (i + 1) * sz = f.length + i * sz by rw [hf, Nat.add_mul, Nat.one_mul, Nat.add_comm], List.drop_length_add_append]
theorem flat_take {sz : Nat} : ∀ {fl : List (List Int)} (i : Nat), Rows_ sz fl → fl.flatten.take (i * sz) = (fl.take i).flatten
  | [], i, _ => by simp
  | f :: fl, 0, _ => by simp
  | f :: fl, i + 1, h => by
    have hf := h f (List.mem_cons_self ..)
    rw [List.flatten_cons, List.take_succ_cons, List.flatten_cons, ← flat_take i (fun g hg => h g (List.mem_cons_of_mem _ hg)), show (i + 1) * sz = f.length + i * sz by rw [hf, Nat.add_mul, Nat.one_mul, Nat.add_comm], List.take_length_add_append]
theorem flat_row {sz : Nat} {fl : List (List Int)} {i : Nat} (h : Rows_ sz fl) (hi : i < fl.length) : (fl.flatten.drop (i * sz)).take sz = fl[i] := by
  rw [flat_drop i h, List.drop_eq_getElem_cons hi, List.flatten_cons, List.take_append_of_le_length (by rw [h _ (List.getElem_mem hi)]; exact Nat.le_refl _), List.take_of_length_le (by rw [h _ (List.getElem_mem hi)]; exact Nat.le_refl _)]
theorem flat_get {sz : Nat} {fl : List (List Int)} {i j : Nat} (h : Rows_ sz fl) (hi : i < fl.length) (hj : j < sz) : fl.flatten[i * sz + j]? = some ((fl[i])[j]'(by rw [h _ (List.getElem_mem hi)]; exact hj)) := by
  have h1 := flat_row h hi
  have h2 : ((fl.flatten.drop (i * sz)).take sz)[j]? = (fl[i])[j]? := by rw [h1]
  rw [List.getElem?_take_of_lt hj, List.getElem?_drop] at h2
  rw [h2, List.getElem?_eq_getElem (by rw [h _ (List.getElem_mem hi)]; exact hj)]
theorem Rows_.take {sz : Nat} {fl : List (List Int)} (h : Rows_ sz fl) (k : Nat) : Rows_ sz (fl.take k) := fun f hf => h f (List.mem_of_mem_take hf)
theorem Rows_.at_ {sz : Nat} {fl : List (List Int)} (h : Rows_ sz fl) {k : Nat} (hk : k < fl.length) : (fl[k]).length = sz := h _ (List.getElem_mem hk)

theorem Blk.setCellsI {g : Nat} {t : TypeId} {k : IntKind} : ∀ (m : List Int) (o : Nat) {w : World} {l : List Int}, Blk w g t (ivs k l) → o + m.length ≤ l.length →
    Blk (w.setCells g o (m.map (Value.int k))) g t (ivs k (l.take o ++ (m ++ l.drop (o + m.length))))
  | [], o, w, l, h, _ => by simpa [World.setCells] using h
  | x :: m, o, w, l, h, hl => by
    have h1 := Blk.setCellsI m (o + 1) (h.setI o x) (by simp at hl ⊢; omega)
    have e : (l.set o x).take (o + 1) ++ (m ++ (l.set o x).drop (o + 1 + m.length)) = l.take o ++ (x :: m ++ l.drop (o + (x :: m).length)) := by
      have ho : o < l.length := by simp at hl; omega
      rw [List.take_succ_eq_append_getElem (by simpa using ho), List.getElem_set_self, List.take_set_of_le (Nat.le_refl _), List.drop_set_of_lt (by omega)]
      rw [List.append_assoc, List.cons_append, List.nil_append, List.length_cons, show o + 1 + m.length = o + (m.length + 1) by omega, List.cons_append]
    rw [e] at h1
    exact h1
theorem Blk.setCells_far {g g' : Nat} {t : TypeId} {cs : Array Value} (hg : g ≠ g') : ∀ (vs : List Value) (o : Nat) {w : World}, Blk w g t cs → Blk (w.setCells g' o vs) g t cs
  | [], _, _, h => h
  | v :: vs, o, _, h => Blk.setCells_far hg vs (o + 1) (h.far hg v)
theorem below_setCells {B g : Nat} (hg : B ≤ g) : ∀ (vs : List Value) (o : Nat) {a w : World}, Below B a w → Below B a (w.setCells g o vs)
  | [], _, _, _, h => h
  | v :: vs, o, _, _, h => below_setCells hg vs (o + 1) (h.setCell hg v)
theorem only_setCells {g : Nat} : ∀ (vs : List Value) (o : Nat) {a w : World}, a.grownBy w (some g) → a.grownBy (w.setCells g o vs) (some g)
  | [], _, _, _, h => h
  | v :: vs, o, _, _, h => only_setCells vs (o + 1) (only_setCell h rfl v)
theorem Blk.there {w : World} {g : Nat} {t : TypeId} {cs : Array Value} (h : Blk w g t cs) (o n : Nat) (hn : o + n ≤ cs.size) : w.there g o n := fun j hj =>
  ⟨by rw [h.cell, Array.getElem?_eq_getElem (by omega)]; rfl, h.frozen _⟩
theorem fill_rows {sz n k : Nat} {fl : List (List Int)} (h : Rows_ sz fl) (hn : fl.length = n) (hk : k < n) :
    ((fl.take k).flatten ++ List.replicate ((n - k) * sz) (0 : Int)).take (k * sz) ++ (fl[k]'(by omega) ++ ((fl.take k).flatten ++ List.replicate ((n - k) * sz) (0 : Int)).drop (k * sz + (fl[k]'(by omega)).length)) = (fl.take (k + 1)).flatten ++ List.replicate ((n - (k + 1)) * sz) 0 := by
  have hlen : (fl.take k).flatten.length = k * sz := by rw [flat_length (h.take k), List.length_take, Nat.min_eq_left (by omega)]
  have hf : (fl[k]'(by omega)).length = sz := h.at_ _
  rw [List.take_append_of_le_length (by omega), List.take_of_length_le (by omega), hf, ← hlen, List.drop_length_add_append, List.drop_replicate, List.take_succ_eq_append_getElem (by omega), List.flatten_append, List.append_assoc]
  congr 1
  rw [List.flatten_cons, List.flatten_nil, List.append_nil]
  congr 2
  rw [show n - k = (n - (k + 1)) + 1 by omega, Nat.add_mul, Nat.one_mul, Nat.add_sub_cancel]
theorem run_make_rows {P : Program} {t e : TypeId} {i : TypeInfo} {kd : IntKind} {sz : Nat} (ht : P.underlying t = some (.slice e)) (hi : P.info? e = some i) (hz : i.zero = some (.agg (ivs kd (List.replicate sz 0)))) (hsize : i.size = sz)
    (n : Nat) (hbytes : i.bytes * n ≤ 281474976710656) (hn : n ≤ 9223372036854775807) (w : World) :
    (Instr.makeSlice t (.int .i64 (n : Nat)) (.int .i64 (n : Nat))).run P w = .ok (.slice (some ⟨w.heap.size, 0, none⟩) n n) (w.alloc (.cells (ivs kd (List.replicate (n * sz) 0)) e)) := by
  have hb : (i.bytes : Int) * (n : Int) ≤ 281474976710656 := by
    have h : ((i.bytes * n : Nat) : Int) ≤ 281474976710656 := by omega
    rwa [Int.natCast_mul] at h
  have hr := run_make (P := P) w t e i _ ht hi hz .i64 .i64 n n (by omega) (by omega) hb (by omega)
  simp only [Int.toNat_natCast] at hr
  rw [hsize] at hr
  have e1 : madeCells (Value.agg (ivs kd (List.replicate sz 0))).cells (n * sz) = ivs kd (List.replicate (n * sz) 0) := by
    apply Array.ext (by rw [size_madeCells, ivs_size, List.length_replicate])
    intro j h1 h2
    have hj : j < n * sz := by rw [size_madeCells] at h1; exact h1
    have hs0 : 0 < sz := by
      rcases Nat.eq_zero_or_pos sz with h | h
      · subst h; omega
      · exact h
    simp only [madeCells, Value.cells, ivs_size, List.length_replicate, Array.getElem_map, Array.getElem_range]
    have hlt : j % sz < sz := Nat.mod_lt _ hs0
    rw [getElem!_pos _ _ (by rw [ivs_size, List.length_replicate]; exact hlt)]
    simp [ivs]
  rw [e1] at hr
  exact hr
theorem run_buildSlice_row {P : Program} {t e : TypeId} {i : TypeInfo} {kd : IntKind} {sz : Nat} {z : Value} (ht : P.underlying t = some (.slice e)) (hi : P.info? e = some i) (hz : i.zero = some z) (hsize : i.size = sz)
    (h0 : 0 < sz) (hs : sz ≤ 16777216) (l : List Int) (hl : l.length = sz) (w : World) :
    (Instr.buildSlice t 1 #[(0, .agg (ivs kd l))]).run P w = .ok (.slice (some ⟨w.heap.size, 0, none⟩) 1 1) (w.alloc (.cells (ivs kd l) e)) := by
  refine run_buildSlice w t e 1 _ _ i z ht hi hz (by rw [hsize]; omega) (by rw [hsize]; omega) ?_
  have hf := Great.fill_whole (s := sz) h0 [Value.agg (ivs kd l)] ((Array.range (1 * sz)).map (z.cells[· % z.cells.size]!)) (fun v hv => by
    rw [List.mem_singleton] at hv
    subst hv
    exact ivs_size.trans hl) (by simp)
  rw [hsize]
  have e1 : ([Value.agg (ivs kd l)].flatMap fun v => v.cells.toList).toArray = ivs kd l := by
    rw [List.flatMap_cons, List.flatMap_nil, List.append_nil]
    simp [Value.cells]
  rw [e1] at hf
  exact hf
theorem wpList_buildSlice_row {P : Program} {w : World} {ops : Array Oper} {rest : List Oper} {o : Oper} {a : Act} {Q : Exit → Act → World → Prop} (hgd : o.guard = none) (t e : TypeId) (x : Operand) (ho : o.op = .buildSlice t 1 #[(0, x)])
    {i : TypeInfo} {kd : IntKind} {sz : Nat} {z : Value} (ht : P.underlying t = some (.slice e)) (hi : P.info? e = some i) (hz : i.zero = some z) (hsize : i.size = sz)
    (h0 : 0 < sz) (hs : sz ≤ 16777216) (l : List Int) (hx : a.eval x = .agg (ivs kd l)) (hl : l.length = sz)
    (h : wpList P ops Q rest (a.put o.dst (.slice (some ⟨w.heap.size, 0, none⟩) 1 1)) (w.alloc (.cells (ivs kd l) e))) : wpList P ops Q (o :: rest) a w := by
  refine wpList_plain hgd fun K hK => ?_
  have hr := run_buildSlice_row (P := P) (kd := kd) ht hi hz hsize h0 hs l hl w
  unfold Oper.wp execOp
  simp only [ho, List.map_toArray, List.map_cons, List.map_nil, hx, Sem.run_bind, hr, Result.andThen_ok]
  exact hK _ _ h
end Go.Proofs.YtfjfiljgbkhblaaDoor
