/- Md2, Md, Mk in one text. -/
import Derived.Test.YtmagaapdijapiaaDoorRows
import Derived.Test.YtmagaapdijapiaaDoorMc
import Derived.Test.YtmagaapdijapiaaDoorTq
import Derived.Maps.RangeRun
import Derived.Deep.RegionWith
namespace Go.Proofs.YtmagaapdijapiaaDoor
open Go.ChangeShapes Go.WideShapes Go.ChangeAt Go.RowKit
theorem place_or (p q : Int) : (∃ p' q' : Nat, p' < 16 ∧ q' < 16 ∧ p = (p' : Int) ∧ q = (q' : Int)) ∨ (plB p && plB q) = false := by
  cases h : (plB p && plB q)
  · exact .inr rfl
  · rw [plB, plB, Bool.and_eq_true, Bool.and_eq_true, Bool.and_eq_true, decide_eq_true_iff, decide_eq_true_iff, decide_eq_true_iff, decide_eq_true_iff] at h
    exact .inl ⟨p.toNat, q.toNat, by omega, by omega, by omega, by omega⟩
theorem pair_eq (p q x y : Nat) : (((p : Int), (q : Int)) == ((x : Int), (y : Int))) = (decide (x = p) && decide (y = q)) := by
  rw [Bool.eq_iff_iff, beq_iff_eq, Bool.and_eq_true, decide_eq_true_iff, decide_eq_true_iff, Prod.mk.injEq]
  omega
theorem pair_ne {p q : Int} {x y : Nat} (hx : x < 16) (hy : y < 16) (h : (plB p && plB q) = false) : ((p, q) == ((x : Int), (y : Int))) = false := by
  rw [beq_eq_false_iff_ne]
  intro e
  rw [Prod.mk.injEq] at e
  rw [e.1, e.2, plB_in hx, plB_in hy] at h
  cases h
theorem Rd.setCellFar {w : World} {B size n gC g : Nat} {xs : List Value} (h : Rd w B size (some ⟨gC, 0, none⟩) n xs) (hne : gC ≠ g) (i : Nat) (u : Value) : Rd (w.setCell ⟨g, i, none⟩ u).drew B size (some ⟨gC, 0, none⟩) n xs := by
  refine ⟨h.1, fun hn => ?_⟩
  obtain ⟨b, o, e, hb, hc⟩ := h.2 hn
  cases e
  refine ⟨gC, 0, rfl, hb, fun j v hv => ?_⟩
  rw [← hc j v hv]
  exact World.cell?_of_block (a := ⟨gC, 0 + j, none⟩) (Below.heap_setCell w ⟨g, i, none⟩ u gC hne)
end Go.Proofs.YtmagaapdijapiaaDoor
namespace Go.Proofs.YtmagaapdijapiaaDoor
open Go.ChangeShapes Go.WideShapes Go.ChangeAt Go.RowKit
/-- a mask is put at a corner -/
def putB : List Bl → List Int → List Int → List Bl
  | [], key, M => [(key, M)]
  | b :: r, key, M => if key == b.1 then (b.1, M) :: r else b :: putB r key M
theorem putB_mask (key M k2 : List Int) : ∀ l : List Bl, maskAt (putB l key M) k2 = if k2 = key then M else maskAt l k2
  | [] => by rw [putB, maskAt_cons]
  | b :: r => by
    rw [putB]
    cases h : key == b.1
    · have hne : key ≠ b.1 := beq_eq_false_iff_ne.1 h
      simp only [Bool.false_eq_true, if_false]
      rw [maskAt_cons, maskAt_cons, putB_mask key M k2 r]
      by_cases e : k2 = b.1
      · rw [if_pos e, if_pos e, if_neg (fun e2 => hne (e2.symm.trans e))]
      · rw [if_neg e, if_neg e]
    · have he : key = b.1 := beq_iff_eq.1 h
      simp only [if_true]
      rw [maskAt_cons, maskAt_cons, ← he]
      split <;> rfl
theorem mem_putB {key M : List Int} {c : Bl} : ∀ {l : List Bl}, c ∈ putB l key M → c ∈ l ∨ c = (key, M)
  | [], h => by rw [putB, List.mem_singleton] at h; exact .inr h
  | b :: r, h => by
    rw [putB] at h
    split at h
    · rename_i he
      have he := beq_iff_eq.1 he
      rcases List.mem_cons.1 h with rfl | h
      · exact .inr (by rw [he])
      · exact .inl (List.mem_cons_of_mem _ h)
    · rcases List.mem_cons.1 h with rfl | h
      · exact .inl (List.mem_cons_self ..)
      · rcases mem_putB h with h | h
        · exact .inl (List.mem_cons_of_mem _ h)
        · exact .inr h
theorem putB_apart {key M : List Int} : ∀ {l : List Bl}, Apart l → Apart (putB l key M)
  | [], _ => by rw [putB]; exact List.pairwise_singleton _ _
  | b :: r, h => by
    have h1 := List.pairwise_cons.1 h
    rw [putB]
    split
    · exact List.pairwise_cons.2 ⟨h1.1, h1.2⟩
    · rename_i hne
      refine List.pairwise_cons.2 ⟨fun c hc => ?_, putB_apart h1.2⟩
      rcases mem_putB hc with hc | rfl
      · exact h1.1 c hc
      · exact fun e => hne (beq_iff_eq.2 e.symm)
theorem putB_length (key M : List Int) : ∀ l : List Bl, (putB l key M).length ≤ l.length + 1
  | [] => by simp [putB]
  | b :: r => by
    have := putB_length key M r
    rw [putB]
    split <;> simp <;> omega
/-- what is asked of a table of masks -/
structure Tab (l : List Bl) : Prop where
  bls : Bls l
  m16 : ∀ b ∈ l, is16 b.2
  apart : Apart l
theorem Tab.nil : Tab [] := ⟨fun b hb => (by cases hb), fun b hb => (by cases hb), List.Pairwise.nil⟩
theorem Tab.put {l : List Bl} (h : Tab l) {key M : List Int} (hk : key.length = 2) (hM : M.length = 16) (h16 : is16 M) : Tab (putB l key M) :=
  ⟨fun b hb => by
    rcases mem_putB hb with hb | rfl
    · exact h.bls b hb
    · exact ⟨hk, hM⟩, fun b hb => by
    rcases mem_putB hb with hb | rfl
    · exact h.m16 b hb
    · exact h16, putB_apart h.apart⟩
theorem Tab.of_pic {l : List Bl} (h : Pic l) : Tab l := ⟨h.bls, h.m16, h.apart⟩
theorem Tab.mask {l : List Bl} (h : Tab l) (k : List Int) : (maskAt l k).length = 16 ∧ is16 (maskAt l k) := maskAt_ok h.bls h.m16 k
theorem ents_length : ∀ (l : List Bl) (j : Nat), (ents l j).length = l.length
  | [], _ => rfl
  | b :: r, j => by rw [ents, List.length_cons, List.length_cons, ents_length r (j + 1)]
theorem ents_get : ∀ (l : List Bl) (j i : Nat) (h : i < l.length), (ents l j)[i]? = some ⟨.agg (ivs .i32 l[i].1), .agg (ivs .u16 l[i].2), j + i⟩
  | b :: r, j, 0, _ => rfl
  | b :: r, j, i + 1, h => by
    rw [ents, List.getElem?_cons_succ, ents_get r (j + 1) i (by simpa using h)]
    simp only [List.getElem_cons_succ]
    rw [show j + 1 + i = j + (i + 1) by omega]
theorem ents_put (key M : List Int) : ∀ (l : List Bl) (i j : Nat),
    (findB key l i = none ∧ ents (putB l key M) j = ents l j ++ [⟨.agg (ivs .i32 key), .agg (ivs .u16 M), j + l.length⟩] ∧ (putB l key M).length = l.length + 1) ∨
    ∃ q v, findB key l i = some (i + q, v) ∧ ((ents l j)[q]?).map (·.key) = some (.agg (ivs .i32 key)) ∧ ents (putB l key M) j = (ents l j).modify q (fun e => { e with key := .agg (ivs .i32 key), val := .agg (ivs .u16 M) }) ∧ (putB l key M).length = l.length
  | [], i, j => .inl ⟨rfl, rfl, rfl⟩
  | b :: r, i, j => by
    rw [findB, putB]
    cases h : key == b.1
    · simp only [Bool.false_eq_true, if_false]
      rcases ents_put key M r (i + 1) (j + 1) with ⟨h1, h2, h3⟩ | ⟨q, v, h1, h2, h3, h4⟩
      · refine .inl ⟨h1, ?_, by rw [List.length_cons, h3, List.length_cons]⟩
        rw [ents, h2, ents, List.cons_append, List.length_cons, show j + 1 + r.length = j + (r.length + 1) by omega]
      · refine .inr ⟨q + 1, v, by rw [h1, show i + 1 + q = i + (q + 1) by omega], by rw [ents, List.getElem?_cons_succ]; exact h2, ?_, by rw [List.length_cons, h4, List.length_cons]⟩
        rw [ents, h3, ents, List.modify_succ_cons]
    · have he : key = b.1 := beq_iff_eq.1 h
      simp only [if_true]
      refine .inr ⟨0, _, rfl, by rw [he]; rfl, ?_, by rw [List.length_cons, List.length_cons]⟩
      rw [ents, ents, List.modify_zero_cons, he]
theorem run_keyStays (a : List Int) (ha : a.length = 2) (W : World) : (Instr.keyThatStays (.agg (ivs .i32 a)) (.agg (ivs .i32 a))).run Tryd.prog W = .ok (.agg (ivs .i32 a)) W := by
  obtain ⟨x, y, rfl⟩ : ∃ x y, a = [x, y] := by
    match a, ha with
    | [x, y], _ => exact ⟨x, y, rfl⟩
  have hs : Instr.sameBits 10000 (.agg (ivs .i32 [x, y])) (.agg (ivs .i32 [x, y])) = true := by
    simp [ivs, Instr.sameBits]
  rw [Instr.keyThatStays, if_pos hs]
  rfl
theorem run_putAny (g : Nat) (l : List Bl) (hl : Bls l) (x y : Int) (M : List Int) (W : World) (h : W.heap[g]? = some (.map (ents l 0).toArray l.length)) :
    (Instr.mapUpdate 68 (.map (some g)) (.agg #[.int .i32 x, .int .i32 y]) (.agg (ivs .u16 M))).run Tryd.prog W = .ok () (ChangeMaps.setBlock W g (.map (ents (putB l [x, y] M) 0).toArray (putB l [x, y] M).length)) := by
  have hf := run_findKey [x, y] rfl l 0 hl W
  have hck : (Instr.checkKey false 10000 63 (.agg #[.int .i32 x, .int .i32 y])).run Tryd.prog W = .ok () W := run_checkCorner false x y W
  have hks := run_keyStays [x, y] rfl W
  have hf' : (Instr.findKey 63 (.agg #[.int .i32 x, .int .i32 y]) (ents l 0)).run Tryd.prog W = .ok (findB [x, y] l 0) W := hf
  have hks' : (Instr.keyThatStays (.agg (ivs .i32 [x, y])) (.agg #[.int .i32 x, .int .i32 y])).run Tryd.prog W = .ok (.agg (ivs .i32 [x, y])) W := hks
  rcases ents_put [x, y] M l 0 0 with ⟨h1, h2, h3⟩ | ⟨q, v, h1, h2, h3, h4⟩
  · rw [h1] at hf'
    have he : (ents (putB l [x, y] M) 0).toArray = (ents l 0).toArray.push ⟨.agg #[.int .i32 x, .int .i32 y], .agg (ivs .u16 M), l.length⟩ := by
      rw [h2, Nat.zero_add]
      simp
      rfl
    rw [he, h3]
    simp [Instr.mapUpdate, run_underlying Tryd.underlying68 W, MapKept.run_getObj_map h, hck, hf', MapKept.run_setObj_map _ h, Result.andThen, ChangeMaps.setBlock]
  · rw [h1, Nat.zero_add] at hf'
    have he : (ents (putB l [x, y] M) 0).toArray = (ents l 0).toArray.modify q (fun e => { e with key := .agg (ivs .i32 [x, y]), val := .agg (ivs .u16 M) }) := by
      rw [h3]
      simp
    rw [he, h4]
    obtain ⟨en, hen, hke⟩ : ∃ en, (ents l 0)[q]? = some en ∧ en.key = .agg (ivs .i32 [x, y]) := by
      cases hq : (ents l 0)[q]? with
      | none => rw [hq] at h2; cases h2
      | some en => rw [hq] at h2; simp only [Option.map_some, Option.some.injEq] at h2; exact ⟨en, rfl, h2⟩
    simp [Instr.mapUpdate, run_underlying Tryd.underlying68 W, MapKept.run_getObj_map h, hck, hf', hen, hke, hks', MapKept.run_setObj_map _ h, Result.andThen, ChangeMaps.setBlock]
/-! ### ranged over -/
/-- block r is an iterator over the map in block g, of n entries; those whose numbers are listed have been handed out -/
def ItAt (w : World) (r g n : Nat) (seen : List Nat) : Prop := ∃ c0, n ≤ c0 ∧ w.heap[r]? = some (.mapIter (some g) n seen.toArray c0) ∧ seen.Nodup ∧ ∀ i ∈ seen, i < n
theorem ents_mem {l : List Bl} {x : MapEntry} (h : x ∈ ents l 0) : ∃ i, ∃ hi : i < l.length, x = ⟨.agg (ivs .i32 l[i].1), .agg (ivs .u16 l[i].2), i⟩ := by
  obtain ⟨i, hi, rfl⟩ := List.getElem_of_mem h
  rw [ents_length] at hi
  refine ⟨i, hi, ?_⟩
  have := ents_get l 0 i hi
  rw [Nat.zero_add, List.getElem?_eq_getElem (by rw [ents_length]; exact hi)] at this
  simpa using this
theorem ents_at {l : List Bl} {i : Nat} (hi : i < l.length) : (⟨.agg (ivs .i32 l[i].1), .agg (ivs .u16 l[i].2), i⟩ : MapEntry) ∈ ents l 0 := by
  have := ents_get l 0 i hi
  rw [Nat.zero_add] at this
  exact List.mem_of_getElem? this
theorem ents_born (l : List Bl) : ∀ j, (ents l j).map (·.born) = List.range' j l.length := by
  induction l with
  | nil => intro j; rfl
  | cons b r ih => intro j; rw [ents, List.map_cons, ih (j + 1), List.length_cons, List.range'_succ]
theorem nodup_full {n : Nat} {seen : List Nat} (hn : seen.Nodup) (hlt : ∀ i ∈ seen, i < n) (hall : ∀ i, i < n → i ∈ seen) : seen.Perm (List.range n) :=
  (List.perm_ext_iff_of_nodup hn List.nodup_range).2 fun i => ⟨fun h => List.mem_range.2 (hlt i h), fun h => hall i (List.mem_range.1 h)⟩
theorem next_blocks (l : List Bl) (W : World) (ty : TypeId) (r g : Nat) (seen : List Nat) (hm : W.heap[g]? = some (.map (ents l 0).toArray l.length)) (hi : ItAt W r g l.length seen) :
    (seen.Perm (List.range l.length) ∧ (Instr.next (.pointer (some ⟨r, 0, none⟩)) false ty).run Tryd.prog W = .ok (.tuple #[.bool false]) W) ∨
    ∃ i, ∃ h : i < l.length, i ∉ seen ∧ ∃ w1, (w1 = W ∨ w1 = W.drew) ∧ (Instr.next (.pointer (some ⟨r, 0, none⟩)) false ty).run Tryd.prog W = .ok (.tuple #[.bool true, .agg (ivs .i32 l[i].1), .agg (ivs .u16 l[i].2)]) (ChangeMaps.setBlock w1 r (.mapIter (some g) l.length (seen ++ [i]).toArray l.length)) := by
  obtain ⟨c0, hc, hr, hnd, hlt⟩ := hi
  rcases run_next_at (P := Tryd.prog) W ty r g l.length c0 seen.toArray (ents l 0).toArray l.length hr hm (fun x hx => by
    obtain ⟨i, hi, rfl⟩ := ents_mem (by simpa using hx)
    exact hi) hc with ⟨h1, h2⟩ | ⟨e, he, w1, h1, h2⟩
  · refine .inl ⟨nodup_full hnd hlt fun i hi => ?_, h2⟩
    have h3 : leftOf (ents l 0).toArray seen.toArray = #[] := Array.eq_empty_of_size_eq_zero h1
    rw [leftOf, Array.filter_eq_empty_iff] at h3
    have h4 := h3 _ (List.mem_toArray.2 (ents_at hi))
    simpa using h4
  · rw [leftOf, Array.toList_filter, List.mem_filter] at he
    obtain ⟨i, hi, rfl⟩ := ents_mem (by simpa using he.1)
    refine .inr ⟨i, hi, by simpa using he.2, w1, h1, ?_⟩
    rw [h2]
    simp
theorem entry_blocks (l : List Bl) (W : World) (r g : Nat) (seen : List Nat) {i : Nat} (hi : i < l.length) (hm : W.heap[g]? = some (.map (ents l 0).toArray l.length)) (hr : W.heap[r]? = some (.mapIter (some g) l.length (seen ++ [i]).toArray l.length)) :
    (Instr.entry (.pointer (some ⟨r, 0, none⟩))).run Tryd.prog W = .ok (.tuple #[.agg (ivs .i32 l[i].1), .agg (ivs .u16 l[i].2)]) W := by
  refine run_entry_at (P := Tryd.prog) W r g l.length seen.toArray (ents l 0).toArray l.length ⟨.agg (ivs .i32 l[i].1), .agg (ivs .u16 l[i].2), i⟩ (by rw [hr]; simp) hm (by simpa using ents_at hi) ?_
  rw [ents_born]
  exact List.nodup_range'
theorem ItAt.step {w : World} {r g n : Nat} {seen : List Nat} {i : Nat} (h : ItAt w r g n seen) (hi : i < n) (hs : i ∉ seen) {w' : World} (hr : w'.heap[r]? = some (.mapIter (some g) n (seen ++ [i]).toArray n)) : ItAt w' r g n (seen ++ [i]) := by
  obtain ⟨c0, hc, _, hnd, hlt⟩ := h
  refine ⟨n, Nat.le_refl _, hr, ?_, fun j hj => ?_⟩
  · rw [List.nodup_append]
    refine ⟨hnd, List.nodup_cons.2 ⟨by simp, List.nodup_nil⟩, fun a ha b hb => ?_⟩
    rw [List.mem_singleton] at hb
    subst hb
    exact fun e => hs (e ▸ ha)
  · rcases List.mem_append.1 hj with hj | hj
    · exact hlt j hj
    · rw [List.mem_singleton] at hj
      omega
theorem ItAt.start {w : World} {r g n : Nat} (h : w.heap[r]? = some (.mapIter (some g) n #[] n)) : ItAt w r g n [] := ⟨n, Nat.le_refl _, h, List.nodup_nil, fun i hi => (by cases hi)⟩
theorem ItAt.keep {w w' : World} {r g n : Nat} {seen : List Nat} (h : ItAt w r g n seen) (hr : w'.heap[r]? = w.heap[r]?) : ItAt w' r g n seen := by
  obtain ⟨c0, hc, h1, h2⟩ := h
  exact ⟨c0, hc, hr.trans h1, h2⟩
theorem ItAt.bound {w : World} {r g n : Nat} {seen : List Nat} (h : ItAt w r g n seen) : seen.length ≤ n := by
  obtain ⟨c0, hc, h1, h2, h3⟩ := h
  have := List.Nodup.length_le_of_subset h2 (l₂ := List.range n) (fun i hi => List.mem_range.2 (h3 i hi))
  rwa [List.length_range] at this
theorem ItAt.lt {w : World} {r g n : Nat} {seen : List Nat} (h : ItAt w r g n seen) : r < w.heap.size := by
  obtain ⟨c0, hc, h1, h2⟩ := h
  rcases Nat.lt_or_ge r w.heap.size with h | h
  · exact h
  · rw [Array.getElem?_eq_none h] at h1; cases h1
/-- how many have been handed out, read off the world: for measures -/
theorem iterSeen_of {w : World} {r g n c : Nat} {s : Array Nat} (h : w.heap[r]? = some (.mapIter (some g) n s c)) : w.iterSeen r = s := by
  unfold World.iterSeen
  rw [h]
theorem ItAt.seen_eq {w : World} {r g n : Nat} {seen : List Nat} (h : ItAt w r g n seen) : (w.iterSeen r).size = seen.length := by
  obtain ⟨c0, hc, h1, h2⟩ := h
  rw [iterSeen_of h1]
  simp
/-- the blocks that have been handed out -/
def seenL (l : List Bl) (seen : List Nat) : List Bl := seen.map fun i => l.getD i ([], [])
theorem seenL_snoc (l : List Bl) (seen : List Nat) {i : Nat} (hi : i < l.length) : seenL l (seen ++ [i]) = seenL l seen ++ [l[i]] := by
  rw [seenL, List.map_append, seenL]
  simp [List.getElem?_eq_getElem hi]
theorem seenL_all {l : List Bl} {seen : List Nat} (h : seen.Perm (List.range l.length)) : (seenL l seen).Perm l := by
  have h1 : (seenL l seen).Perm ((List.range l.length).map fun i => l.getD i ([], [])) := h.map _
  have h2 : ((List.range l.length).map fun i => l.getD i ([], [])) = l := by
    apply List.ext_getElem (by simp)
    intro i h1 h2
    simp [List.getElem?_eq_getElem h2]
  rwa [h2] at h1
theorem seenL_mem {l : List Bl} {seen : List Nat} (h : ∀ i ∈ seen, i < l.length) {b : Bl} (hb : b ∈ seenL l seen) : b ∈ l := by
  obtain ⟨i, hi, rfl⟩ := List.mem_map.1 hb
  have := h i hi
  simp [List.getElem?_eq_getElem this]
end Go.Proofs.YtmagaapdijapiaaDoor
namespace Go.Proofs.YtmagaapdijapiaaDoor
open Go.ChangeShapes Go.WideShapes Go.ChangeAt Go.RowKit
/-- the first rows are those of c -/
def partM (c a : List Int) (y : Nat) : List Int := c.take y ++ a.drop y
theorem partM_zero (c a : List Int) : partM c a 0 = a := rfl
theorem partM_length {c a : List Int} (h : c.length = a.length) (y : Nat) : (partM c a y).length = a.length := by
  rw [partM, List.length_append, List.length_take, List.length_drop]
  omega
theorem partM_all {c a : List Int} {y : Nat} (h : c.length = a.length) (hy : y = a.length) : partM c a y = c := by
  rw [partM, List.drop_eq_nil_of_le (by omega), List.take_of_length_le (by omega), List.append_nil]
theorem partM_at {c a : List Int} (h : c.length = a.length) {y : Nat} (hy : y < a.length) : (partM c a y)[y]'(by rw [partM_length h]; exact hy) = a[y] := by
  have hl : (c.take y).length = y := by rw [List.length_take]; omega
  simp only [partM]
  rw [List.getElem_append_right (by omega), List.getElem_drop]
  congr 1
  omega
theorem partM_set {c a : List Int} (h : c.length = a.length) {y : Nat} (hy : y < a.length) : (partM c a y).set y (c[y]'(by omega)) = partM c a (y + 1) := by
  have hl : (c.take y).length = y := by rw [List.length_take]; omega
  rw [partM, List.set_append_right _ _ (by omega), hl, Nat.sub_self, List.drop_eq_getElem_cons hy, List.set_cons_zero, partM, List.take_succ_eq_append_getElem (by omega), List.append_assoc]
  rfl
theorem partM_getD {c a : List Int} (h : c.length = a.length) {y : Nat} (hy : y < a.length) : (partM c a y).getD y 0 = a.getD y 0 := by
  rw [List.getD_eq_getElem?_getD, List.getElem?_eq_getElem (by rw [partM_length h]; exact hy), partM_at h hy, List.getD_eq_getElem?_getD, List.getElem?_eq_getElem hy]
theorem opM_part {f : Int → Int → Int} {a b : List Int} (ha : a.length = 16) (hb : b.length = 16) {y : Nat} (hy : y < 16) : (partM (opM f a b) a y).set y (f (a.getD y 0) (b.getD y 0)) = partM (opM f a b) a (y + 1) := by
  have hl := opM_length (f := f) ha hb
  rw [← partM_set (by omega) (by omega)]
  congr 1
  simp only [opM, List.getElem_zipWith]
  rw [List.getD_eq_getElem?_getD, List.getElem?_eq_getElem (by omega), List.getD_eq_getElem?_getD, List.getElem?_eq_getElem (by omega)]
  rfl
set_option maxRecDepth 20000 in
theorem sJoinMasks_any (a b : List Int) (ha : a.length = 16) (hb : b.length = 16) (w : World) :
    Calls Tryd.prog 64 #[.agg (ivs .u16 a), .agg (ivs .u16 b)] w fun e w' => e = .returned (.agg (ivs .u16 (opM orF a b))) ∧ Below w.heap.size w w' := by
  have hcl : (opM orF a b).length = a.length := by rw [opM_length ha hb, ha]
  have hat := fun y (hy : y < 16) => opM_part (f := orF) ha hb hy
  have h0 : Blk (((w.alloc (.cells (ivs .u16 a) 44)).alloc (.cells (ivs .u16 b) 44)).alloc (.cells (ivs .u16 zr16) 44)) w.heap.size 44 (ivs .u16 (partM (opM orF a b) a 0)) := ((Blk.newAt rfl rfl).alloc _).alloc _
  have h1 : Blk (((w.alloc (.cells (ivs .u16 a) 44)).alloc (.cells (ivs .u16 b) 44)).alloc (.cells (ivs .u16 zr16) 44)) (w.heap.size + 1) 44 (ivs .u16 b) := (Blk.newAt (by simp) rfl).alloc _
  have h2 : Blk (((w.alloc (.cells (ivs .u16 a) 44)).alloc (.cells (ivs .u16 b) 44)).alloc (.cells (ivs .u16 zr16) 44)) (w.heap.size + 1 + 1) 44 (ivs .u16 zr16) := Blk.newAt (by simp) rfl
  have hB : Below w.heap.size w (((w.alloc (.cells (ivs .u16 a) 44)).alloc (.cells (ivs .u16 b) 44)).alloc (.cells (ivs .u16 zr16) 44)) := (((Below.refl _ _).alloc (Nat.le_refl _) _).alloc (by simp) _).alloc (by simp; omega) _
  have K := Lib.hid (And.intro h0 (And.intro h1 (And.intro h2 hB)))
  have HAT := Lib.hid hat
  have HCL := Lib.hid hcl
  clear h0 h1 h2 hB hat hcl
  generalize opM orF a b = c at *
  go_enter Tryd.func64, Tryd.ntmps64
  go_wp2
  go_loopw [5] (fun i wr => ∃ y : Nat, y ≤ 16 ∧ i = .int .i64 y ∧ Blk wr w.heap.size 44 (ivs .u16 (partM c a y)) ∧ Blk wr (w.heap.size + 1) 44 (ivs .u16 b) ∧ Blk wr (w.heap.size + 1 + 1) 44 (ivs .u16 zr16) ∧ Below w.heap.size w wr) (fun i _ => 16 - (intOf i).toNat)
  case atStart => exact ⟨0, by omega, rfl, K.out.1, K.out.2.1, K.out.2.2.1, K.out.2.2.2⟩
  case round =>
    clear K
    obtain ⟨y, hy, rfl, h0, h1, h2, hbl⟩ := hrel
    by_cases hlt : y < 16
    · have hlt' : (y : Int) < 16 := by omega
      have hya : y < a.length := by omega
      have c0 := h0.getAtG (i := y) (by rw [partM_length HCL.out]; exact hya)
      rw [partM_getD HCL.out hya] at c0
      have c1 := h1.getAtG (i := y) (by omega)
      have f0 := h0.frozen y
      have HS := Lib.hid (HAT.out y hlt)
      obtain ⟨u, hu⟩ : ∃ u, u = a.getD y 0 := ⟨_, rfl⟩
      obtain ⟨v, hv⟩ : ∃ v, v = b.getD y 0 := ⟨_, rfl⟩
      rw [← hu, ← hv] at HS
      rw [← hu] at c0
      rw [← hv] at c1
      have H0 := Lib.hid h0
      have H1 := Lib.hid h1
      have H2 := Lib.hid h2
      have HB := Lib.hid hbl
      clear h0 h1 h2 hbl hu hv
      go_wp2
      go_region
      go_wp2
      refine ⟨⟨y + 1, by omega, by go_num, ?_, ((H1.out.far (p := ⟨w.heap.size, y, none⟩) (show w.heap.size + 1 ≠ w.heap.size by omega) _).drew), ((H2.out.far (p := ⟨w.heap.size, y, none⟩) (show w.heap.size + 1 + 1 ≠ w.heap.size by omega) _).drew), below_drew (HB.out.setCell (p := ⟨w.heap.size, y, none⟩) (Nat.le_refl _) _)⟩, by simp [intOf]; omega⟩
      rw [← HS.out]
      exact (H0.out.setI y (orF u v)).drew
    · obtain rfl : y = 16 := by omega
      rw [partM_all HCL.out ha.symm] at h0
      have hc16 : c.length = 16 := by rw [HCL.out, ha]
      have H0 := Lib.hid h0
      have H2 := Lib.hid h2
      have HB := Lib.hid hbl
      have HC := Lib.hid hc16
      clear h0 h1 h2 hbl hc16 HCL HAT
      go_wp2_with (first
        | refine wpList_load_row rfl _ _ rfl w.heap.size rfl 44 (ivs .u16 c) (0, 0) _ H0.out Tryd.underlying44 rfl (by rw [ivs_size, HC.out]; exact size44) ?_
        | refine wpList_store_row rfl _ _ _ rfl (w.heap.size + 1 + 1) (ivs .u16 c) rfl rfl 44 _ H2.out (by rw [ivs_size, HC.out]; exact size44) (by rw [ivs_size, ivs_size, HC.out]; rfl) ivs_one ?_)
      exact bodyPost_ret (results_cell_row rfl _ _ (w.heap.size + 1 + 1) 44 (ivs .u16 c) (0, 0) _ rfl (H2.out.row _) Tryd.underlying44 rfl (by rw [ivs_size, HC.out]; exact size44)) rfl ⟨rfl, below_setRow HB.out (by omega) _⟩
theorem cJoinMasks_any (x y : Int) (w : World) : Calls Tryd.prog 57 #[.int .u16 x, .int .u16 y] w fun e w' => e = .returned (.int .u16 (orF x y)) ∧ w = w' := by
  go_enter Tryd.func57, Tryd.ntmps57
  go_wp2
  go_ret
  exact ⟨rfl, rfl⟩
set_option maxRecDepth 20000 in
theorem bJoinMasks_any (a b : List Int) (ha : a.length = 16) (hb : b.length = 16) (w : World) :
    Calls Tryd.prog 56 #[.agg (ivs .u16 a), .agg (ivs .u16 b), .func (.func 57) #[] #[]] w fun e w' => e = .returned (.agg (ivs .u16 (opM orF a b))) ∧ Below w.heap.size w w' := by
  have hcl : (opM orF a b).length = a.length := by rw [opM_length ha hb, ha]
  have hat := fun y (hy : y < 16) => opM_part (f := orF) ha hb hy
  have hca := fun x y W => cJoinMasks_any x y W
  have h0 : Blk (((w.alloc (.cells (ivs .u16 a) 44)).alloc (.cells (ivs .u16 b) 44)).alloc (.cells (ivs .u16 zr16) 44)) w.heap.size 44 (ivs .u16 (partM (opM orF a b) a 0)) := ((Blk.newAt rfl rfl).alloc _).alloc _
  have h1 : Blk (((w.alloc (.cells (ivs .u16 a) 44)).alloc (.cells (ivs .u16 b) 44)).alloc (.cells (ivs .u16 zr16) 44)) (w.heap.size + 1) 44 (ivs .u16 b) := (Blk.newAt (by simp) rfl).alloc _
  have h2 : Blk (((w.alloc (.cells (ivs .u16 a) 44)).alloc (.cells (ivs .u16 b) 44)).alloc (.cells (ivs .u16 zr16) 44)) (w.heap.size + 1 + 1) 44 (ivs .u16 zr16) := Blk.newAt (by simp) rfl
  have hB : Below w.heap.size w (((w.alloc (.cells (ivs .u16 a) 44)).alloc (.cells (ivs .u16 b) 44)).alloc (.cells (ivs .u16 zr16) 44)) := (((Below.refl _ _).alloc (Nat.le_refl _) _).alloc (by simp) _).alloc (by simp; omega) _
  have K := Lib.hid (And.intro h0 (And.intro h1 (And.intro h2 hB)))
  have HAT := Lib.hid hat
  have HCL := Lib.hid hcl
  have HCA := Lib.hid hca
  clear h0 h1 h2 hB hat hcl hca
  generalize opM orF a b = c at *
  go_enter Tryd.func56, Tryd.ntmps56
  go_wp2
  go_loopw [8] (fun i wr => ∃ y : Nat, y ≤ 16 ∧ i = .int .i64 y ∧ Blk wr w.heap.size 44 (ivs .u16 (partM c a y)) ∧ Blk wr (w.heap.size + 1) 44 (ivs .u16 b) ∧ Blk wr (w.heap.size + 1 + 1) 44 (ivs .u16 zr16) ∧ Below w.heap.size w wr) (fun i _ => 16 - (intOf i).toNat)
  case atStart => exact ⟨0, by omega, rfl, K.out.1, K.out.2.1, K.out.2.2.1, K.out.2.2.2⟩
  case round =>
    clear K
    obtain ⟨y, hy, rfl, h0, h1, h2, hbl⟩ := hrel
    by_cases hlt : y < 16
    · have hlt' : (y : Int) < 16 := by omega
      have hya : y < a.length := by omega
      have c0 := h0.getAtG (i := y) (by rw [partM_length HCL.out]; exact hya)
      rw [partM_getD HCL.out hya] at c0
      have c1 := h1.getAtG (i := y) (by omega)
      have f0 := h0.frozen y
      have HS := Lib.hid (HAT.out y hlt)
      obtain ⟨u, hu⟩ : ∃ u, u = a.getD y 0 := ⟨_, rfl⟩
      obtain ⟨v, hv⟩ : ∃ v, v = b.getD y 0 := ⟨_, rfl⟩
      rw [← hu, ← hv] at HS
      rw [← hu] at c0
      rw [← hv] at c1
      have H0 := Lib.hid h0
      have H1 := Lib.hid h1
      have H2 := Lib.hid h2
      have HB := Lib.hid hbl
      clear h0 h1 h2 hbl hu hv
      go_wp2
      go_region_with (go_at_call 57; refine (HCA.out _ _ _).mono ?_; rintro e w2 ⟨rfl, rfl⟩)
      all_goals go_wp2
      all_goals refine ⟨⟨y + 1, by omega, by go_num, ?_, ((H1.out.far (p := ⟨w.heap.size, y, none⟩) (show w.heap.size + 1 ≠ w.heap.size by omega) _).drew), ((H2.out.far (p := ⟨w.heap.size, y, none⟩) (show w.heap.size + 1 + 1 ≠ w.heap.size by omega) _).drew), below_drew (HB.out.setCell (p := ⟨w.heap.size, y, none⟩) (Nat.le_refl _) _)⟩, by simp [intOf]; omega⟩
      all_goals rw [← HS.out]
      all_goals exact (H0.out.setI y (orF u v)).drew
    · obtain rfl : y = 16 := by omega
      rw [partM_all HCL.out ha.symm] at h0
      have hc16 : c.length = 16 := by rw [HCL.out, ha]
      have H0 := Lib.hid h0
      have H2 := Lib.hid h2
      have HB := Lib.hid hbl
      have HC := Lib.hid hc16
      clear h0 h1 h2 hbl hc16 HCL HAT HCA
      go_wp2_with (first
        | refine wpList_load_row rfl _ _ rfl w.heap.size rfl 44 (ivs .u16 c) (0, 0) _ H0.out Tryd.underlying44 rfl (by rw [ivs_size, HC.out]; exact size44) ?_
        | refine wpList_store_row rfl _ _ _ rfl (w.heap.size + 1 + 1) (ivs .u16 c) rfl rfl 44 _ H2.out (by rw [ivs_size, HC.out]; exact size44) (by rw [ivs_size, ivs_size, HC.out]; rfl) ivs_one ?_)
      exact bodyPost_ret (results_cell_row rfl _ _ (w.heap.size + 1 + 1) 44 (ivs .u16 c) (0, 0) _ rfl (H2.out.row _) Tryd.underlying44 rfl (by rw [ivs_size, HC.out]; exact size44)) rfl ⟨rfl, below_setRow HB.out (by omega) _⟩
theorem iJoinMasks_any (a b : List Int) (ha : a.length = 16) (hb : b.length = 16) (w : World) :
    Calls Tryd.prog 26 #[.agg (ivs .u16 a), .agg (ivs .u16 b)] w fun e w' => e = .returned (.agg (ivs .u16 (opM orF a b))) ∧ Below w.heap.size w w' := by
  have h0 : Blk (((w.alloc (.cells (ivs .u16 a) 44)).alloc (.cells (ivs .u16 b) 44)).alloc (.cells (ivs .u16 zr16) 44)) w.heap.size 44 (ivs .u16 a) := ((Blk.newAt rfl rfl).alloc _).alloc _
  have h1 : Blk (((w.alloc (.cells (ivs .u16 a) 44)).alloc (.cells (ivs .u16 b) 44)).alloc (.cells (ivs .u16 zr16) 44)) (w.heap.size + 1) 44 (ivs .u16 b) := (Blk.newAt (by simp) rfl).alloc _
  have h2 : Blk (((w.alloc (.cells (ivs .u16 a) 44)).alloc (.cells (ivs .u16 b) 44)).alloc (.cells (ivs .u16 zr16) 44)) (w.heap.size + 1 + 1) 44 (ivs .u16 zr16) := Blk.newAt (by simp) rfl
  have hB : Below w.heap.size w (((w.alloc (.cells (ivs .u16 a) 44)).alloc (.cells (ivs .u16 b) 44)).alloc (.cells (ivs .u16 zr16) 44)) := (((Below.refl _ _).alloc (Nat.le_refl _) _).alloc (by simp) _).alloc (by simp; omega) _
  have HC := Lib.hid (opM_length (f := orF) ha hb)
  have H0 := Lib.hid h0
  have H1 := Lib.hid h1
  have H2 := Lib.hid h2
  have HB := Lib.hid hB
  have HM := Lib.hid (bJoinMasks_any a b ha hb)
  clear h0 h1 h2 hB
  generalize opM orF a b = c at *
  go_enter Tryd.func26, Tryd.ntmps26
  go_wp2_with (first
    | refine wpList_load_row rfl _ _ rfl w.heap.size rfl 44 (ivs .u16 a) (0, 0) _ H0.out Tryd.underlying44 rfl (by rw [ivs_size, ha]; exact size44) ?_
    | refine wpList_load_row rfl _ _ rfl (w.heap.size + 1) rfl 44 (ivs .u16 b) (0, 0) _ H1.out Tryd.underlying44 rfl (by rw [ivs_size, hb]; exact size44) ?_
    | (go_at_call 56; refine (HM.out _).mono ?_; rintro e w2 ⟨rfl, hb2⟩; have H22 := Lib.hid (H2.out.below hb2 H2.out.lt); have HB2 := Lib.hid (HB.out.trans (hb2.mono (by simp only [size_alloc]; omega))); clear hb2)
    | refine wpList_store_row rfl _ _ _ rfl (w.heap.size + 1 + 1) (ivs .u16 c) rfl rfl 44 _ H22.out (by rw [ivs_size, HC.out]; exact size44) (by rw [ivs_size, ivs_size, HC.out]; rfl) ivs_one ?_)
  exact bodyPost_ret (results_cell_row rfl _ _ (w.heap.size + 1 + 1) 44 (ivs .u16 c) (0, 0) _ rfl (H22.out.row _) Tryd.underlying44 rfl (by rw [ivs_size, HC.out]; exact size44)) rfl ⟨rfl, below_setRow HB2.out (by omega) _⟩
theorem cMeetMasks_any (x y : Int) (w : World) : Calls Tryd.prog 58 #[.int .u16 x, .int .u16 y] w fun e w' => e = .returned (.int .u16 (andF x y)) ∧ w = w' := by
  go_enter Tryd.func58, Tryd.ntmps58
  go_wp2
  go_ret
  exact ⟨rfl, rfl⟩
set_option maxRecDepth 20000 in
theorem bMeetMasks_any (a b : List Int) (ha : a.length = 16) (hb : b.length = 16) (w : World) :
    Calls Tryd.prog 56 #[.agg (ivs .u16 a), .agg (ivs .u16 b), .func (.func 58) #[] #[]] w fun e w' => e = .returned (.agg (ivs .u16 (opM andF a b))) ∧ Below w.heap.size w w' := by
  have hcl : (opM andF a b).length = a.length := by rw [opM_length ha hb, ha]
  have hat := fun y (hy : y < 16) => opM_part (f := andF) ha hb hy
  have hca := fun x y W => cMeetMasks_any x y W
  have h0 : Blk (((w.alloc (.cells (ivs .u16 a) 44)).alloc (.cells (ivs .u16 b) 44)).alloc (.cells (ivs .u16 zr16) 44)) w.heap.size 44 (ivs .u16 (partM (opM andF a b) a 0)) := ((Blk.newAt rfl rfl).alloc _).alloc _
  have h1 : Blk (((w.alloc (.cells (ivs .u16 a) 44)).alloc (.cells (ivs .u16 b) 44)).alloc (.cells (ivs .u16 zr16) 44)) (w.heap.size + 1) 44 (ivs .u16 b) := (Blk.newAt (by simp) rfl).alloc _
  have h2 : Blk (((w.alloc (.cells (ivs .u16 a) 44)).alloc (.cells (ivs .u16 b) 44)).alloc (.cells (ivs .u16 zr16) 44)) (w.heap.size + 1 + 1) 44 (ivs .u16 zr16) := Blk.newAt (by simp) rfl
  have hB : Below w.heap.size w (((w.alloc (.cells (ivs .u16 a) 44)).alloc (.cells (ivs .u16 b) 44)).alloc (.cells (ivs .u16 zr16) 44)) := (((Below.refl _ _).alloc (Nat.le_refl _) _).alloc (by simp) _).alloc (by simp; omega) _
  have K := Lib.hid (And.intro h0 (And.intro h1 (And.intro h2 hB)))
  have HAT := Lib.hid hat
  have HCL := Lib.hid hcl
  have HCA := Lib.hid hca
  clear h0 h1 h2 hB hat hcl hca
  generalize opM andF a b = c at *
  go_enter Tryd.func56, Tryd.ntmps56
  go_wp2
  go_loopw [8] (fun i wr => ∃ y : Nat, y ≤ 16 ∧ i = .int .i64 y ∧ Blk wr w.heap.size 44 (ivs .u16 (partM c a y)) ∧ Blk wr (w.heap.size + 1) 44 (ivs .u16 b) ∧ Blk wr (w.heap.size + 1 + 1) 44 (ivs .u16 zr16) ∧ Below w.heap.size w wr) (fun i _ => 16 - (intOf i).toNat)
  case atStart => exact ⟨0, by omega, rfl, K.out.1, K.out.2.1, K.out.2.2.1, K.out.2.2.2⟩
  case round =>
    clear K
    obtain ⟨y, hy, rfl, h0, h1, h2, hbl⟩ := hrel
    by_cases hlt : y < 16
    · have hlt' : (y : Int) < 16 := by omega
      have hya : y < a.length := by omega
      have c0 := h0.getAtG (i := y) (by rw [partM_length HCL.out]; exact hya)
      rw [partM_getD HCL.out hya] at c0
      have c1 := h1.getAtG (i := y) (by omega)
      have f0 := h0.frozen y
      have HS := Lib.hid (HAT.out y hlt)
      obtain ⟨u, hu⟩ : ∃ u, u = a.getD y 0 := ⟨_, rfl⟩
      obtain ⟨v, hv⟩ : ∃ v, v = b.getD y 0 := ⟨_, rfl⟩
      rw [← hu, ← hv] at HS
      rw [← hu] at c0
      rw [← hv] at c1
      have H0 := Lib.hid h0
      have H1 := Lib.hid h1
      have H2 := Lib.hid h2
      have HB := Lib.hid hbl
      clear h0 h1 h2 hbl hu hv
      go_wp2
      go_region_with (go_at_call 58; refine (HCA.out _ _ _).mono ?_; rintro e w2 ⟨rfl, rfl⟩)
      all_goals go_wp2
      all_goals refine ⟨⟨y + 1, by omega, by go_num, ?_, ((H1.out.far (p := ⟨w.heap.size, y, none⟩) (show w.heap.size + 1 ≠ w.heap.size by omega) _).drew), ((H2.out.far (p := ⟨w.heap.size, y, none⟩) (show w.heap.size + 1 + 1 ≠ w.heap.size by omega) _).drew), below_drew (HB.out.setCell (p := ⟨w.heap.size, y, none⟩) (Nat.le_refl _) _)⟩, by simp [intOf]; omega⟩
      all_goals rw [← HS.out]
      all_goals exact (H0.out.setI y (andF u v)).drew
    · obtain rfl : y = 16 := by omega
      rw [partM_all HCL.out ha.symm] at h0
      have hc16 : c.length = 16 := by rw [HCL.out, ha]
      have H0 := Lib.hid h0
      have H2 := Lib.hid h2
      have HB := Lib.hid hbl
      have HC := Lib.hid hc16
      clear h0 h1 h2 hbl hc16 HCL HAT HCA
      go_wp2_with (first
        | refine wpList_load_row rfl _ _ rfl w.heap.size rfl 44 (ivs .u16 c) (0, 0) _ H0.out Tryd.underlying44 rfl (by rw [ivs_size, HC.out]; exact size44) ?_
        | refine wpList_store_row rfl _ _ _ rfl (w.heap.size + 1 + 1) (ivs .u16 c) rfl rfl 44 _ H2.out (by rw [ivs_size, HC.out]; exact size44) (by rw [ivs_size, ivs_size, HC.out]; rfl) ivs_one ?_)
      exact bodyPost_ret (results_cell_row rfl _ _ (w.heap.size + 1 + 1) 44 (ivs .u16 c) (0, 0) _ rfl (H2.out.row _) Tryd.underlying44 rfl (by rw [ivs_size, HC.out]; exact size44)) rfl ⟨rfl, below_setRow HB.out (by omega) _⟩
theorem iMeetMasks_any (a b : List Int) (ha : a.length = 16) (hb : b.length = 16) (w : World) :
    Calls Tryd.prog 27 #[.agg (ivs .u16 a), .agg (ivs .u16 b)] w fun e w' => e = .returned (.agg (ivs .u16 (opM andF a b))) ∧ Below w.heap.size w w' := by
  have h0 : Blk (((w.alloc (.cells (ivs .u16 a) 44)).alloc (.cells (ivs .u16 b) 44)).alloc (.cells (ivs .u16 zr16) 44)) w.heap.size 44 (ivs .u16 a) := ((Blk.newAt rfl rfl).alloc _).alloc _
  have h1 : Blk (((w.alloc (.cells (ivs .u16 a) 44)).alloc (.cells (ivs .u16 b) 44)).alloc (.cells (ivs .u16 zr16) 44)) (w.heap.size + 1) 44 (ivs .u16 b) := (Blk.newAt (by simp) rfl).alloc _
  have h2 : Blk (((w.alloc (.cells (ivs .u16 a) 44)).alloc (.cells (ivs .u16 b) 44)).alloc (.cells (ivs .u16 zr16) 44)) (w.heap.size + 1 + 1) 44 (ivs .u16 zr16) := Blk.newAt (by simp) rfl
  have hB : Below w.heap.size w (((w.alloc (.cells (ivs .u16 a) 44)).alloc (.cells (ivs .u16 b) 44)).alloc (.cells (ivs .u16 zr16) 44)) := (((Below.refl _ _).alloc (Nat.le_refl _) _).alloc (by simp) _).alloc (by simp; omega) _
  have HC := Lib.hid (opM_length (f := andF) ha hb)
  have H0 := Lib.hid h0
  have H1 := Lib.hid h1
  have H2 := Lib.hid h2
  have HB := Lib.hid hB
  have HM := Lib.hid (bMeetMasks_any a b ha hb)
  clear h0 h1 h2 hB
  generalize opM andF a b = c at *
  go_enter Tryd.func27, Tryd.ntmps27
  go_wp2_with (first
    | refine wpList_load_row rfl _ _ rfl w.heap.size rfl 44 (ivs .u16 a) (0, 0) _ H0.out Tryd.underlying44 rfl (by rw [ivs_size, ha]; exact size44) ?_
    | refine wpList_load_row rfl _ _ rfl (w.heap.size + 1) rfl 44 (ivs .u16 b) (0, 0) _ H1.out Tryd.underlying44 rfl (by rw [ivs_size, hb]; exact size44) ?_
    | (go_at_call 56; refine (HM.out _).mono ?_; rintro e w2 ⟨rfl, hb2⟩; have H22 := Lib.hid (H2.out.below hb2 H2.out.lt); have HB2 := Lib.hid (HB.out.trans (hb2.mono (by simp only [size_alloc]; omega))); clear hb2)
    | refine wpList_store_row rfl _ _ _ rfl (w.heap.size + 1 + 1) (ivs .u16 c) rfl rfl 44 _ H22.out (by rw [ivs_size, HC.out]; exact size44) (by rw [ivs_size, ivs_size, HC.out]; rfl) ivs_one ?_)
  exact bodyPost_ret (results_cell_row rfl _ _ (w.heap.size + 1 + 1) 44 (ivs .u16 c) (0, 0) _ rfl (H22.out.row _) Tryd.underlying44 rfl (by rw [ivs_size, HC.out]; exact size44)) rfl ⟨rfl, below_setRow HB2.out (by omega) _⟩
theorem cMinusMasks_any (x y : Int) (w : World) : Calls Tryd.prog 59 #[.int .u16 x, .int .u16 y] w fun e w' => e = .returned (.int .u16 (notF x y)) ∧ w = w' := by
  go_enter Tryd.func59, Tryd.ntmps59
  go_wp2
  go_ret
  exact ⟨rfl, rfl⟩
set_option maxRecDepth 20000 in
theorem bMinusMasks_any (a b : List Int) (ha : a.length = 16) (hb : b.length = 16) (w : World) :
    Calls Tryd.prog 56 #[.agg (ivs .u16 a), .agg (ivs .u16 b), .func (.func 59) #[] #[]] w fun e w' => e = .returned (.agg (ivs .u16 (opM notF a b))) ∧ Below w.heap.size w w' := by
  have hcl : (opM notF a b).length = a.length := by rw [opM_length ha hb, ha]
  have hat := fun y (hy : y < 16) => opM_part (f := notF) ha hb hy
  have hca := fun x y W => cMinusMasks_any x y W
  have h0 : Blk (((w.alloc (.cells (ivs .u16 a) 44)).alloc (.cells (ivs .u16 b) 44)).alloc (.cells (ivs .u16 zr16) 44)) w.heap.size 44 (ivs .u16 (partM (opM notF a b) a 0)) := ((Blk.newAt rfl rfl).alloc _).alloc _
  have h1 : Blk (((w.alloc (.cells (ivs .u16 a) 44)).alloc (.cells (ivs .u16 b) 44)).alloc (.cells (ivs .u16 zr16) 44)) (w.heap.size + 1) 44 (ivs .u16 b) := (Blk.newAt (by simp) rfl).alloc _
  have h2 : Blk (((w.alloc (.cells (ivs .u16 a) 44)).alloc (.cells (ivs .u16 b) 44)).alloc (.cells (ivs .u16 zr16) 44)) (w.heap.size + 1 + 1) 44 (ivs .u16 zr16) := Blk.newAt (by simp) rfl
  have hB : Below w.heap.size w (((w.alloc (.cells (ivs .u16 a) 44)).alloc (.cells (ivs .u16 b) 44)).alloc (.cells (ivs .u16 zr16) 44)) := (((Below.refl _ _).alloc (Nat.le_refl _) _).alloc (by simp) _).alloc (by simp; omega) _
  have K := Lib.hid (And.intro h0 (And.intro h1 (And.intro h2 hB)))
  have HAT := Lib.hid hat
  have HCL := Lib.hid hcl
  have HCA := Lib.hid hca
  clear h0 h1 h2 hB hat hcl hca
  generalize opM notF a b = c at *
  go_enter Tryd.func56, Tryd.ntmps56
  go_wp2
  go_loopw [8] (fun i wr => ∃ y : Nat, y ≤ 16 ∧ i = .int .i64 y ∧ Blk wr w.heap.size 44 (ivs .u16 (partM c a y)) ∧ Blk wr (w.heap.size + 1) 44 (ivs .u16 b) ∧ Blk wr (w.heap.size + 1 + 1) 44 (ivs .u16 zr16) ∧ Below w.heap.size w wr) (fun i _ => 16 - (intOf i).toNat)
  case atStart => exact ⟨0, by omega, rfl, K.out.1, K.out.2.1, K.out.2.2.1, K.out.2.2.2⟩
  case round =>
    clear K
    obtain ⟨y, hy, rfl, h0, h1, h2, hbl⟩ := hrel
    by_cases hlt : y < 16
    · have hlt' : (y : Int) < 16 := by omega
      have hya : y < a.length := by omega
      have c0 := h0.getAtG (i := y) (by rw [partM_length HCL.out]; exact hya)
      rw [partM_getD HCL.out hya] at c0
      have c1 := h1.getAtG (i := y) (by omega)
      have f0 := h0.frozen y
      have HS := Lib.hid (HAT.out y hlt)
      obtain ⟨u, hu⟩ : ∃ u, u = a.getD y 0 := ⟨_, rfl⟩
      obtain ⟨v, hv⟩ : ∃ v, v = b.getD y 0 := ⟨_, rfl⟩
      rw [← hu, ← hv] at HS
      rw [← hu] at c0
      rw [← hv] at c1
      have H0 := Lib.hid h0
      have H1 := Lib.hid h1
      have H2 := Lib.hid h2
      have HB := Lib.hid hbl
      clear h0 h1 h2 hbl hu hv
      go_wp2
      go_region_with (go_at_call 59; refine (HCA.out _ _ _).mono ?_; rintro e w2 ⟨rfl, rfl⟩)
      all_goals go_wp2
      all_goals refine ⟨⟨y + 1, by omega, by go_num, ?_, ((H1.out.far (p := ⟨w.heap.size, y, none⟩) (show w.heap.size + 1 ≠ w.heap.size by omega) _).drew), ((H2.out.far (p := ⟨w.heap.size, y, none⟩) (show w.heap.size + 1 + 1 ≠ w.heap.size by omega) _).drew), below_drew (HB.out.setCell (p := ⟨w.heap.size, y, none⟩) (Nat.le_refl _) _)⟩, by simp [intOf]; omega⟩
      all_goals rw [← HS.out]
      all_goals exact (H0.out.setI y (notF u v)).drew
    · obtain rfl : y = 16 := by omega
      rw [partM_all HCL.out ha.symm] at h0
      have hc16 : c.length = 16 := by rw [HCL.out, ha]
      have H0 := Lib.hid h0
      have H2 := Lib.hid h2
      have HB := Lib.hid hbl
      have HC := Lib.hid hc16
      clear h0 h1 h2 hbl hc16 HCL HAT HCA
      go_wp2_with (first
        | refine wpList_load_row rfl _ _ rfl w.heap.size rfl 44 (ivs .u16 c) (0, 0) _ H0.out Tryd.underlying44 rfl (by rw [ivs_size, HC.out]; exact size44) ?_
        | refine wpList_store_row rfl _ _ _ rfl (w.heap.size + 1 + 1) (ivs .u16 c) rfl rfl 44 _ H2.out (by rw [ivs_size, HC.out]; exact size44) (by rw [ivs_size, ivs_size, HC.out]; rfl) ivs_one ?_)
      exact bodyPost_ret (results_cell_row rfl _ _ (w.heap.size + 1 + 1) 44 (ivs .u16 c) (0, 0) _ rfl (H2.out.row _) Tryd.underlying44 rfl (by rw [ivs_size, HC.out]; exact size44)) rfl ⟨rfl, below_setRow HB.out (by omega) _⟩
theorem iMinusMasks_any (a b : List Int) (ha : a.length = 16) (hb : b.length = 16) (w : World) :
    Calls Tryd.prog 28 #[.agg (ivs .u16 a), .agg (ivs .u16 b)] w fun e w' => e = .returned (.agg (ivs .u16 (opM notF a b))) ∧ Below w.heap.size w w' := by
  have h0 : Blk (((w.alloc (.cells (ivs .u16 a) 44)).alloc (.cells (ivs .u16 b) 44)).alloc (.cells (ivs .u16 zr16) 44)) w.heap.size 44 (ivs .u16 a) := ((Blk.newAt rfl rfl).alloc _).alloc _
  have h1 : Blk (((w.alloc (.cells (ivs .u16 a) 44)).alloc (.cells (ivs .u16 b) 44)).alloc (.cells (ivs .u16 zr16) 44)) (w.heap.size + 1) 44 (ivs .u16 b) := (Blk.newAt (by simp) rfl).alloc _
  have h2 : Blk (((w.alloc (.cells (ivs .u16 a) 44)).alloc (.cells (ivs .u16 b) 44)).alloc (.cells (ivs .u16 zr16) 44)) (w.heap.size + 1 + 1) 44 (ivs .u16 zr16) := Blk.newAt (by simp) rfl
  have hB : Below w.heap.size w (((w.alloc (.cells (ivs .u16 a) 44)).alloc (.cells (ivs .u16 b) 44)).alloc (.cells (ivs .u16 zr16) 44)) := (((Below.refl _ _).alloc (Nat.le_refl _) _).alloc (by simp) _).alloc (by simp; omega) _
  have HC := Lib.hid (opM_length (f := notF) ha hb)
  have H0 := Lib.hid h0
  have H1 := Lib.hid h1
  have H2 := Lib.hid h2
  have HB := Lib.hid hB
  have HM := Lib.hid (bMinusMasks_any a b ha hb)
  clear h0 h1 h2 hB
  generalize opM notF a b = c at *
  go_enter Tryd.func28, Tryd.ntmps28
  go_wp2_with (first
    | refine wpList_load_row rfl _ _ rfl w.heap.size rfl 44 (ivs .u16 a) (0, 0) _ H0.out Tryd.underlying44 rfl (by rw [ivs_size, ha]; exact size44) ?_
    | refine wpList_load_row rfl _ _ rfl (w.heap.size + 1) rfl 44 (ivs .u16 b) (0, 0) _ H1.out Tryd.underlying44 rfl (by rw [ivs_size, hb]; exact size44) ?_
    | (go_at_call 56; refine (HM.out _).mono ?_; rintro e w2 ⟨rfl, hb2⟩; have H22 := Lib.hid (H2.out.below hb2 H2.out.lt); have HB2 := Lib.hid (HB.out.trans (hb2.mono (by simp only [size_alloc]; omega))); clear hb2)
    | refine wpList_store_row rfl _ _ _ rfl (w.heap.size + 1 + 1) (ivs .u16 c) rfl rfl 44 _ H22.out (by rw [ivs_size, HC.out]; exact size44) (by rw [ivs_size, ivs_size, HC.out]; rfl) ivs_one ?_)
  exact bodyPost_ret (results_cell_row rfl _ _ (w.heap.size + 1 + 1) 44 (ivs .u16 c) (0, 0) _ rfl (H22.out.row _) Tryd.underlying44 rfl (by rw [ivs_size, HC.out]; exact size44)) rfl ⟨rfl, below_setRow HB2.out (by omega) _⟩
end Go.Proofs.YtmagaapdijapiaaDoor
