/- Maps from corners to masks: written, and ranged over. -/
import Derived.Test.YtmagaapdijapiaaRows
import Derived.Test.YtmagaapdijapiaaTq
import Derived.Maps.RangeRun
namespace Go.Proofs.Ytmagaapdijapiaa
open Go.ChangeShapes Go.WideShapes Go.ChangeAt Go.RowKit
/-- a mask is put at a corner -/
def putB : List Bl → List Int → List Int → List Bl
  | [], key, M => [(key, M)]
  | b :: r, key, M => if key == b.1 then (b.1, M) :: r else b :: putB r key M
theorem putB_mask (key M k2 : List Int) : ∀ l : List Bl, maskAt (putB l key M) k2 = if k2 = key then M else maskAt l k2
  | [] => by rw [putB, maskAt_cons]
  | b :: r => by
    rw [putB]
    cases h : key == b.1
    · have hne : key ≠ b.1 := beq_eq_false_iff_ne.1 h
      simp only [Bool.false_eq_true, if_false]
      rw [maskAt_cons, maskAt_cons, putB_mask key M k2 r]
      by_cases e : k2 = b.1
      · rw [if_pos e, if_pos e, if_neg (fun e2 => hne (e2.symm.trans e))]
      · rw [if_neg e, if_neg e]
    · have he : key = b.1 := beq_iff_eq.1 h
      simp only [if_true]
      rw [maskAt_cons, maskAt_cons, ← he]
      split <;> rfl
theorem mem_putB {key M : List Int} {c : Bl} : ∀ {l : List Bl}, c ∈ putB l key M → c ∈ l ∨ c = (key, M)
  | [], h => by rw [putB, List.mem_singleton] at h; exact .inr h
  | b :: r, h => by
    rw [putB] at h
    split at h
    · rename_i he
      have he := beq_iff_eq.1 he
      rcases List.mem_cons.1 h with rfl | h
      · exact .inr (by rw [he])
      · exact .inl (List.mem_cons_of_mem _ h)
    · rcases List.mem_cons.1 h with rfl | h
      · exact .inl (List.mem_cons_self ..)
      · rcases mem_putB h with h | h
        · exact .inl (List.mem_cons_of_mem _ h)
        · exact .inr h
theorem putB_apart {key M : List Int} : ∀ {l : List Bl}, Apart l → Apart (putB l key M)
  | [], _ => by rw [putB]; exact List.pairwise_singleton _ _
  | b :: r, h => by
    have h1 := List.pairwise_cons.1 h
    rw [putB]
    split
    · exact List.pairwise_cons.2 ⟨h1.1, h1.2⟩
    · rename_i hne
      refine List.pairwise_cons.2 ⟨fun c hc => ?_, putB_apart h1.2⟩
      rcases mem_putB hc with hc | rfl
      · exact h1.1 c hc
      · exact fun e => hne (beq_iff_eq.2 e.symm)
theorem putB_length (key M : List Int) : ∀ l : List Bl, (putB l key M).length ≤ l.length + 1
  | [] => by simp [putB]
  | b :: r => by
    have := putB_length key M r
    rw [putB]
    split <;> simp <;> omega
/-- what is asked of a table of masks -/
structure Tab (l : List Bl) : Prop where
  bls : Bls l
  m16 : ∀ b ∈ l, is16 b.2
  apart : Apart l
theorem Tab.nil : Tab [] := ⟨fun b hb => (by cases hb), fun b hb => (by cases hb), List.Pairwise.nil⟩
theorem Tab.put {l : List Bl} (h : Tab l) {key M : List Int} (hk : key.length = 2) (hM : M.length = 16) (h16 : is16 M) : Tab (putB l key M) :=
  ⟨fun b hb => by
    rcases mem_putB hb with hb | rfl
    · exact h.bls b hb
    · exact ⟨hk, hM⟩, fun b hb => by
    rcases mem_putB hb with hb | rfl
    · exact h.m16 b hb
    · exact h16, putB_apart h.apart⟩
theorem Tab.of_pic {l : List Bl} (h : Pic l) : Tab l := ⟨h.bls, h.m16, h.apart⟩
theorem Tab.mask {l : List Bl} (h : Tab l) (k : List Int) : (maskAt l k).length = 16 ∧ is16 (maskAt l k) := maskAt_ok h.bls h.m16 k
theorem ents_length : ∀ (l : List Bl) (j : Nat), (ents l j).length = l.length
  | [], _ => rfl
  | b :: r, j => by rw [ents, List.length_cons, List.length_cons, ents_length r (j + 1)]
theorem ents_get : ∀ (l : List Bl) (j i : Nat) (h : i < l.length), (ents l j)[i]? = some ⟨.agg (ivs .i32 l[i].1), .agg (ivs .u16 l[i].2), j + i⟩
  | b :: r, j, 0, _ => rfl
  | b :: r, j, i + 1, h => by
    rw [ents, List.getElem?_cons_succ, ents_get r (j + 1) i (by simpa using h)]
    simp only [List.getElem_cons_succ]
    rw [show j + 1 + i = j + (i + 1) by omega]
theorem ents_put (key M : List Int) : ∀ (l : List Bl) (i j : Nat),
    (findB key l i = none ∧ ents (putB l key M) j = ents l j ++ [⟨.agg (ivs .i32 key), .agg (ivs .u16 M), j + l.length⟩] ∧ (putB l key M).length = l.length + 1) ∨
    ∃ q v, findB key l i = some (i + q, v) ∧ ((ents l j)[q]?).map (·.key) = some (.agg (ivs .i32 key)) ∧ ents (putB l key M) j = (ents l j).modify q (fun e => { e with key := .agg (ivs .i32 key), val := .agg (ivs .u16 M) }) ∧ (putB l key M).length = l.length
  | [], i, j => .inl ⟨rfl, rfl, rfl⟩
  | b :: r, i, j => by
    rw [findB, putB]
    cases h : key == b.1
    · simp only [Bool.false_eq_true, if_false]
      rcases ents_put key M r (i + 1) (j + 1) with ⟨h1, h2, h3⟩ | ⟨q, v, h1, h2, h3, h4⟩
      · refine .inl ⟨h1, ?_, by rw [List.length_cons, h3, List.length_cons]⟩
        rw [ents, h2, ents, List.cons_append, List.length_cons, show j + 1 + r.length = j + (r.length + 1) by omega]
      · refine .inr ⟨q + 1, v, by rw [h1, show i + 1 + q = i + (q + 1) by omega], by rw [ents, List.getElem?_cons_succ]; exact h2, ?_, by rw [List.length_cons, h4, List.length_cons]⟩
        rw [ents, h3, ents, List.modify_succ_cons]
    · have he : key = b.1 := beq_iff_eq.1 h
      simp only [if_true]
      refine .inr ⟨0, _, rfl, by rw [he]; rfl, ?_, by rw [List.length_cons, List.length_cons]⟩
      rw [ents, ents, List.modify_zero_cons, he]
theorem run_keyStays (a : List Int) (ha : a.length = 2) (W : World) : (Instr.keyThatStays (.agg (ivs .i32 a)) (.agg (ivs .i32 a))).run Try.prog W = .ok (.agg (ivs .i32 a)) W := by
  obtain ⟨x, y, rfl⟩ : ∃ x y, a = [x, y] := by
    match a, ha with
    | [x, y], _ => exact ⟨x, y, rfl⟩
  have hs : Instr.sameBits 10000 (.agg (ivs .i32 [x, y])) (.agg (ivs .i32 [x, y])) = true := by
    simp [ivs, Instr.sameBits]
  rw [Instr.keyThatStays, if_pos hs]
  rfl
theorem run_putAny (g : Nat) (l : List Bl) (hl : Bls l) (x y : Int) (M : List Int) (W : World) (h : W.heap[g]? = some (.map (ents l 0).toArray l.length)) :
    (Instr.mapUpdate 124 (.map (some g)) (.agg #[.int .i32 x, .int .i32 y]) (.agg (ivs .u16 M))).run Try.prog W = .ok () (ChangeMaps.setBlock W g (.map (ents (putB l [x, y] M) 0).toArray (putB l [x, y] M).length)) := by
  have hf := run_findKey [x, y] rfl l 0 hl W
  have hck : (Instr.checkKey false 10000 63 (.agg #[.int .i32 x, .int .i32 y])).run Try.prog W = .ok () W := run_checkCorner false x y W
  have hks := run_keyStays [x, y] rfl W
  have hf' : (Instr.findKey 63 (.agg #[.int .i32 x, .int .i32 y]) (ents l 0)).run Try.prog W = .ok (findB [x, y] l 0) W := hf
  have hks' : (Instr.keyThatStays (.agg (ivs .i32 [x, y])) (.agg #[.int .i32 x, .int .i32 y])).run Try.prog W = .ok (.agg (ivs .i32 [x, y])) W := hks
  rcases ents_put [x, y] M l 0 0 with ⟨h1, h2, h3⟩ | ⟨q, v, h1, h2, h3, h4⟩
  · rw [h1] at hf'
    have he : (ents (putB l [x, y] M) 0).toArray = (ents l 0).toArray.push ⟨.agg #[.int .i32 x, .int .i32 y], .agg (ivs .u16 M), l.length⟩ := by
      rw [h2, Nat.zero_add]
      simp
      rfl
    rw [he, h3]
    simp [Instr.mapUpdate, run_underlying Try.underlying124 W, MapKept.run_getObj_map h, hck, hf', MapKept.run_setObj_map _ h, Result.andThen, ChangeMaps.setBlock]
  · rw [h1, Nat.zero_add] at hf'
    have he : (ents (putB l [x, y] M) 0).toArray = (ents l 0).toArray.modify q (fun e => { e with key := .agg (ivs .i32 [x, y]), val := .agg (ivs .u16 M) }) := by
      rw [h3]
      simp
    rw [he, h4]
    obtain ⟨en, hen, hke⟩ : ∃ en, (ents l 0)[q]? = some en ∧ en.key = .agg (ivs .i32 [x, y]) := by
      cases hq : (ents l 0)[q]? with
      | none => rw [hq] at h2; cases h2
      | some en => rw [hq] at h2; simp only [Option.map_some, Option.some.injEq] at h2; exact ⟨en, rfl, h2⟩
    simp [Instr.mapUpdate, run_underlying Try.underlying124 W, MapKept.run_getObj_map h, hck, hf', hen, hke, hks', MapKept.run_setObj_map _ h, Result.andThen, ChangeMaps.setBlock]
/-! ### ranged over -/
/-- block r is an iterator over the map in block g, of n entries; those whose numbers are listed have been handed out -/
def ItAt (w : World) (r g n : Nat) (seen : List Nat) : Prop := ∃ c0, n ≤ c0 ∧ w.heap[r]? = some (.mapIter (some g) n seen.toArray c0) ∧ seen.Nodup ∧ ∀ i ∈ seen, i < n
theorem ents_mem {l : List Bl} {x : MapEntry} (h : x ∈ ents l 0) : ∃ i, ∃ hi : i < l.length, x = ⟨.agg (ivs .i32 l[i].1), .agg (ivs .u16 l[i].2), i⟩ := by
  obtain ⟨i, hi, rfl⟩ := List.getElem_of_mem h
  rw [ents_length] at hi
  refine ⟨i, hi, ?_⟩
  have := ents_get l 0 i hi
  rw [Nat.zero_add, List.getElem?_eq_getElem (by rw [ents_length]; exact hi)] at this
  simpa using this
theorem ents_at {l : List Bl} {i : Nat} (hi : i < l.length) : (⟨.agg (ivs .i32 l[i].1), .agg (ivs .u16 l[i].2), i⟩ : MapEntry) ∈ ents l 0 := by
  have := ents_get l 0 i hi
  rw [Nat.zero_add] at this
  exact List.mem_of_getElem? this
theorem ents_born (l : List Bl) : ∀ j, (ents l j).map (·.born) = List.range' j l.length := by
  induction l with
  | nil => intro j; rfl
  | cons b r ih => intro j; rw [ents, List.map_cons, ih (j + 1), List.length_cons, List.range'_succ]
theorem nodup_full {n : Nat} {seen : List Nat} (hn : seen.Nodup) (hlt : ∀ i ∈ seen, i < n) (hall : ∀ i, i < n → i ∈ seen) : seen.Perm (List.range n) :=
  (List.perm_ext_iff_of_nodup hn List.nodup_range).2 fun i => ⟨fun h => List.mem_range.2 (hlt i h), fun h => hall i (List.mem_range.1 h)⟩
theorem next_blocks (l : List Bl) (W : World) (ty : TypeId) (r g : Nat) (seen : List Nat) (hm : W.heap[g]? = some (.map (ents l 0).toArray l.length)) (hi : ItAt W r g l.length seen) :
    (seen.Perm (List.range l.length) ∧ (Instr.next (.pointer (some ⟨r, 0, none⟩)) false ty).run Try.prog W = .ok (.tuple #[.bool false]) W) ∨
    ∃ i, ∃ h : i < l.length, i ∉ seen ∧ ∃ w1, (w1 = W ∨ w1 = W.drew) ∧ (Instr.next (.pointer (some ⟨r, 0, none⟩)) false ty).run Try.prog W = .ok (.tuple #[.bool true, .agg (ivs .i32 l[i].1), .agg (ivs .u16 l[i].2)]) (ChangeMaps.setBlock w1 r (.mapIter (some g) l.length (seen ++ [i]).toArray l.length)) := by
  obtain ⟨c0, hc, hr, hnd, hlt⟩ := hi
  rcases run_next_at (P := Try.prog) W ty r g l.length c0 seen.toArray (ents l 0).toArray l.length hr hm (fun x hx => by
    obtain ⟨i, hi, rfl⟩ := ents_mem (by simpa using hx)
    exact hi) hc with ⟨h1, h2⟩ | ⟨e, he, w1, h1, h2⟩
  · refine .inl ⟨nodup_full hnd hlt fun i hi => ?_, h2⟩
    have h3 : leftOf (ents l 0).toArray seen.toArray = #[] := Array.eq_empty_of_size_eq_zero h1
    rw [leftOf, Array.filter_eq_empty_iff] at h3
    have h4 := h3 _ (List.mem_toArray.2 (ents_at hi))
    simpa using h4
  · rw [leftOf, Array.toList_filter, List.mem_filter] at he
    obtain ⟨i, hi, rfl⟩ := ents_mem (by simpa using he.1)
    refine .inr ⟨i, hi, by simpa using he.2, w1, h1, ?_⟩
    rw [h2]
    simp
theorem entry_blocks (l : List Bl) (W : World) (r g : Nat) (seen : List Nat) {i : Nat} (hi : i < l.length) (hm : W.heap[g]? = some (.map (ents l 0).toArray l.length)) (hr : W.heap[r]? = some (.mapIter (some g) l.length (seen ++ [i]).toArray l.length)) :
    (Instr.entry (.pointer (some ⟨r, 0, none⟩))).run Try.prog W = .ok (.tuple #[.agg (ivs .i32 l[i].1), .agg (ivs .u16 l[i].2)]) W := by
  refine run_entry_at (P := Try.prog) W r g l.length seen.toArray (ents l 0).toArray l.length ⟨.agg (ivs .i32 l[i].1), .agg (ivs .u16 l[i].2), i⟩ (by rw [hr]; simp) hm (by simpa using ents_at hi) ?_
  rw [ents_born]
  exact List.nodup_range'
theorem ItAt.step {w : World} {r g n : Nat} {seen : List Nat} {i : Nat} (h : ItAt w r g n seen) (hi : i < n) (hs : i ∉ seen) {w' : World} (hr : w'.heap[r]? = some (.mapIter (some g) n (seen ++ [i]).toArray n)) : ItAt w' r g n (seen ++ [i]) := by
  obtain ⟨c0, hc, _, hnd, hlt⟩ := h
  refine ⟨n, Nat.le_refl _, hr, ?_, fun j hj => ?_⟩
  · rw [List.nodup_append]
    refine ⟨hnd, List.nodup_cons.2 ⟨by simp, List.nodup_nil⟩, fun a ha b hb => ?_⟩
    rw [List.mem_singleton] at hb
    subst hb
    exact fun e => hs (e ▸ ha)
  · rcases List.mem_append.1 hj with hj | hj
    · exact hlt j hj
    · rw [List.mem_singleton] at hj
      omega
theorem ItAt.start {w : World} {r g n : Nat} (h : w.heap[r]? = some (.mapIter (some g) n #[] n)) : ItAt w r g n [] := ⟨n, Nat.le_refl _, h, List.nodup_nil, fun i hi => (by cases hi)⟩
theorem ItAt.keep {w w' : World} {r g n : Nat} {seen : List Nat} (h : ItAt w r g n seen) (hr : w'.heap[r]? = w.heap[r]?) : ItAt w' r g n seen := by
  obtain ⟨c0, hc, h1, h2⟩ := h
  exact ⟨c0, hc, hr.trans h1, h2⟩
theorem ItAt.bound {w : World} {r g n : Nat} {seen : List Nat} (h : ItAt w r g n seen) : seen.length ≤ n := by
  obtain ⟨c0, hc, h1, h2, h3⟩ := h
  have := List.Nodup.length_le_of_subset h2 (l₂ := List.range n) (fun i hi => List.mem_range.2 (h3 i hi))
  rwa [List.length_range] at this
theorem ItAt.lt {w : World} {r g n : Nat} {seen : List Nat} (h : ItAt w r g n seen) : r < w.heap.size := by
  obtain ⟨c0, hc, h1, h2⟩ := h
  rcases Nat.lt_or_ge r w.heap.size with h | h
  · exact h
  · rw [Array.getElem?_eq_none h] at h1; cases h1
/-- how many have been handed out, read off the world: for measures -/
theorem iterSeen_of {w : World} {r g n c : Nat} {s : Array Nat} (h : w.heap[r]? = some (.mapIter (some g) n s c)) : w.iterSeen r = s := by
  unfold World.iterSeen
  rw [h]
theorem ItAt.seen_eq {w : World} {r g n : Nat} {seen : List Nat} (h : ItAt w r g n seen) : (w.iterSeen r).size = seen.length := by
  obtain ⟨c0, hc, h1, h2⟩ := h
  rw [iterSeen_of h1]
  simp
/-- the blocks that have been handed out -/
def seenL (l : List Bl) (seen : List Nat) : List Bl := seen.map fun i => l.getD i ([], [])
theorem seenL_snoc (l : List Bl) (seen : List Nat) {i : Nat} (hi : i < l.length) : seenL l (seen ++ [i]) = seenL l seen ++ [l[i]] := by
  rw [seenL, List.map_append, seenL]
  simp [List.getElem?_eq_getElem hi]
theorem seenL_all {l : List Bl} {seen : List Nat} (h : seen.Perm (List.range l.length)) : (seenL l seen).Perm l := by
  have h1 : (seenL l seen).Perm ((List.range l.length).map fun i => l.getD i ([], [])) := h.map _
  have h2 : ((List.range l.length).map fun i => l.getD i ([], [])) = l := by
    apply List.ext_getElem (by simp)
    intro i h1 h2
    simp [List.getElem?_eq_getElem h2]
  rwa [h2] at h1
theorem seenL_mem {l : List Bl} {seen : List Nat} (h : ∀ i ∈ seen, i < l.length) {b : Bl} (hb : b ∈ seenL l seen) : b ∈ l := by
  obtain ⟨i, hi, rfl⟩ := List.mem_map.1 hb
  have := h i hi
  simp [List.getElem?_eq_getElem this]
end Go.Proofs.Ytmagaapdijapiaa
