/- slices.SortFunc on a row that the call owns. -/
import Derived.Test.YtmagaapdijapiaaRows
import Derived.Test.YtmagaapdijapiaaCd
import Derived.Shelf.SlSortCmp.WholeK
namespace Go.Proofs.Ytmagaapdijapiaa
open Go.ChangeShapes Go.WideShapes Go.ChangeAt Go.RowKit Go.Shelf
open Go.Sort (grow putRow putRowK flatK HoldsK SWO PermIn SortedIn putCells mapBlock onCells)
/-- the cells of a list's elements -/
def catV {α : Type} (enc : α → List Value) (l : List α) : List Value := (l.map enc).flatten
section
variable {α : Type} {enc : α → List Value} {k : Nat}
theorem catV_rows (hk : ∀ x, (enc x).length = k) (l : List α) : RowsV k (l.map enc) := fun f hf => by
  obtain ⟨x, _, rfl⟩ := List.mem_map.1 hf
  exact hk x
theorem catV_length (hk : ∀ x, (enc x).length = k) (l : List α) : (catV enc l).length = l.length * k := by
  rw [catV, vflat_length (catV_rows hk l), List.length_map]
end
section
variable {α : Type} [Inhabited α] {enc : α → List Value} {k : Nat}
theorem flatK_eq (hk : ∀ x, (enc x).length = k) (hk0 : 0 < k) (d : Array α) : (flatK enc k d).toList = catV enc d.toList := by
  apply List.ext_getElem?
  intro t
  by_cases ht : t < d.size * k
  · have hq : t / k < d.size := by rw [Nat.div_lt_iff_lt_mul hk0]; exact ht
    have hm : t % k < k := Nat.mod_lt _ hk0
    have e : t / k * k + t % k = t := by rw [Nat.mul_comm]; exact Nat.div_add_mod t k
    have h1 := vflat_get (catV_rows hk d.toList) (i := t / k) (j := t % k) (by simpa using hq) hm
    rw [e] at h1
    rw [catV, h1]
    have hd : d[t / k]! = d[t / k] := getElem!_pos d _ hq
    have hv : (enc d[t / k]!)[t % k]! = (enc d[t / k])[t % k]'(by rw [hk]; exact hm) := by rw [hd]; exact getElem!_pos _ _ (by rw [hk]; exact hm)
    rw [Array.getElem?_toList, Array.getElem?_eq_getElem (by simpa using ht)]
    simp only [List.getElem_map, Array.getElem_toList]
    rw [List.getElem?_eq_getElem (by rw [hk]; exact hm), ← hv]
    simp [flatK]
  · rw [List.getElem?_eq_none (by simpa using Nat.le_of_not_lt ht), List.getElem?_eq_none (by rw [catV_length hk]; simpa using Nat.le_of_not_lt ht)]
theorem flatK_get (hk : ∀ x, (enc x).length = k) (hk0 : 0 < k) (d : Array α) {j : Nat} (hj : j < (flatK enc k d).size) : (catV enc d.toList)[j]? = some (flatK enc k d)[j]! := by
  rw [← flatK_eq hk hk0, Array.getElem?_toList, Array.getElem?_eq_getElem hj, getElem!_pos (flatK enc k d) j hj]
section
variable {w : World} {lo hi g n c : Nat} {e : TypeId}
theorem holdsK_of_own (hk : ∀ x, (enc x).length = k) (hk0 : 0 < k) (d : Array α) (h : Own w lo hi e k (some ⟨g, 0, none⟩) n c (catV enc d.toList)) : HoldsK enc k w g 0 d := fun j hj => by
  rw [Nat.zero_add]
  exact h.cellV (flatK_get hk hk0 d hj)
theorem putCells_at (F cur : Array Value) {i : Nat} {xs : List Value} (hF : F.toList = xs) (hi : i < F.size) (hc : i < cur.size) : (putCells id 0 F cur)[i]? = xs[i]? := by
  subst hF
  simp only [putCells, Array.getElem?_mapIdx, Array.getElem?_eq_getElem hc, Option.map_some]
  rw [if_pos ⟨Nat.zero_le _, by omega⟩, Nat.sub_zero, Array.getElem?_toList, Array.getElem?_eq_getElem hi, getElem!_pos F i hi]
  rfl
theorem heap_sorted {m : Nat} {F : Array Value} {os : Array Obj} (j : Nat) (hj : j < w.heap.size) : (grow (putRow id (Go.Sort.ahead w m) g 0 F) os).heap[j]? = if g = j then (w.heap[j]?).map (onCells (putCells id 0 F)) else w.heap[j]? := by
  rw [Go.Sort.heap_grow_old _ _ (by simp [putRow, mapBlock, Go.Sort.ahead]; exact hj)]
  simp only [putRow, mapBlock, Go.Sort.ahead, Array.getElem?_modify]
theorem own_of_sorted (hk : ∀ x, (enc x).length = k) (hk0 : 0 < k) {xs : List Value} (d' : Array α) (hs : d'.size = n) (h : Own w lo hi e k (some ⟨g, 0, none⟩) n c xs) (m : Nat) (os : Array Obj) :
    Own (sortWorldK enc k w g 0 m d' os) lo hi e k (some ⟨g, 0, none⟩) n c (catV enc d'.toList) ∧ Below lo w (sortWorldK enc k w g 0 m d' os) := by
  have hlen : (catV enc d'.toList).length = n * k := by rw [catV_length hk, Array.length_toList, hs]
  rcases h.2 with ⟨h, _⟩ | ⟨g', cur, h1, h2, h3, h4, h5, h6, h7, h8⟩
  · cases h
  · cases h1
    have hg : g < w.heap.size := h4.lt
    refine ⟨⟨hlen, .inr ⟨g, putCells id 0 (flatK enc k d') cur, rfl, h2, h3, ?_, h5, h6, by simp [putCells, h7], ?_⟩⟩, rfl, rfl, rfl, ?_, fun i hi => ?_⟩
    · show (sortWorldK enc k w g 0 m d' os).heap[g]? = _
      unfold sortWorldK putRowK
      rw [heap_sorted g hg, if_pos rfl, show w.heap[g]? = _ from h4]
      rfl
    · apply List.ext_getElem?
      intro i
      rw [List.getElem?_take]
      by_cases hi : i < n * k
      · rw [if_pos hi, Array.getElem?_toList, putCells_at _ _ (flatK_eq hk hk0 d') (by rw [Go.Sort.size_flatK, hs]; exact hi) (by rw [h7]; exact Nat.lt_of_lt_of_le hi (Nat.mul_le_mul_right k h5))]
      · rw [if_neg hi, List.getElem?_eq_none (by omega)]
    · unfold sortWorldK putRowK
      simp [putRow, mapBlock, Go.Sort.ahead]
    · unfold sortWorldK putRowK
      rw [heap_sorted i (by omega), if_neg (by omega)]
end
theorem sorted_perm {d d' : Array α} (h : PermIn 0 d.size d d') : d'.size = d.size ∧ d'.toList.Perm d.toList := by
  obtain ⟨hs, _, hp⟩ := h
  refine ⟨hs, ?_⟩
  have e1 : d'.extract 0 d.size = d' := by rw [← hs]; exact Array.extract_size
  have e2 : d.extract 0 d.size = d := Array.extract_size
  rw [e1, e2] at hp
  exact hp
theorem sorted_pairs {lt : α → α → Bool} {d' : Array α} {n : Nat} (hs : d'.size = n) (h : SortedIn lt 0 n d') : d'.toList.Pairwise fun x y => lt y x = false := by
  rw [List.pairwise_iff_getElem]
  intro i j hi hj hij
  have hi' : i < d'.size := by simpa using hi
  have hj' : j < d'.size := by simpa using hj
  have := h i j (Nat.zero_le _) hij (by omega)
  rwa [getElem!_pos d' i hi', getElem!_pos d' j hj'] at this
/-- what SortFunc gives on a row of the call's own -/
def GivesSorted (enc : α → List Value) (k : Nat) (lt : α → α → Bool) (l : List α) (lo hi : Nat) (e : TypeId) (g c : Nat) (w : World) (en : Ending) (w' : World) : Prop :=
  en = .returned (.tuple #[]) ∧ ∃ l' : List α, l'.Perm l ∧ (l'.Pairwise fun x y => lt y x = false) ∧ Own w' lo hi e k (some ⟨g, 0, none⟩) l.length c (catV enc l') ∧ Below lo w w'
theorem sort_own {P : Program} {ρ : Ren} (L : SlLaysF0.n6 P ρ) (hk0 : 0 < k) (aE : ∀ w, (isAgg (ρ.t 24)).run P w = .ok true w) (zE : ∀ w, (Go.sizeOf (ρ.t 24)).run P w = .ok k w) (hk : ∀ x, (enc x).length = k) (h1 : ∀ x, ∀ v ∈ enc x, v.oneCell' = true) (cf : α → α → Int) (hO : SWO (ltOf cf)) (gf : Nat)
    (eg : ∀ args w, (callFunc gf args).run P w = .ok (.enter gf args) w) (hcmp : ∀ (W : World) (x y : α), Calls P gf #[.agg (enc x).toArray, .agg (enc y).toArray] W fun e w' => e = .returned (.int .i64 (cf x y)) ∧ ∃ q os', w' = grow (W.drewN q) os')
    {w : World} {lo hi g n c : Nat} {e : TypeId} (l : List α) (hl : l.length = n) (ho : Own w lo hi e k (some ⟨g, 0, none⟩) n c (catV enc l)) (hn : n < 4611686018427387904) :
    Calls P (ρ.f 6) #[.slice (some ⟨g, 0, none⟩) n c, .func (.func gf) #[] #[]] w (GivesSorted enc k (ltOf cf) l lo hi e g c w) := by
  subst hl
  have hg : g < w.heap.size := by
    rcases ho.2 with ⟨h, _⟩ | ⟨g', cur, h1, h2, h3, h4, h5⟩
    · cases h
    · cases h1
      exact h4.lt
  have hx := AnyQ.slices_SortFunc L k aE zE enc hk h1 cf hO gf #[] g 0 c l.toArray w eg (fun m os dk _ x y => hcmp _ x y) (holdsK_of_own hk hk0 l.toArray ho) hg (by simpa using hn)
  have hsz : l.toArray.size = l.length := List.size_toArray
  rw [hsz] at hx
  refine hx.mono ?_
  rintro en w' ⟨rfl, d', m, os, hp, hs, rfl⟩
  rw [← hsz] at hp hs
  obtain ⟨h2, h3⟩ := sorted_perm hp
  obtain ⟨o1, o2⟩ := own_of_sorted hk hk0 d' (h2.trans hsz) ho m os
  exact ⟨rfl, d'.toList, h3, sorted_pairs h2 hs, o1, o2⟩
end
/-- a world that has only grown, or drawn -/
def Grew (w w' : World) : Prop := ∃ (q : Nat) (os : Array Obj), w' = grow (w.drewN q) os
theorem Grew.refl (w : World) : Grew w w := ⟨0, #[], by rw [Go.Sort.grow_empty]; rfl⟩
theorem Grew.alloc {w w' : World} (h : Grew w w') (o : Obj) : Grew w (w'.alloc o) := by
  obtain ⟨q, os, rfl⟩ := h
  exact ⟨q, os ++ #[o], by rw [Go.Sort.alloc_eq_grow, Go.Sort.grow_grow]⟩
theorem Grew.drewN {w w' : World} (h : Grew w w') (m : Nat) : Grew w (w'.drewN m) := by
  obtain ⟨q, os, rfl⟩ := h
  refine ⟨q + m, os, ?_⟩
  simp only [grow, World.drewN]
  rw [Nat.add_assoc]
theorem Grew.drew {w w' : World} (h : Grew w w') : Grew w w'.drew := h.drewN 1
theorem Grew.trans {a b c : World} (h : Grew a b) (h2 : Grew b c) : Grew a c := by
  obtain ⟨q, os, rfl⟩ := h2
  obtain ⟨q', os', hq⟩ := h.drewN q
  exact ⟨q', os' ++ os, by rw [hq, Go.Sort.grow_grow]⟩
end Go.Proofs.Ytmagaapdijapiaa
