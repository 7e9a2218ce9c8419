/- Two pictures combined: the program's walks. -/
import Derived.Test.YtmagaapdijapiaaRows
import Derived.Test.YtmagaapdijapiaaPw
import Derived.Deep.RegionLaw
namespace Go.Proofs.Ytmagaapdijapiaa
open Go.ChangeShapes Go.WideShapes Go.ChangeAt Go.RowKit
/-- masks made of those of two pictures -/
def mixF (f : Int → Int → Int) (a b : List Bl) (key : List Int) : List Int := opM f (maskAt a key) (maskAt b key)
noncomputable def cmbL (f : Int → Int → Int) (a b : List Bl) : List Bl := if vpB a && vpB b then picR (picOf (mixF f a b)) else []
noncomputable def cmbK (f : Int → Int → Int) (a b : List Bl) : Int := if vpB a && vpB b then picK (picOf (mixF f a b)) else 1
theorem cmbL_length (f : Int → Int → Int) (a b : List Bl) : (cmbL f a b).length ≤ 64 := by
  rw [cmbL]
  split
  · exact picR_length _
  · exact Nat.zero_le _
/-- the table, as far as it has been made -/
def mixT (f : Int → Int → Int) (a b : List Bl) (ks : List (List Int)) (key : List Int) : List Int := if key ∈ ks then mixF f a b key else zr16
theorem mixT_succ {f : Int → Int → Int} {a b lo : List Bl} {ks : List (List Int)} {k M : List Int} (h : ∀ key, maskAt lo key = mixT f a b ks key) (hM : M = mixF f a b k) (key : List Int) : maskAt (putB lo k M) key = mixT f a b (ks ++ [k]) key := by
  rw [putB_mask, mixT, h, mixT]
  by_cases e : key = k
  · rw [if_pos e, if_pos (by simp [e]), hM, e]
  · rw [if_neg e]
    by_cases e2 : key ∈ ks
    · rw [if_pos e2, if_pos (by simp [e2])]
    · rw [if_neg e2, if_neg (by simp [e, e2])]
theorem mixT_all {f : Int → Int → Int} (hf : Way f) {a b lo : List Bl} {ks : List (List Int)} (h : ∀ key, maskAt lo key = mixT f a b ks key) (ha : ∀ c ∈ a, c.1 ∈ ks) (hb : ∀ c ∈ b, c.1 ∈ ks) (key : List Int) : maskAt lo key = mixF f a b key := by
  rw [h, mixT]
  by_cases e : key ∈ ks
  · rw [if_pos e]
  · rw [if_neg e, mixF, maskAt_no (fun c hc (e2 : key = c.1) => e (by rw [e2]; exact ha c hc)), maskAt_no (fun c hc (e2 : key = c.1) => e (by rw [e2]; exact hb c hc)), opM_zero hf]
def keysL (l : List Bl) (seen : List Nat) : List (List Int) := (seenL l seen).map (·.1)
theorem keysL_snoc (l : List Bl) (seen : List Nat) {i : Nat} (hi : i < l.length) : keysL l (seen ++ [i]) = keysL l seen ++ [(l[i]).1] := by rw [keysL, seenL_snoc l seen hi, List.map_append]; rfl
theorem keysL_all {l : List Bl} {seen : List Nat} (h : seen.Perm (List.range l.length)) : ∀ c ∈ l, c.1 ∈ keysL l seen := fun c hc => List.mem_map.2 ⟨c, (seenL_all h).mem_iff.2 hc, rfl⟩
theorem heap_grown {w w' : World} {row : Option Nat} (h : w.grownBy w' row) {g : Nat} {o : Obj} (ho : w.heap[g]? = some o) (hne : some g ≠ row) : w'.heap[g]? = some o := by
  have hlt : g < w.heap.size := by
    rcases Nat.lt_or_ge g w.heap.size with h | h
    · exact h
    · rw [Array.getElem?_eq_none h] at ho; cases ho
  exact (h.block g hlt hne).trans ho
theorem heap_lt {w : World} {g : Nat} {o : Obj} (ho : w.heap[g]? = some o) : g < w.heap.size := by
  rcases Nat.lt_or_ge g w.heap.size with h | h
  · exact h
  · rw [Array.getElem?_eq_none h] at ho; cases ho
theorem heap_below {w w' : World} (h : Below w.heap.size w w') {g : Nat} {o : Obj} (ho : w.heap[g]? = some o) : w'.heap[g]? = some o := (h.block g (heap_lt ho)).trans ho
/-- what the loops hold: the three tables, the iterator -/
structure Three (w wr : World) (g1 g2 go r ri : Nat) (a b it : List Bl) (seen : List Nat) (f : Int → Int → Int) (ks : List (List Int)) : Prop where
  one : wr.heap[g1]? = some (.map (ents a 0).toArray a.length)
  two : wr.heap[g2]? = some (.map (ents b 0).toArray b.length)
  out : ∃ lo, Tab lo ∧ lo.length ≤ ks.length ∧ wr.heap[go]? = some (.map (ents lo 0).toArray lo.length) ∧ ∀ key, maskAt lo key = mixT f a b ks key
  iter : ItAt wr r ri it.length seen
  below : Below w.heap.size w wr
theorem Three.step {w wr w2 w7 : World} {g1 g2 go r ri : Nat} {a b it : List Bl} {seen : List Nat} {f : Int → Int → Int} {ks : List (List Int)} {lo : List Bl} {i : Nat} (h : Three w wr g1 g2 go r ri a b it seen f ks) (h1r : g1 ≠ r) (h2r : g2 ≠ r) (hor : go ≠ r) (h1o : g1 ≠ go) (h2o : g2 ≠ go) (hwr : w.heap.size ≤ r) (hwo : w.heap.size ≤ go)
    (ht : Tab lo) (hlen : lo.length ≤ ks.length) (hout : wr.heap[go]? = some (.map (ents lo 0).toArray lo.length)) (hm : ∀ key, maskAt lo key = mixT f a b ks key)
    (hg : wr.grownBy w2 (some r)) (hit : ItAt w2 r ri it.length (seen ++ [i])) (hb : Below w2.heap.size w2 w7) (_hri : ri ≠ go) {k M : List Int} (hk : k.length = 2) (hM : M.length = 16) (h16 : is16 M) (hMe : M = mixF f a b k) :
    Three w (ChangeMaps.setBlock w7 go (.map (ents (putB lo k M) 0).toArray (putB lo k M).length)) g1 g2 go r ri a b it (seen ++ [i]) f (ks ++ [k]) := by
  have far : ∀ {g : Nat} {o : Obj}, wr.heap[g]? = some o → g ≠ r → g ≠ go → (ChangeMaps.setBlock w7 go (.map (ents (putB lo k M) 0).toArray (putB lo k M).length)).heap[g]? = some o := fun {g o} ho h1 h2 => by
    rw [setBlock_far _ _ _ _ h2]
    exact heap_below hb (heap_grown hg ho (fun e => h1 (by injection e)))
  have hgo : go < w7.heap.size := by
    have h1 := heap_lt hout
    have h2 := hg.size
    have h3 := hb.size
    omega
  refine ⟨far h.one h1r h1o, far h.two h2r h2o, ⟨putB lo k M, ht.put hk hM h16, ?_, setBlock_at _ _ _ hgo, mixT_succ hm hMe⟩, ?_, ?_⟩
  · have := putB_length k M lo
    rw [List.length_append, List.length_singleton]
    omega
  · refine hit.keep ?_
    rw [setBlock_far _ _ _ _ hor.symm]
    exact hb.block r hit.lt
  · have hb2 : Below w.heap.size w w2 := h.below.grown hg h.below.size (fun j e => by cases e; exact hwr)
    exact below_setBlock (hb2.trans (hb.mono hb2.size)) hwo _
theorem range_at {w : World} {g : Nat} {l : List Bl} (h : w.heap[g]? = some (.map (ents l 0).toArray l.length)) : (Instr.range 124 (.map (some g))).run Try.prog w = .ok (.pointer (some ⟨w.heap.size, 0, none⟩)) (w.alloc (.mapIter (some g) l.length #[] l.length)) :=
  run_range_map (P := Try.prog) w 124 _ _ g (ents l 0).toArray l.length Try.underlying124 h
theorem Three.start {w W : World} {g1 g2 go : Nat} {a b it : List Bl} {gi : Nat} {f : Int → Int → Int} {ks : List (List Int)} (h1 : W.heap[g1]? = some (.map (ents a 0).toArray a.length)) (h2 : W.heap[g2]? = some (.map (ents b 0).toArray b.length)) (ho : ∃ lo, Tab lo ∧ lo.length ≤ ks.length ∧ W.heap[go]? = some (.map (ents lo 0).toArray lo.length) ∧ ∀ key, maskAt lo key = mixT f a b ks key) (hb : Below w.heap.size w W) :
    Three w (W.alloc (.mapIter (some gi) it.length #[] it.length)) g1 g2 go W.heap.size gi a b it [] f ks := by
  obtain ⟨lo, t, l1, ho, hm⟩ := ho
  have k : ∀ {g : Nat} {o : Obj}, W.heap[g]? = some o → (W.alloc (.mapIter (some gi) it.length #[] it.length)).heap[g]? = some o := fun {g o} h => (Below.heap_alloc W _ g (heap_lt h)).trans h
  exact ⟨k h1, k h2, ⟨lo, t, l1, k ho, hm⟩, ItAt.start (heap_alloc_new W _), hb.alloc hb.size _⟩
end Go.Proofs.Ytmagaapdijapiaa
